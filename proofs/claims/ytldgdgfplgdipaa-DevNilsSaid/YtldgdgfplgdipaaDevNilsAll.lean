/-
  Texts of one claim, joined: DevNilsW.
-/
import Derived.Test.YtldgdgfplgdipaaLaw16G
namespace Go.Proofs.Ytldgdgfplgdipaa.devNils
open Go.RowKit Go.Maps DevW Law16
set_option linter.unusedVariables false
set_option linter.unusedSimpArgs false
attribute [local go_sem ↓] ldPage_fold stPage_fold bdPage_fold alPage_fold
set_option maxRecDepth 100000 in
set_option maxHeartbeats 1000000 in
theorem walk_ops (act no v : Int) (A : Option Addr) (n c : Nat) (P : Option Addr) (m pc : Nat) (lg : Int) (w : World) (h0 : 0 ≤ act) (h6 : act ≤ 6) :
    Calls Try.prog 3 #[.agg #[.int .i64 act, .int .i64 no, .int .i64 v, .slice A n c, .slice P m pc, .int .i64 lg]] w fun e w' => e = .returned (.bool true) ∧ Below w.heap.size w w' := by
  have d0 : decide (0 ≤ act) = true := by simpa using h0
  have d1 : decide (act ≤ 6) = true := by simpa using h6
  have HE : Hid (DevP.nilErr act = 4) := Lib.hid (by unfold DevP.nilErr; first | rw [if_pos (by omega)] | rw [if_neg (by omega)])
  have hz : (SlotP.zeros 512).length = 512 := List.length_replicate
  have hal := fun W => run_al (P := Try.prog) arrPage W
  have hbd := fun W => run_bd (P := Try.prog) arrPage W
  have harr := fun W => run_arr_eq (P := Try.prog) arrPage (SlotP.zeros 512) (SlotP.zeros 512) hz hz W
  rw [beq_self_eq_true] at harr
  obtain ⟨W0, hW0⟩ : ∃ W, w.alloc (.cells #[.int .i64 act, .int .i64 no, .int .i64 v, .slice A n c, .slice P m pc, .int .i64 lg] 27) = W := ⟨_, rfl⟩
  obtain ⟨HS0, HB0, hw0, hz0⟩ := new1 hW0
  have f0 := str6 HS0.out
  have hl0 := HS0.out.lt
  clear hz0
  go_enter Try.func3, Try.ntmps3
  go_wp2_with fail
  refine (do_nil act no v A n c P m pc lg W0).mono ?_
  rintro r W1 ⟨rfl, hb1⟩
  rw [HE.out]
  have HS1 := Lib.hid (HS0.out.next hb1)
  have HB1 := Lib.hid (bstep HB0.out hb1)
  clear hb1 f0 hl0 HS0
  obtain ⟨W2, hW2⟩ : ∃ W, (W1.alloc (.cells (rowV (SlotP.zeros 512)) 30)).setRow W1.heap.size (rowV (SlotP.zeros 512)) = W := ⟨_, rfl⟩
  have hst := run_st (P := Try.prog) arrPage (Str.new W1 (rowV (SlotP.zeros 512)) 30) (by rw [rowV_size]; exact hz) hz
  rw [hW2] at hst
  have HP2 : Hid (Str W2 W1.heap.size (rowV (SlotP.zeros 512))) := Lib.hid (by rw [← hW2]; exact (Str.new W1 _ _).setRow)
  have hb2 : Below W1.heap.size W1 W2 := by rw [← hW2]; exact below_setRow (balloc (bsame _) _) (Nat.le_refl _) _
  have HS2 := Lib.hid (HS1.out.next hb2)
  have HB2 := Lib.hid (bstep HB1.out hb2)
  have f2 := str6 HS2.out
  have hl2 := HS2.out.lt
  have hld := run_ld (P := Try.prog) arrPage HP2.out hz
  have hlp := HP2.out.lt
  clear hW2 hb2 HS1
  go_wp2_with fail
  refine (Log_nil W2).mono ?_
  rintro r W3 ⟨rfl, hb3⟩
  have HB3 := Lib.hid (bstep HB2.out hb3)
  clear hb3 f2 hl2 hld hlp
  go_wp2_with fail
  refine (head_nil W3).mono ?_
  rintro r W4 ⟨rfl, hb4⟩
  have HB4 := Lib.hid (bstep HB3.out hb4)
  clear hb4
  go_wp2_with fail
  refine (end_nil W4).mono ?_
  rintro r W5 ⟨rfl, hb5⟩
  have HB5 := Lib.hid (bstep HB4.out hb5)
  clear hb5
  go_wp2_with fail
  refine (pages_nil W5).mono ?_
  rintro r W6 ⟨rfl, hb6⟩
  have HB6 := Lib.hid (bstep HB5.out hb6)
  clear hb6
  go_wp2_with fail
  refine (ops_nil W6).mono ?_
  rintro r W7 ⟨rfl, hb7⟩
  have HB7 := Lib.hid (bstep HB6.out hb7)
  clear hb7
  go_wp2_with fail
  refine (live_any W7).mono ?_
  rintro r W8 ⟨rfl, hb8⟩
  have HB8 := Lib.hid (bstep HB7.out hb8)
  clear hb8
  go_wp2
  go_ret
  exact ⟨rfl, HB8.out⟩
set_option maxRecDepth 100000 in
set_option maxHeartbeats 1000000 in
theorem walk_low (act no v : Int) (A : Option Addr) (n c : Nat) (P : Option Addr) (m pc : Nat) (lg : Int) (w : World) (h0 : act < 0) :
    Calls Try.prog 3 #[.agg #[.int .i64 act, .int .i64 no, .int .i64 v, .slice A n c, .slice P m pc, .int .i64 lg]] w fun e w' => e = .returned (.bool true) ∧ Below w.heap.size w w' := by
  have d0 : decide (0 ≤ act) = false := by simp; omega
  have HE : Hid (DevP.nilErr act = 0) := Lib.hid (by unfold DevP.nilErr; first | rw [if_pos (by omega)] | rw [if_neg (by omega)])
  have hz : (SlotP.zeros 512).length = 512 := List.length_replicate
  have hal := fun W => run_al (P := Try.prog) arrPage W
  have hbd := fun W => run_bd (P := Try.prog) arrPage W
  have harr := fun W => run_arr_eq (P := Try.prog) arrPage (SlotP.zeros 512) (SlotP.zeros 512) hz hz W
  rw [beq_self_eq_true] at harr
  obtain ⟨W0, hW0⟩ : ∃ W, w.alloc (.cells #[.int .i64 act, .int .i64 no, .int .i64 v, .slice A n c, .slice P m pc, .int .i64 lg] 27) = W := ⟨_, rfl⟩
  obtain ⟨HS0, HB0, hw0, hz0⟩ := new1 hW0
  have f0 := str6 HS0.out
  have hl0 := HS0.out.lt
  clear hz0
  go_enter Try.func3, Try.ntmps3
  go_wp2_with fail
  refine (do_nil act no v A n c P m pc lg W0).mono ?_
  rintro r W1 ⟨rfl, hb1⟩
  rw [HE.out]
  have HS1 := Lib.hid (HS0.out.next hb1)
  have HB1 := Lib.hid (bstep HB0.out hb1)
  clear hb1 f0 hl0 HS0
  obtain ⟨W2, hW2⟩ : ∃ W, (W1.alloc (.cells (rowV (SlotP.zeros 512)) 30)).setRow W1.heap.size (rowV (SlotP.zeros 512)) = W := ⟨_, rfl⟩
  have hst := run_st (P := Try.prog) arrPage (Str.new W1 (rowV (SlotP.zeros 512)) 30) (by rw [rowV_size]; exact hz) hz
  rw [hW2] at hst
  have HP2 : Hid (Str W2 W1.heap.size (rowV (SlotP.zeros 512))) := Lib.hid (by rw [← hW2]; exact (Str.new W1 _ _).setRow)
  have hb2 : Below W1.heap.size W1 W2 := by rw [← hW2]; exact below_setRow (balloc (bsame _) _) (Nat.le_refl _) _
  have HS2 := Lib.hid (HS1.out.next hb2)
  have HB2 := Lib.hid (bstep HB1.out hb2)
  have f2 := str6 HS2.out
  have hl2 := HS2.out.lt
  have hld := run_ld (P := Try.prog) arrPage HP2.out hz
  have hlp := HP2.out.lt
  clear hW2 hb2 HS1
  go_wp2_with fail
  refine (Log_nil W2).mono ?_
  rintro r W3 ⟨rfl, hb3⟩
  have HB3 := Lib.hid (bstep HB2.out hb3)
  clear hb3 f2 hl2 hld hlp
  go_wp2_with fail
  refine (head_nil W3).mono ?_
  rintro r W4 ⟨rfl, hb4⟩
  have HB4 := Lib.hid (bstep HB3.out hb4)
  clear hb4
  go_wp2_with fail
  refine (end_nil W4).mono ?_
  rintro r W5 ⟨rfl, hb5⟩
  have HB5 := Lib.hid (bstep HB4.out hb5)
  clear hb5
  go_wp2_with fail
  refine (pages_nil W5).mono ?_
  rintro r W6 ⟨rfl, hb6⟩
  have HB6 := Lib.hid (bstep HB5.out hb6)
  clear hb6
  go_wp2_with fail
  refine (ops_nil W6).mono ?_
  rintro r W7 ⟨rfl, hb7⟩
  have HB7 := Lib.hid (bstep HB6.out hb7)
  clear hb7
  go_wp2_with fail
  refine (live_any W7).mono ?_
  rintro r W8 ⟨rfl, hb8⟩
  have HB8 := Lib.hid (bstep HB7.out hb8)
  clear hb8
  go_wp2
  go_ret
  exact ⟨rfl, HB8.out⟩
set_option maxRecDepth 100000 in
set_option maxHeartbeats 1000000 in
theorem walk_high (act no v : Int) (A : Option Addr) (n c : Nat) (P : Option Addr) (m pc : Nat) (lg : Int) (w : World) (h0 : 6 < act) :
    Calls Try.prog 3 #[.agg #[.int .i64 act, .int .i64 no, .int .i64 v, .slice A n c, .slice P m pc, .int .i64 lg]] w fun e w' => e = .returned (.bool true) ∧ Below w.heap.size w w' := by
  have d0 : decide (0 ≤ act) = true := by simp; omega
  have d1 : decide (act ≤ 6) = false := by simp; omega
  have HE : Hid (DevP.nilErr act = 0) := Lib.hid (by unfold DevP.nilErr; first | rw [if_pos (by omega)] | rw [if_neg (by omega)])
  have hz : (SlotP.zeros 512).length = 512 := List.length_replicate
  have hal := fun W => run_al (P := Try.prog) arrPage W
  have hbd := fun W => run_bd (P := Try.prog) arrPage W
  have harr := fun W => run_arr_eq (P := Try.prog) arrPage (SlotP.zeros 512) (SlotP.zeros 512) hz hz W
  rw [beq_self_eq_true] at harr
  obtain ⟨W0, hW0⟩ : ∃ W, w.alloc (.cells #[.int .i64 act, .int .i64 no, .int .i64 v, .slice A n c, .slice P m pc, .int .i64 lg] 27) = W := ⟨_, rfl⟩
  obtain ⟨HS0, HB0, hw0, hz0⟩ := new1 hW0
  have f0 := str6 HS0.out
  have hl0 := HS0.out.lt
  clear hz0
  go_enter Try.func3, Try.ntmps3
  go_wp2_with fail
  refine (do_nil act no v A n c P m pc lg W0).mono ?_
  rintro r W1 ⟨rfl, hb1⟩
  rw [HE.out]
  have HS1 := Lib.hid (HS0.out.next hb1)
  have HB1 := Lib.hid (bstep HB0.out hb1)
  clear hb1 f0 hl0 HS0
  obtain ⟨W2, hW2⟩ : ∃ W, (W1.alloc (.cells (rowV (SlotP.zeros 512)) 30)).setRow W1.heap.size (rowV (SlotP.zeros 512)) = W := ⟨_, rfl⟩
  have hst := run_st (P := Try.prog) arrPage (Str.new W1 (rowV (SlotP.zeros 512)) 30) (by rw [rowV_size]; exact hz) hz
  rw [hW2] at hst
  have HP2 : Hid (Str W2 W1.heap.size (rowV (SlotP.zeros 512))) := Lib.hid (by rw [← hW2]; exact (Str.new W1 _ _).setRow)
  have hb2 : Below W1.heap.size W1 W2 := by rw [← hW2]; exact below_setRow (balloc (bsame _) _) (Nat.le_refl _) _
  have HS2 := Lib.hid (HS1.out.next hb2)
  have HB2 := Lib.hid (bstep HB1.out hb2)
  have f2 := str6 HS2.out
  have hl2 := HS2.out.lt
  have hld := run_ld (P := Try.prog) arrPage HP2.out hz
  have hlp := HP2.out.lt
  clear hW2 hb2 HS1
  go_wp2_with fail
  refine (Log_nil W2).mono ?_
  rintro r W3 ⟨rfl, hb3⟩
  have HB3 := Lib.hid (bstep HB2.out hb3)
  clear hb3 f2 hl2 hld hlp
  go_wp2_with fail
  refine (head_nil W3).mono ?_
  rintro r W4 ⟨rfl, hb4⟩
  have HB4 := Lib.hid (bstep HB3.out hb4)
  clear hb4
  go_wp2_with fail
  refine (end_nil W4).mono ?_
  rintro r W5 ⟨rfl, hb5⟩
  have HB5 := Lib.hid (bstep HB4.out hb5)
  clear hb5
  go_wp2_with fail
  refine (pages_nil W5).mono ?_
  rintro r W6 ⟨rfl, hb6⟩
  have HB6 := Lib.hid (bstep HB5.out hb6)
  clear hb6
  go_wp2_with fail
  refine (ops_nil W6).mono ?_
  rintro r W7 ⟨rfl, hb7⟩
  have HB7 := Lib.hid (bstep HB6.out hb7)
  clear hb7
  go_wp2_with fail
  refine (live_any W7).mono ?_
  rintro r W8 ⟨rfl, hb8⟩
  have HB8 := Lib.hid (bstep HB7.out hb8)
  clear hb8
  go_wp2
  go_ret
  exact ⟨rfl, HB8.out⟩
theorem walk (v0 : Value) (a0 : StepD) (w : World) (g0 : RStepD w w.heap.size v0 a0) : Calls Try.prog 3 #[v0] w fun e w' => e = .returned (.bool true) ∧ Below w.heap.size w w' := by
  obtain ⟨A, n, c, P, pc, rfl, -⟩ := g0
  by_cases h0 : a0.act < 0
  · exact walk_low _ _ _ _ _ _ _ _ _ _ w h0
  · by_cases h6 : 6 < a0.act
    · exact walk_high _ _ _ _ _ _ _ _ _ _ w h6
    · exact walk_ops _ _ _ _ _ _ _ _ _ _ w (by omega) (by omega)
end Go.Proofs.Ytldgdgfplgdipaa.devNils
