/-
  Parts of the proof of PlanGrows.
-/
import Derived.Test.YtpklclnehlgcpaaGreatProg
import Derived.Test.YtpklclnehlgcpaaGreatPlanG1
import Derived.Test.YtpklclnehlgcpaaGreatPlanG0
import Derived.Test.YtpklclnehlgcpaaGreatPlanG8
import Derived.Test.YtpklclnehlgcpaaGreatPlanG2
import Derived.Laws.StructEq
import Derived.Test.YtpklclnehlgcpaaGreatPlanG7
section
namespace Go.Proofs.YtpklclnehlgcpaaGreat.NumW
open Go.RowKit

theorem val_no (l : List UInt8) (a width : Nat) (h : ¬ a + width ≤ l.length) : NumP.val l a width = 0 := by simp [NumP.val, h]
theorem val_yes (l : List UInt8) (a width : Nat) (h : a + width ≤ l.length) : NumP.val l a width = NumP.toI (NumP.num ((l.drop a).take width)) := by simp [NumP.val, h]
theorem there_no (l : List UInt8) (a width : Nat) (h : ¬ a + width ≤ l.length) : NumP.there l a width = false := by simp [NumP.there, h]
theorem there_yes (l : List UInt8) (a width : Nat) (h : a + width ≤ l.length) : NumP.there l a width = true := by simp [NumP.there, h]
theorem take_step (l : List UInt8) (a k : Nat) (h : a + k < l.length) : NumP.num ((l.drop a).take (k + 1)) = NumP.num ((l.drop a).take k) * 256 + (l[a + k]).toNat := by
  have hl : k < (l.drop a).length := by simp; omega
  rw [List.take_succ_eq_append_getElem hl, NumP.num_snoc]
  simp
theorem take_lt (l : List UInt8) (a k : Nat) (h : k ≤ 7) : NumP.num ((l.drop a).take k) < 72057594037927936 := NumP.num_lt7 _ (by simp; omega)

theorem or_join (x u : Nat) (hx : x < 72057594037927936) (hu : u < 256) : bits .or .u64 ((x : Int) * 256) (u : Int) = ((x * 256 + u : Nat) : Int) := by
  have e : (x : Int) * 256 = ((x * 256 : Nat) : Int) := by omega
  rw [e, u64_or_nat (x * 256) u (by omega) (by omega), nat_join 8 (x * 256) u (by omega) (by omega)]
theorem wrap_toI (u : Nat) (h : u < 18446744073709551616) : wrap64 (u : Int) = NumP.toI u := by
  unfold wrap64 NumP.toI
  split <;> omega

set_option maxHeartbeats 1000000 in
theorem num_any (A : Option Addr) (n c B a width : Nat) (l : List UInt8) (w : World) (h : Bytes w B A n c l) (ha : a ≤ 4611686018427387904) (hw1 : 1 ≤ width) (hw8 : width ≤ 8) :
    Calls Tryz.prog 62 #[.slice A n c, .int .i64 (a : Int), .int .i64 (width : Int)] w fun e w' => e = .returned (.tuple #[.int .i64 (NumP.val l a width), .bool (NumP.there l a width)]) ∧ w = w' := by
  have hn := Nat.le_trans h.2.1 h.2.2.1
  have hc1 := h.2.1
  have hc2 := h.2.2.1
  unfold maxLen at hn hc2
  have hl := h.len
  have hwd : (decide ((1 : Int) ≤ (width : Int)) && decide ((width : Int) ≤ 8)) = true := by simp; omega
  by_cases hin : a + width ≤ n
  · obtain ⟨b, o, rfl, hb, hcell⟩ := h.2.2.2 (by omega)
    have HC := Lib.hid hcell
    have HL := Lib.hid hl
    have HV := Lib.hid (val_yes l a width (by omega))
    have HT := Lib.hid (there_yes l a width (by omega))
    rw [HV.out, HT.out]
    clear hcell h hl
    have d1 : decide ((a : Int) < 0) = false := by simp
    have d2 : decide (n < a) = false := by simp; omega
    have d3 : decide ((n : Int) - (a : Int) < (width : Int)) = false := by simp; omega
    have d4 : a + width - a = width := by omega
    go_enter Tryz.func62, Tryz.ntmps62
    go_wp2_with (go_at_call 79; refine (Be.wide_any _ _).mono ?_; rintro e w' ⟨rfl, rfl⟩)
    go_loop [8, 42] (fun v i => ∃ k : Nat, k ≤ width ∧ i = .int .i64 k ∧ v = .int .u64 ((NumP.num ((l.drop a).take k) : Nat) : Int)) (fun _ i => width - (intOf i).toNat)
    case atStart => exact ⟨0, Nat.zero_le _, rfl, by simp [NumP.num]⟩
    case round =>
      obtain ⟨k, hk, rfl, rfl⟩ := hrel
      by_cases hlt : k < width
      · have hlk : a + k < l.length := by rw [HL.out]; omega
        have hcell : w.cell? ⟨b, o + a + k, none⟩ = some (.int .u8 ((l[a + k]'hlk).toNat : Int)) := by
          rw [Nat.add_assoc]
          exact HC.out (a + k) _ (List.getElem?_eq_getElem hlk)
        have HS := Lib.hid (take_step l a k hlk)
        have hx := take_lt l a k (by omega)
        generalize hg : NumP.num ((l.drop a).take k) = x at *
        have HG := Lib.hid hg
        clear hg
        have hu := (l[a + k]'hlk).toNat_lt
        generalize (l[a + k]'hlk).toNat = u at *
        go_wp2
        go_round
        case rel => refine ⟨k + 1, by omega, by go_num, ?_⟩; rw [HS.out, or_join x u hx (by omega)]
        case measure => simp [intOf]; omega
      · obtain rfl : k = width := by omega
        have hx := NumP.num_lt8 ((l.drop a).take k) (by simp; omega)
        have HW := Lib.hid (wrap_toI _ hx)
        go_wp2
        go_ret2
        rw [← HW.out]
        exact ⟨rfl, rfl⟩
  · have HV := Lib.hid (val_no l a width (by omega))
    have HT := Lib.hid (there_no l a width (by omega))
    rw [HV.out, HT.out]
    clear h hl
    have d1 : ¬ (a : Int) < 0 := by omega
    by_cases hlt : n < a
    · have d2 : (n : Int) < (a : Int) := by omega
      go_enter Tryz.func62, Tryz.ntmps62
      go_wp2_with (go_at_call 79; refine (Be.wide_any _ _).mono ?_; rintro e w' ⟨rfl, rfl⟩)
      go_ret2
      exact ⟨rfl, rfl⟩
    · have d2 : ¬ (n : Int) < (a : Int) := by omega
      have d3 : (n : Int) - (a : Int) < (width : Int) := by omega
      go_enter Tryz.func62, Tryz.ntmps62
      go_wp2_with (go_at_call 79; refine (Be.wide_any _ _).mono ?_; rintro e w' ⟨rfl, rfl⟩)
      go_ret2
      exact ⟨rfl, rfl⟩

set_option maxHeartbeats 1000000 in
theorem at_any (A : Option Addr) (n c B a width : Nat) (l : List UInt8) (w : World) (h : Bytes w B A n c l) (ha : a ≤ 4611686018427387904) (hw1 : 1 ≤ width) (hw8 : width ≤ 8) :
    Calls Tryz.prog 67 #[.slice A n c, .int .i64 (a : Int), .int .i64 (width : Int)] w fun e w' => e = .returned (.tuple #[.int .i64 (NumP.val l a width), .bool (NumP.there l a width)]) ∧ w = w' := by
  have hn := Nat.le_trans h.2.1 h.2.2.1
  have hc1 := h.2.1
  have hc2 := h.2.2.1
  unfold maxLen at hn hc2
  have hl := h.len
  have hwd : decide ((width : Int) < 1) = false := by simp; omega
  have hwe : decide ((8 : Int) < (width : Int)) = false := by simp; omega
  by_cases hin : a + width ≤ n
  · obtain ⟨b, o, rfl, hb, hcell⟩ := h.2.2.2 (by omega)
    have HC := Lib.hid hcell
    have HL := Lib.hid hl
    have HV := Lib.hid (val_yes l a width (by omega))
    have HT := Lib.hid (there_yes l a width (by omega))
    rw [HV.out, HT.out]
    clear hcell h hl
    have d1 : decide ((a : Int) < 0) = false := by simp
    have d2 : decide (n ≤ a) = false := by simp; omega
    have d3 : decide ((n : Int) - (a : Int) < (width : Int)) = false := by simp; omega
    go_enter Tryz.func67, Tryz.ntmps67
    go_wp2
    go_loop [8, 9] (fun v i => ∃ k : Nat, k ≤ width ∧ i = .int .i64 k ∧ v = .int .u64 ((NumP.num ((l.drop a).take k) : Nat) : Int)) (fun _ i => width - (intOf i).toNat)
    case atStart => exact ⟨0, Nat.zero_le _, rfl, by simp [NumP.num]⟩
    case round =>
      obtain ⟨k, hk, rfl, rfl⟩ := hrel
      by_cases hlt : k < width
      · have hlk : a + k < l.length := by rw [HL.out]; omega
        have hcell : w.cell? ⟨b, o + (a + k), none⟩ = some (.int .u8 ((l[a + k]'hlk).toNat : Int)) := by
          exact HC.out (a + k) _ (List.getElem?_eq_getElem hlk)
        have HS := Lib.hid (take_step l a k hlk)
        have hx := take_lt l a k (by omega)
        generalize hg : NumP.num ((l.drop a).take k) = x at *
        have HG := Lib.hid hg
        clear hg
        have hu := (l[a + k]'hlk).toNat_lt
        generalize (l[a + k]'hlk).toNat = u at *
        go_wp2
        go_round
        case rel => refine ⟨k + 1, by omega, by go_num, ?_⟩; rw [HS.out]; exact congrArg (Value.int .u64) (by omega)
        case measure => simp [intOf]; omega
      · obtain rfl : k = width := by omega
        have hx := NumP.num_lt8 ((l.drop a).take k) (by simp; omega)
        have HW := Lib.hid (wrap_toI _ hx)
        go_wp2
        go_ret2
        rw [← HW.out]
        exact ⟨rfl, rfl⟩
  · have HV := Lib.hid (val_no l a width (by omega))
    have HT := Lib.hid (there_no l a width (by omega))
    rw [HV.out, HT.out]
    clear h hl
    have d1 : ¬ (a : Int) < 0 := by omega
    by_cases hlt : n ≤ a
    · have d2 : (n : Int) ≤ (a : Int) := by omega
      go_enter Tryz.func67, Tryz.ntmps67
      go_wp2
      go_ret2
      exact ⟨rfl, rfl⟩
    · have d2 : ¬ (n : Int) ≤ (a : Int) := by omega
      have d3 : (n : Int) - (a : Int) < (width : Int) := by omega
      go_enter Tryz.func67, Tryz.ntmps67
      go_wp2
      go_ret2
      exact ⟨rfl, rfl⟩
end Go.Proofs.YtpklclnehlgcpaaGreat.NumW
end
section
namespace Go.Proofs.YtpklclnehlgcpaaGreat.PageW
open Go.RowKit
attribute [local go_sem ↓] alPage_fold ldPage_fold stPage_fold bdPage_fold slPage_fold cp_fold

set_option maxRecDepth 100000 in
set_option maxHeartbeats 400000 in
theorem num_any (l : List UInt8) (hl : l.length = 512) (a width : Nat) (ha : a ≤ 1000) (hw1 : 1 ≤ width) (hw8 : width ≤ 8) (w : World) :
    Calls Tryz.prog 44 #[.agg (rowV l), .int .i64 (a : Int), .int .i64 (width : Int)] w fun e w' => e = .returned (.int .i64 (NumP.val l a width)) ∧ Below w.heap.size w w' := by
  have hpt := (Str.new w (rowV l) 30).part 0 512 512 (by omega) (by omega) (by unfold maxLen; omega)
  rw [List.drop_zero, List.take_of_length_le (by omega)] at hpt
  have HP := Lib.hid hpt
  have hsl := fun W => run_sl_all (P := Tryz.prog) arrPage w.heap.size W
  clear hpt hl
  go_enter Tryz.func44, Tryz.ntmps44
  go_wp2_with fail
  refine (NumW.num_any _ _ _ _ a width l _ HP.out (by omega) hw1 hw8).mono ?_
  rintro e w1 ⟨rfl, rfl⟩
  go_wp2_with fail
  go_ret
  exact ⟨rfl, balloc (bsame w) _⟩

set_option maxRecDepth 100000 in
set_option maxHeartbeats 400000 in
theorem no_any (l : List UInt8) (hl : l.length = 512) (w : World) : Calls Tryz.prog 20 #[.agg (rowV l)] w fun e w' => e = .returned (.int .i64 (NumP.val l 12 2)) ∧ Below w.heap.size w w' := by
  have hld := run_ld (P := Tryz.prog) arrPage (Str.new w (rowV l) 30) hl
  go_enter Tryz.func20, Tryz.ntmps20
  go_wp2_with fail
  refine (num_any l hl 12 2 (by omega) (by omega) (by omega) _).mono ?_
  rintro e w1 ⟨rfl, hb⟩
  clear hld
  go_wp2_with fail
  go_ret
  exact ⟨rfl, bstep (balloc (bsame w) _) hb⟩

set_option maxRecDepth 100000 in
set_option maxHeartbeats 400000 in
theorem lsn_any (l : List UInt8) (hl : l.length = 512) (w : World) : Calls Tryz.prog 25 #[.agg (rowV l)] w fun e w' => e = .returned (.int .i64 (NumP.val l 4 8)) ∧ Below w.heap.size w w' := by
  have hld := run_ld (P := Tryz.prog) arrPage (Str.new w (rowV l) 30) hl
  go_enter Tryz.func25, Tryz.ntmps25
  go_wp2_with fail
  refine (num_any l hl 4 8 (by omega) (by omega) (by omega) _).mono ?_
  rintro e w1 ⟨rfl, hb⟩
  clear hld
  go_wp2_with fail
  go_ret
  exact ⟨rfl, bstep (balloc (bsame w) _) hb⟩

set_option maxRecDepth 100000 in
set_option maxHeartbeats 1000000 in
theorem with_any (l : List UInt8) (hl : l.length = 512) (a width : Nat) (m : Int) (ha : a + width ≤ 512) (hw1 : 1 ≤ width) (hw8 : width ≤ 8) (w : World) :
    Calls Tryz.prog 48 #[.agg (rowV l), .int .i64 (a : Int), .int .i64 (width : Int), .int .i64 m] w fun e w' => e = .returned (.agg (rowV (SlotP.over l a (BeP.parts width m)))) ∧ Below w.heap.size w w' := by
  have hal := fun W => run_al (P := Tryz.prog) arrPage W
  have HL := Lib.hid hl
  have HZ := Lib.hid (SlotPut.zeros_len 512)
  have HLO : Hid ((SlotP.over l a (BeP.parts width m)).length = 512) := Lib.hid (by rw [SlotP.over_length _ _ _ (by rw [BeP.parts_length]; omega)]; exact hl)
  have hsl : ∀ W, (slSem 30 (.pointer (some ⟨w.heap.size, 0, none⟩)) (some (.int .i64 (a : Int))) (some (.int .i64 ((a : Int) + (width : Int)))) none).run Tryz.prog W = .ok (.slice (some ⟨w.heap.size, a, none⟩) width (512 - a)) W := by
    intro W
    have := run_sl (P := Tryz.prog) arrPage w.heap.size a (a + width) (by omega) (by omega) (by omega) W
    rwa [show ((a + width : Nat) : Int) = (a : Int) + (width : Int) by omega, show a + width - a = width by omega] at this
  clear hl
  go_enter Tryz.func48, Tryz.ntmps48
  go_wp2_with fail
  generalize hW0 : ((w).alloc (.cells (rowV l) 30)).alloc (.cells (rowV (SlotP.zeros 512)) 30) = W0
  have HS0_0 : Hid (Str W0 (w.heap.size) (rowV l)) := Lib.hid (by rw [← hW0]; have := (Str.new (w) (rowV l) 30).alloc (.cells (rowV (SlotP.zeros 512)) 30); simpa using this)
  have HS1_0 : Hid (Str W0 (w.heap.size + 1) (rowV (SlotP.zeros 512))) := Lib.hid (by rw [← hW0]; have := Str.new ((w).alloc (.cells (rowV l) 30)) (rowV (SlotP.zeros 512)) 30; simpa using this)
  have HB_0 : Hid (Below w.heap.size w W0) := Lib.hid (by rw [← hW0]; exact balloc (balloc (bsame w) _) _)
  have hw_0 := HB_0.out.size
  clear hW0
  have hl0_0 := HS0_0.out.lt
  have hl1_0 := HS1_0.out.lt
  refine Reg.wp_region_tail (R := ext) (W := W0) [Reg.eqv (.int .i64 (a : Int)), Reg.eqv (.int .i64 (a : Int)), Reg.eqv (.int .i64 (width : Int)), Reg.eqv (.int .i64 ((a : Int) + (width : Int))), Reg.eqv (.slice (some ⟨w.heap.size, a, none⟩) width (512 - a)), Reg.eqv (.int .i64 (width : Int)), Reg.eqv (.int .i64 m), Reg.bytes (BeP.parts width m)] 19 8 _ [[(1, none)], [(1, none)], [(2, none)], [(10, some 1), (11, some 2)], [(4, none), (9, some 0), (12, some 3)], [(2, none)], [(3, none)], [(14, some 5), (15, some 6)]] rfl (by kernel_rfl) (by kernel_rfl) (by rfl) (by rfl) rfl (by kernel_rfl) ?_ [some 9, some 10, some 11, some 12, some 13, some 14, some 15, some 16] (by kernel_rfl) ?_
  · refine ⟨?_, ?_, ?_, ?_, ?_, ?_, ?_, ?_, trivial⟩
    · intro ax wx hx hs
      obtain ⟨e1, -⟩ := hs
      have g1 := Reg.ev (v := .int .i64 (a : Int)) e1
      exact Reg.obl_free rfl (Reg.wp_eqv (Option.some_ne_none _) (by go_simp) rfl)
    · intro ax wx hx hs
      obtain ⟨e1, -⟩ := hs
      have g1 := Reg.ev (v := .int .i64 (a : Int)) e1
      exact Reg.obl_free rfl (Reg.wp_eqv (Option.some_ne_none _) (by go_simp) rfl)
    · intro ax wx hx hs
      obtain ⟨e2, -⟩ := hs
      have g2 := Reg.ev (v := .int .i64 (width : Int)) e2
      exact Reg.obl_free rfl (Reg.wp_eqv (Option.some_ne_none _) (by go_simp) rfl)
    · intro ax wx hx hs
      obtain ⟨e10, e11, -⟩ := hs
      have g10 := Reg.ev (v := .int .i64 (a : Int)) e10
      have g11 := Reg.ev (v := .int .i64 (width : Int)) e11
      refine Reg.obl_free rfl ?_
      exact Reg.wp_eqv (Option.some_ne_none _) (by go_simp; exact IntWalk.i64_in _ (by omega)) rfl
    · intro ax wx hx hs
      obtain ⟨e4, e9, e12, -⟩ := hs
      have g4 := Reg.ev (v := .pointer (some ⟨w.heap.size, 0, none⟩)) e4
      have g9 := Reg.ev (v := .int .i64 (a : Int)) e9
      have g12 := Reg.ev (v := .int .i64 ((a : Int) + (width : Int))) e12
      exact Reg.obl_free rfl (Reg.wp_eqv (Option.some_ne_none _) (by go_simp) rfl)
    · intro ax wx hx hs
      obtain ⟨e2, -⟩ := hs
      have g2 := Reg.ev (v := .int .i64 (width : Int)) e2
      exact Reg.obl_free rfl (Reg.wp_eqv (Option.some_ne_none _) (by go_simp) rfl)
    · intro ax wx hx hs
      obtain ⟨e3, -⟩ := hs
      have g3 := Reg.ev (v := .int .i64 m) e3
      exact Reg.obl_free rfl (Reg.wp_eqv (Option.some_ne_none _) (by go_simp) rfl)
    · intro ax wx hx hs
      obtain ⟨e14, e15, -⟩ := hs
      have g14 := Reg.ev (v := .int .i64 (width : Int)) e14
      have g15 := Reg.ev (v := .int .i64 m) e15
      refine Reg.obl_free rfl ?_
      go_simp
      refine (Be.put_wide none 0 0 0 [] width m wx (Bytes.none_ _ _) (Nat.zero_le _) hw1 hw8 (by omega)).mono ?_
      rintro e wy ⟨A3, n3, c3, rfl, hy, hby⟩
      exact Reg.done (Option.some_ne_none _) ⟨A3, n3, c3, rfl, hy⟩ hby
  · intro W1 hwf
    simp only [Reg.Fin]
    rintro _ rfl _ rfl _ rfl _ rfl _ rfl _ rfl _ rfl v16 h16
    obtain ⟨A3, n3, c3, rfl, hy⟩ := h16
    have hwf' : Below W0.heap.size W0 W1 := hwf
    obtain ⟨w6, hcp, hV0, hg6⟩ := copy_bytes (P := Tryz.prog) 23 23 3 5 Tryz.underlying23 Be.sizeU8 (dLen := width) (dCap := 512 - a) (off := a) (HS0_0.out.next hwf') hy (by rw [HL.out]; omega)
    rw [List.take_of_length_le (by rw [BeP.parts_length]; omega)] at hV0
    have hV1 := (HS1_0.out.next hwf').grown hg6 (by omega)
    have HB6 := Lib.hid (below_grown (bstep HB_0.out hwf') hg6 (by omega))
    have hld := run_ld (P := Tryz.prog) arrPage hV0 HLO.out
    have hst := run_st (P := Tryz.prog) arrPage hV1 (by rw [rowV_size]; exact HZ.out) HLO.out
    have HB7 := Lib.hid (below_setRow HB6.out (by omega : w.heap.size ≤ w.heap.size + 1) (rowV (SlotP.over l a (BeP.parts width m))))
    have HS7 := Lib.hid (hV1.setRow (cs' := rowV (SlotP.over l a (BeP.parts width m))))
    clear hwf hwf' hV0 hV1 hg6 hsl HB6 hal
    refine Reg.Goal.mk ?_
    go_simp
    clear hcp
    go_wp2_with fail
    exact bodyPost_ret (v := .agg (rowV (SlotP.over l a (BeP.parts width m)))) (results_arr arrPage Tryz.results48 _ HS7.out HLO.out rfl) rfl ⟨rfl, HB7.out⟩

set_option maxRecDepth 100000 in
set_option maxHeartbeats 400000 in
theorem withLSN_any (l : List UInt8) (hl : l.length = 512) (m : Int) (w : World) : Calls Tryz.prog 24 #[.agg (rowV l), .int .i64 m] w fun e w' => e = .returned (.agg (rowV (SlotP.over l 4 (BeP.parts 8 m)))) ∧ Below w.heap.size w w' := by
  have hal := fun W => run_al (P := Tryz.prog) arrPage W
  have HLO : Hid ((SlotP.over l 4 (BeP.parts 8 m)).length = 512) := Lib.hid (by rw [SlotP.over_length _ _ _ (by rw [BeP.parts_length]; omega)]; exact hl)
  have hld := run_ld (P := Tryz.prog) arrPage ((Str.new w (rowV l) 30).alloc (.cells (rowV (SlotP.zeros 512)) 30)) hl
  go_enter Tryz.func24, Tryz.ntmps24
  go_wp2_with fail
  have hS1 : Str ((w.alloc (.cells (rowV l) 30)).alloc (.cells (rowV (SlotP.zeros 512)) 30)) (w.heap.size + 1) (rowV (SlotP.zeros 512)) := by
    have := Str.new (w.alloc (.cells (rowV l) 30)) (rowV (SlotP.zeros 512)) 30
    simpa using this
  refine (with_any l hl 4 8 m (by omega) (by omega) (by omega) _).mono ?_
  rintro e w1 ⟨rfl, hb⟩
  have hV1 := hS1.next hb
  have hst := run_st (P := Tryz.prog) arrPage hV1 (by rw [rowV_size]; exact SlotPut.zeros_len 512) HLO.out
  have HB7 := Lib.hid (below_setRow (bstep (balloc (balloc (bsame w) _) _) hb) (by omega : w.heap.size ≤ w.heap.size + 1) (rowV (SlotP.over l 4 (BeP.parts 8 m))))
  have HS7 := Lib.hid (hV1.setRow (cs' := rowV (SlotP.over l 4 (BeP.parts 8 m))))
  clear hS1 hV1 hb hld
  go_wp2_with fail
  exact bodyPost_ret (v := .agg (rowV (SlotP.over l 4 (BeP.parts 8 m)))) (results_arr arrPage Tryz.results24 _ HS7.out HLO.out rfl) rfl ⟨rfl, HB7.out⟩

set_option maxRecDepth 100000 in
set_option maxHeartbeats 400000 in
theorem withNext_any (l : List UInt8) (hl : l.length = 512) (m : Int) (w : World) : Calls Tryz.prog 37 #[.agg (rowV l), .int .i64 m] w fun e w' => e = .returned (.agg (rowV (SlotP.over l 14 (BeP.parts 2 m)))) ∧ Below w.heap.size w w' := by
  have hal := fun W => run_al (P := Tryz.prog) arrPage W
  have HLO : Hid ((SlotP.over l 14 (BeP.parts 2 m)).length = 512) := Lib.hid (by rw [SlotP.over_length _ _ _ (by rw [BeP.parts_length]; omega)]; exact hl)
  have hld := run_ld (P := Tryz.prog) arrPage ((Str.new w (rowV l) 30).alloc (.cells (rowV (SlotP.zeros 512)) 30)) hl
  go_enter Tryz.func37, Tryz.ntmps37
  go_wp2_with fail
  have hS1 : Str ((w.alloc (.cells (rowV l) 30)).alloc (.cells (rowV (SlotP.zeros 512)) 30)) (w.heap.size + 1) (rowV (SlotP.zeros 512)) := by
    have := Str.new (w.alloc (.cells (rowV l) 30)) (rowV (SlotP.zeros 512)) 30
    simpa using this
  refine (with_any l hl 14 2 m (by omega) (by omega) (by omega) _).mono ?_
  rintro e w1 ⟨rfl, hb⟩
  have hV1 := hS1.next hb
  have hst := run_st (P := Tryz.prog) arrPage hV1 (by rw [rowV_size]; exact SlotPut.zeros_len 512) HLO.out
  have HB7 := Lib.hid (below_setRow (bstep (balloc (balloc (bsame w) _) _) hb) (by omega : w.heap.size ≤ w.heap.size + 1) (rowV (SlotP.over l 14 (BeP.parts 2 m))))
  have HS7 := Lib.hid (hV1.setRow (cs' := rowV (SlotP.over l 14 (BeP.parts 2 m))))
  clear hS1 hV1 hb hld
  go_wp2_with fail
  exact bodyPost_ret (v := .agg (rowV (SlotP.over l 14 (BeP.parts 2 m)))) (results_arr arrPage Tryz.results37 _ HS7.out HLO.out rfl) rfl ⟨rfl, HB7.out⟩

set_option maxRecDepth 100000 in
set_option maxHeartbeats 400000 in
theorem new_any (m : Int) (w : World) : Calls Tryz.prog 23 #[.int .i64 m] w fun e w' => e = .returned (.agg (rowV (SlotP.over (SlotP.zeros 512) 12 (BeP.parts 2 m)))) ∧ Below w.heap.size w w' := by
  have hal := fun W => run_al (P := Tryz.prog) arrPage W
  have hbd := fun W => run_bd (P := Tryz.prog) arrPage W
  have hl := SlotPut.zeros_len 512
  have HLO : Hid ((SlotP.over (SlotP.zeros 512) 12 (BeP.parts 2 m)).length = 512) := Lib.hid (by rw [SlotP.over_length _ _ _ (by rw [BeP.parts_length, hl]; omega)]; exact hl)
  have HL := Lib.hid hl
  clear hl
  go_enter Tryz.func23, Tryz.ntmps23
  go_wp2_with fail
  refine (with_any (SlotP.zeros 512) HL.out 12 2 m (by omega) (by omega) (by omega) _).mono ?_
  rintro e w1 ⟨rfl, hb⟩
  have hV1 := (Str.new w (rowV (SlotP.zeros 512)) 30).next hb
  have hst := run_st (P := Tryz.prog) arrPage hV1 (by rw [rowV_size]; exact SlotPut.zeros_len 512) HLO.out
  have HB7 := Lib.hid (below_setRow (bstep (balloc (bsame w) _) hb) (Nat.le_refl _) (rowV (SlotP.over (SlotP.zeros 512) 12 (BeP.parts 2 m))))
  have HS7 := Lib.hid (hV1.setRow (cs' := rowV (SlotP.over (SlotP.zeros 512) 12 (BeP.parts 2 m))))
  clear hV1 hb
  go_wp2_with fail
  exact bodyPost_ret (v := .agg (rowV (SlotP.over (SlotP.zeros 512) 12 (BeP.parts 2 m)))) (results_arr arrPage Tryz.results23 _ HS7.out HLO.out rfl) rfl ⟨rfl, HB7.out⟩
end Go.Proofs.YtpklclnehlgcpaaGreat.PageW
end
section
namespace Go.Proofs.YtpklclnehlgcpaaGreat.CellP

/-- the second byte, as a number -/
def len1 (l : List UInt8) : Nat := (l.getD 1 0).toNat
/-- the cell with which bytes begin, how many bytes it takes, the error's number -/
def get (l : List UInt8) : Cell × Int × Int :=
  if l.length < 1 then (none, 0, 13)
  else if NumP.val l 0 1 = 1 then
    (if l.length < 2 ∨ l.length < 2 + len1 l then (none, 0, 13) else if 32 < len1 l then (none, 0, 12) else (⟨1, (l.drop 2).take (len1 l), 0, 0, 0⟩, 2 + (len1 l : Int), 0))
  else if NumP.val l 0 1 = 2 then
    (if l.length < 25 then (none, 0, 13) else if NumP.val l 1 8 ≤ NumP.val l 17 8 ∧ NumP.val l 17 8 ≤ NumP.val l 9 8 then (⟨2, [], NumP.val l 1 8, NumP.val l 9 8, NumP.val l 17 8⟩, 25, 0) else (none, 0, 12))
  else (none, 0, 12)

theorem val_in (l : List UInt8) (a width : Nat) (h : width ≤ 8) : In64 (NumP.val l a width) := by
  unfold NumP.val
  split
  · exact NumP.toI_in _ (NumP.num_lt8 _ (by simp; omega))
  · unfold In64; omega
end Go.Proofs.YtpklclnehlgcpaaGreat.CellP
end
section
namespace Go.Proofs.YtpklclnehlgcpaaGreat.SlotP

/-- bytes as a text -/
def text (l : List UInt8) : ByteArray := ⟨l.toArray⟩
/-- the item that bytes seem to be -/
def seem (l : List UInt8) : Item := ⟨((l.getD 0 0).toNat : Int), text ((l.drop 2).take (l.getD 1 0).toNat), (CellP.get (l.drop (2 + (l.getD 1 0).toNat))).1⟩
/-- is it one? -/
def good (l : List UInt8) : Bool := decide ((l.getD 1 0).toNat ≤ 16) && ((CellP.get (l.drop (2 + (l.getD 1 0).toNat))).2.2 == 0 && (right (seem l) && (bytes (seem l) == l)))
/-- the item of which bytes are, and the error's number -/
def get (l : List UInt8) : Item × Int := if l = zeros 64 then (none, 0) else if good l = true then (seem l, 0) else (none, 12)

theorem text_of (s : ByteArray) : text s.data.toList = s := by
  obtain ⟨⟨l⟩⟩ := s
  rfl
theorem bytearray_ext {a b : ByteArray} (h : a.toList = b.toList) : a = b := by
  have h2 : a.data.toList = b.data.toList := by
    rw [ByteArray.toList_eq, ByteArray.toList_eq] at h
    exact h
  rw [← text_of a, ← text_of b, h2]
theorem cell_same {c d : Cell} (h : CellP.same c d = true) : c = d := by
  obtain ⟨k, l, lo, hi, v⟩ := c
  obtain ⟨k', l', lo', hi', v'⟩ := d
  simp [CellP.same] at h
  obtain ⟨rfl, rfl, rfl, rfl, rfl⟩ := h
  rfl
theorem same_eq {x y : Item} (h : same x y = true) : x = y := by
  obtain ⟨s, k, c⟩ := x
  obtain ⟨s', k', c'⟩ := y
  unfold same at h
  simp only [Bool.and_eq_true, beq_iff_eq] at h
  obtain ⟨rfl, h2, h3⟩ := h
  obtain rfl := bytearray_ext h2
  obtain rfl := cell_same h3
  rfl
theorem same_self (x : Item) : same x x = true := by simp [same, CellP.same]
/-- numbers that may be -/
def In (x : Item) : Prop := In64 x.state ∧ In64 x.cell.kind ∧ In64 x.cell.lo ∧ In64 x.cell.hi ∧ In64 x.cell.val
theorem bytes_full (x : Item) (h0 : x.state ≠ 0) (hr : right x = true) : bytes x = UInt8.ofNat x.state.toNat :: UInt8.ofNat x.key.size :: (x.key.data.toList ++ (CellP.bytes x.cell ++ zeros (64 - (body x).length))) := by
  unfold bytes
  rw [if_pos ⟨h0, hr⟩]
  simp [body]
theorem body_len (x : Item) (h0 : x.state ≠ 0) (hr : right x = true) : (body x).length ≤ 64 := by
  have hk := right_key x h0 hr
  have hc := cell_le x.cell
  have hl : x.key.data.toList.length = x.key.size := Array.length_toList
  simp only [body, List.length_append, List.length_cons, List.length_nil, hl]
  omega
end Go.Proofs.YtpklclnehlgcpaaGreat.SlotP
end
section
namespace Go.Proofs.YtpklclnehlgcpaaGreat.CellGet
open Go.RowKit
attribute [local go_sem ↓] app_fold cut_fold

end Go.Proofs.YtpklclnehlgcpaaGreat.CellGet
end
section
namespace Go.Proofs.YtpklclnehlgcpaaGreat.SlotGet
open Go.RowKit
end Go.Proofs.YtpklclnehlgcpaaGreat.SlotGet
end
section
namespace Go.Proofs.YtpklclnehlgcpaaGreat.SlotGet
open Go.RowKit
attribute [local go_sem ↓] al64_fold ld64_fold st64_fold bd64_fold sl64_fold cp_fold

end Go.Proofs.YtpklclnehlgcpaaGreat.SlotGet
end
section
namespace Go.Proofs.YtpklclnehlgcpaaGreat.CrcP

/-- what a bit's step makes of a sum -/
def bit (v : Nat) : Nat := if v % 2 = 1 then v / 2 ^^^ 2197175160 else v / 2
def bits : Nat → Nat → Nat
  | 0, v => v
  | k + 1, v => bits k (bit v)
/-- eight steps -/
def step8 (v : Nat) : Nat := bits 8 v
/-- a byte's round -/
def round (v : Nat) (c : UInt8) : Nat := step8 (v ^^^ c.toNat)
def more (sum : Nat) (l : List UInt8) : Nat := 4294967295 - l.foldl round (4294967295 - sum)
/-- the sum of bytes -/
def sum (l : List UInt8) : Nat := more 0 l

theorem bit_lt (v : Nat) (h : v < 4294967296) : bit v < 4294967296 := by
  unfold bit
  split
  · have : v / 2 ^^^ 2197175160 < 2 ^ 32 := Nat.xor_lt_two_pow (by omega) (by omega)
    omega
  · omega
theorem bits_lt (k v : Nat) (h : v < 4294967296) : bits k v < 4294967296 := by
  induction k generalizing v with
  | zero => exact h
  | succ k ih => exact ih _ (bit_lt v h)
theorem step8_lt (v : Nat) (h : v < 4294967296) : step8 v < 4294967296 := bits_lt 8 v h
theorem xor_byte_lt (v : Nat) (h : v < 4294967296) (c : UInt8) : v ^^^ c.toNat < 4294967296 := by
  have hc := c.toNat_lt
  have : v ^^^ c.toNat < 2 ^ 32 := Nat.xor_lt_two_pow (by omega) (by omega)
  omega
theorem round_lt (v : Nat) (h : v < 4294967296) (c : UInt8) : round v c < 4294967296 := step8_lt _ (xor_byte_lt v h c)
theorem fold_lt (l : List UInt8) (v : Nat) (h : v < 4294967296) : l.foldl round v < 4294967296 := by
  induction l generalizing v with
  | nil => exact h
  | cons c l ih => exact ih _ (round_lt v h c)

end Go.Proofs.YtpklclnehlgcpaaGreat.CrcP
end
section
namespace Go.Proofs.YtpklclnehlgcpaaGreat.PageP

/-- a slot of a page, and the error's number -/
def slot (l : List UInt8) (i : Int) : Item × Int := if i < 0 ∨ 7 ≤ i then (SlotP.none, 2) else SlotP.get ((l.drop (32 + i.toNat * 64)).take 64)
/-- a page with another slot -/
def withSlot (l : List UInt8) (i : Int) (x : Item) : List UInt8 := if i < 0 ∨ 7 ≤ i then l else SlotP.over l (32 + i.toNat * 64) (SlotP.bytes x)
theorem withSlot_length (l : List UInt8) (hl : l.length = 512) (i : Int) (x : Item) : (withSlot l i x).length = 512 := by
  unfold withSlot
  split
  · exact hl
  · rw [SlotP.over_length _ _ _ (by rw [SlotP.bytes_length]; omega)]
    exact hl
/-- all these are 0 -/
def allz (l : List UInt8) : Bool := l.all fun c => c == 0
/-- the first k slots are some -/
def slotsOk (l : List UInt8) : Nat → Bool
  | 0 => true
  | k + 1 => slotsOk l k && ((slot l (k : Int)).2 == 0)
def right (l : List UInt8) (no : Int) : Bool :=
  (NumP.val l 0 4 == ((CrcP.sum (l.drop 4) : Nat) : Int)) && ((NumP.val l 12 2 == no) && (allz ((l.drop 24).take 8) && (allz (l.drop 480) && slotsOk l 7)))
theorem right_eq (l : List UInt8) (no : Int) : right l no = ((NumP.val l 0 4 == ((CrcP.sum (l.drop 4) : Nat) : Int)) && ((NumP.val l 12 2 == no) && (allz ((l.drop 24).take 8) && (allz (l.drop 480) && slotsOk l 7)))) := rfl
def code (b : Bool) : Int := if b then 0 else 14
end Go.Proofs.YtpklclnehlgcpaaGreat.PageP
end
section
namespace Go.Proofs.YtpklclnehlgcpaaGreat.PageW
open Go.RowKit
attribute [local go_sem ↓] alPage_fold ldPage_fold stPage_fold bdPage_fold slPage_fold cp_fold al64_fold ld64_fold st64_fold bd64_fold sl64_fold

set_option maxRecDepth 100000 in
set_option maxHeartbeats 1000000 in
theorem withSlot_out (l : List UInt8) (hl : l.length = 512) (i : Int) (hi : i < 0 ∨ 7 ≤ i) (A : Option Addr) (n cap : Nat) (x : Item) (w : World) :
    Calls Tryz.prog 22 #[.agg (rowV l), .int .i64 i, SlotW.itemV A n cap x] w fun e w' => e = .returned (.agg (rowV l)) ∧ Below w.heap.size w w' := by
  have hal := fun W => run_al (P := Tryz.prog) arrPage W
  obtain ⟨s, k, kind, data, lo, hi', val⟩ := x
  rcases hi with hi | hi
  · have hS0 : Str (((w.alloc (.cells (rowV l) 30)).alloc (.cells #[.int .i64 s, .string k, .int .i64 kind, .slice A n cap, .int .i64 lo, .int .i64 hi', .int .i64 val] 27)).alloc (.cells (rowV (SlotP.zeros 512)) 30)) w.heap.size (rowV l) := ((Str.new w (rowV l) 30).alloc _).alloc _
    have hS2 : Str (((w.alloc (.cells (rowV l) 30)).alloc (.cells #[.int .i64 s, .string k, .int .i64 kind, .slice A n cap, .int .i64 lo, .int .i64 hi', .int .i64 val] 27)).alloc (.cells (rowV (SlotP.zeros 512)) 30)) (w.heap.size + 1 + 1) (rowV (SlotP.zeros 512)) := by
      have := Str.new ((w.alloc (.cells (rowV l) 30)).alloc (.cells #[.int .i64 s, .string k, .int .i64 kind, .slice A n cap, .int .i64 lo, .int .i64 hi', .int .i64 val] 27)) (rowV (SlotP.zeros 512)) 30
      simpa using this
    have hld := run_ld (P := Tryz.prog) arrPage hS0 hl
    have hst := run_st (P := Tryz.prog) arrPage hS2 (by rw [rowV_size]; exact SlotPut.zeros_len 512) hl
    have HB7 := Lib.hid (below_setRow (balloc (balloc (balloc (bsame w) (.cells (rowV l) 30)) (.cells #[.int .i64 s, .string k, .int .i64 kind, .slice A n cap, .int .i64 lo, .int .i64 hi', .int .i64 val] 27)) (.cells (rowV (SlotP.zeros 512)) 30)) (by omega : w.heap.size ≤ w.heap.size + 1 + 1) (rowV l))
    have HS7 := Lib.hid (hS2.setRow (cs' := rowV l))
    have HL := Lib.hid hl
    clear hS0 hS2 hl
    go_enter Tryz.func22, Tryz.ntmps22
    go_wp2
    exact bodyPost_ret (v := .agg (rowV l)) (results_arr arrPage Tryz.results22 _ HS7.out HL.out rfl) rfl ⟨rfl, HB7.out⟩
  · have hin : ¬ i < 0 := by omega
    have hS0 : Str (((w.alloc (.cells (rowV l) 30)).alloc (.cells #[.int .i64 s, .string k, .int .i64 kind, .slice A n cap, .int .i64 lo, .int .i64 hi', .int .i64 val] 27)).alloc (.cells (rowV (SlotP.zeros 512)) 30)) w.heap.size (rowV l) := ((Str.new w (rowV l) 30).alloc _).alloc _
    have hS2 : Str (((w.alloc (.cells (rowV l) 30)).alloc (.cells #[.int .i64 s, .string k, .int .i64 kind, .slice A n cap, .int .i64 lo, .int .i64 hi', .int .i64 val] 27)).alloc (.cells (rowV (SlotP.zeros 512)) 30)) (w.heap.size + 1 + 1) (rowV (SlotP.zeros 512)) := by
      have := Str.new ((w.alloc (.cells (rowV l) 30)).alloc (.cells #[.int .i64 s, .string k, .int .i64 kind, .slice A n cap, .int .i64 lo, .int .i64 hi', .int .i64 val] 27)) (rowV (SlotP.zeros 512)) 30
      simpa using this
    have hld := run_ld (P := Tryz.prog) arrPage hS0 hl
    have hst := run_st (P := Tryz.prog) arrPage hS2 (by rw [rowV_size]; exact SlotPut.zeros_len 512) hl
    have HB7 := Lib.hid (below_setRow (balloc (balloc (balloc (bsame w) (.cells (rowV l) 30)) (.cells #[.int .i64 s, .string k, .int .i64 kind, .slice A n cap, .int .i64 lo, .int .i64 hi', .int .i64 val] 27)) (.cells (rowV (SlotP.zeros 512)) 30)) (by omega : w.heap.size ≤ w.heap.size + 1 + 1) (rowV l))
    have HS7 := Lib.hid (hS2.setRow (cs' := rowV l))
    have HL := Lib.hid hl
    clear hS0 hS2 hl
    go_enter Tryz.func22, Tryz.ntmps22
    go_wp2
    exact bodyPost_ret (v := .agg (rowV l)) (results_arr arrPage Tryz.results22 _ HS7.out HL.out rfl) rfl ⟨rfl, HB7.out⟩

set_option maxRecDepth 100000 in
set_option maxHeartbeats 1000000 in
theorem withSlot_in (l : List UInt8) (hl : l.length = 512) (j : Nat) (hj : j < 7) (A : Option Addr) (n cap B : Nat) (x : Item) (w : World) (h : Bytes w B A n cap x.cell.data) (hB : B ≤ w.heap.size) (hk : x.key.size ≤ maxLen) :
    Calls Tryz.prog 22 #[.agg (rowV l), .int .i64 (j : Int), SlotW.itemV A n cap x] w fun e w' => e = .returned (.agg (rowV (SlotP.over l (32 + j * 64) (SlotP.bytes x)))) ∧ Below w.heap.size w w' := by
  have hal := fun W => run_al (P := Tryz.prog) arrPage W
  have HL := Lib.hid hl
  have H := Lib.hid h
  have HK := Lib.hid hk
  have HZ := Lib.hid (SlotPut.zeros_len 512)
  have HLO : Hid ((SlotP.over l (32 + j * 64) (SlotP.bytes x)).length = 512) := Lib.hid (by rw [SlotP.over_length _ _ _ (by rw [SlotP.bytes_length]; omega)]; exact hl)
  have hsl2 : ∀ W, (slSem 30 (.pointer (some ⟨w.heap.size, 0, none⟩)) (some (.int .i64 (32 + (j : Int) * 64))) none none).run Tryz.prog W = .ok (.slice (some ⟨w.heap.size, 32 + j * 64, none⟩) (512 - (32 + j * 64)) (512 - (32 + j * 64))) W := by
    intro W
    have := run_sl_from (P := Tryz.prog) arrPage w.heap.size (32 + j * 64) (by omega) W
    rwa [show ((32 + j * 64 : Nat) : Int) = 32 + (j : Int) * 64 by omega] at this
  clear hl h hk
  obtain ⟨s, k, kind, data, lo, hi, val⟩ := x
  dsimp only at *
  go_enter Tryz.func22, Tryz.ntmps22
  go_wp2_with fail
  generalize hW0 : (((w).alloc (.cells (rowV l) 30)).alloc (.cells #[.int .i64 s, .string k, .int .i64 kind, .slice A n cap, .int .i64 lo, .int .i64 hi, .int .i64 val] 27)).alloc (.cells (rowV (SlotP.zeros 512)) 30) = W0
  have HS0_0 : Hid (Str W0 (w.heap.size) (rowV l)) := Lib.hid (by rw [← hW0]; have := ((Str.new (w) (rowV l) 30).alloc (.cells #[.int .i64 s, .string k, .int .i64 kind, .slice A n cap, .int .i64 lo, .int .i64 hi, .int .i64 val] 27)).alloc (.cells (rowV (SlotP.zeros 512)) 30); simpa using this)
  have HS1_0 : Hid (Str W0 (w.heap.size + 1) #[.int .i64 s, .string k, .int .i64 kind, .slice A n cap, .int .i64 lo, .int .i64 hi, .int .i64 val]) := Lib.hid (by rw [← hW0]; have := (Str.new ((w).alloc (.cells (rowV l) 30)) #[.int .i64 s, .string k, .int .i64 kind, .slice A n cap, .int .i64 lo, .int .i64 hi, .int .i64 val] 27).alloc (.cells (rowV (SlotP.zeros 512)) 30); simpa using this)
  have HS2_0 : Hid (Str W0 (w.heap.size + 1 + 1) (rowV (SlotP.zeros 512))) := Lib.hid (by rw [← hW0]; have := Str.new (((w).alloc (.cells (rowV l) 30)).alloc (.cells #[.int .i64 s, .string k, .int .i64 kind, .slice A n cap, .int .i64 lo, .int .i64 hi, .int .i64 val] 27)) (rowV (SlotP.zeros 512)) 30; simpa using this)
  have HB_0 : Hid (Below w.heap.size w W0) := Lib.hid (by rw [← hW0]; exact balloc (balloc (balloc (bsame w) _) _) _)
  have hw_0 := HB_0.out.size
  clear hW0
  have hl0_0 := HS0_0.out.lt
  obtain ⟨f1_0_0, f1_0_1, f1_0_2, f1_0_3, f1_0_4, f1_0_5, f1_0_6⟩ := str7 HS1_0.out
  have hl1_0 := HS1_0.out.lt
  have hl2_0 := HS2_0.out.lt
  refine (SlotPut.put_any A n cap B ⟨s, k, kind, data, lo, hi, val⟩ _ (H.out.below (HB_0.out.mono hB)) (by omega) HK.out).mono ?_
  rintro e W1 ⟨rfl, hb1⟩
  have HS0_1 := Lib.hid (HS0_0.out.next hb1)
  have HS1_1 := Lib.hid (HS1_0.out.next hb1)
  have HS2_1 := Lib.hid (HS2_0.out.next hb1)
  have HB_1 := Lib.hid (bstep HB_0.out hb1)
  have hw_1 := HB_1.out.size
  have hws_1 := (hb1).size
  clear HS0_0 f1_0_0 f1_0_1 f1_0_2 f1_0_3 f1_0_4 f1_0_5 f1_0_6 HS1_0 HS2_0
  clear hb1
  have hl0_1 := HS0_1.out.lt
  obtain ⟨f1_1_0, f1_1_1, f1_1_2, f1_1_3, f1_1_4, f1_1_5, f1_1_6⟩ := str7 HS1_1.out
  have hl1_1 := HS1_1.out.lt
  have hl2_1 := HS2_1.out.lt
  clear hal
  have hal := fun W => run_al (P := Tryz.prog) arr64 W
  have hst1 := run_st (P := Tryz.prog) arr64 (Str.new W1 (rowV (SlotP.zeros 64)) 94) (by rw [rowV_size]; exact SlotPut.zeros_len 64) (SlotP.bytes_length ⟨s, k, kind, data, lo, hi, val⟩)
  obtain ⟨W2, hW2⟩ : ∃ W, (W1.alloc (.cells (rowV (SlotP.zeros 64)) 94)).setRow W1.heap.size (rowV (SlotP.bytes ⟨s, k, kind, data, lo, hi, val⟩)) = W := ⟨_, rfl⟩
  rw [hW2] at hst1
  have HS0_2 : Hid (Str W2 (w.heap.size) (rowV l)) := Lib.hid (by rw [← hW2]; exact (HS0_1.out.alloc _).setRow_other (by omega))
  have HS1_2 : Hid (Str W2 (w.heap.size + 1) #[.int .i64 s, .string k, .int .i64 kind, .slice A n cap, .int .i64 lo, .int .i64 hi, .int .i64 val]) := Lib.hid (by rw [← hW2]; exact (HS1_1.out.alloc _).setRow_other (by omega))
  have HS2_2 : Hid (Str W2 (w.heap.size + 1 + 1) (rowV (SlotP.zeros 512))) := Lib.hid (by rw [← hW2]; exact (HS2_1.out.alloc _).setRow_other (by omega))
  have HS3_2 : Hid (Str W2 W1.heap.size (rowV (SlotP.bytes ⟨s, k, kind, data, lo, hi, val⟩))) := Lib.hid (by rw [← hW2]; exact (Str.new W1 (rowV (SlotP.zeros 64)) 94).setRow)
  have hba2 : Below W1.heap.size W1 W2 := by rw [← hW2]; exact below_setRow (balloc (bsame _) _) (Nat.le_refl _) _
  have HB_2 := Lib.hid (bstep HB_1.out hba2)
  have hw_2 := HB_2.out.size
  have hws_2 := hba2.size
  clear hW2 hba2
  clear HS0_1 f1_1_0 f1_1_1 f1_1_2 f1_1_3 f1_1_4 f1_1_5 f1_1_6 HS1_1 HS2_1
  have hl0_2 := HS0_2.out.lt
  obtain ⟨f1_2_0, f1_2_1, f1_2_2, f1_2_3, f1_2_4, f1_2_5, f1_2_6⟩ := str7 HS1_2.out
  have hl1_2 := HS1_2.out.lt
  have hl2_2 := HS2_2.out.lt
  have hl3_2 := HS3_2.out.lt
  go_wp2_with fail
  clear hal hst1
  have hsl := fun W => run_sl_all (P := Tryz.prog) arr64 W1.heap.size W
  refine Reg.wp_region_tail (R := ext) (W := W2) [Reg.eqv (.int .i64 (j : Int)), Reg.eqv (.int .i64 ((j : Int) * 64)), Reg.eqv (.int .i64 (32 + (j : Int) * 64)), Reg.eqv (.slice (some ⟨w.heap.size, 32 + j * 64, none⟩) (512 - (32 + j * 64)) (512 - (32 + j * 64))), Reg.eqv (.slice (some ⟨W1.heap.size, 0, none⟩) 64 64)] 24 5 _ [[(1, none)], [(17, some 0)], [(18, some 1)], [(3, none), (19, some 2)], [(7, none)]] rfl (by kernel_rfl) (by kernel_rfl) (by rfl) (by rfl) rfl (by kernel_rfl) ?_ [some 17, some 18, some 19, some 20, some 21] (by kernel_rfl) ?_
  · refine ⟨?_, ?_, ?_, ?_, ?_, trivial⟩
    · intro ax wx hx hs
      obtain ⟨e1, -⟩ := hs
      have g1 := Reg.ev (v := .int .i64 (j : Int)) e1
      exact Reg.obl_free rfl (Reg.wp_eqv (Option.some_ne_none _) (by go_simp) rfl)
    · intro ax wx hx hs
      obtain ⟨e17, -⟩ := hs
      have g17 := Reg.ev (v := .int .i64 (j : Int)) e17
      refine Reg.obl_free rfl ?_
      exact Reg.wp_eqv (Option.some_ne_none _) (by go_simp; exact IntWalk.i64_in _ (by omega)) rfl
    · intro ax wx hx hs
      obtain ⟨e18, -⟩ := hs
      have g18 := Reg.ev (v := .int .i64 ((j : Int) * 64)) e18
      refine Reg.obl_free rfl ?_
      exact Reg.wp_eqv (Option.some_ne_none _) (by go_simp; exact IntWalk.i64_in _ (by omega)) rfl
    · intro ax wx hx hs
      obtain ⟨e3, e19, -⟩ := hs
      have g3 := Reg.ev (v := .pointer (some ⟨w.heap.size, 0, none⟩)) e3
      have g19 := Reg.ev (v := .int .i64 (32 + (j : Int) * 64)) e19
      exact Reg.obl_free rfl (Reg.wp_eqv (Option.some_ne_none _) (by go_simp) rfl)
    · intro ax wx hx hs
      obtain ⟨e7, -⟩ := hs
      have g7 := Reg.ev (v := .pointer (some ⟨W1.heap.size, 0, none⟩)) e7
      exact Reg.obl_free rfl (Reg.wp_eqv (Option.some_ne_none _) (by go_simp) rfl)
  · intro W3 hwf
    simp only [Reg.Fin]
    rintro _ rfl _ rfl _ rfl _ rfl _ rfl
    have hwf' : Below W2.heap.size W2 W3 := hwf
    have hsrc := (HS3_2.out.next hwf').part 0 64 64 (by rw [SlotP.bytes_length]; omega) (by omega) (by unfold maxLen; omega)
    rw [List.drop_zero, List.take_of_length_le (by rw [SlotP.bytes_length]; omega)] at hsrc
    obtain ⟨W4, hcp, hV0, hg4⟩ := copy_bytes (P := Tryz.prog) 23 23 3 5 Tryz.underlying23 Be.sizeU8 (dLen := 512 - (32 + j * 64)) (dCap := 512 - (32 + j * 64)) (off := 32 + j * 64) (HS0_2.out.next hwf') hsrc (by rw [HL.out]; omega)
    rw [List.take_of_length_le (by rw [SlotP.bytes_length]; omega)] at hV0
    rw [show Nat.min 64 (512 - (32 + j * 64)) = 64 from Nat.min_eq_left (by omega)] at hcp
    have hV2 := (HS2_2.out.next hwf').grown hg4 (by omega)
    have HB4 := Lib.hid (below_grown (bstep HB_2.out hwf') hg4 (by omega))
    have hld := run_ld (P := Tryz.prog) arrPage hV0 HLO.out
    have hst := run_st (P := Tryz.prog) arrPage hV2 (by rw [rowV_size]; exact HZ.out) HLO.out
    have HB7 := Lib.hid (below_setRow HB4.out (by omega : w.heap.size ≤ w.heap.size + 1 + 1) (rowV (SlotP.over l (32 + j * 64) (SlotP.bytes ⟨s, k, kind, data, lo, hi, val⟩))))
    have HS7 := Lib.hid (hV2.setRow (cs' := rowV (SlotP.over l (32 + j * 64) (SlotP.bytes ⟨s, k, kind, data, lo, hi, val⟩))))
    clear hwf hwf' hV0 hV2 hg4 hsl hsl2 HB4 hsrc
    refine Reg.Goal.mk ?_
    go_simp
    clear hcp
    go_wp2_with fail
    exact bodyPost_ret (v := .agg (rowV (SlotP.over l (32 + j * 64) (SlotP.bytes ⟨s, k, kind, data, lo, hi, val⟩)))) (results_arr arrPage Tryz.results22 _ HS7.out HLO.out rfl) rfl ⟨rfl, HB7.out⟩

theorem withSlot_any (l : List UInt8) (hl : l.length = 512) (i : Int) (A : Option Addr) (n cap B : Nat) (x : Item) (w : World) (h : Bytes w B A n cap x.cell.data) (hB : B ≤ w.heap.size) (hk : x.key.size ≤ maxLen) :
    Calls Tryz.prog 22 #[.agg (rowV l), .int .i64 i, SlotW.itemV A n cap x] w fun e w' => e = .returned (.agg (rowV (PageP.withSlot l i x))) ∧ Below w.heap.size w w' := by
  unfold PageP.withSlot
  by_cases hi : i < 0 ∨ 7 ≤ i
  · rw [if_pos hi]
    exact withSlot_out l hl i hi A n cap x w
  · rw [if_neg hi]
    obtain ⟨j, rfl⟩ : ∃ j : Nat, i = (j : Int) := ⟨i.toNat, by omega⟩
    rw [show (j : Int).toNat = j by omega]
    exact withSlot_in l hl j (by omega) A n cap B x w h hB hk
end Go.Proofs.YtpklclnehlgcpaaGreat.PageW
end
section
namespace Go.Proofs.YtpklclnehlgcpaaGreat.RefCellGet
open Go.RowKit
attribute [local go_sem ↓] app_fold cut_fold

end Go.Proofs.YtpklclnehlgcpaaGreat.RefCellGet
end
section
namespace Go.Proofs.YtpklclnehlgcpaaGreat.RefBytes
open Go.RowKit
attribute [local go_sem ↓] app_fold

/-- what is left of a number when k bytes are gone -/
def sh (m : Int) (k : Nat) : Nat := BeP.u64 m / 256 ^ k
theorem sh_zero (m : Int) : sh m 0 = BeP.u64 m := by simp [sh]
theorem sh_succ (m : Int) (k : Nat) : sh m (k + 1) = sh m k / 256 := by
  unfold sh
  rw [Nat.div_div_eq_div_mul, Nat.pow_succ]
theorem sh_lt (m : Int) (k : Nat) : sh m k < 18446744073709551616 := Nat.lt_of_le_of_lt (Nat.div_le_self _ _) (NumP.u64_lt m)
theorem wrap_quo (q : Nat) (h : q < 18446744073709551616) : IntKind.u64.wrap ((q : Int) / 256) = ((q / 256 : Nat) : Int) := by
  have h2 : BeP.u64 ((q : Int) / 256) = q / 256 := by unfold BeP.u64; omega
  rw [BeP.u64_wrap, h2]
/-- what holds at a round's head -/
def Rel (w : World) (width : Nat) (m : Int) (u out i : Value) (wr : World) : Prop :=
  ∃ (k : Nat) (A : Option Addr) (c : Nat), k ≤ width ∧ i = .int .i64 k ∧ u = .int .u64 ((sh m k : Nat) : Int) ∧ out = .slice A k c ∧ Bytes wr wr.heap.size A k c ((BeP.parts width m).drop (width - k)) ∧ Below w.heap.size w wr

theorem drop_step (width : Nat) (m : Int) (k : Nat) (h : k < width) : (BeP.parts width m).drop (width - (k + 1)) = UInt8.ofNat (sh m k) :: (BeP.parts width m).drop (width - k) := by
  have hl : width - (k + 1) < (BeP.parts width m).length := by rw [BeP.parts_length]; omega
  rw [List.drop_eq_getElem_cons hl, show width - (k + 1) + 1 = width - k by omega]
  congr 1
  simp only [BeP.parts, List.getElem_map, List.getElem_range, BeP.part]
  have : (2 : Nat) ^ (8 * (width - 1 - (width - (k + 1)))) = 256 ^ k := by
    rw [show width - 1 - (width - (k + 1)) = k by omega, Nat.pow_mul]
  rw [this]
  rfl

set_option maxRecDepth 100000 in
set_option maxHeartbeats 1000000 in
theorem bytes_any (width : Nat) (m : Int) (w : World) (hw8 : width ≤ 8) :
    Calls Tryz.prog 33 #[.int .i64 (width : Int), .int .i64 m] w (GivesBytes w (BeP.parts width m)) := by
  obtain ⟨i0, hi, hz0, hz1, hz2⟩ := info_parts Be.infoU8
  have hw := BeP.u64_wrap m
  have h8 : decide ((width : Int) ≤ 8) = true := by simp; omega
  go_enter Tryz.func33, Tryz.ntmps33
  go_wp2
  go_loopw [5, 6, 7] (fun u out i wr => Rel w width m u out i wr) (fun _ _ i _ => width - (intOf i).toNat)
  case atStart => exact ⟨0, none, 0, Nat.zero_le _, rfl, by rw [sh_zero], rfl, by rw [List.drop_eq_nil_of_le (by rw [BeP.parts_length]; omega)]; exact Bytes.none_ w _, bsame w⟩
  case round =>
    obtain ⟨k, A, c, hk, rfl, rfl, rfl, hby, hb⟩ := hrel
    have HBY := Lib.hid hby
    have HB := Lib.hid hb
    clear hby hb hw
    by_cases hlt : k < width
    · have HD := Lib.hid (drop_step width m k hlt)
      have HP := Lib.hid (sh_succ m k)
      have HQ := Lib.hid (wrap_quo _ (sh_lt m k))
      obtain ⟨q, hq⟩ : ∃ q, sh m k = q := ⟨_, rfl⟩
      rw [hq] at HD HP HQ ⊢
      clear hq
      have hv : Value.int .u8 ((q : Int) % 256) = byteV (UInt8.ofNat q) := by
        unfold byteV
        have : (UInt8.ofNat q).toNat = q % 256 := by simp
        rw [this]
        simp
      have hown0 : (wr.alloc (.cells #[.int .u8 ((q : Int) % 256)] 5)).ownsRow w.heap.size 5 1 (.slice (some ⟨wr.heap.size, 0, none⟩) 1 1) 1 [byteV (UInt8.ofNat q)] :=
        ⟨rfl, .inr ⟨_, _, _, rfl, HB.out.size, heap_alloc_new wr _, Nat.le_refl _, by decide, rfl, by simp [hv]⟩⟩
      clear hv
      obtain ⟨v', w', happ, hown, hgrow⟩ := run_append_bytes (P := Tryz.prog) (wr.alloc (.cells #[.int .u8 ((q : Int) % 256)] 5)) w.heap.size 23 23 5 i0 _ Tryz.underlying23 hi hz0 hz1 hz2 rfl _ 1 _ hown0 wr.heap.size A k c _ (HBY.out.alloc (Nat.le_refl _) _) (by omega) (by have := HB.out.size; simp; omega)
      have hbw : Below w.heap.size w w' := (balloc HB.out _).grown hgrow (by have := HB.out.size; simp; omega) (own_block hown0)
      obtain ⟨A', n', c', rfl, hby'⟩ := Bytes.of_own (l := UInt8.ofNat q :: (BeP.parts width m).drop (width - k)) (by simpa using hown)
      have HBW := Lib.hid hbw
      have HBY' := Lib.hid hby'
      have HN := Lib.hid hby'.len
      clear hown0 hown hgrow hbw hby'
      go_wp2
      go_roundw
      case rel =>
        have hn : n' = k + 1 := by have := HN.out; simp [BeP.parts_length] at this; omega
        subst hn
        refine ⟨k + 1, A', c', by omega, by go_num, ?_, rfl, ?_, HBW.out⟩
        · rw [HP.out]
          exact congrArg (Value.int .u64) HQ.out
        · rw [HD.out]
          exact HBY'.out
      case measure => simp [intOf]; omega
    · go_wp2
      go_ret
      have hk' : width - k = 0 := by omega
      have := HBY.out
      rw [hk', List.drop_zero] at this
      exact ⟨A, k, c, rfl, this, HB.out⟩
end Go.Proofs.YtpklclnehlgcpaaGreat.RefBytes
end
section
namespace Go.Proofs.YtpklclnehlgcpaaGreat
open Go.RowKit

/-- a slice of the call's own: all of its memory is above base -/
def Own (w : World) (base : Nat) (A : Option Addr) (n c : Nat) (l : List UInt8) : Prop := w.ownsRow base 5 1 (.slice A n c) n (l.map byteV)
section
variable {w w' : World} {base n c : Nat} {A : Option Addr} {l : List UInt8}
theorem Own.bytes (h : Own w base A n c l) : Bytes w w.heap.size A n c l := Bytes.own h
theorem Own.len (h : Own w base A n c l) : l.length = n := (Own.bytes h).len
theorem Own.none_ (w : World) (base : Nat) : Own w base none 0 0 [] := World.ownsRow_nil _ _ _ _
theorem Own.next (h : Own w base A n c l) (hb : Below w.heap.size w w') : Own w' base A n c l := own_next h hb
theorem Own.alloc (h : Own w base A n c l) (o : Obj) : Own (w.alloc o) base A n c l := World.ownsRow.alloc h o
theorem Own.set (h : Own w base A n c l) {b : Nat} (hb : b < base) (i : Nat) (u : Value) : Own (w.setCell ⟨b, i, none⟩ u) base A n c l := own_set h hb i u
theorem Own.one (w : World) (base : Nat) (hb : base ≤ w.heap.size) (u : UInt8) : Own (w.alloc (.cells #[.int .u8 (u.toNat : Int)] 5)) base (some ⟨w.heap.size, 0, none⟩) 1 1 [u] :=
  ⟨rfl, .inr ⟨_, _, _, rfl, hb, heap_alloc_new w _, Nat.le_refl _, by decide, rfl, rfl⟩⟩
theorem Own.app (h : Own w base A n c l) {B m c2 : Nat} {A2 : Option Addr} {l2 : List UInt8} (h2 : Bytes w B A2 m c2 l2) (hn : n + m ≤ 140737488355328) (hb : base ≤ w.heap.size) :
    ∃ A' c' w', (appSem #[23, 23] 23 #[.slice A n c, .slice A2 m c2]).run Tryz.prog w = .ok (.slice A' (n + m) c') w' ∧ Own w' base A' (n + m) c' (l ++ l2) ∧ Below base w w' := by
  obtain ⟨i0, hi, hz0, hz1, hz2⟩ := info_parts Be.infoU8
  obtain ⟨v', w', happ, hown, hgrow⟩ := run_append_bytes (P := Tryz.prog) w base 23 23 5 i0 _ Tryz.underlying23 hi hz0 hz1 hz2 rfl (.slice A n c) n (l.map byteV) h B A2 m c2 l2 h2 hn hb
  obtain ⟨A', c', rfl⟩ := own_slice hown
  refine ⟨A', c', w', happ, by simpa [Own] using hown, (Below.refl _ w).grown hgrow hb (own_block h)⟩
theorem Own.empty (w : World) (base : Nat) (hb : base ≤ w.heap.size) : Own (w.alloc (.cells #[] 5)) base (some ⟨w.heap.size, 0, none⟩) 0 0 [] :=
  ⟨rfl, .inr ⟨_, _, _, rfl, hb, heap_alloc_new w _, Nat.le_refl _, by decide, rfl, rfl⟩⟩
end
end Go.Proofs.YtpklclnehlgcpaaGreat
end
section
namespace Go.Proofs.YtpklclnehlgcpaaGreat.RefCellBytes
open Go.RowKit
attribute [local go_sem ↓] app_fold

theorem bytes_rec (c : Cell) (hr : CellP.right c = true) (hk : c.kind = 1) : CellP.bytes c = [1] ++ ([UInt8.ofNat c.data.length] ++ c.data) := by
  unfold CellP.bytes
  rw [if_pos hr, if_pos hk]
  rfl
theorem bytes_cnt (c : Cell) (hr : CellP.right c = true) (hk : c.kind = 2) : CellP.bytes c = [2] ++ (BeP.parts 8 c.lo ++ (BeP.parts 8 c.hi ++ BeP.parts 8 c.val)) := by
  unfold CellP.bytes
  rw [if_pos hr, if_neg (by omega)]
set_option maxRecDepth 100000 in
set_option maxHeartbeats 1000000 in
theorem bytes_any (A : Option Addr) (n cap B : Nat) (x : Cell) (w : World) (h : Bytes w B A n cap x.data) (hB : B ≤ w.heap.size) :
    Calls Tryz.prog 52 #[.agg #[.int .i64 x.kind, .slice A n cap, .int .i64 x.lo, .int .i64 x.hi, .int .i64 x.val]] w (GivesBytes w (CellP.bytes x)) := by
  obtain ⟨i0, hi, hz0, hz1, hz2⟩ := info_parts Be.infoU8
  have hln := h.len
  have hmx := Nat.le_trans h.2.1 h.2.2.1
  have HR := Lib.hid (fun W => CellW.right_any A n cap x W hln hmx)
  have H := Lib.hid h
  cases hr : CellP.right x
  · have HB : Hid (CellP.bytes x = []) := Lib.hid (by simp [CellP.bytes, hr])
    rw [HB.out]
    have HRR := Lib.hid hr
    obtain ⟨kind, data, lo, hi', val⟩ := x
    dsimp only at *
    clear hr
    go_enter Tryz.func52, Tryz.ntmps52
    go_wp2_with fail
    refine (HR.out _).mono ?_
    rintro e w1 ⟨rfl, hb⟩
    rw [HRR.out]
    go_wp2_with fail
    go_ret
    exact ⟨none, 0, 0, rfl, Bytes.none_ _ _, bstep (balloc (bsame _) _) hb⟩
  · have HRR := Lib.hid hr
    by_cases hk : x.kind = 1
    · have HBY := Lib.hid (bytes_rec x hr hk)
      rw [HBY.out]
      have h32 : n ≤ 32 := by
        unfold CellP.right at hr
        rw [if_pos hk] at hr
        simp at hr
        omega
      obtain ⟨ys, hys⟩ : ∃ ys, [1] ++ ([UInt8.ofNat x.data.length] ++ x.data) = ys := ⟨_, rfl⟩
      rw [hys]
      have HYS := Lib.hid hys
      clear hys
      obtain ⟨kind, data, lo, hi', val⟩ := x
      dsimp only at *
      subst hk
      have hcv : ((n : Int) % 256) = (n : Int) := by omega
      have hu : ((UInt8.ofNat data.length).toNat : Int) = (n : Int) := by
        simp
        omega
      clear hr h
      go_enter Tryz.func52, Tryz.ntmps52
      go_wp2_with fail
      refine (HR.out _).mono ?_
      rintro e w1 ⟨rfl, hb⟩
      rw [HRR.out]
      have hS := (Str.new w #[.int .i64 1, .slice A n cap, .int .i64 lo, .int .i64 hi', .int .i64 val] 25).next hb
      have hD := (H.out.alloc hB (.cells #[.int .i64 1, .slice A n cap, .int .i64 lo, .int .i64 hi', .int .i64 val] 25)).below (hb.mono (by simp; omega))
      have hs1 := hb.size
      simp only [World.size_alloc] at hs1
      have hO1 := (Own.one w1 (w.heap.size + 1) (by omega) 1).alloc (.cells #[.int .u8 ((UInt8.ofNat data.length).toNat : Int)] 5)
      have hO2 := Own.one (w1.alloc (.cells #[.int .u8 ((1 : UInt8).toNat : Int)] 5)) 0 (by omega) (UInt8.ofNat data.length)
      obtain ⟨A3, c3, w3, happ3, hO3, hb3⟩ := hO1.app hO2.bytes (by omega) (by simp; omega)
      have hD3 := ((hD.alloc (by omega) (.cells #[.int .u8 ((1 : UInt8).toNat : Int)] 5)).alloc (by simp; omega) (.cells #[.int .u8 ((UInt8.ofNat data.length).toNat : Int)] 5)).below (hb3.mono (by omega))
      have hs3 := hb3.size
      simp only [World.size_alloc] at hs3
      obtain ⟨A4, c4, w4, happ4, hO4, hb4⟩ := hO3.app hD3 (by omega) (by omega)
      have hS3 := (hS.alloc _).alloc (.cells #[.int .u8 ((UInt8.ofNat data.length).toNat : Int)] 5) |>.below hb3 (by omega)
      obtain ⟨k0, k1, k2, k3, k4⟩ := str5 hS
      obtain ⟨q0, q1, q2, q3, q4⟩ := str5 hS3
      have HB4 : Hid (Below w.heap.size w w4) := Lib.hid ((bstep (balloc (bsame _) _) hb).trans (((balloc (balloc (bsame w1) _) _).mono (by omega)).trans ((hb3.mono (by omega)).trans (hb4.mono (by omega)))))
      have HO4 := Lib.hid hO4
      have hu1 : ((1 : UInt8).toNat : Int) = 1 := rfl
      simp only [hu, hu1, World.size_alloc] at happ3
      have HO4' : Hid (Own w4 (w.heap.size + 1) A4 (1 + 1 + n) c4 ([1] ++ ([UInt8.ofNat data.length] ++ data))) := Lib.hid (by simpa using HO4.out)
      have hs1' : w.heap.size < w1.heap.size := by omega
      have hs3' : w.heap.size < w3.heap.size := by omega
      clear hS hD hO1 hO2 hO3 hb3 hD3 hO4 hb4 hS3 hb
      have HLN := Lib.hid hln
      clear hln
      go_wp2_with fail
      go_ret
      rw [← HYS.out]
      exact ⟨A4, _, c4, rfl, HO4'.out.bytes, HB4.out⟩
    · have hk2 : x.kind = 2 := by
        unfold CellP.right at hr
        rw [if_neg hk] at hr
        simp at hr
        exact hr.1
      have HBY := Lib.hid (bytes_cnt x hr hk2)
      rw [HBY.out]
      obtain ⟨ys, hys⟩ : ∃ ys, [2] ++ (BeP.parts 8 x.lo ++ (BeP.parts 8 x.hi ++ BeP.parts 8 x.val)) = ys := ⟨_, rfl⟩
      rw [hys]
      have HYS := Lib.hid hys
      clear hys
      obtain ⟨kind, data, lo, hi', val⟩ := x
      dsimp only at *
      subst hk2
      clear hr h hk
      have HLN := Lib.hid hln
      clear hln
      go_enter Tryz.func52, Tryz.ntmps52
      go_wp2_with fail
      refine (HR.out _).mono ?_
      rintro e w1 ⟨rfl, hb⟩
      rw [HRR.out]
      have hS := (Str.new w #[.int .i64 2, .slice A n cap, .int .i64 lo, .int .i64 hi', .int .i64 val] 25).next hb
      have hs1 := hb.size
      simp only [World.size_alloc] at hs1
      have hs1' : w.heap.size < w1.heap.size := by omega
      have HO1 := Lib.hid (Own.one w1 (w.heap.size + 1) (by omega) 2)
      have HS := Lib.hid hS
      have HB1 := Lib.hid (bstep (balloc (bsame _) _) hb)
      obtain ⟨k0, k1, k2, k3, k4⟩ := str5 hS
      clear hS hb
      go_wp2_with fail
      refine (RefBytes.bytes_any 8 lo _ (by omega)).mono ?_
      rintro e w2 ⟨A2, n2, c2, rfl, hY2, hb2⟩
      obtain rfl : n2 = 8 := by rw [← hY2.len, BeP.parts_length]
      have hs2 := hb2.size
      simp only [World.size_alloc] at hs2
      obtain ⟨A3, c3, w3, happ3, hO3, hb3⟩ := (HO1.out.next hb2).app hY2 (by omega) (by omega)
      have hs3 := hb3.size
      have HB3 : Hid (Below w.heap.size w w3) := Lib.hid (HB1.out.trans (((balloc (bsame w1) _).mono (by omega)).trans ((hb2.mono (by simp; omega)).trans (hb3.mono (by omega)))))
      have hS3 := ((HS.out.alloc _).next hb2).below hb3 (by omega)
      have HS3 := Lib.hid hS3
      have HO3 := Lib.hid hO3
      have hs3' : w.heap.size < w3.heap.size := by omega
      obtain ⟨p0, p1, p2, p3, p4⟩ := str5 hS3
      clear hS3 hO3 hb3 hb2 hY2
      go_wp2_with fail
      refine (RefBytes.bytes_any 8 hi' _ (by omega)).mono ?_
      rintro e w4 ⟨A4, n4, c4, rfl, hY4, hb4⟩
      obtain rfl : n4 = 8 := by rw [← hY4.len, BeP.parts_length]
      have hs4 := hb4.size
      obtain ⟨A5, c5, w5, happ5, hO5, hb5⟩ := (HO3.out.next hb4).app hY4 (by omega) (by omega)
      have hs5 := hb5.size
      have HB5 : Hid (Below w.heap.size w w5) := Lib.hid (HB3.out.trans ((hb4.mono (by omega)).trans (hb5.mono (by omega))))
      have hS5 := (HS3.out.next hb4).below hb5 (by omega)
      have HO5 := Lib.hid hO5
      have hs5' : w.heap.size < w5.heap.size := by omega
      obtain ⟨r0, r1, r2, r3, r4⟩ := str5 hS5
      clear hS5 hO5 hb5 hb4 hY4
      go_wp2_with fail
      refine (RefBytes.bytes_any 8 val _ (by omega)).mono ?_
      rintro e w6 ⟨A6, n6, c6, rfl, hY6, hb6⟩
      obtain rfl : n6 = 8 := by rw [← hY6.len, BeP.parts_length]
      have hs6 := hb6.size
      obtain ⟨A7, c7, w7, happ7, hO7, hb7⟩ := (HO5.out.next hb6).app hY6 (by omega) (by omega)
      have HB7 : Hid (Below w.heap.size w w7) := Lib.hid (HB5.out.trans ((hb6.mono (by omega)).trans (hb7.mono (by omega))))
      have HO7 := Lib.hid hO7
      clear hO7 hb7 hb6 hY6
      go_wp2_with fail
      go_ret
      rw [← HYS.out]
      have := HO7.out.bytes
      simp only [List.append_assoc] at this
      exact ⟨A7, _, c7, rfl, this, HB7.out⟩
end Go.Proofs.YtpklclnehlgcpaaGreat.RefCellBytes
end
