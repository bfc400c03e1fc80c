/-
  The walk of PageSlots: the Go text returns true for every input, and writes nothing that was there.
-/
import Derived.Test.YtjengjbkdflapaaOpen3
import Derived.Test.YtjengjbkdflapaaLive07
import Derived.Test.YtjengjbkdflapaaRefPage2
namespace Go.Proofs.Ytjengjbkdflapaa.pageSlots
open Go.RowKit
attribute [local go_sem ↓] alPage_fold ldPage_fold stPage_fold bdPage_fold slPage_fold ld512_fold sl512_fold

set_option maxRecDepth 100000 in
set_option maxHeartbeats 2000000 in
theorem walk (v0 v1 v2 : Value) (l : List UInt8) (i : Int) (a2 : Item) (w : World) (g0 : RArr 512 v0 l) (g1 : RInt w v1 i) (g2 : RItem w w.heap.size v2 a2) :
    Calls Try.prog 7 #[v0, v1, v2] w fun e w' => e = .returned (.bool true) ∧ Below w.heap.size w w' := by
  obtain ⟨rfl, hl⟩ := g0
  obtain ⟨rfl, -⟩ := g1
  obtain ⟨A, n, cap, rfl, hA, hka, -⟩ := g2
  have HL := Lib.hid hl
  have HA := Lib.hid hA
  have HKA := Lib.hid hka
  have hn := Nat.le_trans hA.2.1 hA.2.2.1
  unfold maxLen at hn hka
  clear hA hl
  obtain ⟨s, k, kind, data, lo, hi, val⟩ := a2
  dsimp only at *
  by_cases hbig : 300 < k.size
  · go_enter Try.func7, Try.ntmps7
    go_wp2_with (go_at_call 35; refine (Live07.live_any _).mono ?_; rintro e w' ⟨rfl, hb⟩)
    go_ret
    exact ⟨rfl, bstep (balloc (balloc (bsame w) _) _) hb⟩
  by_cases hbig' : 300 < n
  · go_enter Try.func7, Try.ntmps7
    go_wp2_with (go_at_call 35; refine (Live07.live_any _).mono ?_; rintro e w' ⟨rfl, hb⟩)
    go_ret
    exact ⟨rfl, bstep (balloc (balloc (bsame w) _) _) hb⟩
  obtain ⟨W0, hW0⟩ : ∃ W0, ((w).alloc (.cells (rowV l) 50)).alloc (.cells #[.int .i64 s, .string k, .int .i64 kind, .slice A n cap, .int .i64 lo, .int .i64 hi, .int .i64 val] 38) = W0 := ⟨_, rfl⟩
  have HS0_0 : Hid (Str W0 (w.heap.size) (rowV l)) := Lib.hid (by rw [← hW0]; have := (Str.new (w) (rowV l) 50).alloc (.cells #[.int .i64 s, .string k, .int .i64 kind, .slice A n cap, .int .i64 lo, .int .i64 hi, .int .i64 val] 38); simpa using this)
  have HS1_0 : Hid (Str W0 (w.heap.size + 1) #[.int .i64 s, .string k, .int .i64 kind, .slice A n cap, .int .i64 lo, .int .i64 hi, .int .i64 val]) := Lib.hid (by rw [← hW0]; have := Str.new ((w).alloc (.cells (rowV l) 50)) #[.int .i64 s, .string k, .int .i64 kind, .slice A n cap, .int .i64 lo, .int .i64 hi, .int .i64 val] 38; simpa using this)
  have HB_0 : Hid (Below w.heap.size w W0) := Lib.hid (by rw [← hW0]; exact balloc (balloc (bsame w) _) _)
  have hw_0 := HB_0.out.size
  have hz0 : W0.heap.size = w.heap.size + 1 + 1 := by rw [← hW0]; simp
  have HW0 := Lib.hid hW0
  have hl0_0 := HS0_0.out.lt
  have hl1_0 := HS1_0.out.lt
  have hld := run_ld (P := Try.prog) arr512 HS0_0.out HL.out
  have hal := fun W => run_al (P := Try.prog) arrPage W
  have hst0 := run_st (P := Try.prog) arrPage (Str.new W0 (rowV (SlotP.zeros 512)) 51) (by rw [rowV_size]; exact SlotPut.zeros_len 512) (HL.out)
  obtain ⟨W1, hW1⟩ : ∃ W, (W0.alloc (.cells (rowV (SlotP.zeros 512)) 51)).setRow W0.heap.size (rowV l) = W := ⟨_, rfl⟩
  rw [hW1] at hst0
  rw [hz0] at hst0
  have HS0_1 : Hid (Str W1 (w.heap.size) (rowV l)) := Lib.hid (by rw [← hW1]; exact (HS0_0.out.alloc _).setRow_other (by omega))
  have HS1_1 : Hid (Str W1 (w.heap.size + 1) #[.int .i64 s, .string k, .int .i64 kind, .slice A n cap, .int .i64 lo, .int .i64 hi, .int .i64 val]) := Lib.hid (by rw [← hW1]; exact (HS1_0.out.alloc _).setRow_other (by omega))
  have HS2_1 : Hid (Str W1 (w.heap.size + 1 + 1) (rowV l)) := Lib.hid (by rw [← hW1, ← hz0]; exact (Str.new W0 (rowV (SlotP.zeros 512)) 51).setRow)
  have hba1 : Below W0.heap.size W0 W1 := by rw [← hW1]; exact below_setRow (balloc (bsame _) _) (Nat.le_refl _) _
  have HB_1 := Lib.hid (bstep HB_0.out hba1)
  have hw_1 := HB_1.out.size
  have hws_1 := hba1.size
  clear hW1 hba1
  clear HS0_0 HS1_0
  have hl0_1 := HS0_1.out.lt
  obtain ⟨f1_1_0, f1_1_1, f1_1_2, f1_1_3, f1_1_4, f1_1_5, f1_1_6⟩ := str7 HS1_1.out
  have hl1_1 := HS1_1.out.lt
  have hl2_1 := HS2_1.out.lt
  rw [← hW0] at hld hst0
  clear hW0 hz0
  have hldp := run_ld (P := Try.prog) arrPage HS2_1.out HL.out
  go_enter Try.func7, Try.ntmps7
  go_wp2_with fail
  have HRS := Lib.hid (fun W => PageW.slot_any l HL.out i W)
  have HRQ := Lib.hid (fun (A : Option Addr) (c B : Nat) W (h : Bytes W B A 512 c l) hB => RefPage.slot_any A c B l i W h hB)
  generalize PageP.slot l i = r at *
  obtain ⟨⟨rs, rk, rkind, rdata, rlo, rhi, rval⟩, er⟩ := r
  refine (HRS.out _).mono ?_
  rintro e W2 ⟨A2, n2, c2, rfl, hy2, hb2⟩
  dsimp only at *
  have HS0_2 := Lib.hid (HS0_1.out.next hb2)
  have HS1_2 := Lib.hid (HS1_1.out.next hb2)
  have HS2_2 := Lib.hid (HS2_1.out.next hb2)
  have HB_2 := Lib.hid (bstep HB_1.out hb2)
  have hw_2 := HB_2.out.size
  have hws_2 := (hb2).size
  clear HS0_1 f1_1_0 f1_1_1 f1_1_2 f1_1_3 f1_1_4 f1_1_5 f1_1_6 HS1_1 HS2_1
  clear hb2
  have hl0_2 := HS0_2.out.lt
  obtain ⟨f1_2_0, f1_2_1, f1_2_2, f1_2_3, f1_2_4, f1_2_5, f1_2_6⟩ := str7 HS1_2.out
  have hl1_2 := HS1_2.out.lt
  have hl2_2 := HS2_2.out.lt
  have HYz_2 := Lib.hid (hy2)
  clear hy2
  clear hld hldp hst0 hal HRS
  have hsl := fun W => run_sl_all (P := Try.prog) arr512 w.heap.size W
  go_wp2_with fail
  generalize hW3 : W2.alloc (.cells #[.int .i64 rs, .string rk, .int .i64 rkind, .slice A2 n2 c2, .int .i64 rlo, .int .i64 rhi, .int .i64 rval] 38) = W3
  have HS0_3 : Hid (Str W3 (w.heap.size) (rowV l)) := Lib.hid (by rw [← hW3]; exact HS0_2.out.alloc _)
  have HS1_3 : Hid (Str W3 (w.heap.size + 1) #[.int .i64 s, .string k, .int .i64 kind, .slice A n cap, .int .i64 lo, .int .i64 hi, .int .i64 val]) := Lib.hid (by rw [← hW3]; exact HS1_2.out.alloc _)
  have HS2_3 : Hid (Str W3 (w.heap.size + 1 + 1) (rowV l)) := Lib.hid (by rw [← hW3]; exact HS2_2.out.alloc _)
  have HS3_3 : Hid (Str W3 W2.heap.size #[.int .i64 rs, .string rk, .int .i64 rkind, .slice A2 n2 c2, .int .i64 rlo, .int .i64 rhi, .int .i64 rval]) := Lib.hid (by rw [← hW3]; exact Str.new W2 #[.int .i64 rs, .string rk, .int .i64 rkind, .slice A2 n2 c2, .int .i64 rlo, .int .i64 rhi, .int .i64 rval] 38)
  have hba3 : Below W2.heap.size W2 W3 := by rw [← hW3]; exact balloc (bsame _) _
  have HB_3 := Lib.hid (bstep HB_2.out hba3)
  have hw_3 := HB_3.out.size
  have hws_3 := hba3.size
  have HYz_3 := Lib.hid (HYz_2.out.next hba3)
  clear HYz_2
  clear hW3
  clear HS0_2 f1_2_0 f1_2_1 f1_2_2 f1_2_3 f1_2_4 f1_2_5 f1_2_6 HS1_2 HS2_2
  have hl0_3 := HS0_3.out.lt
  obtain ⟨f1_3_0, f1_3_1, f1_3_2, f1_3_3, f1_3_4, f1_3_5, f1_3_6⟩ := str7 HS1_3.out
  have hl1_3 := HS1_3.out.lt
  have hl2_3 := HS2_3.out.lt
  obtain ⟨f3_3_0, f3_3_1, f3_3_2, f3_3_3, f3_3_4, f3_3_5, f3_3_6⟩ := str7 HS3_3.out
  have hl3_3 := HS3_3.out.lt
  clear hba3
  have hpt := HS0_3.out.part 0 512 512 (by rw [HL.out]; omega) (by omega) (by unfold maxLen; omega)
  rw [List.drop_zero, List.take_of_length_le (by rw [HL.out]; omega)] at hpt
  refine (HRQ.out _ _ _ _ hpt (Nat.le_refl _)).mono ?_
  rintro e W4 ⟨A4, n4, c4, rfl, hy4, hb4⟩
  dsimp only at *
  clear hpt HRQ
  have HS0_4 := Lib.hid (HS0_3.out.next hb4)
  have HS1_4 := Lib.hid (HS1_3.out.next hb4)
  have HS2_4 := Lib.hid (HS2_3.out.next hb4)
  have HS3_4 := Lib.hid (HS3_3.out.next hb4)
  have HB_4 := Lib.hid (bstep HB_3.out hb4)
  have hw_4 := HB_4.out.size
  have hws_4 := (hb4).size
  have HYz_4 := Lib.hid (HYz_3.out.next hb4)
  clear HYz_3
  clear HS0_3 f1_3_0 f1_3_1 f1_3_2 f1_3_3 f1_3_4 f1_3_5 f1_3_6 HS1_3 HS2_3 f3_3_0 f3_3_1 f3_3_2 f3_3_3 f3_3_4 f3_3_5 f3_3_6 HS3_3
  clear hb4
  have hl0_4 := HS0_4.out.lt
  obtain ⟨f1_4_0, f1_4_1, f1_4_2, f1_4_3, f1_4_4, f1_4_5, f1_4_6⟩ := str7 HS1_4.out
  have hl1_4 := HS1_4.out.lt
  have hl2_4 := HS2_4.out.lt
  obtain ⟨f3_4_0, f3_4_1, f3_4_2, f3_4_3, f3_4_4, f3_4_5, f3_4_6⟩ := str7 HS3_4.out
  have hl3_4 := HS3_4.out.lt
  have HYy_4 := Lib.hid (hy4)
  clear hy4
  go_wp2_with fail
  generalize hW5 : W4.alloc (.cells #[.int .i64 rs, .string rk, .int .i64 rkind, .slice A4 n4 c4, .int .i64 rlo, .int .i64 rhi, .int .i64 rval] 38) = W5
  have HS0_5 : Hid (Str W5 (w.heap.size) (rowV l)) := Lib.hid (by rw [← hW5]; exact HS0_4.out.alloc _)
  have HS1_5 : Hid (Str W5 (w.heap.size + 1) #[.int .i64 s, .string k, .int .i64 kind, .slice A n cap, .int .i64 lo, .int .i64 hi, .int .i64 val]) := Lib.hid (by rw [← hW5]; exact HS1_4.out.alloc _)
  have HS2_5 : Hid (Str W5 (w.heap.size + 1 + 1) (rowV l)) := Lib.hid (by rw [← hW5]; exact HS2_4.out.alloc _)
  have HS3_5 : Hid (Str W5 (W2.heap.size) #[.int .i64 rs, .string rk, .int .i64 rkind, .slice A2 n2 c2, .int .i64 rlo, .int .i64 rhi, .int .i64 rval]) := Lib.hid (by rw [← hW5]; exact HS3_4.out.alloc _)
  have HS4_5 : Hid (Str W5 W4.heap.size #[.int .i64 rs, .string rk, .int .i64 rkind, .slice A4 n4 c4, .int .i64 rlo, .int .i64 rhi, .int .i64 rval]) := Lib.hid (by rw [← hW5]; exact Str.new W4 #[.int .i64 rs, .string rk, .int .i64 rkind, .slice A4 n4 c4, .int .i64 rlo, .int .i64 rhi, .int .i64 rval] 38)
  have hba5 : Below W4.heap.size W4 W5 := by rw [← hW5]; exact balloc (bsame _) _
  have HB_5 := Lib.hid (bstep HB_4.out hba5)
  have hw_5 := HB_5.out.size
  have hws_5 := hba5.size
  have HYz_5 := Lib.hid (HYz_4.out.next hba5)
  have HYy_5 := Lib.hid (HYy_4.out.next hba5)
  clear HYz_4 HYy_4
  clear hW5
  clear HS0_4 f1_4_0 f1_4_1 f1_4_2 f1_4_3 f1_4_4 f1_4_5 f1_4_6 HS1_4 HS2_4 f3_4_0 f3_4_1 f3_4_2 f3_4_3 f3_4_4 f3_4_5 f3_4_6 HS3_4
  have hl0_5 := HS0_5.out.lt
  obtain ⟨f1_5_0, f1_5_1, f1_5_2, f1_5_3, f1_5_4, f1_5_5, f1_5_6⟩ := str7 HS1_5.out
  have hl1_5 := HS1_5.out.lt
  have hl2_5 := HS2_5.out.lt
  obtain ⟨f3_5_0, f3_5_1, f3_5_2, f3_5_3, f3_5_4, f3_5_5, f3_5_6⟩ := str7 HS3_5.out
  have hl3_5 := HS3_5.out.lt
  obtain ⟨f4_5_0, f4_5_1, f4_5_2, f4_5_3, f4_5_4, f4_5_5, f4_5_6⟩ := str7 HS4_5.out
  have hl4_5 := HS4_5.out.lt
  clear hba5
  have hldp := run_ld (P := Try.prog) arrPage HS2_5.out HL.out
  go_simp
  go_wp2_with fail
  refine (PageW.withSlot_any l HL.out i A n cap w.heap.size ⟨s, k, kind, data, lo, hi, val⟩ _ (HA.out.below HB_5.out) HB_5.out.size HKA.out).mono ?_
  rintro e W6 ⟨rfl, hb6⟩
  clear hldp
  have HS0_6 := Lib.hid (HS0_5.out.next hb6)
  have HS1_6 := Lib.hid (HS1_5.out.next hb6)
  have HS2_6 := Lib.hid (HS2_5.out.next hb6)
  have HS3_6 := Lib.hid (HS3_5.out.next hb6)
  have HS4_6 := Lib.hid (HS4_5.out.next hb6)
  have HB_6 := Lib.hid (bstep HB_5.out hb6)
  have hw_6 := HB_6.out.size
  have hws_6 := (hb6).size
  have HYz_6 := Lib.hid (HYz_5.out.next hb6)
  have HYy_6 := Lib.hid (HYy_5.out.next hb6)
  clear HYz_5 HYy_5
  clear HS0_5 f1_5_0 f1_5_1 f1_5_2 f1_5_3 f1_5_4 f1_5_5 f1_5_6 HS1_5 HS2_5 f3_5_0 f3_5_1 f3_5_2 f3_5_3 f3_5_4 f3_5_5 f3_5_6 HS3_5 f4_5_0 f4_5_1 f4_5_2 f4_5_3 f4_5_4 f4_5_5 f4_5_6 HS4_5
  clear hb6
  have hl0_6 := HS0_6.out.lt
  obtain ⟨f1_6_0, f1_6_1, f1_6_2, f1_6_3, f1_6_4, f1_6_5, f1_6_6⟩ := str7 HS1_6.out
  have hl1_6 := HS1_6.out.lt
  have hl2_6 := HS2_6.out.lt
  obtain ⟨f3_6_0, f3_6_1, f3_6_2, f3_6_3, f3_6_4, f3_6_5, f3_6_6⟩ := str7 HS3_6.out
  have hl3_6 := HS3_6.out.lt
  obtain ⟨f4_6_0, f4_6_1, f4_6_2, f4_6_3, f4_6_4, f4_6_5, f4_6_6⟩ := str7 HS4_6.out
  have hl4_6 := HS4_6.out.lt
  have HLW := Lib.hid (PageP.withSlot_length l HL.out i ⟨s, k, kind, data, lo, hi, val⟩)
  have hal := fun W => run_al (P := Try.prog) arrPage W
  have hst6 := run_st (P := Try.prog) arrPage (Str.new W6 (rowV (SlotP.zeros 512)) 51) (by rw [rowV_size]; exact SlotPut.zeros_len 512) (HLW.out)
  obtain ⟨W7, hW7⟩ : ∃ W, (W6.alloc (.cells (rowV (SlotP.zeros 512)) 51)).setRow W6.heap.size (rowV (PageP.withSlot l i ⟨s, k, kind, data, lo, hi, val⟩)) = W := ⟨_, rfl⟩
  rw [hW7] at hst6
  have HS0_7 : Hid (Str W7 (w.heap.size) (rowV l)) := Lib.hid (by rw [← hW7]; exact (HS0_6.out.alloc _).setRow_other (by omega))
  have HS1_7 : Hid (Str W7 (w.heap.size + 1) #[.int .i64 s, .string k, .int .i64 kind, .slice A n cap, .int .i64 lo, .int .i64 hi, .int .i64 val]) := Lib.hid (by rw [← hW7]; exact (HS1_6.out.alloc _).setRow_other (by omega))
  have HS2_7 : Hid (Str W7 (w.heap.size + 1 + 1) (rowV l)) := Lib.hid (by rw [← hW7]; exact (HS2_6.out.alloc _).setRow_other (by omega))
  have HS3_7 : Hid (Str W7 (W2.heap.size) #[.int .i64 rs, .string rk, .int .i64 rkind, .slice A2 n2 c2, .int .i64 rlo, .int .i64 rhi, .int .i64 rval]) := Lib.hid (by rw [← hW7]; exact (HS3_6.out.alloc _).setRow_other (by omega))
  have HS4_7 : Hid (Str W7 (W4.heap.size) #[.int .i64 rs, .string rk, .int .i64 rkind, .slice A4 n4 c4, .int .i64 rlo, .int .i64 rhi, .int .i64 rval]) := Lib.hid (by rw [← hW7]; exact (HS4_6.out.alloc _).setRow_other (by omega))
  have HS5_7 : Hid (Str W7 (W6.heap.size) (rowV (PageP.withSlot l i ⟨s, k, kind, data, lo, hi, val⟩))) := Lib.hid (by rw [← hW7]; exact (Str.new W6 (rowV (SlotP.zeros 512)) 51).setRow)
  have hba7 : Below W6.heap.size W6 W7 := by rw [← hW7]; exact below_setRow (balloc (bsame _) _) (Nat.le_refl _) _
  have HB_7 := Lib.hid (bstep HB_6.out hba7)
  have hw_7 := HB_7.out.size
  have hws_7 := hba7.size
  have HYz_7 := Lib.hid (HYz_6.out.next hba7)
  have HYy_7 := Lib.hid (HYy_6.out.next hba7)
  clear HYz_6 HYy_6
  clear hW7 hba7
  clear HS0_6 f1_6_0 f1_6_1 f1_6_2 f1_6_3 f1_6_4 f1_6_5 f1_6_6 HS1_6 HS2_6 f3_6_0 f3_6_1 f3_6_2 f3_6_3 f3_6_4 f3_6_5 f3_6_6 HS3_6 f4_6_0 f4_6_1 f4_6_2 f4_6_3 f4_6_4 f4_6_5 f4_6_6 HS4_6
  have hl0_7 := HS0_7.out.lt
  obtain ⟨f1_7_0, f1_7_1, f1_7_2, f1_7_3, f1_7_4, f1_7_5, f1_7_6⟩ := str7 HS1_7.out
  have hl1_7 := HS1_7.out.lt
  have hl2_7 := HS2_7.out.lt
  obtain ⟨f3_7_0, f3_7_1, f3_7_2, f3_7_3, f3_7_4, f3_7_5, f3_7_6⟩ := str7 HS3_7.out
  have hl3_7 := HS3_7.out.lt
  obtain ⟨f4_7_0, f4_7_1, f4_7_2, f4_7_3, f4_7_4, f4_7_5, f4_7_6⟩ := str7 HS4_7.out
  have hl4_7 := HS4_7.out.lt
  have hl5_7 := HS5_7.out.lt
  go_wp2_with fail
  clear hal hst6
  have hsl2 := fun W => run_sl_all (P := Try.prog) arrPage W6.heap.size W
  refine Reg.wp_region_vals (R := ext) (W := W7) [Reg.eqv (.agg #[.int .i64 rs, .string rk, .int .i64 rkind, .slice A2 n2 c2, .int .i64 rlo, .int .i64 rhi, .int .i64 rval]), Reg.eqv (.agg #[.int .i64 rs, .string rk, .int .i64 rkind, .slice A4 n4 c4, .int .i64 rlo, .int .i64 rhi, .int .i64 rval]), Reg.eqv (.bool true), Reg.eqv (.bool true), Reg.eqv (.int .i64 er), Reg.eqv (.int .i64 er), Reg.eqv (.int .i64 er), Reg.eqv (.bool true), Reg.eqv (.bool true), Reg.eqv (.bool true), Reg.eqv (.slice (some ⟨W6.heap.size, 0, none⟩) 512 512), Reg.eqv (.slice (some ⟨w.heap.size, 0, none⟩) 512 512), Reg.eqv (.int .i64 i), Reg.eqv (.agg #[.int .i64 s, .string k, .int .i64 kind, .slice A n cap, .int .i64 lo, .int .i64 hi, .int .i64 val]), Reg.bytes (PageP.withSlot l i ⟨s, k, kind, data, lo, hi, val⟩), Reg.eqv (.bool true), Reg.eqv (.bool true), Reg.eqv (.bool true), Reg.eqv (.bool true), Reg.eqv (.bool true), Reg.eqv (.bool true)] 62 [[(8, none)], [(10, none)], [(42, some 0), (43, some 1)], [(44, some 2)], [(9, none), (45, some 3)], [(46, some 4), (45, some 3)], [(11, none), (45, some 3)], [(47, some 5), (48, some 6), (45, some 3)], [(45, some 3), (49, some 7)], [(50, some 8)], [(12, none), (51, some 9)], [(3, none), (51, some 9)], [(1, none), (51, some 9)], [(5, none), (51, some 9)], [(53, some 11), (54, some 12), (55, some 13), (51, some 9)], [(52, some 10), (56, some 14), (51, some 9)], [(51, some 9), (57, some 15)], [(58, some 16)], [(59, some 17)], [(59, some 17), (60, some 18)], [(61, some 19)]] rfl (by kernel_rfl) (by kernel_rfl) (by kernel_rfl) ?_ [some 42, some 43, some 44, some 45, some 46, some 47, some 48, some 49, some 50, some 51, some 52, some 53, some 54, some 55, some 56, some 57, some 58, some 59, some 60, some 61, some 6] (by kernel_rfl) ?_
  · refine ⟨?_, ?_, ?_, ?_, ?_, ?_, ?_, ?_, ?_, ?_, ?_, ?_, ?_, ?_, ?_, ?_, ?_, ?_, ?_, ?_, ?_, trivial⟩
    · intro ax wx hx hs
      obtain ⟨e8, -⟩ := hs
      have g8 := Reg.ev (v := .pointer (some ⟨W2.heap.size, 0, none⟩)) e8
      obtain ⟨hc, -⟩ := bcell hx
      exact Reg.obl_free rfl (Reg.wp_eqv (Option.some_ne_none _) (by go_simp) rfl)
    · intro ax wx hx hs
      obtain ⟨e10, -⟩ := hs
      have g10 := Reg.ev (v := .pointer (some ⟨W4.heap.size, 0, none⟩)) e10
      obtain ⟨hc, -⟩ := bcell hx
      exact Reg.obl_free rfl (Reg.wp_eqv (Option.some_ne_none _) (by go_simp) rfl)
    · intro ax wx hx hs
      obtain ⟨e42, e43, -⟩ := hs
      have g42 := Reg.ev (v := .agg #[.int .i64 rs, .string rk, .int .i64 rkind, .slice A2 n2 c2, .int .i64 rlo, .int .i64 rhi, .int .i64 rval]) e42
      have g43 := Reg.ev (v := .agg #[.int .i64 rs, .string rk, .int .i64 rkind, .slice A4 n4 c4, .int .i64 rlo, .int .i64 rhi, .int .i64 rval]) e43
      refine Reg.obl_free rfl ?_
      have hx' : Below W7.heap.size W7 wx := hx
      go_simp
      refine (SlotW.refSame_any A2 A4 n2 c2 n4 c4 W7.heap.size W7.heap.size ⟨rs, rk, rkind, rdata, rlo, rhi, rval⟩ ⟨rs, rk, rkind, rdata, rlo, rhi, rval⟩ _ (HYz_7.out.below hx') (HYy_7.out.below hx') hx'.size hx'.size).mono ?_
      rintro e wy ⟨rfl, hby⟩
      rw [SlotP.same_self]
      exact Reg.done (Option.some_ne_none _) rfl hby
    · intro ax wx hx hs
      obtain ⟨e44, -⟩ := hs
      have g44 := Reg.ev (v := .bool true) e44
      exact Reg.obl_free rfl (Reg.wp_eqv (Option.some_ne_none _) (by go_simp) rfl)
    · intro ax wx hx hs
      obtain ⟨e9, e45, -⟩ := hs
      have g9 := Reg.ev (v := .int .i64 er) e9
      have g45 := Reg.ev (v := .bool true) e45
      exact Reg.obl_want rfl rfl e45 (Reg.wp_eqv (Option.some_ne_none _) (by go_simp) rfl)
    · intro ax wx hx hs
      obtain ⟨e46, e45, -⟩ := hs
      have g46 := Reg.ev (v := .int .i64 er) e46
      have g45 := Reg.ev (v := .bool true) e45
      refine Reg.obl_want rfl rfl e45 ?_
      go_simp
      refine (Live07.code_any _ _).mono ?_
      rintro e wy ⟨rfl, rfl⟩
      exact Reg.done (Option.some_ne_none _) rfl (bsame _)
    · intro ax wx hx hs
      obtain ⟨e11, e45, -⟩ := hs
      have g11 := Reg.ev (v := .int .i64 er) e11
      have g45 := Reg.ev (v := .bool true) e45
      exact Reg.obl_want rfl rfl e45 (Reg.wp_eqv (Option.some_ne_none _) (by go_simp) rfl)
    · intro ax wx hx hs
      obtain ⟨e47, e48, e45, -⟩ := hs
      have g47 := Reg.ev (v := .int .i64 er) e47
      have g48 := Reg.ev (v := .int .i64 er) e48
      have g45 := Reg.ev (v := .bool true) e45
      exact Reg.obl_want rfl rfl e45 (Reg.wp_eqv (Option.some_ne_none _) (by go_simp) rfl)
    · intro ax wx hx hs
      obtain ⟨e45, e49, -⟩ := hs
      have g45 := Reg.ev (v := .bool true) e45
      have g49 := Reg.ev (v := .bool true) e49
      exact Reg.obl_free rfl (Reg.wp_eqv (Option.some_ne_none _) (by go_simp) rfl)
    · intro ax wx hx hs
      obtain ⟨e50, -⟩ := hs
      have g50 := Reg.ev (v := .bool true) e50
      exact Reg.obl_free rfl (Reg.wp_eqv (Option.some_ne_none _) (by go_simp) rfl)
    · intro ax wx hx hs
      obtain ⟨e12, e51, -⟩ := hs
      have g12 := Reg.ev (v := .pointer (some ⟨W6.heap.size, 0, none⟩)) e12
      have g51 := Reg.ev (v := .bool true) e51
      exact Reg.obl_want rfl rfl e51 (Reg.wp_eqv (Option.some_ne_none _) (by go_simp) rfl)
    · intro ax wx hx hs
      obtain ⟨e3, e51, -⟩ := hs
      have g3 := Reg.ev (v := .pointer (some ⟨w.heap.size, 0, none⟩)) e3
      have g51 := Reg.ev (v := .bool true) e51
      exact Reg.obl_want rfl rfl e51 (Reg.wp_eqv (Option.some_ne_none _) (by go_simp) rfl)
    · intro ax wx hx hs
      obtain ⟨e1, e51, -⟩ := hs
      have g1 := Reg.ev (v := .int .i64 i) e1
      have g51 := Reg.ev (v := .bool true) e51
      exact Reg.obl_want rfl rfl e51 (Reg.wp_eqv (Option.some_ne_none _) (by go_simp) rfl)
    · intro ax wx hx hs
      obtain ⟨e5, e51, -⟩ := hs
      have g5 := Reg.ev (v := .pointer (some ⟨w.heap.size + 1, 0, none⟩)) e5
      have g51 := Reg.ev (v := .bool true) e51
      obtain ⟨hc, -⟩ := bcell hx
      exact Reg.obl_want rfl rfl e51 (Reg.wp_eqv (Option.some_ne_none _) (by go_simp) rfl)
    · intro ax wx hx hs
      obtain ⟨e53, e54, e55, e51, -⟩ := hs
      have g53 := Reg.ev (v := .slice (some ⟨w.heap.size, 0, none⟩) 512 512) e53
      have g54 := Reg.ev (v := .int .i64 i) e54
      have g55 := Reg.ev (v := .agg #[.int .i64 s, .string k, .int .i64 kind, .slice A n cap, .int .i64 lo, .int .i64 hi, .int .i64 val]) e55
      have g51 := Reg.ev (v := .bool true) e51
      refine Reg.obl_want rfl rfl e51 ?_
      have hx' : Below W7.heap.size W7 wx := hx
      have hpt := (HS0_7.out.next hx').part 0 512 512 (by rw [HL.out]; omega) (by omega) (by unfold maxLen; omega)
      rw [List.drop_zero, List.take_of_length_le (by rw [HL.out]; omega)] at hpt
      go_simp
      refine (RefPage.withSlot_any _ _ _ l i A n cap w.heap.size ⟨s, k, kind, data, lo, hi, val⟩ _ hpt (Nat.le_refl _) (HA.out.below (bstep HB_7.out hx')) (bstep HB_7.out hx').size HKA.out).mono ?_
      rintro e wy ⟨A8, n8, c8, rfl, hy8, hby⟩
      exact Reg.done (Option.some_ne_none _) ⟨A8, n8, c8, rfl, hy8⟩ hby
    · intro ax wx hx hs
      obtain ⟨e52, e56, e51, -⟩ := hs
      have g52 := Reg.ev (v := .slice (some ⟨W6.heap.size, 0, none⟩) 512 512) e52
      have g51 := Reg.ev (v := .bool true) e51
      refine Reg.obl_want rfl rfl e51 ?_
      have hx' : Below W7.heap.size W7 wx := hx
      obtain ⟨A8, n8, c8, e56, hy8⟩ := e56
      have g56 := Reg.ev e56
      have hpt := (HS5_7.out.next hx').part 0 512 512 (by rw [HLW.out]; omega) (by omega) (by unfold maxLen; omega)
      rw [List.drop_zero, List.take_of_length_le (by rw [HLW.out]; omega)] at hpt
      go_simp
      refine (Same.same_any _ _ _ _ _ _ _ _ _ _ _ hpt hy8).mono ?_
      rintro e wy ⟨rfl, rfl⟩
      rw [beq_self_eq_true]
      exact Reg.done (Option.some_ne_none _) rfl (bsame _)
    · intro ax wx hx hs
      obtain ⟨e51, e57, -⟩ := hs
      have g51 := Reg.ev (v := .bool true) e51
      have g57 := Reg.ev (v := .bool true) e57
      exact Reg.obl_free rfl (Reg.wp_eqv (Option.some_ne_none _) (by go_simp) rfl)
    · intro ax wx hx hs
      obtain ⟨e58, -⟩ := hs
      have g58 := Reg.ev (v := .bool true) e58
      exact Reg.obl_free rfl (Reg.wp_eqv (Option.some_ne_none _) (by go_simp) rfl)
    · intro ax wx hx hs
      obtain ⟨e59, -⟩ := hs
      have g59 := Reg.ev (v := .bool true) e59
      refine Reg.obl_want rfl rfl e59 ?_
      have hx' : Below W7.heap.size W7 wx := hx
      go_simp
      refine (Live07.live_any _).mono ?_
      rintro e wy ⟨rfl, hby⟩
      exact Reg.done (Option.some_ne_none _) rfl hby
    · intro ax wx hx hs
      obtain ⟨e59, e60, -⟩ := hs
      have g59 := Reg.ev (v := .bool true) e59
      have g60 := Reg.ev (v := .bool true) e60
      exact Reg.obl_free rfl (Reg.wp_eqv (Option.some_ne_none _) (by go_simp) rfl)
    · intro ax wx hx hs
      obtain ⟨e61, -⟩ := hs
      have g61 := Reg.ev (v := .bool true) e61
      exact Reg.obl_free rfl (Reg.wp_eqv (Option.some_ne_none _) (by go_simp) rfl)
  · intro W8 hwf
    simp only [Reg.Fin]
    rintro _ rfl _ rfl _ rfl _ rfl _ rfl _ rfl _ rfl _ rfl _ rfl _ rfl _ rfl _ rfl _ rfl _ rfl v56 h56 _ rfl _ rfl _ rfl _ rfl _ rfl _ rfl
    go_simp
    go_wp2_with fail
    go_ret
    exact ⟨rfl, bstep HB_7.out hwf⟩
end Go.Proofs.Ytjengjbkdflapaa.pageSlots
