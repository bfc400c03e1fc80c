/-
  The small functions of the statements of layer 7: code, live.
-/
import Derived.Test.YtjengjbkdflapaaPageCheck
namespace Go.Proofs.Ytjengjbkdflapaa.Live07
open Go.RowKit
attribute [local go_sem ↓] alPage_fold ldPage_fold stPage_fold bdPage_fold slPage_fold

theorem code_any (n : Int) (w : World) : Calls Try.prog 39 #[.int .i64 n] w fun e w' => e = .returned (.int .i64 n) ∧ w = w' := by
  go_enter Try.func39, Try.ntmps39
  go_wp2
  go_ret
  exact ⟨rfl, rfl⟩
/-- the page's example -/
def pg : List UInt8 := SlotP.over (SlotP.zeros 512) 12 (BeP.parts 2 258)
theorem pg_len : pg.length = 512 := by decide +kernel
theorem pg_12 : (rowV pg)[12]? = some (.int .u8 1) := by
  rw [rowV_get, show pg[12]? = some 1 by decide +kernel]
  rfl
theorem pg_13 : (rowV pg)[13]? = some (.int .u8 2) := by
  rw [rowV_get, show pg[13]? = some 2 by decide +kernel]
  rfl
theorem pg_no : NumP.val pg 12 2 = 258 := by decide +kernel
theorem run0 : (SlotP.zeros 50).foldl CrcP.round 4005291796 = 1942649704 := by decide +kernel
theorem run1 : (SlotP.zeros 50).foldl CrcP.round 1942649704 = 3574428516 := by decide +kernel
theorem run2 : (SlotP.zeros 50).foldl CrcP.round 3574428516 = 1177955240 := by decide +kernel
theorem run3 : (SlotP.zeros 50).foldl CrcP.round 1177955240 = 4056979707 := by decide +kernel
theorem run4 : (SlotP.zeros 50).foldl CrcP.round 4056979707 = 3633809995 := by decide +kernel
theorem run5 : (SlotP.zeros 50).foldl CrcP.round 3633809995 = 3024147709 := by decide +kernel
theorem run6 : (SlotP.zeros 50).foldl CrcP.round 3024147709 = 2767346354 := by decide +kernel
theorem run7 : (SlotP.zeros 50).foldl CrcP.round 2767346354 = 2946709778 := by decide +kernel
theorem run8 : (SlotP.zeros 50).foldl CrcP.round 2946709778 = 887300997 := by decide +kernel
theorem run9 : (SlotP.zeros 48).foldl CrcP.round 887300997 = 4133308915 := by decide +kernel
theorem zeros_add (a b : Nat) : SlotP.zeros (a + b) = SlotP.zeros a ++ SlotP.zeros b := by simp [SlotP.zeros, List.replicate_append_replicate]
theorem pg_drop : pg.drop 4 = [0, 0, 0, 0, 0, 0, 0, 0, 1, 2] ++ SlotP.zeros 498 := by decide +kernel
theorem tail9 : (SlotP.zeros 48).foldl CrcP.round 887300997 = 4133308915 := run9
theorem tail8 : (SlotP.zeros 98).foldl CrcP.round 2946709778 = 4133308915 := by
  have e : SlotP.zeros 98 = SlotP.zeros 50 ++ SlotP.zeros 48 := zeros_add 50 48
  rw [e, List.foldl_append, run8, tail9]
theorem tail7 : (SlotP.zeros 148).foldl CrcP.round 2767346354 = 4133308915 := by
  have e : SlotP.zeros 148 = SlotP.zeros 50 ++ SlotP.zeros 98 := zeros_add 50 98
  rw [e, List.foldl_append, run7, tail8]
theorem tail6 : (SlotP.zeros 198).foldl CrcP.round 3024147709 = 4133308915 := by
  have e : SlotP.zeros 198 = SlotP.zeros 50 ++ SlotP.zeros 148 := zeros_add 50 148
  rw [e, List.foldl_append, run6, tail7]
theorem tail5 : (SlotP.zeros 248).foldl CrcP.round 3633809995 = 4133308915 := by
  have e : SlotP.zeros 248 = SlotP.zeros 50 ++ SlotP.zeros 198 := zeros_add 50 198
  rw [e, List.foldl_append, run5, tail6]
theorem tail4 : (SlotP.zeros 298).foldl CrcP.round 4056979707 = 4133308915 := by
  have e : SlotP.zeros 298 = SlotP.zeros 50 ++ SlotP.zeros 248 := zeros_add 50 248
  rw [e, List.foldl_append, run4, tail5]
theorem tail3 : (SlotP.zeros 348).foldl CrcP.round 1177955240 = 4133308915 := by
  have e : SlotP.zeros 348 = SlotP.zeros 50 ++ SlotP.zeros 298 := zeros_add 50 298
  rw [e, List.foldl_append, run3, tail4]
theorem tail2 : (SlotP.zeros 398).foldl CrcP.round 3574428516 = 4133308915 := by
  have e : SlotP.zeros 398 = SlotP.zeros 50 ++ SlotP.zeros 348 := zeros_add 50 348
  rw [e, List.foldl_append, run2, tail3]
theorem tail1 : (SlotP.zeros 448).foldl CrcP.round 1942649704 = 4133308915 := by
  have e : SlotP.zeros 448 = SlotP.zeros 50 ++ SlotP.zeros 398 := zeros_add 50 398
  rw [e, List.foldl_append, run1, tail2]
theorem tail0 : (SlotP.zeros 498).foldl CrcP.round 4005291796 = 4133308915 := by
  have e : SlotP.zeros 498 = SlotP.zeros 50 ++ SlotP.zeros 448 := zeros_add 50 448
  rw [e, List.foldl_append, run0, tail1]
theorem sum_fold (l : List UInt8) : CrcP.sum l = 4294967295 - l.foldl CrcP.round 4294967295 := rfl
theorem pg_head : ([0, 0, 0, 0, 0, 0, 0, 0, 1, 2] : List UInt8).foldl CrcP.round 4294967295 = 4005291796 := by decide +kernel
theorem fold_two (a b : List UInt8) (v x y : Nat) (h1 : a.foldl CrcP.round v = x) (h2 : b.foldl CrcP.round x = y) : (a ++ b).foldl CrcP.round v = y := by
  rw [List.foldl_append, h1, h2]
theorem sum_of (l m : List UInt8) (y : Nat) (h : l = m) (h2 : m.foldl CrcP.round 4294967295 = y) : CrcP.sum l = 4294967295 - y := by
  rw [h, sum_fold, h2]
theorem pg_sum : CrcP.sum (pg.drop 4) = 4294967295 - 4133308915 := sum_of _ _ _ pg_drop (fold_two _ _ _ _ _ pg_head tail0)
theorem pg_right : PageP.right pg 258 = false := by
  rw [PageP.right_eq, pg_sum]
  decide +kernel
theorem sealed_drop : (PageP.sealed pg).drop 4 = pg.drop 4 := by
  rw [PageP.sealed_eq, List.drop_left' (BeP.parts_length 4 _)]
theorem pg_sealed : PageP.right (PageP.sealed pg) 258 = true := by
  rw [PageP.right_eq, sealed_drop, pg_sum, PageP.sealed_eq, pg_sum]
  decide +kernel

set_option maxRecDepth 100000 in
set_option maxHeartbeats 1000000 in
theorem live_any (w : World) : Calls Try.prog 35 #[] w fun e w' => e = .returned (.bool true) ∧ Below w.heap.size w w' := by
  go_enter Try.func35, Try.ntmps35
  go_wp2_with fail
  have HB_0 := Lib.hid (bsame w)
  have hw_0 := HB_0.out.size
  refine (PageW.new_any 258 _).mono ?_
  rintro e W1 ⟨rfl, hb1⟩
  rw [show SlotP.over (SlotP.zeros 512) 12 (BeP.parts 2 258) = pg from rfl]
  have HL := Lib.hid pg_len
  have HLS := Lib.hid (PageP.sealed_length pg pg_len)
  have HC12 := Lib.hid pg_12
  have HC13 := Lib.hid pg_13
  have HNO := Lib.hid pg_no
  have HR := Lib.hid pg_right
  have HRS := Lib.hid pg_sealed
  generalize pg = L0 at *
  have HB_1 := Lib.hid (bstep HB_0.out hb1)
  have hw_1 := HB_1.out.size
  have hws_1 := (hb1).size
  clear hb1
  have hal := fun W => run_al (P := Try.prog) arrPage W
  have hst1 := run_st (P := Try.prog) arrPage (Str.new W1 (rowV (SlotP.zeros 512)) 51) (by rw [rowV_size]; exact SlotPut.zeros_len 512) (HL.out)
  obtain ⟨W2, hW2⟩ : ∃ W, (W1.alloc (.cells (rowV (SlotP.zeros 512)) 51)).setRow W1.heap.size (rowV L0) = W := ⟨_, rfl⟩
  rw [hW2] at hst1
  have HS0_2 : Hid (Str W2 W1.heap.size (rowV L0)) := Lib.hid (by rw [← hW2]; exact (Str.new W1 (rowV (SlotP.zeros 512)) 51).setRow)
  have hba2 : Below W1.heap.size W1 W2 := by rw [← hW2]; exact below_setRow (balloc (bsame _) _) (Nat.le_refl _) _
  have HB_2 := Lib.hid (bstep HB_1.out hba2)
  have hw_2 := HB_2.out.size
  have hws_2 := hba2.size
  clear hW2 hba2
  have hl0_2 := HS0_2.out.lt
  have hc12 : W2.cell? ⟨W1.heap.size, 12, none⟩ = some (.int .u8 1) := by rw [HS0_2.out.cell, HC12.out]
  have hc13 : W2.cell? ⟨W1.heap.size, 13, none⟩ = some (.int .u8 2) := by rw [HS0_2.out.cell, HC13.out]
  have hld := run_ld (P := Try.prog) arrPage HS0_2.out HL.out
  go_wp2_with fail
  refine (PageW.no_any L0 HL.out _).mono ?_
  rintro e W3 ⟨rfl, hb3⟩
  rw [HNO.out]
  have HS0_3 := Lib.hid (HS0_2.out.next hb3)
  have HB_3 := Lib.hid (bstep HB_2.out hb3)
  have hw_3 := HB_3.out.size
  have hws_3 := (hb3).size
  clear HS0_2
  clear hb3
  have hl0_3 := HS0_3.out.lt
  clear hld hc12 hc13
  have hld := run_ld (P := Try.prog) arrPage HS0_3.out HL.out
  go_wp2_with fail
  refine (PageW.check_any L0 HL.out 258 _).mono ?_
  rintro e W4 ⟨rfl, hb4⟩
  rw [HR.out, show PageP.code false = 14 from rfl]
  have HS0_4 := Lib.hid (HS0_3.out.next hb4)
  have HB_4 := Lib.hid (bstep HB_3.out hb4)
  have hw_4 := HB_4.out.size
  have hws_4 := (hb4).size
  clear HS0_3
  clear hb4
  have hl0_4 := HS0_4.out.lt
  go_wp2_with fail
  refine (code_any _ _).mono ?_
  rintro e W4_ ⟨rfl, rfl⟩
  clear hld
  have hld := run_ld (P := Try.prog) arrPage HS0_4.out HL.out
  go_wp2_with fail
  refine (PageW.sealed_any L0 HL.out _).mono ?_
  rintro e W5 ⟨rfl, hb5⟩
  have HS0_5 := Lib.hid (HS0_4.out.next hb5)
  have HB_5 := Lib.hid (bstep HB_4.out hb5)
  have hw_5 := HB_5.out.size
  have hws_5 := (hb5).size
  clear HS0_4
  clear hb5
  have hl0_5 := HS0_5.out.lt
  go_wp2_with fail
  refine (PageW.check_any _ HLS.out 258 _).mono ?_
  rintro e W6 ⟨rfl, hb6⟩
  rw [HRS.out, show PageP.code true = 0 from rfl]
  have HS0_6 := Lib.hid (HS0_5.out.next hb6)
  have HB_6 := Lib.hid (bstep HB_5.out hb6)
  have hw_6 := HB_6.out.size
  have hws_6 := (hb6).size
  clear HS0_5
  clear hb6
  have hl0_6 := HS0_6.out.lt
  go_wp2_with fail
  refine (code_any _ _).mono ?_
  rintro e W6_ ⟨rfl, rfl⟩
  go_wp2_with fail
  go_ret
  exact ⟨rfl, HB_6.out⟩
end Go.Proofs.Ytjengjbkdflapaa.Live07
