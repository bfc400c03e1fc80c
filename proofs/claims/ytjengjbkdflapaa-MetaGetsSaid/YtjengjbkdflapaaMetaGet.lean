/-
  The walk of meta.Get: the layout that stands in a page.
-/
import Derived.Test.YtjengjbkdflapaaMeta
namespace Go.Proofs.Ytjengjbkdflapaa.MetaW
open Go.RowKit
attribute [local go_sem ↓] alPage_fold ldPage_fold stPage_fold bdPage_fold slPage_fold

set_option maxRecDepth 100000 in
set_option maxHeartbeats 2000000 in
theorem get_any (l : List UInt8) (hl : l.length = 512) (w : World) : Calls Try.prog 60 #[.agg (rowV l)] w fun e w' => e = .returned (.tuple #[.agg #[.int .i64 (MetaP.cb l), .int .i64 (MetaP.cp l), .int .i64 (MetaP.cf l), .int .i64 (MetaP.cc l), .int .i64 (MetaP.cl l)], .int .i64 (MetaP.used l), .int .i64 (MetaP.err l)]) ∧ Below w.heap.size w w' := by
  have HL := Lib.hid hl
  clear hl
  obtain ⟨W0, hW0⟩ : ∃ W0, ((w).alloc (.cells (rowV l) 51)).alloc (.cells #[.int .i64 0, .int .i64 0, .int .i64 0, .int .i64 0, .int .i64 0] 70) = W0 := ⟨_, rfl⟩
  have HS0_0 : Hid (Str W0 (w.heap.size) (rowV l)) := Lib.hid (by rw [← hW0]; have := (Str.new (w) (rowV l) 51).alloc (.cells #[.int .i64 0, .int .i64 0, .int .i64 0, .int .i64 0, .int .i64 0] 70); simpa using this)
  have HS1_0 : Hid (Str W0 (w.heap.size + 1) #[.int .i64 0, .int .i64 0, .int .i64 0, .int .i64 0, .int .i64 0]) := Lib.hid (by rw [← hW0]; have := Str.new ((w).alloc (.cells (rowV l) 51)) #[.int .i64 0, .int .i64 0, .int .i64 0, .int .i64 0, .int .i64 0] 70; simpa using this)
  have HB_0 : Hid (Below w.heap.size w W0) := Lib.hid (by rw [← hW0]; exact balloc (balloc (bsame w) _) _)
  have hw_0 := HB_0.out.size
  have hz0 : W0.heap.size = w.heap.size + 1 + 1 := by rw [← hW0]; simp
  have HW0 := Lib.hid hW0
  have hl0_0 := HS0_0.out.lt
  have hl1_0 := HS1_0.out.lt
  have hld := run_ld (P := Try.prog) arrPage HS0_0.out HL.out
  rw [← hW0] at hld
  clear hW0 hz0
  go_enter Try.func60, Try.ntmps60
  go_wp2_with fail
  rw [HW0.out] at hld
  rw [HW0.out]
  obtain ⟨f1_0_0, f1_0_1, f1_0_2, f1_0_3, f1_0_4⟩ := str5 HS1_0.out
  refine (PageW.note_any l HL.out _).mono ?_
  rintro e W1 ⟨rfl, hb1⟩
  clear hld
  have HS0_1 := Lib.hid (HS0_0.out.next hb1)
  have HS1_1 := Lib.hid (HS1_0.out.next hb1)
  have HB_1 := Lib.hid (bstep HB_0.out hb1)
  have hw_1 := HB_1.out.size
  have hws_1 := (hb1).size
  clear HS0_0 f1_0_0 f1_0_1 f1_0_2 f1_0_3 f1_0_4 HS1_0
  clear hb1
  have hl0_1 := HS0_1.out.lt
  obtain ⟨f1_1_0, f1_1_1, f1_1_2, f1_1_3, f1_1_4⟩ := str5 HS1_1.out
  have hl1_1 := HS1_1.out.lt
  go_wp2_with fail
  have hpp := NumP.parts_val l 16 (by rw [HL.out]; omega)
  have HPP := Lib.hid hpp
  clear hpp
  refine (Be.put_wide none 0 0 0 [] 8 (NumP.val l 16 8) _ (Bytes.none_ _ _) (Nat.zero_le _) (by omega) (by omega) (by omega)).mono ?_
  rintro e W2 ⟨A2, n2, c2, rfl, hy2, hb2⟩
  rw [List.nil_append, HPP.out] at hy2
  have hn2 : n2 = 8 := by rw [← hy2.len]; simp [HL.out]
  subst hn2
  have HS0_2 := Lib.hid (HS0_1.out.next hb2)
  have HS1_2 := Lib.hid (HS1_1.out.next hb2)
  have HB_2 := Lib.hid (bstep HB_1.out hb2)
  have hw_2 := HB_2.out.size
  have hws_2 := (hb2).size
  clear HS0_1 f1_1_0 f1_1_1 f1_1_2 f1_1_3 f1_1_4 HS1_1
  clear hb2
  have hl0_2 := HS0_2.out.lt
  obtain ⟨f1_2_0, f1_2_1, f1_2_2, f1_2_3, f1_2_4⟩ := str5 HS1_2.out
  have hl1_2 := HS1_2.out.lt
  go_wp2_with fail
  refine (RdW.read_any A2 8 c2 _ _ _ hy2 (Nat.le_refl _) (by omega)).mono ?_
  rintro e W3 ⟨b, rfl, hbb, hR, hb3⟩
  have HS0_3 := Lib.hid (HS0_2.out.next hb3)
  have HS1_3 := Lib.hid (HS1_2.out.next hb3)
  have HB_3 := Lib.hid (bstep HB_2.out hb3)
  have hw_3 := HB_3.out.size
  have hws_3 := (hb3).size
  clear HS0_2 f1_2_0 f1_2_1 f1_2_2 f1_2_3 f1_2_4 HS1_2
  clear hb3
  have hl0_3 := HS0_3.out.lt
  obtain ⟨f1_3_0, f1_3_1, f1_3_2, f1_3_3, f1_3_4⟩ := str5 HS1_3.out
  have hl1_3 := HS1_3.out.lt
  go_wp2_with fail
  refine (RdW.num_any b _ _ 1 _ hR (by omega) (by omega)).mono ?_
  rintro e W4 ⟨rfl, hR', hg⟩
  rw [RdP.numL_part l 16 8 1 (by rw [HL.out]; omega) (by omega), RdP.numB_part l 16 8 1 (by rw [HL.out]; omega) (by omega)] at hR'
  rw [RdP.numV_part l 16 8 1 (by rw [HL.out]; omega) (by omega)]
  clear hR
  have hR := hR'
  clear hR'
  have HS0_4 := Lib.hid (HS0_3.out.grown hg (by omega))
  have HS1_4 := Lib.hid (HS1_3.out.grown hg (by omega))
  have HB_4 := Lib.hid (below_grown HB_3.out hg (by omega))
  have hw_4 := HB_4.out.size
  have hws_4 := (hg).size
  clear HS0_3 f1_3_0 f1_3_1 f1_3_2 f1_3_3 f1_3_4 HS1_3
  clear hg
  have hl0_4 := HS0_4.out.lt
  obtain ⟨f1_4_0, f1_4_1, f1_4_2, f1_4_3, f1_4_4⟩ := str5 HS1_4.out
  have hl1_4 := HS1_4.out.lt
  go_wp2_with fail
  refine (RdW.num_any b _ _ 1 _ hR (by omega) (by omega)).mono ?_
  rintro e W5 ⟨rfl, hR', hg⟩
  rw [RdP.numL_part l 17 7 1 (by rw [HL.out]; omega) (by omega), RdP.numB_part l 17 7 1 (by rw [HL.out]; omega) (by omega)] at hR'
  rw [RdP.numV_part l 17 7 1 (by rw [HL.out]; omega) (by omega)]
  clear hR
  have hR := hR'
  clear hR'
  have HS0_5 := Lib.hid (HS0_4.out.grown hg (by omega))
  have HS1_5 := Lib.hid (HS1_4.out.grown hg (by omega))
  have HB_5 := Lib.hid (below_grown HB_4.out hg (by omega))
  have hw_5 := HB_5.out.size
  have hws_5 := (hg).size
  clear HS0_4 f1_4_0 f1_4_1 f1_4_2 f1_4_3 f1_4_4 HS1_4
  clear hg
  have hl0_5 := HS0_5.out.lt
  obtain ⟨f1_5_0, f1_5_1, f1_5_2, f1_5_3, f1_5_4⟩ := str5 HS1_5.out
  have hl1_5 := HS1_5.out.lt
  go_wp2_with fail
  refine (RdW.num_any b _ _ 2 _ hR (by omega) (by omega)).mono ?_
  rintro e W6 ⟨rfl, hR', hg⟩
  rw [RdP.numL_part l 18 6 2 (by rw [HL.out]; omega) (by omega), RdP.numB_part l 18 6 2 (by rw [HL.out]; omega) (by omega)] at hR'
  rw [RdP.numV_part l 18 6 2 (by rw [HL.out]; omega) (by omega)]
  clear hR
  have hR := hR'
  clear hR'
  have HS0_6 := Lib.hid (HS0_5.out.grown hg (by omega))
  have HS1_6 := Lib.hid (HS1_5.out.grown hg (by omega))
  have HB_6 := Lib.hid (below_grown HB_5.out hg (by omega))
  have hw_6 := HB_6.out.size
  have hws_6 := (hg).size
  clear HS0_5 f1_5_0 f1_5_1 f1_5_2 f1_5_3 f1_5_4 HS1_5
  clear hg
  have hl0_6 := HS0_6.out.lt
  obtain ⟨f1_6_0, f1_6_1, f1_6_2, f1_6_3, f1_6_4⟩ := str5 HS1_6.out
  have hl1_6 := HS1_6.out.lt
  go_wp2_with fail
  refine (RdW.num_any b _ _ 1 _ hR (by omega) (by omega)).mono ?_
  rintro e W7 ⟨rfl, hR', hg⟩
  rw [RdP.numL_part l 20 4 1 (by rw [HL.out]; omega) (by omega), RdP.numB_part l 20 4 1 (by rw [HL.out]; omega) (by omega)] at hR'
  rw [RdP.numV_part l 20 4 1 (by rw [HL.out]; omega) (by omega)]
  clear hR
  have hR := hR'
  clear hR'
  have HS0_7 := Lib.hid (HS0_6.out.grown hg (by omega))
  have HS1_7 := Lib.hid (HS1_6.out.grown hg (by omega))
  have HB_7 := Lib.hid (below_grown HB_6.out hg (by omega))
  have hw_7 := HB_7.out.size
  have hws_7 := (hg).size
  clear HS0_6 f1_6_0 f1_6_1 f1_6_2 f1_6_3 f1_6_4 HS1_6
  clear hg
  have hl0_7 := HS0_7.out.lt
  obtain ⟨f1_7_0, f1_7_1, f1_7_2, f1_7_3, f1_7_4⟩ := str5 HS1_7.out
  have hl1_7 := HS1_7.out.lt
  go_wp2_with fail
  refine (RdW.num_any b _ _ 1 _ hR (by omega) (by omega)).mono ?_
  rintro e W8 ⟨rfl, hR', hg⟩
  rw [RdP.numL_part l 21 3 1 (by rw [HL.out]; omega) (by omega), RdP.numB_part l 21 3 1 (by rw [HL.out]; omega) (by omega)] at hR'
  rw [RdP.numV_part l 21 3 1 (by rw [HL.out]; omega) (by omega)]
  clear hR
  have hR := hR'
  clear hR'
  have HS0_8 := Lib.hid (HS0_7.out.grown hg (by omega))
  have HS1_8 := Lib.hid (HS1_7.out.grown hg (by omega))
  have HB_8 := Lib.hid (below_grown HB_7.out hg (by omega))
  have hw_8 := HB_8.out.size
  have hws_8 := (hg).size
  clear HS0_7 f1_7_0 f1_7_1 f1_7_2 f1_7_3 f1_7_4 HS1_7
  clear hg
  have hl0_8 := HS0_8.out.lt
  obtain ⟨f1_8_0, f1_8_1, f1_8_2, f1_8_3, f1_8_4⟩ := str5 HS1_8.out
  have hl1_8 := HS1_8.out.lt
  go_wp2_with fail
  refine (RdW.num_any b _ _ 2 _ hR (by omega) (by omega)).mono ?_
  rintro e W9 ⟨rfl, hR', hg⟩
  rw [RdP.numL_part l 22 2 2 (by rw [HL.out]; omega) (by omega), RdP.numB_part l 22 2 2 (by rw [HL.out]; omega) (by omega)] at hR'
  rw [RdP.numV_part l 22 2 2 (by rw [HL.out]; omega) (by omega)]
  clear hR
  have hR := hR'
  clear hR'
  have HS0_9 := Lib.hid (HS0_8.out.grown hg (by omega))
  have HS1_9 := Lib.hid (HS1_8.out.grown hg (by omega))
  have HB_9 := Lib.hid (below_grown HB_8.out hg (by omega))
  have hw_9 := HB_9.out.size
  have hws_9 := (hg).size
  clear HS0_8 f1_8_0 f1_8_1 f1_8_2 f1_8_3 f1_8_4 HS1_8
  clear hg
  have hl0_9 := HS0_9.out.lt
  obtain ⟨f1_9_0, f1_9_1, f1_9_2, f1_9_3, f1_9_4⟩ := str5 HS1_9.out
  have hl1_9 := HS1_9.out.lt
  go_wp2_with fail
  clear hR
  obtain ⟨hv17, hu17⟩ := NumP.val_small l 17 1 (by omega)
  obtain ⟨hv18, hu18⟩ := NumP.val_small l 18 2 (by omega)
  obtain ⟨hv14, hu14⟩ := NumP.val_small l 14 2 (by omega)
  generalize hW10 : W9.alloc (.cells #[.int .i64 (NumP.val l 17 1), .int .i64 (NumP.val l 18 2), .int .i64 (NumP.val l 20 1), .int .i64 (NumP.val l 21 1), .int .i64 (NumP.val l 22 2)] 70) = W10
  have HS0_10 : Hid (Str W10 (w.heap.size) (rowV l)) := Lib.hid (by rw [← hW10]; exact HS0_9.out.alloc _)
  have HS1_10 : Hid (Str W10 (w.heap.size + 1) #[.int .i64 0, .int .i64 0, .int .i64 0, .int .i64 0, .int .i64 0]) := Lib.hid (by rw [← hW10]; exact HS1_9.out.alloc _)
  have HS2_10 : Hid (Str W10 W9.heap.size #[.int .i64 (NumP.val l 17 1), .int .i64 (NumP.val l 18 2), .int .i64 (NumP.val l 20 1), .int .i64 (NumP.val l 21 1), .int .i64 (NumP.val l 22 2)]) := Lib.hid (by rw [← hW10]; exact Str.new W9 #[.int .i64 (NumP.val l 17 1), .int .i64 (NumP.val l 18 2), .int .i64 (NumP.val l 20 1), .int .i64 (NumP.val l 21 1), .int .i64 (NumP.val l 22 2)] 70)
  have hba10 : Below W9.heap.size W9 W10 := by rw [← hW10]; exact balloc (bsame _) _
  have HB_10 := Lib.hid (bstep HB_9.out hba10)
  have hw_10 := HB_10.out.size
  have hws_10 := hba10.size
  clear hW10
  clear HS0_9 f1_9_0 f1_9_1 f1_9_2 f1_9_3 f1_9_4 HS1_9
  have hl0_10 := HS0_10.out.lt
  obtain ⟨f1_10_0, f1_10_1, f1_10_2, f1_10_3, f1_10_4⟩ := str5 HS1_10.out
  have hl1_10 := HS1_10.out.lt
  obtain ⟨f2_10_0, f2_10_1, f2_10_2, f2_10_3, f2_10_4⟩ := str5 HS2_10.out
  have hl2_10 := HS2_10.out.lt
  clear hba10
  refine Reg.wp_region_vals (R := ext) (W := W10) [Reg.eqv (.agg (rowV l)), Reg.eqv (.int .i64 (NumP.val l 12 2)), Reg.eqv (.bool (NumP.val l 12 2 != 0)), Reg.eqv (.bool (NumP.val l 12 2 != 0)), Reg.when (((NumP.val l 12 2 != 0)) = false) (Reg.eqv (.int .i64 (NumP.val l 16 1))), Reg.when (((NumP.val l 12 2 != 0)) = false) (Reg.eqv (.bool (NumP.val l 16 1 != 0))), Reg.eqv (.bool (((NumP.val l 12 2 != 0)) || ((NumP.val l 16 1 != 0)))), Reg.eqv (.bool (((NumP.val l 12 2 != 0)) || ((NumP.val l 16 1 != 0)))), Reg.when (((((NumP.val l 12 2 != 0)) || ((NumP.val l 16 1 != 0)))) = false) (Reg.eqv (.agg #[.int .i64 (NumP.val l 17 1), .int .i64 (NumP.val l 18 2), .int .i64 (NumP.val l 20 1), .int .i64 (NumP.val l 21 1), .int .i64 (NumP.val l 22 2)])), Reg.when (((((NumP.val l 12 2 != 0)) || ((NumP.val l 16 1 != 0)))) = false) (Reg.eqv (.int .i64 (MetaP.check (NumP.val l 17 1) (NumP.val l 18 2) (NumP.val l 20 1) (NumP.val l 21 1) (NumP.val l 22 2)))), Reg.when (((((NumP.val l 12 2 != 0)) || ((NumP.val l 16 1 != 0)))) = false) (Reg.eqv (.bool (MetaP.check (NumP.val l 17 1) (NumP.val l 18 2) (NumP.val l 20 1) (NumP.val l 21 1) (NumP.val l 22 2) != 0))), Reg.eqv (.bool (((((NumP.val l 12 2 != 0)) || ((NumP.val l 16 1 != 0)))) || ((MetaP.check (NumP.val l 17 1) (NumP.val l 18 2) (NumP.val l 20 1) (NumP.val l 21 1) (NumP.val l 22 2) != 0)))), Reg.eqv (.bool (((((NumP.val l 12 2 != 0)) || ((NumP.val l 16 1 != 0)))) || ((MetaP.check (NumP.val l 17 1) (NumP.val l 18 2) (NumP.val l 20 1) (NumP.val l 21 1) (NumP.val l 22 2) != 0)))), Reg.when (((((((NumP.val l 12 2 != 0)) || ((NumP.val l 16 1 != 0)))) || ((MetaP.check (NumP.val l 17 1) (NumP.val l 18 2) (NumP.val l 20 1) (NumP.val l 21 1) (NumP.val l 22 2) != 0)))) = false) (Reg.eqv (.agg (rowV l))), Reg.when (((((((NumP.val l 12 2 != 0)) || ((NumP.val l 16 1 != 0)))) || ((MetaP.check (NumP.val l 17 1) (NumP.val l 18 2) (NumP.val l 20 1) (NumP.val l 21 1) (NumP.val l 22 2) != 0)))) = false) (Reg.eqv (.int .i64 (NumP.val l 14 2))), Reg.when (((((((NumP.val l 12 2 != 0)) || ((NumP.val l 16 1 != 0)))) || ((MetaP.check (NumP.val l 17 1) (NumP.val l 18 2) (NumP.val l 20 1) (NumP.val l 21 1) (NumP.val l 22 2) != 0)))) = false) (Reg.eqv (.pointer (some ⟨W9.heap.size, 0, none⟩))), Reg.when (((((((NumP.val l 12 2 != 0)) || ((NumP.val l 16 1 != 0)))) || ((MetaP.check (NumP.val l 17 1) (NumP.val l 18 2) (NumP.val l 20 1) (NumP.val l 21 1) (NumP.val l 22 2) != 0)))) = false) (Reg.eqv (.int .i64 (NumP.val l 17 1))), Reg.when (((((((NumP.val l 12 2 != 0)) || ((NumP.val l 16 1 != 0)))) || ((MetaP.check (NumP.val l 17 1) (NumP.val l 18 2) (NumP.val l 20 1) (NumP.val l 21 1) (NumP.val l 22 2) != 0)))) = false) (Reg.eqv (.int .i64 (NumP.val l 17 1 + 1))), Reg.when (((((((NumP.val l 12 2 != 0)) || ((NumP.val l 16 1 != 0)))) || ((MetaP.check (NumP.val l 17 1) (NumP.val l 18 2) (NumP.val l 20 1) (NumP.val l 21 1) (NumP.val l 22 2) != 0)))) = false) (Reg.eqv (.pointer (some ⟨W9.heap.size, 1, none⟩))), Reg.when (((((((NumP.val l 12 2 != 0)) || ((NumP.val l 16 1 != 0)))) || ((MetaP.check (NumP.val l 17 1) (NumP.val l 18 2) (NumP.val l 20 1) (NumP.val l 21 1) (NumP.val l 22 2) != 0)))) = false) (Reg.eqv (.int .i64 (NumP.val l 18 2))), Reg.when (((((((NumP.val l 12 2 != 0)) || ((NumP.val l 16 1 != 0)))) || ((MetaP.check (NumP.val l 17 1) (NumP.val l 18 2) (NumP.val l 20 1) (NumP.val l 21 1) (NumP.val l 22 2) != 0)))) = false) (Reg.eqv (.bool (MetaP.within (NumP.val l 14 2) (NumP.val l 17 1 + 1) (NumP.val l 18 2)))), Reg.when (((((((NumP.val l 12 2 != 0)) || ((NumP.val l 16 1 != 0)))) || ((MetaP.check (NumP.val l 17 1) (NumP.val l 18 2) (NumP.val l 20 1) (NumP.val l 21 1) (NumP.val l 22 2) != 0)))) = false) (Reg.eqv (.bool (!((MetaP.within (NumP.val l 14 2) (NumP.val l 17 1 + 1) (NumP.val l 18 2)))))), Reg.eqv (.bool (((((((NumP.val l 12 2 != 0)) || ((NumP.val l 16 1 != 0)))) || ((MetaP.check (NumP.val l 17 1) (NumP.val l 18 2) (NumP.val l 20 1) (NumP.val l 21 1) (NumP.val l 22 2) != 0)))) || ((!((MetaP.within (NumP.val l 14 2) (NumP.val l 17 1 + 1) (NumP.val l 18 2)))))))] 53 [[(1, none)], [(26, some 0)], [(27, some 1)], [(28, some 2)], [(6, none), (29, some 3)], [(30, some 4), (29, some 3)], [(29, some 3), (31, some 5)], [(32, some 6)], [(7, none), (33, some 7)], [(34, some 8), (33, some 7)], [(35, some 9), (33, some 7)], [(33, some 7), (36, some 10)], [(37, some 11)], [(1, none), (38, some 12)], [(39, some 13), (38, some 12)], [(7, none), (38, some 12)], [(41, some 15), (38, some 12)], [(42, some 16), (38, some 12)], [(7, none), (38, some 12)], [(44, some 18), (38, some 12)], [(40, some 14), (43, some 17), (45, some 19), (38, some 12)], [(46, some 20), (38, some 12)], [(38, some 12), (47, some 21)]] rfl (by kernel_rfl) (by kernel_rfl) (by kernel_rfl) ?_ [some 26, some 27, some 28, some 29, some 30, some 31, some 32, some 33, some 34, some 35, some 36, some 37, some 38, some 39, some 40, some 41, some 42, some 43, some 44, some 45, some 46, some 47, some 48] (by kernel_rfl) ?_
  · refine ⟨?_, ?_, ?_, ?_, ?_, ?_, ?_, ?_, ?_, ?_, ?_, ?_, ?_, ?_, ?_, ?_, ?_, ?_, ?_, ?_, ?_, ?_, ?_, trivial⟩
    · intro ax wx hx hs
      obtain ⟨e1, -⟩ := hs
      have g1 := Reg.ev (v := .pointer (some ⟨w.heap.size, 0, none⟩)) e1
      obtain ⟨hc, -⟩ := bcell hx
      refine Reg.obl_free rfl ?_
      have hx' : Below W10.heap.size W10 wx := hx
      have hld := run_ld (P := Try.prog) arrPage (HS0_10.out.next hx') HL.out
      exact Reg.wp_eqv (Option.some_ne_none _) (by go_simp) rfl
    · intro ax wx hx hs
      obtain ⟨e26, -⟩ := hs
      have g26 := Reg.ev (v := .agg (rowV l)) e26
      refine Reg.obl_free rfl ?_
      go_simp
      refine (PageW.no_any l HL.out _).mono ?_
      rintro e wy ⟨rfl, hby⟩
      exact Reg.done (Option.some_ne_none _) rfl hby
    · intro ax wx hx hs
      obtain ⟨e27, -⟩ := hs
      have g27 := Reg.ev (v := .int .i64 (NumP.val l 12 2)) e27
      exact Reg.obl_free rfl (Reg.wp_eqv (Option.some_ne_none _) (by go_simp) rfl)
    · intro ax wx hx hs
      obtain ⟨e28, -⟩ := hs
      have g28 := Reg.ev (v := .bool (NumP.val l 12 2 != 0)) e28
      exact Reg.obl_free rfl (Reg.wp_eqv (Option.some_ne_none _) (by go_simp) rfl)
    · intro ax wx hx hs
      obtain ⟨e6, e29, -⟩ := hs
      refine Reg.obl_may rfl rfl e29 rfl ?_
      intro hC
      have g6 := Reg.ev (v := .int .i64 (NumP.val l 16 1)) e6
      have g29 := Reg.ev (v := .bool (NumP.val l 12 2 != 0)) e29
      exact Reg.wp_eqv (Option.some_ne_none _) (by go_simp) rfl
    · intro ax wx hx hs
      obtain ⟨e30, e29, -⟩ := hs
      refine Reg.obl_may rfl rfl e29 rfl ?_
      intro hC
      have g30 := Reg.ev (v := .int .i64 (NumP.val l 16 1)) (e30.1 (by first | exact hC | exact hC.1 | exact hC.1.1 | exact hC.1.1.1))
      have g29 := Reg.ev (v := .bool (NumP.val l 12 2 != 0)) e29
      exact Reg.wp_eqv (Option.some_ne_none _) (by go_simp) rfl
    · intro ax wx hx hs
      obtain ⟨e29, e31, -⟩ := hs
      have g29 := Reg.ev (v := .bool (NumP.val l 12 2 != 0)) e29
      refine Reg.obl_free rfl ?_
      rcases Bool.eq_false_or_eq_true ((NumP.val l 12 2 != 0)) with hG | hG
      · rw [hG] at g29
        exact Reg.wp_eqv (c := .bool true) (Option.some_ne_none _) (by go_simp) (by show _ = Value.bool _; rw [hG]; rfl)
      · rw [hG] at g29
        have g31 := Reg.ev (v := .bool (NumP.val l 16 1 != 0)) (e31.1 (by first | exact hG | exact ⟨hC, hG⟩))
        exact Reg.wp_eqv (c := .bool (NumP.val l 16 1 != 0)) (Option.some_ne_none _) (by go_simp) (by show _ = Value.bool _; rw [hG]; rfl)
    · intro ax wx hx hs
      obtain ⟨e32, -⟩ := hs
      have g32 := Reg.ev (v := .bool (((NumP.val l 12 2 != 0)) || ((NumP.val l 16 1 != 0)))) e32
      exact Reg.obl_free rfl (Reg.wp_eqv (Option.some_ne_none _) (by go_simp) rfl)
    · intro ax wx hx hs
      obtain ⟨e7, e33, -⟩ := hs
      refine Reg.obl_may rfl rfl e33 rfl ?_
      intro hC
      have g7 := Reg.ev (v := .pointer (some ⟨W9.heap.size, 0, none⟩)) e7
      have g33 := Reg.ev (v := .bool (((NumP.val l 12 2 != 0)) || ((NumP.val l 16 1 != 0)))) e33
      obtain ⟨hc, -⟩ := bcell hx
      exact Reg.wp_eqv (Option.some_ne_none _) (by go_simp) rfl
    · intro ax wx hx hs
      obtain ⟨e34, e33, -⟩ := hs
      refine Reg.obl_may rfl rfl e33 rfl ?_
      intro hC
      have g34 := Reg.ev (v := .agg #[.int .i64 (NumP.val l 17 1), .int .i64 (NumP.val l 18 2), .int .i64 (NumP.val l 20 1), .int .i64 (NumP.val l 21 1), .int .i64 (NumP.val l 22 2)]) (e34.1 (by first | exact hC | exact hC.1 | exact hC.1.1 | exact hC.1.1.1))
      have g33 := Reg.ev (v := .bool (((NumP.val l 12 2 != 0)) || ((NumP.val l 16 1 != 0)))) e33
      go_simp
      refine (check_any _ _ _ _ _ _).mono ?_
      rintro e wy ⟨rfl, hby⟩
      exact Reg.done (Option.some_ne_none _) rfl hby
    · intro ax wx hx hs
      obtain ⟨e35, e33, -⟩ := hs
      refine Reg.obl_may rfl rfl e33 rfl ?_
      intro hC
      have g35 := Reg.ev (v := .int .i64 (MetaP.check (NumP.val l 17 1) (NumP.val l 18 2) (NumP.val l 20 1) (NumP.val l 21 1) (NumP.val l 22 2))) (e35.1 (by first | exact hC | exact hC.1 | exact hC.1.1 | exact hC.1.1.1))
      have g33 := Reg.ev (v := .bool (((NumP.val l 12 2 != 0)) || ((NumP.val l 16 1 != 0)))) e33
      exact Reg.wp_eqv (Option.some_ne_none _) (by go_simp) rfl
    · intro ax wx hx hs
      obtain ⟨e33, e36, -⟩ := hs
      have g33 := Reg.ev (v := .bool (((NumP.val l 12 2 != 0)) || ((NumP.val l 16 1 != 0)))) e33
      refine Reg.obl_free rfl ?_
      rcases Bool.eq_false_or_eq_true ((((NumP.val l 12 2 != 0)) || ((NumP.val l 16 1 != 0)))) with hG | hG
      · rw [hG] at g33
        exact Reg.wp_eqv (c := .bool true) (Option.some_ne_none _) (by go_simp) (by show _ = Value.bool _; rw [hG]; rfl)
      · rw [hG] at g33
        have g36 := Reg.ev (v := .bool (MetaP.check (NumP.val l 17 1) (NumP.val l 18 2) (NumP.val l 20 1) (NumP.val l 21 1) (NumP.val l 22 2) != 0)) (e36.1 (by first | exact hG | exact ⟨hC, hG⟩))
        exact Reg.wp_eqv (c := .bool (MetaP.check (NumP.val l 17 1) (NumP.val l 18 2) (NumP.val l 20 1) (NumP.val l 21 1) (NumP.val l 22 2) != 0)) (Option.some_ne_none _) (by go_simp) (by show _ = Value.bool _; rw [hG]; rfl)
    · intro ax wx hx hs
      obtain ⟨e37, -⟩ := hs
      have g37 := Reg.ev (v := .bool (((((NumP.val l 12 2 != 0)) || ((NumP.val l 16 1 != 0)))) || ((MetaP.check (NumP.val l 17 1) (NumP.val l 18 2) (NumP.val l 20 1) (NumP.val l 21 1) (NumP.val l 22 2) != 0)))) e37
      exact Reg.obl_free rfl (Reg.wp_eqv (Option.some_ne_none _) (by go_simp) rfl)
    · intro ax wx hx hs
      obtain ⟨e1, e38, -⟩ := hs
      refine Reg.obl_may rfl rfl e38 rfl ?_
      intro hC
      have g1 := Reg.ev (v := .pointer (some ⟨w.heap.size, 0, none⟩)) e1
      have g38 := Reg.ev (v := .bool (((((NumP.val l 12 2 != 0)) || ((NumP.val l 16 1 != 0)))) || ((MetaP.check (NumP.val l 17 1) (NumP.val l 18 2) (NumP.val l 20 1) (NumP.val l 21 1) (NumP.val l 22 2) != 0)))) e38
      obtain ⟨hc, -⟩ := bcell hx
      have hx' : Below W10.heap.size W10 wx := hx
      have hld := run_ld (P := Try.prog) arrPage (HS0_10.out.next hx') HL.out
      exact Reg.wp_eqv (Option.some_ne_none _) (by go_simp) rfl
    · intro ax wx hx hs
      obtain ⟨e39, e38, -⟩ := hs
      refine Reg.obl_may rfl rfl e38 rfl ?_
      intro hC
      have g39 := Reg.ev (v := .agg (rowV l)) (e39.1 (by first | exact hC | exact hC.1 | exact hC.1.1 | exact hC.1.1.1))
      have g38 := Reg.ev (v := .bool (((((NumP.val l 12 2 != 0)) || ((NumP.val l 16 1 != 0)))) || ((MetaP.check (NumP.val l 17 1) (NumP.val l 18 2) (NumP.val l 20 1) (NumP.val l 21 1) (NumP.val l 22 2) != 0)))) e38
      go_simp
      refine (PageW.next_any l HL.out _).mono ?_
      rintro e wy ⟨rfl, hby⟩
      exact Reg.done (Option.some_ne_none _) rfl hby
    · intro ax wx hx hs
      obtain ⟨e7, e38, -⟩ := hs
      refine Reg.obl_may rfl rfl e38 rfl ?_
      intro hC
      have g7 := Reg.ev (v := .pointer (some ⟨W9.heap.size, 0, none⟩)) e7
      have g38 := Reg.ev (v := .bool (((((NumP.val l 12 2 != 0)) || ((NumP.val l 16 1 != 0)))) || ((MetaP.check (NumP.val l 17 1) (NumP.val l 18 2) (NumP.val l 20 1) (NumP.val l 21 1) (NumP.val l 22 2) != 0)))) e38
      exact Reg.wp_eqv (Option.some_ne_none _) (by go_simp) rfl
    · intro ax wx hx hs
      obtain ⟨e41, e38, -⟩ := hs
      refine Reg.obl_may rfl rfl e38 rfl ?_
      intro hC
      have g41 := Reg.ev (v := .pointer (some ⟨W9.heap.size, 0, none⟩)) (e41.1 (by first | exact hC | exact hC.1 | exact hC.1.1 | exact hC.1.1.1))
      have g38 := Reg.ev (v := .bool (((((NumP.val l 12 2 != 0)) || ((NumP.val l 16 1 != 0)))) || ((MetaP.check (NumP.val l 17 1) (NumP.val l 18 2) (NumP.val l 20 1) (NumP.val l 21 1) (NumP.val l 22 2) != 0)))) e38
      obtain ⟨hc, -⟩ := bcell hx
      exact Reg.wp_eqv (Option.some_ne_none _) (by go_simp) rfl
    · intro ax wx hx hs
      obtain ⟨e42, e38, -⟩ := hs
      refine Reg.obl_may rfl rfl e38 rfl ?_
      intro hC
      have g42 := Reg.ev (v := .int .i64 (NumP.val l 17 1)) (e42.1 (by first | exact hC | exact hC.1 | exact hC.1.1 | exact hC.1.1.1))
      have g38 := Reg.ev (v := .bool (((((NumP.val l 12 2 != 0)) || ((NumP.val l 16 1 != 0)))) || ((MetaP.check (NumP.val l 17 1) (NumP.val l 18 2) (NumP.val l 20 1) (NumP.val l 21 1) (NumP.val l 22 2) != 0)))) e38
      exact Reg.wp_eqv (Option.some_ne_none _) (by go_simp; exact MetaP.wrap_id _ (by omega) (by omega)) rfl
    · intro ax wx hx hs
      obtain ⟨e7, e38, -⟩ := hs
      refine Reg.obl_may rfl rfl e38 rfl ?_
      intro hC
      have g7 := Reg.ev (v := .pointer (some ⟨W9.heap.size, 0, none⟩)) e7
      have g38 := Reg.ev (v := .bool (((((NumP.val l 12 2 != 0)) || ((NumP.val l 16 1 != 0)))) || ((MetaP.check (NumP.val l 17 1) (NumP.val l 18 2) (NumP.val l 20 1) (NumP.val l 21 1) (NumP.val l 22 2) != 0)))) e38
      exact Reg.wp_eqv (Option.some_ne_none _) (by go_simp) rfl
    · intro ax wx hx hs
      obtain ⟨e44, e38, -⟩ := hs
      refine Reg.obl_may rfl rfl e38 rfl ?_
      intro hC
      have g44 := Reg.ev (v := .pointer (some ⟨W9.heap.size, 1, none⟩)) (e44.1 (by first | exact hC | exact hC.1 | exact hC.1.1 | exact hC.1.1.1))
      have g38 := Reg.ev (v := .bool (((((NumP.val l 12 2 != 0)) || ((NumP.val l 16 1 != 0)))) || ((MetaP.check (NumP.val l 17 1) (NumP.val l 18 2) (NumP.val l 20 1) (NumP.val l 21 1) (NumP.val l 22 2) != 0)))) e38
      obtain ⟨hc, -⟩ := bcell hx
      exact Reg.wp_eqv (Option.some_ne_none _) (by go_simp) rfl
    · intro ax wx hx hs
      obtain ⟨e40, e43, e45, e38, -⟩ := hs
      refine Reg.obl_may rfl rfl e38 rfl ?_
      intro hC
      have g40 := Reg.ev (v := .int .i64 (NumP.val l 14 2)) (e40.1 (by first | exact hC | exact hC.1 | exact hC.1.1 | exact hC.1.1.1))
      have g43 := Reg.ev (v := .int .i64 (NumP.val l 17 1 + 1)) (e43.1 (by first | exact hC | exact hC.1 | exact hC.1.1 | exact hC.1.1.1))
      have g45 := Reg.ev (v := .int .i64 (NumP.val l 18 2)) (e45.1 (by first | exact hC | exact hC.1 | exact hC.1.1 | exact hC.1.1.1))
      have g38 := Reg.ev (v := .bool (((((NumP.val l 12 2 != 0)) || ((NumP.val l 16 1 != 0)))) || ((MetaP.check (NumP.val l 17 1) (NumP.val l 18 2) (NumP.val l 20 1) (NumP.val l 21 1) (NumP.val l 22 2) != 0)))) e38
      go_simp
      refine (within_any _ _ _ _).mono ?_
      rintro e wy ⟨rfl, rfl⟩
      exact Reg.done (Option.some_ne_none _) rfl (bsame _)
    · intro ax wx hx hs
      obtain ⟨e46, e38, -⟩ := hs
      refine Reg.obl_may rfl rfl e38 rfl ?_
      intro hC
      have g46 := Reg.ev (v := .bool (MetaP.within (NumP.val l 14 2) (NumP.val l 17 1 + 1) (NumP.val l 18 2))) (e46.1 (by first | exact hC | exact hC.1 | exact hC.1.1 | exact hC.1.1.1))
      have g38 := Reg.ev (v := .bool (((((NumP.val l 12 2 != 0)) || ((NumP.val l 16 1 != 0)))) || ((MetaP.check (NumP.val l 17 1) (NumP.val l 18 2) (NumP.val l 20 1) (NumP.val l 21 1) (NumP.val l 22 2) != 0)))) e38
      exact Reg.wp_eqv (Option.some_ne_none _) (by go_simp) rfl
    · intro ax wx hx hs
      obtain ⟨e38, e47, -⟩ := hs
      have g38 := Reg.ev (v := .bool (((((NumP.val l 12 2 != 0)) || ((NumP.val l 16 1 != 0)))) || ((MetaP.check (NumP.val l 17 1) (NumP.val l 18 2) (NumP.val l 20 1) (NumP.val l 21 1) (NumP.val l 22 2) != 0)))) e38
      refine Reg.obl_free rfl ?_
      rcases Bool.eq_false_or_eq_true ((((((NumP.val l 12 2 != 0)) || ((NumP.val l 16 1 != 0)))) || ((MetaP.check (NumP.val l 17 1) (NumP.val l 18 2) (NumP.val l 20 1) (NumP.val l 21 1) (NumP.val l 22 2) != 0)))) with hG | hG
      · rw [hG] at g38
        exact Reg.wp_eqv (c := .bool true) (Option.some_ne_none _) (by go_simp) (by show _ = Value.bool _; rw [hG]; rfl)
      · rw [hG] at g38
        have g47 := Reg.ev (v := .bool (!((MetaP.within (NumP.val l 14 2) (NumP.val l 17 1 + 1) (NumP.val l 18 2))))) (e47.1 (by first | exact hG | exact ⟨hC, hG⟩))
        exact Reg.wp_eqv (c := .bool (!((MetaP.within (NumP.val l 14 2) (NumP.val l 17 1 + 1) (NumP.val l 18 2))))) (Option.some_ne_none _) (by go_simp) (by show _ = Value.bool _; rw [hG]; rfl)
  · intro W11 hwf
    simp only [Reg.Fin]
    rintro _ rfl _ rfl _ rfl _ rfl v30 h30 v31 h31 _ rfl _ rfl v34 h34 v35 h35 v36 h36 _ rfl _ rfl v39 h39 v40 h40 v41 h41 v42 h42 v43 h43 v44 h44 v45 h45 v46 h46 v47 h47 _ rfl
    go_simp
    have HS0_11 := Lib.hid (HS0_10.out.next hwf)
    have HS1_11 := Lib.hid (HS1_10.out.next hwf)
    have HS2_11 := Lib.hid (HS2_10.out.next hwf)
    have HB_11 := Lib.hid (bstep HB_10.out hwf)
    have hw_11 := HB_11.out.size
    have hws_11 := (hwf).size
    clear HS0_10 f1_10_0 f1_10_1 f1_10_2 f1_10_3 f1_10_4 HS1_10 f2_10_0 f2_10_1 f2_10_2 f2_10_3 f2_10_4 HS2_10
    clear hwf
    have hl0_11 := HS0_11.out.lt
    obtain ⟨f1_11_0, f1_11_1, f1_11_2, f1_11_3, f1_11_4⟩ := str5 HS1_11.out
    have hl1_11 := HS1_11.out.lt
    obtain ⟨f2_11_0, f2_11_1, f2_11_2, f2_11_3, f2_11_4⟩ := str5 HS2_11.out
    have hl2_11 := HS2_11.out.lt
    have hbd : (NumP.val l 12 2 != 0 || NumP.val l 16 1 != 0 || MetaP.check (NumP.val l 17 1) (NumP.val l 18 2) (NumP.val l 20 1) (NumP.val l 21 1) (NumP.val l 22 2) != 0 || !MetaP.within (NumP.val l 14 2) (NumP.val l 17 1 + 1) (NumP.val l 18 2)) = MetaP.bad l := rfl
    rw [hbd]
    clear hbd h30 h31 h34 h35 h36 h39 h40 h41 h42 h43 h44 h45 h46 h47
    cases hbad : MetaP.bad l
    · have HD := Lib.hid hbad
      clear hbad
      have Hcb : Hid (MetaP.cb l = NumP.val l 17 1) := Lib.hid (by rw [MetaP.cb, if_neg (by rw [HD.out]; simp)])
      have Hcp : Hid (MetaP.cp l = NumP.val l 18 2) := Lib.hid (by rw [MetaP.cp, if_neg (by rw [HD.out]; simp)])
      have Hcf : Hid (MetaP.cf l = NumP.val l 20 1) := Lib.hid (by rw [MetaP.cf, if_neg (by rw [HD.out]; simp)])
      have Hcc : Hid (MetaP.cc l = NumP.val l 21 1) := Lib.hid (by rw [MetaP.cc, if_neg (by rw [HD.out]; simp)])
      have Hcl : Hid (MetaP.cl l = NumP.val l 22 2) := Lib.hid (by rw [MetaP.cl, if_neg (by rw [HD.out]; simp)])
      have Hused : Hid (MetaP.used l = NumP.val l 14 2) := Lib.hid (by rw [MetaP.used, if_neg (by rw [HD.out]; simp)])
      have Herr : Hid (MetaP.err l = 0) := Lib.hid (by rw [MetaP.err, if_neg (by rw [HD.out]; simp)])
      clear HD
      go_wp2_with fail
      obtain ⟨tr, htr⟩ := HS1_11.out
      have HT := Lib.hid htr
      clear htr
      have HG := Lib.hid (HS1_11.out.lt)
      refine Reg.wp_region_vals (R := (Reg.putW (w.heap.size + 1) (.cells #[.int .i64 (NumP.val l 17 1), .int .i64 (NumP.val l 18 2), .int .i64 (NumP.val l 20 1), .int .i64 (NumP.val l 21 1), .int .i64 (NumP.val l 22 2)] tr (0, 0)))) (W := W11) [Reg.eqv (.agg #[.int .i64 (NumP.val l 17 1), .int .i64 (NumP.val l 18 2), .int .i64 (NumP.val l 20 1), .int .i64 (NumP.val l 21 1), .int .i64 (NumP.val l 22 2)]), Reg.eqv (.agg (rowV l)), Reg.eqv (.int .i64 (NumP.val l 14 2)), Reg.written (w.heap.size + 1) (.cells #[.int .i64 (NumP.val l 17 1), .int .i64 (NumP.val l 18 2), .int .i64 (NumP.val l 20 1), .int .i64 (NumP.val l 21 1), .int .i64 (NumP.val l 22 2)] tr (0, 0)), Reg.eqv (.int .i64 (NumP.val l 14 2)), Reg.eqv (.int .i64 0)] 53 [[(7, none)], [(1, none)], [(51, some 1)], [(2, none), (50, some 0)], [(52, some 2)], []] rfl (by kernel_rfl) (by kernel_rfl) (by kernel_rfl) ?_ [some 50, some 51, some 52, none, some 3, some 4] (by kernel_rfl) ?_
      · refine ⟨?_, ?_, ?_, ?_, ?_, ?_, trivial⟩
        · intro ax wx hx hs
          obtain ⟨e7, -⟩ := hs
          have g7 := Reg.ev (v := .pointer (some ⟨W9.heap.size, 0, none⟩)) e7
          refine Reg.obl_free rfl ?_
          have hc := fun k => Reg.put_cell hx HG.out W9.heap.size k (by omega) (by omega)
          exact Reg.wp_eqv (Option.some_ne_none _) (by go_simp) rfl
        · intro ax wx hx hs
          obtain ⟨e1, -⟩ := hs
          have g1 := Reg.ev (v := .pointer (some ⟨w.heap.size, 0, none⟩)) e1
          refine Reg.obl_free rfl ?_
          have hld := run_ld (P := Try.prog) arrPage (Reg.putW_other hx HG.out HS0_11.out (by omega)) HL.out
          exact Reg.wp_eqv (Option.some_ne_none _) (by go_simp) rfl
        · intro ax wx hx hs
          obtain ⟨e51, -⟩ := hs
          have g51 := Reg.ev (v := .agg (rowV l)) e51
          refine Reg.obl_free rfl ?_
          go_simp
          refine (PageW.next_any l HL.out _).mono ?_
          rintro e wy ⟨rfl, hby⟩
          exact Reg.done (Option.some_ne_none _) rfl (Reg.put_below hby)
        · intro ax wx hx hs
          obtain ⟨e2, e50, -⟩ := hs
          have g2 := Reg.ev (v := .pointer (some ⟨w.heap.size + 1, 0, none⟩)) e2
          have g50 := Reg.ev (v := .agg #[.int .i64 (NumP.val l 17 1), .int .i64 (NumP.val l 18 2), .int .i64 (NumP.val l 20 1), .int .i64 (NumP.val l 21 1), .int .i64 (NumP.val l 22 2)]) e50
          refine Reg.obl_free rfl ?_
          rcases Reg.put_str hx HT.out with hgs | hgs
          all_goals
            have hS : Str wx (w.heap.size + 1) _ := ⟨_, hgs⟩
            obtain ⟨f0, f1, f2, f3, f4⟩ := str5 hS
            have hfz := fun j => hS.frozen j
            have ho : _ := Reg.setStr_heap (Reg.setStr_heap (Reg.setStr_heap (Reg.setStr_heap (Reg.setStr_heap hgs 0 (.int .i64 (NumP.val l 17 1))) 1 (.int .i64 (NumP.val l 18 2))) 2 (.int .i64 (NumP.val l 20 1))) 3 (.int .i64 (NumP.val l 21 1))) 4 (.int .i64 (NumP.val l 22 2))
            go_simp
            exact ⟨undef, rfl, fun _ => rfl, (show _ = some _ from (by simpa using ho)), Reg.put_set (grown_set (grown_set (grown_set (grown_set (grown_set (grown_refl wx _) 0 _) 1 _) 2 _) 3 _) 4 _) (by simpa using ho)⟩
        · intro ax wx hx hs
          obtain ⟨e52, -⟩ := hs
          have g52 := Reg.ev (v := .int .i64 (NumP.val l 14 2)) e52
          exact Reg.obl_free rfl (Reg.wp_eqv (Option.some_ne_none _) (by go_simp) rfl)
        · intro ax wx hx hs
          exact Reg.obl_free rfl (Reg.wp_eqv (Option.some_ne_none _) (by go_simp) rfl)
      · intro W12 hwf
        simp only [Reg.Fin]
        rintro _ rfl _ rfl _ rfl vn3 hn3 _ rfl _ rfl
        go_simp
        have hgr := Reg.put_grown hwf HG.out
        have HS12 : Hid (Str W12 (w.heap.size + 1) #[.int .i64 (NumP.val l 17 1), .int .i64 (NumP.val l 18 2), .int .i64 (NumP.val l 20 1), .int .i64 (NumP.val l 21 1), .int .i64 (NumP.val l 22 2)]) := Lib.hid ⟨_, hn3⟩
        have HB12 := Lib.hid (below_grown HB_11.out hgr (by omega))
        clear hgr hwf hn3
        obtain ⟨k0, k1, k2, k3, k4⟩ := str5 HS12.out
        have hlk := HS12.out.lt
        go_wp2_with fail
        exact bodyPost_ret (v := .tuple #[.agg #[.int .i64 (NumP.val l 17 1), .int .i64 (NumP.val l 18 2), .int .i64 (NumP.val l 20 1), .int .i64 (NumP.val l 21 1), .int .i64 (NumP.val l 22 2)], .int .i64 (NumP.val l 14 2), .int .i64 0]) (by simp [results, Try.results60, go_sem, k0, k1, k2, k3, k4]) rfl ⟨by rw [Hcb.out, Hcp.out, Hcf.out, Hcc.out, Hcl.out, Hused.out, Herr.out], HB12.out⟩
    · have HD := Lib.hid hbad
      clear hbad
      have Hcb : Hid (MetaP.cb l = 0) := Lib.hid (by rw [MetaP.cb, if_pos HD.out])
      have Hcp : Hid (MetaP.cp l = 0) := Lib.hid (by rw [MetaP.cp, if_pos HD.out])
      have Hcf : Hid (MetaP.cf l = 0) := Lib.hid (by rw [MetaP.cf, if_pos HD.out])
      have Hcc : Hid (MetaP.cc l = 0) := Lib.hid (by rw [MetaP.cc, if_pos HD.out])
      have Hcl : Hid (MetaP.cl l = 0) := Lib.hid (by rw [MetaP.cl, if_pos HD.out])
      have Hused : Hid (MetaP.used l = 0) := Lib.hid (by rw [MetaP.used, if_pos HD.out])
      have Herr : Hid (MetaP.err l = 14) := Lib.hid (by rw [MetaP.err, if_pos HD.out])
      clear HD
      have hfz := fun j => HS1_11.out.frozen j
      go_wp2_with fail
      exact bodyPost_ret (v := .tuple #[.agg #[.int .i64 0, .int .i64 0, .int .i64 0, .int .i64 0, .int .i64 0], .int .i64 0, .int .i64 14]) (by simp [results, Try.results60, go_sem, f1_11_0, f1_11_1, f1_11_2, f1_11_3, f1_11_4]) rfl ⟨by rw [Hcb.out, Hcp.out, Hcf.out, Hcc.out, Hcl.out, Hused.out, Herr.out], below_grown HB_11.out (grown_set (grown_set (grown_set (grown_set (grown_set (grown_refl W11 _) 0 _) 1 _) 2 _) 3 _) 4 _) (by omega)⟩
end Go.Proofs.Ytjengjbkdflapaa.MetaW
