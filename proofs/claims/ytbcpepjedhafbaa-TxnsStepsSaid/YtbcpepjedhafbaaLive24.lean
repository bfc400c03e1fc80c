/-
  The page's example of layer 24.
-/
import Derived.Test.YtbcpepjedhafbaaTxnW
namespace Go.Proofs.Ytbcpepjedhafbaa.Live24
open Go.RowKit Go.Maps TxnW
set_option linter.unusedVariables false
set_option linter.unusedSimpArgs false
set_option maxRecDepth 100000 in
set_option maxHeartbeats 1000000 in
theorem live_any (w : World) : Calls Try.prog 4 #[] w fun e w' => e = .returned (.bool true) ∧ Below w.heap.size w w' := by
  have HB_0 := Lib.hid (bsame w)
  have hw_0 := HB_0.out.size
  go_enter Try.func4, Try.ntmps4
  go_wp2_with fail
  refine (new_any 5 (by unfold In64; omega) _).mono ?_
  rintro e W1 ⟨tb, bm, rfl, hT, hg1, hg2, hb1⟩
  have HB_1 := Lib.hid (bstep HB_0.out hb1)
  have hw_1 := HB_1.out.size
  have hws_1 := (hb1).size
  have e5 : min (max (5 : Int) 1) 281474976710656 = 5 := by decide
  rw [e5] at hT
  clear e5 hb1
  have HTt_1 := Lib.hid (hT)
  have htlt := HTt_1.out.lt
  have htmt := HTt_1.out.mlt
  clear hT
  go_wp2_with fail
  refine (begin_any _ HTt_1.out (by unfold maxLen; omega) (by omega) (by omega)).mono ?_
  rintro e W2 ⟨rfl, ht2, hk2⟩
  have HB_2 := Lib.hid (HB_1.out.trans (hk2.below (M := w.heap.size) (by omega) (by intro b hb; simp only [List.mem_cons, List.not_mem_nil, or_false] at hb; rcases hb with rfl | rfl <;> omega)))
  have hw_2 := HB_2.out.size
  have hws_2 := hk2.size
  clear HTt_1 htlt htmt
  have HTt_2 := Lib.hid ht2
  have htlt := HTt_2.out.lt
  have htmt := HTt_2.out.mlt
  clear ht2 hk2
  replace HTt_2 : Hid (Tab W2 tb bm _ 6 [⟨5, 0, 0, 0⟩]) := HTt_2
  go_wp2_with fail
  refine (note_any 5 40 90 256 _ HTt_2.out (by unfold maxLen; omega) (by unfold In64; omega) (by intro _; decide +kernel)).mono ?_
  rintro e W3 ⟨rfl, ht3, hk3⟩
  have HB_3 := Lib.hid (HB_2.out.trans (hk3.below (M := w.heap.size) (by omega) (by intro b hb; simp only [List.mem_cons, List.not_mem_nil, or_false] at hb; rcases hb with rfl | rfl <;> omega)))
  have hw_3 := HB_3.out.size
  have hws_3 := hk3.size
  clear HTt_2 htlt htmt
  have HTt_3 := Lib.hid ht3
  have htlt := HTt_3.out.lt
  have htmt := HTt_3.out.mlt
  clear ht3 hk3
  replace HTt_3 : Hid (Tab W3 tb bm _ 6 [⟨5, 40, 90, 256⟩]) := HTt_3
  go_wp2_with fail
  refine (note_any 5 90 130 (-256) _ HTt_3.out (by unfold maxLen; omega) (by unfold In64; omega) (by intro _; decide +kernel)).mono ?_
  rintro e W4 ⟨rfl, ht4, hk4⟩
  have HB_4 := Lib.hid (HB_3.out.trans (hk4.below (M := w.heap.size) (by omega) (by intro b hb; simp only [List.mem_cons, List.not_mem_nil, or_false] at hb; rcases hb with rfl | rfl <;> omega)))
  have hw_4 := HB_4.out.size
  have hws_4 := hk4.size
  clear HTt_3 htlt htmt
  have HTt_4 := Lib.hid ht4
  have htlt := HTt_4.out.lt
  have htmt := HTt_4.out.mlt
  clear ht4 hk4
  replace HTt_4 : Hid (Tab W4 tb bm _ 6 [⟨5, 40, 130, 0⟩]) := HTt_4
  go_wp2_with fail
  refine (get_any 5 _ HTt_4.out (by unfold In64; omega)).mono ?_
  rintro e W5 ⟨rfl, hb5⟩
  rw [show TxnP.get [⟨5, 40, 130, 0⟩] 5 = ⟨5, 40, 130, 0⟩ from rfl, show TxnP.has [⟨5, 40, 130, 0⟩] 5 = true from rfl]
  dsimp only
  have HB_5 := Lib.hid (bstep HB_4.out hb5)
  have HTt_5 := Lib.hid (HTt_4.out.below hb5)
  clear HTt_4 htlt htmt
  have htlt := HTt_5.out.lt
  have htmt := HTt_5.out.mlt
  have hw_5 := HB_5.out.size
  have hws_5 := (hb5).size
  clear hb5
  go_wp2_with fail
  go_ret
  exact ⟨rfl, balloc HB_5.out _⟩
end Go.Proofs.Ytbcpepjedhafbaa.Live24
