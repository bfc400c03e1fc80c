/-
  The small functions of the statements of layer 10: live.
-/
import Derived.Test.YtmjpdbogpeokkaaDoorModes
namespace Go.Proofs.YtmjpdbogpeokkaaDoor.Live10
open Go.RowKit

theorem c1 : ModesP.commuteM 4 ⟨#[97]⟩ 5 ⟨#[97]⟩ = true := by decide +kernel
theorem c2 : ModesP.commuteM 0 ⟨#[97]⟩ 4 ⟨#[97]⟩ = false := by decide +kernel

set_option maxHeartbeats 400000 in
theorem live_any (w : World) (hT : Modes.Tab w) (hg : 0 < w.heap.size) : Calls Tryd.prog 11 #[] w fun e w' => e = .returned (.bool true) ∧ Below w.heap.size w w' := by
  have HT := Lib.hid hT
  clear hT
  have h1 := c1
  have h2 := c2
  go_enter Tryd.func11, Tryd.ntmps11
  go_wp2_with fail
  refine (Modes.commute_any _ _ _ _ _ _ _ _ _ _ _ _ _ HT.out hg).mono ?_
  rintro e w1 ⟨rfl, hb⟩
  go_wp2_with fail
  refine (Modes.commute_any _ _ _ _ _ _ _ _ _ _ _ _ _ (HT.out.below hb hg) (Nat.lt_of_lt_of_le hg hb.size)).mono ?_
  rintro e w2 ⟨rfl, hb2⟩
  go_wp2_with fail
  go_ret
  exact ⟨rfl, bstep hb hb2⟩
end Go.Proofs.YtmjpdbogpeokkaaDoor.Live10
