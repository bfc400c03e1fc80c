/-
  The walk of ModesOrder: the Go text returns true for every three numbers, and writes nothing that was there.
-/
import Derived.Test.YtmjpdbogpeokkaaDoorOpen
import Derived.Test.YtmjpdbogpeokkaaDoorLive10
namespace Go.Proofs.YtmjpdbogpeokkaaDoor.modesOrder
open Go.RowKit

set_option maxHeartbeats 2000000 in
theorem walk (v0 v1 v2 : Value) (a0 a1 a2 : Int) (w : World) (g0 : RU8 w v0 a0) (g1 : RU8 w v1 a1) (g2 : RU8 w v2 a2) (hT : Modes.Tab w) (hg : 0 < w.heap.size) :
    Calls Tryd.prog 4 #[v0, v1, v2] w fun e w' => e = .returned (.bool true) ∧ Below w.heap.size w w' := by
  obtain ⟨rfl, x0, x1⟩ := g0
  obtain ⟨rfl, y0, y1⟩ := g1
  obtain ⟨rfl, z0, z1⟩ := g2
  have HT := Lib.hid hT
  clear hT
  obtain ⟨e1, e2, e3, e4, e5, e6⟩ := ModesP.order_all (a0 % 4) (a1 % 4) (a2 % 4) (by omega) (by omega) (by omega) (by omega) (by omega) (by omega)
  have b1 := ModesP.withM_bd 0 (a0 % 4) (by omega) (by omega) (by omega) (by omega)
  have b2 := ModesP.withM_bd 0 (a1 % 4) (by omega) (by omega) (by omega) (by omega)
  have b3 := ModesP.withM_bd (ModesP.withM 0 (a0 % 4)) (a1 % 4) (by omega) (by omega) (by omega) (by omega)
  generalize hS : ModesP.withM (ModesP.withM 0 (a0 % 4)) (a1 % 4) = S at *
  cases hC1 : ModesP.compat (a0 % 4) (a2 % 4) <;> cases hC2 : ModesP.compat (a1 % 4) (a2 % 4) <;> rw [hC1] at e5 e6 <;> rw [hC2] at e5
  all_goals
    simp only [Bool.and_true, Bool.and_false] at e5
    go_enter Tryd.func4, Tryd.ntmps4
    go_wp2_with (first
      | (go_at_call 12; refine (Modes.with_any _ _ _ (by omega) (by omega) (by omega) (by omega)).mono ?_; rintro e w' ⟨rfl, rfl⟩)
      | (go_at_call 13; refine (Modes.has_any _ _ _ (by omega) (by omega) (by omega) (by omega)).mono ?_; rintro e w' ⟨rfl, rfl⟩)
      | (go_at_call 14; refine (Modes.fits_any _ _ _ HT.out (by omega) (by omega) (by omega) (by omega)).mono ?_; rintro e w' ⟨rfl, rfl⟩)
      | (go_at_call 7; refine (Modes.compat_any _ _ _ HT.out).mono ?_; rintro e w' ⟨rfl, rfl⟩)
      | (go_at_call 11; refine (Live10.live_any _ HT.out hg).mono ?_; rintro e w' ⟨rfl, hb⟩))
  all_goals go_ret
  all_goals exact ⟨rfl, hb⟩
end Go.Proofs.YtmjpdbogpeokkaaDoor.modesOrder
