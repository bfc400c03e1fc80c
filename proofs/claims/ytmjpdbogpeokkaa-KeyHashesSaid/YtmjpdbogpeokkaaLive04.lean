/-
  The small functions of the statements of layer 4: code, live.
-/
import Derived.Test.YtmjpdbogpeokkaaKey
namespace Go.Proofs.Ytmjpdbogpeokkaa.Live04
open Go.RowKit

theorem code_any (n : Int) (w : World) : Calls Try.prog 8 #[.int .i64 n] w fun e w' => e = .returned (.int .i64 n) ∧ w = w' := by
  go_enter Try.func8, Try.ntmps8
  go_wp2
  go_ret
  exact ⟨rfl, rfl⟩

theorem hash_a : (((KeyP.hash [97] : Nat) : Int) == 3826002220) = true := by rw [KeyP.hash_a]; rfl
theorem check_none : (KeyP.code (KeyP.right []) == 1) = true := by decide +kernel

set_option maxHeartbeats 400000 in
theorem live_any (w : World) : Calls Try.prog 7 #[] w fun e w' => e = .returned (.bool true) ∧ Below w.heap.size w w' := by
  have h1 := hash_a
  have h2 := check_none
  go_enter Try.func7, Try.ntmps7
  go_wp2_with (first
    | (go_at_call 11; refine (Key.hash_any _ _ (by decide)).mono ?_; rintro e w' ⟨rfl, rfl⟩)
    | (go_at_call 9; refine (Key.check_any _ _ (by decide)).mono ?_; rintro e w1 ⟨rfl, hb⟩)
    | (go_at_call 8; refine (code_any _ _).mono ?_; rintro e w' ⟨rfl, rfl⟩))
  go_ret
  exact ⟨rfl, hb⟩

end Go.Proofs.Ytmjpdbogpeokkaa.Live04
