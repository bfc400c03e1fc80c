/-
  The small functions of the statements of layer 4: code, live.
-/
import Derived.Test.YtcagflakmokoiaaKey
import Derived.Test.YtcagflakmokoiaaKeyHs
namespace Go.Proofs.Ytcagflakmokoiaa.Live04
open Go.RowKit

theorem code_any (n : Int) (w : World) : Calls Try.prog 104 #[.int .i64 n] w fun e w' => e = .returned (.int .i64 n) ∧ w = w' := by
  go_enter Try.func104, Try.ntmps104
  go_wp2
  go_ret
  exact ⟨rfl, rfl⟩

theorem hash_a : (((KeyP.hash [97] : Nat) : Int) == 3826002220) = true := by rw [KeyP.hash_a]; rfl
theorem check_none : (KeyP.code (KeyP.right []) == 1) = true := by decide +kernel

set_option maxHeartbeats 400000 in
theorem live_any (w : World) : Calls Try.prog 52 #[] w fun e w' => e = .returned (.bool true) ∧ Below w.heap.size w w' := by
  have h1 := hash_a
  have h2 := check_none
  go_enter Try.func52, Try.ntmps52
  go_wp2_with (first
    | (go_at_call 103; refine (Key.hash_any _ _ (by decide)).mono ?_; rintro e w' ⟨rfl, rfl⟩)
    | (go_at_call 85; refine (Key.check_any _ _ (by decide)).mono ?_; rintro e w1 ⟨rfl, hb⟩)
    | (go_at_call 104; refine (code_any _ _).mono ?_; rintro e w' ⟨rfl, rfl⟩))
  go_ret
  exact ⟨rfl, hb⟩

end Go.Proofs.Ytcagflakmokoiaa.Live04
