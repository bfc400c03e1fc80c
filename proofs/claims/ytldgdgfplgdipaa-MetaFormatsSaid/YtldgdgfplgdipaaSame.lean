/-
  The walks of the two functions that hold bytes against bytes.
-/
import Derived.Test.YtldgdgfplgdipaaProg
import Derived.Test.YtldgdgfplgdipaaBytes
namespace Go.Proofs.Ytldgdgfplgdipaa.Same
open Go.RowKit

theorem str_beq (l l' : List UInt8) : ((strOf l).toList == (strOf l').toList) = (l == l') := by
  rw [Lib.toList_data, Lib.toList_data, strOf_data, strOf_data]

set_option maxHeartbeats 400000 in
theorem same_any (A A' : Option Addr) (n c n' c' B B' : Nat) (l l' : List UInt8) (w : World) (h : Bytes w B A n c l) (h' : Bytes w B' A' n' c' l') :
    Calls Try.prog 18 #[.slice A n c, .slice A' n' c'] w fun e w' => e = .returned (.bool (l == l')) ∧ w = w' := by
  have h1 := run_str (P := Try.prog) 22 9 5 Try.underlying22 Try.underlying5 Try.underlying9 h
  have h2 := run_str (P := Try.prog) 22 9 5 Try.underlying22 Try.underlying5 Try.underlying9 h'
  clear h h'
  have HS := Lib.hid (str_beq l l')
  go_enter Try.func18, Try.ntmps18
  go_wp2
  go_ret
  rw [← HS.out]
  exact ⟨rfl, rfl⟩

end Go.Proofs.Ytldgdgfplgdipaa.Same
