/-
  The walk of slot.Put: the bytes of a slot.
-/
import Derived.Test.YtldgdgfplgdipaaSlotC
import Derived.Test.YtldgdgfplgdipaaCellPut
import Derived.Test.YtldgdgfplgdipaaArrT
import Derived.Test.YtldgdgfplgdipaaCopy
import Derived.Test.YtldgdgfplgdipaaReg
import Derived.IntWalk
namespace Go.Proofs.Ytldgdgfplgdipaa.SlotPut
open Go.RowKit

theorem bytes_zero (x : Item) (h : ¬ (x.state ≠ 0 ∧ SlotP.right x = true)) : SlotP.bytes x = SlotP.zeros 64 := by
  unfold SlotP.bytes
  rw [if_neg h]
theorem zeros_len (n : Nat) : (SlotP.zeros n).length = n := by simp [SlotP.zeros]

end Go.Proofs.Ytldgdgfplgdipaa.SlotPut
