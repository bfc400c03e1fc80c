/-
  The walk of slot.Check.
-/
import Derived.Test.YtldgdgfplgdipaaSlot
namespace Go.Proofs.Ytldgdgfplgdipaa.SlotW
open Go.RowKit

theorem code_bool (b : Bool) : (KeyP.code b == 0) = b := by cases b <;> decide
theorem ccode_bool (b : Bool) : (CellP.code b == 0) = b := by cases b <;> decide
theorem code_true : CellP.code true = 0 := rfl
theorem code_false : CellP.code false = 1 := rfl

end Go.Proofs.Ytldgdgfplgdipaa.SlotW
