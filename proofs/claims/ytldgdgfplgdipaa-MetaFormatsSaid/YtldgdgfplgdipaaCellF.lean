/-
  The contracts of package cell, field by field: for regions that call one function several times.
-/
import Derived.Test.YtldgdgfplgdipaaCell
namespace Go.Proofs.Ytldgdgfplgdipaa.CellF
open Go.RowKit

theorem same_self (c : Cell) : CellP.same c c = true := by simp [CellP.same]
end Go.Proofs.Ytldgdgfplgdipaa.CellF
