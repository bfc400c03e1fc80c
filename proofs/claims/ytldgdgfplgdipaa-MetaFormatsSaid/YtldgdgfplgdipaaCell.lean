/-
  The walks of package cell and of its reference.
-/
import Derived.Test.YtldgdgfplgdipaaProg
import Derived.Test.YtldgdgfplgdipaaSame
import Derived.Test.YtldgdgfplgdipaaBe
import Derived.Test.YtldgdgfplgdipaaPCell
namespace Go.Proofs.Ytldgdgfplgdipaa.CellW
open Go.RowKit

theorem code_of (b : Bool) (n : Int) (h : n = CellP.code b) : Ending.returned (.int .i64 n) = Ending.returned (.int .i64 (CellP.code b)) := by rw [h]

end Go.Proofs.Ytldgdgfplgdipaa.CellW
