/-
  The walk of cell.Get: the cell with which bytes begin.
-/
import Derived.Test.YtldgdgfplgdipaaProg
import Derived.Test.YtldgdgfplgdipaaPCellGet
import Derived.Test.YtldgdgfplgdipaaCell
import Derived.Test.YtldgdgfplgdipaaNum
import Derived.Test.YtldgdgfplgdipaaCut
import Derived.Test.YtldgdgfplgdipaaStr
namespace Go.Proofs.Ytldgdgfplgdipaa.CellGet
open Go.RowKit
attribute [local go_sem ↓] app_fold cut_fold

/-- the call hands back this cell, this number, and this error's number -/
def GotCell (w : World) (r : Cell × Int × Int) (e : Ending) (w' : World) : Prop := ∃ A n cap, e = .returned (.tuple #[.agg #[.int .i64 r.1.kind, .slice A n cap, .int .i64 r.1.lo, .int .i64 r.1.hi, .int .i64 r.1.val], .int .i64 r.2.1, .int .i64 r.2.2]) ∧ Bytes w' w'.heap.size A n cap r.1.data ∧ Below w.heap.size w w'

end Go.Proofs.Ytldgdgfplgdipaa.CellGet
