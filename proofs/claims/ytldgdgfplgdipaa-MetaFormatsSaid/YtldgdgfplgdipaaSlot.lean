/-
  The walks of package slot and of its reference that make no array.
-/
import Derived.Test.YtldgdgfplgdipaaProg
import Derived.Test.YtldgdgfplgdipaaCellF
import Derived.Test.YtldgdgfplgdipaaKey
import Derived.Test.YtldgdgfplgdipaaPSlot
import Derived.Test.YtldgdgfplgdipaaHeld
namespace Go.Proofs.Ytldgdgfplgdipaa.SlotW
open Go.RowKit

/-- an item as a value -/
abbrev itemV (A : Option Addr) (n cap : Nat) (x : Item) : Value := .agg #[.int .i64 x.state, .string x.key, .int .i64 x.cell.kind, .slice A n cap, .int .i64 x.cell.lo, .int .i64 x.cell.hi, .int .i64 x.cell.val]

/-- against the empty slot -/
theorem empty_bytes (w : World) : Bytes w 0 none 0 0 (SlotP.none).cell.data := Bytes.none_ _ _

end Go.Proofs.Ytldgdgfplgdipaa.SlotW
