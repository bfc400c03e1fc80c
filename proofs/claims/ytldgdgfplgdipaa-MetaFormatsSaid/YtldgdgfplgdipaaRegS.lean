/-
  More words for slots of a region: a new box, an item, a cell. No program in sight.
-/
import Derived.Test.YtldgdgfplgdipaaReg
import Derived.Test.YtldgdgfplgdipaaStr
import Derived.Test.YtldgdgfplgdipaaPSlot
namespace Go.Proofs.Ytldgdgfplgdipaa.Reg
open Go.RowKit

/-- a box that was not there -/
def fresh (B : Nat) (cs : Array Value) : SP ext := ⟨fun v w => ∃ g, v = .pointer (some ⟨g, 0, none⟩) ∧ B ≤ g ∧ Str w g cs, fun _ _ _ hb ⟨g, e, h1, h2⟩ => ⟨g, e, h1, h2.next hb⟩⟩
/-- a cell -/
def cellS (c : Cell) : SP ext := ⟨fun v w => ∃ A n cap, v = .agg #[.int .i64 c.kind, .slice A n cap, .int .i64 c.lo, .int .i64 c.hi, .int .i64 c.val] ∧ Bytes w w.heap.size A n cap c.data, fun _ _ _ hb ⟨A, n, cap, e, h⟩ => ⟨A, n, cap, e, h.next hb⟩⟩
/-- an item -/
def itemS (x : Item) : SP ext := ⟨fun v w => ∃ A n cap, v = .agg #[.int .i64 x.state, .string x.key, .int .i64 x.cell.kind, .slice A n cap, .int .i64 x.cell.lo, .int .i64 x.cell.hi, .int .i64 x.cell.val] ∧ Bytes w w.heap.size A n cap x.cell.data, fun _ _ _ hb ⟨A, n, cap, e, h⟩ => ⟨A, n, cap, e, h.next hb⟩⟩
/-- an undo -/
def undoS (u : Undo) : SP ext := ⟨fun v w => ∃ A n cap, v = .agg #[.int .i64 u.act, .string u.key, .int .i64 u.item.state, .string u.item.key, .int .i64 u.item.cell.kind, .slice A n cap, .int .i64 u.item.cell.lo, .int .i64 u.item.cell.hi, .int .i64 u.item.cell.val, .int .i64 u.n] ∧ Bytes w w.heap.size A n cap u.item.cell.data, fun _ _ _ hb ⟨A, n, cap, e, h⟩ => ⟨A, n, cap, e, h.next hb⟩⟩
end Go.Proofs.Ytldgdgfplgdipaa.Reg
