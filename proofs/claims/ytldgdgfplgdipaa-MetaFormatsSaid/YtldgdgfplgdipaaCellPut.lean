/-
  The walk of cell.Put: a cell's bytes behind others.
-/
import Derived.Test.YtldgdgfplgdipaaCell
import Derived.Deep.RegionWith
namespace Go.Proofs.Ytldgdgfplgdipaa.CellPut
open Go.RowKit
attribute [local go_sem ↓] app_fold

/-- a slice in a box, which owns its bytes -/
def Out (w : World) (base B : Nat) (l : List UInt8) : Prop := ∃ v, Boxed w B 22 v ∧ w.ownsRow base 5 1 v l.length (l.map byteV) ∧ base ≤ B
def Added (w : World) (base B : Nat) (l : List UInt8) (e : Ending) (w' : World) : Prop := e = .returned (.tuple #[]) ∧ Out w' base B l ∧ Below base w w'

theorem bytes_rec (c : Cell) (hr : CellP.right c = true) (hk : c.kind = 1) : CellP.bytes c = BeP.parts 1 c.kind ++ (BeP.parts 1 (c.data.length : Int) ++ c.data) := by
  have h32 : c.data.length ≤ 32 := by
    unfold CellP.right at hr
    rw [if_pos hk] at hr
    simp at hr
    exact hr.1
  unfold CellP.bytes
  rw [if_pos hr, if_pos hk, hk]
  have e1 : BeP.parts 1 1 = [1] := by decide
  have e2 : BeP.parts 1 (c.data.length : Int) = [UInt8.ofNat c.data.length] := by
    have : BeP.u64 (c.data.length : Int) = c.data.length := by unfold BeP.u64; omega
    simp [BeP.parts, BeP.part, this]
  rw [e1, e2]
  rfl
theorem bytes_cnt (c : Cell) (hr : CellP.right c = true) (hk : c.kind = 2) : CellP.bytes c = BeP.parts 1 c.kind ++ (BeP.parts 8 c.lo ++ (BeP.parts 8 c.hi ++ BeP.parts 8 c.val)) := by
  unfold CellP.bytes
  rw [if_pos hr, if_neg (by omega), hk]
  have e1 : BeP.parts 1 2 = [2] := by decide
  rw [e1]

end Go.Proofs.Ytldgdgfplgdipaa.CellPut
