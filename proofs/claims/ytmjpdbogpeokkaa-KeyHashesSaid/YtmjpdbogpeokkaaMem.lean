/-
  Words on memory that all later texts use: steps of 'Below', a slice of bytes that reads as a list. No program in sight.
-/
import Derived.WalkKit
import Derived.WalkSpells
import Derived.WalkLawsBesides
import Derived.Lib.Hide
import Derived.Deep.Draws
namespace Go.Proofs.Ytmjpdbogpeokkaa
open Go.RowKit

/-- one call behind another: nothing that lay before the first has turned -/
theorem bstep {a b c : World} (h : Below a.heap.size a b) (k : Below b.heap.size b c) : Below a.heap.size a c := h.trans (k.mono h.size)
theorem bsame (a : World) : Below a.heap.size a a := Below.refl _ _
theorem bdrewN {B : Nat} {a w : World} (h : Below B a w) (n : Nat) : Below B a (w.drewN n) := ⟨h.os, h.tape, h.output, h.size, h.block⟩
theorem balloc {a b : World} (h : Below a.heap.size a b) (o : Obj) : Below a.heap.size a (b.alloc o) := h.alloc h.size o
end Go.Proofs.Ytmjpdbogpeokkaa
