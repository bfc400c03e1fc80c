/-
  A struct's box: what is stored into it. No program in sight.
-/
import Derived.Test.YtldgdgfplgdipaaHeld
import Derived.Deep.Heap
namespace Go.Proofs.Ytldgdgfplgdipaa
open Go.RowKit

theorem Str.set {w : World} {b : Nat} {cs : Array Value} (h : Str w b cs) (i : Nat) (v : Value) : Str (w.setCell ⟨b, i, none⟩ v) b (cs.setIfInBounds i v) := by
  obtain ⟨t, h⟩ := h
  refine ⟨t, ?_⟩
  have hl := (Array.getElem?_eq_some_iff.1 h).1
  simp [World.setCell, Array.getElem?_modify, h]
theorem Str.other {w : World} {b b' : Nat} {cs : Array Value} (h : Str w b cs) (i : Nat) (v : Value) (hne : b ≠ b') : Str (w.setCell ⟨b', i, none⟩ v) b cs := by
  obtain ⟨t, h⟩ := h
  exact ⟨t, (Deep.blk_setCell_other w ⟨b', i, none⟩ v b hne).trans h⟩
theorem own_set {w : World} {base : Nat} {e : TypeId} {size n : Nat} {v : Value} {xs : List Value} (h : w.ownsRow base e size v n xs) {b : Nat} (hb : b < base) (i : Nat) (u : Value) : (w.setCell ⟨b, i, none⟩ u).ownsRow base e size v n xs := by
  obtain ⟨h1, h2⟩ := h
  refine ⟨h1, ?_⟩
  rcases h2 with h2 | ⟨g, cap, cur, hv, hg, hh, r⟩
  · exact .inl h2
  · exact .inr ⟨g, cap, cur, hv, hg, (Deep.blk_setCell_other w ⟨b, i, none⟩ u g (by show g ≠ b; omega)).trans hh, r⟩
theorem Bytes.own {w : World} {A : Option Addr} {n c base k : Nat} {l : List UInt8} {e : TypeId} (h : w.ownsRow base e 1 (.slice A n c) k (l.map byteV)) : Bytes w w.heap.size A n c l := by
  obtain ⟨A', n', c', e', h'⟩ := Bytes.of_own h
  cases e'
  exact h'
theorem str1 {w : World} {b : Nat} {c0 : Value} (h : Str w b #[c0]) : w.cell? ⟨b, 0, none⟩ = some c0 := h.cell 0
theorem str2 {w : World} {b : Nat} {c0 c1 : Value} (h : Str w b #[c0, c1]) : w.cell? ⟨b, 0, none⟩ = some c0 ∧ w.cell? ⟨b, 1, none⟩ = some c1 := ⟨h.cell 0, h.cell 1⟩
theorem str3 {w : World} {b : Nat} {c0 c1 c2 : Value} (h : Str w b #[c0, c1, c2]) : w.cell? ⟨b, 0, none⟩ = some c0 ∧ w.cell? ⟨b, 1, none⟩ = some c1 ∧ w.cell? ⟨b, 2, none⟩ = some c2 := ⟨h.cell 0, h.cell 1, h.cell 2⟩
theorem str4 {w : World} {b : Nat} {c0 c1 c2 c3 : Value} (h : Str w b #[c0, c1, c2, c3]) : w.cell? ⟨b, 0, none⟩ = some c0 ∧ w.cell? ⟨b, 1, none⟩ = some c1 ∧ w.cell? ⟨b, 2, none⟩ = some c2 ∧ w.cell? ⟨b, 3, none⟩ = some c3 := ⟨h.cell 0, h.cell 1, h.cell 2, h.cell 3⟩
end Go.Proofs.Ytldgdgfplgdipaa
