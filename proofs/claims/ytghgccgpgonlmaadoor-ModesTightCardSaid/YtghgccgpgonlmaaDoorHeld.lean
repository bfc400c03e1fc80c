/-
  Words for a region that draws its order beside calls that make memory: what lay at its beginning reads as it did. No program in sight.
-/
import Derived.Test.YtghgccgpgonlmaaDoorBytes
import Derived.Deep.RegionHeld3
namespace Go.Proofs.YtghgccgpgonlmaaDoor
open Go.RowKit

section
variable {W w' w1 : World}
theorem held_draw (W : World) : (∀ b o, b < W.heap.size → W.drew.cell? ⟨b, o, none⟩ = W.cell? ⟨b, o, none⟩) ∧ Below W.heap.size W W.drew := ⟨fun _ _ _ => rfl, (Below.refl _ _).drew⟩
theorem held_call (h : (∀ b o, b < W.heap.size → w'.cell? ⟨b, o, none⟩ = W.cell? ⟨b, o, none⟩) ∧ Below W.heap.size W w') (hb : Below w'.heap.size w' w1) :
    (∀ b o, b < W.heap.size → w1.cell? ⟨b, o, none⟩ = W.cell? ⟨b, o, none⟩) ∧ Below W.heap.size W w1 := by
  have hB := h.2.trans (hb.mono h.2.size)
  exact ⟨fun b o hb' => hB.cell (p := ⟨b, o, none⟩) hb', hB⟩
theorem held_alloc (h : (∀ b o, b < W.heap.size → w'.cell? ⟨b, o, none⟩ = W.cell? ⟨b, o, none⟩) ∧ Below W.heap.size W w') (o : Obj) :
    (∀ b o', b < W.heap.size → (w'.alloc o).cell? ⟨b, o', none⟩ = W.cell? ⟨b, o', none⟩) ∧ Below W.heap.size W (w'.alloc o) := by
  have hB := h.2.alloc h.2.size o
  exact ⟨fun b o hb' => hB.cell (p := ⟨b, o, none⟩) hb', hB⟩
theorem held_size (h : (∀ b o, b < W.heap.size → w'.cell? ⟨b, o, none⟩ = W.cell? ⟨b, o, none⟩) ∧ Below W.heap.size W w') : W.heap.size ≤ w'.heap.size := h.2.size
theorem Bytes.held {A : Option Addr} {n c : Nat} {l : List UInt8} (h : Bytes W W.heap.size A n c l) (hs : (∀ b o, b < W.heap.size → w'.cell? ⟨b, o, none⟩ = W.cell? ⟨b, o, none⟩) ∧ Below W.heap.size W w') : Bytes w' W.heap.size A n c l := h.below hs.2
end

/-- block b is just these cells -/
def Str (w : World) (b : Nat) (cs : Array Value) : Prop := ∃ t, w.heap[b]? = some (.cells cs t (0, 0))
section
variable {w w' : World} {b : Nat} {cs : Array Value}
theorem Str.lt (h : Str w b cs) : b < w.heap.size := by
  obtain ⟨t, h⟩ := h
  exact (Array.getElem?_eq_some_iff.1 h).1
theorem Str.new (w : World) (cs : Array Value) (t : TypeId) : Str (w.alloc (.cells cs t)) w.heap.size cs := ⟨t, heap_alloc_new w _⟩
theorem Str.alloc (h : Str w b cs) (o : Obj) : Str (w.alloc o) b cs := by
  have hl := h.lt
  obtain ⟨t, h⟩ := h
  exact ⟨t, (Below.heap_alloc w o b hl).trans h⟩
theorem Str.next (h : Str w b cs) (hb : Below w.heap.size w w') : Str w' b cs := by
  have hl := h.lt
  obtain ⟨t, h⟩ := h
  exact ⟨t, (hb.block b hl).trans h⟩
theorem Str.below {B : Nat} (h : Str w b cs) (hb : Below B w w') (hB : b < B) : Str w' b cs := by
  obtain ⟨t, h⟩ := h
  exact ⟨t, (hb.block b hB).trans h⟩
theorem Str.cell (h : Str w b cs) (i : Nat) : w.cell? ⟨b, i, none⟩ = cs[i]? := by
  obtain ⟨t, h⟩ := h
  exact cell_of_row w b i cs t (0, 0) h
theorem Str.frozen (h : Str w b cs) (i : Nat) : w.frozen? ⟨b, i, none⟩ = false := by
  obtain ⟨t, h⟩ := h
  simp [World.frozen?, h]
theorem Str.drewN (h : Str w b cs) (n : Nat) : Str (w.drewN n) b cs := h
theorem str5 {c0 c1 c2 c3 c4 : Value} (h : Str w b #[c0, c1, c2, c3, c4]) :
    w.cell? ⟨b, 0, none⟩ = some c0 ∧ w.cell? ⟨b, 1, none⟩ = some c1 ∧ w.cell? ⟨b, 2, none⟩ = some c2 ∧ w.cell? ⟨b, 3, none⟩ = some c3 ∧ w.cell? ⟨b, 4, none⟩ = some c4 := ⟨h.cell 0, h.cell 1, h.cell 2, h.cell 3, h.cell 4⟩
theorem str6 {c0 c1 c2 c3 c4 c5 : Value} (h : Str w b #[c0, c1, c2, c3, c4, c5]) :
    w.cell? ⟨b, 0, none⟩ = some c0 ∧ w.cell? ⟨b, 1, none⟩ = some c1 ∧ w.cell? ⟨b, 2, none⟩ = some c2 ∧ w.cell? ⟨b, 3, none⟩ = some c3 ∧ w.cell? ⟨b, 4, none⟩ = some c4 ∧ w.cell? ⟨b, 5, none⟩ = some c5 := ⟨h.cell 0, h.cell 1, h.cell 2, h.cell 3, h.cell 4, h.cell 5⟩
theorem str7 {c0 c1 c2 c3 c4 c5 c6 : Value} (h : Str w b #[c0, c1, c2, c3, c4, c5, c6]) :
    w.cell? ⟨b, 0, none⟩ = some c0 ∧ w.cell? ⟨b, 1, none⟩ = some c1 ∧ w.cell? ⟨b, 2, none⟩ = some c2 ∧ w.cell? ⟨b, 3, none⟩ = some c3 ∧ w.cell? ⟨b, 4, none⟩ = some c4 ∧ w.cell? ⟨b, 5, none⟩ = some c5 ∧ w.cell? ⟨b, 6, none⟩ = some c6 := ⟨h.cell 0, h.cell 1, h.cell 2, h.cell 3, h.cell 4, h.cell 5, h.cell 6⟩
end
end Go.Proofs.YtghgccgpgonlmaaDoor
