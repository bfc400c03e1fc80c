/-
  Words for a region that draws its order beside calls that make memory: what lay at its beginning reads as it did. No program in sight.
-/
import Derived.Test.YtldgdgfplgdipaaBytes
import Derived.Deep.RegionHeld3
namespace Go.Proofs.Ytldgdgfplgdipaa
open Go.RowKit

section
variable {W w' w1 : World}
theorem held_draw (W : World) : (∀ b o, b < W.heap.size → W.drew.cell? ⟨b, o, none⟩ = W.cell? ⟨b, o, none⟩) ∧ Below W.heap.size W W.drew := ⟨fun _ _ _ => rfl, (Below.refl _ _).drew⟩
theorem held_call (h : (∀ b o, b < W.heap.size → w'.cell? ⟨b, o, none⟩ = W.cell? ⟨b, o, none⟩) ∧ Below W.heap.size W w') (hb : Below w'.heap.size w' w1) :
    (∀ b o, b < W.heap.size → w1.cell? ⟨b, o, none⟩ = W.cell? ⟨b, o, none⟩) ∧ Below W.heap.size W w1 := by
  have hB := h.2.trans (hb.mono h.2.size)
  exact ⟨fun b o hb' => hB.cell (p := ⟨b, o, none⟩) hb', hB⟩
theorem held_alloc (h : (∀ b o, b < W.heap.size → w'.cell? ⟨b, o, none⟩ = W.cell? ⟨b, o, none⟩) ∧ Below W.heap.size W w') (o : Obj) :
    (∀ b o', b < W.heap.size → (w'.alloc o).cell? ⟨b, o', none⟩ = W.cell? ⟨b, o', none⟩) ∧ Below W.heap.size W (w'.alloc o) := by
  have hB := h.2.alloc h.2.size o
  exact ⟨fun b o hb' => hB.cell (p := ⟨b, o, none⟩) hb', hB⟩
theorem held_size (h : (∀ b o, b < W.heap.size → w'.cell? ⟨b, o, none⟩ = W.cell? ⟨b, o, none⟩) ∧ Below W.heap.size W w') : W.heap.size ≤ w'.heap.size := h.2.size
theorem Bytes.held {A : Option Addr} {n c : Nat} {l : List UInt8} (h : Bytes W W.heap.size A n c l) (hs : (∀ b o, b < W.heap.size → w'.cell? ⟨b, o, none⟩ = W.cell? ⟨b, o, none⟩) ∧ Below W.heap.size W w') : Bytes w' W.heap.size A n c l := h.below hs.2
end

/-- block b is just these cells -/
def Str (w : World) (b : Nat) (cs : Array Value) : Prop := ∃ t, w.heap[b]? = some (.cells cs t (0, 0))
section
variable {w w' : World} {b : Nat} {cs : Array Value}
theorem Str.lt (h : Str w b cs) : b < w.heap.size := by
  obtain ⟨t, h⟩ := h
  exact (Array.getElem?_eq_some_iff.1 h).1
theorem Str.new (w : World) (cs : Array Value) (t : TypeId) : Str (w.alloc (.cells cs t)) w.heap.size cs := ⟨t, heap_alloc_new w _⟩
theorem Str.alloc (h : Str w b cs) (o : Obj) : Str (w.alloc o) b cs := by
  have hl := h.lt
  obtain ⟨t, h⟩ := h
  exact ⟨t, (Below.heap_alloc w o b hl).trans h⟩
theorem Str.next (h : Str w b cs) (hb : Below w.heap.size w w') : Str w' b cs := by
  have hl := h.lt
  obtain ⟨t, h⟩ := h
  exact ⟨t, (hb.block b hl).trans h⟩
theorem Str.below {B : Nat} (h : Str w b cs) (hb : Below B w w') (hB : b < B) : Str w' b cs := by
  obtain ⟨t, h⟩ := h
  exact ⟨t, (hb.block b hB).trans h⟩
theorem Str.cell (h : Str w b cs) (i : Nat) : w.cell? ⟨b, i, none⟩ = cs[i]? := by
  obtain ⟨t, h⟩ := h
  exact cell_of_row w b i cs t (0, 0) h
theorem Str.frozen (h : Str w b cs) (i : Nat) : w.frozen? ⟨b, i, none⟩ = false := by
  obtain ⟨t, h⟩ := h
  simp [World.frozen?, h]
theorem Str.drewN (h : Str w b cs) (n : Nat) : Str (w.drewN n) b cs := h
theorem str5 {c0 c1 c2 c3 c4 : Value} (h : Str w b #[c0, c1, c2, c3, c4]) :
    w.cell? ⟨b, 0, none⟩ = some c0 ∧ w.cell? ⟨b, 1, none⟩ = some c1 ∧ w.cell? ⟨b, 2, none⟩ = some c2 ∧ w.cell? ⟨b, 3, none⟩ = some c3 ∧ w.cell? ⟨b, 4, none⟩ = some c4 := ⟨h.cell 0, h.cell 1, h.cell 2, h.cell 3, h.cell 4⟩
theorem str6 {c0 c1 c2 c3 c4 c5 : Value} (h : Str w b #[c0, c1, c2, c3, c4, c5]) :
    w.cell? ⟨b, 0, none⟩ = some c0 ∧ w.cell? ⟨b, 1, none⟩ = some c1 ∧ w.cell? ⟨b, 2, none⟩ = some c2 ∧ w.cell? ⟨b, 3, none⟩ = some c3 ∧ w.cell? ⟨b, 4, none⟩ = some c4 ∧ w.cell? ⟨b, 5, none⟩ = some c5 := ⟨h.cell 0, h.cell 1, h.cell 2, h.cell 3, h.cell 4, h.cell 5⟩
theorem str7 {c0 c1 c2 c3 c4 c5 c6 : Value} (h : Str w b #[c0, c1, c2, c3, c4, c5, c6]) :
    w.cell? ⟨b, 0, none⟩ = some c0 ∧ w.cell? ⟨b, 1, none⟩ = some c1 ∧ w.cell? ⟨b, 2, none⟩ = some c2 ∧ w.cell? ⟨b, 3, none⟩ = some c3 ∧ w.cell? ⟨b, 4, none⟩ = some c4 ∧ w.cell? ⟨b, 5, none⟩ = some c5 ∧ w.cell? ⟨b, 6, none⟩ = some c6 := ⟨h.cell 0, h.cell 1, h.cell 2, h.cell 3, h.cell 4, h.cell 5, h.cell 6⟩
end
theorem new1 {w W : World} {c0 : Array Value} {t0 : TypeId} (h : w.alloc (.cells c0 t0) = W) : Hid (Str W (w.heap.size) c0) ∧ Hid (Below w.heap.size w W) ∧ w.heap.size ≤ W.heap.size ∧ W.heap.size = w.heap.size + 1 := by
  subst h
  exact ⟨Lib.hid (by have := Str.new (w) c0 t0; simpa using this), Lib.hid (balloc (bsame w) _), (balloc (bsame w) _).size, by simp⟩
theorem new2 {w W : World} {c0 c1 : Array Value} {t0 t1 : TypeId} (h : (w.alloc (.cells c0 t0)).alloc (.cells c1 t1) = W) : Hid (Str W (w.heap.size) c0) ∧ Hid (Str W (w.heap.size + 1) c1) ∧ Hid (Below w.heap.size w W) ∧ w.heap.size ≤ W.heap.size ∧ W.heap.size = w.heap.size + 1 + 1 := by
  subst h
  exact ⟨Lib.hid (by have := (Str.new (w) c0 t0).alloc (.cells c1 t1); simpa using this), Lib.hid (by have := Str.new ((w).alloc (.cells c0 t0)) c1 t1; simpa using this), Lib.hid (balloc (balloc (bsame w) _) _), (balloc (balloc (bsame w) _) _).size, by simp⟩
theorem new3 {w W : World} {c0 c1 c2 : Array Value} {t0 t1 t2 : TypeId} (h : ((w.alloc (.cells c0 t0)).alloc (.cells c1 t1)).alloc (.cells c2 t2) = W) : Hid (Str W (w.heap.size) c0) ∧ Hid (Str W (w.heap.size + 1) c1) ∧ Hid (Str W (w.heap.size + 1 + 1) c2) ∧ Hid (Below w.heap.size w W) ∧ w.heap.size ≤ W.heap.size ∧ W.heap.size = w.heap.size + 1 + 1 + 1 := by
  subst h
  exact ⟨Lib.hid (by have := ((Str.new (w) c0 t0).alloc (.cells c1 t1)).alloc (.cells c2 t2); simpa using this), Lib.hid (by have := (Str.new ((w).alloc (.cells c0 t0)) c1 t1).alloc (.cells c2 t2); simpa using this), Lib.hid (by have := Str.new (((w).alloc (.cells c0 t0)).alloc (.cells c1 t1)) c2 t2; simpa using this), Lib.hid (balloc (balloc (balloc (bsame w) _) _) _), (balloc (balloc (balloc (bsame w) _) _) _).size, by simp⟩
theorem new4 {w W : World} {c0 c1 c2 c3 : Array Value} {t0 t1 t2 t3 : TypeId} (h : (((w.alloc (.cells c0 t0)).alloc (.cells c1 t1)).alloc (.cells c2 t2)).alloc (.cells c3 t3) = W) : Hid (Str W (w.heap.size) c0) ∧ Hid (Str W (w.heap.size + 1) c1) ∧ Hid (Str W (w.heap.size + 1 + 1) c2) ∧ Hid (Str W (w.heap.size + 1 + 1 + 1) c3) ∧ Hid (Below w.heap.size w W) ∧ w.heap.size ≤ W.heap.size ∧ W.heap.size = w.heap.size + 1 + 1 + 1 + 1 := by
  subst h
  exact ⟨Lib.hid (by have := (((Str.new (w) c0 t0).alloc (.cells c1 t1)).alloc (.cells c2 t2)).alloc (.cells c3 t3); simpa using this), Lib.hid (by have := ((Str.new ((w).alloc (.cells c0 t0)) c1 t1).alloc (.cells c2 t2)).alloc (.cells c3 t3); simpa using this), Lib.hid (by have := (Str.new (((w).alloc (.cells c0 t0)).alloc (.cells c1 t1)) c2 t2).alloc (.cells c3 t3); simpa using this), Lib.hid (by have := Str.new ((((w).alloc (.cells c0 t0)).alloc (.cells c1 t1)).alloc (.cells c2 t2)) c3 t3; simpa using this), Lib.hid (balloc (balloc (balloc (balloc (bsame w) _) _) _) _), (balloc (balloc (balloc (balloc (bsame w) _) _) _) _).size, by simp⟩
theorem new5 {w W : World} {c0 c1 c2 c3 c4 : Array Value} {t0 t1 t2 t3 t4 : TypeId} (h : ((((w.alloc (.cells c0 t0)).alloc (.cells c1 t1)).alloc (.cells c2 t2)).alloc (.cells c3 t3)).alloc (.cells c4 t4) = W) : Hid (Str W (w.heap.size) c0) ∧ Hid (Str W (w.heap.size + 1) c1) ∧ Hid (Str W (w.heap.size + 1 + 1) c2) ∧ Hid (Str W (w.heap.size + 1 + 1 + 1) c3) ∧ Hid (Str W (w.heap.size + 1 + 1 + 1 + 1) c4) ∧ Hid (Below w.heap.size w W) ∧ w.heap.size ≤ W.heap.size ∧ W.heap.size = w.heap.size + 1 + 1 + 1 + 1 + 1 := by
  subst h
  exact ⟨Lib.hid (by have := ((((Str.new (w) c0 t0).alloc (.cells c1 t1)).alloc (.cells c2 t2)).alloc (.cells c3 t3)).alloc (.cells c4 t4); simpa using this), Lib.hid (by have := (((Str.new ((w).alloc (.cells c0 t0)) c1 t1).alloc (.cells c2 t2)).alloc (.cells c3 t3)).alloc (.cells c4 t4); simpa using this), Lib.hid (by have := ((Str.new (((w).alloc (.cells c0 t0)).alloc (.cells c1 t1)) c2 t2).alloc (.cells c3 t3)).alloc (.cells c4 t4); simpa using this), Lib.hid (by have := (Str.new ((((w).alloc (.cells c0 t0)).alloc (.cells c1 t1)).alloc (.cells c2 t2)) c3 t3).alloc (.cells c4 t4); simpa using this), Lib.hid (by have := Str.new (((((w).alloc (.cells c0 t0)).alloc (.cells c1 t1)).alloc (.cells c2 t2)).alloc (.cells c3 t3)) c4 t4; simpa using this), Lib.hid (balloc (balloc (balloc (balloc (balloc (bsame w) _) _) _) _) _), (balloc (balloc (balloc (balloc (balloc (bsame w) _) _) _) _) _).size, by simp⟩
theorem sEq {W W1 : World} {b : Nat} {cs : Array Value} (e : W = W1) (h : Str W b cs) : Hid (Str W1 b cs) := by
  subst e
  exact Lib.hid h
end Go.Proofs.Ytldgdgfplgdipaa
