/-
  Parts of the proof of WalStays.
-/
import Derived.Test.YtpdfnlhhnodnjaaGreatWsG4
import Derived.Test.YtpdfnlhhnodnjaaGreatWsG1
section
namespace Go.Proofs.YtpdfnlhhnodnjaaGreat.Reg
open Go.RowKit

/-- nothing that was there turns, but block g, which may become o -/
def putW (g : Nat) (o : Obj) : Way where
  rel w w' := w'.os = w.os ∧ w'.tape = w.tape ∧ w'.output = w.output ∧ w.heap.size ≤ w'.heap.size ∧ (g < w.heap.size → (∀ k, k < w.heap.size → k ≠ g → w'.heap[k]? = w.heap[k]?) ∧ (w'.heap[g]? = w.heap[g]? ∨ w'.heap[g]? = some o))
  refl w := ⟨rfl, rfl, rfl, Nat.le_refl _, fun _ => ⟨fun _ _ _ => rfl, .inl rfl⟩⟩
  trans a b c h k := ⟨k.1.trans h.1, k.2.1.trans h.2.1, k.2.2.1.trans h.2.2.1, Nat.le_trans h.2.2.2.1 k.2.2.2.1, fun hg => by
    have h1 := h.2.2.2.2 hg
    have k1 := k.2.2.2.2 (Nat.lt_of_lt_of_le hg h.2.2.2.1)
    refine ⟨fun i hi hne => (k1.1 i (Nat.lt_of_lt_of_le hi h.2.2.2.1) hne).trans (h1.1 i hi hne), ?_⟩
    rcases k1.2 with e | e
    · rw [e]
      exact h1.2
    · exact .inr e⟩
  drew w := ⟨rfl, rfl, rfl, Nat.le_refl _, fun _ => ⟨fun _ _ _ => rfl, .inl rfl⟩⟩
/-- it is written -/
def written (g : Nat) (o : Obj) : SP (putW g o) := ⟨fun _ w => w.heap[g]? = some o, fun _ w w' h he => by
  have hl := (Array.getElem?_eq_some_iff.1 he).1
  rcases (h.2.2.2.2 hl).2 with e | e
  · rw [e]
    exact he
  · exact e⟩
theorem put_below {g : Nat} {o : Obj} {w w' : World} (h : Below w.heap.size w w') : (putW g o).rel w w' :=
  ⟨h.os, h.tape, h.output, h.size, fun hg => ⟨fun k hk _ => h.block k hk, .inl (h.block g hg)⟩⟩
theorem put_set {g : Nat} {o : Obj} {w w' : World} (h : w.grownBy w' (some g)) (ho : w'.heap[g]? = some o) : (putW g o).rel w w' :=
  ⟨h.os, h.tape, h.output, h.size, fun _ => ⟨fun k hk hne => h.block k hk (by intro e; injection e with e; exact hne e), .inr ho⟩⟩
theorem put_grown {g : Nat} {o : Obj} {w w' : World} (h : (putW g o).rel w w') (hg : g < w.heap.size) : w.grownBy w' (some g) :=
  ⟨h.1, h.2.1, h.2.2.1, h.2.2.2.1, fun k hk hne => (h.2.2.2.2 hg).1 k hk (by intro e; exact hne (by rw [e]))⟩
/-- the box, in between -/
theorem put_str {g : Nat} {cs cs' : Array Value} {t : TypeId} {w w' : World} (h : (putW g (.cells cs' t (0, 0))).rel w w') (hw : w.heap[g]? = some (.cells cs t (0, 0))) : w'.heap[g]? = some (.cells cs t (0, 0)) ∨ w'.heap[g]? = some (.cells cs' t (0, 0)) := by
  have hg := (Array.getElem?_eq_some_iff.1 hw).1
  rcases (h.2.2.2.2 hg).2 with e | e
  · exact .inl (e.trans hw)
  · exact .inr e
theorem put_cell {g : Nat} {o : Obj} {W w : World} (h : (putW g o).rel W w) (hg : g < W.heap.size) : ∀ b k, b < W.heap.size → b ≠ g → w.cell? ⟨b, k, none⟩ = W.cell? ⟨b, k, none⟩ :=
  fun b k hb hne => World.cell?_of_block (a := ⟨b, k, none⟩) ((h.2.2.2.2 hg).1 b hb hne)
/-- how a box stands whose fields are all written -/
theorem setStr_heap {w : World} {b : Nat} {cs : Array Value} {t : TypeId} (h : w.heap[b]? = some (.cells cs t (0, 0))) (i : Nat) (v : Value) : (w.setCell ⟨b, i, none⟩ v).heap[b]? = some (.cells (cs.setIfInBounds i v) t (0, 0)) := by
  have hl := (Array.getElem?_eq_some_iff.1 h).1
  simp [World.setCell, Array.getElem?_modify, h]
end Go.Proofs.YtpdfnlhhnodnjaaGreat.Reg
end
