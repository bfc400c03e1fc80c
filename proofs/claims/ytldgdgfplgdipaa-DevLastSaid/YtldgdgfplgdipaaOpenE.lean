/-
  A slice of structs, as an argument: what it reads as.
-/
import Derived.Test.YtldgdgfplgdipaaElem
import Derived.Test.YtldgdgfplgdipaaOpen
import Derived.Deep.Slices
namespace Go.Proofs.Ytldgdgfplgdipaa
open Go.ChangeShapes Go.WideShapes Go.ChangeAt Go.RowKit
set_option linter.unusedVariables false
section
variable {H : Type} {enc : TypeId × Value → H} {P : Program} {w : World}
/-- a slice whose elements can be read one by one -/
theorem elems_of {α : Type} (E : El α) {fuel : Nat} {t e : TypeId} {cs : List Value} {x : DataW H × List MemPlace} (ht : P.underlying t = some (.slice e)) (hc : P.cellsOf e = E.size)
    (hel : ∀ (n : Nat) (cs : List Value) y, DataW.trod enc P w 0 (fun _ => true) true n e cs = some y → ∃ x, E.rel w w.heap.size cs x)
    (h : DataW.trod enc P w 0 (fun _ => true) true fuel t cs = some x) : ∃ A n c l, cs = [.slice A n c] ∧ Elems E w w.heap.size A n c l := by
  rcases Go.Deep.open_slice ht h with ⟨hcs, _⟩ | ⟨a, len, cap, m, n, D, Pl, hcs, _, hl, hm, hmm, _, hx⟩
  · exact ⟨none, 0, 0, [], hcs, Elems.none_ _ _ _⟩
  · have hlm : len ≤ m := by rw [hmm]; split <;> omega
    have key : ∀ k, k ≤ len → ∃ (vs : List (List Value)) (l : List α), Rel2 (E.rel w w.heap.size) vs l ∧ l.length = k ∧ ∀ j v, vs.flatten[j]? = some v → w.cell? (a.add j) = some v := by
      intro k
      induction k with
      | zero => intro _; exact ⟨[], [], trivial, rfl, fun j v hv => by simp at hv⟩
      | succ k ih =>
        intro hk
        obtain ⟨vs, l, hr, hlen, hcell⟩ := ih (by omega)
        obtain ⟨cs', h1, h2⟩ := hx k (by omega)
        obtain ⟨y, hy⟩ := hel _ _ _ h2
        obtain ⟨_, hcl, hci⟩ := World.cells?_some h1
        refine ⟨vs ++ [cs'], l ++ [y], Rel2.append (show Rel2 (E.rel w w.heap.size) [cs'] [y] from ⟨hy, trivial⟩) hr, by simp [hlen], fun j v hv => ?_⟩
        have hfl : vs.flatten.length = k * E.size := by rw [hr.flat (fun _ _ => E.len), hlen]
        rw [List.flatten_append, List.flatten_singleton] at hv
        by_cases hj : j < vs.flatten.length
        · rw [List.getElem?_append_left hj] at hv
          exact hcell j v hv
        · rw [List.getElem?_append_right (by omega), hfl] at hv
          have hi := (List.getElem?_eq_some_iff.1 hv).1
          have := hci (j - k * E.size) (by omega)
          rw [hv, hc, Go.Deep.add_add, show k * E.size + (j - k * E.size) = j by omega] at this
          exact this
    obtain ⟨vs, l, hr, hlen, hcell⟩ := key len (Nat.le_refl _)
    refine ⟨some a, len, cap, l, hcs, vs, hr, hlen, hl, hm, fun hn => ?_⟩
    have hfl : vs.flatten.length = len * E.size := by rw [hr.flat (fun _ _ => E.len), hlen]
    have hpos : 0 < vs.flatten.length := by rw [hfl]; exact Nat.mul_pos hn E.pos
    obtain ⟨b, o, s⟩ := a
    have h0 := hcell 0 _ (List.getElem?_eq_getElem hpos)
    have hs : s = none := by simpa [Addr.add] using World.cell?_spot h0
    subst hs
    refine ⟨b, o, rfl, by simpa [Addr.add] using lt_of_cell h0, fun j v hv => ?_⟩
    have := hcell j v hv
    rwa [add_none] at this
end
end Go.Proofs.Ytldgdgfplgdipaa
