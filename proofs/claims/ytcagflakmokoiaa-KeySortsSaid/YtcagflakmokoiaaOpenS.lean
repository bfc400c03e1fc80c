/-
  A slice of strings, as a value and as an argument.
-/
import Derived.Test.YtcagflakmokoiaaOpen
import Derived.SliceStrings
namespace Go.Proofs.Ytcagflakmokoiaa
open Go.ChangeShapes Go.WideShapes Go.ChangeAt Go.RowKit
set_option linter.unusedVariables false
set_option maxRecDepth 100000

/-- the slice (A, n, c) reads as the texts l, all below block B; nil and empty slices let in -/
def Strs (w : World) (B : Nat) (A : Option Addr) (n c : Nat) (l : List ByteArray) : Prop :=
  l.length = n ∧ n ≤ c ∧ c ≤ maxLen ∧ (∀ s ∈ l, s.size ≤ maxLen) ∧ (0 < n → ∃ b o, A = some ⟨b, o, none⟩ ∧ b < B ∧ ∀ j u, l[j]? = some u → w.cell? ⟨b, o + j, none⟩ = some (.string u))
def RStrs (w : World) (B : Nat) (v : Value) (l : List ByteArray) : Prop := ∃ A n c, v = .slice A n c ∧ Strs w B A n c l
theorem Strs.none_ (w : World) (B : Nat) : Strs w B none 0 0 [] := ⟨rfl, Nat.le_refl _, by unfold maxLen; omega, by simp, fun h => absurd h (by omega)⟩
theorem Strs.keep {w w' : World} {B n c : Nat} {A : Option Addr} {l : List ByteArray} (h : Strs w B A n c l) (hk : ∀ p : Addr, p.block < B → w'.cell? p = w.cell? p) : Strs w' B A n c l :=
  ⟨h.1, h.2.1, h.2.2.1, h.2.2.2.1, fun hn => by
    obtain ⟨b, o, e, hb, hc⟩ := h.2.2.2.2 hn
    exact ⟨b, o, e, hb, fun j u hu => (hk _ hb).trans (hc j u hu)⟩⟩
theorem Strs.below {w w' : World} {B n c : Nat} {A : Option Addr} {l : List ByteArray} (h : Strs w B A n c l) (hb : Below B w w') : Strs w' B A n c l := h.keep fun _ hp => hb.cell hp
theorem Strs.more {w : World} {B B' n c : Nat} {A : Option Addr} {l : List ByteArray} (h : Strs w B A n c l) (hB : B ≤ B') : Strs w B' A n c l :=
  ⟨h.1, h.2.1, h.2.2.1, h.2.2.2.1, fun hn => by
    obtain ⟨b, o, e, hb, hc⟩ := h.2.2.2.2 hn
    exact ⟨b, o, e, by omega, hc⟩⟩
theorem Strs.next {w w' : World} {n c : Nat} {A : Option Addr} {l : List ByteArray} (h : Strs w w.heap.size A n c l) (hb : Below w.heap.size w w') : Strs w' w'.heap.size A n c l := (h.below hb).more hb.size
section
variable {H : Type} {enc : TypeId × Value → H} {P : Program} {w : World}
theorem strs_of {fuel : Nat} {t e : TypeId} {cs : List Value} {x : DataW H × List MemPlace} (ht : P.underlying t = some (.slice e)) (he : P.underlying e = some .string) (hce : P.cellsOf e = 1)
    (h : DataW.trod enc P w 0 (fun _ => true) true fuel t cs = some x) : ∃ A n c l, cs = [.slice A n c] ∧ Strs w w.heap.size A n c l := by
  rcases open_strings ht he hce h with ⟨hcs, _⟩ | ⟨a, len, cap, ss, hcs, _, hl, hm, hz, _, hcell, hwz⟩
  · exact ⟨none, 0, 0, [], hcs, Strs.none_ _ _⟩
  · have hz' : ss.length = cap := by simpa using hz
    refine ⟨some a, len, cap, ss.take len, hcs, by simp [hz']; omega, hl, hm, fun s hs => hwz s (List.mem_of_mem_take hs), fun hn => ?_⟩
    obtain ⟨b, o, s⟩ := a
    have h0 := hcell 0 (by omega)
    have hs : s = none := by simpa [Addr.add] using World.cell?_spot h0
    subst hs
    refine ⟨b, o, rfl, by simpa [Addr.add] using lt_of_cell h0, fun j u hu => ?_⟩
    rw [List.getElem?_take] at hu
    split at hu
    · rename_i hj
      have hjl : j < ss.length := (List.getElem?_eq_some_iff.1 hu).1
      have h1 := hcell j hjl
      rw [add_none] at h1
      rw [h1]
      simp [List.getD_eq_getElem?_getD, hu]
    · cases hu
end
section
variable {H : Type} {enc : TypeId × Value → H} {W : World} {base : Nat} {v : Value} {d : DataW H} {p : List MemPlace}
theorem open_strs (hv : Value.okWide Try.prog W .any base 73 v) (h : DataW.Trod enc Try.prog W 0 (fun _ => true) true 73 v d p) : ∃ l, RStrs W W.heap.size v l := by
  obtain ⟨a, len, cap, rfl⟩ := okWide_slice Try.underlying73 hv
  obtain ⟨fuel, hf⟩ := h
  obtain ⟨A, n, c, l, e, hb⟩ := strs_of Try.underlying73 Try.underlying9 (by kernel_rfl) hf
  refine ⟨l, A, n, c, ?_, hb⟩
  simpa [Value.cells] using e
end
end Go.Proofs.Ytcagflakmokoiaa
