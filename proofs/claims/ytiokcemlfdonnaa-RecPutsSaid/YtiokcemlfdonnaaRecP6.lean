/-
  Texts of one claim, joined: RegC.
-/
import Derived.Test.YtiokcemlfdonnaaRecP3
namespace Go.Proofs.Ytiokcemlfdonnaa.Reg
open Go.RowKit

/-- a word under a condition; nothing else -/
def when {R : Way} (C : Prop) (p : SP R) : SP R := ⟨fun v w => (C → p.pred v w) ∧ (¬ C → v = undef), fun _ _ _ hb h => ⟨fun hC => p.st _ _ _ hb (h.1 hC), h.2⟩⟩
/-- one word, at place j -/
def only {R : Way} (j : Nat) (p : SP R) : List (SP R) := List.replicate j any ++ [p]
theorem predAt_only {R : Way} (j : Nat) (p : SP R) (v : Value) (w : World) : predAt (only j p) j v w = p.pred v w := by
  simp [predAt, only]
section
variable {R : Way} {P : Program} {ops : Array Oper} {Q : Exit → Act → World → Prop} {T : List (SP R)} {a0 a : Act} {W w : World} {j : Nat} {o : Oper}
theorem obl_when {C : Prop} {p : SP R} {g d : Nat} {b c : Bool} {D : Prop} (hg : o.guard = some (g, b)) (hd : (ops[g]?).bind (·.dst) = some d) (he : (D → a.eval (.tmp d) = .bool c) ∧ (¬ D → a.eval (.tmp d) = undef)) (hT : T[j]? = some (when C p)) (hC : C ↔ D ∧ c = b)
    (h : C → o.wp P a w (Done (only j p) j o a w) Q) :
    (Region.wanted o (yielded ops a.tmps) = true → o.wp P a w (Done T j o a w) Q) ∧ (Region.wanted o (yielded ops a.tmps) = false → predAt T j undef w) := by
  refine ⟨fun hw => ?_, fun hw => ?_⟩
  · have hCC : C := by
      rcases Classical.em D with hD | hD
      · refine hC.2 ⟨hD, ?_⟩
        simpa [Region.wanted, hg, yields_of hd (he.1 hD)] using hw
      · exfalso
        have hu := he.2 hD
        have hy : yielded ops a.tmps g = none := by
          unfold yielded
          rw [hd]
          simp only [Act.eval, Array.getD_eq_getD_getElem?] at hu
          simp only [Option.bind_some]
          cases hx : a.tmps[d]? with
          | none => rfl
          | some v =>
            rw [hx] at hu
            have h2 : v = undef := hu
            subst h2
            rfl
        simp [Region.wanted, hg, hy] at hw
    refine Oper.wp_mono (fun a' w' ⟨v, e, hz, hp, hb⟩ => ⟨v, e, hz, ?_, hb⟩) (h hCC)
    rw [predAt_only] at hp
    unfold predAt
    rw [hT]
    exact ⟨fun _ => hp, fun hn => absurd hCC hn⟩
  · unfold predAt
    rw [hT]
    refine ⟨fun hCC => ?_, fun _ => rfl⟩
    obtain ⟨hD, hcb⟩ := hC.1 hCC
    exfalso
    simp [Region.wanted, hg, yields_of hd (he.1 hD), hcb] at hw
theorem obl_may {p : SP R} {g d : Nat} {b c : Bool} (hg : o.guard = some (g, b)) (hd : (ops[g]?).bind (·.dst) = some d) (he : a.eval (.tmp d) = .bool c) (hT : T[j]? = some (when (c = b) p))
    (h : c = b → o.wp P a w (Done (only j p) j o a w) Q) :
    (Region.wanted o (yielded ops a.tmps) = true → o.wp P a w (Done T j o a w) Q) ∧ (Region.wanted o (yielded ops a.tmps) = false → predAt T j undef w) :=
  obl_when (D := True) hg hd ⟨fun _ => he, fun h => absurd trivial h⟩ hT ⟨fun h => ⟨trivial, h⟩, fun h => h.2⟩ h
theorem obl_deep {p : SP R} {D : Prop} {g d : Nat} {b c : Bool} (hg : o.guard = some (g, b)) (hd : (ops[g]?).bind (·.dst) = some d) (he : (D → a.eval (.tmp d) = .bool c) ∧ (¬ D → a.eval (.tmp d) = undef)) (hT : T[j]? = some (when (D ∧ c = b) p))
    (h : D ∧ c = b → o.wp P a w (Done (only j p) j o a w) Q) :
    (Region.wanted o (yielded ops a.tmps) = true → o.wp P a w (Done T j o a w) Q) ∧ (Region.wanted o (yielded ops a.tmps) = false → predAt T j undef w) :=
  obl_when (D := D) hg hd he hT Iff.rfl h
end
end Go.Proofs.Ytiokcemlfdonnaa.Reg
