/-
  A region that draws its order, with operations in it that come up one behind the other and turn memory: the word is what they have brought about so far. No program in sight.
-/
import Derived.Test.YtldgdgfplgdipaaRegB
import Derived.Test.YtldgdgfplgdipaaElem2
namespace Go.Proofs.Ytldgdgfplgdipaa
open Go.RowKit
set_option linter.unusedVariables false
/-- an append in a region, of slices of any kind -/
theorem wp_appT {P : Program} {o : Oper} {a : Act} {w w' : World} {K : Act → World → Prop} {Q : Exit → Act → World → Prop} {A A2 A' : Option Addr} {n c m c2 n' c' : Nat} {t : TypeId} (s x : Operand)
    (ho : o.op = .call { callee := .builtin .append, args := #[s, x], argTypes := #[t, t] }) (hty : o.type = t) (hs : a.eval s = .slice A n c) (hx : a.eval x = .slice A2 m c2)
    (hr : (appSem #[t, t] t #[.slice A n c, .slice A2 m c2]).run P w = .ok (.slice A' n' c') w') (k : K (a.put o.dst (.slice A' n' c')) w') : Oper.wp P o a w K Q := by
  unfold appSem at hr
  unfold Oper.wp execOp
  simp only [ho, hty, resolve, invoke, builtin, Sem.run_bind, Sem.run_pure, Result.andThen_ok, List.map_toArray, List.map_cons, List.map_nil, hs, hx, hr]
  exact k
namespace Reg
theorem eval_ne {t : Tmp} {a : Act} {d : Option Tmp} {v : Value} (h : d ≠ some t) : (a.put d v).eval (.tmp t) = a.eval (.tmp t) := eval_of (put_other a d v t h)
theorem obl_freeL {R : Way} {P : Program} {ops : Array Oper} {Q : Exit → Act → World → Prop} {T : List (SP R)} {j : Nat} {o : Oper} {a : Act} {w : World} (hg : o.guard = none) (h : o.wp P a w (DoneB T j o a w) Q) : (Region.wanted o (yielded ops a.tmps) = true → o.wp P a w (DoneB T j o a w) Q) ∧ (Region.wanted o (yielded ops a.tmps) = false → predAt T j undef w) :=
  ⟨fun _ => h, fun hw => by simp [Region.wanted, hg] at hw⟩
theorem extB_next {N : Nat} {b0 : List Nat} {W : World} (hN : N = W.heap.size) : ∀ w w', (extB N b0).rel W w → Below w.heap.size w w' → (extB N b0).rel w w' := fun w w' h k => KeepB.of (k.mono (by rw [hN]; exact KeepB.size h))
/-- what so many of the line have brought about, and whether the one beside them has come up -/
abbrev LS := Nat → Bool → Act → World → Prop
/-- the line: who they are; the one beside them; what they bring about -/
structure Line where
  C : List Nat
  q : Nat
  S : LS
def LineJ (l : Line) : Word := fun listed a w => ∃ k, k ≤ l.C.length ∧ (∀ i c, l.C[i]? = some c → listed.getD c false = decide (i < k)) ∧ l.S k (listed.getD l.q false) a w
theorem line_zero {l : Line} {listed : Array Bool} {a : Act} {w : World} (h0 : l.S 0 false a w) (h : ∀ i, listed.getD i false = false) : LineJ l listed a w :=
  ⟨0, Nat.zero_le _, fun i c _ => by rw [h]; simp, by rw [h]; exact h0⟩
theorem line_end {l : Line} {listed : Array Bool} {a : Act} {w : World} {n : Nat} (hall : ∀ i, i < n → listed.getD i false = true) (hC : ∀ c ∈ l.C, c < n) (hJ : LineJ l listed a w) : ∃ b, (l.q < n → b = true) ∧ l.S l.C.length b a w := by
  obtain ⟨k, hk, hl, hS⟩ := hJ
  have e : k = l.C.length := by
    by_cases h : k < l.C.length
    · have h1 := hl k l.C[k] (List.getElem?_eq_getElem h)
      rw [hall _ (hC _ (List.getElem_mem h))] at h1
      simp at h1
    · omega
  subst e
  exact ⟨_, fun h => hall _ h, hS⟩
section
variable {R : Way} {l : Line} {P : Program} {ops : Array Oper} {Q : Exit → Act → World → Prop} {T : List (SP R)} {a0 : Act} {W : World} {j : Nat} {o : Oper} {s : List (Tmp × Option Nat)}
/-- an operation that is none of these -/
theorem oblL_ord (hj : j ∉ l.C ∧ j ≠ l.q) (hR : ∀ w w', R.rel W w → Below w.heap.size w w' → R.rel w w') (hst : ∀ k b a w v w', l.S k b a w → Below w.heap.size w w' → l.S k b (a.put o.dst v) w')
    (h : ∀ a w, R.rel W w → sights T a0 a w s → (Region.wanted o (yielded ops a.tmps) = true → o.wp P a w (DoneB T j o a w) Q) ∧ (Region.wanted o (yielded ops a.tmps) = false → predAt T j undef w)) : OblJ P ops Q T (LineJ l) a0 W j o s := by
  intro listed a w hx hs _ _ hun hwt hJ
  obtain ⟨h1, h2⟩ := h a w hx hs
  have key : ∀ v w', Below w.heap.size w w' → LineJ l (listed.setIfInBounds j true) (a.put o.dst v) w' := fun v w' hb => by
    obtain ⟨k, hk, hl, hS⟩ := hJ
    refine ⟨k, hk, fun i c hc => ?_, ?_⟩
    · rw [getD_set_ne false (fun e => hj.1 (by rw [e]; exact List.mem_of_getElem? hc))]
      exact hl i c hc
    · rw [getD_set_ne false hj.2]
      exact hst k _ a w v w' hS hb
  refine ⟨fun hw => Oper.wp_mono (fun a' w' ⟨v, e, hz, hp, hb⟩ => ?_) (h1 hw), fun hw => ⟨h2 hw, key _ _ (bsame w)⟩⟩
  subst e
  exact ⟨⟨v, rfl, hz, hp, hR w w' hx hb⟩, key v w' hb⟩
/-- one of the line -/
theorem oblL_line {k : Nat} (hg : o.guard = none) (hc : l.C[k]? = some j) (hnd : l.C.Nodup) (hq : j ≠ l.q) (hjl : j < ops.size) (hw : k = 0 ∨ ∃ c, l.C[k - 1]? = some c ∧ waits ops j c = true)
    (h : ∀ b a w, R.rel W w → sights T a0 a w s → a.tmps.size = a0.tmps.size → (waits ops j l.q = true → b = true) → l.S k b a w → o.wp P a w (fun a' w' => Done T j o a w a' w' ∧ l.S (k + 1) b a' w') Q) : OblJ P ops Q T (LineJ l) a0 W j o s := by
  intro listed a w hx hs hls has hun hwt hJ
  obtain ⟨k', hk', hl, hS⟩ := hJ
  have h1 := hl k j hc
  rw [getD_ft hun] at h1
  have hle : k' ≤ k := by
    have : ¬ k < k' := by simpa using h1.symm
    omega
  have he : k' = k := by
    rcases hw with rfl | ⟨c, h2, h3⟩
    · omega
    · have h4 := hl _ c h2
      rw [hwt c h3] at h4
      have : k - 1 < k' := by simpa using h4.symm
      omega
  subst he
  have hlt := (List.getElem?_eq_some_iff.1 hc).1
  refine free hg (Oper.wp_mono (fun a' w' ⟨h5, h6⟩ => ⟨h5, k' + 1, hlt, fun i c hi => ?_, ?_⟩) (h _ a w hx hs has (fun hw => hwt _ hw) hS))
  · by_cases e : i = k'
    · subst e
      rw [hc] at hi
      cases hi
      rw [getD_set_self (by omega)]
      simp
    · have hne : j ≠ c := fun e2 => e (by
        subst e2
        have g1 := (List.getElem?_eq_some_iff.1 hi).1
        have g3 := (List.getElem?_eq_some_iff.1 hi).2.trans (List.getElem?_eq_some_iff.1 hc).2.symm
        have g4 := List.pairwise_iff_getElem.1 hnd
        rcases Nat.lt_or_gt_of_ne e with e4 | e4
        · exact absurd g3 (g4 i k' g1 hlt e4)
        · exact absurd g3.symm (g4 k' i hlt g1 e4))
      rw [getD_set_ne false hne, hl i c hi]
      by_cases h7 : i < k'
      · simp [h7]; omega
      · simp [h7]; omega
  · rw [getD_set_ne false hq]
    exact h6
/-- the one beside them -/
theorem oblL_side (hg : o.guard = none) (hj : j = l.q) (hn : j ∉ l.C) (hjl : j < ops.size)
    (h : ∀ k a w, R.rel W w → sights T a0 a w s → a.tmps.size = a0.tmps.size → l.S k false a w → o.wp P a w (fun a' w' => Done T j o a w a' w' ∧ l.S k true a' w') Q) : OblJ P ops Q T (LineJ l) a0 W j o s := by
  intro listed a w hx hs hls has hun hwt hJ
  obtain ⟨k, hk, hl, hS⟩ := hJ
  have hf : listed.getD l.q false = false := by rw [← hj]; exact getD_ft hun
  rw [hf] at hS
  refine free hg (Oper.wp_mono (fun a' w' ⟨h5, h6⟩ => ⟨h5, k, hk, fun i c hi => ?_, ?_⟩) (h k a w hx hs has hS))
  · rw [getD_set_ne false (fun e => hn (by rw [e]; exact List.mem_of_getElem? hi))]
    exact hl i c hi
  · rw [← hj, getD_set_self (by omega)]
    exact h6
end
end Reg
end Go.Proofs.Ytldgdgfplgdipaa
