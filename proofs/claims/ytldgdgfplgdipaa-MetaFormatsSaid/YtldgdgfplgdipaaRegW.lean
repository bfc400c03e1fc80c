/-
  A region that draws its order among operations that read, call, make boxes and store into them: the law of XReg beside a word on what has come up. No program in sight.
-/
import Derived.Test.YtldgdgfplgdipaaRegS
import Derived.Test.YtldgdgfplgdipaaArr
namespace Go.Proofs.Ytldgdgfplgdipaa
open Go.RowKit
namespace Reg

/-- nothing below N turns -/
def extN (N : Nat) : Way := ⟨fun w w' => Below N w w', Below.refl N, fun _ _ _ h k => h.trans k, fun _ => ⟨rfl, rfl, rfl, Nat.le_refl _, fun _ _ => rfl⟩⟩

/-- a word on what has come up, the slots and the world -/
abbrev Word := Array Bool → Act → World → Prop
/-- what is to be shown of an operation, beside such a word -/
def OblJ {R : Way} (P : Program) (ops : Array Oper) (Q : Exit → Act → World → Prop) (T : List (SP R)) (J : Word) (a0 : Act) (W : World) (j : Nat) (o : Oper) (s : List (Tmp × Option Nat)) : Prop :=
  ∀ (listed : Array Bool) (a : Act) (w : World), R.rel W w → sights T a0 a w s → listed.size = ops.size → a.tmps.size = a0.tmps.size → listed.getD j true = false → (∀ i, waits ops j i = true → listed.getD i false = true) → J listed a w →
    (Region.wanted o (yielded ops a.tmps) = true → o.wp P a w (fun a' w' => Done T j o a w a' w' ∧ J (listed.setIfInBounds j true) a' w') Q) ∧
    (Region.wanted o (yielded ops a.tmps) = false → predAt T j undef w ∧ J (listed.setIfInBounds j true) (a.put o.dst undef) w)
def OblsJ {R : Way} (P : Program) (ops : Array Oper) (Q : Exit → Act → World → Prop) (T : List (SP R)) (J : Word) (a0 : Act) (W : World) : Nat → List Oper → List (List (Tmp × Option Nat)) → Prop
  | _, [], _ => True
  | j, o :: l, [] => OblJ P ops Q T J a0 W j o [] ∧ OblsJ P ops Q T J a0 W (j + 1) l []
  | j, o :: l, s :: L => OblJ P ops Q T J a0 W j o s ∧ OblsJ P ops Q T J a0 W (j + 1) l L

section
variable {R : Way} {P : Program} {ops : Array Oper} {Q : Exit → Act → World → Prop} {T : List (SP R)} {J : Word} {a0 a : Act} {W w : World}
theorem oblsJ_at : ∀ (l : List Oper) (k i : Nat) (o : Oper), OblsJ P ops Q T J a0 W k l (lookAll ops k l) → l[i]? = some o → OblJ P ops Q T J a0 W (k + i) o (look1 ops (k + i) o)
  | [], _, _, _, _, h => by simp at h
  | _ :: _, _, 0, _, hO, h => by
    simp at h
    subst h
    exact hO.1
  | _ :: l, k, i + 1, o, hO, h => by
    have := oblsJ_at l (k + 1) i o hO.2 (by simpa using h)
    rwa [show k + 1 + i = k + (i + 1) by omega] at this

theorem wpAny_J (hf : Form ops a0.tmps.size) (hobl : OblsJ P ops Q T J a0 W 0 ops.toList (lookAll ops 0 ops.toList)) (hfin : ∀ w' listed, R.rel W w' → (∀ i, i < ops.size → listed.getD i false = true) → Fin (fun a w => J listed a w → Q .normal a w) w' (ops.toList.map (·.dst)) T a0) :
    ∀ (fuel : Nat) (listed : Array Bool) (a : Act) (w : World), listed.toList.count false = fuel → Inv ops T a0 W listed a w → J listed a w → wpAny P .any ops Q fuel listed a w := by
  have hend : ∀ (listed : Array Bool) (a : Act) (w : World), Inv ops T a0 W listed a w → J listed a w → Region.ready .any ops listed = [] → Q .normal a w := by
    intro listed a w hI hJ hr
    have hall := all_listed hf hI.lsize hr
    have h1 := fin_of (fun a w => J listed a w → Q .normal a w) a ops.toList T a0 (hfin w listed hI.ext hall) (fun i o ho => by
      have ho' : ops[i]? = some o := by simpa using ho
      exact hI.vals i o ho' (hall i (Array.getElem?_eq_some_iff.1 ho').1))
    rw [foldl_put a ops.toList a0 hI.size.symm hI.defers.symm (fun t ht => (hI.other t fun i hi => by
      obtain ⟨o, ho, hd⟩ := writer_some hi
      exact absurd hd (ht o (by rw [Array.mem_toList_iff]; exact Array.mem_of_getElem? ho))).symm)] at h1
    exact h1 hJ
  intro fuel
  induction fuel with
  | zero =>
    intro listed a w hc hI hJ
    have hr : Region.ready .any ops listed = [] := by
      rw [List.eq_nil_iff_forall_not_mem]
      intro j hj
      have h1 := (mem_ready.1 hj).1
      rw [Array.getD_eq_getD_getElem?] at h1
      cases hx : listed[j]? with
      | none => rw [hx] at h1; cases h1
      | some b =>
        rw [hx] at h1
        have h2 : b = false := h1
        subst h2
        have h3 : false ∈ listed.toList := by rw [Array.mem_toList_iff]; exact Array.mem_of_getElem? hx
        have := List.count_pos_iff.2 h3
        omega
    exact ⟨hr, hend _ _ _ hI hJ hr⟩
  | succ fuel ih =>
    intro listed a w hc hI hJ
    refine ⟨hend _ _ _ hI hJ, fun j hj => ?_⟩
    obtain ⟨hun, o, ho, hall⟩ := mem_ready.1 hj
    have hO := oblsJ_at ops.toList 0 j o hobl (by simpa using ho)
    rw [Nat.zero_add] at hO
    obtain ⟨hy, hn⟩ := hO listed a w hI.ext (sights_mk j _ fun t ht => hI.sight hf ho hun hall ht) hI.lsize hI.size hun (fun i hi => by
      obtain ⟨o', ho', e, he, hb, rfl⟩ := waits_edge hi
      rw [ho] at ho'
      cases ho'
      exact hall e he hb) hJ
    have hcnt : (listed.setIfInBounds j true).toList.count false = fuel := by
      have hjl : j < listed.size := by rw [hI.lsize]; exact (Array.getElem?_eq_some_iff.1 ho).1
      have hx : listed.toList[j]? = some false := by
        rw [Array.getD_eq_getD_getElem?, Array.getElem?_eq_getElem hjl] at hun
        have h2 : listed[j] = false := hun
        simp [hjl, h2]
      have := count_set listed.toList j hx
      rw [Array.toList_setIfInBounds]
      omega
    unfold wpOp
    rw [ho]
    dsimp only
    split
    · rename_i hw
      exact .inl (Oper.wp_mono (fun a' w' ⟨⟨v, e, hz, hp, hb⟩, hJ'⟩ => by
        subst e
        exact ih _ _ _ hcnt (hI.step hf ho hun hall hp hz hb) hJ') (hy hw))
    · rename_i hw
      have h2 := hn (by simpa using hw)
      exact ih _ _ _ hcnt (hI.step hf ho hun hall h2.1 (fun _ => rfl) (R.refl w)) h2.2

/-- THE LAW beside a word -/
theorem wp_region_word {id : Nat} (J : Word) (T : List (SP R)) (n : Nat) (L : List (List (Tmp × Option Nat))) (hn : a0.tmps.size = n) (hm : P.follows .mixedOrders = true) (hc : checkB ops n = true) (hJ0 : ∀ w' listed, (∀ i, listed.getD i false = false) → J listed a0 w') (hL : lookAll ops 0 ops.toList = L) (hobl : OblsJ P ops Q T J a0 W 0 ops.toList L)
    (D : List (Option Tmp)) (hD : ops.toList.map (·.dst) = D) (hfin : ∀ w' listed, R.rel W w' → (∀ i, i < ops.size → listed.getD i false = true) → Fin (fun a w => J listed a w → Q .normal a w) w' D T a0) : (Code.region id ops true).wp P Q a0 W := by
  subst hn
  subst hL
  subst hD
  refine wp_region_any hm (wpAny_J (form_of hc) hobl hfin _ _ _ _ (by simp) ⟨R.drew W, rfl, rfl, by simp, fun _ _ => rfl, fun i o ho hl => ?_, fun i o ho hl e he hb => ?_⟩ (hJ0 _ _ fun i => ?_))
  · have hlt := (Array.getElem?_eq_some_iff.1 ho).1
    simp [hlt] at hl
  · have hlt := (Array.getElem?_eq_some_iff.1 ho).1
    simp [hlt] at hl
  · rw [Array.getD_eq_getD_getElem?]
    by_cases hi : i < ops.size
    · simp [hi]
    · simp [hi]
end
/-- boxes that the region makes (who makes it, its slot, who stores into it): what lies in them, and that they are apart -/
def Bx (N : Nat) (Z : Array Value) (X : Tmp → Array Value) (K : List (Nat × Tmp × Nat)) : Word := fun listed a w =>
  (∀ b ∈ K, listed.getD b.1 false = true → ∃ g, a.eval (.tmp b.2.1) = .pointer (some ⟨g, 0, none⟩) ∧ N ≤ g ∧ Str w g (if listed.getD b.2.2 false = true then X b.2.1 else Z)) ∧
  (∀ b ∈ K, ∀ c ∈ K, b ≠ c → listed.getD b.1 false = true → listed.getD c.1 false = true → a.eval (.tmp b.2.1) ≠ a.eval (.tmp c.2.1)) ∧
  (∀ b ∈ K, listed.getD b.2.2 false = true → listed.getD b.1 false = true)
def okK (K : List (Nat × Tmp × Nat)) : Prop := ∀ b ∈ K, ∀ c ∈ K, ((b.1 = c.1 ∨ b.2.1 = c.2.1 ∨ b.2.2 = c.2.2) → b = c) ∧ b.1 ≠ c.2.2
section
variable {N : Nat} {Z : Array Value} {X : Tmp → Array Value} {K : List (Nat × Tmp × Nat)} {listed : Array Bool} {a : Act} {w w' : World} {j : Nat}
theorem bx_zero (h : ∀ i, listed.getD i false = false) : Bx N Z X K listed a w :=
  ⟨fun b _ h1 => (by rw [h] at h1; cases h1), fun b _ c _ _ h1 => (by rw [h] at h1; cases h1), fun b _ h1 => (by rw [h] at h1; cases h1)⟩
theorem bx_ord {d : Option Tmp} {v : Value} (hk : ∀ b ∈ K, j ≠ b.1 ∧ j ≠ b.2.2 ∧ d ≠ some b.2.1) (h : Bx N Z X K listed a w) (hb : Below w.heap.size w w') : Bx N Z X K (listed.setIfInBounds j true) (a.put d v) w' := by
  obtain ⟨h1, h2, h3⟩ := h
  refine ⟨fun b hm hl => ?_, fun b hm c hc hne hl hl' => ?_, fun b hm hl => ?_⟩
  · obtain ⟨k1, k2, k3⟩ := hk b hm
    rw [getD_set_ne false k1] at hl
    rw [getD_set_ne false k2, eval_of (put_other a d v _ k3)]
    obtain ⟨g, e, hg, hs⟩ := h1 b hm hl
    exact ⟨g, e, hg, hs.next hb⟩
  · obtain ⟨k1, k2, k3⟩ := hk b hm
    obtain ⟨c1, c2, c3⟩ := hk c hc
    rw [getD_set_ne false k1] at hl
    rw [getD_set_ne false c1] at hl'
    rw [eval_of (put_other a d v _ k3), eval_of (put_other a d v _ c3)]
    exact h2 b hm c hc hne hl hl'
  · obtain ⟨k1, k2, k3⟩ := hk b hm
    rw [getD_set_ne false k2] at hl
    rw [getD_set_ne false k1]
    exact h3 b hm hl
theorem bx_alloc {b0 : Nat × Tmp × Nat} {ty : TypeId} (hK : okK K) (hm0 : b0 ∈ K) (hj : j = b0.1) (hlt : b0.2.1 < a.tmps.size) (hjl : j < listed.size) (hun : listed.getD j true = false) (hN : N ≤ w.heap.size) (h : Bx N Z X K listed a w) :
    Bx N Z X K (listed.setIfInBounds j true) (a.put (some b0.2.1) (.pointer (some ⟨w.heap.size, 0, none⟩))) (w.alloc (.cells Z ty)) := by
  subst hj
  obtain ⟨h1, h2, h3⟩ := h
  have hn : ∀ b ∈ K, b ≠ b0 → b0.1 ≠ b.1 ∧ (some b0.2.1 : Option Tmp) ≠ some b.2.1 := fun b hm hne =>
    ⟨fun e => hne ((hK b0 hm0 b hm).1 (.inl e)).symm, fun e => hne ((hK b0 hm0 b hm).1 (.inr (.inl (Option.some.inj e)))).symm⟩
  have hs : ∀ b ∈ K, b0.1 ≠ b.2.2 := fun b hm => (hK b0 hm0 b hm).2
  have hold : ∀ b ∈ K, b ≠ b0 → listed.getD b.1 false = true → (a.put (some b0.2.1) (.pointer (some ⟨w.heap.size, 0, none⟩))).eval (.tmp b.2.1) ≠ .pointer (some ⟨w.heap.size, 0, none⟩) := fun b hm hne hl => by
    rw [eval_of (put_other a _ _ _ (hn b hm hne).2)]
    obtain ⟨g, e, hg, hs⟩ := h1 b hm hl
    have := hs.lt
    rw [e]
    intro e2
    injection e2 with e3
    injection e3 with e4
    injection e4 with e5
    omega
  refine ⟨fun b hm hl => ?_, fun b hm c hc hne hl hl' => ?_, fun b hm hl => ?_⟩
  · by_cases hb : b = b0
    · subst hb
      refine ⟨w.heap.size, eval_put_same hlt, hN, ?_⟩
      rw [getD_set_ne false (hs b hm)]
      have : ¬ listed.getD b.2.2 false = true := fun e => by
        have := h3 b hm e
        rw [getD_ft hun] at this
        cases this
      rw [if_neg this]
      exact Str.new w Z ty
    · rw [getD_set_ne false (hn b hm hb).1] at hl
      rw [getD_set_ne false (hs b hm), eval_of (put_other a _ _ _ (hn b hm hb).2)]
      obtain ⟨g, e, hg, hs⟩ := h1 b hm hl
      exact ⟨g, e, hg, hs.alloc _⟩
  · by_cases hb : b = b0
    · subst hb
      have hcb : c ≠ b := fun e => hne e.symm
      rw [getD_set_ne false (hn c hc hcb).1] at hl'
      rw [eval_put_same hlt]
      exact (hold c hc hcb hl').symm
    · rw [getD_set_ne false (hn b hm hb).1] at hl
      by_cases hcb : c = b0
      · subst hcb
        rw [eval_put_same hlt]
        exact hold b hm hb hl
      · rw [getD_set_ne false (hn c hc hcb).1] at hl'
        rw [eval_of (put_other a _ _ _ (hn b hm hb).2), eval_of (put_other a _ _ _ (hn c hc hcb).2)]
        exact h2 b hm c hc hne hl hl'
  · rw [getD_set_ne false (hs b hm)] at hl
    exact getD_set_true (h3 b hm hl)
theorem bx_store {b0 : Nat × Tmp × Nat} {g : Nat} (hK : okK K) (hm0 : b0 ∈ K) (hj : j = b0.2.2) (hjl : j < listed.size) (ha : listed.getD b0.1 false = true) (hg : a.eval (.tmp b0.2.1) = .pointer (some ⟨g, 0, none⟩)) (h : Bx N Z X K listed a w) :
    Bx N Z X K (listed.setIfInBounds j true) a (w.setRow g (X b0.2.1)) := by
  subst hj
  obtain ⟨h1, h2, h3⟩ := h
  have hs : ∀ b ∈ K, b0.2.2 ≠ b.1 := fun b hm => Ne.symm (hK b hm b0 hm0).2
  refine ⟨fun b hm hl => ?_, fun b hm c hc hne hl hl' => ?_, fun b hm hl => ?_⟩
  · rw [getD_set_ne false (hs b hm)] at hl
    obtain ⟨g', e, hg', hs'⟩ := h1 b hm hl
    by_cases hb : b = b0
    · subst hb
      rw [hg] at e
      injection e with e3
      injection e3 with e4
      injection e4 with e5
      subst e5
      refine ⟨g, hg, hg', ?_⟩
      rw [getD_set_self hjl, if_pos rfl]
      exact hs'.setRow
    · refine ⟨g', e, hg', ?_⟩
      rw [getD_set_ne false (fun e => hb ((hK b0 hm0 b hm).1 (.inr (.inr e))).symm)]
      refine hs'.setRow_other fun e5 => ?_
      subst e5
      exact h2 b hm b0 hm0 hb hl ha (by rw [e, hg])
  · rw [getD_set_ne false (hs b hm)] at hl
    rw [getD_set_ne false (hs c hc)] at hl'
    exact h2 b hm c hc hne hl hl'
  · rw [getD_set_ne false (hs b hm)]
    by_cases hb : b = b0
    · subst hb
      exact ha
    · rw [getD_set_ne false (fun e => hb ((hK b0 hm0 b hm).1 (.inr (.inr e))).symm)] at hl
      exact h3 b hm hl
end
/-- what an operation leaves that turns nothing that is there -/
def DoneB {R : Way} (T : List (SP R)) (j : Nat) (o : Oper) (a : Act) (w : World) (a' : Act) (w' : World) : Prop := ∃ v, a' = a.put o.dst v ∧ (o.dst = none → v = undef) ∧ predAt T j v w' ∧ Below w.heap.size w w'
section
variable {N : Nat} {Z : Array Value} {X : Tmp → Array Value} {K : List (Nat × Tmp × Nat)} {P : Program} {ops : Array Oper} {Q : Exit → Act → World → Prop} {T : List (SP (extN N))} {a0 : Act} {W : World} {j : Nat} {o : Oper} {s : List (Tmp × Option Nat)}
theorem doneB {R : Way} {T : List (SP R)} {a : Act} {w w' : World} {v : Value} (hd : o.dst ≠ none) (hp : predAt T j v w') (hb : Below w.heap.size w w') : DoneB T j o a w (a.put o.dst v) w' := ⟨v, rfl, fun h => absurd h hd, hp, hb⟩
theorem wp_eqvB {R : Way} {T : List (SP R)} {a : Act} {w : World} {c : Value} (hd : o.dst ≠ none) (h : (execOp a.eval o).run P w = .ok (.value c) w) (hT : predAt T j c w) : o.wp P a w (DoneB T j o a w) Q := by
  unfold Oper.wp
  rw [h]
  exact ⟨c, rfl, fun h => absurd h hd, hT, bsame w⟩
theorem free {p q : Prop} {a : Act} (hg : o.guard = none) (h : p) : (Region.wanted o (yielded ops a.tmps) = true → p) ∧ (Region.wanted o (yielded ops a.tmps) = false → q) :=
  ⟨fun _ => h, fun hw => by simp [Region.wanted, hg] at hw⟩
theorem oblJ_ord (hg : o.guard = none) (hN : N = W.heap.size) (hk : ∀ b ∈ K, j ≠ b.1 ∧ j ≠ b.2.2 ∧ o.dst ≠ some b.2.1) (h : ∀ a w, Below W.heap.size W w → sights T a0 a w s → o.wp P a w (DoneB T j o a w) Q) :
    OblJ P ops Q T (Bx N Z X K) a0 W j o s := by
  intro listed a w hx hs _ _ _ _ hJ
  subst hN
  refine free hg (Oper.wp_mono (fun a' w' ⟨v, e, hz, hp, hb⟩ => ?_) (h a w hx hs))
  subst e
  exact ⟨⟨v, rfl, hz, hp, hb.mono hx.size⟩, bx_ord hk hJ hb⟩
theorem oblJ_alloc {t : Tmp} {js : Nat} (hg : o.guard = none) (hN : N = W.heap.size) (hK : okK K) (hm : (j, t, js) ∈ K) (hd : o.dst = some t) (ht : t < a0.tmps.size) (hj : j < ops.size) (hT : ∀ v w, predAt T j v w)
    (h : ∀ a w, Below W.heap.size W w → o.wp P a w (fun a' w' => ∃ ty, a' = a.put o.dst (.pointer (some ⟨w.heap.size, 0, none⟩)) ∧ w' = w.alloc (.cells Z ty)) Q) :
    OblJ P ops Q T (Bx N Z X K) a0 W j o s := by
  intro listed a w hx _ hls has hun _ hJ
  subst hN
  have hsz : W.heap.size ≤ w.heap.size := Below.size hx
  refine free hg (Oper.wp_mono (fun a' w' ⟨ty, e, e'⟩ => ?_) (h a w hx))
  subst e
  subst e'
  refine ⟨⟨_, rfl, fun h => (by rw [hd] at h; cases h), hT _ _, Below.alloc (Below.refl _ w) hsz _⟩, ?_⟩
  rw [hd]
  exact bx_alloc hK hm rfl (by rw [has]; exact ht) (by omega) hun hsz hJ
theorem oblJ_store {t : Tmp} {ja : Nat} (hg : o.guard = none) (hN : N = W.heap.size) (hK : okK K) (hm : (ja, t, j) ∈ K) (hd : o.dst = none) (hj : j < ops.size) (hw : waits ops j ja = true) (hT : ∀ v w, predAt T j v w)
    (h : ∀ a w g, Below W.heap.size W w → sights T a0 a w s → a.eval (.tmp t) = .pointer (some ⟨g, 0, none⟩) → Str w g Z → o.wp P a w (fun a' w' => a' = a ∧ w' = w.setRow g (X t)) Q) :
    OblJ P ops Q T (Bx N Z X K) a0 W j o s := by
  intro listed a w hx hs hls has hun hwt hJ
  subst hN
  obtain ⟨g, e, hg', hS⟩ := hJ.1 _ hm (hwt ja hw)
  dsimp only at e hS
  rw [if_neg (by rw [getD_ft hun]; simp)] at hS
  refine free hg (Oper.wp_mono (fun a' w' ⟨e1, e2⟩ => ?_) (h a w g hx hs e hS))
  subst e1
  subst e2
  refine ⟨⟨undef, by rw [hd]; rfl, fun _ => rfl, hT _ _, ?_⟩, bx_store hK hm rfl (by omega) (hwt ja hw) e hJ⟩
  exact below_setRow (Below.refl _ w) hg' _
end
end Reg
end Go.Proofs.Ytldgdgfplgdipaa
