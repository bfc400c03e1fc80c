/-
  The walk of the law, with the texts that it alone needs: RegW, RegX, RegA, Live17, RefUndoB, PUndoBack, UndoGet1, UndoPutsW.
-/
import Derived.Test.YtjengjbkdflapaaRegS
import Derived.Test.YtjengjbkdflapaaArr
import Derived.Test.YtjengjbkdflapaaRegC
import Derived.Test.YtjengjbkdflapaaBox
import Derived.Test.YtjengjbkdflapaaApp
import Derived.Test.YtjengjbkdflapaaUndoOf
import Derived.Test.YtjengjbkdflapaaUndoPut
import Derived.Test.YtjengjbkdflapaaRefSlotBytes
import Derived.Test.YtjengjbkdflapaaPUndoGet
import Derived.Test.YtjengjbkdflapaaUndoGet
import Derived.Test.YtjengjbkdflapaaCopy
import Derived.Test.YtjengjbkdflapaaOpen3
namespace Go.Proofs.Ytjengjbkdflapaa
open Go.RowKit
namespace Reg

/-- nothing below N turns -/
def extN (N : Nat) : Way := ⟨fun w w' => Below N w w', Below.refl N, fun _ _ _ h k => h.trans k, fun _ => ⟨rfl, rfl, rfl, Nat.le_refl _, fun _ _ => rfl⟩⟩

/-- a word on what has come up, the slots and the world -/
abbrev Word := Array Bool → Act → World → Prop
/-- what is to be shown of an operation, beside such a word -/
def OblJ {R : Way} (P : Program) (ops : Array Oper) (Q : Exit → Act → World → Prop) (T : List (SP R)) (J : Word) (a0 : Act) (W : World) (j : Nat) (o : Oper) (s : List (Tmp × Option Nat)) : Prop :=
  ∀ (listed : Array Bool) (a : Act) (w : World), R.rel W w → sights T a0 a w s → listed.size = ops.size → a.tmps.size = a0.tmps.size → listed.getD j true = false → (∀ i, waits ops j i = true → listed.getD i false = true) → J listed a w →
    (Region.wanted o (yielded ops a.tmps) = true → o.wp P a w (fun a' w' => Done T j o a w a' w' ∧ J (listed.setIfInBounds j true) a' w') Q) ∧
    (Region.wanted o (yielded ops a.tmps) = false → predAt T j undef w ∧ J (listed.setIfInBounds j true) (a.put o.dst undef) w)
def OblsJ {R : Way} (P : Program) (ops : Array Oper) (Q : Exit → Act → World → Prop) (T : List (SP R)) (J : Word) (a0 : Act) (W : World) : Nat → List Oper → List (List (Tmp × Option Nat)) → Prop
  | _, [], _ => True
  | j, o :: l, [] => OblJ P ops Q T J a0 W j o [] ∧ OblsJ P ops Q T J a0 W (j + 1) l []
  | j, o :: l, s :: L => OblJ P ops Q T J a0 W j o s ∧ OblsJ P ops Q T J a0 W (j + 1) l L

section
variable {R : Way} {P : Program} {ops : Array Oper} {Q : Exit → Act → World → Prop} {T : List (SP R)} {J : Word} {a0 a : Act} {W w : World}
theorem oblsJ_at : ∀ (l : List Oper) (k i : Nat) (o : Oper), OblsJ P ops Q T J a0 W k l (lookAll ops k l) → l[i]? = some o → OblJ P ops Q T J a0 W (k + i) o (look1 ops (k + i) o)
  | [], _, _, _, _, h => by simp at h
  | _ :: _, _, 0, _, hO, h => by
    simp at h
    subst h
    exact hO.1
  | _ :: l, k, i + 1, o, hO, h => by
    have := oblsJ_at l (k + 1) i o hO.2 (by simpa using h)
    rwa [show k + 1 + i = k + (i + 1) by omega] at this

theorem wpAny_J (hf : Form ops a0.tmps.size) (hobl : OblsJ P ops Q T J a0 W 0 ops.toList (lookAll ops 0 ops.toList)) (hfin : ∀ w' listed, R.rel W w' → (∀ i, i < ops.size → listed.getD i false = true) → Fin (fun a w => J listed a w → Q .normal a w) w' (ops.toList.map (·.dst)) T a0) :
    ∀ (fuel : Nat) (listed : Array Bool) (a : Act) (w : World), listed.toList.count false = fuel → Inv ops T a0 W listed a w → J listed a w → wpAny P .any ops Q fuel listed a w := by
  have hend : ∀ (listed : Array Bool) (a : Act) (w : World), Inv ops T a0 W listed a w → J listed a w → Region.ready .any ops listed = [] → Q .normal a w := by
    intro listed a w hI hJ hr
    have hall := all_listed hf hI.lsize hr
    have h1 := fin_of (fun a w => J listed a w → Q .normal a w) a ops.toList T a0 (hfin w listed hI.ext hall) (fun i o ho => by
      have ho' : ops[i]? = some o := by simpa using ho
      exact hI.vals i o ho' (hall i (Array.getElem?_eq_some_iff.1 ho').1))
    rw [foldl_put a ops.toList a0 hI.size.symm hI.defers.symm (fun t ht => (hI.other t fun i hi => by
      obtain ⟨o, ho, hd⟩ := writer_some hi
      exact absurd hd (ht o (by rw [Array.mem_toList_iff]; exact Array.mem_of_getElem? ho))).symm)] at h1
    exact h1 hJ
  intro fuel
  induction fuel with
  | zero =>
    intro listed a w hc hI hJ
    have hr : Region.ready .any ops listed = [] := by
      rw [List.eq_nil_iff_forall_not_mem]
      intro j hj
      have h1 := (mem_ready.1 hj).1
      rw [Array.getD_eq_getD_getElem?] at h1
      cases hx : listed[j]? with
      | none => rw [hx] at h1; cases h1
      | some b =>
        rw [hx] at h1
        have h2 : b = false := h1
        subst h2
        have h3 : false ∈ listed.toList := by rw [Array.mem_toList_iff]; exact Array.mem_of_getElem? hx
        have := List.count_pos_iff.2 h3
        omega
    exact ⟨hr, hend _ _ _ hI hJ hr⟩
  | succ fuel ih =>
    intro listed a w hc hI hJ
    refine ⟨hend _ _ _ hI hJ, fun j hj => ?_⟩
    obtain ⟨hun, o, ho, hall⟩ := mem_ready.1 hj
    have hO := oblsJ_at ops.toList 0 j o hobl (by simpa using ho)
    rw [Nat.zero_add] at hO
    obtain ⟨hy, hn⟩ := hO listed a w hI.ext (sights_mk j _ fun t ht => hI.sight hf ho hun hall ht) hI.lsize hI.size hun (fun i hi => by
      obtain ⟨o', ho', e, he, hb, rfl⟩ := waits_edge hi
      rw [ho] at ho'
      cases ho'
      exact hall e he hb) hJ
    have hcnt : (listed.setIfInBounds j true).toList.count false = fuel := by
      have hjl : j < listed.size := by rw [hI.lsize]; exact (Array.getElem?_eq_some_iff.1 ho).1
      have hx : listed.toList[j]? = some false := by
        rw [Array.getD_eq_getD_getElem?, Array.getElem?_eq_getElem hjl] at hun
        have h2 : listed[j] = false := hun
        simp [hjl, h2]
      have := count_set listed.toList j hx
      rw [Array.toList_setIfInBounds]
      omega
    unfold wpOp
    rw [ho]
    dsimp only
    split
    · rename_i hw
      exact .inl (Oper.wp_mono (fun a' w' ⟨⟨v, e, hz, hp, hb⟩, hJ'⟩ => by
        subst e
        exact ih _ _ _ hcnt (hI.step hf ho hun hall hp hz hb) hJ') (hy hw))
    · rename_i hw
      have h2 := hn (by simpa using hw)
      exact ih _ _ _ hcnt (hI.step hf ho hun hall h2.1 (fun _ => rfl) (R.refl w)) h2.2

/-- THE LAW beside a word -/
theorem wp_region_word {id : Nat} (J : Word) (T : List (SP R)) (n : Nat) (L : List (List (Tmp × Option Nat))) (hn : a0.tmps.size = n) (hm : P.follows .mixedOrders = true) (hc : checkB ops n = true) (hJ0 : ∀ w' listed, (∀ i, listed.getD i false = false) → J listed a0 w') (hL : lookAll ops 0 ops.toList = L) (hobl : OblsJ P ops Q T J a0 W 0 ops.toList L)
    (D : List (Option Tmp)) (hD : ops.toList.map (·.dst) = D) (hfin : ∀ w' listed, R.rel W w' → (∀ i, i < ops.size → listed.getD i false = true) → Fin (fun a w => J listed a w → Q .normal a w) w' D T a0) : (Code.region id ops true).wp P Q a0 W := by
  subst hn
  subst hL
  subst hD
  refine wp_region_any hm (wpAny_J (form_of hc) hobl hfin _ _ _ _ (by simp) ⟨R.drew W, rfl, rfl, by simp, fun _ _ => rfl, fun i o ho hl => ?_, fun i o ho hl e he hb => ?_⟩ (hJ0 _ _ fun i => ?_))
  · have hlt := (Array.getElem?_eq_some_iff.1 ho).1
    simp [hlt] at hl
  · have hlt := (Array.getElem?_eq_some_iff.1 ho).1
    simp [hlt] at hl
  · rw [Array.getD_eq_getD_getElem?]
    by_cases hi : i < ops.size
    · simp [hi]
    · simp [hi]
end
/-- boxes that the region makes (who makes it, its slot, who stores into it): what lies in them, and that they are apart -/
def Bx (N : Nat) (Z : Array Value) (X : Tmp → Array Value) (K : List (Nat × Tmp × Nat)) : Word := fun listed a w =>
  (∀ b ∈ K, listed.getD b.1 false = true → ∃ g, a.eval (.tmp b.2.1) = .pointer (some ⟨g, 0, none⟩) ∧ N ≤ g ∧ Str w g (if listed.getD b.2.2 false = true then X b.2.1 else Z)) ∧
  (∀ b ∈ K, ∀ c ∈ K, b ≠ c → listed.getD b.1 false = true → listed.getD c.1 false = true → a.eval (.tmp b.2.1) ≠ a.eval (.tmp c.2.1)) ∧
  (∀ b ∈ K, listed.getD b.2.2 false = true → listed.getD b.1 false = true)
def okK (K : List (Nat × Tmp × Nat)) : Prop := ∀ b ∈ K, ∀ c ∈ K, ((b.1 = c.1 ∨ b.2.1 = c.2.1 ∨ b.2.2 = c.2.2) → b = c) ∧ b.1 ≠ c.2.2
section
variable {N : Nat} {Z : Array Value} {X : Tmp → Array Value} {K : List (Nat × Tmp × Nat)} {listed : Array Bool} {a : Act} {w w' : World} {j : Nat}
theorem bx_zero (h : ∀ i, listed.getD i false = false) : Bx N Z X K listed a w :=
  ⟨fun b _ h1 => (by rw [h] at h1; cases h1), fun b _ c _ _ h1 => (by rw [h] at h1; cases h1), fun b _ h1 => (by rw [h] at h1; cases h1)⟩
theorem bx_ord {d : Option Tmp} {v : Value} (hk : ∀ b ∈ K, j ≠ b.1 ∧ j ≠ b.2.2 ∧ d ≠ some b.2.1) (h : Bx N Z X K listed a w) (hb : Below w.heap.size w w') : Bx N Z X K (listed.setIfInBounds j true) (a.put d v) w' := by
  obtain ⟨h1, h2, h3⟩ := h
  refine ⟨fun b hm hl => ?_, fun b hm c hc hne hl hl' => ?_, fun b hm hl => ?_⟩
  · obtain ⟨k1, k2, k3⟩ := hk b hm
    rw [getD_set_ne false k1] at hl
    rw [getD_set_ne false k2, eval_of (put_other a d v _ k3)]
    obtain ⟨g, e, hg, hs⟩ := h1 b hm hl
    exact ⟨g, e, hg, hs.next hb⟩
  · obtain ⟨k1, k2, k3⟩ := hk b hm
    obtain ⟨c1, c2, c3⟩ := hk c hc
    rw [getD_set_ne false k1] at hl
    rw [getD_set_ne false c1] at hl'
    rw [eval_of (put_other a d v _ k3), eval_of (put_other a d v _ c3)]
    exact h2 b hm c hc hne hl hl'
  · obtain ⟨k1, k2, k3⟩ := hk b hm
    rw [getD_set_ne false k2] at hl
    rw [getD_set_ne false k1]
    exact h3 b hm hl
theorem bx_alloc {b0 : Nat × Tmp × Nat} {ty : TypeId} (hK : okK K) (hm0 : b0 ∈ K) (hj : j = b0.1) (hlt : b0.2.1 < a.tmps.size) (hjl : j < listed.size) (hun : listed.getD j true = false) (hN : N ≤ w.heap.size) (h : Bx N Z X K listed a w) :
    Bx N Z X K (listed.setIfInBounds j true) (a.put (some b0.2.1) (.pointer (some ⟨w.heap.size, 0, none⟩))) (w.alloc (.cells Z ty)) := by
  subst hj
  obtain ⟨h1, h2, h3⟩ := h
  have hn : ∀ b ∈ K, b ≠ b0 → b0.1 ≠ b.1 ∧ (some b0.2.1 : Option Tmp) ≠ some b.2.1 := fun b hm hne =>
    ⟨fun e => hne ((hK b0 hm0 b hm).1 (.inl e)).symm, fun e => hne ((hK b0 hm0 b hm).1 (.inr (.inl (Option.some.inj e)))).symm⟩
  have hs : ∀ b ∈ K, b0.1 ≠ b.2.2 := fun b hm => (hK b0 hm0 b hm).2
  have hold : ∀ b ∈ K, b ≠ b0 → listed.getD b.1 false = true → (a.put (some b0.2.1) (.pointer (some ⟨w.heap.size, 0, none⟩))).eval (.tmp b.2.1) ≠ .pointer (some ⟨w.heap.size, 0, none⟩) := fun b hm hne hl => by
    rw [eval_of (put_other a _ _ _ (hn b hm hne).2)]
    obtain ⟨g, e, hg, hs⟩ := h1 b hm hl
    have := hs.lt
    rw [e]
    intro e2
    injection e2 with e3
    injection e3 with e4
    injection e4 with e5
    omega
  refine ⟨fun b hm hl => ?_, fun b hm c hc hne hl hl' => ?_, fun b hm hl => ?_⟩
  · by_cases hb : b = b0
    · subst hb
      refine ⟨w.heap.size, eval_put_same hlt, hN, ?_⟩
      rw [getD_set_ne false (hs b hm)]
      have : ¬ listed.getD b.2.2 false = true := fun e => by
        have := h3 b hm e
        rw [getD_ft hun] at this
        cases this
      rw [if_neg this]
      exact Str.new w Z ty
    · rw [getD_set_ne false (hn b hm hb).1] at hl
      rw [getD_set_ne false (hs b hm), eval_of (put_other a _ _ _ (hn b hm hb).2)]
      obtain ⟨g, e, hg, hs⟩ := h1 b hm hl
      exact ⟨g, e, hg, hs.alloc _⟩
  · by_cases hb : b = b0
    · subst hb
      have hcb : c ≠ b := fun e => hne e.symm
      rw [getD_set_ne false (hn c hc hcb).1] at hl'
      rw [eval_put_same hlt]
      exact (hold c hc hcb hl').symm
    · rw [getD_set_ne false (hn b hm hb).1] at hl
      by_cases hcb : c = b0
      · subst hcb
        rw [eval_put_same hlt]
        exact hold b hm hb hl
      · rw [getD_set_ne false (hn c hc hcb).1] at hl'
        rw [eval_of (put_other a _ _ _ (hn b hm hb).2), eval_of (put_other a _ _ _ (hn c hc hcb).2)]
        exact h2 b hm c hc hne hl hl'
  · rw [getD_set_ne false (hs b hm)] at hl
    exact getD_set_true (h3 b hm hl)
theorem bx_store {b0 : Nat × Tmp × Nat} {g : Nat} (hK : okK K) (hm0 : b0 ∈ K) (hj : j = b0.2.2) (hjl : j < listed.size) (ha : listed.getD b0.1 false = true) (hg : a.eval (.tmp b0.2.1) = .pointer (some ⟨g, 0, none⟩)) (h : Bx N Z X K listed a w) :
    Bx N Z X K (listed.setIfInBounds j true) a (w.setRow g (X b0.2.1)) := by
  subst hj
  obtain ⟨h1, h2, h3⟩ := h
  have hs : ∀ b ∈ K, b0.2.2 ≠ b.1 := fun b hm => Ne.symm (hK b hm b0 hm0).2
  refine ⟨fun b hm hl => ?_, fun b hm c hc hne hl hl' => ?_, fun b hm hl => ?_⟩
  · rw [getD_set_ne false (hs b hm)] at hl
    obtain ⟨g', e, hg', hs'⟩ := h1 b hm hl
    by_cases hb : b = b0
    · subst hb
      rw [hg] at e
      injection e with e3
      injection e3 with e4
      injection e4 with e5
      subst e5
      refine ⟨g, hg, hg', ?_⟩
      rw [getD_set_self hjl, if_pos rfl]
      exact hs'.setRow
    · refine ⟨g', e, hg', ?_⟩
      rw [getD_set_ne false (fun e => hb ((hK b0 hm0 b hm).1 (.inr (.inr e))).symm)]
      refine hs'.setRow_other fun e5 => ?_
      subst e5
      exact h2 b hm b0 hm0 hb hl ha (by rw [e, hg])
  · rw [getD_set_ne false (hs b hm)] at hl
    rw [getD_set_ne false (hs c hc)] at hl'
    exact h2 b hm c hc hne hl hl'
  · rw [getD_set_ne false (hs b hm)]
    by_cases hb : b = b0
    · subst hb
      exact ha
    · rw [getD_set_ne false (fun e => hb ((hK b0 hm0 b hm).1 (.inr (.inr e))).symm)] at hl
      exact h3 b hm hl
end
/-- what an operation leaves that turns nothing that is there -/
def DoneB {R : Way} (T : List (SP R)) (j : Nat) (o : Oper) (a : Act) (w : World) (a' : Act) (w' : World) : Prop := ∃ v, a' = a.put o.dst v ∧ (o.dst = none → v = undef) ∧ predAt T j v w' ∧ Below w.heap.size w w'
section
variable {N : Nat} {Z : Array Value} {X : Tmp → Array Value} {K : List (Nat × Tmp × Nat)} {P : Program} {ops : Array Oper} {Q : Exit → Act → World → Prop} {T : List (SP (extN N))} {a0 : Act} {W : World} {j : Nat} {o : Oper} {s : List (Tmp × Option Nat)}
theorem doneB {R : Way} {T : List (SP R)} {a : Act} {w w' : World} {v : Value} (hd : o.dst ≠ none) (hp : predAt T j v w') (hb : Below w.heap.size w w') : DoneB T j o a w (a.put o.dst v) w' := ⟨v, rfl, fun h => absurd h hd, hp, hb⟩
theorem wp_eqvB {R : Way} {T : List (SP R)} {a : Act} {w : World} {c : Value} (hd : o.dst ≠ none) (h : (execOp a.eval o).run P w = .ok (.value c) w) (hT : predAt T j c w) : o.wp P a w (DoneB T j o a w) Q := by
  unfold Oper.wp
  rw [h]
  exact ⟨c, rfl, fun h => absurd h hd, hT, bsame w⟩
theorem free {p q : Prop} {a : Act} (hg : o.guard = none) (h : p) : (Region.wanted o (yielded ops a.tmps) = true → p) ∧ (Region.wanted o (yielded ops a.tmps) = false → q) :=
  ⟨fun _ => h, fun hw => by simp [Region.wanted, hg] at hw⟩
theorem oblJ_ord (hg : o.guard = none) (hN : N = W.heap.size) (hk : ∀ b ∈ K, j ≠ b.1 ∧ j ≠ b.2.2 ∧ o.dst ≠ some b.2.1) (h : ∀ a w, Below W.heap.size W w → sights T a0 a w s → o.wp P a w (DoneB T j o a w) Q) :
    OblJ P ops Q T (Bx N Z X K) a0 W j o s := by
  intro listed a w hx hs _ _ _ _ hJ
  subst hN
  refine free hg (Oper.wp_mono (fun a' w' ⟨v, e, hz, hp, hb⟩ => ?_) (h a w hx hs))
  subst e
  exact ⟨⟨v, rfl, hz, hp, hb.mono hx.size⟩, bx_ord hk hJ hb⟩
theorem oblJ_alloc {t : Tmp} {js : Nat} (hg : o.guard = none) (hN : N = W.heap.size) (hK : okK K) (hm : (j, t, js) ∈ K) (hd : o.dst = some t) (ht : t < a0.tmps.size) (hj : j < ops.size) (hT : ∀ v w, predAt T j v w)
    (h : ∀ a w, Below W.heap.size W w → o.wp P a w (fun a' w' => ∃ ty, a' = a.put o.dst (.pointer (some ⟨w.heap.size, 0, none⟩)) ∧ w' = w.alloc (.cells Z ty)) Q) :
    OblJ P ops Q T (Bx N Z X K) a0 W j o s := by
  intro listed a w hx _ hls has hun _ hJ
  subst hN
  have hsz : W.heap.size ≤ w.heap.size := Below.size hx
  refine free hg (Oper.wp_mono (fun a' w' ⟨ty, e, e'⟩ => ?_) (h a w hx))
  subst e
  subst e'
  refine ⟨⟨_, rfl, fun h => (by rw [hd] at h; cases h), hT _ _, Below.alloc (Below.refl _ w) hsz _⟩, ?_⟩
  rw [hd]
  exact bx_alloc hK hm rfl (by rw [has]; exact ht) (by omega) hun hsz hJ
theorem oblJ_store {t : Tmp} {ja : Nat} (hg : o.guard = none) (hN : N = W.heap.size) (hK : okK K) (hm : (ja, t, j) ∈ K) (hd : o.dst = none) (hj : j < ops.size) (hw : waits ops j ja = true) (hT : ∀ v w, predAt T j v w)
    (h : ∀ a w g, Below W.heap.size W w → sights T a0 a w s → a.eval (.tmp t) = .pointer (some ⟨g, 0, none⟩) → Str w g Z → o.wp P a w (fun a' w' => a' = a ∧ w' = w.setRow g (X t)) Q) :
    OblJ P ops Q T (Bx N Z X K) a0 W j o s := by
  intro listed a w hx hs hls has hun hwt hJ
  subst hN
  obtain ⟨g, e, hg', hS⟩ := hJ.1 _ hm (hwt ja hw)
  dsimp only at e hS
  rw [if_neg (by rw [getD_ft hun]; simp)] at hS
  refine free hg (Oper.wp_mono (fun a' w' ⟨e1, e2⟩ => ?_) (h a w g hx hs e hS))
  subst e1
  subst e2
  refine ⟨⟨undef, by rw [hd]; rfl, fun _ => rfl, hT _ _, ?_⟩, bx_store hK hm rfl (by omega) (hwt ja hw) e hJ⟩
  exact below_setRow (Below.refl _ w) hg' _
end
end Reg
end Go.Proofs.Ytjengjbkdflapaa
namespace Go.Proofs.Ytjengjbkdflapaa
open Go.RowKit
set_option linter.unusedVariables false
namespace Reg

/-- nothing below N turns; above it only rows without bytes, cell by cell -/
def boxW (N : Nat) : Way where
  rel w w' := Below N w w' ∧ ∀ k, N ≤ k → k < w.heap.size → w'.heap[k]? = w.heap[k]? ∨ ∃ cs t cs', w.heap[k]? = some (.cells cs t (0, 0)) ∧ notU8 cs = true ∧ w'.heap[k]? = some (.cells cs' t (0, 0)) ∧ notU8 cs' = true ∧ cs'.size = cs.size
  refl w := ⟨Below.refl _ _, fun _ _ _ => .inl rfl⟩
  trans a b c h k := ⟨h.1.trans k.1, fun i hi hl => by
    rcases k.2 i hi (Nat.lt_of_lt_of_le hl h.1.size) with e | ⟨cs, t, cs', e1, n1, e2, n2, hz⟩
    · rcases h.2 i hi hl with e' | ⟨cs, t, cs', e1, n1, e2, n2, hz⟩
      · exact .inl (e.trans e')
      · exact .inr ⟨cs, t, cs', e1, n1, e.trans e2, n2, hz⟩
    · rcases h.2 i hi hl with e' | ⟨ds, u, ds', f1, m1, f2, m2, hy⟩
      · exact .inr ⟨cs, t, cs', e'.symm.trans e1, n1, e2, n2, hz⟩
      · rw [e1] at f2
        cases f2
        exact .inr ⟨ds, t, cs', f1, m1, e2, n2, hz.trans hy⟩⟩
  drew w := ⟨⟨rfl, rfl, rfl, Nat.le_refl _, fun _ _ => rfl⟩, fun _ _ _ => .inl rfl⟩
theorem box_below {N : Nat} {w w' : World} (hN : N ≤ w.heap.size) (h : Below w.heap.size w w') : (boxW N).rel w w' := ⟨h.mono hN, fun k _ hk => .inl (h.block k hk)⟩
/-- a row is stored -/
theorem box_set {N g : Nat} {w w' : World} {cs cs' : Array Value} (hs : Str w g cs) (hn : notU8 cs = true) (hg : N ≤ g) (h : w.grownBy w' (some g)) (hs' : ∀ t, w.heap[g]? = some (.cells cs t (0, 0)) → w'.heap[g]? = some (.cells cs' t (0, 0))) (hn' : notU8 cs' = true) (hz : cs'.size = cs.size) : (boxW N).rel w w' := by
  refine ⟨⟨h.os, h.tape, h.output, h.size, fun k hk => h.block k (by have := hs.lt; omega) (by intro e; injection e; omega)⟩, fun k hk hl => ?_⟩
  by_cases e : k = g
  · subst e
    obtain ⟨t, ht⟩ := hs
    exact .inr ⟨cs, t, cs', ht, hn, hs' t ht, hn', hz⟩
  · exact .inl (h.block k hl (by intro e2; injection e2; omega))
theorem bytes_box {N n c B : Nat} {w w' : World} {A : Option Addr} {l : List UInt8} (h : Bytes w B A n c l) (hB : B ≤ w.heap.size) (hr : (boxW N).rel w w') : Bytes w' B A n c l := by
  obtain ⟨h1, h2, h3, h4⟩ := h
  refine ⟨h1, h2, h3, fun hpos => ?_⟩
  obtain ⟨b, o, e, hb, hc⟩ := h4 hpos
  refine ⟨b, o, e, hb, fun j u hu => ?_⟩
  rw [← hc j u hu]
  refine World.cell?_of_block (a := ⟨b, o + j, none⟩) ?_
  rcases Nat.lt_or_ge b N with hlt | hge
  · exact hr.1.block b hlt
  · rcases hr.2 b hge (by omega) with e' | ⟨cs, t, cs', e1, n1, -⟩
    · exact e'
    · exfalso
      have hs : Str w b cs := ⟨t, e1⟩
      have h0 : l[0]? = some (l[0]'(by omega)) := List.getElem?_eq_getElem _
      have hx := hc 0 _ h0
      rw [hs.cell] at hx
      have hm : byteV (l[0]'(by omega)) ∈ cs.toList := by
        rw [Array.mem_toList_iff]
        exact Array.mem_of_getElem? hx
      have := List.all_eq_true.1 n1 _ hm
      simp [byteV] at this
theorem bytes_boxS {N n c : Nat} {w w' : World} {A : Option Addr} {l : List UInt8} (h : Bytes w w.heap.size A n c l) (hr : (boxW N).rel w w') : Bytes w' w'.heap.size A n c l := (bytes_box h (Nat.le_refl _) hr).more hr.1.size
/-- a value with bytes -/
def bytesX {N : Nat} (V : Option Addr → Nat → Nat → Value) (l : List UInt8) : SP (boxW N) := ⟨fun v w => ∃ A n c, v = V A n c ∧ Bytes w w.heap.size A n c l, fun _ _ _ hb ⟨A, n, c, e, h⟩ => ⟨A, n, c, e, bytes_boxS h hb⟩⟩
/-- the box -/
def boxX {N : Nat} (m : Nat) : SP (boxW N) := ⟨fun v w => ∃ g cs, v = .pointer (some ⟨g, 0, none⟩) ∧ N ≤ g ∧ Str w g cs ∧ notU8 cs = true ∧ cs.size = m, fun _ w w' hb ⟨g, cs, e, hg, hs, hn, hz⟩ => by
  have hl := hs.lt
  obtain ⟨t, ht⟩ := hs
  rcases hb.2 g hg hl with e' | ⟨ds, u, ds', e1, n1, e2, n2, hy⟩
  · exact ⟨g, cs, e, hg, ⟨t, e'.trans ht⟩, hn, hz⟩
  · rw [ht] at e1
    cases e1
    exact ⟨g, ds', e, hg, ⟨t, e2⟩, n2, hy.trans hz⟩⟩
/-- what lies in the box when it has been stored -/
def OneJ (N ja js : Nat) (t : Tmp) (V : Option Addr → Nat → Nat → Array Value) (l : List UInt8) : Word := fun listed a w => listed.getD js false = true → listed.getD ja false = true ∧ ∃ g A n c, a.eval (.tmp t) = .pointer (some ⟨g, 0, none⟩) ∧ N ≤ g ∧ Str w g (V A n c) ∧ Bytes w w.heap.size A n c l
section
variable {N ja js : Nat} {t : Tmp} {V : Option Addr → Nat → Nat → Array Value} {l : List UInt8} {P : Program} {ops : Array Oper} {Q : Exit → Act → World → Prop} {T : List (SP (boxW N))} {a0 : Act} {W : World} {j : Nat} {o : Oper} {s : List (Tmp × Option Nat)}
theorem one_zero {listed : Array Bool} {a : Act} {w : World} (h : ∀ i, listed.getD i false = false) : OneJ N ja js t V l listed a w := fun h1 => by rw [h js] at h1; cases h1
theorem eval_put_ne {a : Act} {d : Option Tmp} {v : Value} (h : d ≠ some t) : (a.put d v).eval (.tmp t) = a.eval (.tmp t) := eval_of (put_other a d v t h)
theorem oblX_ord (hg : o.guard = none) (hN : N = W.heap.size) (hj : j ≠ js) (hd : o.dst ≠ some t) (h : ∀ a w, (boxW N).rel W w → sights T a0 a w s → o.wp P a w (DoneB T j o a w) Q) : OblJ P ops Q T (OneJ N ja js t V l) a0 W j o s := by
  intro listed a w hx hs _ _ _ _ hJ
  subst hN
  refine free hg (Oper.wp_mono (fun a' w' ⟨v, e, hz, hp, hb⟩ => ?_) (h a w hx hs))
  subst e
  refine ⟨⟨v, rfl, hz, hp, box_below hx.1.size hb⟩, fun h1 => ?_⟩
  rw [getD_set_ne false hj] at h1
  obtain ⟨h2, g, A, n, c, e, hgN, hS, hY⟩ := hJ h1
  exact ⟨getD_set_true h2, g, A, n, c, by rw [eval_put_ne hd]; exact e, hgN, hS.next hb, hY.next hb⟩
theorem oblX_alloc (hg : o.guard = none) (hN : N = W.heap.size) (hj : j = ja) (hjs : j ≠ js) (h : ∀ a w, (boxW N).rel W w → o.wp P a w (DoneB T j o a w) Q) : OblJ P ops Q T (OneJ N ja js t V l) a0 W j o s := by
  intro listed a w hx hs _ _ hun _ hJ
  subst hN
  refine free hg (Oper.wp_mono (fun a' w' ⟨v, e, hz, hp, hb⟩ => ?_) (h a w hx))
  subst e
  refine ⟨⟨v, rfl, hz, hp, box_below hx.1.size hb⟩, fun h1 => ?_⟩
  rw [getD_set_ne false hjs] at h1
  have h2 := (hJ h1).1
  rw [← hj, getD_ft hun] at h2
  cases h2
structure StoredX (N : Nat) (t : Tmp) (V : Option Addr → Nat → Nat → Array Value) (l : List UInt8) (a : Act) (w : World) (a' : Act) (w' : World) : Prop where
  out : a' = a ∧ (boxW N).rel w w' ∧ ∃ g A n c, a.eval (.tmp t) = .pointer (some ⟨g, 0, none⟩) ∧ N ≤ g ∧ Str w' g (V A n c) ∧ Bytes w' w'.heap.size A n c l
theorem oblX_store (hg : o.guard = none) (hN : N = W.heap.size) (hj : j = js) (hw : waits ops j ja = true) (hjl : j < ops.size) (hd : o.dst = none) (hT : ∀ v w, predAt T j v w)
    (h : ∀ a w, (boxW N).rel W w → sights T a0 a w s → o.wp P a w (StoredX N t V l a w) Q) : OblJ P ops Q T (OneJ N ja js t V l) a0 W j o s := by
  intro listed a w hx hs hls _ _ hwt _
  refine free hg (Oper.wp_mono (fun a' w' ⟨e, hr, hx⟩ => ?_) (h a w hx hs))
  subst e
  exact ⟨⟨undef, by rw [hd]; rfl, fun _ => rfl, hT _ _, hr⟩, fun _ => ⟨getD_set_true (hwt ja hw), hx⟩⟩
end
end Reg
end Go.Proofs.Ytjengjbkdflapaa
namespace Go.Proofs.Ytjengjbkdflapaa
open Go.RowKit
set_option linter.unusedVariables false
/-- an append, with what it turns -/
theorem Own.appG {w : World} {base n c : Nat} {A : Option Addr} {l : List UInt8} (h : Own w base A n c l) {B m c2 : Nat} {A2 : Option Addr} {l2 : List UInt8} (h2 : Bytes w B A2 m c2 l2) (hn : n + m ≤ 140737488355328) (hb : base ≤ w.heap.size) :
    ∃ A' c' w', (appSem #[22, 22] 22 #[.slice A n c, .slice A2 m c2]).run Try.prog w = .ok (.slice A' (n + m) c') w' ∧ Own w' base A' (n + m) c' (l ++ l2) ∧ Below base w w' ∧ w.grownBy w' (Value.slice A n c).ownBlock := by
  obtain ⟨i0, hi, hz0, hz1, hz2⟩ := info_parts Be.infoU8
  obtain ⟨v', w', happ, hown, hgrow⟩ := run_append_bytes (P := Try.prog) w base 22 22 5 i0 _ Try.underlying22 hi hz0 hz1 hz2 rfl (.slice A n c) n (l.map byteV) h B A2 m c2 l2 h2 hn hb
  obtain ⟨A', c', rfl⟩ := own_slice hown
  exact ⟨A', c', w', happ, by simpa [Own] using hown, (Below.refl _ w).grown hgrow hb (own_block h), hgrow⟩
theorem wp_app {o : Oper} {a : Act} {w w' : World} {K : Act → World → Prop} {Q : Exit → Act → World → Prop} {A A2 A' : Option Addr} {n c m c2 n' c' : Nat} (s x : Operand)
    (ho : o.op = .call { callee := .builtin .append, args := #[s, x], argTypes := #[22, 22] }) (hty : o.type = 22) (hs : a.eval s = .slice A n c) (hx : a.eval x = .slice A2 m c2)
    (hr : (appSem #[22, 22] 22 #[.slice A n c, .slice A2 m c2]).run Try.prog w = .ok (.slice A' n' c') w') (k : K (a.put o.dst (.slice A' n' c')) w') : Oper.wp Try.prog o a w K Q := by
  unfold appSem at hr
  unfold Oper.wp execOp
  simp only [ho, hty, resolve, invoke, builtin, Sem.run_bind, Sem.run_pure, Result.andThen_ok, List.map_toArray, List.map_cons, List.map_nil, hs, hx, hr]
  exact k
namespace Reg
section
variable {R : Way} {P : Program} {ops : Array Oper} {Q : Exit → Act → World → Prop} {T : List (SP R)} {j : Nat} {o : Oper}
theorem obl_freeB {a : Act} {w : World} (hg : o.guard = none) (h : o.wp P a w (DoneB T j o a w) Q) : (Region.wanted o (yielded ops a.tmps) = true → o.wp P a w (DoneB T j o a w) Q) ∧ (Region.wanted o (yielded ops a.tmps) = false → predAt T j undef w) :=
  ⟨fun _ => h, fun hw => by simp [Region.wanted, hg] at hw⟩
theorem obl_wantB {a : Act} {w : World} {g d : Nat} {b : Bool} (hg : o.guard = some (g, b)) (hd : (ops[g]?).bind (·.dst) = some d) (he : a.eval (.tmp d) = .bool b) (h : o.wp P a w (DoneB T j o a w) Q) : (Region.wanted o (yielded ops a.tmps) = true → o.wp P a w (DoneB T j o a w) Q) ∧ (Region.wanted o (yielded ops a.tmps) = false → predAt T j undef w) :=
  ⟨fun _ => h, fun hw => by simp [Region.wanted, hg, yields_of hd he] at hw⟩
theorem obl_skipB {a : Act} {w : World} {g d : Nat} {b c : Bool} (hg : o.guard = some (g, b)) (hd : (ops[g]?).bind (·.dst) = some d) (he : a.eval (.tmp d) = .bool c) (hne : (c == b) = false) (h : predAt T j undef w) : (Region.wanted o (yielded ops a.tmps) = true → o.wp P a w (DoneB T j o a w) Q) ∧ (Region.wanted o (yielded ops a.tmps) = false → predAt T j undef w) :=
  ⟨fun hw => by
    simp [Region.wanted, hg, yields_of hd he] at hw
    subst hw
    simp at hne, fun _ => h⟩
theorem obl_skipUB {a : Act} {w : World} {g d : Nat} {b : Bool} (hg : o.guard = some (g, b)) (hd : (ops[g]?).bind (·.dst) = some d) (he : a.eval (.tmp d) = undef) (h : predAt T j undef w) : (Region.wanted o (yielded ops a.tmps) = true → o.wp P a w (DoneB T j o a w) Q) ∧ (Region.wanted o (yielded ops a.tmps) = false → predAt T j undef w) :=
  ⟨fun hw => by
    have hy : yielded ops a.tmps g = none := by
      unfold yielded
      rw [hd]
      simp only [Act.eval, Array.getD_eq_getD_getElem?] at he
      simp only [Option.bind_some]
      cases hx : a.tmps[d]? with
      | none => rfl
      | some v =>
        rw [hx] at he
        have h2 : v = undef := he
        subst h2
        rfl
    simp [Region.wanted, hg, hy] at hw, fun _ => h⟩
end
/-- the bytes that are put together: the empty list's slot, the first append's, the other bytes', the second append's -/
structure Chain where
  N : Nat
  je : Nat
  jp : Nat
  jq : Nat
  jr : Nat
  e : Tmp
  p : Tmp
  q : Tmp
  r : Tmp
  lb : List UInt8
  lu : List UInt8
structure AppJ (C : Chain) (listed : Array Bool) (a : Act) (w : World) : Prop where
  r3 : listed.getD C.jr false = true → listed.getD C.jp false = true ∧ listed.getD C.jq false = true
  p1 : listed.getD C.jp false = true → listed.getD C.je false = true
  eF : listed.getD C.jp false = false → listed.getD C.je false = true → ∃ g, a.eval (.tmp C.e) = .slice (some ⟨g, 0, none⟩) 0 0 ∧ Own w C.N (some ⟨g, 0, none⟩) 0 0 [] ∧ Str w g #[]
  pF : listed.getD C.jr false = false → listed.getD C.jp false = true → ∃ A n c, a.eval (.tmp C.p) = .slice A n c ∧ Own w C.N A n c C.lb
  qF : listed.getD C.jr false = false → listed.getD C.jq false = true → ∃ A n c, a.eval (.tmp C.q) = .slice A n c ∧ Bytes w w.heap.size A n c C.lu
  rF : listed.getD C.jr false = true → ∃ A n c, a.eval (.tmp C.r) = .slice A n c ∧ Own w C.N A n c (C.lb ++ C.lu)
section
variable {C : Chain} {P : Program} {ops : Array Oper} {Q : Exit → Act → World → Prop} {T : List (SP (extN C.N))} {a0 : Act} {W : World} {j : Nat} {o : Oper} {s : List (Tmp × Option Nat)}
theorem app_zero {listed : Array Bool} {a : Act} {w : World} (h : ∀ i, listed.getD i false = false) : AppJ C listed a w :=
  ⟨fun h1 => (by rw [h] at h1; cases h1), fun h1 => (by rw [h] at h1; cases h1), fun _ h1 => (by rw [h] at h1; cases h1), fun _ h1 => (by rw [h] at h1; cases h1), fun _ h1 => (by rw [h] at h1; cases h1), fun h1 => (by rw [h] at h1; cases h1)⟩
/-- an operation that is none of these -/
theorem app_ord {listed : Array Bool} {a : Act} {w w' : World} {d : Option Tmp} {v : Value} (hj : j ≠ C.je ∧ j ≠ C.jp ∧ j ≠ C.jq ∧ j ≠ C.jr) (hd : d ≠ some C.e ∧ d ≠ some C.p ∧ d ≠ some C.q ∧ d ≠ some C.r) (h : AppJ C listed a w) (hb : Below w.heap.size w w') :
    AppJ C (listed.setIfInBounds j true) (a.put d v) w' := by
  obtain ⟨h1, h2, h3, h4⟩ := hj
  obtain ⟨d1, d2, d3, d4⟩ := hd
  refine ⟨?_, ?_, ?_, ?_, ?_, ?_⟩
  · rw [getD_set_ne false h4, getD_set_ne false h2, getD_set_ne false h3]; exact h.r3
  · rw [getD_set_ne false h2, getD_set_ne false h1]; exact h.p1
  · rw [getD_set_ne false h2, getD_set_ne false h1]
    intro x y
    obtain ⟨g, e, hO, hS⟩ := h.eF x y
    exact ⟨g, by rw [eval_put_ne d1]; exact e, hO.next hb, hS.next hb⟩
  · rw [getD_set_ne false h4, getD_set_ne false h2]
    intro x y
    obtain ⟨A, n, c, e, hO⟩ := h.pF x y
    exact ⟨A, n, c, by rw [eval_put_ne d2]; exact e, hO.next hb⟩
  · rw [getD_set_ne false h4, getD_set_ne false h3]
    intro x y
    obtain ⟨A, n, c, e, hO⟩ := h.qF x y
    exact ⟨A, n, c, by rw [eval_put_ne d3]; exact e, hO.next hb⟩
  · rw [getD_set_ne false h4]
    intro x
    obtain ⟨A, n, c, e, hO⟩ := h.rF x
    exact ⟨A, n, c, by rw [eval_put_ne d4]; exact e, hO.next hb⟩
theorem oblA_use (hN : C.N = W.heap.size) (hj : j ≠ C.je ∧ j ≠ C.jp ∧ j ≠ C.jq ∧ j ≠ C.jr) (hd : o.dst ≠ some C.e ∧ o.dst ≠ some C.p ∧ o.dst ≠ some C.q ∧ o.dst ≠ some C.r)
    (h : ∀ a w, Below W.heap.size W w → sights T a0 a w s → (waits ops j C.jr = true → ∃ A n c, a.eval (.tmp C.r) = .slice A n c ∧ Bytes w w.heap.size A n c (C.lb ++ C.lu)) →
      (Region.wanted o (yielded ops a.tmps) = true → o.wp P a w (DoneB T j o a w) Q) ∧ (Region.wanted o (yielded ops a.tmps) = false → predAt T j undef w)) : OblJ P ops Q T (AppJ C) a0 W j o s := by
  intro listed a w hx hs _ _ hun hwt hJ
  have hx' : Below W.heap.size W w := by rw [← hN]; exact hx
  obtain ⟨h1, h2⟩ := h a w hx' hs (fun hw => by
    obtain ⟨A, n, c, e, hO⟩ := hJ.rF (hwt _ hw)
    exact ⟨A, n, c, e, hO.bytes⟩)
  refine ⟨fun hw => Oper.wp_mono (fun a' w' ⟨v, e, hz, hp, hb⟩ => ?_) (h1 hw), fun hw => ⟨h2 hw, app_ord hj hd hJ (bsame w)⟩⟩
  subst e
  exact ⟨⟨v, rfl, hz, hp, hb.mono (by rw [hN]; exact hx'.size)⟩, app_ord hj hd hJ hb⟩
theorem oblA_ord (hN : C.N = W.heap.size) (hj : j ≠ C.je ∧ j ≠ C.jp ∧ j ≠ C.jq ∧ j ≠ C.jr) (hd : o.dst ≠ some C.e ∧ o.dst ≠ some C.p ∧ o.dst ≠ some C.q ∧ o.dst ≠ some C.r)
    (h : ∀ a w, Below W.heap.size W w → sights T a0 a w s → (Region.wanted o (yielded ops a.tmps) = true → o.wp P a w (DoneB T j o a w) Q) ∧ (Region.wanted o (yielded ops a.tmps) = false → predAt T j undef w)) : OblJ P ops Q T (AppJ C) a0 W j o s :=
  oblA_use hN hj hd fun a w hx hs _ => h a w hx hs
/-- the empty list -/
theorem oblA_e (hg : o.guard = none) (hN : C.N = W.heap.size) (hj : j = C.je) (hne : j ≠ C.jp ∧ j ≠ C.jq ∧ j ≠ C.jr) (hd : o.dst = some C.e) (hde : C.e ≠ C.p ∧ C.e ≠ C.q ∧ C.e ≠ C.r) (ht : C.e < a0.tmps.size) (hjl : j < ops.size) (hT : ∀ v w, predAt T j v w)
    (h : ∀ a w, Below W.heap.size W w → o.wp P a w (fun a' w' => a' = a.put o.dst (.slice (some ⟨w.heap.size, 0, none⟩) 0 0) ∧ w' = w.alloc (.cells #[] 5)) Q) : OblJ P ops Q T (AppJ C) a0 W j o s := by
  intro listed a w hx hs hls has hun hwt hJ
  have hx' : Below W.heap.size W w := by rw [← hN]; exact hx
  have hsz := hx'.size
  refine free hg (Oper.wp_mono (fun a' w' ⟨e1, e2⟩ => ?_) (h a w hx'))
  subst e1
  subst e2
  obtain ⟨n1, n2, n3⟩ := hne
  obtain ⟨m1, m2, m3⟩ := hde
  have hpf : listed.getD C.jp false = false := by
    cases hp : listed.getD C.jp false with
    | false => rfl
    | true =>
      have := hJ.p1 hp
      rw [← hj, getD_ft hun] at this
      cases this
  have hb : Below w.heap.size w (w.alloc (.cells #[] 5)) := balloc (bsame w) _
  refine ⟨⟨_, rfl, fun h => (by rw [hd] at h; cases h), hT _ _, (Below.refl _ w).alloc (by rw [hN]; exact hsz) _⟩, ?_⟩
  rw [hd]
  refine ⟨?_, ?_, ?_, ?_, ?_, ?_⟩
  · rw [getD_set_ne false n3, getD_set_ne false n1, getD_set_ne false n2]; exact hJ.r3
  · rw [getD_set_ne false n1]; intro x; rw [hpf] at x; cases x
  · intro _ _
    exact ⟨w.heap.size, eval_put_same (by rw [has]; exact ht), Own.empty w C.N (by rw [hN]; exact hsz), Str.new w _ _⟩
  · rw [getD_set_ne false n3, getD_set_ne false n1]
    intro _ x; rw [hpf] at x; cases x
  · rw [getD_set_ne false n3, getD_set_ne false n2]
    intro x y
    obtain ⟨A, n, c, e, hO⟩ := hJ.qF x y
    exact ⟨A, n, c, by rw [eval_put_ne (by intro e; injection e with e; exact m2 e)]; exact e, hO.next hb⟩
  · rw [getD_set_ne false n3]
    intro x
    have := (hJ.r3 x).1
    rw [hpf] at this
    cases this
/-- the first append -/
theorem oblA_p (hg : o.guard = none) (hN : C.N = W.heap.size) (hj : j = C.jp) (hne : j ≠ C.je ∧ j ≠ C.jq ∧ j ≠ C.jr) (hd : o.dst = some C.p) (hde : C.p ≠ C.e ∧ C.p ≠ C.q ∧ C.p ≠ C.r) (ht : C.p < a0.tmps.size) (hjl : j < ops.size) (hw : waits ops j C.je = true) (hT : ∀ v w, predAt T j v w)
    (h : ∀ a w g, Below W.heap.size W w → sights T a0 a w s → a.eval (.tmp C.e) = .slice (some ⟨g, 0, none⟩) 0 0 → Own w C.N (some ⟨g, 0, none⟩) 0 0 [] → o.wp P a w (fun a' w' => ∃ A n c, a' = a.put o.dst (.slice A n c) ∧ Own w' C.N A n c C.lb ∧ w.grownBy w' (some g) ∧ Below C.N w w') Q) : OblJ P ops Q T (AppJ C) a0 W j o s := by
  intro listed a w hx hs hls has hun hwt hJ
  have hx' : Below W.heap.size W w := by rw [← hN]; exact hx
  have hpf : listed.getD C.jp false = false := by rw [← hj]; exact getD_ft hun
  obtain ⟨g, e, hO, hS⟩ := hJ.eF hpf (hwt _ hw)
  refine free hg (Oper.wp_mono (fun a' w' ⟨A, n, c, e1, hO', hgr, hB⟩ => ?_) (h a w g hx' hs e hO))
  subst e1
  obtain ⟨n1, n2, n3⟩ := hne
  obtain ⟨m1, m2, m3⟩ := hde
  have hrf : listed.getD C.jr false = false := by
    cases hp : listed.getD C.jr false with
    | false => rfl
    | true =>
      have := (hJ.r3 hp).1
      rw [hpf] at this
      cases this
  refine ⟨⟨_, rfl, fun h => (by rw [hd] at h; cases h), hT _ _, hB⟩, ?_⟩
  have hset : (listed.setIfInBounds j true).getD C.jp false = true := by rw [← hj]; exact getD_set_self (by omega) _
  rw [hd]
  refine ⟨?_, ?_, ?_, ?_, ?_, ?_⟩
  · rw [getD_set_ne false n3]; intro x; rw [hrf] at x; cases x
  · intro _; rw [getD_set_ne false n1]; exact hwt _ hw
  · intro x; rw [hset] at x; cases x
  · intro _ _; exact ⟨A, n, c, eval_put_same (by rw [has]; exact ht), hO'⟩
  · rw [getD_set_ne false n3, getD_set_ne false n2]
    intro x y
    obtain ⟨A2, k2, c2, e2, hY⟩ := hJ.qF x y
    exact ⟨A2, k2, c2, by rw [eval_put_ne (by intro e; injection e with e; exact m2 e)]; exact e2, (Bytes.grown hY (Nat.le_refl _) hS rfl hgr).more hgr.size⟩
  · rw [getD_set_ne false n3]; intro x; rw [hrf] at x; cases x
/-- the other bytes -/
theorem oblA_q (hg : o.guard = none) (hN : C.N = W.heap.size) (hj : j = C.jq) (hne : j ≠ C.je ∧ j ≠ C.jp ∧ j ≠ C.jr) (hd : o.dst = some C.q) (hde : C.q ≠ C.e ∧ C.q ≠ C.p ∧ C.q ≠ C.r) (ht : C.q < a0.tmps.size) (hjl : j < ops.size) (hT : ∀ v w, predAt T j v w)
    (h : ∀ a w, Below W.heap.size W w → sights T a0 a w s → o.wp P a w (fun a' w' => ∃ A n c, a' = a.put o.dst (.slice A n c) ∧ Bytes w' w'.heap.size A n c C.lu ∧ Below w.heap.size w w') Q) : OblJ P ops Q T (AppJ C) a0 W j o s := by
  intro listed a w hx hs hls has hun hwt hJ
  have hx' : Below W.heap.size W w := by rw [← hN]; exact hx
  have hqf : listed.getD C.jq false = false := by rw [← hj]; exact getD_ft hun
  refine free hg (Oper.wp_mono (fun a' w' ⟨A, n, c, e1, hY, hb⟩ => ?_) (h a w hx' hs))
  subst e1
  obtain ⟨n1, n2, n3⟩ := hne
  obtain ⟨m1, m2, m3⟩ := hde
  have hrf : listed.getD C.jr false = false := by
    cases hp : listed.getD C.jr false with
    | false => rfl
    | true =>
      have := (hJ.r3 hp).2
      rw [hqf] at this
      cases this
  refine ⟨⟨_, rfl, fun h => (by rw [hd] at h; cases h), hT _ _, hb.mono (by rw [hN]; exact hx'.size)⟩, ?_⟩
  rw [hd]
  refine ⟨?_, ?_, ?_, ?_, ?_, ?_⟩
  · rw [getD_set_ne false n3]; intro x; rw [hrf] at x; cases x
  · rw [getD_set_ne false n2, getD_set_ne false n1]; exact hJ.p1
  · rw [getD_set_ne false n2, getD_set_ne false n1]
    intro x y
    obtain ⟨g, e, hO, hS⟩ := hJ.eF x y
    exact ⟨g, by rw [eval_put_ne (by intro e; injection e with e; exact m1 e)]; exact e, hO.next hb, hS.next hb⟩
  · rw [getD_set_ne false n3, getD_set_ne false n2]
    intro x y
    obtain ⟨A2, k2, c2, e2, hO⟩ := hJ.pF x y
    exact ⟨A2, k2, c2, by rw [eval_put_ne (by intro e; injection e with e; exact m2 e)]; exact e2, hO.next hb⟩
  · intro _ _; exact ⟨A, n, c, eval_put_same (by rw [has]; exact ht), hY⟩
  · rw [getD_set_ne false n3]; intro x; rw [hrf] at x; cases x
/-- the second append -/
theorem oblA_r (hg : o.guard = none) (hN : C.N = W.heap.size) (hj : j = C.jr) (hne : j ≠ C.je ∧ j ≠ C.jp ∧ j ≠ C.jq) (hd : o.dst = some C.r) (ht : C.r < a0.tmps.size) (hjl : j < ops.size) (hwp : waits ops j C.jp = true) (hwq : waits ops j C.jq = true) (hT : ∀ v w, predAt T j v w)
    (h : ∀ a w A n c A2 n2 c2, Below W.heap.size W w → a.eval (.tmp C.p) = .slice A n c → Own w C.N A n c C.lb → a.eval (.tmp C.q) = .slice A2 n2 c2 → Bytes w w.heap.size A2 n2 c2 C.lu → o.wp P a w (fun a' w' => ∃ A n c, a' = a.put o.dst (.slice A n c) ∧ Own w' C.N A n c (C.lb ++ C.lu) ∧ Below C.N w w') Q) : OblJ P ops Q T (AppJ C) a0 W j o s := by
  intro listed a w hx hs hls has hun hwt hJ
  have hx' : Below W.heap.size W w := by rw [← hN]; exact hx
  have hrf : listed.getD C.jr false = false := by rw [← hj]; exact getD_ft hun
  obtain ⟨A, n, c, e, hO⟩ := hJ.pF hrf (hwt _ hwp)
  obtain ⟨A2, n2, c2, e2, hY⟩ := hJ.qF hrf (hwt _ hwq)
  refine free hg (Oper.wp_mono (fun a' w' ⟨A3, n3, c3, e1, hO3, hB⟩ => ?_) (h a w A n c A2 n2 c2 hx' e hO e2 hY))
  subst e1
  obtain ⟨n1, m2, m3⟩ := hne
  have hset : (listed.setIfInBounds j true).getD C.jr false = true := by rw [← hj]; exact getD_set_self (by omega) _
  have hp : listed.getD C.jp false = true := hwt _ hwp
  refine ⟨⟨_, rfl, fun h => (by rw [hd] at h; cases h), hT _ _, hB⟩, ?_⟩
  rw [hd]
  refine ⟨?_, ?_, ?_, ?_, ?_, ?_⟩
  · intro _; rw [getD_set_ne false m2, getD_set_ne false m3]; exact ⟨hp, hwt _ hwq⟩
  · rw [getD_set_ne false m2, getD_set_ne false n1]; exact hJ.p1
  · rw [getD_set_ne false m2]; intro x; rw [hp] at x; cases x
  · intro x; rw [hset] at x; cases x
  · intro x; rw [hset] at x; cases x
  · intro _; exact ⟨A3, n3, c3, eval_put_same (by rw [has]; exact ht), hO3⟩
end
end Reg
end Go.Proofs.Ytjengjbkdflapaa
namespace Go.Proofs.Ytjengjbkdflapaa.Live05
theorem lit_bytes (w : World) (l : List UInt8) (C : Array Value) (hC : C = (l.map byteV).toArray) (t : TypeId) (fr : Nat × Nat) (hl : l.length ≤ maxLen) : Bytes (w.alloc (.cells C t fr)) (w.heap.size + 1) (some ⟨w.heap.size, 0, none⟩) l.length l.length l := by
  refine ⟨rfl, Nat.le_refl _, hl, fun _ => ⟨w.heap.size, 0, rfl, by omega, fun j u hu => ?_⟩⟩
  rw [World.cell?_alloc_mark, hC]
  simp [hu]
end Go.Proofs.Ytjengjbkdflapaa.Live05
namespace Go.Proofs.Ytjengjbkdflapaa.UndoP
theorem same_self (u : Undo) : same u u = true := by
  have h : CellP.same u.item.cell u.item.cell = true := by simp [CellP.same]
  simp [same, SlotP.same, h]
end Go.Proofs.Ytjengjbkdflapaa.UndoP
namespace Go.Proofs.Ytjengjbkdflapaa.Live17
open Go.RowKit UndoW
theorem code_any (n : Int) (w : World) : Calls Try.prog 72 #[.int .i64 n] w fun e w' => e = .returned (.int .i64 n) ∧ w = w' := by
  go_enter Try.func72, Try.ntmps72
  go_wp2
  go_ret
  exact ⟨rfl, rfl⟩

/-- more than is asked? -/
def big (k : ByteArray) (n : Nat) : Bool := decide (300 < k.size) || decide (300 < n)
set_option maxHeartbeats 400000 in
theorem big_any (A : Option Addr) (n cap : Nat) (st : Int) (k : ByteArray) (kd lo hi va : Int) (w : World) (hk : k.size ≤ maxLen) (hn : n ≤ maxLen) : Calls Try.prog 65 #[.agg #[.int .i64 st, .string k, .int .i64 kd, .slice A n cap, .int .i64 lo, .int .i64 hi, .int .i64 va]] w fun e w' => e = .returned (.bool (big k n)) ∧ Below w.heap.size w w' := by
  unfold maxLen at hk hn
  by_cases h : 300 < k.size
  · have HE : Hid (big k n = true) := Lib.hid (by simp [big, h])
    rw [HE.out]
    go_enter Try.func65, Try.ntmps65
    go_wp2
    go_ret
    exact ⟨rfl, balloc (bsame w) _⟩
  by_cases h2 : 300 < n
  · have HE : Hid (big k n = true) := Lib.hid (by simp [big, h2])
    rw [HE.out]
    go_enter Try.func65, Try.ntmps65
    go_wp2
    go_ret
    exact ⟨by simp; omega, balloc (bsame w) _⟩
  · have HE : Hid (big k n = false) := Lib.hid (by simp [big]; omega)
    rw [HE.out]
    go_enter Try.func65, Try.ntmps65
    go_wp2
    go_ret
    exact ⟨by simp; omega, balloc (bsame w) _⟩

/-- the page's example -/
def ex : Undo := ⟨3, ⟨#[97]⟩, SlotP.none, 3⟩
theorem ex_bytes : ([] ++ UndoP.bytes ex == [3, 1, 97, 0, 0, 0, 0, 0, 0, 0, 3]) = true := by decide +kernel

set_option maxRecDepth 100000 in
set_option maxHeartbeats 1000000 in
theorem live_any (w : World) : Calls Try.prog 66 #[] w fun e w' => e = .returned (.bool true) ∧ Below w.heap.size w w' := by
  go_enter Try.func66, Try.ntmps66
  go_wp2_with fail
  have HB_0 := Lib.hid (bsame w)
  have hw_0 := HB_0.out.size
  refine (of_any none 0 0 4 ⟨#[97]⟩ [] 0 0 3 none 0 0 0 0 ⟨#[]⟩ 0 [] 0 0 0 none 0 0 0 0 ⟨#[]⟩ 0 [] 0 0 0 w (Bytes.none_ _ _) (Nat.zero_le _) (by omega) (Bytes.none_ _ _) (Nat.zero_le _) (by omega)).mono ?_
  rw [UndoP.of_inc _ _ _ rfl]
  rintro e W1 ⟨A1, n1, c1, rfl, hy1, hb1⟩
  dsimp only [SlotP.none, CellP.none] at *
  have HB_1 := Lib.hid (bstep HB_0.out hb1)
  have hw_1 := HB_1.out.size
  have hws_1 := (hb1).size
  clear hb1
  have HYa_1 := Lib.hid (hy1)
  have hn1 := hy1.len
  simp only [List.length_nil] at hn1
  subst hn1
  clear hy1
  go_wp2_with fail
  generalize hW2 : W1.alloc (.cells #[.int .i64 3, .string ⟨#[97]⟩, .int .i64 0, .string ByteArray.empty, .int .i64 0, .slice A1 0 c1, .int .i64 0, .int .i64 0, .int .i64 0, .int .i64 3] 79) = W2
  have HS0_2 : Hid (Str W2 W1.heap.size #[.int .i64 3, .string ⟨#[97]⟩, .int .i64 0, .string ByteArray.empty, .int .i64 0, .slice A1 0 c1, .int .i64 0, .int .i64 0, .int .i64 0, .int .i64 3]) := Lib.hid (by rw [← hW2]; exact Str.new W1 #[.int .i64 3, .string ⟨#[97]⟩, .int .i64 0, .string ByteArray.empty, .int .i64 0, .slice A1 0 c1, .int .i64 0, .int .i64 0, .int .i64 0, .int .i64 3] 79)
  have hba2 : Below W1.heap.size W1 W2 := by rw [← hW2]; exact balloc (bsame _) _
  have HB_2 := Lib.hid (bstep HB_1.out hba2)
  have hw_2 := HB_2.out.size
  have hws_2 := hba2.size
  have HYa_2 := Lib.hid (HYa_1.out.next hba2)
  clear HYa_1
  clear hW2
  obtain ⟨f0_2_0, f0_2_1, f0_2_2, f0_2_3, f0_2_4, f0_2_5, f0_2_6, f0_2_7, f0_2_8, f0_2_9⟩ := str10 HS0_2.out
  have hl0_2 := HS0_2.out.lt
  clear hba2
  go_wp2_with fail
  refine (put_any none 0 0 0 [] 3 ⟨#[97]⟩ A1 0 c1 W2.heap.size 0 ByteArray.empty 0 [] 0 0 0 3 _ (Bytes.none_ _ _) (Nat.zero_le _) (by omega) HYa_2.out (Nat.le_refl _) (by decide) (by decide)).mono ?_
  rintro e W3 ⟨A3, n3, c3, rfl, hy3, hb3⟩
  have HS0_3 := Lib.hid (HS0_2.out.next hb3)
  have HB_3 := Lib.hid (bstep HB_2.out hb3)
  have hw_3 := HB_3.out.size
  have hws_3 := (hb3).size
  have HYa_3 := Lib.hid (HYa_2.out.next hb3)
  clear HYa_2
  clear f0_2_0 f0_2_1 f0_2_2 f0_2_3 f0_2_4 f0_2_5 f0_2_6 f0_2_7 f0_2_8 f0_2_9 HS0_2
  clear hb3
  obtain ⟨f0_3_0, f0_3_1, f0_3_2, f0_3_3, f0_3_4, f0_3_5, f0_3_6, f0_3_7, f0_3_8, f0_3_9⟩ := str10 HS0_3.out
  have hl0_3 := HS0_3.out.lt
  have HYb_3 := Lib.hid (hy3)
  clear hy3
  go_wp2_with fail
  have HE := Lib.hid ex_bytes
  have hlb := Live05.lit_bytes W3 [3, 1, 97, 0, 0, 0, 0, 0, 0, 0, 3] _ rfl 5 (0, 0) (by decide)
  refine (Same.same_any _ _ _ _ _ _ _ _ _ [3, 1, 97, 0, 0, 0, 0, 0, 0, 0, 3] _ (HYb_3.out.alloc (Nat.le_refl _) _) hlb).mono ?_
  rintro e w4 ⟨rfl, rfl⟩
  rw [show ([] ++ UndoP.bytes ⟨3, ⟨#[97]⟩, ⟨0, ByteArray.empty, ⟨0, [], 0, 0, 0⟩⟩, 3⟩ == [3, 1, 97, 0, 0, 0, 0, 0, 0, 0, 3]) = true from HE.out]
  go_wp2_with fail
  go_ret
  exact ⟨rfl, balloc HB_3.out _⟩
end Go.Proofs.Ytjengjbkdflapaa.Live17
namespace Go.Proofs.Ytjengjbkdflapaa
open Go.RowKit
theorem Own.two (w : World) (base : Nat) (hb : base ≤ w.heap.size) (u v : UInt8) : Own (w.alloc (.cells #[.int .u8 (u.toNat : Int), .int .u8 (v.toNat : Int)] 5)) base (some ⟨w.heap.size, 0, none⟩) 2 2 [u, v] :=
  ⟨rfl, .inr ⟨_, _, _, rfl, hb, heap_alloc_new w _, Nat.le_refl _, by decide, rfl, rfl⟩⟩
end Go.Proofs.Ytjengjbkdflapaa
namespace Go.Proofs.Ytjengjbkdflapaa.RefUndoB
open Go.RowKit UndoW
set_option linter.unusedVariables false
attribute [local go_sem ↓] app_fold

set_option maxRecDepth 100000 in
set_option maxHeartbeats 1000000 in
theorem bytes_no (pact : Int) (puk : ByteArray) (Ap : Option Addr) (np cp Bp : Nat) (pst : Int) (pk : ByteArray) (pkd : Int) (pda : List UInt8) (plo phi pva : Int) (pun : Int) (w : World) (hp : Bytes w Bp Ap np cp pda) (hBp : Bp ≤ w.heap.size) (hpk : pk.size ≤ maxLen) (huk : puk.size ≤ maxLen) (hr : UndoP.right ⟨pact, puk, ⟨pst, pk, ⟨pkd, pda, plo, phi, pva⟩⟩, pun⟩ = false) : Calls Try.prog 75 #[.agg #[.int .i64 pact, .string puk, .int .i64 pst, .string pk, .int .i64 pkd, .slice Ap np cp, .int .i64 plo, .int .i64 phi, .int .i64 pva, .int .i64 pun]] w (GivesBytes w (UndoP.bytes ⟨pact, puk, ⟨pst, pk, ⟨pkd, pda, plo, phi, pva⟩⟩, pun⟩)) := by
  have Hp := Lib.hid hp
  have HR := Lib.hid hr
  clear hp hr
  have HE : Hid (UndoP.bytes ⟨pact, puk, ⟨pst, pk, ⟨pkd, pda, plo, phi, pva⟩⟩, pun⟩ = []) := Lib.hid (by rw [UndoP.bytes, if_neg (by rw [HR.out]; simp)])
  rw [HE.out]
  go_enter Try.func75, Try.ntmps75
  go_wp2_with fail
  generalize hW0 : (w).alloc (.cells #[.int .i64 pact, .string puk, .int .i64 pst, .string pk, .int .i64 pkd, .slice Ap np cp, .int .i64 plo, .int .i64 phi, .int .i64 pva, .int .i64 pun] 79) = W0
  have HS0_0 : Hid (Str W0 (w.heap.size) #[.int .i64 pact, .string puk, .int .i64 pst, .string pk, .int .i64 pkd, .slice Ap np cp, .int .i64 plo, .int .i64 phi, .int .i64 pva, .int .i64 pun]) := Lib.hid (by rw [← hW0]; have := Str.new (w) #[.int .i64 pact, .string puk, .int .i64 pst, .string pk, .int .i64 pkd, .slice Ap np cp, .int .i64 plo, .int .i64 phi, .int .i64 pva, .int .i64 pun] 79; simpa using this)
  have HB_0 : Hid (Below w.heap.size w W0) := Lib.hid (by rw [← hW0]; exact balloc (bsame w) _)
  have hw_0 := HB_0.out.size
  clear hW0
  obtain ⟨f0_0_0, f0_0_1, f0_0_2, f0_0_3, f0_0_4, f0_0_5, f0_0_6, f0_0_7, f0_0_8, f0_0_9⟩ := str10 HS0_0.out
  have hl0_0 := HS0_0.out.lt
  refine (right_any _ _ _ _ _ _ _ _ _ pda _ _ _ _ _ (Hp.out.below (HB_0.out.mono hBp)) (by omega) hpk huk).mono ?_
  rintro e W1 ⟨rfl, hb1⟩
  rw [HR.out]
  have HS0_1 := Lib.hid (HS0_0.out.next hb1)
  have HB_1 := Lib.hid (bstep HB_0.out hb1)
  have hw_1 := HB_1.out.size
  have hws_1 := (hb1).size
  clear f0_0_0 f0_0_1 f0_0_2 f0_0_3 f0_0_4 f0_0_5 f0_0_6 f0_0_7 f0_0_8 f0_0_9 HS0_0
  clear hb1
  obtain ⟨f0_1_0, f0_1_1, f0_1_2, f0_1_3, f0_1_4, f0_1_5, f0_1_6, f0_1_7, f0_1_8, f0_1_9⟩ := str10 HS0_1.out
  have hl0_1 := HS0_1.out.lt
  go_wp2_with fail
  go_ret
  exact ⟨none, 0, 0, rfl, Bytes.none_ _ _, HB_1.out⟩

set_option maxRecDepth 100000 in
set_option maxHeartbeats 1000000 in
theorem bytes0 (puk : ByteArray) (Ap : Option Addr) (np cp Bp : Nat) (pst : Int) (pk : ByteArray) (pkd : Int) (pda : List UInt8) (plo phi pva : Int) (pun : Int) (w : World) (hp : Bytes w Bp Ap np cp pda) (hBp : Bp ≤ w.heap.size) (hpk : pk.size ≤ maxLen) (huk : puk.size ≤ maxLen) (hr : UndoP.right ⟨0, puk, ⟨pst, pk, ⟨pkd, pda, plo, phi, pva⟩⟩, pun⟩ = true) : Calls Try.prog 75 #[.agg #[.int .i64 0, .string puk, .int .i64 pst, .string pk, .int .i64 pkd, .slice Ap np cp, .int .i64 plo, .int .i64 phi, .int .i64 pva, .int .i64 pun]] w (GivesBytes w (UndoP.bytes ⟨0, puk, ⟨pst, pk, ⟨pkd, pda, plo, phi, pva⟩⟩, pun⟩)) := by
  have Hp := Lib.hid hp
  have HR := Lib.hid hr
  clear hp hr
  have HE : Hid (UndoP.bytes ⟨0, puk, ⟨pst, pk, ⟨pkd, pda, plo, phi, pva⟩⟩, pun⟩ = [0]) := Lib.hid (by rw [UndoP.bytes, if_pos HR.out]; rfl)
  rw [HE.out]
  go_enter Try.func75, Try.ntmps75
  go_wp2_with fail
  generalize hW0 : (w).alloc (.cells #[.int .i64 0, .string puk, .int .i64 pst, .string pk, .int .i64 pkd, .slice Ap np cp, .int .i64 plo, .int .i64 phi, .int .i64 pva, .int .i64 pun] 79) = W0
  have HS0_0 : Hid (Str W0 (w.heap.size) #[.int .i64 0, .string puk, .int .i64 pst, .string pk, .int .i64 pkd, .slice Ap np cp, .int .i64 plo, .int .i64 phi, .int .i64 pva, .int .i64 pun]) := Lib.hid (by rw [← hW0]; have := Str.new (w) #[.int .i64 0, .string puk, .int .i64 pst, .string pk, .int .i64 pkd, .slice Ap np cp, .int .i64 plo, .int .i64 phi, .int .i64 pva, .int .i64 pun] 79; simpa using this)
  have HB_0 : Hid (Below w.heap.size w W0) := Lib.hid (by rw [← hW0]; exact balloc (bsame w) _)
  have hw_0 := HB_0.out.size
  clear hW0
  obtain ⟨f0_0_0, f0_0_1, f0_0_2, f0_0_3, f0_0_4, f0_0_5, f0_0_6, f0_0_7, f0_0_8, f0_0_9⟩ := str10 HS0_0.out
  have hl0_0 := HS0_0.out.lt
  refine (right_any _ _ _ _ _ _ _ _ _ pda _ _ _ _ _ (Hp.out.below (HB_0.out.mono hBp)) (by omega) hpk huk).mono ?_
  rintro e W1 ⟨rfl, hb1⟩
  rw [HR.out]
  have HS0_1 := Lib.hid (HS0_0.out.next hb1)
  have HB_1 := Lib.hid (bstep HB_0.out hb1)
  have hw_1 := HB_1.out.size
  have hws_1 := (hb1).size
  clear f0_0_0 f0_0_1 f0_0_2 f0_0_3 f0_0_4 f0_0_5 f0_0_6 f0_0_7 f0_0_8 f0_0_9 HS0_0
  clear hb1
  obtain ⟨f0_1_0, f0_1_1, f0_1_2, f0_1_3, f0_1_4, f0_1_5, f0_1_6, f0_1_7, f0_1_8, f0_1_9⟩ := str10 HS0_1.out
  have hl0_1 := HS0_1.out.lt
  go_wp2_with fail
  generalize hW2 : W1.alloc (.cells #[.int .u8 0] 5) = W2
  have HS0_2 : Hid (Str W2 (w.heap.size) #[.int .i64 0, .string puk, .int .i64 pst, .string pk, .int .i64 pkd, .slice Ap np cp, .int .i64 plo, .int .i64 phi, .int .i64 pva, .int .i64 pun]) := Lib.hid (by rw [← hW2]; exact HS0_1.out.alloc _)
  have HS1_2 : Hid (Str W2 W1.heap.size #[.int .u8 0]) := Lib.hid (by rw [← hW2]; exact Str.new W1 #[.int .u8 0] 5)
  have hba2 : Below W1.heap.size W1 W2 := by rw [← hW2]; exact balloc (bsame _) _
  have HB_2 := Lib.hid (bstep HB_1.out hba2)
  have hw_2 := HB_2.out.size
  have hws_2 := hba2.size
  clear hW2
  clear f0_1_0 f0_1_1 f0_1_2 f0_1_3 f0_1_4 f0_1_5 f0_1_6 f0_1_7 f0_1_8 f0_1_9 HS0_1
  obtain ⟨f0_2_0, f0_2_1, f0_2_2, f0_2_3, f0_2_4, f0_2_5, f0_2_6, f0_2_7, f0_2_8, f0_2_9⟩ := str10 HS0_2.out
  have hl0_2 := HS0_2.out.lt
  have f1_2_0 := str1 HS1_2.out
  have hl1_2 := HS1_2.out.lt
  clear hba2
  go_ret
  exact ⟨_, _, _, rfl, HS1_2.out.lit [0] rfl (by decide), HB_2.out⟩

set_option maxRecDepth 100000 in
set_option maxHeartbeats 1000000 in
theorem bytes1 (puk : ByteArray) (Ap : Option Addr) (np cp Bp : Nat) (pst : Int) (pk : ByteArray) (pkd : Int) (pda : List UInt8) (plo phi pva : Int) (pun : Int) (w : World) (hp : Bytes w Bp Ap np cp pda) (hBp : Bp ≤ w.heap.size) (hpk : pk.size ≤ maxLen) (huk : puk.size ≤ maxLen) (hr : UndoP.right ⟨1, puk, ⟨pst, pk, ⟨pkd, pda, plo, phi, pva⟩⟩, pun⟩ = true) : Calls Try.prog 75 #[.agg #[.int .i64 1, .string puk, .int .i64 pst, .string pk, .int .i64 pkd, .slice Ap np cp, .int .i64 plo, .int .i64 phi, .int .i64 pva, .int .i64 pun]] w (GivesBytes w (UndoP.bytes ⟨1, puk, ⟨pst, pk, ⟨pkd, pda, plo, phi, pva⟩⟩, pun⟩)) := by
  have Hp := Lib.hid hp
  have HR := Lib.hid hr
  clear hp hr
  have HE : Hid (UndoP.bytes ⟨1, puk, ⟨pst, pk, ⟨pkd, pda, plo, phi, pva⟩⟩, pun⟩ = [1, UInt8.ofNat puk.size] ++ (puk.data.toList ++ SlotP.bytes ⟨pst, pk, ⟨pkd, pda, plo, phi, pva⟩⟩)) := Lib.hid (by rw [UndoP.bytes, if_pos HR.out]; rfl)
  rw [HE.out]
  have hks := KeyP.right_size puk (UndoP.right_key _ (by simp) HR.out)
  have hkm : ((puk.size : Int) % 256) = (puk.size : Int) := by omega
  have hkb : ((UInt8.ofNat puk.size).toNat : Int) = (puk.size : Int) := by simp; omega
  have HKB := Lib.hid hkb
  clear hkb
  go_enter Try.func75, Try.ntmps75
  go_wp2_with fail
  generalize hW0 : (w).alloc (.cells #[.int .i64 1, .string puk, .int .i64 pst, .string pk, .int .i64 pkd, .slice Ap np cp, .int .i64 plo, .int .i64 phi, .int .i64 pva, .int .i64 pun] 79) = W0
  have HS0_0 : Hid (Str W0 (w.heap.size) #[.int .i64 1, .string puk, .int .i64 pst, .string pk, .int .i64 pkd, .slice Ap np cp, .int .i64 plo, .int .i64 phi, .int .i64 pva, .int .i64 pun]) := Lib.hid (by rw [← hW0]; have := Str.new (w) #[.int .i64 1, .string puk, .int .i64 pst, .string pk, .int .i64 pkd, .slice Ap np cp, .int .i64 plo, .int .i64 phi, .int .i64 pva, .int .i64 pun] 79; simpa using this)
  have HB_0 : Hid (Below w.heap.size w W0) := Lib.hid (by rw [← hW0]; exact balloc (bsame w) _)
  have hw_0 := HB_0.out.size
  clear hW0
  obtain ⟨f0_0_0, f0_0_1, f0_0_2, f0_0_3, f0_0_4, f0_0_5, f0_0_6, f0_0_7, f0_0_8, f0_0_9⟩ := str10 HS0_0.out
  have hl0_0 := HS0_0.out.lt
  refine (right_any _ _ _ _ _ _ _ _ _ pda _ _ _ _ _ (Hp.out.below (HB_0.out.mono hBp)) (by omega) hpk huk).mono ?_
  rintro e W1 ⟨rfl, hb1⟩
  rw [HR.out]
  have HS0_1 := Lib.hid (HS0_0.out.next hb1)
  have HB_1 := Lib.hid (bstep HB_0.out hb1)
  have hw_1 := HB_1.out.size
  have hws_1 := (hb1).size
  clear f0_0_0 f0_0_1 f0_0_2 f0_0_3 f0_0_4 f0_0_5 f0_0_6 f0_0_7 f0_0_8 f0_0_9 HS0_0
  clear hb1
  obtain ⟨f0_1_0, f0_1_1, f0_1_2, f0_1_3, f0_1_4, f0_1_5, f0_1_6, f0_1_7, f0_1_8, f0_1_9⟩ := str10 HS0_1.out
  have hl0_1 := HS0_1.out.lt
  go_wp2_with fail
  obtain ⟨A3, c3, W2, happ3, hO3, hb3⟩ := (Own.two W1 W1.heap.size (Nat.le_refl _) 1 (UInt8.ofNat puk.size)).appStr puk (by omega) (by simp)
  have hb3' : Below W1.heap.size W1 W2 := ((Below.refl _ W1).alloc (Nat.le_refl _) _).trans hb3
  rw [HKB.out, show ((1 : UInt8).toNat : Int) = 1 from rfl] at happ3
  have HO3 := Lib.hid hO3
  have hsO : W1.heap.size ≤ W2.heap.size := hb3'.size
  clear hb3 hO3
  have HS0_2 := Lib.hid (HS0_1.out.next hb3')
  have HB_2 := Lib.hid (bstep HB_1.out hb3')
  have hw_2 := HB_2.out.size
  have hws_2 := (hb3').size
  clear f0_1_0 f0_1_1 f0_1_2 f0_1_3 f0_1_4 f0_1_5 f0_1_6 f0_1_7 f0_1_8 f0_1_9 HS0_1
  clear hb3'
  obtain ⟨f0_2_0, f0_2_1, f0_2_2, f0_2_3, f0_2_4, f0_2_5, f0_2_6, f0_2_7, f0_2_8, f0_2_9⟩ := str10 HS0_2.out
  have hl0_2 := HS0_2.out.lt
  go_simp
  go_wp2_with fail
  clear happ3
  refine (RefSlotBytes.bytes_any Ap np cp Bp ⟨pst, pk, ⟨pkd, pda, plo, phi, pva⟩⟩ _ (Hp.out.below (HB_2.out.mono hBp)) (by omega) hpk).mono ?_
  rintro e W3 ⟨A4, n4, c4, rfl, hy4, hb3⟩
  have hn4 : n4 = 64 := by rw [← hy4.len, SlotP.bytes_length]
  subst hn4
  have hsq := hb3.size
  have HO4 := Lib.hid (HO3.out.next hb3)
  have HS0_3 := Lib.hid (HS0_2.out.next hb3)
  have HB_3 := Lib.hid (bstep HB_2.out hb3)
  have hw_3 := HB_3.out.size
  have hws_3 := (hb3).size
  clear f0_2_0 f0_2_1 f0_2_2 f0_2_3 f0_2_4 f0_2_5 f0_2_6 f0_2_7 f0_2_8 f0_2_9 HS0_2
  clear hb3
  obtain ⟨f0_3_0, f0_3_1, f0_3_2, f0_3_3, f0_3_4, f0_3_5, f0_3_6, f0_3_7, f0_3_8, f0_3_9⟩ := str10 HS0_3.out
  have hl0_3 := HS0_3.out.lt
  obtain ⟨A6, c6, W4, happ6, hO6, hb6⟩ := HO4.out.app hy4 (by omega) (by omega)
  have HO6 := Lib.hid hO6
  have HB6 := Lib.hid (HB_3.out.trans (hb6.mono (by omega)))
  clear hO6 hb6 hy4
  go_wp2_with fail
  go_ret
  refine ⟨A6, _, c6, rfl, ?_, HB6.out⟩
  have h9 := HO6.out.bytes
  simpa using h9

set_option maxRecDepth 100000 in
set_option maxHeartbeats 1000000 in
theorem bytes2 (puk : ByteArray) (Ap : Option Addr) (np cp Bp : Nat) (pst : Int) (pk : ByteArray) (pkd : Int) (pda : List UInt8) (plo phi pva : Int) (pun : Int) (w : World) (hp : Bytes w Bp Ap np cp pda) (hBp : Bp ≤ w.heap.size) (hpk : pk.size ≤ maxLen) (huk : puk.size ≤ maxLen) (hr : UndoP.right ⟨2, puk, ⟨pst, pk, ⟨pkd, pda, plo, phi, pva⟩⟩, pun⟩ = true) : Calls Try.prog 75 #[.agg #[.int .i64 2, .string puk, .int .i64 pst, .string pk, .int .i64 pkd, .slice Ap np cp, .int .i64 plo, .int .i64 phi, .int .i64 pva, .int .i64 pun]] w (GivesBytes w (UndoP.bytes ⟨2, puk, ⟨pst, pk, ⟨pkd, pda, plo, phi, pva⟩⟩, pun⟩)) := by
  have Hp := Lib.hid hp
  have HR := Lib.hid hr
  clear hp hr
  have HE : Hid (UndoP.bytes ⟨2, puk, ⟨pst, pk, ⟨pkd, pda, plo, phi, pva⟩⟩, pun⟩ = [2, UInt8.ofNat puk.size] ++ (puk.data.toList ++ BeP.parts 8 pun)) := Lib.hid (by rw [UndoP.bytes, if_pos HR.out]; rfl)
  rw [HE.out]
  have hks := KeyP.right_size puk (UndoP.right_key _ (by simp) HR.out)
  have hkm : ((puk.size : Int) % 256) = (puk.size : Int) := by omega
  have hkb : ((UInt8.ofNat puk.size).toNat : Int) = (puk.size : Int) := by simp; omega
  have HKB := Lib.hid hkb
  clear hkb
  go_enter Try.func75, Try.ntmps75
  go_wp2_with fail
  generalize hW0 : (w).alloc (.cells #[.int .i64 2, .string puk, .int .i64 pst, .string pk, .int .i64 pkd, .slice Ap np cp, .int .i64 plo, .int .i64 phi, .int .i64 pva, .int .i64 pun] 79) = W0
  have HS0_0 : Hid (Str W0 (w.heap.size) #[.int .i64 2, .string puk, .int .i64 pst, .string pk, .int .i64 pkd, .slice Ap np cp, .int .i64 plo, .int .i64 phi, .int .i64 pva, .int .i64 pun]) := Lib.hid (by rw [← hW0]; have := Str.new (w) #[.int .i64 2, .string puk, .int .i64 pst, .string pk, .int .i64 pkd, .slice Ap np cp, .int .i64 plo, .int .i64 phi, .int .i64 pva, .int .i64 pun] 79; simpa using this)
  have HB_0 : Hid (Below w.heap.size w W0) := Lib.hid (by rw [← hW0]; exact balloc (bsame w) _)
  have hw_0 := HB_0.out.size
  clear hW0
  obtain ⟨f0_0_0, f0_0_1, f0_0_2, f0_0_3, f0_0_4, f0_0_5, f0_0_6, f0_0_7, f0_0_8, f0_0_9⟩ := str10 HS0_0.out
  have hl0_0 := HS0_0.out.lt
  refine (right_any _ _ _ _ _ _ _ _ _ pda _ _ _ _ _ (Hp.out.below (HB_0.out.mono hBp)) (by omega) hpk huk).mono ?_
  rintro e W1 ⟨rfl, hb1⟩
  rw [HR.out]
  have HS0_1 := Lib.hid (HS0_0.out.next hb1)
  have HB_1 := Lib.hid (bstep HB_0.out hb1)
  have hw_1 := HB_1.out.size
  have hws_1 := (hb1).size
  clear f0_0_0 f0_0_1 f0_0_2 f0_0_3 f0_0_4 f0_0_5 f0_0_6 f0_0_7 f0_0_8 f0_0_9 HS0_0
  clear hb1
  obtain ⟨f0_1_0, f0_1_1, f0_1_2, f0_1_3, f0_1_4, f0_1_5, f0_1_6, f0_1_7, f0_1_8, f0_1_9⟩ := str10 HS0_1.out
  have hl0_1 := HS0_1.out.lt
  go_wp2_with fail
  obtain ⟨A3, c3, W2, happ3, hO3, hb3⟩ := (Own.two W1 W1.heap.size (Nat.le_refl _) 2 (UInt8.ofNat puk.size)).appStr puk (by omega) (by simp)
  have hb3' : Below W1.heap.size W1 W2 := ((Below.refl _ W1).alloc (Nat.le_refl _) _).trans hb3
  rw [HKB.out, show ((2 : UInt8).toNat : Int) = 2 from rfl] at happ3
  have HO3 := Lib.hid hO3
  have hsO : W1.heap.size ≤ W2.heap.size := hb3'.size
  clear hb3 hO3
  have HS0_2 := Lib.hid (HS0_1.out.next hb3')
  have HB_2 := Lib.hid (bstep HB_1.out hb3')
  have hw_2 := HB_2.out.size
  have hws_2 := (hb3').size
  clear f0_1_0 f0_1_1 f0_1_2 f0_1_3 f0_1_4 f0_1_5 f0_1_6 f0_1_7 f0_1_8 f0_1_9 HS0_1
  clear hb3'
  obtain ⟨f0_2_0, f0_2_1, f0_2_2, f0_2_3, f0_2_4, f0_2_5, f0_2_6, f0_2_7, f0_2_8, f0_2_9⟩ := str10 HS0_2.out
  have hl0_2 := HS0_2.out.lt
  go_simp
  go_wp2_with fail
  clear happ3
  refine (RefBytes.bytes_any 8 pun _ (by omega)).mono ?_
  rintro e W3 ⟨A4, n4, c4, rfl, hy4, hb3⟩
  have hn4 : n4 = 8 := by rw [← hy4.len, BeP.parts_length]
  subst hn4
  have hsq := hb3.size
  have HO4 := Lib.hid (HO3.out.next hb3)
  have HS0_3 := Lib.hid (HS0_2.out.next hb3)
  have HB_3 := Lib.hid (bstep HB_2.out hb3)
  have hw_3 := HB_3.out.size
  have hws_3 := (hb3).size
  clear f0_2_0 f0_2_1 f0_2_2 f0_2_3 f0_2_4 f0_2_5 f0_2_6 f0_2_7 f0_2_8 f0_2_9 HS0_2
  clear hb3
  obtain ⟨f0_3_0, f0_3_1, f0_3_2, f0_3_3, f0_3_4, f0_3_5, f0_3_6, f0_3_7, f0_3_8, f0_3_9⟩ := str10 HS0_3.out
  have hl0_3 := HS0_3.out.lt
  obtain ⟨A6, c6, W4, happ6, hO6, hb6⟩ := HO4.out.app hy4 (by omega) (by omega)
  have HO6 := Lib.hid hO6
  have HB6 := Lib.hid (HB_3.out.trans (hb6.mono (by omega)))
  clear hO6 hb6 hy4
  go_wp2_with fail
  go_ret
  refine ⟨A6, _, c6, rfl, ?_, HB6.out⟩
  have h9 := HO6.out.bytes
  simpa using h9

set_option maxRecDepth 100000 in
set_option maxHeartbeats 1000000 in
theorem bytes3 (puk : ByteArray) (Ap : Option Addr) (np cp Bp : Nat) (pst : Int) (pk : ByteArray) (pkd : Int) (pda : List UInt8) (plo phi pva : Int) (pun : Int) (w : World) (hp : Bytes w Bp Ap np cp pda) (hBp : Bp ≤ w.heap.size) (hpk : pk.size ≤ maxLen) (huk : puk.size ≤ maxLen) (hr : UndoP.right ⟨3, puk, ⟨pst, pk, ⟨pkd, pda, plo, phi, pva⟩⟩, pun⟩ = true) : Calls Try.prog 75 #[.agg #[.int .i64 3, .string puk, .int .i64 pst, .string pk, .int .i64 pkd, .slice Ap np cp, .int .i64 plo, .int .i64 phi, .int .i64 pva, .int .i64 pun]] w (GivesBytes w (UndoP.bytes ⟨3, puk, ⟨pst, pk, ⟨pkd, pda, plo, phi, pva⟩⟩, pun⟩)) := by
  have Hp := Lib.hid hp
  have HR := Lib.hid hr
  clear hp hr
  have HE : Hid (UndoP.bytes ⟨3, puk, ⟨pst, pk, ⟨pkd, pda, plo, phi, pva⟩⟩, pun⟩ = [3, UInt8.ofNat puk.size] ++ (puk.data.toList ++ BeP.parts 8 pun)) := Lib.hid (by rw [UndoP.bytes, if_pos HR.out]; rfl)
  rw [HE.out]
  have hks := KeyP.right_size puk (UndoP.right_key _ (by simp) HR.out)
  have hkm : ((puk.size : Int) % 256) = (puk.size : Int) := by omega
  have hkb : ((UInt8.ofNat puk.size).toNat : Int) = (puk.size : Int) := by simp; omega
  have HKB := Lib.hid hkb
  clear hkb
  go_enter Try.func75, Try.ntmps75
  go_wp2_with fail
  generalize hW0 : (w).alloc (.cells #[.int .i64 3, .string puk, .int .i64 pst, .string pk, .int .i64 pkd, .slice Ap np cp, .int .i64 plo, .int .i64 phi, .int .i64 pva, .int .i64 pun] 79) = W0
  have HS0_0 : Hid (Str W0 (w.heap.size) #[.int .i64 3, .string puk, .int .i64 pst, .string pk, .int .i64 pkd, .slice Ap np cp, .int .i64 plo, .int .i64 phi, .int .i64 pva, .int .i64 pun]) := Lib.hid (by rw [← hW0]; have := Str.new (w) #[.int .i64 3, .string puk, .int .i64 pst, .string pk, .int .i64 pkd, .slice Ap np cp, .int .i64 plo, .int .i64 phi, .int .i64 pva, .int .i64 pun] 79; simpa using this)
  have HB_0 : Hid (Below w.heap.size w W0) := Lib.hid (by rw [← hW0]; exact balloc (bsame w) _)
  have hw_0 := HB_0.out.size
  clear hW0
  obtain ⟨f0_0_0, f0_0_1, f0_0_2, f0_0_3, f0_0_4, f0_0_5, f0_0_6, f0_0_7, f0_0_8, f0_0_9⟩ := str10 HS0_0.out
  have hl0_0 := HS0_0.out.lt
  refine (right_any _ _ _ _ _ _ _ _ _ pda _ _ _ _ _ (Hp.out.below (HB_0.out.mono hBp)) (by omega) hpk huk).mono ?_
  rintro e W1 ⟨rfl, hb1⟩
  rw [HR.out]
  have HS0_1 := Lib.hid (HS0_0.out.next hb1)
  have HB_1 := Lib.hid (bstep HB_0.out hb1)
  have hw_1 := HB_1.out.size
  have hws_1 := (hb1).size
  clear f0_0_0 f0_0_1 f0_0_2 f0_0_3 f0_0_4 f0_0_5 f0_0_6 f0_0_7 f0_0_8 f0_0_9 HS0_0
  clear hb1
  obtain ⟨f0_1_0, f0_1_1, f0_1_2, f0_1_3, f0_1_4, f0_1_5, f0_1_6, f0_1_7, f0_1_8, f0_1_9⟩ := str10 HS0_1.out
  have hl0_1 := HS0_1.out.lt
  go_wp2_with fail
  obtain ⟨A3, c3, W2, happ3, hO3, hb3⟩ := (Own.two W1 W1.heap.size (Nat.le_refl _) 3 (UInt8.ofNat puk.size)).appStr puk (by omega) (by simp)
  have hb3' : Below W1.heap.size W1 W2 := ((Below.refl _ W1).alloc (Nat.le_refl _) _).trans hb3
  rw [HKB.out, show ((3 : UInt8).toNat : Int) = 3 from rfl] at happ3
  have HO3 := Lib.hid hO3
  have hsO : W1.heap.size ≤ W2.heap.size := hb3'.size
  clear hb3 hO3
  have HS0_2 := Lib.hid (HS0_1.out.next hb3')
  have HB_2 := Lib.hid (bstep HB_1.out hb3')
  have hw_2 := HB_2.out.size
  have hws_2 := (hb3').size
  clear f0_1_0 f0_1_1 f0_1_2 f0_1_3 f0_1_4 f0_1_5 f0_1_6 f0_1_7 f0_1_8 f0_1_9 HS0_1
  clear hb3'
  obtain ⟨f0_2_0, f0_2_1, f0_2_2, f0_2_3, f0_2_4, f0_2_5, f0_2_6, f0_2_7, f0_2_8, f0_2_9⟩ := str10 HS0_2.out
  have hl0_2 := HS0_2.out.lt
  go_simp
  go_wp2_with fail
  clear happ3
  refine (RefBytes.bytes_any 8 pun _ (by omega)).mono ?_
  rintro e W3 ⟨A4, n4, c4, rfl, hy4, hb3⟩
  have hn4 : n4 = 8 := by rw [← hy4.len, BeP.parts_length]
  subst hn4
  have hsq := hb3.size
  have HO4 := Lib.hid (HO3.out.next hb3)
  have HS0_3 := Lib.hid (HS0_2.out.next hb3)
  have HB_3 := Lib.hid (bstep HB_2.out hb3)
  have hw_3 := HB_3.out.size
  have hws_3 := (hb3).size
  clear f0_2_0 f0_2_1 f0_2_2 f0_2_3 f0_2_4 f0_2_5 f0_2_6 f0_2_7 f0_2_8 f0_2_9 HS0_2
  clear hb3
  obtain ⟨f0_3_0, f0_3_1, f0_3_2, f0_3_3, f0_3_4, f0_3_5, f0_3_6, f0_3_7, f0_3_8, f0_3_9⟩ := str10 HS0_3.out
  have hl0_3 := HS0_3.out.lt
  obtain ⟨A6, c6, W4, happ6, hO6, hb6⟩ := HO4.out.app hy4 (by omega) (by omega)
  have HO6 := Lib.hid hO6
  have HB6 := Lib.hid (HB_3.out.trans (hb6.mono (by omega)))
  clear hO6 hb6 hy4
  go_wp2_with fail
  go_ret
  refine ⟨A6, _, c6, rfl, ?_, HB6.out⟩
  have h9 := HO6.out.bytes
  simpa using h9

set_option maxRecDepth 100000 in
set_option maxHeartbeats 1000000 in
theorem bytes_any (pact : Int) (puk : ByteArray) (Ap : Option Addr) (np cp Bp : Nat) (pst : Int) (pk : ByteArray) (pkd : Int) (pda : List UInt8) (plo phi pva : Int) (pun : Int) (w : World) (hp : Bytes w Bp Ap np cp pda) (hBp : Bp ≤ w.heap.size) (hpk : pk.size ≤ maxLen) (huk : puk.size ≤ maxLen)  : Calls Try.prog 75 #[.agg #[.int .i64 pact, .string puk, .int .i64 pst, .string pk, .int .i64 pkd, .slice Ap np cp, .int .i64 plo, .int .i64 phi, .int .i64 pva, .int .i64 pun]] w (GivesBytes w (UndoP.bytes ⟨pact, puk, ⟨pst, pk, ⟨pkd, pda, plo, phi, pva⟩⟩, pun⟩)) := by
  cases hr : UndoP.right ⟨pact, puk, ⟨pst, pk, ⟨pkd, pda, plo, phi, pva⟩⟩, pun⟩
  · exact bytes_no pact puk Ap np cp Bp pst pk pkd pda plo phi pva pun w hp hBp hpk huk hr
  by_cases h0 : pact = 0
  · subst h0
    exact bytes0 puk Ap np cp Bp pst pk pkd pda plo phi pva pun w hp hBp hpk huk hr
  by_cases h1 : pact = 1
  · subst h1
    exact bytes1 puk Ap np cp Bp pst pk pkd pda plo phi pva pun w hp hBp hpk huk hr
  by_cases h2 : pact = 2
  · subst h2
    exact bytes2 puk Ap np cp Bp pst pk pkd pda plo phi pva pun w hp hBp hpk huk hr
  by_cases h3 : pact = 3
  · subst h3
    exact bytes3 puk Ap np cp Bp pst pk pkd pda plo phi pva pun w hp hBp hpk huk hr
  · simp [UndoP.right, h0, h1, h2, h3] at hr
end Go.Proofs.Ytjengjbkdflapaa.RefUndoB
namespace Go.Proofs.Ytjengjbkdflapaa.UndoP
theorem slot_same_none (x : Item) (h : SlotP.same x SlotP.none = true) : x = SlotP.none := by
  obtain ⟨s, k, kind, data, lo, hi, val⟩ := x
  simp only [SlotP.same, SlotP.none, CellP.same, CellP.none, Bool.and_eq_true, beq_iff_eq] at h
  obtain ⟨h1, h2, h3, h4, h5, h6, h7⟩ := h
  have hk := key_inj h2
  subst h1 hk h3 h4 h5 h6 h7
  rfl
theorem same_none (u : Undo) (h : same u none = true) : u = none := by
  obtain ⟨a, k, it, n⟩ := u
  simp only [same, none, Bool.and_eq_true, beq_iff_eq] at h
  obtain ⟨h1, h2, h3, h4⟩ := h
  have hk := key_inj h2
  have hi := slot_same_none it h4
  subst h1 hk h3 hi
  rfl
theorem ofNat_size (k : ByteArray) (h : k.size ≤ 16) : (UInt8.ofNat k.size).toNat = k.size := by
  simp
  omega
theorem get_bytes (u : Undo) (hr : right u = true) (hn : In64 u.n) (hi : SlotP.In u.item) : get (bytes u) = (u, ((bytes u).length : Int), 0) := by
  by_cases h0 : u.act = 0
  · have hu : u = none := same_none u (by unfold right at hr; rw [if_pos h0] at hr; exact hr)
    have e : bytes none = [0] := by unfold bytes; rw [if_pos (by decide +kernel)]; rfl
    rw [hu, e]
    rfl
  have hk := right_key u h0 hr
  have hks := KeyP.right_size u.key hk
  have hon := ofNat_size u.key hks
  have hkl : u.key.data.toList.length = u.key.size := by simp
  have htx : SlotP.text u.key.data.toList = u.key := SlotP.text_of u.key
  have hb : bytes u = UInt8.ofNat u.act.toNat :: UInt8.ofNat u.key.size :: (u.key.data.toList ++ (if u.act = 1 then SlotP.bytes u.item else BeP.parts 8 u.n)) := by
    unfold bytes
    rw [if_pos hr, if_neg h0]
    rfl
  by_cases h1 : u.act = 1
  · have hr1 := hr
    unfold right at hr1
    rw [if_neg h0, if_pos h1] at hr1
    simp only [Bool.and_eq_true, beq_iff_eq] at hr1
    obtain ⟨-, -, hsr, -, hn0⟩ := hr1
    have hx : (UInt8.ofNat u.act.toNat).toNat = 1 := by rw [h1]; rfl
    have hlen : (bytes u).length = 2 + u.key.size + 64 := by
      rw [hb, if_pos h1]
      simp only [List.length_cons, List.length_append, hkl, SlotP.bytes_length]
      omega
    have hg := SlotP.get_bytes u.item hsr hi
    have ed : ((bytes u).drop (2 + u.key.size)).take 64 = SlotP.bytes u.item := by
      rw [hb, if_pos h1, show 2 + u.key.size = u.key.size + 1 + 1 by omega, List.drop_succ_cons, List.drop_succ_cons, ← hkl, List.drop_left, List.take_of_length_le (by rw [SlotP.bytes_length]; omega)]
    have ek : ((bytes u).drop 2).take u.key.size = u.key.data.toList := by
      rw [hb, List.drop_succ_cons, List.drop_succ_cons, List.drop_zero, ← hkl, List.take_left]
    have g0 : (bytes u).getD 0 0 = UInt8.ofNat u.act.toNat := by rw [hb]; rfl
    have g1 : (bytes u).getD 1 0 = UInt8.ofNat u.key.size := by rw [hb]; rfl
    have hs : seem 1 (bytes u) = u := by
      unfold seem
      rw [g1, hon, ek, ed, hg, htx, if_pos rfl, if_pos rfl]
      obtain ⟨a, k, it, n⟩ := u
      dsimp only at *
      subst h1 hn0
      rfl
    have he : err 1 (bytes u) = 0 := by
      unfold err
      rw [g1, hon, ed, hg, if_pos rfl]
    unfold get
    rw [g0, g1, hx, hon, if_neg (by omega), if_neg (by omega), if_neg (by omega), if_neg (by unfold size; rw [if_pos rfl]; omega), he, hs, if_pos ⟨rfl, hr⟩, hlen]
    rfl
  · have h23 : u.act = 2 ∨ u.act = 3 := by
      unfold right at hr
      rw [if_neg h0, if_neg h1] at hr
      split at hr
      · assumption
      · cases hr
    have hr1 := hr
    unfold right at hr1
    rw [if_neg h0, if_neg h1, if_pos h23] at hr1
    simp only [Bool.and_eq_true] at hr1
    have hit := slot_same_none u.item hr1.2.2
    have hx : ((UInt8.ofNat u.act.toNat).toNat : Int) = u.act := by rcases h23 with e | e <;> rw [e] <;> rfl
    have hlen : (bytes u).length = 2 + u.key.size + 8 := by
      rw [hb, if_neg h1]
      simp only [List.length_cons, List.length_append, hkl, BeP.parts_length]
      omega
    have ek : ((bytes u).drop 2).take u.key.size = u.key.data.toList := by
      rw [hb, List.drop_succ_cons, List.drop_succ_cons, List.drop_zero, ← hkl, List.take_left]
    have g0 : (bytes u).getD 0 0 = UInt8.ofNat u.act.toNat := by rw [hb]; rfl
    have g1 : (bytes u).getD 1 0 = UInt8.ofNat u.key.size := by rw [hb]; rfl
    have ev : NumP.val (bytes u) (2 + u.key.size) 8 = u.n := by
      have := NumP.val_parts8 (UInt8.ofNat u.act.toNat :: UInt8.ofNat u.key.size :: u.key.data.toList) [] u.n hn
      rw [show (UInt8.ofNat u.act.toNat :: UInt8.ofNat u.key.size :: u.key.data.toList).length = 2 + u.key.size by simp only [List.length_cons, hkl]; omega] at this
      rw [hb, if_neg h1]
      simpa using this
    obtain ⟨x, hxe⟩ : ∃ x, (UInt8.ofNat u.act.toNat).toNat = x := ⟨_, rfl⟩
    rw [hxe] at hx
    have hx1 : ¬ x = 1 := by omega
    have hs : seem x (bytes u) = u := by
      unfold seem
      rw [g1, hon, ek, htx, if_neg hx1, if_neg hx1, ev]
      obtain ⟨a, k, it, n⟩ := u
      dsimp only at *
      subst hx hit
      rfl
    have he : err x (bytes u) = 0 := by
      unfold err
      rw [if_neg hx1]
    unfold get
    rw [g0, g1, hxe, hon, if_neg (by omega), if_neg (by omega), if_neg (by omega), if_neg (by unfold size; rw [if_neg hx1]; omega), he, hs, if_pos ⟨rfl, hr⟩, hlen]
    unfold size
    rw [if_neg hx1]
theorem bytes_le (u : Undo) : (bytes u).length ≤ 100 := by
  unfold bytes
  split
  · rename_i hr
    split
    · simp
    · rename_i h0
      have hks := KeyP.right_size u.key (right_key u h0 hr)
      have hkl : u.key.data.toList.length = u.key.size := by simp
      split
      · simp only [List.length_append, List.length_cons, List.length_nil, hkl, SlotP.bytes_length]; omega
      · simp only [List.length_append, List.length_cons, List.length_nil, hkl, BeP.parts_length]; omega
  · simp
end Go.Proofs.Ytjengjbkdflapaa.UndoP
namespace Go.Proofs.Ytjengjbkdflapaa.UndoW
open Go.RowKit
set_option linter.unusedVariables false
attribute [local go_sem ↓] al64_fold ld64_fold st64_fold bd64_fold sl64_fold cp_fold
theorem _root_.Go.Proofs.Ytjengjbkdflapaa.Rd.above {w w1 : World} {b g : Nat} {l : List UInt8} {bad : Bool} (h : Rd w b l bad) (hg : w.grownBy w1 (some g)) (hlt : b < g) : Rd w1 b l bad := by
  obtain ⟨A, n, c, hS, hy⟩ := h
  have hl := hS.lt
  exact ⟨A, n, c, hS.grown hg (by omega), hy.keep fun p hp => World.cell?_of_block (a := p) (hg.block p.block (by omega) (by intro e; injection e; omega))⟩
theorem key_le (l : List UInt8) : (SlotP.get l).1.key.size ≤ l.length := by
  unfold SlotP.get
  split
  · exact Nat.zero_le _
  · split
    · show ((l.drop 2).take _).length ≤ _
      simp
      omega
    · exact Nat.zero_le _

set_option maxRecDepth 100000 in
set_option maxHeartbeats 4000000 in
theorem get_1 (A : Option Addr) (n c B : Nat) (x : UInt8) (l : List UInt8) (w : World) (h : Bytes w B A n c (x :: l)) (hB : B ≤ w.heap.size) (hn : n ≤ 1000000) (hx : (x.toNat : Int) = 1) : Calls Try.prog 78 #[.slice A n c] w (GotUndo w (UndoP.get (x :: l))) := by
  have Hh := Lib.hid h
  have hln := h.len
  have HLN := Lib.hid hln
  clear h hln
  go_enter Try.func78, Try.ntmps78
  go_wp2_with fail
  generalize hW0 : (w).alloc (.cells #[.int .i64 0, .string ⟨#[]⟩, .int .i64 0, .string ⟨#[]⟩, .int .i64 0, .slice none 0 0, .int .i64 0, .int .i64 0, .int .i64 0, .int .i64 0] 79) = W0
  have HS0_0 : Hid (Str W0 (w.heap.size) #[.int .i64 0, .string ⟨#[]⟩, .int .i64 0, .string ⟨#[]⟩, .int .i64 0, .slice none 0 0, .int .i64 0, .int .i64 0, .int .i64 0, .int .i64 0]) := Lib.hid (by rw [← hW0]; have := Str.new (w) #[.int .i64 0, .string ⟨#[]⟩, .int .i64 0, .string ⟨#[]⟩, .int .i64 0, .slice none 0 0, .int .i64 0, .int .i64 0, .int .i64 0, .int .i64 0] 79; simpa using this)
  have HB_0 : Hid (Below w.heap.size w W0) := Lib.hid (by rw [← hW0]; exact balloc (bsame w) _)
  have hw_0 := HB_0.out.size
  clear hW0
  obtain ⟨f0_0_0, f0_0_1, f0_0_2, f0_0_3, f0_0_4, f0_0_5, f0_0_6, f0_0_7, f0_0_8, f0_0_9⟩ := str10 HS0_0.out
  have hl0_0 := HS0_0.out.lt
  have hf0_0 := fun j => HS0_0.out.frozen j
  refine (RdW.read_any A n c B (x :: l) _ (Hh.out.below (HB_0.out.mono hB)) (by omega) (by omega)).mono ?_
  rintro e W1 ⟨b, rfl, hbb, hR, hb1⟩
  have HS0_1 := Lib.hid (HS0_0.out.next hb1)
  have HB_1 := Lib.hid (bstep HB_0.out hb1)
  have hw_1 := HB_1.out.size
  have hws_1 := (hb1).size
  clear f0_0_0 f0_0_1 f0_0_2 f0_0_3 f0_0_4 f0_0_5 f0_0_6 f0_0_7 f0_0_8 f0_0_9 HS0_0 hf0_0
  clear hb1
  obtain ⟨f0_1_0, f0_1_1, f0_1_2, f0_1_3, f0_1_4, f0_1_5, f0_1_6, f0_1_7, f0_1_8, f0_1_9⟩ := str10 HS0_1.out
  have hl0_1 := HS0_1.out.lt
  have hf0_1 := fun j => HS0_1.out.frozen j
  have HR_1 := Lib.hid hR
  have hbl := hR.lt
  clear hR
  go_wp2_with fail
  refine (RdW.num_any b _ _ 1 _ HR_1.out (by omega) (by omega)).mono ?_
  rintro e W2 ⟨rfl, hR, hg⟩
  have HR_2 := Lib.hid hR
  clear HR_1 hR
  have HS0_2 := Lib.hid (HS0_1.out.grown hg (by omega))
  have HB_2 := Lib.hid (below_grown HB_1.out hg (by omega))
  have hw_2 := HB_2.out.size
  have hws_2 := (hg).size
  clear f0_1_0 f0_1_1 f0_1_2 f0_1_3 f0_1_4 f0_1_5 f0_1_6 f0_1_7 f0_1_8 f0_1_9 HS0_1 hf0_1
  clear hg
  obtain ⟨f0_2_0, f0_2_1, f0_2_2, f0_2_3, f0_2_4, f0_2_5, f0_2_6, f0_2_7, f0_2_8, f0_2_9⟩ := str10 HS0_2.out
  have hl0_2 := HS0_2.out.lt
  have hf0_2 := fun j => HS0_2.out.frozen j
  rw [(num1 x l).2.1, (num1 x l).2.2] at HR_2
  rw [(num1 x l).1, hx]
  go_wp2_with fail
  generalize hW3 : W2.alloc (.cells #[.int .i64 1, .string ⟨#[]⟩, .int .i64 0, .string ⟨#[]⟩, .int .i64 0, .slice none 0 0, .int .i64 0, .int .i64 0, .int .i64 0, .int .i64 0] 79) = W3
  have HS0_3 : Hid (Str W3 (w.heap.size) #[.int .i64 0, .string ⟨#[]⟩, .int .i64 0, .string ⟨#[]⟩, .int .i64 0, .slice none 0 0, .int .i64 0, .int .i64 0, .int .i64 0, .int .i64 0]) := Lib.hid (by rw [← hW3]; exact HS0_2.out.alloc _)
  have HS1_3 : Hid (Str W3 W2.heap.size #[.int .i64 1, .string ⟨#[]⟩, .int .i64 0, .string ⟨#[]⟩, .int .i64 0, .slice none 0 0, .int .i64 0, .int .i64 0, .int .i64 0, .int .i64 0]) := Lib.hid (by rw [← hW3]; exact Str.new W2 #[.int .i64 1, .string ⟨#[]⟩, .int .i64 0, .string ⟨#[]⟩, .int .i64 0, .slice none 0 0, .int .i64 0, .int .i64 0, .int .i64 0, .int .i64 0] 79)
  have hba3 : Below W2.heap.size W2 W3 := by rw [← hW3]; exact balloc (bsame _) _
  have HB_3 := Lib.hid (bstep HB_2.out hba3)
  have hw_3 := HB_3.out.size
  have hws_3 := hba3.size
  have HR_3 := Lib.hid (HR_2.out.below hba3)
  clear HR_2
  clear hW3
  clear f0_2_0 f0_2_1 f0_2_2 f0_2_3 f0_2_4 f0_2_5 f0_2_6 f0_2_7 f0_2_8 f0_2_9 HS0_2 hf0_2
  obtain ⟨f0_3_0, f0_3_1, f0_3_2, f0_3_3, f0_3_4, f0_3_5, f0_3_6, f0_3_7, f0_3_8, f0_3_9⟩ := str10 HS0_3.out
  have hl0_3 := HS0_3.out.lt
  have hf0_3 := fun j => HS0_3.out.frozen j
  obtain ⟨f1_3_0, f1_3_1, f1_3_2, f1_3_3, f1_3_4, f1_3_5, f1_3_6, f1_3_7, f1_3_8, f1_3_9⟩ := str10 HS1_3.out
  have hl1_3 := HS1_3.out.lt
  clear hba3
  refine (ok_rd HR_3.out).mono ?_
  rintro e w_ ⟨rfl, rfl⟩
  go_wp2_with fail
  refine (RdW.num_any b _ _ 1 _ HR_3.out (by omega) (by omega)).mono ?_
  rintro e W4 ⟨rfl, hR, hg⟩
  have HR_4 := Lib.hid hR
  clear HR_3 hR
  have HS0_4 := Lib.hid (HS0_3.out.grown hg (by omega))
  have HS1_4 := Lib.hid (HS1_3.out.grown hg (by omega))
  have HB_4 := Lib.hid (below_grown HB_3.out hg (by omega))
  have hw_4 := HB_4.out.size
  have hws_4 := (hg).size
  clear f0_3_0 f0_3_1 f0_3_2 f0_3_3 f0_3_4 f0_3_5 f0_3_6 f0_3_7 f0_3_8 f0_3_9 HS0_3 hf0_3 f1_3_0 f1_3_1 f1_3_2 f1_3_3 f1_3_4 f1_3_5 f1_3_6 f1_3_7 f1_3_8 f1_3_9 HS1_3
  clear hg
  obtain ⟨f0_4_0, f0_4_1, f0_4_2, f0_4_3, f0_4_4, f0_4_5, f0_4_6, f0_4_7, f0_4_8, f0_4_9⟩ := str10 HS0_4.out
  have hl0_4 := HS0_4.out.lt
  have hf0_4 := fun j => HS0_4.out.frozen j
  obtain ⟨f1_4_0, f1_4_1, f1_4_2, f1_4_3, f1_4_4, f1_4_5, f1_4_6, f1_4_7, f1_4_8, f1_4_9⟩ := str10 HS1_4.out
  have hl1_4 := HS1_4.out.lt
  rw [UndoP.numV_k1 l]
  have hk1 := UndoP.k1_le l
  go_wp2_with fail
  refine (RdW.bytes_any b (UndoP.L2 l) (UndoP.b2 l) (UndoP.k1 l) _ HR_4.out (by omega)).mono ?_
  rintro e W5 ⟨A5, n5, c5, rfl, hy5, hR, hg⟩
  have HR_5 := Lib.hid hR
  clear HR_4 hR
  have HS0_5 := Lib.hid (HS0_4.out.grown hg (by omega))
  have HS1_5 := Lib.hid (HS1_4.out.grown hg (by omega))
  have HB_5 := Lib.hid (below_grown HB_4.out hg (by omega))
  have hw_5 := HB_5.out.size
  have hws_5 := (hg).size
  clear f0_4_0 f0_4_1 f0_4_2 f0_4_3 f0_4_4 f0_4_5 f0_4_6 f0_4_7 f0_4_8 f0_4_9 HS0_4 hf0_4 f1_4_0 f1_4_1 f1_4_2 f1_4_3 f1_4_4 f1_4_5 f1_4_6 f1_4_7 f1_4_8 f1_4_9 HS1_4
  clear hg
  obtain ⟨f0_5_0, f0_5_1, f0_5_2, f0_5_3, f0_5_4, f0_5_5, f0_5_6, f0_5_7, f0_5_8, f0_5_9⟩ := str10 HS0_5.out
  have hl0_5 := HS0_5.out.lt
  have hf0_5 := fun j => HS0_5.out.frozen j
  obtain ⟨f1_5_0, f1_5_1, f1_5_2, f1_5_3, f1_5_4, f1_5_5, f1_5_6, f1_5_7, f1_5_8, f1_5_9⟩ := str10 HS1_5.out
  have hl1_5 := HS1_5.out.lt
  have hy6 : Bytes W5 W5.heap.size A5 n5 c5 (UndoP.K l) := hy5
  have hcv := run_str (P := Try.prog) 22 9 5 Try.underlying22 Try.underlying5 Try.underlying9 hy6
  have HKS : Hid ((strOf (UndoP.K l)).size ≤ maxLen) := Lib.hid (by show (UndoP.K l).length ≤ maxLen; rw [hy6.len]; exact Nat.le_trans hy6.2.1 hy6.2.2.1)
  clear hy5 hy6
  have hfu := fun j => HS1_5.out.frozen j
  have hal := fun W => run_al (P := Try.prog) arr64 W
  go_wp2_with fail
  generalize hW6 : (W5).setCell ⟨W2.heap.size, 1, none⟩ (.string (strOf (UndoP.K l))) = W6
  have HS0_6 : Hid (Str W6 (w.heap.size) #[.int .i64 0, .string ⟨#[]⟩, .int .i64 0, .string ⟨#[]⟩, .int .i64 0, .slice none 0 0, .int .i64 0, .int .i64 0, .int .i64 0, .int .i64 0]) := Lib.hid (by rw [← hW6]; exact (HS0_5.out).other 1 _ (by omega))
  have HS1_6 : Hid (Str W6 (W2.heap.size) #[.int .i64 1, .string (strOf (UndoP.K l)), .int .i64 0, .string ⟨#[]⟩, .int .i64 0, .slice none 0 0, .int .i64 0, .int .i64 0, .int .i64 0, .int .i64 0]) := Lib.hid (by rw [← hW6]; have := (HS1_5.out).set 1 (.string (strOf (UndoP.K l))); simpa using this)
  have hgr6 : W5.grownBy W6 (some (W2.heap.size)) := by rw [← hW6]; exact grown_set (grown_refl W5 (W2.heap.size)) 1 (.string (strOf (UndoP.K l)))
  have HB_6 := Lib.hid (below_grown HB_5.out hgr6 (by omega))
  have hw_6 := HB_6.out.size
  have hws_6 := hgr6.size
  have HR_6 := Lib.hid ((Rd.grown HR_5.out (Nat.le_refl _) HS1_5.out rfl hgr6 (by omega)))
  clear HR_5
  have hz6 : W6.heap.size = W5.heap.size := by rw [← hW6]; simp
  clear hW6
  clear f0_5_0 f0_5_1 f0_5_2 f0_5_3 f0_5_4 f0_5_5 f0_5_6 f0_5_7 f0_5_8 f0_5_9 HS0_5 hf0_5 f1_5_0 f1_5_1 f1_5_2 f1_5_3 f1_5_4 f1_5_5 f1_5_6 f1_5_7 f1_5_8 f1_5_9 HS1_5
  clear hgr6
  obtain ⟨f0_6_0, f0_6_1, f0_6_2, f0_6_3, f0_6_4, f0_6_5, f0_6_6, f0_6_7, f0_6_8, f0_6_9⟩ := str10 HS0_6.out
  have hl0_6 := HS0_6.out.lt
  have hf0_6 := fun j => HS0_6.out.frozen j
  obtain ⟨f1_6_0, f1_6_1, f1_6_2, f1_6_3, f1_6_4, f1_6_5, f1_6_6, f1_6_7, f1_6_8, f1_6_9⟩ := str10 HS1_6.out
  have hl1_6 := HS1_6.out.lt
  clear hcv hfu
  generalize hW7 : W6.alloc (.cells (rowV (SlotP.zeros 64)) 41) = W7
  have HS0_7 : Hid (Str W7 (w.heap.size) #[.int .i64 0, .string ⟨#[]⟩, .int .i64 0, .string ⟨#[]⟩, .int .i64 0, .slice none 0 0, .int .i64 0, .int .i64 0, .int .i64 0, .int .i64 0]) := Lib.hid (by rw [← hW7]; exact HS0_6.out.alloc _)
  have HS1_7 : Hid (Str W7 (W2.heap.size) #[.int .i64 1, .string (strOf (UndoP.K l)), .int .i64 0, .string ⟨#[]⟩, .int .i64 0, .slice none 0 0, .int .i64 0, .int .i64 0, .int .i64 0, .int .i64 0]) := Lib.hid (by rw [← hW7]; exact HS1_6.out.alloc _)
  have HS2_7 : Hid (Str W7 W6.heap.size (rowV (SlotP.zeros 64))) := Lib.hid (by rw [← hW7]; exact Str.new W6 (rowV (SlotP.zeros 64)) 41)
  have hba7 : Below W6.heap.size W6 W7 := by rw [← hW7]; exact balloc (bsame _) _
  have HB_7 := Lib.hid (bstep HB_6.out hba7)
  have hw_7 := HB_7.out.size
  have hws_7 := hba7.size
  have HR_7 := Lib.hid (HR_6.out.below hba7)
  clear HR_6
  clear hW7
  clear f0_6_0 f0_6_1 f0_6_2 f0_6_3 f0_6_4 f0_6_5 f0_6_6 f0_6_7 f0_6_8 f0_6_9 HS0_6 hf0_6 f1_6_0 f1_6_1 f1_6_2 f1_6_3 f1_6_4 f1_6_5 f1_6_6 f1_6_7 f1_6_8 f1_6_9 HS1_6
  obtain ⟨f0_7_0, f0_7_1, f0_7_2, f0_7_3, f0_7_4, f0_7_5, f0_7_6, f0_7_7, f0_7_8, f0_7_9⟩ := str10 HS0_7.out
  have hl0_7 := HS0_7.out.lt
  have hf0_7 := fun j => HS0_7.out.frozen j
  obtain ⟨f1_7_0, f1_7_1, f1_7_2, f1_7_3, f1_7_4, f1_7_5, f1_7_6, f1_7_7, f1_7_8, f1_7_9⟩ := str10 HS1_7.out
  have hl1_7 := HS1_7.out.lt
  have hl2_7 := HS2_7.out.lt
  clear hba7 hal
  rw [hz6] at HS2_7 hl2_7
  have hR : Rd W7 b (UndoP.L3 l) (UndoP.b3 l) := HR_7.out
  clear HR_7
  have HR_7 := Lib.hid hR
  clear hR
  have hsl := fun W => run_sl_all (P := Try.prog) arr64 W5.heap.size W
  have HRD : Hid (∀ m, Rd (W7.drewN m) b (UndoP.L3 l) (UndoP.b3 l)) := Lib.hid (fun _ => HR_7.out)
  have HZ : Hid ((SlotP.zeros 64).length = 64) := Lib.hid (SlotPut.zeros_len 64)
  go_region_with (go_at_call 113; refine (RdW.bytes_any b (UndoP.L3 l) (UndoP.b3 l) 64 _ (by first | exact HR_7.out | exact HRD.out _) (by omega)).mono ?_; rintro e W8 ⟨A7, n7, c7, rfl, hy7, hR, hg⟩; have hg' : W7.grownBy W8 (some b) := ⟨hg.os, hg.tape, hg.output, hg.size, hg.block⟩; obtain ⟨W9, hcp, hV9, hg9⟩ := copy_bytes (P := Try.prog) 22 22 3 5 Try.underlying22 Be.sizeU8 (dLen := 64) (dCap := 64) (off := 0) (HS2_7.out.grown hg' (by omega)) hy7 (by rw [HZ.out]; omega))
  all_goals
    clear hcp hg hsl HRD
    have HR8 := Lib.hid hR
    clear HR_7 hR
    have HS0_8 := Lib.hid (HS0_7.out.grown hg' (by omega))
    have HS1_8 := Lib.hid (HS1_7.out.grown hg' (by omega))
    have HS2_8 := Lib.hid (HS2_7.out.grown hg' (by omega))
    have HB_8 := Lib.hid (below_grown HB_7.out hg' (by omega))
    have hw_8 := HB_8.out.size
    have hws_8 := (hg').size
    clear f0_7_0 f0_7_1 f0_7_2 f0_7_3 f0_7_4 f0_7_5 f0_7_6 f0_7_7 f0_7_8 f0_7_9 HS0_7 hf0_7 f1_7_0 f1_7_1 f1_7_2 f1_7_3 f1_7_4 f1_7_5 f1_7_6 f1_7_7 f1_7_8 f1_7_9 HS1_7 HS2_7
    clear hg'
    obtain ⟨f0_8_0, f0_8_1, f0_8_2, f0_8_3, f0_8_4, f0_8_5, f0_8_6, f0_8_7, f0_8_8, f0_8_9⟩ := str10 HS0_8.out
    have hl0_8 := HS0_8.out.lt
    have hf0_8 := fun j => HS0_8.out.frozen j
    obtain ⟨f1_8_0, f1_8_1, f1_8_2, f1_8_3, f1_8_4, f1_8_5, f1_8_6, f1_8_7, f1_8_8, f1_8_9⟩ := str10 HS1_8.out
    have hl1_8 := HS1_8.out.lt
    have hl2_8 := HS2_8.out.lt
    have hV : Str W9 W5.heap.size (rowV (UndoP.raw l)) := by
      have h9 : (UndoP.S5 l).take 64 = UndoP.S5 l := List.take_of_length_le (UndoP.S5_le l)
      have h8 := hV9
      rw [show RdP.th (UndoP.L3 l) (UndoP.b3 l) 64 = UndoP.S5 l from rfl, h9] at h8
      exact h8
    clear hV9 hy7
    have HS0_9 := Lib.hid (HS0_8.out.grown hg9 (by omega))
    have HS1_9 := Lib.hid (HS1_8.out.grown hg9 (by omega))
    have HS2_9 := Lib.hid hV
    have HB_9 := Lib.hid (below_grown HB_8.out hg9 (by omega))
    have hw_9 := HB_9.out.size
    have hws_9 := hg9.size
    have hRR : Rd W9 b (UndoP.L5 l) (UndoP.b5 l) := HR8.out.above hg9 (by omega)
    have HR_9 := Lib.hid hRR
    clear HR8 hRR hV hg9
    clear f0_8_0 f0_8_1 f0_8_2 f0_8_3 f0_8_4 f0_8_5 f0_8_6 f0_8_7 f0_8_8 f0_8_9 HS0_8 hf0_8 f1_8_0 f1_8_1 f1_8_2 f1_8_3 f1_8_4 f1_8_5 f1_8_6 f1_8_7 f1_8_8 f1_8_9 HS1_8 HS2_8
    obtain ⟨f0_9_0, f0_9_1, f0_9_2, f0_9_3, f0_9_4, f0_9_5, f0_9_6, f0_9_7, f0_9_8, f0_9_9⟩ := str10 HS0_9.out
    have hl0_9 := HS0_9.out.lt
    have hf0_9 := fun j => HS0_9.out.frozen j
    obtain ⟨f1_9_0, f1_9_1, f1_9_2, f1_9_3, f1_9_4, f1_9_5, f1_9_6, f1_9_7, f1_9_8, f1_9_9⟩ := str10 HS1_9.out
    have hl1_9 := HS1_9.out.lt
    have hl2_9 := HS2_9.out.lt
    have HLR := Lib.hid (UndoP.raw_length l)
    have hld := run_ld (P := Try.prog) arr64 HS2_9.out HLR.out
    go_wp2_with fail
    have HGI := Lib.hid (fun W => SlotGet.get_any (UndoP.raw l) HLR.out W)
    have HU5 : Hid (UndoP.U5 l = ⟨1, SlotP.text (UndoP.K l), (SlotP.get (UndoP.raw l)).1, 0⟩) := Lib.hid rfl
    generalize hrr : SlotP.get (UndoP.raw l) = r at HGI HU5
    have HRR := Lib.hid hrr
    clear hrr
    obtain ⟨⟨rs, rk, rkind, rdata, rlo, rhi, rval⟩, er⟩ := r
    refine (HGI.out _).mono ?_
    rintro e W10 ⟨A10, n10, c10, rfl, hy10, hb10⟩
    dsimp only at *
    clear hld HGI
    have HS0_10 := Lib.hid (HS0_9.out.next hb10)
    have HS1_10 := Lib.hid (HS1_9.out.next hb10)
    have HS2_10 := Lib.hid (HS2_9.out.next hb10)
    have HB_10 := Lib.hid (bstep HB_9.out hb10)
    have hw_10 := HB_10.out.size
    have hws_10 := (hb10).size
    have HR_10 := Lib.hid (HR_9.out.below hb10)
    clear HR_9
    clear f0_9_0 f0_9_1 f0_9_2 f0_9_3 f0_9_4 f0_9_5 f0_9_6 f0_9_7 f0_9_8 f0_9_9 HS0_9 hf0_9 f1_9_0 f1_9_1 f1_9_2 f1_9_3 f1_9_4 f1_9_5 f1_9_6 f1_9_7 f1_9_8 f1_9_9 HS1_9 HS2_9
    clear hb10
    obtain ⟨f0_10_0, f0_10_1, f0_10_2, f0_10_3, f0_10_4, f0_10_5, f0_10_6, f0_10_7, f0_10_8, f0_10_9⟩ := str10 HS0_10.out
    have hl0_10 := HS0_10.out.lt
    have hf0_10 := fun j => HS0_10.out.frozen j
    obtain ⟨f1_10_0, f1_10_1, f1_10_2, f1_10_3, f1_10_4, f1_10_5, f1_10_6, f1_10_7, f1_10_8, f1_10_9⟩ := str10 HS1_10.out
    have hl1_10 := HS1_10.out.lt
    have hl2_10 := HS2_10.out.lt
    have HYz_10 := Lib.hid (hy10)
    clear hy10
    have hfu := fun j => HS1_10.out.frozen j
    go_wp2_with fail
    have hrk : rk.size ≤ maxLen := by have h1 := key_le (UndoP.raw l); rw [HRR.out, HLR.out] at h1; exact Nat.le_trans h1 (by decide)
    generalize hW11 : (((((((W10).setCell ⟨W2.heap.size, 2, none⟩ (.int .i64 rs)).setCell ⟨W2.heap.size, 3, none⟩ (.string rk)).setCell ⟨W2.heap.size, 4, none⟩ (.int .i64 rkind)).setCell ⟨W2.heap.size, 5, none⟩ (.slice A10 n10 c10)).setCell ⟨W2.heap.size, 6, none⟩ (.int .i64 rlo)).setCell ⟨W2.heap.size, 7, none⟩ (.int .i64 rhi)).setCell ⟨W2.heap.size, 8, none⟩ (.int .i64 rval) = W11
    have HS0_11 : Hid (Str W11 (w.heap.size) #[.int .i64 0, .string ⟨#[]⟩, .int .i64 0, .string ⟨#[]⟩, .int .i64 0, .slice none 0 0, .int .i64 0, .int .i64 0, .int .i64 0, .int .i64 0]) := Lib.hid (by rw [← hW11]; exact (((((((HS0_10.out).other 2 _ (by omega)).other 3 _ (by omega)).other 4 _ (by omega)).other 5 _ (by omega)).other 6 _ (by omega)).other 7 _ (by omega)).other 8 _ (by omega))
    have HS1_11 : Hid (Str W11 (W2.heap.size) #[.int .i64 1, .string (strOf (UndoP.K l)), .int .i64 rs, .string rk, .int .i64 rkind, .slice A10 n10 c10, .int .i64 rlo, .int .i64 rhi, .int .i64 rval, .int .i64 0]) := Lib.hid (by rw [← hW11]; have := (((((((HS1_10.out).set 2 (.int .i64 rs)).set 3 (.string rk)).set 4 (.int .i64 rkind)).set 5 (.slice A10 n10 c10)).set 6 (.int .i64 rlo)).set 7 (.int .i64 rhi)).set 8 (.int .i64 rval); simpa using this)
    have HS2_11 : Hid (Str W11 (W5.heap.size) (rowV (UndoP.raw l))) := Lib.hid (by rw [← hW11]; exact (((((((HS2_10.out).other 2 _ (by omega)).other 3 _ (by omega)).other 4 _ (by omega)).other 5 _ (by omega)).other 6 _ (by omega)).other 7 _ (by omega)).other 8 _ (by omega))
    have hgr11 : W10.grownBy W11 (some (W2.heap.size)) := by rw [← hW11]; exact grown_set (grown_set (grown_set (grown_set (grown_set (grown_set (grown_set (grown_refl W10 (W2.heap.size)) 2 (.int .i64 rs)) 3 (.string rk)) 4 (.int .i64 rkind)) 5 (.slice A10 n10 c10)) 6 (.int .i64 rlo)) 7 (.int .i64 rhi)) 8 (.int .i64 rval)
    have HB_11 := Lib.hid (below_grown HB_10.out hgr11 (by omega))
    have hw_11 := HB_11.out.size
    have hws_11 := hgr11.size
    have HYz_11 := Lib.hid ((Bytes.grown HYz_10.out (Nat.le_refl _) HS1_10.out rfl hgr11).more hws_11)
    clear HYz_10
    have HR_11 := Lib.hid ((Rd.grown HR_10.out (Nat.le_refl _) HS1_10.out rfl hgr11 (by omega)))
    clear HR_10
    clear hW11
    clear f0_10_0 f0_10_1 f0_10_2 f0_10_3 f0_10_4 f0_10_5 f0_10_6 f0_10_7 f0_10_8 f0_10_9 HS0_10 hf0_10 f1_10_0 f1_10_1 f1_10_2 f1_10_3 f1_10_4 f1_10_5 f1_10_6 f1_10_7 f1_10_8 f1_10_9 HS1_10 HS2_10
    clear hgr11
    obtain ⟨f0_11_0, f0_11_1, f0_11_2, f0_11_3, f0_11_4, f0_11_5, f0_11_6, f0_11_7, f0_11_8, f0_11_9⟩ := str10 HS0_11.out
    have hl0_11 := HS0_11.out.lt
    have hf0_11 := fun j => HS0_11.out.frozen j
    obtain ⟨f1_11_0, f1_11_1, f1_11_2, f1_11_3, f1_11_4, f1_11_5, f1_11_6, f1_11_7, f1_11_8, f1_11_9⟩ := str10 HS1_11.out
    have hl1_11 := HS1_11.out.lt
    have hl2_11 := HS2_11.out.lt
    clear hfu
    generalize hW12 : W11.alloc (.cells #[.int .i64 rs, .string rk, .int .i64 rkind, .slice A10 n10 c10, .int .i64 rlo, .int .i64 rhi, .int .i64 rval] 38) = W12
    have HS0_12 : Hid (Str W12 (w.heap.size) #[.int .i64 0, .string ⟨#[]⟩, .int .i64 0, .string ⟨#[]⟩, .int .i64 0, .slice none 0 0, .int .i64 0, .int .i64 0, .int .i64 0, .int .i64 0]) := Lib.hid (by rw [← hW12]; exact HS0_11.out.alloc _)
    have HS1_12 : Hid (Str W12 (W2.heap.size) #[.int .i64 1, .string (strOf (UndoP.K l)), .int .i64 rs, .string rk, .int .i64 rkind, .slice A10 n10 c10, .int .i64 rlo, .int .i64 rhi, .int .i64 rval, .int .i64 0]) := Lib.hid (by rw [← hW12]; exact HS1_11.out.alloc _)
    have HS2_12 : Hid (Str W12 (W5.heap.size) (rowV (UndoP.raw l))) := Lib.hid (by rw [← hW12]; exact HS2_11.out.alloc _)
    have HS3_12 : Hid (Str W12 W11.heap.size #[.int .i64 rs, .string rk, .int .i64 rkind, .slice A10 n10 c10, .int .i64 rlo, .int .i64 rhi, .int .i64 rval]) := Lib.hid (by rw [← hW12]; exact Str.new W11 #[.int .i64 rs, .string rk, .int .i64 rkind, .slice A10 n10 c10, .int .i64 rlo, .int .i64 rhi, .int .i64 rval] 38)
    have hba12 : Below W11.heap.size W11 W12 := by rw [← hW12]; exact balloc (bsame _) _
    have HB_12 := Lib.hid (bstep HB_11.out hba12)
    have hw_12 := HB_12.out.size
    have hws_12 := hba12.size
    have HYz_12 := Lib.hid (HYz_11.out.next hba12)
    clear HYz_11
    have HR_12 := Lib.hid (HR_11.out.below hba12)
    clear HR_11
    clear hW12
    clear f0_11_0 f0_11_1 f0_11_2 f0_11_3 f0_11_4 f0_11_5 f0_11_6 f0_11_7 f0_11_8 f0_11_9 HS0_11 hf0_11 f1_11_0 f1_11_1 f1_11_2 f1_11_3 f1_11_4 f1_11_5 f1_11_6 f1_11_7 f1_11_8 f1_11_9 HS1_11 HS2_11
    obtain ⟨f0_12_0, f0_12_1, f0_12_2, f0_12_3, f0_12_4, f0_12_5, f0_12_6, f0_12_7, f0_12_8, f0_12_9⟩ := str10 HS0_12.out
    have hl0_12 := HS0_12.out.lt
    have hf0_12 := fun j => HS0_12.out.frozen j
    obtain ⟨f1_12_0, f1_12_1, f1_12_2, f1_12_3, f1_12_4, f1_12_5, f1_12_6, f1_12_7, f1_12_8, f1_12_9⟩ := str10 HS1_12.out
    have hl1_12 := HS1_12.out.lt
    have hl2_12 := HS2_12.out.lt
    obtain ⟨f3_12_0, f3_12_1, f3_12_2, f3_12_3, f3_12_4, f3_12_5, f3_12_6⟩ := str7 HS3_12.out
    have hl3_12 := HS3_12.out.lt
    clear hba12
    refine (ok_rd HR_12.out).mono ?_
    rintro e w_ ⟨rfl, rfl⟩
    cases hb5 : UndoP.b5 l
    case true =>
      have HE : Hid (UndoP.get (x :: l) = (UndoP.none, 0, 13)) := Lib.hid (UndoP.get_short5 x l (by omega) hb5)
      clear HR_12
      go_wp2_with fail
      generalize hW13 : ((((((((((W12).setCell ⟨w.heap.size, 0, none⟩ (.int .i64 0)).setCell ⟨w.heap.size, 1, none⟩ (.string ⟨#[]⟩)).setCell ⟨w.heap.size, 2, none⟩ (.int .i64 0)).setCell ⟨w.heap.size, 3, none⟩ (.string ⟨#[]⟩)).setCell ⟨w.heap.size, 4, none⟩ (.int .i64 0)).setCell ⟨w.heap.size, 5, none⟩ (.slice none 0 0)).setCell ⟨w.heap.size, 6, none⟩ (.int .i64 0)).setCell ⟨w.heap.size, 7, none⟩ (.int .i64 0)).setCell ⟨w.heap.size, 8, none⟩ (.int .i64 0)).setCell ⟨w.heap.size, 9, none⟩ (.int .i64 0) = W13
      have HS0_13 : Hid (Str W13 (w.heap.size) #[.int .i64 0, .string ⟨#[]⟩, .int .i64 0, .string ⟨#[]⟩, .int .i64 0, .slice none 0 0, .int .i64 0, .int .i64 0, .int .i64 0, .int .i64 0]) := Lib.hid (by rw [← hW13]; have := ((((((((((HS0_12.out).set 0 (.int .i64 0)).set 1 (.string ⟨#[]⟩)).set 2 (.int .i64 0)).set 3 (.string ⟨#[]⟩)).set 4 (.int .i64 0)).set 5 (.slice none 0 0)).set 6 (.int .i64 0)).set 7 (.int .i64 0)).set 8 (.int .i64 0)).set 9 (.int .i64 0); simpa using this)
      have HS1_13 : Hid (Str W13 (W2.heap.size) #[.int .i64 1, .string (strOf (UndoP.K l)), .int .i64 rs, .string rk, .int .i64 rkind, .slice A10 n10 c10, .int .i64 rlo, .int .i64 rhi, .int .i64 rval, .int .i64 0]) := Lib.hid (by rw [← hW13]; exact ((((((((((HS1_12.out).other 0 _ (by omega)).other 1 _ (by omega)).other 2 _ (by omega)).other 3 _ (by omega)).other 4 _ (by omega)).other 5 _ (by omega)).other 6 _ (by omega)).other 7 _ (by omega)).other 8 _ (by omega)).other 9 _ (by omega))
      have HS2_13 : Hid (Str W13 (W5.heap.size) (rowV (UndoP.raw l))) := Lib.hid (by rw [← hW13]; exact ((((((((((HS2_12.out).other 0 _ (by omega)).other 1 _ (by omega)).other 2 _ (by omega)).other 3 _ (by omega)).other 4 _ (by omega)).other 5 _ (by omega)).other 6 _ (by omega)).other 7 _ (by omega)).other 8 _ (by omega)).other 9 _ (by omega))
      have HS3_13 : Hid (Str W13 (W11.heap.size) #[.int .i64 rs, .string rk, .int .i64 rkind, .slice A10 n10 c10, .int .i64 rlo, .int .i64 rhi, .int .i64 rval]) := Lib.hid (by rw [← hW13]; exact ((((((((((HS3_12.out).other 0 _ (by omega)).other 1 _ (by omega)).other 2 _ (by omega)).other 3 _ (by omega)).other 4 _ (by omega)).other 5 _ (by omega)).other 6 _ (by omega)).other 7 _ (by omega)).other 8 _ (by omega)).other 9 _ (by omega))
      have hgr13 : W12.grownBy W13 (some (w.heap.size)) := by rw [← hW13]; exact grown_set (grown_set (grown_set (grown_set (grown_set (grown_set (grown_set (grown_set (grown_set (grown_set (grown_refl W12 (w.heap.size)) 0 (.int .i64 0)) 1 (.string ⟨#[]⟩)) 2 (.int .i64 0)) 3 (.string ⟨#[]⟩)) 4 (.int .i64 0)) 5 (.slice none 0 0)) 6 (.int .i64 0)) 7 (.int .i64 0)) 8 (.int .i64 0)) 9 (.int .i64 0)
      have HB_13 := Lib.hid (below_grown HB_12.out hgr13 (by omega))
      have hw_13 := HB_13.out.size
      have hws_13 := hgr13.size
      have HYz_13 := Lib.hid ((Bytes.grown HYz_12.out (Nat.le_refl _) HS0_12.out rfl hgr13).more hws_13)
      clear HYz_12
      clear hW13
      clear f0_12_0 f0_12_1 f0_12_2 f0_12_3 f0_12_4 f0_12_5 f0_12_6 f0_12_7 f0_12_8 f0_12_9 HS0_12 hf0_12 f1_12_0 f1_12_1 f1_12_2 f1_12_3 f1_12_4 f1_12_5 f1_12_6 f1_12_7 f1_12_8 f1_12_9 HS1_12 HS2_12 f3_12_0 f3_12_1 f3_12_2 f3_12_3 f3_12_4 f3_12_5 f3_12_6 HS3_12
      clear hgr13
      obtain ⟨f0_13_0, f0_13_1, f0_13_2, f0_13_3, f0_13_4, f0_13_5, f0_13_6, f0_13_7, f0_13_8, f0_13_9⟩ := str10 HS0_13.out
      have hl0_13 := HS0_13.out.lt
      have hf0_13 := fun j => HS0_13.out.frozen j
      obtain ⟨f1_13_0, f1_13_1, f1_13_2, f1_13_3, f1_13_4, f1_13_5, f1_13_6, f1_13_7, f1_13_8, f1_13_9⟩ := str10 HS1_13.out
      have hl1_13 := HS1_13.out.lt
      have hl2_13 := HS2_13.out.lt
      obtain ⟨f3_13_0, f3_13_1, f3_13_2, f3_13_3, f3_13_4, f3_13_5, f3_13_6⟩ := str7 HS3_13.out
      have hl3_13 := HS3_13.out.lt
      refine bodyPost_ret (v := .tuple #[.agg #[.int .i64 0, .string ⟨#[]⟩, .int .i64 0, .string ⟨#[]⟩, .int .i64 0, .slice none 0 0, .int .i64 0, .int .i64 0, .int .i64 0, .int .i64 0], .int .i64 0, .int .i64 13]) (by simp [results, Try.results78, go_sem, *]) rfl ?_
      rw [HE.out]
      exact ⟨none, 0, 0, rfl, Bytes.none_ _ _, HB_13.out⟩
    have HG5 := Lib.hid (UndoP.get_full5 x l (by omega) hb5)
    rw [HRR.out] at HG5
    rw [hb5] at HR_12
    clear hb5
    by_cases her : er = 0
    case neg =>
      have HE : Hid (UndoP.get (x :: l) = (UndoP.none, 0, 12)) := Lib.hid (by rw [HG5.out, if_neg (fun h => her h.1)])
      clear HR_12
      have her2 : (er == 0) = false := by simpa using her
      go_wp2_with fail
      generalize hW13 : ((((((((((W12).setCell ⟨w.heap.size, 0, none⟩ (.int .i64 0)).setCell ⟨w.heap.size, 1, none⟩ (.string ⟨#[]⟩)).setCell ⟨w.heap.size, 2, none⟩ (.int .i64 0)).setCell ⟨w.heap.size, 3, none⟩ (.string ⟨#[]⟩)).setCell ⟨w.heap.size, 4, none⟩ (.int .i64 0)).setCell ⟨w.heap.size, 5, none⟩ (.slice none 0 0)).setCell ⟨w.heap.size, 6, none⟩ (.int .i64 0)).setCell ⟨w.heap.size, 7, none⟩ (.int .i64 0)).setCell ⟨w.heap.size, 8, none⟩ (.int .i64 0)).setCell ⟨w.heap.size, 9, none⟩ (.int .i64 0) = W13
      have HS0_13 : Hid (Str W13 (w.heap.size) #[.int .i64 0, .string ⟨#[]⟩, .int .i64 0, .string ⟨#[]⟩, .int .i64 0, .slice none 0 0, .int .i64 0, .int .i64 0, .int .i64 0, .int .i64 0]) := Lib.hid (by rw [← hW13]; have := ((((((((((HS0_12.out).set 0 (.int .i64 0)).set 1 (.string ⟨#[]⟩)).set 2 (.int .i64 0)).set 3 (.string ⟨#[]⟩)).set 4 (.int .i64 0)).set 5 (.slice none 0 0)).set 6 (.int .i64 0)).set 7 (.int .i64 0)).set 8 (.int .i64 0)).set 9 (.int .i64 0); simpa using this)
      have HS1_13 : Hid (Str W13 (W2.heap.size) #[.int .i64 1, .string (strOf (UndoP.K l)), .int .i64 rs, .string rk, .int .i64 rkind, .slice A10 n10 c10, .int .i64 rlo, .int .i64 rhi, .int .i64 rval, .int .i64 0]) := Lib.hid (by rw [← hW13]; exact ((((((((((HS1_12.out).other 0 _ (by omega)).other 1 _ (by omega)).other 2 _ (by omega)).other 3 _ (by omega)).other 4 _ (by omega)).other 5 _ (by omega)).other 6 _ (by omega)).other 7 _ (by omega)).other 8 _ (by omega)).other 9 _ (by omega))
      have HS2_13 : Hid (Str W13 (W5.heap.size) (rowV (UndoP.raw l))) := Lib.hid (by rw [← hW13]; exact ((((((((((HS2_12.out).other 0 _ (by omega)).other 1 _ (by omega)).other 2 _ (by omega)).other 3 _ (by omega)).other 4 _ (by omega)).other 5 _ (by omega)).other 6 _ (by omega)).other 7 _ (by omega)).other 8 _ (by omega)).other 9 _ (by omega))
      have HS3_13 : Hid (Str W13 (W11.heap.size) #[.int .i64 rs, .string rk, .int .i64 rkind, .slice A10 n10 c10, .int .i64 rlo, .int .i64 rhi, .int .i64 rval]) := Lib.hid (by rw [← hW13]; exact ((((((((((HS3_12.out).other 0 _ (by omega)).other 1 _ (by omega)).other 2 _ (by omega)).other 3 _ (by omega)).other 4 _ (by omega)).other 5 _ (by omega)).other 6 _ (by omega)).other 7 _ (by omega)).other 8 _ (by omega)).other 9 _ (by omega))
      have hgr13 : W12.grownBy W13 (some (w.heap.size)) := by rw [← hW13]; exact grown_set (grown_set (grown_set (grown_set (grown_set (grown_set (grown_set (grown_set (grown_set (grown_set (grown_refl W12 (w.heap.size)) 0 (.int .i64 0)) 1 (.string ⟨#[]⟩)) 2 (.int .i64 0)) 3 (.string ⟨#[]⟩)) 4 (.int .i64 0)) 5 (.slice none 0 0)) 6 (.int .i64 0)) 7 (.int .i64 0)) 8 (.int .i64 0)) 9 (.int .i64 0)
      have HB_13 := Lib.hid (below_grown HB_12.out hgr13 (by omega))
      have hw_13 := HB_13.out.size
      have hws_13 := hgr13.size
      have HYz_13 := Lib.hid ((Bytes.grown HYz_12.out (Nat.le_refl _) HS0_12.out rfl hgr13).more hws_13)
      clear HYz_12
      clear hW13
      clear f0_12_0 f0_12_1 f0_12_2 f0_12_3 f0_12_4 f0_12_5 f0_12_6 f0_12_7 f0_12_8 f0_12_9 HS0_12 hf0_12 f1_12_0 f1_12_1 f1_12_2 f1_12_3 f1_12_4 f1_12_5 f1_12_6 f1_12_7 f1_12_8 f1_12_9 HS1_12 HS2_12 f3_12_0 f3_12_1 f3_12_2 f3_12_3 f3_12_4 f3_12_5 f3_12_6 HS3_12
      clear hgr13
      obtain ⟨f0_13_0, f0_13_1, f0_13_2, f0_13_3, f0_13_4, f0_13_5, f0_13_6, f0_13_7, f0_13_8, f0_13_9⟩ := str10 HS0_13.out
      have hl0_13 := HS0_13.out.lt
      have hf0_13 := fun j => HS0_13.out.frozen j
      obtain ⟨f1_13_0, f1_13_1, f1_13_2, f1_13_3, f1_13_4, f1_13_5, f1_13_6, f1_13_7, f1_13_8, f1_13_9⟩ := str10 HS1_13.out
      have hl1_13 := HS1_13.out.lt
      have hl2_13 := HS2_13.out.lt
      obtain ⟨f3_13_0, f3_13_1, f3_13_2, f3_13_3, f3_13_4, f3_13_5, f3_13_6⟩ := str7 HS3_13.out
      have hl3_13 := HS3_13.out.lt
      refine bodyPost_ret (v := .tuple #[.agg #[.int .i64 0, .string ⟨#[]⟩, .int .i64 0, .string ⟨#[]⟩, .int .i64 0, .slice none 0 0, .int .i64 0, .int .i64 0, .int .i64 0, .int .i64 0], .int .i64 0, .int .i64 12]) (by simp [results, Try.results78, go_sem, *]) rfl ?_
      rw [HE.out]
      exact ⟨none, 0, 0, rfl, Bytes.none_ _ _, HB_13.out⟩
    subst her
    go_wp2_with fail
    refine (check_any 1 (strOf (UndoP.K l)) A10 n10 c10 W12.heap.size rs rk rkind rdata rlo rhi rval 0 _ HYz_12.out (Nat.le_refl _) hrk HKS.out).mono ?_
    rintro e W13 ⟨rfl, hb13⟩
    rw [show UndoP.right ⟨1, strOf (UndoP.K l), ⟨rs, rk, ⟨rkind, rdata, rlo, rhi, rval⟩⟩, 0⟩ = UndoP.right (UndoP.U5 l) from by rw [HU5.out]; rfl]
    have HS0_13 := Lib.hid (HS0_12.out.next hb13)
    have HS1_13 := Lib.hid (HS1_12.out.next hb13)
    have HS2_13 := Lib.hid (HS2_12.out.next hb13)
    have HS3_13 := Lib.hid (HS3_12.out.next hb13)
    have HB_13 := Lib.hid (bstep HB_12.out hb13)
    have hw_13 := HB_13.out.size
    have hws_13 := (hb13).size
    have HYz_13 := Lib.hid (HYz_12.out.next hb13)
    clear HYz_12
    have HR_13 := Lib.hid (HR_12.out.below hb13)
    clear HR_12
    clear f0_12_0 f0_12_1 f0_12_2 f0_12_3 f0_12_4 f0_12_5 f0_12_6 f0_12_7 f0_12_8 f0_12_9 HS0_12 hf0_12 f1_12_0 f1_12_1 f1_12_2 f1_12_3 f1_12_4 f1_12_5 f1_12_6 f1_12_7 f1_12_8 f1_12_9 HS1_12 HS2_12 f3_12_0 f3_12_1 f3_12_2 f3_12_3 f3_12_4 f3_12_5 f3_12_6 HS3_12
    clear hb13
    obtain ⟨f0_13_0, f0_13_1, f0_13_2, f0_13_3, f0_13_4, f0_13_5, f0_13_6, f0_13_7, f0_13_8, f0_13_9⟩ := str10 HS0_13.out
    have hl0_13 := HS0_13.out.lt
    have hf0_13 := fun j => HS0_13.out.frozen j
    obtain ⟨f1_13_0, f1_13_1, f1_13_2, f1_13_3, f1_13_4, f1_13_5, f1_13_6, f1_13_7, f1_13_8, f1_13_9⟩ := str10 HS1_13.out
    have hl1_13 := HS1_13.out.lt
    have hl2_13 := HS2_13.out.lt
    obtain ⟨f3_13_0, f3_13_1, f3_13_2, f3_13_3, f3_13_4, f3_13_5, f3_13_6⟩ := str7 HS3_13.out
    have hl3_13 := HS3_13.out.lt
    cases hr : UndoP.right (UndoP.U5 l)
    case false =>
      have HE : Hid (UndoP.get (x :: l) = (UndoP.none, 0, 12)) := Lib.hid (by rw [HG5.out, if_neg (by rw [hr]; simp)])
      rw [show CellP.code false = 1 from rfl]
      clear HR_13
      go_wp2_with fail
      generalize hW14 : ((((((((((W13).setCell ⟨w.heap.size, 0, none⟩ (.int .i64 0)).setCell ⟨w.heap.size, 1, none⟩ (.string ⟨#[]⟩)).setCell ⟨w.heap.size, 2, none⟩ (.int .i64 0)).setCell ⟨w.heap.size, 3, none⟩ (.string ⟨#[]⟩)).setCell ⟨w.heap.size, 4, none⟩ (.int .i64 0)).setCell ⟨w.heap.size, 5, none⟩ (.slice none 0 0)).setCell ⟨w.heap.size, 6, none⟩ (.int .i64 0)).setCell ⟨w.heap.size, 7, none⟩ (.int .i64 0)).setCell ⟨w.heap.size, 8, none⟩ (.int .i64 0)).setCell ⟨w.heap.size, 9, none⟩ (.int .i64 0) = W14
      have HS0_14 : Hid (Str W14 (w.heap.size) #[.int .i64 0, .string ⟨#[]⟩, .int .i64 0, .string ⟨#[]⟩, .int .i64 0, .slice none 0 0, .int .i64 0, .int .i64 0, .int .i64 0, .int .i64 0]) := Lib.hid (by rw [← hW14]; have := ((((((((((HS0_13.out).set 0 (.int .i64 0)).set 1 (.string ⟨#[]⟩)).set 2 (.int .i64 0)).set 3 (.string ⟨#[]⟩)).set 4 (.int .i64 0)).set 5 (.slice none 0 0)).set 6 (.int .i64 0)).set 7 (.int .i64 0)).set 8 (.int .i64 0)).set 9 (.int .i64 0); simpa using this)
      have HS1_14 : Hid (Str W14 (W2.heap.size) #[.int .i64 1, .string (strOf (UndoP.K l)), .int .i64 rs, .string rk, .int .i64 rkind, .slice A10 n10 c10, .int .i64 rlo, .int .i64 rhi, .int .i64 rval, .int .i64 0]) := Lib.hid (by rw [← hW14]; exact ((((((((((HS1_13.out).other 0 _ (by omega)).other 1 _ (by omega)).other 2 _ (by omega)).other 3 _ (by omega)).other 4 _ (by omega)).other 5 _ (by omega)).other 6 _ (by omega)).other 7 _ (by omega)).other 8 _ (by omega)).other 9 _ (by omega))
      have HS2_14 : Hid (Str W14 (W5.heap.size) (rowV (UndoP.raw l))) := Lib.hid (by rw [← hW14]; exact ((((((((((HS2_13.out).other 0 _ (by omega)).other 1 _ (by omega)).other 2 _ (by omega)).other 3 _ (by omega)).other 4 _ (by omega)).other 5 _ (by omega)).other 6 _ (by omega)).other 7 _ (by omega)).other 8 _ (by omega)).other 9 _ (by omega))
      have HS3_14 : Hid (Str W14 (W11.heap.size) #[.int .i64 rs, .string rk, .int .i64 rkind, .slice A10 n10 c10, .int .i64 rlo, .int .i64 rhi, .int .i64 rval]) := Lib.hid (by rw [← hW14]; exact ((((((((((HS3_13.out).other 0 _ (by omega)).other 1 _ (by omega)).other 2 _ (by omega)).other 3 _ (by omega)).other 4 _ (by omega)).other 5 _ (by omega)).other 6 _ (by omega)).other 7 _ (by omega)).other 8 _ (by omega)).other 9 _ (by omega))
      have hgr14 : W13.grownBy W14 (some (w.heap.size)) := by rw [← hW14]; exact grown_set (grown_set (grown_set (grown_set (grown_set (grown_set (grown_set (grown_set (grown_set (grown_set (grown_refl W13 (w.heap.size)) 0 (.int .i64 0)) 1 (.string ⟨#[]⟩)) 2 (.int .i64 0)) 3 (.string ⟨#[]⟩)) 4 (.int .i64 0)) 5 (.slice none 0 0)) 6 (.int .i64 0)) 7 (.int .i64 0)) 8 (.int .i64 0)) 9 (.int .i64 0)
      have HB_14 := Lib.hid (below_grown HB_13.out hgr14 (by omega))
      have hw_14 := HB_14.out.size
      have hws_14 := hgr14.size
      have HYz_14 := Lib.hid ((Bytes.grown HYz_13.out (Nat.le_refl _) HS0_13.out rfl hgr14).more hws_14)
      clear HYz_13
      clear hW14
      clear f0_13_0 f0_13_1 f0_13_2 f0_13_3 f0_13_4 f0_13_5 f0_13_6 f0_13_7 f0_13_8 f0_13_9 HS0_13 hf0_13 f1_13_0 f1_13_1 f1_13_2 f1_13_3 f1_13_4 f1_13_5 f1_13_6 f1_13_7 f1_13_8 f1_13_9 HS1_13 HS2_13 f3_13_0 f3_13_1 f3_13_2 f3_13_3 f3_13_4 f3_13_5 f3_13_6 HS3_13
      clear hgr14
      obtain ⟨f0_14_0, f0_14_1, f0_14_2, f0_14_3, f0_14_4, f0_14_5, f0_14_6, f0_14_7, f0_14_8, f0_14_9⟩ := str10 HS0_14.out
      have hl0_14 := HS0_14.out.lt
      have hf0_14 := fun j => HS0_14.out.frozen j
      obtain ⟨f1_14_0, f1_14_1, f1_14_2, f1_14_3, f1_14_4, f1_14_5, f1_14_6, f1_14_7, f1_14_8, f1_14_9⟩ := str10 HS1_14.out
      have hl1_14 := HS1_14.out.lt
      have hl2_14 := HS2_14.out.lt
      obtain ⟨f3_14_0, f3_14_1, f3_14_2, f3_14_3, f3_14_4, f3_14_5, f3_14_6⟩ := str7 HS3_14.out
      have hl3_14 := HS3_14.out.lt
      refine bodyPost_ret (v := .tuple #[.agg #[.int .i64 0, .string ⟨#[]⟩, .int .i64 0, .string ⟨#[]⟩, .int .i64 0, .slice none 0 0, .int .i64 0, .int .i64 0, .int .i64 0, .int .i64 0], .int .i64 0, .int .i64 12]) (by simp [results, Try.results78, go_sem, *]) rfl ?_
      rw [HE.out]
      exact ⟨none, 0, 0, rfl, Bytes.none_ _ _, HB_14.out⟩
    have HE : Hid (UndoP.get (x :: l) = (UndoP.U5 l, ((l.length + 1 : Nat) : Int) - ((UndoP.L5 l).length : Int), 0)) := Lib.hid (by rw [HG5.out, if_pos (by simp [hr])])
    rw [show CellP.code true = 0 from rfl]
    have hn9 : n = l.length + 1 := by have := HLN.out; simp at this; omega
    have HNL : Hid ((n : Int) = ((l.length + 1 : Nat) : Int)) := Lib.hid (by omega)
    have hL5 : (UndoP.L5 l).length ≤ 1000000 := by have := UndoP.L5_le l; omega
    clear hn9
    go_wp2_with fail
    obtain ⟨tr, htr⟩ := HS0_13.out
    have HT := Lib.hid htr
    clear htr
    have HG := Lib.hid (HS0_13.out.lt)
    refine Reg.wp_region_vals (R := (Reg.putW w.heap.size (.cells #[.int .i64 1, .string (strOf (UndoP.K l)), .int .i64 rs, .string rk, .int .i64 rkind, .slice A10 n10 c10, .int .i64 rlo, .int .i64 rhi, .int .i64 rval, .int .i64 0] tr (0, 0)))) (W := W13) [Reg.eqv (.agg #[.int .i64 1, .string (strOf (UndoP.K l)), .int .i64 rs, .string rk, .int .i64 rkind, .slice A10 n10 c10, .int .i64 rlo, .int .i64 rhi, .int .i64 rval, .int .i64 0]), Reg.eqv (.slice A n c), Reg.eqv (.int .i64 (n : Int)), Reg.eqv (.pointer (some ⟨b, 0, none⟩)), Reg.eqv (.int .i64 ((UndoP.L5 l).length : Int)), Reg.eqv (.int .i64 ((n : Int) - ((UndoP.L5 l).length : Int))), Reg.written w.heap.size (.cells #[.int .i64 1, .string (strOf (UndoP.K l)), .int .i64 rs, .string rk, .int .i64 rkind, .slice A10 n10 c10, .int .i64 rlo, .int .i64 rhi, .int .i64 rval, .int .i64 0] tr (0, 0)), Reg.eqv (.int .i64 ((n : Int) - ((UndoP.L5 l).length : Int))), Reg.eqv (.int .i64 0)] 77 [[(6, none)], [(0, none)], [(72, some 1)], [(5, none)], [(74, some 3)], [(73, some 2), (75, some 4)], [(2, none), (71, some 0)], [(76, some 5)], []] rfl (by kernel_rfl) (by kernel_rfl) (by kernel_rfl) ?_ [some 71, some 72, some 73, some 74, some 75, some 76, none, some 3, some 4] (by kernel_rfl) ?_
    · refine ⟨?_, ?_, ?_, ?_, ?_, ?_, ?_, ?_, ?_, trivial⟩
      · intro ax wx hx hs
        obtain ⟨e6, -⟩ := hs
        have g6 := Reg.ev (v := .pointer (some ⟨W2.heap.size, 0, none⟩)) e6
        refine Reg.obl_free rfl ?_
        have hc := fun j => Reg.put_cell hx HG.out (W2.heap.size) j (by omega) (by omega)
        exact Reg.wp_eqv (Option.some_ne_none _) (by go_simp) rfl
      · intro ax wx hx hs
        obtain ⟨e0, -⟩ := hs
        have g0 := Reg.ev (v := .slice A n c) e0
        exact Reg.obl_free rfl (Reg.wp_eqv (Option.some_ne_none _) (by go_simp) rfl)
      · intro ax wx hx hs
        obtain ⟨e72, -⟩ := hs
        have g72 := Reg.ev (v := .slice A n c) e72
        exact Reg.obl_free rfl (Reg.wp_eqv (Option.some_ne_none _) (by go_simp) rfl)
      · intro ax wx hx hs
        obtain ⟨e5, -⟩ := hs
        have g5 := Reg.ev (v := .pointer (some ⟨b, 0, none⟩)) e5
        exact Reg.obl_free rfl (Reg.wp_eqv (Option.some_ne_none _) (by go_simp) rfl)
      · intro ax wx hx hs
        obtain ⟨e74, -⟩ := hs
        have g74 := Reg.ev (v := .pointer (some ⟨b, 0, none⟩)) e74
        refine Reg.obl_free rfl ?_
        have hrd := Rd.grown HR_13.out (Nat.le_refl _) HS0_13.out rfl (Reg.put_grown hx HG.out) (by omega)
        go_simp
        refine (RdW.left_any b _ _ _ hrd).mono ?_
        rintro e wy ⟨rfl, rfl⟩
        exact Reg.done (Option.some_ne_none _) (by first | rfl | simp) (Reg.put_below (bsame _))
      · intro ax wx hx hs
        obtain ⟨e73, e75, -⟩ := hs
        have g73 := Reg.ev (v := .int .i64 (n : Int)) e73
        have g75 := Reg.ev (v := .int .i64 ((UndoP.L5 l).length : Int)) e75
        refine Reg.obl_free rfl ?_
        exact Reg.wp_eqv (Option.some_ne_none _) (by go_simp; exact IntWalk.i64_in _ (by omega)) rfl
      · intro ax wx hx hs
        obtain ⟨e2, e71, -⟩ := hs
        have g2 := Reg.ev (v := .pointer (some ⟨w.heap.size, 0, none⟩)) e2
        have g71 := Reg.ev (v := .agg #[.int .i64 1, .string (strOf (UndoP.K l)), .int .i64 rs, .string rk, .int .i64 rkind, .slice A10 n10 c10, .int .i64 rlo, .int .i64 rhi, .int .i64 rval, .int .i64 0]) e71
        refine Reg.obl_free rfl ?_
        rcases Reg.put_str hx HT.out with hgs | hgs
        all_goals
          have hS : Str wx w.heap.size _ := ⟨_, hgs⟩
          obtain ⟨y0, y1, y2, y3, y4, y5, y6, y7, y8, y9⟩ := str10 hS
          have hfz := fun j => hS.frozen j
          have ho : _ := Reg.setStr_heap (Reg.setStr_heap (Reg.setStr_heap (Reg.setStr_heap (Reg.setStr_heap (Reg.setStr_heap (Reg.setStr_heap (Reg.setStr_heap (Reg.setStr_heap (Reg.setStr_heap (hgs) 0 (.int .i64 1)) 1 (.string (strOf (UndoP.K l)))) 2 (.int .i64 rs)) 3 (.string rk)) 4 (.int .i64 rkind)) 5 (.slice A10 n10 c10)) 6 (.int .i64 rlo)) 7 (.int .i64 rhi)) 8 (.int .i64 rval)) 9 (.int .i64 0)
          go_simp
          exact ⟨undef, rfl, fun _ => rfl, (show _ = some _ from (by simpa using ho)), Reg.put_set (grown_set (grown_set (grown_set (grown_set (grown_set (grown_set (grown_set (grown_set (grown_set (grown_set (grown_refl wx _) 0 _) 1 _) 2 _) 3 _) 4 _) 5 _) 6 _) 7 _) 8 _) 9 _) (by simpa using ho)⟩
      · intro ax wx hx hs
        obtain ⟨e76, -⟩ := hs
        have g76 := Reg.ev (v := .int .i64 ((n : Int) - ((UndoP.L5 l).length : Int))) e76
        exact Reg.obl_free rfl (Reg.wp_eqv (Option.some_ne_none _) (by go_simp) rfl)
      · intro ax wx hx hs
        exact Reg.obl_free rfl (Reg.wp_eqv (Option.some_ne_none _) (by go_simp) rfl)
    · intro W14 hwf
      simp only [Reg.Fin]
      rintro _ rfl _ rfl _ rfl _ rfl _ rfl _ rfl vn6 hn6 _ rfl _ rfl
      go_simp
      have hgr := Reg.put_grown hwf HG.out
      have HSF : Hid (Str W14 w.heap.size #[.int .i64 1, .string (strOf (UndoP.K l)), .int .i64 rs, .string rk, .int .i64 rkind, .slice A10 n10 c10, .int .i64 rlo, .int .i64 rhi, .int .i64 rval, .int .i64 0]) := Lib.hid ⟨_, hn6⟩
      have HBF := Lib.hid (below_grown HB_13.out hgr (by omega))
      have HYF := Lib.hid ((Bytes.grown HYz_13.out (Nat.le_refl _) HS0_13.out rfl hgr).more hgr.size)
      clear hgr hwf hn6
      obtain ⟨z0, z1, z2, z3, z4, z5, z6, z7, z8, z9⟩ := str10 HSF.out
      have hlk := HSF.out.lt
      go_wp2_with fail
      refine bodyPost_ret (v := .tuple #[.agg #[.int .i64 1, .string (strOf (UndoP.K l)), .int .i64 rs, .string rk, .int .i64 rkind, .slice A10 n10 c10, .int .i64 rlo, .int .i64 rhi, .int .i64 rval, .int .i64 0], .int .i64 ((n : Int) - ((UndoP.L5 l).length : Int)), .int .i64 0]) (by simp [results, Try.results78, go_sem, z0, z1, z2, z3, z4, z5, z6, z7, z8, z9]) rfl ?_
      rw [HE.out, HNL.out, HU5.out]
      exact ⟨A10, n10, c10, rfl, HYF.out, HBF.out⟩

set_option maxRecDepth 100000 in
set_option maxHeartbeats 4000000 in
theorem get_any (A : Option Addr) (n c B : Nat) (l : List UInt8) (w : World) (h : Bytes w B A n c l) (hB : B ≤ w.heap.size) (hn : n ≤ 1000000)  : Calls Try.prog 78 #[.slice A n c] w (GotUndo w (UndoP.get l)) := by
  cases l with
  | nil => exact get_nil A n c B w h hB hn
  | cons x l =>
    by_cases h0 : (x.toNat : Int) = 0
    · exact get_0 A n c B x l w h hB hn h0
    by_cases h1 : (x.toNat : Int) = 1
    · exact get_1 A n c B x l w h hB hn h1
    by_cases h2 : (x.toNat : Int) = 2
    · exact get_2 A n c B x l w h hB hn h2
    by_cases h3 : (x.toNat : Int) = 3
    · exact get_3 A n c B x l w h hB hn h3
    exact get_big A n c B x l w h hB hn (by omega)
end Go.Proofs.Ytjengjbkdflapaa.UndoW
namespace Go.Proofs.Ytjengjbkdflapaa.undoPuts
open Go.RowKit UndoW
set_option linter.unusedVariables false
attribute [local go_sem ↓] cut_fold

set_option maxRecDepth 100000 in
set_option maxHeartbeats 4000000 in
theorem walk (v0 v1 v2 : Value) (lb : List UInt8) (a1 a2 : Undo) (w : World) (g0 : RBytes w w.heap.size v0 lb) (g1 : RUndo w w.heap.size v1 a1) (g2 : RUndo w w.heap.size v2 a2) :
    Calls Try.prog 14 #[v0, v1, v2] w fun e w' => e = .returned (.bool true) ∧ Below w.heap.size w w' := by
  obtain ⟨Ab, nb, cb, rfl, hb⟩ := g0
  obtain ⟨Ap, np, cp, rfl, hp, huk, hpk, hpin, -, hpn⟩ := g1
  obtain ⟨Aq, nq, cq, rfl, hq, hvk, hqk, -, -, -⟩ := g2
  obtain ⟨pact, puk, ⟨pst, pk, pkd, pda, plo, phi, pva⟩, pun⟩ := a1
  obtain ⟨qact, quk, ⟨qst, qk, qkd, qda, qlo, qhi, qva⟩, qun⟩ := a2
  dsimp only at *
  have Hb := Lib.hid hb
  have Hp := Lib.hid hp
  have Hq := Lib.hid hq
  have hb1 := Nat.le_trans hb.2.1 hb.2.2.1
  have hp1 := Nat.le_trans hp.2.1 hp.2.2.1
  have hq1 := Nat.le_trans hq.2.1 hq.2.2.1
  have hb2 := hb1
  have huk2 := huk
  have hvk2 := hvk
  unfold maxLen at hb2 huk2 hvk2
  clear hb hp hq
  have HPI := Lib.hid hpin
  have HPN := Lib.hid hpn
  clear hpin hpn
  by_cases hbig : 300 < nb
  · go_enter Try.func14, Try.ntmps14
    go_wp2_with (go_at_call 66; refine (Live17.live_any _).mono ?_; rintro e w' ⟨rfl, hb⟩)
    go_ret
    exact ⟨rfl, bstep (balloc (balloc (bsame w) _) _) hb⟩
  go_enter Try.func14, Try.ntmps14
  go_wp2_with fail
  generalize hW0 : ((w).alloc (.cells #[.int .i64 pact, .string puk, .int .i64 pst, .string pk, .int .i64 pkd, .slice Ap np cp, .int .i64 plo, .int .i64 phi, .int .i64 pva, .int .i64 pun] 79)).alloc (.cells #[.int .i64 qact, .string quk, .int .i64 qst, .string qk, .int .i64 qkd, .slice Aq nq cq, .int .i64 qlo, .int .i64 qhi, .int .i64 qva, .int .i64 qun] 79) = W0
  have HS0_0 : Hid (Str W0 (w.heap.size) #[.int .i64 pact, .string puk, .int .i64 pst, .string pk, .int .i64 pkd, .slice Ap np cp, .int .i64 plo, .int .i64 phi, .int .i64 pva, .int .i64 pun]) := Lib.hid (by rw [← hW0]; have := (Str.new (w) #[.int .i64 pact, .string puk, .int .i64 pst, .string pk, .int .i64 pkd, .slice Ap np cp, .int .i64 plo, .int .i64 phi, .int .i64 pva, .int .i64 pun] 79).alloc (.cells #[.int .i64 qact, .string quk, .int .i64 qst, .string qk, .int .i64 qkd, .slice Aq nq cq, .int .i64 qlo, .int .i64 qhi, .int .i64 qva, .int .i64 qun] 79); simpa using this)
  have HS1_0 : Hid (Str W0 (w.heap.size + 1) #[.int .i64 qact, .string quk, .int .i64 qst, .string qk, .int .i64 qkd, .slice Aq nq cq, .int .i64 qlo, .int .i64 qhi, .int .i64 qva, .int .i64 qun]) := Lib.hid (by rw [← hW0]; have := Str.new ((w).alloc (.cells #[.int .i64 pact, .string puk, .int .i64 pst, .string pk, .int .i64 pkd, .slice Ap np cp, .int .i64 plo, .int .i64 phi, .int .i64 pva, .int .i64 pun] 79)) #[.int .i64 qact, .string quk, .int .i64 qst, .string qk, .int .i64 qkd, .slice Aq nq cq, .int .i64 qlo, .int .i64 qhi, .int .i64 qva, .int .i64 qun] 79; simpa using this)
  have HB_0 : Hid (Below w.heap.size w W0) := Lib.hid (by rw [← hW0]; exact balloc (balloc (bsame w) _) _)
  have hw_0 := HB_0.out.size
  clear hW0
  obtain ⟨f0_0_0, f0_0_1, f0_0_2, f0_0_3, f0_0_4, f0_0_5, f0_0_6, f0_0_7, f0_0_8, f0_0_9⟩ := str10 HS0_0.out
  have hl0_0 := HS0_0.out.lt
  obtain ⟨f1_0_0, f1_0_1, f1_0_2, f1_0_3, f1_0_4, f1_0_5, f1_0_6, f1_0_7, f1_0_8, f1_0_9⟩ := str10 HS1_0.out
  have hl1_0 := HS1_0.out.lt
  refine (Live17.big_any Ap np cp _ pk _ _ _ _ _ hpk hp1).mono ?_
  rintro e W1 ⟨rfl, hb1⟩
  have HS0_1 := Lib.hid (HS0_0.out.next hb1)
  have HS1_1 := Lib.hid (HS1_0.out.next hb1)
  have HB_1 := Lib.hid (bstep HB_0.out hb1)
  have hw_1 := HB_1.out.size
  have hws_1 := (hb1).size
  clear f0_0_0 f0_0_1 f0_0_2 f0_0_3 f0_0_4 f0_0_5 f0_0_6 f0_0_7 f0_0_8 f0_0_9 HS0_0 f1_0_0 f1_0_1 f1_0_2 f1_0_3 f1_0_4 f1_0_5 f1_0_6 f1_0_7 f1_0_8 f1_0_9 HS1_0
  clear hb1
  obtain ⟨f0_1_0, f0_1_1, f0_1_2, f0_1_3, f0_1_4, f0_1_5, f0_1_6, f0_1_7, f0_1_8, f0_1_9⟩ := str10 HS0_1.out
  have hl0_1 := HS0_1.out.lt
  obtain ⟨f1_1_0, f1_1_1, f1_1_2, f1_1_3, f1_1_4, f1_1_5, f1_1_6, f1_1_7, f1_1_8, f1_1_9⟩ := str10 HS1_1.out
  have hl1_1 := HS1_1.out.lt
  cases hbp : Live17.big pk np
  case true =>
    go_wp2_with fail
    refine (Live17.live_any _).mono ?_
    rintro e W2 ⟨rfl, hb2⟩
    have HS0_2 := Lib.hid (HS0_1.out.next hb2)
    have HS1_2 := Lib.hid (HS1_1.out.next hb2)
    have HB_2 := Lib.hid (bstep HB_1.out hb2)
    have hw_2 := HB_2.out.size
    have hws_2 := (hb2).size
    clear f0_1_0 f0_1_1 f0_1_2 f0_1_3 f0_1_4 f0_1_5 f0_1_6 f0_1_7 f0_1_8 f0_1_9 HS0_1 f1_1_0 f1_1_1 f1_1_2 f1_1_3 f1_1_4 f1_1_5 f1_1_6 f1_1_7 f1_1_8 f1_1_9 HS1_1
    clear hb2
    obtain ⟨f0_2_0, f0_2_1, f0_2_2, f0_2_3, f0_2_4, f0_2_5, f0_2_6, f0_2_7, f0_2_8, f0_2_9⟩ := str10 HS0_2.out
    have hl0_2 := HS0_2.out.lt
    obtain ⟨f1_2_0, f1_2_1, f1_2_2, f1_2_3, f1_2_4, f1_2_5, f1_2_6, f1_2_7, f1_2_8, f1_2_9⟩ := str10 HS1_2.out
    have hl1_2 := HS1_2.out.lt
    go_wp2_with fail
    go_ret
    exact ⟨rfl, HB_2.out⟩
  have hp3 : np ≤ 300 := by simp [Live17.big] at hbp; omega
  clear hbp
  go_wp2_with fail
  refine (Live17.big_any Aq nq cq _ qk _ _ _ _ _ hqk hq1).mono ?_
  rintro e W2 ⟨rfl, hb2⟩
  have HS0_2 := Lib.hid (HS0_1.out.next hb2)
  have HS1_2 := Lib.hid (HS1_1.out.next hb2)
  have HB_2 := Lib.hid (bstep HB_1.out hb2)
  have hw_2 := HB_2.out.size
  have hws_2 := (hb2).size
  clear f0_1_0 f0_1_1 f0_1_2 f0_1_3 f0_1_4 f0_1_5 f0_1_6 f0_1_7 f0_1_8 f0_1_9 HS0_1 f1_1_0 f1_1_1 f1_1_2 f1_1_3 f1_1_4 f1_1_5 f1_1_6 f1_1_7 f1_1_8 f1_1_9 HS1_1
  clear hb2
  obtain ⟨f0_2_0, f0_2_1, f0_2_2, f0_2_3, f0_2_4, f0_2_5, f0_2_6, f0_2_7, f0_2_8, f0_2_9⟩ := str10 HS0_2.out
  have hl0_2 := HS0_2.out.lt
  obtain ⟨f1_2_0, f1_2_1, f1_2_2, f1_2_3, f1_2_4, f1_2_5, f1_2_6, f1_2_7, f1_2_8, f1_2_9⟩ := str10 HS1_2.out
  have hl1_2 := HS1_2.out.lt
  cases hbq : Live17.big qk nq
  case true =>
    go_wp2_with fail
    refine (Live17.live_any _).mono ?_
    rintro e W3 ⟨rfl, hb3⟩
    have HS0_3 := Lib.hid (HS0_2.out.next hb3)
    have HS1_3 := Lib.hid (HS1_2.out.next hb3)
    have HB_3 := Lib.hid (bstep HB_2.out hb3)
    have hw_3 := HB_3.out.size
    have hws_3 := (hb3).size
    clear f0_2_0 f0_2_1 f0_2_2 f0_2_3 f0_2_4 f0_2_5 f0_2_6 f0_2_7 f0_2_8 f0_2_9 HS0_2 f1_2_0 f1_2_1 f1_2_2 f1_2_3 f1_2_4 f1_2_5 f1_2_6 f1_2_7 f1_2_8 f1_2_9 HS1_2
    clear hb3
    obtain ⟨f0_3_0, f0_3_1, f0_3_2, f0_3_3, f0_3_4, f0_3_5, f0_3_6, f0_3_7, f0_3_8, f0_3_9⟩ := str10 HS0_3.out
    have hl0_3 := HS0_3.out.lt
    obtain ⟨f1_3_0, f1_3_1, f1_3_2, f1_3_3, f1_3_4, f1_3_5, f1_3_6, f1_3_7, f1_3_8, f1_3_9⟩ := str10 HS1_3.out
    have hl1_3 := HS1_3.out.lt
    go_wp2_with fail
    go_ret
    exact ⟨rfl, HB_3.out⟩
  have hq3 : nq ≤ 300 := by simp [Live17.big] at hbq; omega
  clear hbq
  by_cases hk1 : 300 < puk.size
  case pos =>
    go_wp2_with fail
    refine (Live17.live_any _).mono ?_
    rintro e W3 ⟨rfl, hb3⟩
    have HS0_3 := Lib.hid (HS0_2.out.next hb3)
    have HS1_3 := Lib.hid (HS1_2.out.next hb3)
    have HB_3 := Lib.hid (bstep HB_2.out hb3)
    have hw_3 := HB_3.out.size
    have hws_3 := (hb3).size
    clear f0_2_0 f0_2_1 f0_2_2 f0_2_3 f0_2_4 f0_2_5 f0_2_6 f0_2_7 f0_2_8 f0_2_9 HS0_2 f1_2_0 f1_2_1 f1_2_2 f1_2_3 f1_2_4 f1_2_5 f1_2_6 f1_2_7 f1_2_8 f1_2_9 HS1_2
    clear hb3
    obtain ⟨f0_3_0, f0_3_1, f0_3_2, f0_3_3, f0_3_4, f0_3_5, f0_3_6, f0_3_7, f0_3_8, f0_3_9⟩ := str10 HS0_3.out
    have hl0_3 := HS0_3.out.lt
    obtain ⟨f1_3_0, f1_3_1, f1_3_2, f1_3_3, f1_3_4, f1_3_5, f1_3_6, f1_3_7, f1_3_8, f1_3_9⟩ := str10 HS1_3.out
    have hl1_3 := HS1_3.out.lt
    go_wp2_with fail
    go_ret
    exact ⟨rfl, HB_3.out⟩
  by_cases hk2 : 300 < quk.size
  case pos =>
    go_wp2_with fail
    refine (Live17.live_any _).mono ?_
    rintro e W3 ⟨rfl, hb3⟩
    have HS0_3 := Lib.hid (HS0_2.out.next hb3)
    have HS1_3 := Lib.hid (HS1_2.out.next hb3)
    have HB_3 := Lib.hid (bstep HB_2.out hb3)
    have hw_3 := HB_3.out.size
    have hws_3 := (hb3).size
    clear f0_2_0 f0_2_1 f0_2_2 f0_2_3 f0_2_4 f0_2_5 f0_2_6 f0_2_7 f0_2_8 f0_2_9 HS0_2 f1_2_0 f1_2_1 f1_2_2 f1_2_3 f1_2_4 f1_2_5 f1_2_6 f1_2_7 f1_2_8 f1_2_9 HS1_2
    clear hb3
    obtain ⟨f0_3_0, f0_3_1, f0_3_2, f0_3_3, f0_3_4, f0_3_5, f0_3_6, f0_3_7, f0_3_8, f0_3_9⟩ := str10 HS0_3.out
    have hl0_3 := HS0_3.out.lt
    obtain ⟨f1_3_0, f1_3_1, f1_3_2, f1_3_3, f1_3_4, f1_3_5, f1_3_6, f1_3_7, f1_3_8, f1_3_9⟩ := str10 HS1_3.out
    have hl1_3 := HS1_3.out.lt
    go_wp2_with fail
    go_ret
    exact ⟨rfl, HB_3.out⟩
  go_wp2_with fail
  refine (put_any Ab nb cb w.heap.size lb pact puk Ap np cp w.heap.size pst pk pkd pda plo phi pva pun _ (Hb.out.below HB_2.out) HB_2.out.size (by omega) (Hp.out.below HB_2.out) HB_2.out.size hpk huk).mono ?_
  rintro e W3 ⟨Ac, nc, cc, rfl, hyc, hb3⟩
  have HS0_3 := Lib.hid (HS0_2.out.next hb3)
  have HS1_3 := Lib.hid (HS1_2.out.next hb3)
  have HB_3 := Lib.hid (bstep HB_2.out hb3)
  have hw_3 := HB_3.out.size
  have hws_3 := (hb3).size
  clear f0_2_0 f0_2_1 f0_2_2 f0_2_3 f0_2_4 f0_2_5 f0_2_6 f0_2_7 f0_2_8 f0_2_9 HS0_2 f1_2_0 f1_2_1 f1_2_2 f1_2_3 f1_2_4 f1_2_5 f1_2_6 f1_2_7 f1_2_8 f1_2_9 HS1_2
  clear hb3
  obtain ⟨f0_3_0, f0_3_1, f0_3_2, f0_3_3, f0_3_4, f0_3_5, f0_3_6, f0_3_7, f0_3_8, f0_3_9⟩ := str10 HS0_3.out
  have hl0_3 := HS0_3.out.lt
  obtain ⟨f1_3_0, f1_3_1, f1_3_2, f1_3_3, f1_3_4, f1_3_5, f1_3_6, f1_3_7, f1_3_8, f1_3_9⟩ := str10 HS1_3.out
  have hl1_3 := HS1_3.out.lt
  have HYc_3 := Lib.hid (hyc)
  clear hyc
  go_wp2_with fail
  refine (check_any pact puk Ap np cp w.heap.size pst pk pkd pda plo phi pva pun _ (Hp.out.below HB_3.out) HB_3.out.size hpk huk).mono ?_
  rintro e W4 ⟨rfl, hb4⟩
  have HS0_4 := Lib.hid (HS0_3.out.next hb4)
  have HS1_4 := Lib.hid (HS1_3.out.next hb4)
  have HB_4 := Lib.hid (bstep HB_3.out hb4)
  have hw_4 := HB_4.out.size
  have hws_4 := (hb4).size
  have HYc_4 := Lib.hid (HYc_3.out.next hb4)
  clear HYc_3
  clear f0_3_0 f0_3_1 f0_3_2 f0_3_3 f0_3_4 f0_3_5 f0_3_6 f0_3_7 f0_3_8 f0_3_9 HS0_3 f1_3_0 f1_3_1 f1_3_2 f1_3_3 f1_3_4 f1_3_5 f1_3_6 f1_3_7 f1_3_8 f1_3_9 HS1_3
  clear hb4
  obtain ⟨f0_4_0, f0_4_1, f0_4_2, f0_4_3, f0_4_4, f0_4_5, f0_4_6, f0_4_7, f0_4_8, f0_4_9⟩ := str10 HS0_4.out
  have hl0_4 := HS0_4.out.lt
  obtain ⟨f1_4_0, f1_4_1, f1_4_2, f1_4_3, f1_4_4, f1_4_5, f1_4_6, f1_4_7, f1_4_8, f1_4_9⟩ := str10 HS1_4.out
  have hl1_4 := HS1_4.out.lt
  go_wp2_with fail
  refine (Live17.code_any _ _).mono ?_
  rintro e w_ ⟨rfl, rfl⟩
  go_wp2_with fail
  have HBL := Lib.hid (UndoP.bytes_le ⟨pact, puk, ⟨pst, pk, ⟨pkd, pda, plo, phi, pva⟩⟩, pun⟩)
  have HEQ : Hid ((lb ++ UndoP.bytes ⟨pact, puk, ⟨pst, pk, ⟨pkd, pda, plo, phi, pva⟩⟩, pun⟩ == lb ++ UndoP.bytes ⟨pact, puk, ⟨pst, pk, ⟨pkd, pda, plo, phi, pva⟩⟩, pun⟩) = true) := Lib.hid (by simp)
  cases hr : UndoP.right ⟨pact, puk, ⟨pst, pk, ⟨pkd, pda, plo, phi, pva⟩⟩, pun⟩
  case false =>
    have HR := Lib.hid hr
    clear hr
    rw [show CellP.code false = 1 from rfl]
    refine Reg.wp_region_word (R := (Reg.extN W4.heap.size)) (W := W4) (Reg.AppJ (Reg.Chain.mk W4.heap.size 1 3 5 6 45 47 49 50 lb (UndoP.bytes ⟨pact, puk, ⟨pst, pk, ⟨pkd, pda, plo, phi, pva⟩⟩, pun⟩))) [Reg.eqv (.slice Ac nc cc), Reg.any, Reg.eqv (.slice Ab nb cb), Reg.any, Reg.eqv (.agg #[.int .i64 pact, .string puk, .int .i64 pst, .string pk, .int .i64 pkd, .slice Ap np cp, .int .i64 plo, .int .i64 phi, .int .i64 pva, .int .i64 pun]), Reg.any, Reg.any, Reg.eqv (.bool true), Reg.eqv (.bool false), Reg.eqv (.bool false), Reg.eqv (.int .i64 1), Reg.eqv (.bool false), Reg.eqv (.agg #[.int .i64 pact, .string puk, .int .i64 pst, .string pk, .int .i64 pkd, .slice Ap np cp, .int .i64 plo, .int .i64 phi, .int .i64 pva, .int .i64 pun]), Reg.eqv (.bool false), Reg.eqv (.bool false), Reg.eqv (.bool false), Reg.eqv (.bool false), Reg.eqv (.int .i64 1), Reg.eqv (.bool true), Reg.eqv (.bool true), Reg.eqv (.int .i64 1), Reg.eqv (.bool false), Reg.eqv (.bool false), Reg.eqv (.bool false), Reg.eqv (.bool false), Reg.eqv (.agg #[.int .i64 pact, .string puk, .int .i64 pst, .string pk, .int .i64 pkd, .slice Ap np cp, .int .i64 plo, .int .i64 phi, .int .i64 pva, .int .i64 pun]), Reg.eqv (.agg #[.int .i64 qact, .string quk, .int .i64 qst, .string qk, .int .i64 qkd, .slice Aq nq cq, .int .i64 qlo, .int .i64 qhi, .int .i64 qva, .int .i64 qun]), Reg.eqv (.bool (UndoP.same ⟨pact, puk, ⟨pst, pk, ⟨pkd, pda, plo, phi, pva⟩⟩, pun⟩ ⟨qact, quk, ⟨qst, qk, ⟨qkd, qda, qlo, qhi, qva⟩⟩, qun⟩)), Reg.eqv (.agg #[.int .i64 pact, .string puk, .int .i64 pst, .string pk, .int .i64 pkd, .slice Ap np cp, .int .i64 plo, .int .i64 phi, .int .i64 pva, .int .i64 pun]), Reg.eqv (.agg #[.int .i64 qact, .string quk, .int .i64 qst, .string qk, .int .i64 qkd, .slice Aq nq cq, .int .i64 qlo, .int .i64 qhi, .int .i64 qva, .int .i64 qun]), Reg.eqv (.bool (UndoP.same ⟨pact, puk, ⟨pst, pk, ⟨pkd, pda, plo, phi, pva⟩⟩, pun⟩ ⟨qact, quk, ⟨qst, qk, ⟨qkd, qda, qlo, qhi, qva⟩⟩, qun⟩)), Reg.eqv (.bool false), Reg.eqv (.bool false)] 109 [[(7, none)], [], [(0, none)], [(45, some 1), (46, some 2)], [(4, none)], [(48, some 4)], [(47, some 3), (49, some 5)], [(44, some 0), (50, some 6)], [(51, some 7)], [(52, some 8)], [(8, none), (53, some 9)], [(54, some 10), (53, some 9)], [(4, none), (53, some 9)], [(56, some 12), (53, some 9)], [(55, some 11), (57, some 13), (53, some 9)], [(53, some 9), (58, some 14)], [(59, some 15)], [(8, none), (60, some 16)], [(61, some 17), (60, some 16)], [(62, some 18), (60, some 16)], [(8, none), (63, some 19)], [(64, some 20), (63, some 19)], [(63, some 19), (65, some 21), (60, some 16)], [(60, some 16), (66, some 22)], [(67, some 23)], [(4, none), (68, some 24)], [(5, none), (68, some 24)], [(69, some 25), (70, some 26), (68, some 24)], [(4, none), (68, some 24)], [(5, none), (68, some 24)], [(72, some 28), (73, some 29), (68, some 24)], [(71, some 27), (74, some 30), (68, some 24)], [(68, some 24), (75, some 31)]] rfl (by kernel_rfl) (by kernel_rfl) (fun _ _ h => Reg.app_zero h) (by kernel_rfl) ?_ [some 44, some 45, some 46, some 47, some 48, some 49, some 50, some 51, some 52, some 53, some 54, some 55, some 56, some 57, some 58, some 59, some 60, some 61, some 62, some 63, some 64, some 65, some 66, some 67, some 68, some 69, some 70, some 71, some 72, some 73, some 74, some 75, some 76] (by kernel_rfl) ?_
    · refine ⟨?_, ?_, ?_, ?_, ?_, ?_, ?_, ?_, ?_, ?_, ?_, ?_, ?_, ?_, ?_, ?_, ?_, ?_, ?_, ?_, ?_, ?_, ?_, ?_, ?_, ?_, ?_, ?_, ?_, ?_, ?_, ?_, ?_, trivial⟩
      · refine Reg.oblA_ord (C := (Reg.Chain.mk W4.heap.size 1 3 5 6 45 47 49 50 lb (UndoP.bytes ⟨pact, puk, ⟨pst, pk, ⟨pkd, pda, plo, phi, pva⟩⟩, pun⟩))) rfl ⟨(by show 0 ≠ 1; decide), (by show 0 ≠ 3; decide), (by show 0 ≠ 5; decide), (by show 0 ≠ 6; decide)⟩ ⟨(by show some 44 ≠ some 45; decide), (by show some 44 ≠ some 47; decide), (by show some 44 ≠ some 49; decide), (by show some 44 ≠ some 50; decide)⟩ ?_
        intro ax wx hx hs
        obtain ⟨e7, -⟩ := hs
        have g7 := Reg.ev (v := .slice Ac nc cc) e7
        exact Reg.obl_freeB rfl (Reg.wp_eqvB (Option.some_ne_none _) (by go_simp) rfl)
      · refine Reg.oblA_e (C := (Reg.Chain.mk W4.heap.size 1 3 5 6 45 47 49 50 lb (UndoP.bytes ⟨pact, puk, ⟨pst, pk, ⟨pkd, pda, plo, phi, pva⟩⟩, pun⟩))) rfl rfl rfl ⟨(by show 1 ≠ 3; decide), (by show 1 ≠ 5; decide), (by show 1 ≠ 6; decide)⟩ rfl ⟨(by show 45 ≠ 47; decide), (by show 45 ≠ 49; decide), (by show 45 ≠ 50; decide)⟩ (by show 45 < 109; decide) (by show 1 < 33; decide) (fun _ _ => trivial) ?_
        intro ax wx hx
        go_simp
      · refine Reg.oblA_ord (C := (Reg.Chain.mk W4.heap.size 1 3 5 6 45 47 49 50 lb (UndoP.bytes ⟨pact, puk, ⟨pst, pk, ⟨pkd, pda, plo, phi, pva⟩⟩, pun⟩))) rfl ⟨(by show 2 ≠ 1; decide), (by show 2 ≠ 3; decide), (by show 2 ≠ 5; decide), (by show 2 ≠ 6; decide)⟩ ⟨(by show some 46 ≠ some 45; decide), (by show some 46 ≠ some 47; decide), (by show some 46 ≠ some 49; decide), (by show some 46 ≠ some 50; decide)⟩ ?_
        intro ax wx hx hs
        obtain ⟨e0, -⟩ := hs
        have g0 := Reg.ev (v := .slice Ab nb cb) e0
        exact Reg.obl_freeB rfl (Reg.wp_eqvB (Option.some_ne_none _) (by go_simp) rfl)
      · refine Reg.oblA_p (C := (Reg.Chain.mk W4.heap.size 1 3 5 6 45 47 49 50 lb (UndoP.bytes ⟨pact, puk, ⟨pst, pk, ⟨pkd, pda, plo, phi, pva⟩⟩, pun⟩))) rfl rfl rfl ⟨(by show 3 ≠ 1; decide), (by show 3 ≠ 5; decide), (by show 3 ≠ 6; decide)⟩ rfl ⟨(by show 47 ≠ 45; decide), (by show 47 ≠ 49; decide), (by show 47 ≠ 50; decide)⟩ (by show 47 < 109; decide) (by show 3 < 33; decide) (by kernel_rfl) (fun _ _ => trivial) ?_
        intro ax wx g hx hs he hO
        obtain ⟨e45, e46, -⟩ := hs
        have g46 := Reg.ev (v := .slice Ab nb cb) e46
        have hx' : Below W4.heap.size W4 wx := hx
        have hyb := Hb.out.below (bstep HB_4.out hx')
        obtain ⟨A', c', w', happ, hO', hB', hg'⟩ := hO.appG hyb (by omega) hx'.size
        exact wp_app (.tmp 45) (.tmp 46) rfl rfl he e46 happ ⟨_, _, _, rfl, by simpa using hO', hg', hB'⟩
      · refine Reg.oblA_ord (C := (Reg.Chain.mk W4.heap.size 1 3 5 6 45 47 49 50 lb (UndoP.bytes ⟨pact, puk, ⟨pst, pk, ⟨pkd, pda, plo, phi, pva⟩⟩, pun⟩))) rfl ⟨(by show 4 ≠ 1; decide), (by show 4 ≠ 3; decide), (by show 4 ≠ 5; decide), (by show 4 ≠ 6; decide)⟩ ⟨(by show some 48 ≠ some 45; decide), (by show some 48 ≠ some 47; decide), (by show some 48 ≠ some 49; decide), (by show some 48 ≠ some 50; decide)⟩ ?_
        intro ax wx hx hs
        obtain ⟨e4, -⟩ := hs
        have g4 := Reg.ev (v := .pointer (some ⟨w.heap.size, 0, none⟩)) e4
        obtain ⟨hc, -⟩ := bcell hx
        exact Reg.obl_freeB rfl (Reg.wp_eqvB (Option.some_ne_none _) (by go_simp) rfl)
      · refine Reg.oblA_q (C := (Reg.Chain.mk W4.heap.size 1 3 5 6 45 47 49 50 lb (UndoP.bytes ⟨pact, puk, ⟨pst, pk, ⟨pkd, pda, plo, phi, pva⟩⟩, pun⟩))) rfl rfl rfl ⟨(by show 5 ≠ 1; decide), (by show 5 ≠ 3; decide), (by show 5 ≠ 6; decide)⟩ rfl ⟨(by show 49 ≠ 45; decide), (by show 49 ≠ 47; decide), (by show 49 ≠ 50; decide)⟩ (by show 49 < 109; decide) (by show 5 < 33; decide) (fun _ _ => trivial) ?_
        intro ax wx hx hs
        obtain ⟨e48, -⟩ := hs
        have g48 := Reg.ev (v := .agg #[.int .i64 pact, .string puk, .int .i64 pst, .string pk, .int .i64 pkd, .slice Ap np cp, .int .i64 plo, .int .i64 phi, .int .i64 pva, .int .i64 pun]) e48
        have hx' : Below W4.heap.size W4 wx := hx
        go_simp
        refine (RefUndoB.bytes_any pact puk Ap np cp w.heap.size pst pk pkd pda plo phi pva pun _ (Hp.out.below (bstep HB_4.out hx')) (bstep HB_4.out hx').size hpk huk).mono ?_
        rintro e wy ⟨A8, n8, c8, rfl, hy8, hby⟩
        exact ⟨A8, n8, c8, rfl, hy8, hby⟩
      · refine Reg.oblA_r (C := (Reg.Chain.mk W4.heap.size 1 3 5 6 45 47 49 50 lb (UndoP.bytes ⟨pact, puk, ⟨pst, pk, ⟨pkd, pda, plo, phi, pva⟩⟩, pun⟩))) rfl rfl rfl ⟨(by show 6 ≠ 1; decide), (by show 6 ≠ 3; decide), (by show 6 ≠ 5; decide)⟩ rfl (by show 50 < 109; decide) (by show 6 < 33; decide) (by kernel_rfl) (by kernel_rfl) (fun _ _ => trivial) ?_
        intro ax wx A1 n1 c1 A2 n2 c2 hx he1 hO he2 hY
        have hx' : Below W4.heap.size W4 wx := hx
        have hl1 := hO.len
        have hl2 := hY.len
        have hl3 := Hb.out.len
        obtain ⟨A', c', w', happ, hO', hB', hg'⟩ := hO.appG hY (by have := HBL.out; dsimp only at hl1 hl2; omega) hx'.size
        exact wp_app (.tmp 47) (.tmp 49) rfl rfl he1 he2 happ ⟨_, _, _, rfl, hO', hB'⟩
      · refine Reg.oblA_use (C := (Reg.Chain.mk W4.heap.size 1 3 5 6 45 47 49 50 lb (UndoP.bytes ⟨pact, puk, ⟨pst, pk, ⟨pkd, pda, plo, phi, pva⟩⟩, pun⟩))) rfl ⟨(by show 7 ≠ 1; decide), (by show 7 ≠ 3; decide), (by show 7 ≠ 5; decide), (by show 7 ≠ 6; decide)⟩ ⟨(by show some 51 ≠ some 45; decide), (by show some 51 ≠ some 47; decide), (by show some 51 ≠ some 49; decide), (by show some 51 ≠ some 50; decide)⟩ ?_
        intro ax wx hx hs hu
        obtain ⟨e44, e50, -⟩ := hs
        have g44 := Reg.ev (v := .slice Ac nc cc) e44
        refine Reg.obl_freeB rfl ?_
        have hx' : Below W4.heap.size W4 wx := hx
        obtain ⟨A8, n8, c8, e50', hy8⟩ := hu (by kernel_rfl)
        have g50 := Reg.ev e50'
        have hyc := (HYc_4.out.next hx')
        go_simp
        refine (Same.same_any _ _ _ _ _ _ _ _ _ _ _ hyc hy8).mono ?_
        rintro e wy ⟨rfl, rfl⟩
        rw [HEQ.out]
        exact Reg.doneB (Option.some_ne_none _) rfl (bsame _)
      · refine Reg.oblA_ord (C := (Reg.Chain.mk W4.heap.size 1 3 5 6 45 47 49 50 lb (UndoP.bytes ⟨pact, puk, ⟨pst, pk, ⟨pkd, pda, plo, phi, pva⟩⟩, pun⟩))) rfl ⟨(by show 8 ≠ 1; decide), (by show 8 ≠ 3; decide), (by show 8 ≠ 5; decide), (by show 8 ≠ 6; decide)⟩ ⟨(by show some 52 ≠ some 45; decide), (by show some 52 ≠ some 47; decide), (by show some 52 ≠ some 49; decide), (by show some 52 ≠ some 50; decide)⟩ ?_
        intro ax wx hx hs
        obtain ⟨e51, -⟩ := hs
        have g51 := Reg.ev (v := .bool true) e51
        exact Reg.obl_freeB rfl (Reg.wp_eqvB (Option.some_ne_none _) (by go_simp) rfl)
      · refine Reg.oblA_ord (C := (Reg.Chain.mk W4.heap.size 1 3 5 6 45 47 49 50 lb (UndoP.bytes ⟨pact, puk, ⟨pst, pk, ⟨pkd, pda, plo, phi, pva⟩⟩, pun⟩))) rfl ⟨(by show 9 ≠ 1; decide), (by show 9 ≠ 3; decide), (by show 9 ≠ 5; decide), (by show 9 ≠ 6; decide)⟩ ⟨(by show some 53 ≠ some 45; decide), (by show some 53 ≠ some 47; decide), (by show some 53 ≠ some 49; decide), (by show some 53 ≠ some 50; decide)⟩ ?_
        intro ax wx hx hs
        obtain ⟨e52, -⟩ := hs
        have g52 := Reg.ev (v := .bool false) e52
        exact Reg.obl_freeB rfl (Reg.wp_eqvB (Option.some_ne_none _) (by go_simp) rfl)
      · refine Reg.oblA_ord (C := (Reg.Chain.mk W4.heap.size 1 3 5 6 45 47 49 50 lb (UndoP.bytes ⟨pact, puk, ⟨pst, pk, ⟨pkd, pda, plo, phi, pva⟩⟩, pun⟩))) rfl ⟨(by show 10 ≠ 1; decide), (by show 10 ≠ 3; decide), (by show 10 ≠ 5; decide), (by show 10 ≠ 6; decide)⟩ ⟨(by show some 54 ≠ some 45; decide), (by show some 54 ≠ some 47; decide), (by show some 54 ≠ some 49; decide), (by show some 54 ≠ some 50; decide)⟩ ?_
        intro ax wx hx hs
        obtain ⟨e8, e53, -⟩ := hs
        have g8 := Reg.ev (v := .int .i64 1) e8
        have g53 := Reg.ev (v := .bool false) e53
        exact Reg.obl_wantB rfl rfl e53 (Reg.wp_eqvB (Option.some_ne_none _) (by go_simp) rfl)
      · refine Reg.oblA_ord (C := (Reg.Chain.mk W4.heap.size 1 3 5 6 45 47 49 50 lb (UndoP.bytes ⟨pact, puk, ⟨pst, pk, ⟨pkd, pda, plo, phi, pva⟩⟩, pun⟩))) rfl ⟨(by show 11 ≠ 1; decide), (by show 11 ≠ 3; decide), (by show 11 ≠ 5; decide), (by show 11 ≠ 6; decide)⟩ ⟨(by show some 55 ≠ some 45; decide), (by show some 55 ≠ some 47; decide), (by show some 55 ≠ some 49; decide), (by show some 55 ≠ some 50; decide)⟩ ?_
        intro ax wx hx hs
        obtain ⟨e54, e53, -⟩ := hs
        have g54 := Reg.ev (v := .int .i64 1) e54
        have g53 := Reg.ev (v := .bool false) e53
        exact Reg.obl_wantB rfl rfl e53 (Reg.wp_eqvB (Option.some_ne_none _) (by go_simp) rfl)
      · refine Reg.oblA_ord (C := (Reg.Chain.mk W4.heap.size 1 3 5 6 45 47 49 50 lb (UndoP.bytes ⟨pact, puk, ⟨pst, pk, ⟨pkd, pda, plo, phi, pva⟩⟩, pun⟩))) rfl ⟨(by show 12 ≠ 1; decide), (by show 12 ≠ 3; decide), (by show 12 ≠ 5; decide), (by show 12 ≠ 6; decide)⟩ ⟨(by show some 56 ≠ some 45; decide), (by show some 56 ≠ some 47; decide), (by show some 56 ≠ some 49; decide), (by show some 56 ≠ some 50; decide)⟩ ?_
        intro ax wx hx hs
        obtain ⟨e4, e53, -⟩ := hs
        have g4 := Reg.ev (v := .pointer (some ⟨w.heap.size, 0, none⟩)) e4
        have g53 := Reg.ev (v := .bool false) e53
        obtain ⟨hc, -⟩ := bcell hx
        exact Reg.obl_wantB rfl rfl e53 (Reg.wp_eqvB (Option.some_ne_none _) (by go_simp) rfl)
      · refine Reg.oblA_ord (C := (Reg.Chain.mk W4.heap.size 1 3 5 6 45 47 49 50 lb (UndoP.bytes ⟨pact, puk, ⟨pst, pk, ⟨pkd, pda, plo, phi, pva⟩⟩, pun⟩))) rfl ⟨(by show 13 ≠ 1; decide), (by show 13 ≠ 3; decide), (by show 13 ≠ 5; decide), (by show 13 ≠ 6; decide)⟩ ⟨(by show some 57 ≠ some 45; decide), (by show some 57 ≠ some 47; decide), (by show some 57 ≠ some 49; decide), (by show some 57 ≠ some 50; decide)⟩ ?_
        intro ax wx hx hs
        obtain ⟨e56, e53, -⟩ := hs
        have g56 := Reg.ev (v := .agg #[.int .i64 pact, .string puk, .int .i64 pst, .string pk, .int .i64 pkd, .slice Ap np cp, .int .i64 plo, .int .i64 phi, .int .i64 pva, .int .i64 pun]) e56
        have g53 := Reg.ev (v := .bool false) e53
        refine Reg.obl_wantB rfl rfl e53 ?_
        have hx' : Below W4.heap.size W4 wx := hx
        go_simp
        refine (right_any pact puk Ap np cp w.heap.size pst pk pkd pda plo phi pva pun _ (Hp.out.below (bstep HB_4.out hx')) (bstep HB_4.out hx').size hpk huk).mono ?_
        rintro e wy ⟨rfl, hby⟩
        rw [HR.out]
        exact Reg.doneB (Option.some_ne_none _) rfl hby
      · refine Reg.oblA_ord (C := (Reg.Chain.mk W4.heap.size 1 3 5 6 45 47 49 50 lb (UndoP.bytes ⟨pact, puk, ⟨pst, pk, ⟨pkd, pda, plo, phi, pva⟩⟩, pun⟩))) rfl ⟨(by show 14 ≠ 1; decide), (by show 14 ≠ 3; decide), (by show 14 ≠ 5; decide), (by show 14 ≠ 6; decide)⟩ ⟨(by show some 58 ≠ some 45; decide), (by show some 58 ≠ some 47; decide), (by show some 58 ≠ some 49; decide), (by show some 58 ≠ some 50; decide)⟩ ?_
        intro ax wx hx hs
        obtain ⟨e55, e57, e53, -⟩ := hs
        have g55 := Reg.ev (v := .bool false) e55
        have g57 := Reg.ev (v := .bool false) e57
        have g53 := Reg.ev (v := .bool false) e53
        exact Reg.obl_wantB rfl rfl e53 (Reg.wp_eqvB (Option.some_ne_none _) (by go_simp) rfl)
      · refine Reg.oblA_ord (C := (Reg.Chain.mk W4.heap.size 1 3 5 6 45 47 49 50 lb (UndoP.bytes ⟨pact, puk, ⟨pst, pk, ⟨pkd, pda, plo, phi, pva⟩⟩, pun⟩))) rfl ⟨(by show 15 ≠ 1; decide), (by show 15 ≠ 3; decide), (by show 15 ≠ 5; decide), (by show 15 ≠ 6; decide)⟩ ⟨(by show some 59 ≠ some 45; decide), (by show some 59 ≠ some 47; decide), (by show some 59 ≠ some 49; decide), (by show some 59 ≠ some 50; decide)⟩ ?_
        intro ax wx hx hs
        obtain ⟨e53, e58, -⟩ := hs
        have g53 := Reg.ev (v := .bool false) e53
        have g58 := Reg.ev (v := .bool false) e58
        exact Reg.obl_freeB rfl (Reg.wp_eqvB (Option.some_ne_none _) (by go_simp) rfl)
      · refine Reg.oblA_ord (C := (Reg.Chain.mk W4.heap.size 1 3 5 6 45 47 49 50 lb (UndoP.bytes ⟨pact, puk, ⟨pst, pk, ⟨pkd, pda, plo, phi, pva⟩⟩, pun⟩))) rfl ⟨(by show 16 ≠ 1; decide), (by show 16 ≠ 3; decide), (by show 16 ≠ 5; decide), (by show 16 ≠ 6; decide)⟩ ⟨(by show some 60 ≠ some 45; decide), (by show some 60 ≠ some 47; decide), (by show some 60 ≠ some 49; decide), (by show some 60 ≠ some 50; decide)⟩ ?_
        intro ax wx hx hs
        obtain ⟨e59, -⟩ := hs
        have g59 := Reg.ev (v := .bool false) e59
        exact Reg.obl_freeB rfl (Reg.wp_eqvB (Option.some_ne_none _) (by go_simp) rfl)
      · refine Reg.oblA_ord (C := (Reg.Chain.mk W4.heap.size 1 3 5 6 45 47 49 50 lb (UndoP.bytes ⟨pact, puk, ⟨pst, pk, ⟨pkd, pda, plo, phi, pva⟩⟩, pun⟩))) rfl ⟨(by show 17 ≠ 1; decide), (by show 17 ≠ 3; decide), (by show 17 ≠ 5; decide), (by show 17 ≠ 6; decide)⟩ ⟨(by show some 61 ≠ some 45; decide), (by show some 61 ≠ some 47; decide), (by show some 61 ≠ some 49; decide), (by show some 61 ≠ some 50; decide)⟩ ?_
        intro ax wx hx hs
        obtain ⟨e8, e60, -⟩ := hs
        have g8 := Reg.ev (v := .int .i64 1) e8
        have g60 := Reg.ev (v := .bool false) e60
        exact Reg.obl_wantB rfl rfl e60 (Reg.wp_eqvB (Option.some_ne_none _) (by go_simp) rfl)
      · refine Reg.oblA_ord (C := (Reg.Chain.mk W4.heap.size 1 3 5 6 45 47 49 50 lb (UndoP.bytes ⟨pact, puk, ⟨pst, pk, ⟨pkd, pda, plo, phi, pva⟩⟩, pun⟩))) rfl ⟨(by show 18 ≠ 1; decide), (by show 18 ≠ 3; decide), (by show 18 ≠ 5; decide), (by show 18 ≠ 6; decide)⟩ ⟨(by show some 62 ≠ some 45; decide), (by show some 62 ≠ some 47; decide), (by show some 62 ≠ some 49; decide), (by show some 62 ≠ some 50; decide)⟩ ?_
        intro ax wx hx hs
        obtain ⟨e61, e60, -⟩ := hs
        have g61 := Reg.ev (v := .int .i64 1) e61
        have g60 := Reg.ev (v := .bool false) e60
        exact Reg.obl_wantB rfl rfl e60 (Reg.wp_eqvB (Option.some_ne_none _) (by go_simp) rfl)
      · refine Reg.oblA_ord (C := (Reg.Chain.mk W4.heap.size 1 3 5 6 45 47 49 50 lb (UndoP.bytes ⟨pact, puk, ⟨pst, pk, ⟨pkd, pda, plo, phi, pva⟩⟩, pun⟩))) rfl ⟨(by show 19 ≠ 1; decide), (by show 19 ≠ 3; decide), (by show 19 ≠ 5; decide), (by show 19 ≠ 6; decide)⟩ ⟨(by show some 63 ≠ some 45; decide), (by show some 63 ≠ some 47; decide), (by show some 63 ≠ some 49; decide), (by show some 63 ≠ some 50; decide)⟩ ?_
        intro ax wx hx hs
        obtain ⟨e62, e60, -⟩ := hs
        have g62 := Reg.ev (v := .bool true) e62
        have g60 := Reg.ev (v := .bool false) e60
        exact Reg.obl_wantB rfl rfl e60 (Reg.wp_eqvB (Option.some_ne_none _) (by go_simp) rfl)
      · refine Reg.oblA_ord (C := (Reg.Chain.mk W4.heap.size 1 3 5 6 45 47 49 50 lb (UndoP.bytes ⟨pact, puk, ⟨pst, pk, ⟨pkd, pda, plo, phi, pva⟩⟩, pun⟩))) rfl ⟨(by show 20 ≠ 1; decide), (by show 20 ≠ 3; decide), (by show 20 ≠ 5; decide), (by show 20 ≠ 6; decide)⟩ ⟨(by show some 64 ≠ some 45; decide), (by show some 64 ≠ some 47; decide), (by show some 64 ≠ some 49; decide), (by show some 64 ≠ some 50; decide)⟩ ?_
        intro ax wx hx hs
        obtain ⟨e8, e63, -⟩ := hs
        have g8 := Reg.ev (v := .int .i64 1) e8
        have g63 := Reg.ev (v := .bool true) e63
        exact Reg.obl_wantB rfl rfl e63 (Reg.wp_eqvB (Option.some_ne_none _) (by go_simp) rfl)
      · refine Reg.oblA_ord (C := (Reg.Chain.mk W4.heap.size 1 3 5 6 45 47 49 50 lb (UndoP.bytes ⟨pact, puk, ⟨pst, pk, ⟨pkd, pda, plo, phi, pva⟩⟩, pun⟩))) rfl ⟨(by show 21 ≠ 1; decide), (by show 21 ≠ 3; decide), (by show 21 ≠ 5; decide), (by show 21 ≠ 6; decide)⟩ ⟨(by show some 65 ≠ some 45; decide), (by show some 65 ≠ some 47; decide), (by show some 65 ≠ some 49; decide), (by show some 65 ≠ some 50; decide)⟩ ?_
        intro ax wx hx hs
        obtain ⟨e64, e63, -⟩ := hs
        have g64 := Reg.ev (v := .int .i64 1) e64
        have g63 := Reg.ev (v := .bool true) e63
        exact Reg.obl_wantB rfl rfl e63 (Reg.wp_eqvB (Option.some_ne_none _) (by go_simp) rfl)
      · refine Reg.oblA_ord (C := (Reg.Chain.mk W4.heap.size 1 3 5 6 45 47 49 50 lb (UndoP.bytes ⟨pact, puk, ⟨pst, pk, ⟨pkd, pda, plo, phi, pva⟩⟩, pun⟩))) rfl ⟨(by show 22 ≠ 1; decide), (by show 22 ≠ 3; decide), (by show 22 ≠ 5; decide), (by show 22 ≠ 6; decide)⟩ ⟨(by show some 66 ≠ some 45; decide), (by show some 66 ≠ some 47; decide), (by show some 66 ≠ some 49; decide), (by show some 66 ≠ some 50; decide)⟩ ?_
        intro ax wx hx hs
        obtain ⟨e63, e65, e60, -⟩ := hs
        have g63 := Reg.ev (v := .bool true) e63
        have g65 := Reg.ev (v := .bool false) e65
        have g60 := Reg.ev (v := .bool false) e60
        exact Reg.obl_wantB rfl rfl e60 (Reg.wp_eqvB (Option.some_ne_none _) (by go_simp) rfl)
      · refine Reg.oblA_ord (C := (Reg.Chain.mk W4.heap.size 1 3 5 6 45 47 49 50 lb (UndoP.bytes ⟨pact, puk, ⟨pst, pk, ⟨pkd, pda, plo, phi, pva⟩⟩, pun⟩))) rfl ⟨(by show 23 ≠ 1; decide), (by show 23 ≠ 3; decide), (by show 23 ≠ 5; decide), (by show 23 ≠ 6; decide)⟩ ⟨(by show some 67 ≠ some 45; decide), (by show some 67 ≠ some 47; decide), (by show some 67 ≠ some 49; decide), (by show some 67 ≠ some 50; decide)⟩ ?_
        intro ax wx hx hs
        obtain ⟨e60, e66, -⟩ := hs
        have g60 := Reg.ev (v := .bool false) e60
        have g66 := Reg.ev (v := .bool false) e66
        exact Reg.obl_freeB rfl (Reg.wp_eqvB (Option.some_ne_none _) (by go_simp) rfl)
      · refine Reg.oblA_ord (C := (Reg.Chain.mk W4.heap.size 1 3 5 6 45 47 49 50 lb (UndoP.bytes ⟨pact, puk, ⟨pst, pk, ⟨pkd, pda, plo, phi, pva⟩⟩, pun⟩))) rfl ⟨(by show 24 ≠ 1; decide), (by show 24 ≠ 3; decide), (by show 24 ≠ 5; decide), (by show 24 ≠ 6; decide)⟩ ⟨(by show some 68 ≠ some 45; decide), (by show some 68 ≠ some 47; decide), (by show some 68 ≠ some 49; decide), (by show some 68 ≠ some 50; decide)⟩ ?_
        intro ax wx hx hs
        obtain ⟨e67, -⟩ := hs
        have g67 := Reg.ev (v := .bool false) e67
        exact Reg.obl_freeB rfl (Reg.wp_eqvB (Option.some_ne_none _) (by go_simp) rfl)
      · refine Reg.oblA_ord (C := (Reg.Chain.mk W4.heap.size 1 3 5 6 45 47 49 50 lb (UndoP.bytes ⟨pact, puk, ⟨pst, pk, ⟨pkd, pda, plo, phi, pva⟩⟩, pun⟩))) rfl ⟨(by show 25 ≠ 1; decide), (by show 25 ≠ 3; decide), (by show 25 ≠ 5; decide), (by show 25 ≠ 6; decide)⟩ ⟨(by show some 69 ≠ some 45; decide), (by show some 69 ≠ some 47; decide), (by show some 69 ≠ some 49; decide), (by show some 69 ≠ some 50; decide)⟩ ?_
        intro ax wx hx hs
        obtain ⟨e4, e68, -⟩ := hs
        have g4 := Reg.ev (v := .pointer (some ⟨w.heap.size, 0, none⟩)) e4
        have g68 := Reg.ev (v := .bool false) e68
        obtain ⟨hc, -⟩ := bcell hx
        exact Reg.obl_wantB rfl rfl e68 (Reg.wp_eqvB (Option.some_ne_none _) (by go_simp) rfl)
      · refine Reg.oblA_ord (C := (Reg.Chain.mk W4.heap.size 1 3 5 6 45 47 49 50 lb (UndoP.bytes ⟨pact, puk, ⟨pst, pk, ⟨pkd, pda, plo, phi, pva⟩⟩, pun⟩))) rfl ⟨(by show 26 ≠ 1; decide), (by show 26 ≠ 3; decide), (by show 26 ≠ 5; decide), (by show 26 ≠ 6; decide)⟩ ⟨(by show some 70 ≠ some 45; decide), (by show some 70 ≠ some 47; decide), (by show some 70 ≠ some 49; decide), (by show some 70 ≠ some 50; decide)⟩ ?_
        intro ax wx hx hs
        obtain ⟨e5, e68, -⟩ := hs
        have g5 := Reg.ev (v := .pointer (some ⟨w.heap.size + 1, 0, none⟩)) e5
        have g68 := Reg.ev (v := .bool false) e68
        obtain ⟨hc, -⟩ := bcell hx
        exact Reg.obl_wantB rfl rfl e68 (Reg.wp_eqvB (Option.some_ne_none _) (by go_simp) rfl)
      · refine Reg.oblA_ord (C := (Reg.Chain.mk W4.heap.size 1 3 5 6 45 47 49 50 lb (UndoP.bytes ⟨pact, puk, ⟨pst, pk, ⟨pkd, pda, plo, phi, pva⟩⟩, pun⟩))) rfl ⟨(by show 27 ≠ 1; decide), (by show 27 ≠ 3; decide), (by show 27 ≠ 5; decide), (by show 27 ≠ 6; decide)⟩ ⟨(by show some 71 ≠ some 45; decide), (by show some 71 ≠ some 47; decide), (by show some 71 ≠ some 49; decide), (by show some 71 ≠ some 50; decide)⟩ ?_
        intro ax wx hx hs
        obtain ⟨e69, e70, e68, -⟩ := hs
        have g69 := Reg.ev (v := .agg #[.int .i64 pact, .string puk, .int .i64 pst, .string pk, .int .i64 pkd, .slice Ap np cp, .int .i64 plo, .int .i64 phi, .int .i64 pva, .int .i64 pun]) e69
        have g70 := Reg.ev (v := .agg #[.int .i64 qact, .string quk, .int .i64 qst, .string qk, .int .i64 qkd, .slice Aq nq cq, .int .i64 qlo, .int .i64 qhi, .int .i64 qva, .int .i64 qun]) e70
        have g68 := Reg.ev (v := .bool false) e68
        refine Reg.obl_wantB rfl rfl e68 ?_
        have hx' : Below W4.heap.size W4 wx := hx
        go_simp
        refine (same_any pact puk Ap np cp w.heap.size pst pk pkd pda plo phi pva pun qact quk Aq nq cq w.heap.size qst qk qkd qda qlo qhi qva qun _ (Hp.out.below (bstep HB_4.out hx')) (bstep HB_4.out hx').size (Hq.out.below (bstep HB_4.out hx')) (bstep HB_4.out hx').size).mono ?_
        rintro e wy ⟨rfl, hby⟩
        exact Reg.doneB (Option.some_ne_none _) rfl hby
      · refine Reg.oblA_ord (C := (Reg.Chain.mk W4.heap.size 1 3 5 6 45 47 49 50 lb (UndoP.bytes ⟨pact, puk, ⟨pst, pk, ⟨pkd, pda, plo, phi, pva⟩⟩, pun⟩))) rfl ⟨(by show 28 ≠ 1; decide), (by show 28 ≠ 3; decide), (by show 28 ≠ 5; decide), (by show 28 ≠ 6; decide)⟩ ⟨(by show some 72 ≠ some 45; decide), (by show some 72 ≠ some 47; decide), (by show some 72 ≠ some 49; decide), (by show some 72 ≠ some 50; decide)⟩ ?_
        intro ax wx hx hs
        obtain ⟨e4, e68, -⟩ := hs
        have g4 := Reg.ev (v := .pointer (some ⟨w.heap.size, 0, none⟩)) e4
        have g68 := Reg.ev (v := .bool false) e68
        obtain ⟨hc, -⟩ := bcell hx
        exact Reg.obl_wantB rfl rfl e68 (Reg.wp_eqvB (Option.some_ne_none _) (by go_simp) rfl)
      · refine Reg.oblA_ord (C := (Reg.Chain.mk W4.heap.size 1 3 5 6 45 47 49 50 lb (UndoP.bytes ⟨pact, puk, ⟨pst, pk, ⟨pkd, pda, plo, phi, pva⟩⟩, pun⟩))) rfl ⟨(by show 29 ≠ 1; decide), (by show 29 ≠ 3; decide), (by show 29 ≠ 5; decide), (by show 29 ≠ 6; decide)⟩ ⟨(by show some 73 ≠ some 45; decide), (by show some 73 ≠ some 47; decide), (by show some 73 ≠ some 49; decide), (by show some 73 ≠ some 50; decide)⟩ ?_
        intro ax wx hx hs
        obtain ⟨e5, e68, -⟩ := hs
        have g5 := Reg.ev (v := .pointer (some ⟨w.heap.size + 1, 0, none⟩)) e5
        have g68 := Reg.ev (v := .bool false) e68
        obtain ⟨hc, -⟩ := bcell hx
        exact Reg.obl_wantB rfl rfl e68 (Reg.wp_eqvB (Option.some_ne_none _) (by go_simp) rfl)
      · refine Reg.oblA_ord (C := (Reg.Chain.mk W4.heap.size 1 3 5 6 45 47 49 50 lb (UndoP.bytes ⟨pact, puk, ⟨pst, pk, ⟨pkd, pda, plo, phi, pva⟩⟩, pun⟩))) rfl ⟨(by show 30 ≠ 1; decide), (by show 30 ≠ 3; decide), (by show 30 ≠ 5; decide), (by show 30 ≠ 6; decide)⟩ ⟨(by show some 74 ≠ some 45; decide), (by show some 74 ≠ some 47; decide), (by show some 74 ≠ some 49; decide), (by show some 74 ≠ some 50; decide)⟩ ?_
        intro ax wx hx hs
        obtain ⟨e72, e73, e68, -⟩ := hs
        have g72 := Reg.ev (v := .agg #[.int .i64 pact, .string puk, .int .i64 pst, .string pk, .int .i64 pkd, .slice Ap np cp, .int .i64 plo, .int .i64 phi, .int .i64 pva, .int .i64 pun]) e72
        have g73 := Reg.ev (v := .agg #[.int .i64 qact, .string quk, .int .i64 qst, .string qk, .int .i64 qkd, .slice Aq nq cq, .int .i64 qlo, .int .i64 qhi, .int .i64 qva, .int .i64 qun]) e73
        have g68 := Reg.ev (v := .bool false) e68
        refine Reg.obl_wantB rfl rfl e68 ?_
        have hx' : Below W4.heap.size W4 wx := hx
        go_simp
        refine (refSame_any pact puk Ap np cp w.heap.size pst pk pkd pda plo phi pva pun qact quk Aq nq cq w.heap.size qst qk qkd qda qlo qhi qva qun _ (Hp.out.below (bstep HB_4.out hx')) (bstep HB_4.out hx').size (Hq.out.below (bstep HB_4.out hx')) (bstep HB_4.out hx').size).mono ?_
        rintro e wy ⟨rfl, hby⟩
        exact Reg.doneB (Option.some_ne_none _) rfl hby
      · refine Reg.oblA_ord (C := (Reg.Chain.mk W4.heap.size 1 3 5 6 45 47 49 50 lb (UndoP.bytes ⟨pact, puk, ⟨pst, pk, ⟨pkd, pda, plo, phi, pva⟩⟩, pun⟩))) rfl ⟨(by show 31 ≠ 1; decide), (by show 31 ≠ 3; decide), (by show 31 ≠ 5; decide), (by show 31 ≠ 6; decide)⟩ ⟨(by show some 75 ≠ some 45; decide), (by show some 75 ≠ some 47; decide), (by show some 75 ≠ some 49; decide), (by show some 75 ≠ some 50; decide)⟩ ?_
        intro ax wx hx hs
        obtain ⟨e71, e74, e68, -⟩ := hs
        have g71 := Reg.ev (v := .bool (UndoP.same ⟨pact, puk, ⟨pst, pk, ⟨pkd, pda, plo, phi, pva⟩⟩, pun⟩ ⟨qact, quk, ⟨qst, qk, ⟨qkd, qda, qlo, qhi, qva⟩⟩, qun⟩)) e71
        have g74 := Reg.ev (v := .bool (UndoP.same ⟨pact, puk, ⟨pst, pk, ⟨pkd, pda, plo, phi, pva⟩⟩, pun⟩ ⟨qact, quk, ⟨qst, qk, ⟨qkd, qda, qlo, qhi, qva⟩⟩, qun⟩)) e74
        have g68 := Reg.ev (v := .bool false) e68
        exact Reg.obl_wantB rfl rfl e68 (Reg.wp_eqvB (Option.some_ne_none _) (by go_simp) rfl)
      · refine Reg.oblA_ord (C := (Reg.Chain.mk W4.heap.size 1 3 5 6 45 47 49 50 lb (UndoP.bytes ⟨pact, puk, ⟨pst, pk, ⟨pkd, pda, plo, phi, pva⟩⟩, pun⟩))) rfl ⟨(by show 32 ≠ 1; decide), (by show 32 ≠ 3; decide), (by show 32 ≠ 5; decide), (by show 32 ≠ 6; decide)⟩ ⟨(by show some 76 ≠ some 45; decide), (by show some 76 ≠ some 47; decide), (by show some 76 ≠ some 49; decide), (by show some 76 ≠ some 50; decide)⟩ ?_
        intro ax wx hx hs
        obtain ⟨e68, e75, -⟩ := hs
        have g68 := Reg.ev (v := .bool false) e68
        have g75 := Reg.ev (v := .bool false) e75
        exact Reg.obl_freeB rfl (Reg.wp_eqvB (Option.some_ne_none _) (by go_simp) rfl)
    · intro W5 listed hwf hall
      simp only [Reg.Fin]
      rintro _ rfl v45 h45 _ rfl v47 h47 _ rfl v49 h49 v50 h50 _ rfl _ rfl _ rfl _ rfl _ rfl _ rfl _ rfl _ rfl _ rfl _ rfl _ rfl _ rfl _ rfl _ rfl _ rfl _ rfl _ rfl _ rfl _ rfl _ rfl _ rfl _ rfl _ rfl _ rfl _ rfl _ rfl
      intro hJ
      clear hJ hall
      go_simp
      have hwf1 : Below W4.heap.size W4 W5 := hwf
      clear hwf
      have HS0_5 := Lib.hid (HS0_4.out.next hwf1)
      have HS1_5 := Lib.hid (HS1_4.out.next hwf1)
      have HB_5 := Lib.hid (bstep HB_4.out hwf1)
      have hw_5 := HB_5.out.size
      have hws_5 := (hwf1).size
      have HYc_5 := Lib.hid (HYc_4.out.next hwf1)
      clear HYc_4
      clear f0_4_0 f0_4_1 f0_4_2 f0_4_3 f0_4_4 f0_4_5 f0_4_6 f0_4_7 f0_4_8 f0_4_9 HS0_4 f1_4_0 f1_4_1 f1_4_2 f1_4_3 f1_4_4 f1_4_5 f1_4_6 f1_4_7 f1_4_8 f1_4_9 HS1_4
      clear hwf1
      obtain ⟨f0_5_0, f0_5_1, f0_5_2, f0_5_3, f0_5_4, f0_5_5, f0_5_6, f0_5_7, f0_5_8, f0_5_9⟩ := str10 HS0_5.out
      have hl0_5 := HS0_5.out.lt
      obtain ⟨f1_5_0, f1_5_1, f1_5_2, f1_5_3, f1_5_4, f1_5_5, f1_5_6, f1_5_7, f1_5_8, f1_5_9⟩ := str10 HS1_5.out
      have hl1_5 := HS1_5.out.lt
      go_wp2_with fail
      refine (Live17.live_any _).mono ?_
      rintro e W6 ⟨rfl, hb6⟩
      have HS0_6 := Lib.hid (HS0_5.out.next hb6)
      have HS1_6 := Lib.hid (HS1_5.out.next hb6)
      have HB_6 := Lib.hid (bstep HB_5.out hb6)
      have hw_6 := HB_6.out.size
      have hws_6 := (hb6).size
      have HYc_6 := Lib.hid (HYc_5.out.next hb6)
      clear HYc_5
      clear f0_5_0 f0_5_1 f0_5_2 f0_5_3 f0_5_4 f0_5_5 f0_5_6 f0_5_7 f0_5_8 f0_5_9 HS0_5 f1_5_0 f1_5_1 f1_5_2 f1_5_3 f1_5_4 f1_5_5 f1_5_6 f1_5_7 f1_5_8 f1_5_9 HS1_5
      clear hb6
      obtain ⟨f0_6_0, f0_6_1, f0_6_2, f0_6_3, f0_6_4, f0_6_5, f0_6_6, f0_6_7, f0_6_8, f0_6_9⟩ := str10 HS0_6.out
      have hl0_6 := HS0_6.out.lt
      obtain ⟨f1_6_0, f1_6_1, f1_6_2, f1_6_3, f1_6_4, f1_6_5, f1_6_6, f1_6_7, f1_6_8, f1_6_9⟩ := str10 HS1_6.out
      have hl1_6 := HS1_6.out.lt
      go_wp2_with fail
      go_ret
      exact ⟨rfl, HB_6.out⟩
  case true =>
    have HR := Lib.hid hr
    clear hr
    rw [show CellP.code true = 0 from rfl]
    refine Reg.wp_region_word (R := (Reg.extN W4.heap.size)) (W := W4) (Reg.AppJ (Reg.Chain.mk W4.heap.size 1 3 5 6 45 47 49 50 lb (UndoP.bytes ⟨pact, puk, ⟨pst, pk, ⟨pkd, pda, plo, phi, pva⟩⟩, pun⟩))) [Reg.eqv (.slice Ac nc cc), Reg.any, Reg.eqv (.slice Ab nb cb), Reg.any, Reg.eqv (.agg #[.int .i64 pact, .string puk, .int .i64 pst, .string pk, .int .i64 pkd, .slice Ap np cp, .int .i64 plo, .int .i64 phi, .int .i64 pva, .int .i64 pun]), Reg.any, Reg.any, Reg.eqv (.bool true), Reg.eqv (.bool false), Reg.eqv (.bool false), Reg.eqv (.int .i64 0), Reg.eqv (.bool true), Reg.eqv (.agg #[.int .i64 pact, .string puk, .int .i64 pst, .string pk, .int .i64 pkd, .slice Ap np cp, .int .i64 plo, .int .i64 phi, .int .i64 pva, .int .i64 pun]), Reg.eqv (.bool true), Reg.eqv (.bool false), Reg.eqv (.bool false), Reg.eqv (.bool false), Reg.eqv (.int .i64 0), Reg.eqv (.bool false), Reg.eqv (.bool false), Reg.eqv undef, Reg.eqv undef, Reg.eqv (.bool false), Reg.eqv (.bool false), Reg.eqv (.bool false), Reg.eqv (.agg #[.int .i64 pact, .string puk, .int .i64 pst, .string pk, .int .i64 pkd, .slice Ap np cp, .int .i64 plo, .int .i64 phi, .int .i64 pva, .int .i64 pun]), Reg.eqv (.agg #[.int .i64 qact, .string quk, .int .i64 qst, .string qk, .int .i64 qkd, .slice Aq nq cq, .int .i64 qlo, .int .i64 qhi, .int .i64 qva, .int .i64 qun]), Reg.eqv (.bool (UndoP.same ⟨pact, puk, ⟨pst, pk, ⟨pkd, pda, plo, phi, pva⟩⟩, pun⟩ ⟨qact, quk, ⟨qst, qk, ⟨qkd, qda, qlo, qhi, qva⟩⟩, qun⟩)), Reg.eqv (.agg #[.int .i64 pact, .string puk, .int .i64 pst, .string pk, .int .i64 pkd, .slice Ap np cp, .int .i64 plo, .int .i64 phi, .int .i64 pva, .int .i64 pun]), Reg.eqv (.agg #[.int .i64 qact, .string quk, .int .i64 qst, .string qk, .int .i64 qkd, .slice Aq nq cq, .int .i64 qlo, .int .i64 qhi, .int .i64 qva, .int .i64 qun]), Reg.eqv (.bool (UndoP.same ⟨pact, puk, ⟨pst, pk, ⟨pkd, pda, plo, phi, pva⟩⟩, pun⟩ ⟨qact, quk, ⟨qst, qk, ⟨qkd, qda, qlo, qhi, qva⟩⟩, qun⟩)), Reg.eqv (.bool false), Reg.eqv (.bool false)] 109 [[(7, none)], [], [(0, none)], [(45, some 1), (46, some 2)], [(4, none)], [(48, some 4)], [(47, some 3), (49, some 5)], [(44, some 0), (50, some 6)], [(51, some 7)], [(52, some 8)], [(8, none), (53, some 9)], [(54, some 10), (53, some 9)], [(4, none), (53, some 9)], [(56, some 12), (53, some 9)], [(55, some 11), (57, some 13), (53, some 9)], [(53, some 9), (58, some 14)], [(59, some 15)], [(8, none), (60, some 16)], [(61, some 17), (60, some 16)], [(62, some 18), (60, some 16)], [(8, none), (63, some 19)], [(64, some 20), (63, some 19)], [(63, some 19), (65, some 21), (60, some 16)], [(60, some 16), (66, some 22)], [(67, some 23)], [(4, none), (68, some 24)], [(5, none), (68, some 24)], [(69, some 25), (70, some 26), (68, some 24)], [(4, none), (68, some 24)], [(5, none), (68, some 24)], [(72, some 28), (73, some 29), (68, some 24)], [(71, some 27), (74, some 30), (68, some 24)], [(68, some 24), (75, some 31)]] rfl (by kernel_rfl) (by kernel_rfl) (fun _ _ h => Reg.app_zero h) (by kernel_rfl) ?_ [some 44, some 45, some 46, some 47, some 48, some 49, some 50, some 51, some 52, some 53, some 54, some 55, some 56, some 57, some 58, some 59, some 60, some 61, some 62, some 63, some 64, some 65, some 66, some 67, some 68, some 69, some 70, some 71, some 72, some 73, some 74, some 75, some 76] (by kernel_rfl) ?_
    · refine ⟨?_, ?_, ?_, ?_, ?_, ?_, ?_, ?_, ?_, ?_, ?_, ?_, ?_, ?_, ?_, ?_, ?_, ?_, ?_, ?_, ?_, ?_, ?_, ?_, ?_, ?_, ?_, ?_, ?_, ?_, ?_, ?_, ?_, trivial⟩
      · refine Reg.oblA_ord (C := (Reg.Chain.mk W4.heap.size 1 3 5 6 45 47 49 50 lb (UndoP.bytes ⟨pact, puk, ⟨pst, pk, ⟨pkd, pda, plo, phi, pva⟩⟩, pun⟩))) rfl ⟨(by show 0 ≠ 1; decide), (by show 0 ≠ 3; decide), (by show 0 ≠ 5; decide), (by show 0 ≠ 6; decide)⟩ ⟨(by show some 44 ≠ some 45; decide), (by show some 44 ≠ some 47; decide), (by show some 44 ≠ some 49; decide), (by show some 44 ≠ some 50; decide)⟩ ?_
        intro ax wx hx hs
        obtain ⟨e7, -⟩ := hs
        have g7 := Reg.ev (v := .slice Ac nc cc) e7
        exact Reg.obl_freeB rfl (Reg.wp_eqvB (Option.some_ne_none _) (by go_simp) rfl)
      · refine Reg.oblA_e (C := (Reg.Chain.mk W4.heap.size 1 3 5 6 45 47 49 50 lb (UndoP.bytes ⟨pact, puk, ⟨pst, pk, ⟨pkd, pda, plo, phi, pva⟩⟩, pun⟩))) rfl rfl rfl ⟨(by show 1 ≠ 3; decide), (by show 1 ≠ 5; decide), (by show 1 ≠ 6; decide)⟩ rfl ⟨(by show 45 ≠ 47; decide), (by show 45 ≠ 49; decide), (by show 45 ≠ 50; decide)⟩ (by show 45 < 109; decide) (by show 1 < 33; decide) (fun _ _ => trivial) ?_
        intro ax wx hx
        go_simp
      · refine Reg.oblA_ord (C := (Reg.Chain.mk W4.heap.size 1 3 5 6 45 47 49 50 lb (UndoP.bytes ⟨pact, puk, ⟨pst, pk, ⟨pkd, pda, plo, phi, pva⟩⟩, pun⟩))) rfl ⟨(by show 2 ≠ 1; decide), (by show 2 ≠ 3; decide), (by show 2 ≠ 5; decide), (by show 2 ≠ 6; decide)⟩ ⟨(by show some 46 ≠ some 45; decide), (by show some 46 ≠ some 47; decide), (by show some 46 ≠ some 49; decide), (by show some 46 ≠ some 50; decide)⟩ ?_
        intro ax wx hx hs
        obtain ⟨e0, -⟩ := hs
        have g0 := Reg.ev (v := .slice Ab nb cb) e0
        exact Reg.obl_freeB rfl (Reg.wp_eqvB (Option.some_ne_none _) (by go_simp) rfl)
      · refine Reg.oblA_p (C := (Reg.Chain.mk W4.heap.size 1 3 5 6 45 47 49 50 lb (UndoP.bytes ⟨pact, puk, ⟨pst, pk, ⟨pkd, pda, plo, phi, pva⟩⟩, pun⟩))) rfl rfl rfl ⟨(by show 3 ≠ 1; decide), (by show 3 ≠ 5; decide), (by show 3 ≠ 6; decide)⟩ rfl ⟨(by show 47 ≠ 45; decide), (by show 47 ≠ 49; decide), (by show 47 ≠ 50; decide)⟩ (by show 47 < 109; decide) (by show 3 < 33; decide) (by kernel_rfl) (fun _ _ => trivial) ?_
        intro ax wx g hx hs he hO
        obtain ⟨e45, e46, -⟩ := hs
        have g46 := Reg.ev (v := .slice Ab nb cb) e46
        have hx' : Below W4.heap.size W4 wx := hx
        have hyb := Hb.out.below (bstep HB_4.out hx')
        obtain ⟨A', c', w', happ, hO', hB', hg'⟩ := hO.appG hyb (by omega) hx'.size
        exact wp_app (.tmp 45) (.tmp 46) rfl rfl he e46 happ ⟨_, _, _, rfl, by simpa using hO', hg', hB'⟩
      · refine Reg.oblA_ord (C := (Reg.Chain.mk W4.heap.size 1 3 5 6 45 47 49 50 lb (UndoP.bytes ⟨pact, puk, ⟨pst, pk, ⟨pkd, pda, plo, phi, pva⟩⟩, pun⟩))) rfl ⟨(by show 4 ≠ 1; decide), (by show 4 ≠ 3; decide), (by show 4 ≠ 5; decide), (by show 4 ≠ 6; decide)⟩ ⟨(by show some 48 ≠ some 45; decide), (by show some 48 ≠ some 47; decide), (by show some 48 ≠ some 49; decide), (by show some 48 ≠ some 50; decide)⟩ ?_
        intro ax wx hx hs
        obtain ⟨e4, -⟩ := hs
        have g4 := Reg.ev (v := .pointer (some ⟨w.heap.size, 0, none⟩)) e4
        obtain ⟨hc, -⟩ := bcell hx
        exact Reg.obl_freeB rfl (Reg.wp_eqvB (Option.some_ne_none _) (by go_simp) rfl)
      · refine Reg.oblA_q (C := (Reg.Chain.mk W4.heap.size 1 3 5 6 45 47 49 50 lb (UndoP.bytes ⟨pact, puk, ⟨pst, pk, ⟨pkd, pda, plo, phi, pva⟩⟩, pun⟩))) rfl rfl rfl ⟨(by show 5 ≠ 1; decide), (by show 5 ≠ 3; decide), (by show 5 ≠ 6; decide)⟩ rfl ⟨(by show 49 ≠ 45; decide), (by show 49 ≠ 47; decide), (by show 49 ≠ 50; decide)⟩ (by show 49 < 109; decide) (by show 5 < 33; decide) (fun _ _ => trivial) ?_
        intro ax wx hx hs
        obtain ⟨e48, -⟩ := hs
        have g48 := Reg.ev (v := .agg #[.int .i64 pact, .string puk, .int .i64 pst, .string pk, .int .i64 pkd, .slice Ap np cp, .int .i64 plo, .int .i64 phi, .int .i64 pva, .int .i64 pun]) e48
        have hx' : Below W4.heap.size W4 wx := hx
        go_simp
        refine (RefUndoB.bytes_any pact puk Ap np cp w.heap.size pst pk pkd pda plo phi pva pun _ (Hp.out.below (bstep HB_4.out hx')) (bstep HB_4.out hx').size hpk huk).mono ?_
        rintro e wy ⟨A8, n8, c8, rfl, hy8, hby⟩
        exact ⟨A8, n8, c8, rfl, hy8, hby⟩
      · refine Reg.oblA_r (C := (Reg.Chain.mk W4.heap.size 1 3 5 6 45 47 49 50 lb (UndoP.bytes ⟨pact, puk, ⟨pst, pk, ⟨pkd, pda, plo, phi, pva⟩⟩, pun⟩))) rfl rfl rfl ⟨(by show 6 ≠ 1; decide), (by show 6 ≠ 3; decide), (by show 6 ≠ 5; decide)⟩ rfl (by show 50 < 109; decide) (by show 6 < 33; decide) (by kernel_rfl) (by kernel_rfl) (fun _ _ => trivial) ?_
        intro ax wx A1 n1 c1 A2 n2 c2 hx he1 hO he2 hY
        have hx' : Below W4.heap.size W4 wx := hx
        have hl1 := hO.len
        have hl2 := hY.len
        have hl3 := Hb.out.len
        obtain ⟨A', c', w', happ, hO', hB', hg'⟩ := hO.appG hY (by have := HBL.out; dsimp only at hl1 hl2; omega) hx'.size
        exact wp_app (.tmp 47) (.tmp 49) rfl rfl he1 he2 happ ⟨_, _, _, rfl, hO', hB'⟩
      · refine Reg.oblA_use (C := (Reg.Chain.mk W4.heap.size 1 3 5 6 45 47 49 50 lb (UndoP.bytes ⟨pact, puk, ⟨pst, pk, ⟨pkd, pda, plo, phi, pva⟩⟩, pun⟩))) rfl ⟨(by show 7 ≠ 1; decide), (by show 7 ≠ 3; decide), (by show 7 ≠ 5; decide), (by show 7 ≠ 6; decide)⟩ ⟨(by show some 51 ≠ some 45; decide), (by show some 51 ≠ some 47; decide), (by show some 51 ≠ some 49; decide), (by show some 51 ≠ some 50; decide)⟩ ?_
        intro ax wx hx hs hu
        obtain ⟨e44, e50, -⟩ := hs
        have g44 := Reg.ev (v := .slice Ac nc cc) e44
        refine Reg.obl_freeB rfl ?_
        have hx' : Below W4.heap.size W4 wx := hx
        obtain ⟨A8, n8, c8, e50', hy8⟩ := hu (by kernel_rfl)
        have g50 := Reg.ev e50'
        have hyc := (HYc_4.out.next hx')
        go_simp
        refine (Same.same_any _ _ _ _ _ _ _ _ _ _ _ hyc hy8).mono ?_
        rintro e wy ⟨rfl, rfl⟩
        rw [HEQ.out]
        exact Reg.doneB (Option.some_ne_none _) rfl (bsame _)
      · refine Reg.oblA_ord (C := (Reg.Chain.mk W4.heap.size 1 3 5 6 45 47 49 50 lb (UndoP.bytes ⟨pact, puk, ⟨pst, pk, ⟨pkd, pda, plo, phi, pva⟩⟩, pun⟩))) rfl ⟨(by show 8 ≠ 1; decide), (by show 8 ≠ 3; decide), (by show 8 ≠ 5; decide), (by show 8 ≠ 6; decide)⟩ ⟨(by show some 52 ≠ some 45; decide), (by show some 52 ≠ some 47; decide), (by show some 52 ≠ some 49; decide), (by show some 52 ≠ some 50; decide)⟩ ?_
        intro ax wx hx hs
        obtain ⟨e51, -⟩ := hs
        have g51 := Reg.ev (v := .bool true) e51
        exact Reg.obl_freeB rfl (Reg.wp_eqvB (Option.some_ne_none _) (by go_simp) rfl)
      · refine Reg.oblA_ord (C := (Reg.Chain.mk W4.heap.size 1 3 5 6 45 47 49 50 lb (UndoP.bytes ⟨pact, puk, ⟨pst, pk, ⟨pkd, pda, plo, phi, pva⟩⟩, pun⟩))) rfl ⟨(by show 9 ≠ 1; decide), (by show 9 ≠ 3; decide), (by show 9 ≠ 5; decide), (by show 9 ≠ 6; decide)⟩ ⟨(by show some 53 ≠ some 45; decide), (by show some 53 ≠ some 47; decide), (by show some 53 ≠ some 49; decide), (by show some 53 ≠ some 50; decide)⟩ ?_
        intro ax wx hx hs
        obtain ⟨e52, -⟩ := hs
        have g52 := Reg.ev (v := .bool false) e52
        exact Reg.obl_freeB rfl (Reg.wp_eqvB (Option.some_ne_none _) (by go_simp) rfl)
      · refine Reg.oblA_ord (C := (Reg.Chain.mk W4.heap.size 1 3 5 6 45 47 49 50 lb (UndoP.bytes ⟨pact, puk, ⟨pst, pk, ⟨pkd, pda, plo, phi, pva⟩⟩, pun⟩))) rfl ⟨(by show 10 ≠ 1; decide), (by show 10 ≠ 3; decide), (by show 10 ≠ 5; decide), (by show 10 ≠ 6; decide)⟩ ⟨(by show some 54 ≠ some 45; decide), (by show some 54 ≠ some 47; decide), (by show some 54 ≠ some 49; decide), (by show some 54 ≠ some 50; decide)⟩ ?_
        intro ax wx hx hs
        obtain ⟨e8, e53, -⟩ := hs
        have g8 := Reg.ev (v := .int .i64 0) e8
        have g53 := Reg.ev (v := .bool false) e53
        exact Reg.obl_wantB rfl rfl e53 (Reg.wp_eqvB (Option.some_ne_none _) (by go_simp) rfl)
      · refine Reg.oblA_ord (C := (Reg.Chain.mk W4.heap.size 1 3 5 6 45 47 49 50 lb (UndoP.bytes ⟨pact, puk, ⟨pst, pk, ⟨pkd, pda, plo, phi, pva⟩⟩, pun⟩))) rfl ⟨(by show 11 ≠ 1; decide), (by show 11 ≠ 3; decide), (by show 11 ≠ 5; decide), (by show 11 ≠ 6; decide)⟩ ⟨(by show some 55 ≠ some 45; decide), (by show some 55 ≠ some 47; decide), (by show some 55 ≠ some 49; decide), (by show some 55 ≠ some 50; decide)⟩ ?_
        intro ax wx hx hs
        obtain ⟨e54, e53, -⟩ := hs
        have g54 := Reg.ev (v := .int .i64 0) e54
        have g53 := Reg.ev (v := .bool false) e53
        exact Reg.obl_wantB rfl rfl e53 (Reg.wp_eqvB (Option.some_ne_none _) (by go_simp) rfl)
      · refine Reg.oblA_ord (C := (Reg.Chain.mk W4.heap.size 1 3 5 6 45 47 49 50 lb (UndoP.bytes ⟨pact, puk, ⟨pst, pk, ⟨pkd, pda, plo, phi, pva⟩⟩, pun⟩))) rfl ⟨(by show 12 ≠ 1; decide), (by show 12 ≠ 3; decide), (by show 12 ≠ 5; decide), (by show 12 ≠ 6; decide)⟩ ⟨(by show some 56 ≠ some 45; decide), (by show some 56 ≠ some 47; decide), (by show some 56 ≠ some 49; decide), (by show some 56 ≠ some 50; decide)⟩ ?_
        intro ax wx hx hs
        obtain ⟨e4, e53, -⟩ := hs
        have g4 := Reg.ev (v := .pointer (some ⟨w.heap.size, 0, none⟩)) e4
        have g53 := Reg.ev (v := .bool false) e53
        obtain ⟨hc, -⟩ := bcell hx
        exact Reg.obl_wantB rfl rfl e53 (Reg.wp_eqvB (Option.some_ne_none _) (by go_simp) rfl)
      · refine Reg.oblA_ord (C := (Reg.Chain.mk W4.heap.size 1 3 5 6 45 47 49 50 lb (UndoP.bytes ⟨pact, puk, ⟨pst, pk, ⟨pkd, pda, plo, phi, pva⟩⟩, pun⟩))) rfl ⟨(by show 13 ≠ 1; decide), (by show 13 ≠ 3; decide), (by show 13 ≠ 5; decide), (by show 13 ≠ 6; decide)⟩ ⟨(by show some 57 ≠ some 45; decide), (by show some 57 ≠ some 47; decide), (by show some 57 ≠ some 49; decide), (by show some 57 ≠ some 50; decide)⟩ ?_
        intro ax wx hx hs
        obtain ⟨e56, e53, -⟩ := hs
        have g56 := Reg.ev (v := .agg #[.int .i64 pact, .string puk, .int .i64 pst, .string pk, .int .i64 pkd, .slice Ap np cp, .int .i64 plo, .int .i64 phi, .int .i64 pva, .int .i64 pun]) e56
        have g53 := Reg.ev (v := .bool false) e53
        refine Reg.obl_wantB rfl rfl e53 ?_
        have hx' : Below W4.heap.size W4 wx := hx
        go_simp
        refine (right_any pact puk Ap np cp w.heap.size pst pk pkd pda plo phi pva pun _ (Hp.out.below (bstep HB_4.out hx')) (bstep HB_4.out hx').size hpk huk).mono ?_
        rintro e wy ⟨rfl, hby⟩
        rw [HR.out]
        exact Reg.doneB (Option.some_ne_none _) rfl hby
      · refine Reg.oblA_ord (C := (Reg.Chain.mk W4.heap.size 1 3 5 6 45 47 49 50 lb (UndoP.bytes ⟨pact, puk, ⟨pst, pk, ⟨pkd, pda, plo, phi, pva⟩⟩, pun⟩))) rfl ⟨(by show 14 ≠ 1; decide), (by show 14 ≠ 3; decide), (by show 14 ≠ 5; decide), (by show 14 ≠ 6; decide)⟩ ⟨(by show some 58 ≠ some 45; decide), (by show some 58 ≠ some 47; decide), (by show some 58 ≠ some 49; decide), (by show some 58 ≠ some 50; decide)⟩ ?_
        intro ax wx hx hs
        obtain ⟨e55, e57, e53, -⟩ := hs
        have g55 := Reg.ev (v := .bool true) e55
        have g57 := Reg.ev (v := .bool true) e57
        have g53 := Reg.ev (v := .bool false) e53
        exact Reg.obl_wantB rfl rfl e53 (Reg.wp_eqvB (Option.some_ne_none _) (by go_simp) rfl)
      · refine Reg.oblA_ord (C := (Reg.Chain.mk W4.heap.size 1 3 5 6 45 47 49 50 lb (UndoP.bytes ⟨pact, puk, ⟨pst, pk, ⟨pkd, pda, plo, phi, pva⟩⟩, pun⟩))) rfl ⟨(by show 15 ≠ 1; decide), (by show 15 ≠ 3; decide), (by show 15 ≠ 5; decide), (by show 15 ≠ 6; decide)⟩ ⟨(by show some 59 ≠ some 45; decide), (by show some 59 ≠ some 47; decide), (by show some 59 ≠ some 49; decide), (by show some 59 ≠ some 50; decide)⟩ ?_
        intro ax wx hx hs
        obtain ⟨e53, e58, -⟩ := hs
        have g53 := Reg.ev (v := .bool false) e53
        have g58 := Reg.ev (v := .bool false) e58
        exact Reg.obl_freeB rfl (Reg.wp_eqvB (Option.some_ne_none _) (by go_simp) rfl)
      · refine Reg.oblA_ord (C := (Reg.Chain.mk W4.heap.size 1 3 5 6 45 47 49 50 lb (UndoP.bytes ⟨pact, puk, ⟨pst, pk, ⟨pkd, pda, plo, phi, pva⟩⟩, pun⟩))) rfl ⟨(by show 16 ≠ 1; decide), (by show 16 ≠ 3; decide), (by show 16 ≠ 5; decide), (by show 16 ≠ 6; decide)⟩ ⟨(by show some 60 ≠ some 45; decide), (by show some 60 ≠ some 47; decide), (by show some 60 ≠ some 49; decide), (by show some 60 ≠ some 50; decide)⟩ ?_
        intro ax wx hx hs
        obtain ⟨e59, -⟩ := hs
        have g59 := Reg.ev (v := .bool false) e59
        exact Reg.obl_freeB rfl (Reg.wp_eqvB (Option.some_ne_none _) (by go_simp) rfl)
      · refine Reg.oblA_ord (C := (Reg.Chain.mk W4.heap.size 1 3 5 6 45 47 49 50 lb (UndoP.bytes ⟨pact, puk, ⟨pst, pk, ⟨pkd, pda, plo, phi, pva⟩⟩, pun⟩))) rfl ⟨(by show 17 ≠ 1; decide), (by show 17 ≠ 3; decide), (by show 17 ≠ 5; decide), (by show 17 ≠ 6; decide)⟩ ⟨(by show some 61 ≠ some 45; decide), (by show some 61 ≠ some 47; decide), (by show some 61 ≠ some 49; decide), (by show some 61 ≠ some 50; decide)⟩ ?_
        intro ax wx hx hs
        obtain ⟨e8, e60, -⟩ := hs
        have g8 := Reg.ev (v := .int .i64 0) e8
        have g60 := Reg.ev (v := .bool false) e60
        exact Reg.obl_wantB rfl rfl e60 (Reg.wp_eqvB (Option.some_ne_none _) (by go_simp) rfl)
      · refine Reg.oblA_ord (C := (Reg.Chain.mk W4.heap.size 1 3 5 6 45 47 49 50 lb (UndoP.bytes ⟨pact, puk, ⟨pst, pk, ⟨pkd, pda, plo, phi, pva⟩⟩, pun⟩))) rfl ⟨(by show 18 ≠ 1; decide), (by show 18 ≠ 3; decide), (by show 18 ≠ 5; decide), (by show 18 ≠ 6; decide)⟩ ⟨(by show some 62 ≠ some 45; decide), (by show some 62 ≠ some 47; decide), (by show some 62 ≠ some 49; decide), (by show some 62 ≠ some 50; decide)⟩ ?_
        intro ax wx hx hs
        obtain ⟨e61, e60, -⟩ := hs
        have g61 := Reg.ev (v := .int .i64 0) e61
        have g60 := Reg.ev (v := .bool false) e60
        exact Reg.obl_wantB rfl rfl e60 (Reg.wp_eqvB (Option.some_ne_none _) (by go_simp) rfl)
      · refine Reg.oblA_ord (C := (Reg.Chain.mk W4.heap.size 1 3 5 6 45 47 49 50 lb (UndoP.bytes ⟨pact, puk, ⟨pst, pk, ⟨pkd, pda, plo, phi, pva⟩⟩, pun⟩))) rfl ⟨(by show 19 ≠ 1; decide), (by show 19 ≠ 3; decide), (by show 19 ≠ 5; decide), (by show 19 ≠ 6; decide)⟩ ⟨(by show some 63 ≠ some 45; decide), (by show some 63 ≠ some 47; decide), (by show some 63 ≠ some 49; decide), (by show some 63 ≠ some 50; decide)⟩ ?_
        intro ax wx hx hs
        obtain ⟨e62, e60, -⟩ := hs
        have g62 := Reg.ev (v := .bool false) e62
        have g60 := Reg.ev (v := .bool false) e60
        exact Reg.obl_wantB rfl rfl e60 (Reg.wp_eqvB (Option.some_ne_none _) (by go_simp) rfl)
      · refine Reg.oblA_ord (C := (Reg.Chain.mk W4.heap.size 1 3 5 6 45 47 49 50 lb (UndoP.bytes ⟨pact, puk, ⟨pst, pk, ⟨pkd, pda, plo, phi, pva⟩⟩, pun⟩))) rfl ⟨(by show 20 ≠ 1; decide), (by show 20 ≠ 3; decide), (by show 20 ≠ 5; decide), (by show 20 ≠ 6; decide)⟩ ⟨(by show some 64 ≠ some 45; decide), (by show some 64 ≠ some 47; decide), (by show some 64 ≠ some 49; decide), (by show some 64 ≠ some 50; decide)⟩ ?_
        intro ax wx hx hs
        obtain ⟨e8, e63, -⟩ := hs
        have g8 := Reg.ev (v := .int .i64 0) e8
        have g63 := Reg.ev (v := .bool false) e63
        exact Reg.obl_skipB rfl rfl e63 rfl rfl
      · refine Reg.oblA_ord (C := (Reg.Chain.mk W4.heap.size 1 3 5 6 45 47 49 50 lb (UndoP.bytes ⟨pact, puk, ⟨pst, pk, ⟨pkd, pda, plo, phi, pva⟩⟩, pun⟩))) rfl ⟨(by show 21 ≠ 1; decide), (by show 21 ≠ 3; decide), (by show 21 ≠ 5; decide), (by show 21 ≠ 6; decide)⟩ ⟨(by show some 65 ≠ some 45; decide), (by show some 65 ≠ some 47; decide), (by show some 65 ≠ some 49; decide), (by show some 65 ≠ some 50; decide)⟩ ?_
        intro ax wx hx hs
        obtain ⟨e64, e63, -⟩ := hs
        have g64 := Reg.ev (v := undef) e64
        have g63 := Reg.ev (v := .bool false) e63
        exact Reg.obl_skipB rfl rfl e63 rfl rfl
      · refine Reg.oblA_ord (C := (Reg.Chain.mk W4.heap.size 1 3 5 6 45 47 49 50 lb (UndoP.bytes ⟨pact, puk, ⟨pst, pk, ⟨pkd, pda, plo, phi, pva⟩⟩, pun⟩))) rfl ⟨(by show 22 ≠ 1; decide), (by show 22 ≠ 3; decide), (by show 22 ≠ 5; decide), (by show 22 ≠ 6; decide)⟩ ⟨(by show some 66 ≠ some 45; decide), (by show some 66 ≠ some 47; decide), (by show some 66 ≠ some 49; decide), (by show some 66 ≠ some 50; decide)⟩ ?_
        intro ax wx hx hs
        obtain ⟨e63, e65, e60, -⟩ := hs
        have g63 := Reg.ev (v := .bool false) e63
        have g65 := Reg.ev (v := undef) e65
        have g60 := Reg.ev (v := .bool false) e60
        exact Reg.obl_wantB rfl rfl e60 (Reg.wp_eqvB (Option.some_ne_none _) (by go_simp) rfl)
      · refine Reg.oblA_ord (C := (Reg.Chain.mk W4.heap.size 1 3 5 6 45 47 49 50 lb (UndoP.bytes ⟨pact, puk, ⟨pst, pk, ⟨pkd, pda, plo, phi, pva⟩⟩, pun⟩))) rfl ⟨(by show 23 ≠ 1; decide), (by show 23 ≠ 3; decide), (by show 23 ≠ 5; decide), (by show 23 ≠ 6; decide)⟩ ⟨(by show some 67 ≠ some 45; decide), (by show some 67 ≠ some 47; decide), (by show some 67 ≠ some 49; decide), (by show some 67 ≠ some 50; decide)⟩ ?_
        intro ax wx hx hs
        obtain ⟨e60, e66, -⟩ := hs
        have g60 := Reg.ev (v := .bool false) e60
        have g66 := Reg.ev (v := .bool false) e66
        exact Reg.obl_freeB rfl (Reg.wp_eqvB (Option.some_ne_none _) (by go_simp) rfl)
      · refine Reg.oblA_ord (C := (Reg.Chain.mk W4.heap.size 1 3 5 6 45 47 49 50 lb (UndoP.bytes ⟨pact, puk, ⟨pst, pk, ⟨pkd, pda, plo, phi, pva⟩⟩, pun⟩))) rfl ⟨(by show 24 ≠ 1; decide), (by show 24 ≠ 3; decide), (by show 24 ≠ 5; decide), (by show 24 ≠ 6; decide)⟩ ⟨(by show some 68 ≠ some 45; decide), (by show some 68 ≠ some 47; decide), (by show some 68 ≠ some 49; decide), (by show some 68 ≠ some 50; decide)⟩ ?_
        intro ax wx hx hs
        obtain ⟨e67, -⟩ := hs
        have g67 := Reg.ev (v := .bool false) e67
        exact Reg.obl_freeB rfl (Reg.wp_eqvB (Option.some_ne_none _) (by go_simp) rfl)
      · refine Reg.oblA_ord (C := (Reg.Chain.mk W4.heap.size 1 3 5 6 45 47 49 50 lb (UndoP.bytes ⟨pact, puk, ⟨pst, pk, ⟨pkd, pda, plo, phi, pva⟩⟩, pun⟩))) rfl ⟨(by show 25 ≠ 1; decide), (by show 25 ≠ 3; decide), (by show 25 ≠ 5; decide), (by show 25 ≠ 6; decide)⟩ ⟨(by show some 69 ≠ some 45; decide), (by show some 69 ≠ some 47; decide), (by show some 69 ≠ some 49; decide), (by show some 69 ≠ some 50; decide)⟩ ?_
        intro ax wx hx hs
        obtain ⟨e4, e68, -⟩ := hs
        have g4 := Reg.ev (v := .pointer (some ⟨w.heap.size, 0, none⟩)) e4
        have g68 := Reg.ev (v := .bool false) e68
        obtain ⟨hc, -⟩ := bcell hx
        exact Reg.obl_wantB rfl rfl e68 (Reg.wp_eqvB (Option.some_ne_none _) (by go_simp) rfl)
      · refine Reg.oblA_ord (C := (Reg.Chain.mk W4.heap.size 1 3 5 6 45 47 49 50 lb (UndoP.bytes ⟨pact, puk, ⟨pst, pk, ⟨pkd, pda, plo, phi, pva⟩⟩, pun⟩))) rfl ⟨(by show 26 ≠ 1; decide), (by show 26 ≠ 3; decide), (by show 26 ≠ 5; decide), (by show 26 ≠ 6; decide)⟩ ⟨(by show some 70 ≠ some 45; decide), (by show some 70 ≠ some 47; decide), (by show some 70 ≠ some 49; decide), (by show some 70 ≠ some 50; decide)⟩ ?_
        intro ax wx hx hs
        obtain ⟨e5, e68, -⟩ := hs
        have g5 := Reg.ev (v := .pointer (some ⟨w.heap.size + 1, 0, none⟩)) e5
        have g68 := Reg.ev (v := .bool false) e68
        obtain ⟨hc, -⟩ := bcell hx
        exact Reg.obl_wantB rfl rfl e68 (Reg.wp_eqvB (Option.some_ne_none _) (by go_simp) rfl)
      · refine Reg.oblA_ord (C := (Reg.Chain.mk W4.heap.size 1 3 5 6 45 47 49 50 lb (UndoP.bytes ⟨pact, puk, ⟨pst, pk, ⟨pkd, pda, plo, phi, pva⟩⟩, pun⟩))) rfl ⟨(by show 27 ≠ 1; decide), (by show 27 ≠ 3; decide), (by show 27 ≠ 5; decide), (by show 27 ≠ 6; decide)⟩ ⟨(by show some 71 ≠ some 45; decide), (by show some 71 ≠ some 47; decide), (by show some 71 ≠ some 49; decide), (by show some 71 ≠ some 50; decide)⟩ ?_
        intro ax wx hx hs
        obtain ⟨e69, e70, e68, -⟩ := hs
        have g69 := Reg.ev (v := .agg #[.int .i64 pact, .string puk, .int .i64 pst, .string pk, .int .i64 pkd, .slice Ap np cp, .int .i64 plo, .int .i64 phi, .int .i64 pva, .int .i64 pun]) e69
        have g70 := Reg.ev (v := .agg #[.int .i64 qact, .string quk, .int .i64 qst, .string qk, .int .i64 qkd, .slice Aq nq cq, .int .i64 qlo, .int .i64 qhi, .int .i64 qva, .int .i64 qun]) e70
        have g68 := Reg.ev (v := .bool false) e68
        refine Reg.obl_wantB rfl rfl e68 ?_
        have hx' : Below W4.heap.size W4 wx := hx
        go_simp
        refine (same_any pact puk Ap np cp w.heap.size pst pk pkd pda plo phi pva pun qact quk Aq nq cq w.heap.size qst qk qkd qda qlo qhi qva qun _ (Hp.out.below (bstep HB_4.out hx')) (bstep HB_4.out hx').size (Hq.out.below (bstep HB_4.out hx')) (bstep HB_4.out hx').size).mono ?_
        rintro e wy ⟨rfl, hby⟩
        exact Reg.doneB (Option.some_ne_none _) rfl hby
      · refine Reg.oblA_ord (C := (Reg.Chain.mk W4.heap.size 1 3 5 6 45 47 49 50 lb (UndoP.bytes ⟨pact, puk, ⟨pst, pk, ⟨pkd, pda, plo, phi, pva⟩⟩, pun⟩))) rfl ⟨(by show 28 ≠ 1; decide), (by show 28 ≠ 3; decide), (by show 28 ≠ 5; decide), (by show 28 ≠ 6; decide)⟩ ⟨(by show some 72 ≠ some 45; decide), (by show some 72 ≠ some 47; decide), (by show some 72 ≠ some 49; decide), (by show some 72 ≠ some 50; decide)⟩ ?_
        intro ax wx hx hs
        obtain ⟨e4, e68, -⟩ := hs
        have g4 := Reg.ev (v := .pointer (some ⟨w.heap.size, 0, none⟩)) e4
        have g68 := Reg.ev (v := .bool false) e68
        obtain ⟨hc, -⟩ := bcell hx
        exact Reg.obl_wantB rfl rfl e68 (Reg.wp_eqvB (Option.some_ne_none _) (by go_simp) rfl)
      · refine Reg.oblA_ord (C := (Reg.Chain.mk W4.heap.size 1 3 5 6 45 47 49 50 lb (UndoP.bytes ⟨pact, puk, ⟨pst, pk, ⟨pkd, pda, plo, phi, pva⟩⟩, pun⟩))) rfl ⟨(by show 29 ≠ 1; decide), (by show 29 ≠ 3; decide), (by show 29 ≠ 5; decide), (by show 29 ≠ 6; decide)⟩ ⟨(by show some 73 ≠ some 45; decide), (by show some 73 ≠ some 47; decide), (by show some 73 ≠ some 49; decide), (by show some 73 ≠ some 50; decide)⟩ ?_
        intro ax wx hx hs
        obtain ⟨e5, e68, -⟩ := hs
        have g5 := Reg.ev (v := .pointer (some ⟨w.heap.size + 1, 0, none⟩)) e5
        have g68 := Reg.ev (v := .bool false) e68
        obtain ⟨hc, -⟩ := bcell hx
        exact Reg.obl_wantB rfl rfl e68 (Reg.wp_eqvB (Option.some_ne_none _) (by go_simp) rfl)
      · refine Reg.oblA_ord (C := (Reg.Chain.mk W4.heap.size 1 3 5 6 45 47 49 50 lb (UndoP.bytes ⟨pact, puk, ⟨pst, pk, ⟨pkd, pda, plo, phi, pva⟩⟩, pun⟩))) rfl ⟨(by show 30 ≠ 1; decide), (by show 30 ≠ 3; decide), (by show 30 ≠ 5; decide), (by show 30 ≠ 6; decide)⟩ ⟨(by show some 74 ≠ some 45; decide), (by show some 74 ≠ some 47; decide), (by show some 74 ≠ some 49; decide), (by show some 74 ≠ some 50; decide)⟩ ?_
        intro ax wx hx hs
        obtain ⟨e72, e73, e68, -⟩ := hs
        have g72 := Reg.ev (v := .agg #[.int .i64 pact, .string puk, .int .i64 pst, .string pk, .int .i64 pkd, .slice Ap np cp, .int .i64 plo, .int .i64 phi, .int .i64 pva, .int .i64 pun]) e72
        have g73 := Reg.ev (v := .agg #[.int .i64 qact, .string quk, .int .i64 qst, .string qk, .int .i64 qkd, .slice Aq nq cq, .int .i64 qlo, .int .i64 qhi, .int .i64 qva, .int .i64 qun]) e73
        have g68 := Reg.ev (v := .bool false) e68
        refine Reg.obl_wantB rfl rfl e68 ?_
        have hx' : Below W4.heap.size W4 wx := hx
        go_simp
        refine (refSame_any pact puk Ap np cp w.heap.size pst pk pkd pda plo phi pva pun qact quk Aq nq cq w.heap.size qst qk qkd qda qlo qhi qva qun _ (Hp.out.below (bstep HB_4.out hx')) (bstep HB_4.out hx').size (Hq.out.below (bstep HB_4.out hx')) (bstep HB_4.out hx').size).mono ?_
        rintro e wy ⟨rfl, hby⟩
        exact Reg.doneB (Option.some_ne_none _) rfl hby
      · refine Reg.oblA_ord (C := (Reg.Chain.mk W4.heap.size 1 3 5 6 45 47 49 50 lb (UndoP.bytes ⟨pact, puk, ⟨pst, pk, ⟨pkd, pda, plo, phi, pva⟩⟩, pun⟩))) rfl ⟨(by show 31 ≠ 1; decide), (by show 31 ≠ 3; decide), (by show 31 ≠ 5; decide), (by show 31 ≠ 6; decide)⟩ ⟨(by show some 75 ≠ some 45; decide), (by show some 75 ≠ some 47; decide), (by show some 75 ≠ some 49; decide), (by show some 75 ≠ some 50; decide)⟩ ?_
        intro ax wx hx hs
        obtain ⟨e71, e74, e68, -⟩ := hs
        have g71 := Reg.ev (v := .bool (UndoP.same ⟨pact, puk, ⟨pst, pk, ⟨pkd, pda, plo, phi, pva⟩⟩, pun⟩ ⟨qact, quk, ⟨qst, qk, ⟨qkd, qda, qlo, qhi, qva⟩⟩, qun⟩)) e71
        have g74 := Reg.ev (v := .bool (UndoP.same ⟨pact, puk, ⟨pst, pk, ⟨pkd, pda, plo, phi, pva⟩⟩, pun⟩ ⟨qact, quk, ⟨qst, qk, ⟨qkd, qda, qlo, qhi, qva⟩⟩, qun⟩)) e74
        have g68 := Reg.ev (v := .bool false) e68
        exact Reg.obl_wantB rfl rfl e68 (Reg.wp_eqvB (Option.some_ne_none _) (by go_simp) rfl)
      · refine Reg.oblA_ord (C := (Reg.Chain.mk W4.heap.size 1 3 5 6 45 47 49 50 lb (UndoP.bytes ⟨pact, puk, ⟨pst, pk, ⟨pkd, pda, plo, phi, pva⟩⟩, pun⟩))) rfl ⟨(by show 32 ≠ 1; decide), (by show 32 ≠ 3; decide), (by show 32 ≠ 5; decide), (by show 32 ≠ 6; decide)⟩ ⟨(by show some 76 ≠ some 45; decide), (by show some 76 ≠ some 47; decide), (by show some 76 ≠ some 49; decide), (by show some 76 ≠ some 50; decide)⟩ ?_
        intro ax wx hx hs
        obtain ⟨e68, e75, -⟩ := hs
        have g68 := Reg.ev (v := .bool false) e68
        have g75 := Reg.ev (v := .bool false) e75
        exact Reg.obl_freeB rfl (Reg.wp_eqvB (Option.some_ne_none _) (by go_simp) rfl)
    · intro W5 listed hwf hall
      simp only [Reg.Fin]
      rintro _ rfl v45 h45 _ rfl v47 h47 _ rfl v49 h49 v50 h50 _ rfl _ rfl _ rfl _ rfl _ rfl _ rfl _ rfl _ rfl _ rfl _ rfl _ rfl _ rfl _ rfl _ rfl _ rfl _ rfl _ rfl _ rfl _ rfl _ rfl _ rfl _ rfl _ rfl _ rfl _ rfl _ rfl
      intro hJ
      clear hJ hall
      go_simp
      have hwf1 : Below W4.heap.size W4 W5 := hwf
      clear hwf
      have HS0_5 := Lib.hid (HS0_4.out.next hwf1)
      have HS1_5 := Lib.hid (HS1_4.out.next hwf1)
      have HB_5 := Lib.hid (bstep HB_4.out hwf1)
      have hw_5 := HB_5.out.size
      have hws_5 := (hwf1).size
      have HYc_5 := Lib.hid (HYc_4.out.next hwf1)
      clear HYc_4
      clear f0_4_0 f0_4_1 f0_4_2 f0_4_3 f0_4_4 f0_4_5 f0_4_6 f0_4_7 f0_4_8 f0_4_9 HS0_4 f1_4_0 f1_4_1 f1_4_2 f1_4_3 f1_4_4 f1_4_5 f1_4_6 f1_4_7 f1_4_8 f1_4_9 HS1_4
      clear hwf1
      obtain ⟨f0_5_0, f0_5_1, f0_5_2, f0_5_3, f0_5_4, f0_5_5, f0_5_6, f0_5_7, f0_5_8, f0_5_9⟩ := str10 HS0_5.out
      have hl0_5 := HS0_5.out.lt
      obtain ⟨f1_5_0, f1_5_1, f1_5_2, f1_5_3, f1_5_4, f1_5_5, f1_5_6, f1_5_7, f1_5_8, f1_5_9⟩ := str10 HS1_5.out
      have hl1_5 := HS1_5.out.lt
      have hlc := HYc_5.out.len
      have hlb := Hb.out.len
      rw [List.length_append, hlb] at hlc
      have hle2 := HYc_5.out.2.1
      have hle3 := HYc_5.out.2.2.1
      unfold maxLen at hle3
      have hle1 : nb ≤ nc := by omega
      have hsm : nc - nb ≤ 1000000 := by have := HBL.out; omega
      have hcut := HYc_5.out.cut nb nc cc hle1 (Nat.le_refl _) hle2 (Nat.le_refl _)
      rw [List.drop_left' hlb, List.take_of_length_le (by omega)] at hcut
      have HGT : Hid (∀ (A : Option Addr) (n c : Nat) W, Bytes W W.heap.size A n c (UndoP.bytes ⟨pact, puk, ⟨pst, pk, ⟨pkd, pda, plo, phi, pva⟩⟩, pun⟩) → n ≤ 1000000 → Calls Try.prog 78 #[.slice A n c] W (GotUndo W (⟨pact, puk, ⟨pst, pk, ⟨pkd, pda, plo, phi, pva⟩⟩, pun⟩, (nc : Int) - (nb : Int), 0))) := Lib.hid (fun A n c W h hn => by have hg := get_any A n c W.heap.size _ W h (Nat.le_refl _) hn; rw [UndoP.get_bytes _ HR.out HPN.out HPI.out, show ((UndoP.bytes ⟨pact, puk, ⟨pst, pk, ⟨pkd, pda, plo, phi, pva⟩⟩, pun⟩).length : Int) = (nc : Int) - (nb : Int) by omega] at hg; exact hg)
      have HCUT := Lib.hid hcut
      clear hlc hlb hcut
      go_wp2_with fail
      refine (HGT.out _ _ _ _ HCUT.out hsm).mono ?_
      rintro e W6 ⟨A7, n7, c7, rfl, hy7, hb6⟩
      dsimp only at *
      clear HCUT HGT
      have HS0_6 := Lib.hid (HS0_5.out.next hb6)
      have HS1_6 := Lib.hid (HS1_5.out.next hb6)
      have HB_6 := Lib.hid (bstep HB_5.out hb6)
      have hw_6 := HB_6.out.size
      have hws_6 := (hb6).size
      have HYc_6 := Lib.hid (HYc_5.out.next hb6)
      clear HYc_5
      clear f0_5_0 f0_5_1 f0_5_2 f0_5_3 f0_5_4 f0_5_5 f0_5_6 f0_5_7 f0_5_8 f0_5_9 HS0_5 f1_5_0 f1_5_1 f1_5_2 f1_5_3 f1_5_4 f1_5_5 f1_5_6 f1_5_7 f1_5_8 f1_5_9 HS1_5
      clear hb6
      obtain ⟨f0_6_0, f0_6_1, f0_6_2, f0_6_3, f0_6_4, f0_6_5, f0_6_6, f0_6_7, f0_6_8, f0_6_9⟩ := str10 HS0_6.out
      have hl0_6 := HS0_6.out.lt
      obtain ⟨f1_6_0, f1_6_1, f1_6_2, f1_6_3, f1_6_4, f1_6_5, f1_6_6, f1_6_7, f1_6_8, f1_6_9⟩ := str10 HS1_6.out
      have hl1_6 := HS1_6.out.lt
      have HYg_6 := Lib.hid (hy7)
      clear hy7
      go_wp2_with fail
      generalize hW7 : W6.alloc (.cells #[.int .i64 pact, .string puk, .int .i64 pst, .string pk, .int .i64 pkd, .slice A7 n7 c7, .int .i64 plo, .int .i64 phi, .int .i64 pva, .int .i64 pun] 79) = W7
      have HS0_7 : Hid (Str W7 (w.heap.size) #[.int .i64 pact, .string puk, .int .i64 pst, .string pk, .int .i64 pkd, .slice Ap np cp, .int .i64 plo, .int .i64 phi, .int .i64 pva, .int .i64 pun]) := Lib.hid (by rw [← hW7]; exact HS0_6.out.alloc _)
      have HS1_7 : Hid (Str W7 (w.heap.size + 1) #[.int .i64 qact, .string quk, .int .i64 qst, .string qk, .int .i64 qkd, .slice Aq nq cq, .int .i64 qlo, .int .i64 qhi, .int .i64 qva, .int .i64 qun]) := Lib.hid (by rw [← hW7]; exact HS1_6.out.alloc _)
      have HS2_7 : Hid (Str W7 W6.heap.size #[.int .i64 pact, .string puk, .int .i64 pst, .string pk, .int .i64 pkd, .slice A7 n7 c7, .int .i64 plo, .int .i64 phi, .int .i64 pva, .int .i64 pun]) := Lib.hid (by rw [← hW7]; exact Str.new W6 #[.int .i64 pact, .string puk, .int .i64 pst, .string pk, .int .i64 pkd, .slice A7 n7 c7, .int .i64 plo, .int .i64 phi, .int .i64 pva, .int .i64 pun] 79)
      have hba7 : Below W6.heap.size W6 W7 := by rw [← hW7]; exact balloc (bsame _) _
      have HB_7 := Lib.hid (bstep HB_6.out hba7)
      have hw_7 := HB_7.out.size
      have hws_7 := hba7.size
      have HYc_7 := Lib.hid (HYc_6.out.next hba7)
      have HYg_7 := Lib.hid (HYg_6.out.next hba7)
      clear HYc_6 HYg_6
      clear hW7
      clear f0_6_0 f0_6_1 f0_6_2 f0_6_3 f0_6_4 f0_6_5 f0_6_6 f0_6_7 f0_6_8 f0_6_9 HS0_6 f1_6_0 f1_6_1 f1_6_2 f1_6_3 f1_6_4 f1_6_5 f1_6_6 f1_6_7 f1_6_8 f1_6_9 HS1_6
      obtain ⟨f0_7_0, f0_7_1, f0_7_2, f0_7_3, f0_7_4, f0_7_5, f0_7_6, f0_7_7, f0_7_8, f0_7_9⟩ := str10 HS0_7.out
      have hl0_7 := HS0_7.out.lt
      obtain ⟨f1_7_0, f1_7_1, f1_7_2, f1_7_3, f1_7_4, f1_7_5, f1_7_6, f1_7_7, f1_7_8, f1_7_9⟩ := str10 HS1_7.out
      have hl1_7 := HS1_7.out.lt
      obtain ⟨f2_7_0, f2_7_1, f2_7_2, f2_7_3, f2_7_4, f2_7_5, f2_7_6, f2_7_7, f2_7_8, f2_7_9⟩ := str10 HS2_7.out
      have hl2_7 := HS2_7.out.lt
      clear hba7
      refine (Live17.code_any _ _).mono ?_
      rintro e w_ ⟨rfl, rfl⟩
      go_wp2_with fail
      refine (refSame_any pact puk A7 n7 c7 W7.heap.size pst pk pkd pda plo phi pva pun pact puk Ap np cp w.heap.size pst pk pkd pda plo phi pva pun _ HYg_7.out (Nat.le_refl _) (Hp.out.below HB_7.out) HB_7.out.size).mono ?_
      rintro e W8 ⟨rfl, hb8⟩
      rw [UndoP.same_self]
      have HS0_8 := Lib.hid (HS0_7.out.next hb8)
      have HS1_8 := Lib.hid (HS1_7.out.next hb8)
      have HS2_8 := Lib.hid (HS2_7.out.next hb8)
      have HB_8 := Lib.hid (bstep HB_7.out hb8)
      have hw_8 := HB_8.out.size
      have hws_8 := (hb8).size
      have HYc_8 := Lib.hid (HYc_7.out.next hb8)
      have HYg_8 := Lib.hid (HYg_7.out.next hb8)
      clear HYc_7 HYg_7
      clear f0_7_0 f0_7_1 f0_7_2 f0_7_3 f0_7_4 f0_7_5 f0_7_6 f0_7_7 f0_7_8 f0_7_9 HS0_7 f1_7_0 f1_7_1 f1_7_2 f1_7_3 f1_7_4 f1_7_5 f1_7_6 f1_7_7 f1_7_8 f1_7_9 HS1_7 f2_7_0 f2_7_1 f2_7_2 f2_7_3 f2_7_4 f2_7_5 f2_7_6 f2_7_7 f2_7_8 f2_7_9 HS2_7
      clear hb8
      obtain ⟨f0_8_0, f0_8_1, f0_8_2, f0_8_3, f0_8_4, f0_8_5, f0_8_6, f0_8_7, f0_8_8, f0_8_9⟩ := str10 HS0_8.out
      have hl0_8 := HS0_8.out.lt
      obtain ⟨f1_8_0, f1_8_1, f1_8_2, f1_8_3, f1_8_4, f1_8_5, f1_8_6, f1_8_7, f1_8_8, f1_8_9⟩ := str10 HS1_8.out
      have hl1_8 := HS1_8.out.lt
      obtain ⟨f2_8_0, f2_8_1, f2_8_2, f2_8_3, f2_8_4, f2_8_5, f2_8_6, f2_8_7, f2_8_8, f2_8_9⟩ := str10 HS2_8.out
      have hl2_8 := HS2_8.out.lt
      go_wp2_with fail
      refine (Live17.live_any _).mono ?_
      rintro e W9 ⟨rfl, hb9⟩
      have HS0_9 := Lib.hid (HS0_8.out.next hb9)
      have HS1_9 := Lib.hid (HS1_8.out.next hb9)
      have HS2_9 := Lib.hid (HS2_8.out.next hb9)
      have HB_9 := Lib.hid (bstep HB_8.out hb9)
      have hw_9 := HB_9.out.size
      have hws_9 := (hb9).size
      have HYc_9 := Lib.hid (HYc_8.out.next hb9)
      have HYg_9 := Lib.hid (HYg_8.out.next hb9)
      clear HYc_8 HYg_8
      clear f0_8_0 f0_8_1 f0_8_2 f0_8_3 f0_8_4 f0_8_5 f0_8_6 f0_8_7 f0_8_8 f0_8_9 HS0_8 f1_8_0 f1_8_1 f1_8_2 f1_8_3 f1_8_4 f1_8_5 f1_8_6 f1_8_7 f1_8_8 f1_8_9 HS1_8 f2_8_0 f2_8_1 f2_8_2 f2_8_3 f2_8_4 f2_8_5 f2_8_6 f2_8_7 f2_8_8 f2_8_9 HS2_8
      clear hb9
      obtain ⟨f0_9_0, f0_9_1, f0_9_2, f0_9_3, f0_9_4, f0_9_5, f0_9_6, f0_9_7, f0_9_8, f0_9_9⟩ := str10 HS0_9.out
      have hl0_9 := HS0_9.out.lt
      obtain ⟨f1_9_0, f1_9_1, f1_9_2, f1_9_3, f1_9_4, f1_9_5, f1_9_6, f1_9_7, f1_9_8, f1_9_9⟩ := str10 HS1_9.out
      have hl1_9 := HS1_9.out.lt
      obtain ⟨f2_9_0, f2_9_1, f2_9_2, f2_9_3, f2_9_4, f2_9_5, f2_9_6, f2_9_7, f2_9_8, f2_9_9⟩ := str10 HS2_9.out
      have hl2_9 := HS2_9.out.lt
      go_wp2_with fail
      go_ret
      exact ⟨rfl, HB_9.out⟩
end Go.Proofs.Ytjengjbkdflapaa.undoPuts
