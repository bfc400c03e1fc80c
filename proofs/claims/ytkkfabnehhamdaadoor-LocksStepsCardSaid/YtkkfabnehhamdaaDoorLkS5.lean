/-
  Parts of the proof of LocksSteps.
-/
import Derived.Test.YtkkfabnehhamdaaDoorLkS4
import Derived.Test.YtkkfabnehhamdaaDoorLkS3
import Derived.Test.YtkkfabnehhamdaaDoorLkS2
section
namespace Go.Proofs.YtkkfabnehhamdaaDoor
open Go.RowKit
set_option linter.unusedVariables false

/-- blocks hidden -/
def hideL (w : World) : List Nat → World
  | [] => w
  | g :: bs => hide (hideL w bs) g
theorem hideL_in (w : World) (p : Addr) : ∀ bs, p.block ∈ bs → (hideL w bs).cell? p = none
  | g :: bs, h => by
    by_cases e : p.block = g
    · subst e; exact hide_none _ p
    · show (hide (hideL w bs) g).cell? p = none
      rw [hide_other _ g p e]
      exact hideL_in w p bs (by rcases List.mem_cons.1 h with h | h; exact absurd h e; exact h)
theorem hideL_out (w : World) (p : Addr) : ∀ bs, p.block ∉ bs → (hideL w bs).cell? p = w.cell? p
  | [], _ => rfl
  | g :: bs, h => by
    rw [List.mem_cons, not_or] at h
    show (hide (hideL w bs) g).cell? p = _
    rw [hide_other _ g p h.1]
    exact hideL_out w p bs h.2
theorem sub_hideL (B : Nat) (w : World) (bs : List Nat) : Sub B (hideL w bs) w := by
  intro p v hp hv
  by_cases h : p.block ∈ bs
  · rw [hideL_in w p bs h] at hv; cases hv
  · rwa [hideL_out w p bs h] at hv
theorem hideL_sub_of {B : Nat} {w w' : World} {bs bs' : List Nat} (h : ∀ k, k < B → k ∉ bs → k ∉ bs' ∧ w'.heap[k]? = w.heap[k]?) : Sub B (hideL w bs) (hideL w' bs') := by
  intro p v hp hv
  by_cases hg : p.block ∈ bs
  · rw [hideL_in w p bs hg] at hv; cases hv
  · obtain ⟨h1, h2⟩ := h _ hp hg
    rw [hideL_out w p bs hg] at hv
    rw [hideL_out w' p bs' h1, World.cell?_of_block h2]
    exact hv
theorem hideL_below {B : Nat} {w w' : World} (bs : List Nat) (h : Below B w w') : Sub B (hideL w bs) (hideL w' bs) := hideL_sub_of fun k hk hn => ⟨hn, h.block k hk⟩
/-- bytes do not hang on rows without bytes -/
theorem Bytes.hideL {w : World} {B n c : Nat} {A : Option Addr} {l : List UInt8} (h : Bytes w B A n c l) (bs : List Nat) (hn : ∀ b ∈ bs, ∃ cs, Str w b cs ∧ notU8 cs = true) : Bytes (hideL w bs) B A n c l := by
  obtain ⟨h1, h2, h3, h4⟩ := h
  refine ⟨h1, h2, h3, fun hpos => ?_⟩
  obtain ⟨b, o, e, hb, hc⟩ := h4 hpos
  refine ⟨b, o, e, hb, fun j u hu => ?_⟩
  rw [hideL_out w ⟨b, o + j, none⟩ bs]
  · exact hc j u hu
  · intro hm
    obtain ⟨cs, hs, hn1⟩ := hn b hm
    have hx := hc j u hu
    rw [hs.cell] at hx
    have hm2 : byteV u ∈ cs.toList := by
      rw [Array.mem_toList_iff]
      exact Array.mem_of_getElem? hx
    have := List.all_eq_true.1 hn1 _ hm2
    simp [byteV] at this

/-- a word on a value and what it hangs on, below a bound -/
structure MP (β : Type) where
  pred : β → World → Nat → Prop
  mono : ∀ {v w w' B B'}, Sub B w w' → B ≤ B' → pred v w B → pred v w' B'
namespace Reg
/-- nothing that was there turns, but for these blocks -/
structure KeepB (N : Nat) (b0 : List Nat) (w w' : World) : Prop where
  os : w'.os = w.os
  tape : w'.tape = w.tape
  output : w'.output = w.output
  size : w.heap.size ≤ w'.heap.size
  block : ∀ k, k < N → k ∉ b0 → w'.heap[k]? = w.heap[k]?
theorem KeepB.of {N : Nat} {b0 : List Nat} {w w' : World} (h : Below N w w') : KeepB N b0 w w' := ⟨h.os, h.tape, h.output, h.size, fun k hk _ => h.block k hk⟩
theorem KeepB.below {N M : Nat} {b0 : List Nat} {w w' : World} (h : KeepB N b0 w w') (hM : M ≤ N) (h0 : ∀ b ∈ b0, M ≤ b) : Below M w w' := ⟨h.os, h.tape, h.output, h.size, fun k hk => h.block k (by omega) (fun hm => by have := h0 k hm; omega)⟩
theorem KeepB.cell {N : Nat} {b0 : List Nat} {w w' : World} (h : KeepB N b0 w w') {p : Addr} (h1 : p.block < N) (h2 : p.block ∉ b0) : w'.cell? p = w.cell? p := World.cell?_of_block (h.block p.block h1 h2)
theorem KeepB.str {N b : Nat} {b0 : List Nat} {w w' : World} {cs : Array Value} (h : KeepB N b0 w w') (hs : Str w b cs) (h1 : b < N) (h2 : b ∉ b0) : Str w' b cs := by
  obtain ⟨t, ht⟩ := hs
  exact ⟨t, (h.block b h1 h2).trans ht⟩
def extB (N : Nat) (b0 : List Nat) : Way := ⟨fun w w' => KeepB N b0 w w', fun w => KeepB.of (Below.refl N w), fun _ _ _ h k => ⟨k.os.trans h.os, k.tape.trans h.tape, k.output.trans h.output, Nat.le_trans h.size k.size, fun i hi hb => (k.block i hi hb).trans (h.block i hi hb)⟩, fun _ => ⟨rfl, rfl, rfl, Nat.le_refl _, fun _ _ _ => rfl⟩⟩
/-- boxes (who makes it, its slot, who stores into it), what lies in them; values (who makes it, its slot); boxes that were there (slot, block, who stores) -/
structure BxS where
  K : List (Nat × Tmp × Nat)
  Z : Tmp → Array Value
  X : Tmp → MP (Array Value)
  KM : List (Nat × Tmp)
  M : Tmp → MP Value
  K0 : List (Tmp × Nat × Nat)
def BxS.b0 (S : BxS) : List Nat := S.K0.map fun k => k.2.1
/-- the hidden blocks -/
def Bs (N : Nat) (b0 : List Nat) (w : World) (bs : List Nat) : Prop := ∀ b ∈ bs, (b ∈ b0 ∨ N ≤ b) ∧ b < w.heap.size ∧ ∃ cs, Str w b cs ∧ notU8 cs = true
/-- the part on boxes -/
def BxJ (N : Nat) (S : BxS) (listed : Array Bool) (a : Act) (w : World) (bs : List Nat) : Prop :=
  Bs N S.b0 w bs ∧
  (∀ b ∈ S.K, listed.getD b.1 false = true → ∃ g, a.eval (.tmp b.2.1) = .pointer (some ⟨g, 0, none⟩) ∧ g ∈ bs ∧ N ≤ g ∧
    (listed.getD b.2.2 false = true → ∃ cs, Str w g cs ∧ (S.X b.2.1).pred cs (hideL w bs) w.heap.size) ∧ (listed.getD b.2.2 false = false → Str w g (S.Z b.2.1))) ∧
  (∀ b ∈ S.K, ∀ c ∈ S.K, b ≠ c → listed.getD b.1 false = true → listed.getD c.1 false = true → a.eval (.tmp b.2.1) ≠ a.eval (.tmp c.2.1)) ∧
  (∀ b ∈ S.K, listed.getD b.2.2 false = true → listed.getD b.1 false = true) ∧
  (∀ k ∈ S.K0, k.2.1 ∈ bs ∧ (listed.getD k.2.2 false = true → ∃ cs, Str w k.2.1 cs ∧ (S.X k.1).pred cs (hideL w bs) w.heap.size) ∧ (listed.getD k.2.2 false = false → Str w k.2.1 (S.Z k.1)))
def BJ (N : Nat) (S : BxS) : Word := fun listed a w => ∃ bs : List Nat, BxJ N S listed a w bs ∧ ∀ m ∈ S.KM, listed.getD m.1 false = true → (S.M m.2).pred (a.eval (.tmp m.2)) (hideL w bs) w.heap.size
theorem bj_zero {N : Nat} {S : BxS} {listed : Array Bool} {a : Act} {w : World} (h0 : ∀ k ∈ S.K0, Str w k.2.1 (S.Z k.1) ∧ notU8 (S.Z k.1) = true) (h : ∀ i, listed.getD i false = false) : BJ N S listed a w :=
  ⟨S.b0, ⟨fun b hb => by
      obtain ⟨k, hk, rfl⟩ := List.mem_map.1 hb
      obtain ⟨h1, h2⟩ := h0 k hk
      exact ⟨.inl hb, h1.lt, _, h1, h2⟩, fun b _ h1 => (by rw [h] at h1; cases h1), fun b _ c _ _ h1 => (by rw [h] at h1; cases h1), fun b _ h1 => (by rw [h] at h1; cases h1),
    fun k hk => ⟨List.mem_map.2 ⟨k, hk, rfl⟩, fun h1 => (by rw [h] at h1; cases h1), fun _ => (h0 k hk).1⟩⟩, fun m _ h1 => (by rw [h] at h1; cases h1)⟩
/-- all apart -/
def okS (N : Nat) (S : BxS) : Prop := okK S.K ∧ (∀ b ∈ S.K, ∀ m ∈ S.KM, b.1 ≠ m.1 ∧ b.2.2 ≠ m.1 ∧ b.2.1 ≠ m.2) ∧ (∀ m ∈ S.KM, ∀ m' ∈ S.KM, (m.1 = m'.1 ∨ m.2 = m'.2) → m = m') ∧
  (∀ k ∈ S.K0, (∀ b ∈ S.K, k.2.2 ≠ b.1 ∧ k.2.2 ≠ b.2.2) ∧ (∀ m ∈ S.KM, k.2.2 ≠ m.1)) ∧ (∀ k ∈ S.K0, ∀ k' ∈ S.K0, (k.2.2 = k'.2.2 ∨ k.2.1 = k'.2.1) → k = k') ∧ ∀ k ∈ S.K0, k.2.1 < N
section
variable {N : Nat} {S : BxS} {listed : Array Bool} {a : Act} {w w' : World} {j : Nat}
theorem Bs.next {b0 bs : List Nat} (h : Bs N b0 w bs) (hb : Below w.heap.size w w') : Bs N b0 w' bs := fun b hm => by
  obtain ⟨h1, h2, cs, h3, h4⟩ := h b hm
  exact ⟨h1, Nat.lt_of_lt_of_le h2 hb.size, cs, h3.next hb, h4⟩
/-- nothing that was there has turned; the slot is none of those -/
theorem bj_ord {d : Option Tmp} {v : Value} {bs : List Nat} (hk : ∀ b ∈ S.K, j ≠ b.1 ∧ j ≠ b.2.2 ∧ d ≠ some b.2.1) (hk0 : ∀ k ∈ S.K0, j ≠ k.2.2) (hb : Below w.heap.size w w')
    (hM : ∀ m ∈ S.KM, (listed.setIfInBounds j true).getD m.1 false = true → (S.M m.2).pred ((a.put d v).eval (.tmp m.2)) (hideL w' bs) w'.heap.size)
    (h : BxJ N S listed a w bs) : BJ N S (listed.setIfInBounds j true) (a.put d v) w' := by
  obtain ⟨h0, h1, h2, h3, h4⟩ := h
  refine ⟨bs, ⟨h0.next hb, fun b hm hl => ?_, fun b hm c hc hne hl hl' => ?_, fun b hm hl => ?_, fun k hkm => ?_⟩, hM⟩
  · obtain ⟨k1, k2, k3⟩ := hk b hm
    rw [getD_set_ne false k1] at hl
    rw [getD_set_ne false k2, eval_of (put_other a d v _ k3)]
    obtain ⟨g, e, hg, hgN, hs, hz⟩ := h1 b hm hl
    exact ⟨g, e, hg, hgN, fun hh => by
      obtain ⟨cs, hs1, hs2⟩ := hs hh
      exact ⟨cs, hs1.next hb, (S.X b.2.1).mono (hideL_below bs hb) hb.size hs2⟩, fun hh => (hz hh).next hb⟩
  · obtain ⟨k1, k2, k3⟩ := hk b hm
    obtain ⟨c1, c2, c3⟩ := hk c hc
    rw [getD_set_ne false k1] at hl
    rw [getD_set_ne false c1] at hl'
    rw [eval_of (put_other a d v _ k3), eval_of (put_other a d v _ c3)]
    exact h2 b hm c hc hne hl hl'
  · obtain ⟨k1, k2, k3⟩ := hk b hm
    rw [getD_set_ne false k2] at hl
    rw [getD_set_ne false k1]
    exact h3 b hm hl
  · obtain ⟨g1, g2, g3⟩ := h4 k hkm
    rw [getD_set_ne false (hk0 k hkm)]
    exact ⟨g1, fun hh => by
      obtain ⟨cs, c1, c2⟩ := g2 hh
      exact ⟨cs, c1.next hb, (S.X k.1).mono (hideL_below bs hb) hb.size c2⟩, fun hh => (g3 hh).next hb⟩
end
section
variable {N : Nat} {S : BxS} {P : Program} {ops : Array Oper} {Q : Exit → Act → World → Prop} {T : List (SP (extB N S.b0))} {a0 : Act} {W : World} {j : Nat} {o : Oper} {s : List (Tmp × Option Nat)}
/-- the words on the values that an operation waits for -/
def mems (S : BxS) (ops : Array Oper) (j : Nat) (a : Act) (w : World) (B : Nat) : Prop := ∀ m ∈ S.KM, waits ops j m.1 = true → (S.M m.2).pred (a.eval (.tmp m.2)) w B
/-- an operation whose value hangs on nothing -/
theorem oblB_ord (hg : o.guard = none) (hN : N = W.heap.size) (hk : ∀ b ∈ S.K, j ≠ b.1 ∧ j ≠ b.2.2 ∧ o.dst ≠ some b.2.1) (hm : ∀ m ∈ S.KM, j ≠ m.1 ∧ o.dst ≠ some m.2) (hk0 : ∀ k ∈ S.K0, j ≠ k.2.2)
    (h : ∀ a w, KeepB W.heap.size S.b0 W w → sights T a0 a w s → mems S ops j a w w.heap.size → o.wp P a w (DoneB T j o a w) Q) : OblJ P ops Q T (BJ N S) a0 W j o s := by
  intro listed a w hx hs _ _ _ hwt hJ
  subst hN
  obtain ⟨bs, h0, hM⟩ := hJ
  refine free hg (Oper.wp_mono (fun a' w' ⟨v, e, hz, hp, hb⟩ => ?_) (h a w hx hs fun m hmm hw => (S.M m.2).mono (sub_hideL _ w bs) (Nat.le_refl _) (hM m hmm (hwt m.1 hw))))
  subst e
  refine ⟨⟨v, rfl, hz, hp, KeepB.of (hb.mono (KeepB.size hx))⟩, bj_ord hk hk0 hb (fun m hmm hl => ?_) h0⟩
  obtain ⟨k1, k2⟩ := hm m hmm
  rw [getD_set_ne false k1] at hl
  rw [eval_of (put_other a o.dst v _ k2)]
  exact (S.M m.2).mono (hideL_below bs hb) hb.size (hM m hmm hl)
/-- what such an operation leaves -/
structure DoneM (S : BxS) (t : Tmp) (bs : List Nat) (a : Act) (w : World) (a' : Act) (w' : World) : Prop where
  out : ∃ v, a' = a.put (some t) v ∧ Below w.heap.size w w' ∧ (S.M t).pred v (hideL w' bs) w'.heap.size
/-- a box is made -/
theorem oblB_alloc {t : Tmp} {js : Nat} (hg : o.guard = none) (hN : N = W.heap.size) (hS : okS N S) (hm : (j, t, js) ∈ S.K) (hd : o.dst = some t) (ht : t < a0.tmps.size) (hj : j < ops.size) (hT : ∀ v w, predAt T j v w) (hZ : notU8 (S.Z t) = true)
    (h : ∀ a w, KeepB W.heap.size S.b0 W w → o.wp P a w (fun a' w' => ∃ ty, a' = a.put o.dst (.pointer (some ⟨w.heap.size, 0, none⟩)) ∧ w' = w.alloc (.cells (S.Z t) ty)) Q) : OblJ P ops Q T (BJ N S) a0 W j o s := by
  intro listed a w hx _ hls has hun _ hJ
  subst hN
  obtain ⟨bs, ⟨h0, h1, h2, h3, h4⟩, hM⟩ := hJ
  have hsz : W.heap.size ≤ w.heap.size := KeepB.size hx
  refine free hg (Oper.wp_mono (fun a' w' ⟨ty, e, e'⟩ => ?_) (h a w hx))
  subst e
  subst e'
  refine ⟨⟨_, rfl, fun h => (by rw [hd] at h; cases h), hT _ _, KeepB.of (Below.alloc (Below.refl _ w) hsz _)⟩, ?_⟩
  rw [hd]
  have hba : Below w.heap.size w (w.alloc (.cells (S.Z t) ty)) := balloc (bsame w) _
  have hsub : Sub w.heap.size (hideL w bs) (hideL (w.alloc (.cells (S.Z t) ty)) (w.heap.size :: bs)) := hideL_sub_of fun k hk hn => ⟨by rw [List.mem_cons, not_or]; exact ⟨by omega, hn⟩, hba.block k hk⟩
  have hK := hS.1
  have hn : ∀ b ∈ S.K, b ≠ (j, t, js) → j ≠ b.1 ∧ (some t : Option Tmp) ≠ some b.2.1 := fun b hbm hne =>
    ⟨fun e => hne ((hK (j, t, js) hm b hbm).1 (.inl e)).symm, fun e => hne ((hK (j, t, js) hm b hbm).1 (.inr (.inl (Option.some.inj e)))).symm⟩
  have hs : ∀ b ∈ S.K, j ≠ b.2.2 := fun b hbm => (hK (j, t, js) hm b hbm).2
  have hold : ∀ b ∈ S.K, b ≠ (j, t, js) → listed.getD b.1 false = true → (a.put (some t) (.pointer (some ⟨w.heap.size, 0, none⟩))).eval (.tmp b.2.1) ≠ .pointer (some ⟨w.heap.size, 0, none⟩) := fun b hbm hne hl => by
    rw [eval_of (put_other a _ _ _ (hn b hbm hne).2)]
    obtain ⟨g, e, hg, _⟩ := h1 b hbm hl
    have := (h0 g hg).2.1
    rw [e]
    intro e2
    injection e2 with e3
    injection e3 with e4
    injection e4 with e5
    omega
  refine ⟨w.heap.size :: bs, ⟨fun b hb => ?_, fun b hbm hl => ?_, fun b hbm c hc hne hl hl' => ?_, fun b hbm hl => ?_, fun k hkm => ?_⟩, fun m hmm hl => ?_⟩
  · rcases List.mem_cons.1 hb with rfl | hb
    · exact ⟨.inr hsz, by simp, _, Str.new w _ ty, hZ⟩
    · exact h0.next hba b hb
  · by_cases hb : b = (j, t, js)
    · subst hb
      refine ⟨w.heap.size, eval_put_same (by rw [has]; exact ht), by simp, hsz, fun hh => ?_, fun _ => Str.new w _ ty⟩
      exfalso
      rw [getD_set_ne false (hs _ hm)] at hh
      have := h3 _ hm hh
      rw [getD_ft hun] at this
      cases this
    · rw [getD_set_ne false (hn b hbm hb).1] at hl
      rw [getD_set_ne false (hs b hbm), eval_of (put_other a _ _ _ (hn b hbm hb).2)]
      obtain ⟨g, e, hg, hgN, hs1, hz1⟩ := h1 b hbm hl
      exact ⟨g, e, List.mem_cons_of_mem _ hg, hgN, fun hh => by
        obtain ⟨cs, c1, c2⟩ := hs1 hh
        exact ⟨cs, c1.alloc _, (S.X b.2.1).mono hsub (by simp) c2⟩, fun hh => (hz1 hh).alloc _⟩
  · by_cases hb : b = (j, t, js)
    · subst hb
      have hcb : c ≠ (j, t, js) := fun e => hne e.symm
      rw [getD_set_ne false (hn c hc hcb).1] at hl'
      rw [eval_put_same (by rw [has]; exact ht)]
      exact (hold c hc hcb hl').symm
    · rw [getD_set_ne false (hn b hbm hb).1] at hl
      by_cases hcb : c = (j, t, js)
      · subst hcb
        rw [eval_put_same (by rw [has]; exact ht)]
        exact hold b hbm hb hl
      · rw [getD_set_ne false (hn c hc hcb).1] at hl'
        rw [eval_of (put_other a _ _ _ (hn b hbm hb).2), eval_of (put_other a _ _ _ (hn c hc hcb).2)]
        exact h2 b hbm c hc hne hl hl'
  · rw [getD_set_ne false (hs b hbm)] at hl
    exact getD_set_true (h3 b hbm hl)
  · obtain ⟨g1, g2, g3⟩ := h4 k hkm
    rw [getD_set_ne false (Ne.symm ((hS.2.2.2.1 k hkm).1 _ hm).1)]
    exact ⟨List.mem_cons_of_mem _ g1, fun hh => by
      obtain ⟨cs, c1, c2⟩ := g2 hh
      exact ⟨cs, c1.alloc _, (S.X k.1).mono hsub (by simp) c2⟩, fun hh => (g3 hh).alloc _⟩
  · obtain ⟨e1, e2, e3⟩ := hS.2.1 (j, t, js) hm m hmm
    rw [getD_set_ne false e1] at hl
    rw [eval_of (put_other a _ _ _ (fun e => e3 (Option.some.inj e)))]
    exact (S.M m.2).mono hsub (by simp) (hM m hmm hl)
/-- what a store into a box leaves -/
structure StoredB (S : BxS) (t : Tmp) (g : Nat) (bs : List Nat) (a : Act) (w : World) (a' : Act) (w' : World) : Prop where
  out : a' = a ∧ ∃ cs, w' = w.setRow g cs ∧ notU8 cs = true ∧ (S.X t).pred cs (hideL w bs) w.heap.size
/-- a box is stored into -/
theorem oblB_store {t : Tmp} {ja : Nat} (hg : o.guard = none) (hN : N = W.heap.size) (hS : okS N S) (hm : (ja, t, j) ∈ S.K) (hd : o.dst = none) (hj : j < ops.size) (hw : waits ops j ja = true) (hT : ∀ v w, predAt T j v w)
    (h : ∀ a w bs g, KeepB W.heap.size S.b0 W w → Bs W.heap.size S.b0 w bs → sights T a0 a w s → mems S ops j a (hideL w bs) w.heap.size → a.eval (.tmp t) = .pointer (some ⟨g, 0, none⟩) → Str w g (S.Z t) → o.wp P a w (StoredB S t g bs a w) Q) : OblJ P ops Q T (BJ N S) a0 W j o s := by
  intro listed a w hx hs hls has hun hwt hJ
  subst hN
  obtain ⟨bs, ⟨h0, h1, h2, h3, h4⟩, hM⟩ := hJ
  obtain ⟨g, e, hg', hgN, hS1, hS0⟩ := h1 _ hm (hwt ja hw)
  have hSz := hS0 (getD_ft hun)
  refine free hg (Oper.wp_mono (fun a' w' hst => ?_) (h a w bs g hx h0 hs (fun m hmm hw => hM m hmm (hwt m.1 hw)) e hSz))
  obtain ⟨e1, cs, e2, hn1, hp⟩ := hst.out
  subst e1
  subst e2
  obtain ⟨_, hgl, _⟩ := h0 g hg'
  have hK := hS.1
  have hsz : (w.setRow g cs).heap.size = w.heap.size := by simp [World.setRow]
  have hsub : Sub w.heap.size (hideL w bs) (hideL (w.setRow g cs) bs) := hideL_sub_of fun k hk hn => ⟨hn, setRow_other w g k cs (fun e => hn (by rw [e]; exact hg'))⟩
  have hjl : j < listed.size := by omega
  have hs' : ∀ b ∈ S.K, j ≠ b.1 := fun b hbm => Ne.symm (hK b hbm (ja, t, j) hm).2
  refine ⟨⟨undef, by rw [hd]; rfl, fun _ => rfl, hT _ _, KeepB.of (below_setRow (Below.refl _ w) hgN _)⟩, bs, ⟨fun b hb => ?_, fun b hbm hl => ?_, fun b hbm c hc hne hl hl' => ?_, fun b hbm hl => ?_, fun k hkm => ?_⟩, fun m hmm hl => ?_⟩
  · obtain ⟨b1, b2, cs', b3, b4⟩ := h0 b hb
    by_cases e : b = g
    · subst e
      exact ⟨b1, by rw [hsz]; exact b2, cs, b3.setRow, hn1⟩
    · exact ⟨b1, by rw [hsz]; exact b2, cs', b3.setRow_other e, b4⟩
  · rw [getD_set_ne false (hs' b hbm)] at hl
    obtain ⟨g', e', hg2, hgN2, hs1, hz1⟩ := h1 b hbm hl
    by_cases hb : b = (ja, t, j)
    · subst hb
      rw [e] at e'
      injection e' with e3
      injection e3 with e4
      injection e4 with e5
      subst e5
      refine ⟨g, e, hg2, hgN, fun _ => ⟨cs, hSz.setRow, ?_⟩, fun hh => by rw [getD_set_self hjl] at hh; cases hh⟩
      rw [hsz]
      exact (S.X _).mono hsub (Nat.le_refl _) hp
    · have hjb : j ≠ b.2.2 := fun e => hb ((hK (ja, t, j) hm b hbm).1 (.inr (.inr e))).symm
      have hgg : g' ≠ g := fun e5 => h2 b hbm _ hm hb hl (hwt ja hw) (by rw [e', e, e5])
      refine ⟨g', e', hg2, hgN2, fun hh => ?_, fun hh => ?_⟩
      · rw [getD_set_ne false hjb] at hh
        obtain ⟨cs', c1, c2⟩ := hs1 hh
        refine ⟨cs', c1.setRow_other hgg, ?_⟩
        rw [hsz]
        exact (S.X _).mono hsub (Nat.le_refl _) c2
      · rw [getD_set_ne false hjb] at hh
        exact (hz1 hh).setRow_other hgg
  · rw [getD_set_ne false (hs' b hbm)] at hl
    rw [getD_set_ne false (hs' c hc)] at hl'
    exact h2 b hbm c hc hne hl hl'
  · rw [getD_set_ne false (hs' b hbm)]
    by_cases hb : b = (ja, t, j)
    · subst hb
      exact hwt ja hw
    · rw [getD_set_ne false (fun e => hb ((hK (ja, t, j) hm b hbm).1 (.inr (.inr e))).symm)] at hl
      exact h3 b hbm hl
  · obtain ⟨g1, g2, g3⟩ := h4 k hkm
    have hgg : k.2.1 ≠ g := by have := hS.2.2.2.2.2 k hkm; omega
    rw [getD_set_ne false (Ne.symm ((hS.2.2.2.1 k hkm).1 _ hm).2)]
    exact ⟨g1, fun hh => by
      obtain ⟨cs', c1, c2⟩ := g2 hh
      exact ⟨cs', c1.setRow_other hgg, by rw [hsz]; exact (S.X k.1).mono hsub (Nat.le_refl _) c2⟩, fun hh => (g3 hh).setRow_other hgg⟩
  · obtain ⟨e1, e2, e3⟩ := hS.2.1 (ja, t, j) hm m hmm
    rw [getD_set_ne false e2] at hl
    rw [hsz]
    exact (S.M m.2).mono hsub (Nat.le_refl _) (hM m hmm hl)
/-- what is known behind the region -/
theorem bj_end {listed : Array Bool} {a : Act} {w : World} {n : Nat} (hall : ∀ i, i < n → listed.getD i false = true) (hK : ∀ b ∈ S.K, b.1 < n ∧ b.2.2 < n) (hKM : ∀ m ∈ S.KM, m.1 < n) (hK0 : ∀ k ∈ S.K0.map (fun k => k.2.2), k < n) (h : BJ N S listed a w) :
    (∀ m ∈ S.KM, (S.M m.2).pred (a.eval (.tmp m.2)) w w.heap.size) ∧
    (∀ b ∈ S.K, ∃ g cs, a.eval (.tmp b.2.1) = .pointer (some ⟨g, 0, none⟩) ∧ N ≤ g ∧ Str w g cs ∧ (S.X b.2.1).pred cs w w.heap.size) ∧
    (∀ b ∈ S.K, ∀ c ∈ S.K, b ≠ c → a.eval (.tmp b.2.1) ≠ a.eval (.tmp c.2.1)) ∧
    (∀ k ∈ S.K0, ∃ cs, Str w k.2.1 cs ∧ (S.X k.1).pred cs w w.heap.size) := by
  obtain ⟨bs, ⟨h0, h1, h2, h3, h4⟩, hM⟩ := h
  refine ⟨fun m hm => (S.M m.2).mono (sub_hideL _ w bs) (Nat.le_refl _) (hM m hm (hall _ (hKM m hm))), fun b hb => ?_, fun b hb c hc hne => h2 b hb c hc hne (hall _ (hK b hb).1) (hall _ (hK c hc).1), fun k hk => ?_⟩
  · obtain ⟨g, e, hg, hgN, hs, -⟩ := h1 b hb (hall _ (hK b hb).1)
    obtain ⟨cs, c1, c2⟩ := hs (hall _ (hK b hb).2)
    exact ⟨g, cs, e, hgN, c1, (S.X b.2.1).mono (sub_hideL _ w bs) (Nat.le_refl _) c2⟩
  · obtain ⟨g1, g2, -⟩ := h4 k hk
    obtain ⟨cs, c1, c2⟩ := g2 (hall _ (hK0 _ (List.mem_map.2 ⟨k, hk, rfl⟩)))
    exact ⟨cs, c1, (S.X k.1).mono (sub_hideL _ w bs) (Nat.le_refl _) c2⟩
end
section
variable {R : Way} {P : Program} {ops : Array Oper} {Q : Exit → Act → World → Prop} {T : List (SP R)} {a0 a : Act} {W w : World}
/-- THE LAW beside a word that holds at the region's head -/
theorem wp_region_box {id : Nat} (J : Word) (T : List (SP R)) (n : Nat) (L : List (List (Tmp × Option Nat))) (hn : a0.tmps.size = n) (hm : P.follows .mixedOrders = true) (hc : checkB ops n = true) (hJ0 : ∀ listed, (∀ i, listed.getD i false = false) → J listed a0 W.drew) (hL : lookAll ops 0 ops.toList = L) (hobl : OblsJ P ops Q T J a0 W 0 ops.toList L)
    (D : List (Option Tmp)) (hD : ops.toList.map (·.dst) = D) (hfin : ∀ w' listed, R.rel W w' → (∀ i, i < ops.size → listed.getD i false = true) → Fin (fun a w => J listed a w → Q .normal a w) w' D T a0) : (Code.region id ops true).wp P Q a0 W := by
  subst hn
  subst hL
  subst hD
  refine wp_region_any hm (wpAny_J (form_of hc) hobl hfin _ _ _ _ (by simp) ⟨R.drew W, rfl, rfl, by simp, fun _ _ => rfl, fun i o ho hl => ?_, fun i o ho hl e he hb => ?_⟩ (hJ0 _ fun i => ?_))
  · have hlt := (Array.getElem?_eq_some_iff.1 ho).1
    simp [hlt] at hl
  · have hlt := (Array.getElem?_eq_some_iff.1 ho).1
    simp [hlt] at hl
  · rw [Array.getD_eq_getD_getElem?]
    by_cases hi : i < ops.size
    · simp [hi]
    · simp [hi]
end
/-! what is seen by reckoning alone -/
def okB (K : List (Nat × Tmp × Nat)) (KM : List (Nat × Tmp)) (K0 : List (Tmp × Nat)) : Bool :=
  (K.all fun b => K.all fun c => (!(b.1 == c.1 || (b.2.1 == c.2.1 || b.2.2 == c.2.2)) || b == c) && b.1 != c.2.2) &&
  (K.all fun b => KM.all fun m => b.1 != m.1 && (b.2.2 != m.1 && b.2.1 != m.2)) && (KM.all fun m => KM.all fun m' => !(m.1 == m'.1 || m.2 == m'.2) || m == m') &&
  (K0.all fun k => (K.all fun b => k.2 != b.1 && k.2 != b.2.2) && KM.all fun m => k.2 != m.1)
theorem okS_of {N : Nat} {S : BxS} (h : okB S.K S.KM (S.K0.map fun k => (k.1, k.2.2)) = true) (h4 : S.K0.Pairwise fun k k' => k.2.2 ≠ k'.2.2 ∧ k.2.1 ≠ k'.2.1) (h5 : ∀ k ∈ S.K0, k.2.1 < N) : okS N S := by
  unfold okB at h
  simp only [Bool.and_eq_true, List.all_eq_true] at h
  obtain ⟨⟨⟨h1, h2⟩, h3⟩, h6⟩ := h
  refine ⟨fun b hb c hc => ?_, fun b hb m hm => ?_, fun m hm m' hm' => ?_, fun k hk => ?_, fun k hk k' hk' he => ?_, h5⟩
  · obtain ⟨e1, e2⟩ := h1 b hb c hc
    refine ⟨fun he => ?_, by simpa using e2⟩
    simp only [Bool.or_eq_true, Bool.not_eq_true', Bool.or_eq_false_iff, beq_eq_false_iff_ne, beq_iff_eq] at e1
    rcases e1 with ⟨n1, n2, n3⟩ | e1
    · rcases he with he | he | he
      · exact absurd he n1
      · exact absurd he n2
      · exact absurd he n3
    · exact e1
  · have := h2 b hb m hm
    simpa using this
  · intro he
    have := h3 m hm m' hm'
    simp only [Bool.or_eq_true, Bool.not_eq_true', Bool.or_eq_false_iff, beq_eq_false_iff_ne, beq_iff_eq] at this
    rcases this with ⟨n1, n2⟩ | e
    · rcases he with he | he
      · exact absurd he n1
      · exact absurd he n2
    · exact e
  · obtain ⟨g1, g2⟩ := h6 (k.1, k.2.2) (List.mem_map.2 ⟨k, hk, rfl⟩)
    exact ⟨fun b hb => by have := g1 b hb; simpa using this, fun m hm => by have := g2 m hm; simpa using this⟩
  · obtain ⟨i, hi, rfl⟩ := List.getElem_of_mem hk
    obtain ⟨i', hi', rfl⟩ := List.getElem_of_mem hk'
    rw [List.pairwise_iff_getElem] at h4
    rcases Nat.lt_trichotomy i i' with hlt | heq | hgt
    · have := h4 i i' hi hi' hlt
      rcases he with he | he
      · exact absurd he this.1
      · exact absurd he this.2
    · subst heq; rfl
    · have := h4 i' i hi' hi hgt
      rcases he with he | he
      · exact absurd he.symm this.1
      · exact absurd he.symm this.2
def ordB (K : List (Nat × Tmp × Nat)) (KM : List (Nat × Tmp)) (K0 : List (Tmp × Nat)) (j : Nat) (d : Option Tmp) : Bool :=
  (K.all fun b => j != b.1 && (j != b.2.2 && d != some b.2.1)) && (KM.all fun m => j != m.1 && d != some m.2) && K0.all fun k => j != k.2
section
variable {N : Nat} {S : BxS} {P : Program} {ops : Array Oper} {Q : Exit → Act → World → Prop} {T : List (SP (extB N S.b0))} {a0 a : Act} {W w : World} {j : Nat} {o : Oper} {s : List (Tmp × Option Nat)} {t : Tmp} {bs : List Nat}
theorem oblB_pure (hg : o.guard = none) (hN : N = W.heap.size) (ho : ordB S.K S.KM (S.K0.map fun k => (k.1, k.2.2)) j o.dst = true)
    (h : ∀ a w, KeepB W.heap.size S.b0 W w → sights T a0 a w s → mems S ops j a w w.heap.size → o.wp P a w (DoneB T j o a w) Q) : OblJ P ops Q T (BJ N S) a0 W j o s := by
  unfold ordB at ho
  simp only [Bool.and_eq_true, List.all_eq_true] at ho
  exact oblB_ord hg hN (fun b hb => by have := ho.1.1 b hb; simpa using this) (fun m hm => by have := ho.1.2 m hm; simpa using this) (fun k hk => by have := ho.2 _ (List.mem_map.2 ⟨k, hk, rfl⟩); simpa using this) h
theorem run_ex {x : Operand} {vs : Array Value} {v : Value} {k : Nat} (ho : o.op = .extract x k) (hx : a.eval x = .tuple vs) (hv : vs[k]? = some v) : (execOp a.eval o).run P w = .ok (.value v) w := by
  unfold execOp
  rw [ho]
  simp [hx, Instr.extract, hv]
/-- a struct's box is made -/
theorem al_box {ty : TypeId} {Z : Array Value} (ho : o.op = .alloc ty) (hi : (P.info? ty).map (fun i => (i.zero, i.size)) = some (some (.agg Z), Z.size)) : o.wp P a w (fun a' w' => ∃ ty, a' = a.put o.dst (.pointer (some ⟨w.heap.size, 0, none⟩)) ∧ w' = w.alloc (.cells Z ty)) Q := by
  obtain ⟨hz, _⟩ := zero_of_info hi
  unfold Oper.wp execOp
  rw [ho]
  simp only [Instr.alloc, newVar, newRow, Sem.run_bind, hz, Result.andThen_ok]
  exact ⟨ty, rfl, rfl⟩
/-- a struct's box is stored into -/
theorem run_st_box {ty : TypeId} {x y : Operand} {g : Nat} {Z cs : Array Value} (ho : o.op = .store ty x y) (hx : a.eval x = .pointer (some ⟨g, 0, none⟩)) (hy : a.eval y = .agg cs) (hs : Str w g Z) (hz : Z.size = cs.size) (hi : (P.info? ty).map (·.size) = some cs.size) (h1' : cs.toList.all (·.oneCell') = true) :
    (execOp a.eval o).run P w = .ok .skip (w.setRow g cs) := by
  obtain ⟨t', hg⟩ := hs
  have h1 : cs.all (·.oneCell') = true := by rw [← Array.all_toList]; exact h1'
  unfold execOp
  rw [ho]
  simp only [hx, hy, Instr.storeAt, Instr.sureAddr, Sem.run_bind, Sem.run_pure, Result.andThen_ok]
  rw [run_storeVar_row w g t' ty Z cs hg hi hz h1]
  rfl
theorem st_box {g : Nat} {cs : Array Value} (hd : o.dst = none) (h : (execOp a.eval o).run P w = .ok .skip (w.setRow g cs)) (hn : notU8 cs = true) (hp : (S.X t).pred cs (hideL w bs) w.heap.size) : o.wp P a w (StoredB S t g bs a w) Q := by
  unfold Oper.wp
  rw [h]
  exact ⟨by simp [hd, Act.put], cs, rfl, hn, hp⟩
end
/-- a value that is known -/
def eqM (c : Value) : MP Value := ⟨fun v _ _ => v = c, fun _ _ h => h⟩
def rowM (p : MP Value) : MP (Array Value) := ⟨fun cs w B => p.pred (.agg cs) w B, fun hs hb h => p.mono hs hb h⟩
end Reg
theorem hideL_append (w : World) (bs : List Nat) : ∀ obs, hideL w (obs ++ bs) = hideL (hideL w bs) obs
  | [] => rfl
  | g :: obs => congrArg (fun x => hide x g) (hideL_append w bs obs)
theorem hideL_mono {B : Nat} {w w' : World} (obs : List Nat) (h : Sub B w w') : Sub B (hideL w obs) (hideL w' obs) := by
  intro p v hp hv
  by_cases hg : p.block ∈ obs
  · rw [hideL_in w p obs hg] at hv; cases hv
  · rw [hideL_out w p obs hg] at hv
    rw [hideL_out w' p obs hg]
    exact h p v hp hv
theorem Bytes.keepB {w w' : World} {B n c : Nat} {b0 : List Nat} {A : Option Addr} {l : List UInt8} (h : Bytes w B A n c l) (hB : B ≤ w.heap.size) (hn : ∀ b ∈ b0, ∃ cs, Str w b cs ∧ notU8 cs = true) (hk : Reg.KeepB w.heap.size b0 w w') : Bytes w' B A n c l :=
  (h.hideL b0 hn).sub fun p v hp hv => by
    by_cases hm : p.block ∈ b0
    · rw [hideL_in w p b0 hm] at hv; cases hv
    · rw [hideL_out w p b0 hm] at hv
      rw [hk.cell (by omega) hm]
      exact hv
/-- bytes that hang on none of these blocks -/
def BytesH (bs : List Nat) (w : World) (A : Option Addr) (n c : Nat) (l : List UInt8) : Prop := Bytes (hideL w bs) w.heap.size A n c l
theorem BytesH.keepB {bs : List Nat} {w w' : World} {n c : Nat} {b0 : List Nat} {A : Option Addr} {l : List UInt8} (h : BytesH bs w A n c l) (hn : ∀ b ∈ b0, ∃ cs, Str w b cs ∧ notU8 cs = true) (hk : Reg.KeepB w.heap.size b0 w w') : BytesH bs w' A n c l := by
  refine Bytes.more (w := Go.Proofs.YtkkfabnehhamdaaDoor.hideL w' bs) (Bytes.sub (w := Go.Proofs.YtkkfabnehhamdaaDoor.hideL w (bs ++ b0)) (B := w.heap.size) ?_ ?_) hk.size
  · rw [hideL_append]
    obtain ⟨h1, h2, h3, h4⟩ := h
    refine ⟨h1, h2, h3, fun hpos => ?_⟩
    obtain ⟨b, o, e, hb, hc⟩ := h4 hpos
    refine ⟨b, o, e, hb, fun j u hu => ?_⟩
    have hx := hc j u hu
    have hnb : b ∉ bs := fun hm => by
      have h0 : (Go.Proofs.YtkkfabnehhamdaaDoor.hideL w bs).cell? ⟨b, o + j, none⟩ = none := hideL_in w ⟨b, o + j, none⟩ bs hm
      rw [h0] at hx; cases hx
    rw [hideL_out w ⟨b, o + j, none⟩ bs hnb] at hx
    rw [hideL_out _ ⟨b, o + j, none⟩ bs hnb, hideL_out w ⟨b, o + j, none⟩ b0]
    · exact hx
    · intro hm
      obtain ⟨cs, hs, hn1⟩ := hn b hm
      rw [hs.cell] at hx
      have hm2 : byteV u ∈ cs.toList := by
        rw [Array.mem_toList_iff]
        exact Array.mem_of_getElem? hx
      have := List.all_eq_true.1 hn1 _ hm2
      simp [byteV] at this
  · rw [hideL_append]
    refine hideL_mono bs fun p v hp hv => ?_
    by_cases hm : p.block ∈ b0
    · rw [hideL_in w p b0 hm] at hv; cases hv
    · rw [hideL_out w p b0 hm] at hv
      rw [hk.cell hp hm]
      exact hv
namespace Reg
end Reg
end Go.Proofs.YtkkfabnehhamdaaDoor
end
section
namespace Go.Proofs.YtkkfabnehhamdaaDoor
open Go.RowKit
set_option linter.unusedVariables false
/-- an append in a region, of slices of any kind -/
theorem wp_appT {P : Program} {o : Oper} {a : Act} {w w' : World} {K : Act → World → Prop} {Q : Exit → Act → World → Prop} {A A2 A' : Option Addr} {n c m c2 n' c' : Nat} {t : TypeId} (s x : Operand)
    (ho : o.op = .call { callee := .builtin .append, args := #[s, x], argTypes := #[t, t] }) (hty : o.type = t) (hs : a.eval s = .slice A n c) (hx : a.eval x = .slice A2 m c2)
    (hr : (appSem #[t, t] t #[.slice A n c, .slice A2 m c2]).run P w = .ok (.slice A' n' c') w') (k : K (a.put o.dst (.slice A' n' c')) w') : Oper.wp P o a w K Q := by
  unfold appSem at hr
  unfold Oper.wp execOp
  simp only [ho, hty, resolve, invoke, builtin, Sem.run_bind, Sem.run_pure, Result.andThen_ok, List.map_toArray, List.map_cons, List.map_nil, hs, hx, hr]
  exact k
namespace Reg
theorem eval_ne {t : Tmp} {a : Act} {d : Option Tmp} {v : Value} (h : d ≠ some t) : (a.put d v).eval (.tmp t) = a.eval (.tmp t) := eval_of (put_other a d v t h)
theorem obl_freeL {R : Way} {P : Program} {ops : Array Oper} {Q : Exit → Act → World → Prop} {T : List (SP R)} {j : Nat} {o : Oper} {a : Act} {w : World} (hg : o.guard = none) (h : o.wp P a w (DoneB T j o a w) Q) : (Region.wanted o (yielded ops a.tmps) = true → o.wp P a w (DoneB T j o a w) Q) ∧ (Region.wanted o (yielded ops a.tmps) = false → predAt T j undef w) :=
  ⟨fun _ => h, fun hw => by simp [Region.wanted, hg] at hw⟩
theorem extB_next {N : Nat} {b0 : List Nat} {W : World} (hN : N = W.heap.size) : ∀ w w', (extB N b0).rel W w → Below w.heap.size w w' → (extB N b0).rel w w' := fun w w' h k => KeepB.of (k.mono (by rw [hN]; exact KeepB.size h))
/-- what so many of the line have brought about, and whether the one beside them has come up -/
abbrev LS := Nat → Bool → Act → World → Prop
/-- the line: who they are; the one beside them; what they bring about -/
structure Line where
  C : List Nat
  q : Nat
  S : LS
def LineJ (l : Line) : Word := fun listed a w => ∃ k, k ≤ l.C.length ∧ (∀ i c, l.C[i]? = some c → listed.getD c false = decide (i < k)) ∧ l.S k (listed.getD l.q false) a w
theorem line_zero {l : Line} {listed : Array Bool} {a : Act} {w : World} (h0 : l.S 0 false a w) (h : ∀ i, listed.getD i false = false) : LineJ l listed a w :=
  ⟨0, Nat.zero_le _, fun i c _ => by rw [h]; simp, by rw [h]; exact h0⟩
theorem line_end {l : Line} {listed : Array Bool} {a : Act} {w : World} {n : Nat} (hall : ∀ i, i < n → listed.getD i false = true) (hC : ∀ c ∈ l.C, c < n) (hJ : LineJ l listed a w) : ∃ b, (l.q < n → b = true) ∧ l.S l.C.length b a w := by
  obtain ⟨k, hk, hl, hS⟩ := hJ
  have e : k = l.C.length := by
    by_cases h : k < l.C.length
    · have h1 := hl k l.C[k] (List.getElem?_eq_getElem h)
      rw [hall _ (hC _ (List.getElem_mem h))] at h1
      simp at h1
    · omega
  subst e
  exact ⟨_, fun h => hall _ h, hS⟩
section
variable {R : Way} {l : Line} {P : Program} {ops : Array Oper} {Q : Exit → Act → World → Prop} {T : List (SP R)} {a0 : Act} {W : World} {j : Nat} {o : Oper} {s : List (Tmp × Option Nat)}
/-- an operation that is none of these -/
theorem oblL_ord (hj : j ∉ l.C ∧ j ≠ l.q) (hR : ∀ w w', R.rel W w → Below w.heap.size w w' → R.rel w w') (hst : ∀ k b a w v w', l.S k b a w → Below w.heap.size w w' → l.S k b (a.put o.dst v) w')
    (h : ∀ a w, R.rel W w → sights T a0 a w s → (Region.wanted o (yielded ops a.tmps) = true → o.wp P a w (DoneB T j o a w) Q) ∧ (Region.wanted o (yielded ops a.tmps) = false → predAt T j undef w)) : OblJ P ops Q T (LineJ l) a0 W j o s := by
  intro listed a w hx hs _ _ hun hwt hJ
  obtain ⟨h1, h2⟩ := h a w hx hs
  have key : ∀ v w', Below w.heap.size w w' → LineJ l (listed.setIfInBounds j true) (a.put o.dst v) w' := fun v w' hb => by
    obtain ⟨k, hk, hl, hS⟩ := hJ
    refine ⟨k, hk, fun i c hc => ?_, ?_⟩
    · rw [getD_set_ne false (fun e => hj.1 (by rw [e]; exact List.mem_of_getElem? hc))]
      exact hl i c hc
    · rw [getD_set_ne false hj.2]
      exact hst k _ a w v w' hS hb
  refine ⟨fun hw => Oper.wp_mono (fun a' w' ⟨v, e, hz, hp, hb⟩ => ?_) (h1 hw), fun hw => ⟨h2 hw, key _ _ (bsame w)⟩⟩
  subst e
  exact ⟨⟨v, rfl, hz, hp, hR w w' hx hb⟩, key v w' hb⟩
/-- one of the line -/
theorem oblL_line {k : Nat} (hg : o.guard = none) (hc : l.C[k]? = some j) (hnd : l.C.Nodup) (hq : j ≠ l.q) (hjl : j < ops.size) (hw : k = 0 ∨ ∃ c, l.C[k - 1]? = some c ∧ waits ops j c = true)
    (h : ∀ b a w, R.rel W w → sights T a0 a w s → a.tmps.size = a0.tmps.size → (waits ops j l.q = true → b = true) → l.S k b a w → o.wp P a w (fun a' w' => Done T j o a w a' w' ∧ l.S (k + 1) b a' w') Q) : OblJ P ops Q T (LineJ l) a0 W j o s := by
  intro listed a w hx hs hls has hun hwt hJ
  obtain ⟨k', hk', hl, hS⟩ := hJ
  have h1 := hl k j hc
  rw [getD_ft hun] at h1
  have hle : k' ≤ k := by
    have : ¬ k < k' := by simpa using h1.symm
    omega
  have he : k' = k := by
    rcases hw with rfl | ⟨c, h2, h3⟩
    · omega
    · have h4 := hl _ c h2
      rw [hwt c h3] at h4
      have : k - 1 < k' := by simpa using h4.symm
      omega
  subst he
  have hlt := (List.getElem?_eq_some_iff.1 hc).1
  refine free hg (Oper.wp_mono (fun a' w' ⟨h5, h6⟩ => ⟨h5, k' + 1, hlt, fun i c hi => ?_, ?_⟩) (h _ a w hx hs has (fun hw => hwt _ hw) hS))
  · by_cases e : i = k'
    · subst e
      rw [hc] at hi
      cases hi
      rw [getD_set_self (by omega)]
      simp
    · have hne : j ≠ c := fun e2 => e (by
        subst e2
        have g1 := (List.getElem?_eq_some_iff.1 hi).1
        have g3 := (List.getElem?_eq_some_iff.1 hi).2.trans (List.getElem?_eq_some_iff.1 hc).2.symm
        have g4 := List.pairwise_iff_getElem.1 hnd
        rcases Nat.lt_or_gt_of_ne e with e4 | e4
        · exact absurd g3 (g4 i k' g1 hlt e4)
        · exact absurd g3.symm (g4 k' i hlt g1 e4))
      rw [getD_set_ne false hne, hl i c hi]
      by_cases h7 : i < k'
      · simp [h7]; omega
      · simp [h7]; omega
  · rw [getD_set_ne false hq]
    exact h6
/-- the one beside them -/
theorem oblL_side (hg : o.guard = none) (hj : j = l.q) (hn : j ∉ l.C) (hjl : j < ops.size)
    (h : ∀ k a w, R.rel W w → sights T a0 a w s → a.tmps.size = a0.tmps.size → l.S k false a w → o.wp P a w (fun a' w' => Done T j o a w a' w' ∧ l.S k true a' w') Q) : OblJ P ops Q T (LineJ l) a0 W j o s := by
  intro listed a w hx hs hls has hun hwt hJ
  obtain ⟨k, hk, hl, hS⟩ := hJ
  have hf : listed.getD l.q false = false := by rw [← hj]; exact getD_ft hun
  rw [hf] at hS
  refine free hg (Oper.wp_mono (fun a' w' ⟨h5, h6⟩ => ⟨h5, k, hk, fun i c hi => ?_, ?_⟩) (h k a w hx hs has hS))
  · rw [getD_set_ne false (fun e => hn (by rw [e]; exact List.mem_of_getElem? hi))]
    exact hl i c hi
  · rw [← hj, getD_set_self (by omega)]
    exact h6
end
end Reg
end Go.Proofs.YtkkfabnehhamdaaDoor
end
section
namespace Go.Proofs.YtkkfabnehhamdaaDoor
open Go.RowKit
set_option linter.unusedVariables false
theorem Reg.KeepB.trans {N M : Nat} {b0 : List Nat} {a b c : World} (h : Reg.KeepB N b0 a b) (k : Reg.KeepB M b0 b c) (hN : N ≤ M) : Reg.KeepB N b0 a c :=
  ⟨k.os.trans h.os, k.tape.trans h.tape, k.output.trans h.output, Nat.le_trans h.size k.size, fun i hi hb => (k.block i (by omega) hb).trans (h.block i hi hb)⟩
theorem Reg.KeepB.more {N : Nat} {b0 b1 : List Nat} {a b : World} (h : Reg.KeepB N b0 a b) (hs : ∀ x ∈ b0, x ∈ b1) : Reg.KeepB N b1 a b :=
  ⟨h.os, h.tape, h.output, h.size, fun i hi hb => h.block i hi (fun hm => hb (hs i hm))⟩
theorem Reg.KeepB.less {N M : Nat} {b0 : List Nat} {a b : World} (h : Reg.KeepB N b0 a b) (hM : M ≤ N) : Reg.KeepB M b0 a b :=
  ⟨h.os, h.tape, h.output, h.size, fun i hi hb => h.block i (by omega) hb⟩
/-- blocks that are none of the call's -/
theorem Reg.KeepB.grown {N : Nat} {b0 : List Nat} {a b c : World} {g : Nat} (h : Reg.KeepB N b0 a b) (k : b.grownBy c (some g)) (hN : N ≤ b.heap.size) (hg : N ≤ g ∨ g ∈ b0) : Reg.KeepB N b0 a c :=
  ⟨k.os.trans h.os, k.tape.trans h.tape, k.output.trans h.output, Nat.le_trans h.size k.size, fun i hi hb => (k.block i (by omega) (by intro e; injection e with e; subst e; rcases hg with h1 | h1; omega; exact hb h1)).trans (h.block i hi hb)⟩
theorem Reg.KeepB.step {N : Nat} {b0 : List Nat} {a b c : World} (h : Reg.KeepB N b0 a b) (k : Below b.heap.size b c) (hN : N ≤ b.heap.size) : Reg.KeepB N b0 a c := h.trans (Reg.KeepB.of k) hN
theorem Str.keepB {w w' : World} {b : Nat} {b0 : List Nat} {cs : Array Value} (h : Str w b cs) (k : Reg.KeepB w.heap.size b0 w w') (hb : b ∉ b0) : Str w' b cs := k.str h h.lt hb
theorem drewN_below {B : Nat} {a w : World} (h : Below B a w) (k : Nat) : Below B a (w.drewN k) := ⟨h.os, h.tape, h.output, h.size, h.block⟩
end Go.Proofs.YtkkfabnehhamdaaDoor
end
section
namespace Go.Proofs.YtkkfabnehhamdaaDoor
open Go.RowKit
set_option linter.unusedVariables false
/-- what an element reads as hangs on no world -/
def El.Pure {α : Type} (E : El α) : Prop := ∀ w w' B B' vs x, E.rel w B vs x → E.rel w' B' vs x
theorem OwnE.grownP {α : Type} {E : El α} (hE : E.Pure) {T : TypeId} {w w' : World} {base n c : Nat} {A : Option Addr} {l : List α} {k : Option Nat} (h : OwnE E T w base A n c l) (hg : w.grownBy w' k) (hne : ∀ a, A = some a → k ≠ some a.block) : OwnE E T w' base A n c l := by
  obtain ⟨vs, ⟨h0, h1⟩, h2⟩ := h
  refine ⟨vs, ⟨h0, ?_⟩, h2.imp fun _ _ hr => hE _ _ _ _ _ _ hr⟩
  rcases h1 with e | ⟨g, cap, cur, e, hg2, hh, r⟩
  · exact .inl e
  · cases e
    refine .inr ⟨g, c, cur, rfl, hg2, ?_, r⟩
    exact (hg.block g (Array.getElem?_eq_some_iff.1 hh).1 (fun e => hne _ rfl e.symm)).trans hh
namespace Reg
/-- a row, the element that is to come behind it; who makes the row of one, who appends, who hands on; the slots -/
structure Row1 (α : Type) where
  E : El α
  T : TypeId
  base : Nat
  A : Option Addr
  n : Nat
  c : Nat
  l : List α
  x : α
  jr : Nat
  ja : Nat
  jf : Nat
  tr : Tmp
  ts : Tmp
  tf : Tmp
def Row1.Has {α : Type} (I : Row1 α) (N : Nat) (w : World) (A' : Option Addr) (c' : Nat) : Prop := OwnE I.E I.T w I.base A' (I.n + 1) c' (I.l ++ [I.x]) ∧ ∀ d, A' = some d → I.A = A' ∨ N ≤ d.block
def Row1.J {α : Type} (N : Nat) (I : Row1 α) : Word := fun listed a w =>
  (listed.getD I.ja false = false → OwnE I.E I.T w I.base I.A I.n I.c I.l ∧
    (listed.getD I.jr false = true → ∃ g vs, a.eval (.tmp I.tr) = .slice (some ⟨g, 0, none⟩) 1 1 ∧ N ≤ g ∧ Str w g vs.toArray ∧ I.E.rel w w.heap.size vs I.x)) ∧
  (listed.getD I.ja false = true → ∃ A' c', a.eval (.tmp I.ts) = .slice A' (I.n + 1) c' ∧ (listed.getD I.jf false = true → a.eval (.tmp I.tf) = .slice A' (I.n + 1) c') ∧ I.Has N w A' c') ∧
  (listed.getD I.jf false = true → listed.getD I.ja false = true)
def Row1.ok {α : Type} (I : Row1 α) (N k : Nat) : Prop := I.E.Pure ∧ I.jr ≠ I.ja ∧ I.jf ≠ I.ja ∧ I.jf ≠ I.jr ∧ I.tr ≠ I.ts ∧ I.tf ≠ I.ts ∧ I.tf ≠ I.tr ∧ I.jr < k ∧ I.ja < k ∧ I.jf < k
/-- an operation is none of the row's, and its slot none of its slots -/
def Row1.Off {α : Type} (I : Row1 α) (j : Nat) (d : Option Tmp) : Prop := j ≠ I.jr ∧ j ≠ I.ja ∧ j ≠ I.jf ∧ d ≠ some I.tr ∧ d ≠ some I.ts ∧ d ≠ some I.tf
/-- a block is none of the row's -/
def Row1.Out {α : Type} (I : Row1 α) (N : Nat) (k : Option Nat) : Prop := ∀ g, k = some g → g < N ∧ ∀ a, I.A = some a → a.block ≠ g
theorem Str.by_ {w w' : World} {b : Nat} {cs : Array Value} {k : Option Nat} (h : Str w b cs) (hg : w.grownBy w' k) (hk : k ≠ some b) : Str w' b cs := by
  have hl := h.lt
  obtain ⟨t, ht⟩ := h
  exact ⟨t, (hg.block b hl (fun e => hk e.symm)).trans ht⟩
section
variable {α β : Type} {I : Row1 α} {I2 : Row1 β} {N : Nat} {listed : Array Bool} {a : Act} {w w' : World} {j : Nat} {d : Option Tmp} {v : Value} {k : Option Nat}
theorem Row1.step (hE : I.E.Pure) (h : I.J N listed a w) (hj : I.Off j d) (hg : w.grownBy w' k) (ho : I.Out N k) : I.J N (listed.setIfInBounds j true) (a.put d v) w' := by
  obtain ⟨j1, j2, j3, d1, d2, d3⟩ := hj
  unfold Row1.J
  rw [getD_set_ne false j2, getD_set_ne false j1, getD_set_ne false j3, eval_ne d1, eval_ne d2, eval_ne d3]
  refine ⟨fun hf => ?_, fun ht => ?_, h.2.2⟩
  · obtain ⟨h1, h2⟩ := h.1 hf
    refine ⟨h1.grownP hE hg (fun ad e ek => (ho _ ek).2 ad e rfl), fun hr => ?_⟩
    obtain ⟨g, vs, e, hN, hs, hrel⟩ := h2 hr
    exact ⟨g, vs, e, hN, Str.by_ hs hg (fun ek => by have := (ho _ ek).1; omega), hE _ _ _ _ _ _ hrel⟩
  · obtain ⟨A', c', e, ef, h1, h2⟩ := h.2.1 ht
    refine ⟨A', c', e, ef, h1.grownP hE hg (fun ad e2 ek => ?_), h2⟩
    obtain ⟨k1, k2⟩ := ho _ ek
    rcases h2 ad e2 with e3 | e3
    · exact k2 ad (by rw [e3, e2]) rfl
    · omega
end
section
variable {α β : Type} {I : Row1 α} {I2 : Row1 β} {N : Nat} {bl : List Nat} {P : Program} {ops : Array Oper} {Q : Exit → Act → World → Prop} {T : List (SP (extB N bl))} {a0 : Act} {W : World} {j : Nat} {o : Oper} {s : List (Tmp × Option Nat)}
end
end Reg
end Go.Proofs.YtkkfabnehhamdaaDoor
end
