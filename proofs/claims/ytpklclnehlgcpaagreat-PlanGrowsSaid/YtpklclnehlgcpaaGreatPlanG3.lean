/-
  Parts of the proof of PlanGrows.
-/
import Derived.Test.YtpklclnehlgcpaaGreatPlanG2
import Derived.Test.YtpklclnehlgcpaaGreatPlanG0
import Derived.Test.YtpklclnehlgcpaaGreatPlanG1
import Derived.Stop.RegionWithIn
import Derived.Lib.BufferWrite
section
namespace Go.Proofs.YtpklclnehlgcpaaGreat
open Go.RowKit
set_option linter.unusedVariables false

/-- blocks hidden -/
def hideL (w : World) : List Nat → World
  | [] => w
  | g :: bs => hide (hideL w bs) g
theorem hideL_size (w : World) : ∀ bs, (hideL w bs).heap.size = w.heap.size
  | [] => rfl
  | g :: bs => (hide_size _ g).trans (hideL_size w bs)
theorem hideL_in (w : World) (p : Addr) : ∀ bs, p.block ∈ bs → (hideL w bs).cell? p = none
  | g :: bs, h => by
    by_cases e : p.block = g
    · subst e; exact hide_none _ p
    · show (hide (hideL w bs) g).cell? p = none
      rw [hide_other _ g p e]
      exact hideL_in w p bs (by rcases List.mem_cons.1 h with h | h; exact absurd h e; exact h)
theorem hideL_out (w : World) (p : Addr) : ∀ bs, p.block ∉ bs → (hideL w bs).cell? p = w.cell? p
  | [], _ => rfl
  | g :: bs, h => by
    rw [List.mem_cons, not_or] at h
    show (hide (hideL w bs) g).cell? p = _
    rw [hide_other _ g p h.1]
    exact hideL_out w p bs h.2
theorem sub_hideL (B : Nat) (w : World) (bs : List Nat) : Sub B (hideL w bs) w := by
  intro p v hp hv
  by_cases h : p.block ∈ bs
  · rw [hideL_in w p bs h] at hv; cases hv
  · rwa [hideL_out w p bs h] at hv
theorem hideL_sub_of {B : Nat} {w w' : World} {bs bs' : List Nat} (h : ∀ k, k < B → k ∉ bs → k ∉ bs' ∧ w'.heap[k]? = w.heap[k]?) : Sub B (hideL w bs) (hideL w' bs') := by
  intro p v hp hv
  by_cases hg : p.block ∈ bs
  · rw [hideL_in w p bs hg] at hv; cases hv
  · obtain ⟨h1, h2⟩ := h _ hp hg
    rw [hideL_out w p bs hg] at hv
    rw [hideL_out w' p bs' h1, World.cell?_of_block h2]
    exact hv
theorem hideL_below {B : Nat} {w w' : World} (bs : List Nat) (h : Below B w w') : Sub B (hideL w bs) (hideL w' bs) := hideL_sub_of fun k hk hn => ⟨hn, h.block k hk⟩
/-- bytes do not hang on rows without bytes -/
theorem Bytes.hideL {w : World} {B n c : Nat} {A : Option Addr} {l : List UInt8} (h : Bytes w B A n c l) (bs : List Nat) (hn : ∀ b ∈ bs, ∃ cs, Str w b cs ∧ notU8 cs = true) : Bytes (hideL w bs) B A n c l := by
  obtain ⟨h1, h2, h3, h4⟩ := h
  refine ⟨h1, h2, h3, fun hpos => ?_⟩
  obtain ⟨b, o, e, hb, hc⟩ := h4 hpos
  refine ⟨b, o, e, hb, fun j u hu => ?_⟩
  rw [hideL_out w ⟨b, o + j, none⟩ bs]
  · exact hc j u hu
  · intro hm
    obtain ⟨cs, hs, hn1⟩ := hn b hm
    have hx := hc j u hu
    rw [hs.cell] at hx
    have hm2 : byteV u ∈ cs.toList := by
      rw [Array.mem_toList_iff]
      exact Array.mem_of_getElem? hx
    have := List.all_eq_true.1 hn1 _ hm2
    simp [byteV] at this

/-- a word on a value and what it hangs on, below a bound -/
structure MP (β : Type) where
  pred : β → World → Nat → Prop
  mono : ∀ {v w w' B B'}, Sub B w w' → B ≤ B' → pred v w B → pred v w' B'
namespace Reg
/-- nothing that was there turns, but for these blocks -/
structure KeepB (N : Nat) (b0 : List Nat) (w w' : World) : Prop where
  os : w'.os = w.os
  tape : w'.tape = w.tape
  output : w'.output = w.output
  size : w.heap.size ≤ w'.heap.size
  block : ∀ k, k < N → k ∉ b0 → w'.heap[k]? = w.heap[k]?
theorem KeepB.of {N : Nat} {b0 : List Nat} {w w' : World} (h : Below N w w') : KeepB N b0 w w' := ⟨h.os, h.tape, h.output, h.size, fun k hk _ => h.block k hk⟩
theorem KeepB.below {N M : Nat} {b0 : List Nat} {w w' : World} (h : KeepB N b0 w w') (hM : M ≤ N) (h0 : ∀ b ∈ b0, M ≤ b) : Below M w w' := ⟨h.os, h.tape, h.output, h.size, fun k hk => h.block k (by omega) (fun hm => by have := h0 k hm; omega)⟩
theorem KeepB.cell {N : Nat} {b0 : List Nat} {w w' : World} (h : KeepB N b0 w w') {p : Addr} (h1 : p.block < N) (h2 : p.block ∉ b0) : w'.cell? p = w.cell? p := World.cell?_of_block (h.block p.block h1 h2)
theorem KeepB.str {N b : Nat} {b0 : List Nat} {w w' : World} {cs : Array Value} (h : KeepB N b0 w w') (hs : Str w b cs) (h1 : b < N) (h2 : b ∉ b0) : Str w' b cs := by
  obtain ⟨t, ht⟩ := hs
  exact ⟨t, (h.block b h1 h2).trans ht⟩
def extB (N : Nat) (b0 : List Nat) : Way := ⟨fun w w' => KeepB N b0 w w', fun w => KeepB.of (Below.refl N w), fun _ _ _ h k => ⟨k.os.trans h.os, k.tape.trans h.tape, k.output.trans h.output, Nat.le_trans h.size k.size, fun i hi hb => (k.block i hi hb).trans (h.block i hi hb)⟩, fun _ => ⟨rfl, rfl, rfl, Nat.le_refl _, fun _ _ _ => rfl⟩⟩
/-- boxes (who makes it, its slot, who stores into it), what lies in them; values (who makes it, its slot); boxes that were there (slot, block, who stores) -/
structure BxS where
  K : List (Nat × Tmp × Nat)
  Z : Tmp → Array Value
  X : Tmp → MP (Array Value)
  KM : List (Nat × Tmp)
  M : Tmp → MP Value
  K0 : List (Tmp × Nat × Nat)
def BxS.b0 (S : BxS) : List Nat := S.K0.map fun k => k.2.1
/-- the hidden blocks -/
def Bs (N : Nat) (b0 : List Nat) (w : World) (bs : List Nat) : Prop := ∀ b ∈ bs, (b ∈ b0 ∨ N ≤ b) ∧ b < w.heap.size ∧ ∃ cs, Str w b cs ∧ notU8 cs = true
/-- the part on boxes -/
def BxJ (N : Nat) (S : BxS) (listed : Array Bool) (a : Act) (w : World) (bs : List Nat) : Prop :=
  Bs N S.b0 w bs ∧
  (∀ b ∈ S.K, listed.getD b.1 false = true → ∃ g, a.eval (.tmp b.2.1) = .pointer (some ⟨g, 0, none⟩) ∧ g ∈ bs ∧ N ≤ g ∧
    (listed.getD b.2.2 false = true → ∃ cs, Str w g cs ∧ (S.X b.2.1).pred cs (hideL w bs) w.heap.size) ∧ (listed.getD b.2.2 false = false → Str w g (S.Z b.2.1))) ∧
  (∀ b ∈ S.K, ∀ c ∈ S.K, b ≠ c → listed.getD b.1 false = true → listed.getD c.1 false = true → a.eval (.tmp b.2.1) ≠ a.eval (.tmp c.2.1)) ∧
  (∀ b ∈ S.K, listed.getD b.2.2 false = true → listed.getD b.1 false = true) ∧
  (∀ k ∈ S.K0, k.2.1 ∈ bs ∧ (listed.getD k.2.2 false = true → ∃ cs, Str w k.2.1 cs ∧ (S.X k.1).pred cs (hideL w bs) w.heap.size) ∧ (listed.getD k.2.2 false = false → Str w k.2.1 (S.Z k.1)))
def BJ (N : Nat) (S : BxS) : Word := fun listed a w => ∃ bs : List Nat, BxJ N S listed a w bs ∧ ∀ m ∈ S.KM, listed.getD m.1 false = true → (S.M m.2).pred (a.eval (.tmp m.2)) (hideL w bs) w.heap.size
theorem bj_zero {N : Nat} {S : BxS} {listed : Array Bool} {a : Act} {w : World} (h0 : ∀ k ∈ S.K0, Str w k.2.1 (S.Z k.1) ∧ notU8 (S.Z k.1) = true) (h : ∀ i, listed.getD i false = false) : BJ N S listed a w :=
  ⟨S.b0, ⟨fun b hb => by
      obtain ⟨k, hk, rfl⟩ := List.mem_map.1 hb
      obtain ⟨h1, h2⟩ := h0 k hk
      exact ⟨.inl hb, h1.lt, _, h1, h2⟩, fun b _ h1 => (by rw [h] at h1; cases h1), fun b _ c _ _ h1 => (by rw [h] at h1; cases h1), fun b _ h1 => (by rw [h] at h1; cases h1),
    fun k hk => ⟨List.mem_map.2 ⟨k, hk, rfl⟩, fun h1 => (by rw [h] at h1; cases h1), fun _ => (h0 k hk).1⟩⟩, fun m _ h1 => (by rw [h] at h1; cases h1)⟩
/-- all apart -/
def okS (N : Nat) (S : BxS) : Prop := okK S.K ∧ (∀ b ∈ S.K, ∀ m ∈ S.KM, b.1 ≠ m.1 ∧ b.2.2 ≠ m.1 ∧ b.2.1 ≠ m.2) ∧ (∀ m ∈ S.KM, ∀ m' ∈ S.KM, (m.1 = m'.1 ∨ m.2 = m'.2) → m = m') ∧
  (∀ k ∈ S.K0, (∀ b ∈ S.K, k.2.2 ≠ b.1 ∧ k.2.2 ≠ b.2.2) ∧ (∀ m ∈ S.KM, k.2.2 ≠ m.1)) ∧ (∀ k ∈ S.K0, ∀ k' ∈ S.K0, (k.2.2 = k'.2.2 ∨ k.2.1 = k'.2.1) → k = k') ∧ ∀ k ∈ S.K0, k.2.1 < N
section
variable {N : Nat} {S : BxS} {listed : Array Bool} {a : Act} {w w' : World} {j : Nat}
theorem Bs.next {b0 bs : List Nat} (h : Bs N b0 w bs) (hb : Below w.heap.size w w') : Bs N b0 w' bs := fun b hm => by
  obtain ⟨h1, h2, cs, h3, h4⟩ := h b hm
  exact ⟨h1, Nat.lt_of_lt_of_le h2 hb.size, cs, h3.next hb, h4⟩
/-- nothing that was there has turned; the slot is none of those -/
theorem bj_ord {d : Option Tmp} {v : Value} {bs : List Nat} (hk : ∀ b ∈ S.K, j ≠ b.1 ∧ j ≠ b.2.2 ∧ d ≠ some b.2.1) (hk0 : ∀ k ∈ S.K0, j ≠ k.2.2) (hb : Below w.heap.size w w')
    (hM : ∀ m ∈ S.KM, (listed.setIfInBounds j true).getD m.1 false = true → (S.M m.2).pred ((a.put d v).eval (.tmp m.2)) (hideL w' bs) w'.heap.size)
    (h : BxJ N S listed a w bs) : BJ N S (listed.setIfInBounds j true) (a.put d v) w' := by
  obtain ⟨h0, h1, h2, h3, h4⟩ := h
  refine ⟨bs, ⟨h0.next hb, fun b hm hl => ?_, fun b hm c hc hne hl hl' => ?_, fun b hm hl => ?_, fun k hkm => ?_⟩, hM⟩
  · obtain ⟨k1, k2, k3⟩ := hk b hm
    rw [getD_set_ne false k1] at hl
    rw [getD_set_ne false k2, eval_of (put_other a d v _ k3)]
    obtain ⟨g, e, hg, hgN, hs, hz⟩ := h1 b hm hl
    exact ⟨g, e, hg, hgN, fun hh => by
      obtain ⟨cs, hs1, hs2⟩ := hs hh
      exact ⟨cs, hs1.next hb, (S.X b.2.1).mono (hideL_below bs hb) hb.size hs2⟩, fun hh => (hz hh).next hb⟩
  · obtain ⟨k1, k2, k3⟩ := hk b hm
    obtain ⟨c1, c2, c3⟩ := hk c hc
    rw [getD_set_ne false k1] at hl
    rw [getD_set_ne false c1] at hl'
    rw [eval_of (put_other a d v _ k3), eval_of (put_other a d v _ c3)]
    exact h2 b hm c hc hne hl hl'
  · obtain ⟨k1, k2, k3⟩ := hk b hm
    rw [getD_set_ne false k2] at hl
    rw [getD_set_ne false k1]
    exact h3 b hm hl
  · obtain ⟨g1, g2, g3⟩ := h4 k hkm
    rw [getD_set_ne false (hk0 k hkm)]
    exact ⟨g1, fun hh => by
      obtain ⟨cs, c1, c2⟩ := g2 hh
      exact ⟨cs, c1.next hb, (S.X k.1).mono (hideL_below bs hb) hb.size c2⟩, fun hh => (g3 hh).next hb⟩
end
section
variable {N : Nat} {S : BxS} {P : Program} {ops : Array Oper} {Q : Exit → Act → World → Prop} {T : List (SP (extB N S.b0))} {a0 : Act} {W : World} {j : Nat} {o : Oper} {s : List (Tmp × Option Nat)}
/-- the words on the values that an operation waits for -/
def mems (S : BxS) (ops : Array Oper) (j : Nat) (a : Act) (w : World) (B : Nat) : Prop := ∀ m ∈ S.KM, waits ops j m.1 = true → (S.M m.2).pred (a.eval (.tmp m.2)) w B
/-- an operation whose value hangs on nothing -/
theorem oblB_ord (hg : o.guard = none) (hN : N = W.heap.size) (hk : ∀ b ∈ S.K, j ≠ b.1 ∧ j ≠ b.2.2 ∧ o.dst ≠ some b.2.1) (hm : ∀ m ∈ S.KM, j ≠ m.1 ∧ o.dst ≠ some m.2) (hk0 : ∀ k ∈ S.K0, j ≠ k.2.2)
    (h : ∀ a w, KeepB W.heap.size S.b0 W w → sights T a0 a w s → mems S ops j a w w.heap.size → o.wp P a w (DoneB T j o a w) Q) : OblJ P ops Q T (BJ N S) a0 W j o s := by
  intro listed a w hx hs _ _ _ hwt hJ
  subst hN
  obtain ⟨bs, h0, hM⟩ := hJ
  refine free hg (Oper.wp_mono (fun a' w' ⟨v, e, hz, hp, hb⟩ => ?_) (h a w hx hs fun m hmm hw => (S.M m.2).mono (sub_hideL _ w bs) (Nat.le_refl _) (hM m hmm (hwt m.1 hw))))
  subst e
  refine ⟨⟨v, rfl, hz, hp, KeepB.of (hb.mono (KeepB.size hx))⟩, bj_ord hk hk0 hb (fun m hmm hl => ?_) h0⟩
  obtain ⟨k1, k2⟩ := hm m hmm
  rw [getD_set_ne false k1] at hl
  rw [eval_of (put_other a o.dst v _ k2)]
  exact (S.M m.2).mono (hideL_below bs hb) hb.size (hM m hmm hl)
/-- what such an operation leaves -/
structure DoneM (S : BxS) (t : Tmp) (bs : List Nat) (a : Act) (w : World) (a' : Act) (w' : World) : Prop where
  out : ∃ v, a' = a.put (some t) v ∧ Below w.heap.size w w' ∧ (S.M t).pred v (hideL w' bs) w'.heap.size
/-- an operation whose value hangs on memory -/
theorem oblB_mem {t : Tmp} (hg : o.guard = none) (hN : N = W.heap.size) (hS : okS N S) (hd : o.dst = some t) (hmt : (j, t) ∈ S.KM) (ht : t < a0.tmps.size) (hj : j < ops.size) (hT : ∀ v w, predAt T j v w)
    (h : ∀ a w bs, KeepB W.heap.size S.b0 W w → Bs W.heap.size S.b0 w bs → sights T a0 a w s → mems S ops j a (hideL w bs) w.heap.size → o.wp P a w (DoneM S t bs a w) Q) : OblJ P ops Q T (BJ N S) a0 W j o s := by
  intro listed a w hx hs hls has hun hwt hJ
  subst hN
  obtain ⟨bs, h0, hM⟩ := hJ
  refine free hg (Oper.wp_mono (fun a' w' hdn => ?_) (h a w bs hx h0.1 hs fun m hmm hw => hM m hmm (hwt m.1 hw)))
  obtain ⟨v, e, hb, hp⟩ := hdn.out
  subst e
  refine ⟨⟨v, by rw [hd], (fun hh => by rw [hd] at hh; cases hh), hT _ _, KeepB.of (hb.mono (KeepB.size hx))⟩, bj_ord (fun b hbm => ?_) (fun k hkm e => (hS.2.2.2.1 k hkm).2 (j, t) hmt e.symm) hb (fun m hmm hl => ?_) h0⟩
  · obtain ⟨e1, e2, e3⟩ := hS.2.1 b hbm (j, t) hmt
    exact ⟨fun e => e1 e.symm, fun e => e2 e.symm, fun e => e3 (Option.some.inj e).symm⟩
  · by_cases e : m = (j, t)
    · subst e
      rw [eval_put_same (by rw [has]; exact ht)]
      exact hp
    · have k1 : j ≠ m.1 := fun e1 => e (hS.2.2.1 m hmm (j, t) hmt (.inl e1.symm))
      have k2 : (some t : Option Tmp) ≠ some m.2 := fun e1 => e (hS.2.2.1 m hmm (j, t) hmt (.inr (Option.some.inj e1).symm))
      rw [getD_set_ne false k1] at hl
      rw [eval_of (put_other a (some t) v _ k2)]
      exact (S.M m.2).mono (hideL_below bs hb) hb.size (hM m hmm hl)
/-- a box is made -/
theorem oblB_alloc {t : Tmp} {js : Nat} (hg : o.guard = none) (hN : N = W.heap.size) (hS : okS N S) (hm : (j, t, js) ∈ S.K) (hd : o.dst = some t) (ht : t < a0.tmps.size) (hj : j < ops.size) (hT : ∀ v w, predAt T j v w) (hZ : notU8 (S.Z t) = true)
    (h : ∀ a w, KeepB W.heap.size S.b0 W w → o.wp P a w (fun a' w' => ∃ ty, a' = a.put o.dst (.pointer (some ⟨w.heap.size, 0, none⟩)) ∧ w' = w.alloc (.cells (S.Z t) ty)) Q) : OblJ P ops Q T (BJ N S) a0 W j o s := by
  intro listed a w hx _ hls has hun _ hJ
  subst hN
  obtain ⟨bs, ⟨h0, h1, h2, h3, h4⟩, hM⟩ := hJ
  have hsz : W.heap.size ≤ w.heap.size := KeepB.size hx
  refine free hg (Oper.wp_mono (fun a' w' ⟨ty, e, e'⟩ => ?_) (h a w hx))
  subst e
  subst e'
  refine ⟨⟨_, rfl, fun h => (by rw [hd] at h; cases h), hT _ _, KeepB.of (Below.alloc (Below.refl _ w) hsz _)⟩, ?_⟩
  rw [hd]
  have hba : Below w.heap.size w (w.alloc (.cells (S.Z t) ty)) := balloc (bsame w) _
  have hsub : Sub w.heap.size (hideL w bs) (hideL (w.alloc (.cells (S.Z t) ty)) (w.heap.size :: bs)) := hideL_sub_of fun k hk hn => ⟨by rw [List.mem_cons, not_or]; exact ⟨by omega, hn⟩, hba.block k hk⟩
  have hK := hS.1
  have hn : ∀ b ∈ S.K, b ≠ (j, t, js) → j ≠ b.1 ∧ (some t : Option Tmp) ≠ some b.2.1 := fun b hbm hne =>
    ⟨fun e => hne ((hK (j, t, js) hm b hbm).1 (.inl e)).symm, fun e => hne ((hK (j, t, js) hm b hbm).1 (.inr (.inl (Option.some.inj e)))).symm⟩
  have hs : ∀ b ∈ S.K, j ≠ b.2.2 := fun b hbm => (hK (j, t, js) hm b hbm).2
  have hold : ∀ b ∈ S.K, b ≠ (j, t, js) → listed.getD b.1 false = true → (a.put (some t) (.pointer (some ⟨w.heap.size, 0, none⟩))).eval (.tmp b.2.1) ≠ .pointer (some ⟨w.heap.size, 0, none⟩) := fun b hbm hne hl => by
    rw [eval_of (put_other a _ _ _ (hn b hbm hne).2)]
    obtain ⟨g, e, hg, _⟩ := h1 b hbm hl
    have := (h0 g hg).2.1
    rw [e]
    intro e2
    injection e2 with e3
    injection e3 with e4
    injection e4 with e5
    omega
  refine ⟨w.heap.size :: bs, ⟨fun b hb => ?_, fun b hbm hl => ?_, fun b hbm c hc hne hl hl' => ?_, fun b hbm hl => ?_, fun k hkm => ?_⟩, fun m hmm hl => ?_⟩
  · rcases List.mem_cons.1 hb with rfl | hb
    · exact ⟨.inr hsz, by simp, _, Str.new w _ ty, hZ⟩
    · exact h0.next hba b hb
  · by_cases hb : b = (j, t, js)
    · subst hb
      refine ⟨w.heap.size, eval_put_same (by rw [has]; exact ht), by simp, hsz, fun hh => ?_, fun _ => Str.new w _ ty⟩
      exfalso
      rw [getD_set_ne false (hs _ hm)] at hh
      have := h3 _ hm hh
      rw [getD_ft hun] at this
      cases this
    · rw [getD_set_ne false (hn b hbm hb).1] at hl
      rw [getD_set_ne false (hs b hbm), eval_of (put_other a _ _ _ (hn b hbm hb).2)]
      obtain ⟨g, e, hg, hgN, hs1, hz1⟩ := h1 b hbm hl
      exact ⟨g, e, List.mem_cons_of_mem _ hg, hgN, fun hh => by
        obtain ⟨cs, c1, c2⟩ := hs1 hh
        exact ⟨cs, c1.alloc _, (S.X b.2.1).mono hsub (by simp) c2⟩, fun hh => (hz1 hh).alloc _⟩
  · by_cases hb : b = (j, t, js)
    · subst hb
      have hcb : c ≠ (j, t, js) := fun e => hne e.symm
      rw [getD_set_ne false (hn c hc hcb).1] at hl'
      rw [eval_put_same (by rw [has]; exact ht)]
      exact (hold c hc hcb hl').symm
    · rw [getD_set_ne false (hn b hbm hb).1] at hl
      by_cases hcb : c = (j, t, js)
      · subst hcb
        rw [eval_put_same (by rw [has]; exact ht)]
        exact hold b hbm hb hl
      · rw [getD_set_ne false (hn c hc hcb).1] at hl'
        rw [eval_of (put_other a _ _ _ (hn b hbm hb).2), eval_of (put_other a _ _ _ (hn c hc hcb).2)]
        exact h2 b hbm c hc hne hl hl'
  · rw [getD_set_ne false (hs b hbm)] at hl
    exact getD_set_true (h3 b hbm hl)
  · obtain ⟨g1, g2, g3⟩ := h4 k hkm
    rw [getD_set_ne false (Ne.symm ((hS.2.2.2.1 k hkm).1 _ hm).1)]
    exact ⟨List.mem_cons_of_mem _ g1, fun hh => by
      obtain ⟨cs, c1, c2⟩ := g2 hh
      exact ⟨cs, c1.alloc _, (S.X k.1).mono hsub (by simp) c2⟩, fun hh => (g3 hh).alloc _⟩
  · obtain ⟨e1, e2, e3⟩ := hS.2.1 (j, t, js) hm m hmm
    rw [getD_set_ne false e1] at hl
    rw [eval_of (put_other a _ _ _ (fun e => e3 (Option.some.inj e)))]
    exact (S.M m.2).mono hsub (by simp) (hM m hmm hl)
/-- what a store into a box leaves -/
structure StoredB (S : BxS) (t : Tmp) (g : Nat) (bs : List Nat) (a : Act) (w : World) (a' : Act) (w' : World) : Prop where
  out : a' = a ∧ ∃ cs, w' = w.setRow g cs ∧ notU8 cs = true ∧ (S.X t).pred cs (hideL w bs) w.heap.size
/-- a box is stored into -/
theorem oblB_store {t : Tmp} {ja : Nat} (hg : o.guard = none) (hN : N = W.heap.size) (hS : okS N S) (hm : (ja, t, j) ∈ S.K) (hd : o.dst = none) (hj : j < ops.size) (hw : waits ops j ja = true) (hT : ∀ v w, predAt T j v w)
    (h : ∀ a w bs g, KeepB W.heap.size S.b0 W w → Bs W.heap.size S.b0 w bs → sights T a0 a w s → mems S ops j a (hideL w bs) w.heap.size → a.eval (.tmp t) = .pointer (some ⟨g, 0, none⟩) → Str w g (S.Z t) → o.wp P a w (StoredB S t g bs a w) Q) : OblJ P ops Q T (BJ N S) a0 W j o s := by
  intro listed a w hx hs hls has hun hwt hJ
  subst hN
  obtain ⟨bs, ⟨h0, h1, h2, h3, h4⟩, hM⟩ := hJ
  obtain ⟨g, e, hg', hgN, hS1, hS0⟩ := h1 _ hm (hwt ja hw)
  have hSz := hS0 (getD_ft hun)
  refine free hg (Oper.wp_mono (fun a' w' hst => ?_) (h a w bs g hx h0 hs (fun m hmm hw => hM m hmm (hwt m.1 hw)) e hSz))
  obtain ⟨e1, cs, e2, hn1, hp⟩ := hst.out
  subst e1
  subst e2
  obtain ⟨_, hgl, _⟩ := h0 g hg'
  have hK := hS.1
  have hsz : (w.setRow g cs).heap.size = w.heap.size := by simp [World.setRow]
  have hsub : Sub w.heap.size (hideL w bs) (hideL (w.setRow g cs) bs) := hideL_sub_of fun k hk hn => ⟨hn, setRow_other w g k cs (fun e => hn (by rw [e]; exact hg'))⟩
  have hjl : j < listed.size := by omega
  have hs' : ∀ b ∈ S.K, j ≠ b.1 := fun b hbm => Ne.symm (hK b hbm (ja, t, j) hm).2
  refine ⟨⟨undef, by rw [hd]; rfl, fun _ => rfl, hT _ _, KeepB.of (below_setRow (Below.refl _ w) hgN _)⟩, bs, ⟨fun b hb => ?_, fun b hbm hl => ?_, fun b hbm c hc hne hl hl' => ?_, fun b hbm hl => ?_, fun k hkm => ?_⟩, fun m hmm hl => ?_⟩
  · obtain ⟨b1, b2, cs', b3, b4⟩ := h0 b hb
    by_cases e : b = g
    · subst e
      exact ⟨b1, by rw [hsz]; exact b2, cs, b3.setRow, hn1⟩
    · exact ⟨b1, by rw [hsz]; exact b2, cs', b3.setRow_other e, b4⟩
  · rw [getD_set_ne false (hs' b hbm)] at hl
    obtain ⟨g', e', hg2, hgN2, hs1, hz1⟩ := h1 b hbm hl
    by_cases hb : b = (ja, t, j)
    · subst hb
      rw [e] at e'
      injection e' with e3
      injection e3 with e4
      injection e4 with e5
      subst e5
      refine ⟨g, e, hg2, hgN, fun _ => ⟨cs, hSz.setRow, ?_⟩, fun hh => by rw [getD_set_self hjl] at hh; cases hh⟩
      rw [hsz]
      exact (S.X _).mono hsub (Nat.le_refl _) hp
    · have hjb : j ≠ b.2.2 := fun e => hb ((hK (ja, t, j) hm b hbm).1 (.inr (.inr e))).symm
      have hgg : g' ≠ g := fun e5 => h2 b hbm _ hm hb hl (hwt ja hw) (by rw [e', e, e5])
      refine ⟨g', e', hg2, hgN2, fun hh => ?_, fun hh => ?_⟩
      · rw [getD_set_ne false hjb] at hh
        obtain ⟨cs', c1, c2⟩ := hs1 hh
        refine ⟨cs', c1.setRow_other hgg, ?_⟩
        rw [hsz]
        exact (S.X _).mono hsub (Nat.le_refl _) c2
      · rw [getD_set_ne false hjb] at hh
        exact (hz1 hh).setRow_other hgg
  · rw [getD_set_ne false (hs' b hbm)] at hl
    rw [getD_set_ne false (hs' c hc)] at hl'
    exact h2 b hbm c hc hne hl hl'
  · rw [getD_set_ne false (hs' b hbm)]
    by_cases hb : b = (ja, t, j)
    · subst hb
      exact hwt ja hw
    · rw [getD_set_ne false (fun e => hb ((hK (ja, t, j) hm b hbm).1 (.inr (.inr e))).symm)] at hl
      exact h3 b hbm hl
  · obtain ⟨g1, g2, g3⟩ := h4 k hkm
    have hgg : k.2.1 ≠ g := by have := hS.2.2.2.2.2 k hkm; omega
    rw [getD_set_ne false (Ne.symm ((hS.2.2.2.1 k hkm).1 _ hm).2)]
    exact ⟨g1, fun hh => by
      obtain ⟨cs', c1, c2⟩ := g2 hh
      exact ⟨cs', c1.setRow_other hgg, by rw [hsz]; exact (S.X k.1).mono hsub (Nat.le_refl _) c2⟩, fun hh => (g3 hh).setRow_other hgg⟩
  · obtain ⟨e1, e2, e3⟩ := hS.2.1 (ja, t, j) hm m hmm
    rw [getD_set_ne false e2] at hl
    rw [hsz]
    exact (S.M m.2).mono hsub (Nat.le_refl _) (hM m hmm hl)
/-- a box that was there is stored into -/
theorem oblB_store0 {t : Tmp} {g : Nat} (hg : o.guard = none) (hN : N = W.heap.size) (hS : okS N S) (hm : (t, g, j) ∈ S.K0) (hd : o.dst = none) (hj : j < ops.size) (hT : ∀ v w, predAt T j v w)
    (h : ∀ a w bs, KeepB W.heap.size S.b0 W w → Bs W.heap.size S.b0 w bs → sights T a0 a w s → mems S ops j a (hideL w bs) w.heap.size → Str w g (S.Z t) → o.wp P a w (StoredB S t g bs a w) Q) : OblJ P ops Q T (BJ N S) a0 W j o s := by
  intro listed a w hx hs hls has hun hwt hJ
  subst hN
  obtain ⟨bs, ⟨h0, h1, h2, h3, h4⟩, hM⟩ := hJ
  obtain ⟨hg', hS1, hS0⟩ := h4 _ hm
  have hSz := hS0 (getD_ft hun)
  refine free hg (Oper.wp_mono (fun a' w' hst => ?_) (h a w bs hx h0 hs (fun m hmm hw => hM m hmm (hwt m.1 hw)) hSz))
  obtain ⟨e1, cs, e2, hn1, hp⟩ := hst.out
  subst e1
  subst e2
  dsimp only at hg' hS1 hS0 hSz
  have hgl := (h0 g hg').2.1
  have hgN : g < W.heap.size := hS.2.2.2.2.2 _ hm
  have hsz : (w.setRow g cs).heap.size = w.heap.size := by simp [World.setRow]
  have hsub : Sub w.heap.size (hideL w bs) (hideL (w.setRow g cs) bs) := hideL_sub_of fun k hk hn => ⟨hn, setRow_other w g k cs (fun e => hn (by rw [e]; exact hg'))⟩
  have hjl : j < listed.size := by omega
  obtain ⟨hs1', hs2'⟩ := hS.2.2.2.1 _ hm
  have hs' : ∀ b ∈ S.K, j ≠ b.1 ∧ j ≠ b.2.2 := fun b hbm => hs1' b hbm
  refine ⟨⟨undef, by rw [hd]; rfl, fun _ => rfl, hT _ _, ⟨rfl, rfl, rfl, by rw [hsz]; exact Nat.le_refl _, fun k _ hk => setRow_other w g k cs (fun e => hk (by rw [e]; exact List.mem_map.2 ⟨_, hm, rfl⟩))⟩⟩, bs, ⟨fun b hb => ?_, fun b hbm hl => ?_, fun b hbm c hc hne hl hl' => ?_, fun b hbm hl => ?_, fun k hkm => ?_⟩, fun m hmm hl => ?_⟩
  · obtain ⟨b1, b2, cs', b3, b4⟩ := h0 b hb
    by_cases e : b = g
    · subst e
      exact ⟨b1, by rw [hsz]; exact b2, cs, b3.setRow, hn1⟩
    · exact ⟨b1, by rw [hsz]; exact b2, cs', b3.setRow_other e, b4⟩
  · obtain ⟨n1, n2⟩ := hs' b hbm
    rw [getD_set_ne false n1] at hl
    obtain ⟨g', e', hg2, hgN2, hs1, hz1⟩ := h1 b hbm hl
    have hgg : g' ≠ g := by omega
    refine ⟨g', e', hg2, hgN2, fun hh => ?_, fun hh => ?_⟩
    · rw [getD_set_ne false n2] at hh
      obtain ⟨cs', c1, c2⟩ := hs1 hh
      refine ⟨cs', c1.setRow_other hgg, ?_⟩
      rw [hsz]
      exact (S.X _).mono hsub (Nat.le_refl _) c2
    · rw [getD_set_ne false n2] at hh
      exact (hz1 hh).setRow_other hgg
  · rw [getD_set_ne false (hs' b hbm).1] at hl
    rw [getD_set_ne false (hs' c hc).1] at hl'
    exact h2 b hbm c hc hne hl hl'
  · rw [getD_set_ne false (hs' b hbm).2] at hl
    rw [getD_set_ne false (hs' b hbm).1]
    exact h3 b hbm hl
  · obtain ⟨g1, g2, g3⟩ := h4 k hkm
    by_cases e : k = (t, g, j)
    · subst e
      refine ⟨hg', fun _ => ⟨cs, hSz.setRow, ?_⟩, fun hh => by rw [getD_set_self hjl] at hh; cases hh⟩
      rw [hsz]
      exact (S.X _).mono hsub (Nat.le_refl _) hp
    · have n1 : j ≠ k.2.2 := fun e1 => e (hS.2.2.2.2.1 k hkm _ hm (.inl e1.symm))
      have n2 : k.2.1 ≠ g := fun e1 => e (hS.2.2.2.2.1 k hkm _ hm (.inr e1))
      rw [getD_set_ne false n1]
      exact ⟨g1, fun hh => by
        obtain ⟨cs', c1, c2⟩ := g2 hh
        exact ⟨cs', c1.setRow_other n2, by rw [hsz]; exact (S.X k.1).mono hsub (Nat.le_refl _) c2⟩, fun hh => (g3 hh).setRow_other n2⟩
  · rw [getD_set_ne false (hs2' m hmm)] at hl
    rw [hsz]
    exact (S.M m.2).mono hsub (Nat.le_refl _) (hM m hmm hl)
/-- what is known behind the region -/
theorem bj_end {listed : Array Bool} {a : Act} {w : World} {n : Nat} (hall : ∀ i, i < n → listed.getD i false = true) (hK : ∀ b ∈ S.K, b.1 < n ∧ b.2.2 < n) (hKM : ∀ m ∈ S.KM, m.1 < n) (hK0 : ∀ k ∈ S.K0.map (fun k => k.2.2), k < n) (h : BJ N S listed a w) :
    (∀ m ∈ S.KM, (S.M m.2).pred (a.eval (.tmp m.2)) w w.heap.size) ∧
    (∀ b ∈ S.K, ∃ g cs, a.eval (.tmp b.2.1) = .pointer (some ⟨g, 0, none⟩) ∧ N ≤ g ∧ Str w g cs ∧ (S.X b.2.1).pred cs w w.heap.size) ∧
    (∀ b ∈ S.K, ∀ c ∈ S.K, b ≠ c → a.eval (.tmp b.2.1) ≠ a.eval (.tmp c.2.1)) ∧
    (∀ k ∈ S.K0, ∃ cs, Str w k.2.1 cs ∧ (S.X k.1).pred cs w w.heap.size) := by
  obtain ⟨bs, ⟨h0, h1, h2, h3, h4⟩, hM⟩ := h
  refine ⟨fun m hm => (S.M m.2).mono (sub_hideL _ w bs) (Nat.le_refl _) (hM m hm (hall _ (hKM m hm))), fun b hb => ?_, fun b hb c hc hne => h2 b hb c hc hne (hall _ (hK b hb).1) (hall _ (hK c hc).1), fun k hk => ?_⟩
  · obtain ⟨g, e, hg, hgN, hs, -⟩ := h1 b hb (hall _ (hK b hb).1)
    obtain ⟨cs, c1, c2⟩ := hs (hall _ (hK b hb).2)
    exact ⟨g, cs, e, hgN, c1, (S.X b.2.1).mono (sub_hideL _ w bs) (Nat.le_refl _) c2⟩
  · obtain ⟨g1, g2, -⟩ := h4 k hk
    obtain ⟨cs, c1, c2⟩ := g2 (hall _ (hK0 _ (List.mem_map.2 ⟨k, hk, rfl⟩)))
    exact ⟨cs, c1, (S.X k.1).mono (sub_hideL _ w bs) (Nat.le_refl _) c2⟩
end
section
variable {R : Way} {P : Program} {ops : Array Oper} {Q : Exit → Act → World → Prop} {T : List (SP R)} {a0 a : Act} {W w : World}
/-- THE LAW beside a word that holds at the region's head -/
theorem wp_region_box {id : Nat} (J : Word) (T : List (SP R)) (n : Nat) (L : List (List (Tmp × Option Nat))) (hn : a0.tmps.size = n) (hm : P.follows .mixedOrders = true) (hc : checkB ops n = true) (hJ0 : ∀ listed, (∀ i, listed.getD i false = false) → J listed a0 W.drew) (hL : lookAll ops 0 ops.toList = L) (hobl : OblsJ P ops Q T J a0 W 0 ops.toList L)
    (D : List (Option Tmp)) (hD : ops.toList.map (·.dst) = D) (hfin : ∀ w' listed, R.rel W w' → (∀ i, i < ops.size → listed.getD i false = true) → Fin (fun a w => J listed a w → Q .normal a w) w' D T a0) : (Code.region id ops true).wp P Q a0 W := by
  subst hn
  subst hL
  subst hD
  refine wp_region_any hm (wpAny_J (form_of hc) hobl hfin _ _ _ _ (by simp) ⟨R.drew W, rfl, rfl, by simp, fun _ _ => rfl, fun i o ho hl => ?_, fun i o ho hl e he hb => ?_⟩ (hJ0 _ fun i => ?_))
  · have hlt := (Array.getElem?_eq_some_iff.1 ho).1
    simp [hlt] at hl
  · have hlt := (Array.getElem?_eq_some_iff.1 ho).1
    simp [hlt] at hl
  · rw [Array.getD_eq_getD_getElem?]
    by_cases hi : i < ops.size
    · simp [hi]
    · simp [hi]
end
/-! what is seen by reckoning alone -/
def okB (K : List (Nat × Tmp × Nat)) (KM : List (Nat × Tmp)) (K0 : List (Tmp × Nat)) : Bool :=
  (K.all fun b => K.all fun c => (!(b.1 == c.1 || (b.2.1 == c.2.1 || b.2.2 == c.2.2)) || b == c) && b.1 != c.2.2) &&
  (K.all fun b => KM.all fun m => b.1 != m.1 && (b.2.2 != m.1 && b.2.1 != m.2)) && (KM.all fun m => KM.all fun m' => !(m.1 == m'.1 || m.2 == m'.2) || m == m') &&
  (K0.all fun k => (K.all fun b => k.2 != b.1 && k.2 != b.2.2) && KM.all fun m => k.2 != m.1)
theorem okS_of {N : Nat} {S : BxS} (h : okB S.K S.KM (S.K0.map fun k => (k.1, k.2.2)) = true) (h4 : S.K0.Pairwise fun k k' => k.2.2 ≠ k'.2.2 ∧ k.2.1 ≠ k'.2.1) (h5 : ∀ k ∈ S.K0, k.2.1 < N) : okS N S := by
  unfold okB at h
  simp only [Bool.and_eq_true, List.all_eq_true] at h
  obtain ⟨⟨⟨h1, h2⟩, h3⟩, h6⟩ := h
  refine ⟨fun b hb c hc => ?_, fun b hb m hm => ?_, fun m hm m' hm' => ?_, fun k hk => ?_, fun k hk k' hk' he => ?_, h5⟩
  · obtain ⟨e1, e2⟩ := h1 b hb c hc
    refine ⟨fun he => ?_, by simpa using e2⟩
    simp only [Bool.or_eq_true, Bool.not_eq_true', Bool.or_eq_false_iff, beq_eq_false_iff_ne, beq_iff_eq] at e1
    rcases e1 with ⟨n1, n2, n3⟩ | e1
    · rcases he with he | he | he
      · exact absurd he n1
      · exact absurd he n2
      · exact absurd he n3
    · exact e1
  · have := h2 b hb m hm
    simpa using this
  · intro he
    have := h3 m hm m' hm'
    simp only [Bool.or_eq_true, Bool.not_eq_true', Bool.or_eq_false_iff, beq_eq_false_iff_ne, beq_iff_eq] at this
    rcases this with ⟨n1, n2⟩ | e
    · rcases he with he | he
      · exact absurd he n1
      · exact absurd he n2
    · exact e
  · obtain ⟨g1, g2⟩ := h6 (k.1, k.2.2) (List.mem_map.2 ⟨k, hk, rfl⟩)
    exact ⟨fun b hb => by have := g1 b hb; simpa using this, fun m hm => by have := g2 m hm; simpa using this⟩
  · obtain ⟨i, hi, rfl⟩ := List.getElem_of_mem hk
    obtain ⟨i', hi', rfl⟩ := List.getElem_of_mem hk'
    rw [List.pairwise_iff_getElem] at h4
    rcases Nat.lt_trichotomy i i' with hlt | heq | hgt
    · have := h4 i i' hi hi' hlt
      rcases he with he | he
      · exact absurd he this.1
      · exact absurd he this.2
    · subst heq; rfl
    · have := h4 i' i hi' hi hgt
      rcases he with he | he
      · exact absurd he.symm this.1
      · exact absurd he.symm this.2
def ordB (K : List (Nat × Tmp × Nat)) (KM : List (Nat × Tmp)) (K0 : List (Tmp × Nat)) (j : Nat) (d : Option Tmp) : Bool :=
  (K.all fun b => j != b.1 && (j != b.2.2 && d != some b.2.1)) && (KM.all fun m => j != m.1 && d != some m.2) && K0.all fun k => j != k.2
section
variable {N : Nat} {S : BxS} {P : Program} {ops : Array Oper} {Q : Exit → Act → World → Prop} {T : List (SP (extB N S.b0))} {a0 a : Act} {W w : World} {j : Nat} {o : Oper} {s : List (Tmp × Option Nat)} {t : Tmp} {bs : List Nat}
theorem oblB_pure (hg : o.guard = none) (hN : N = W.heap.size) (ho : ordB S.K S.KM (S.K0.map fun k => (k.1, k.2.2)) j o.dst = true)
    (h : ∀ a w, KeepB W.heap.size S.b0 W w → sights T a0 a w s → mems S ops j a w w.heap.size → o.wp P a w (DoneB T j o a w) Q) : OblJ P ops Q T (BJ N S) a0 W j o s := by
  unfold ordB at ho
  simp only [Bool.and_eq_true, List.all_eq_true] at ho
  exact oblB_ord hg hN (fun b hb => by have := ho.1.1 b hb; simpa using this) (fun m hm => by have := ho.1.2 m hm; simpa using this) (fun k hk => by have := ho.2 _ (List.mem_map.2 ⟨k, hk, rfl⟩); simpa using this) h
/-- a value that is there -/
theorem mv_mem {v : Value} (hd : o.dst = some t) (h : (execOp a.eval o).run P w = .ok (.value v) w) (hp : (S.M t).pred v (hideL w bs) w.heap.size) : o.wp P a w (DoneM S t bs a w) Q := by
  unfold Oper.wp
  rw [h]
  exact ⟨v, by rw [hd], bsame w, hp⟩
theorem run_mv {x : Operand} {v : Value} (ho : o.op = .move x ∨ o.op = .assign x) (hx : a.eval x = v) : (execOp a.eval o).run P w = .ok (.value v) w := by
  unfold execOp
  rcases ho with ho | ho <;> (rw [ho]; simp [hx])
theorem run_ex {x : Operand} {vs : Array Value} {v : Value} {k : Nat} (ho : o.op = .extract x k) (hx : a.eval x = .tuple vs) (hv : vs[k]? = some v) : (execOp a.eval o).run P w = .ok (.value v) w := by
  unfold execOp
  rw [ho]
  simp [hx, Instr.extract, hv]
theorem run_ix {ty : TypeId} {x y : Operand} {vx vy v : Value} (ho : o.op = .index ty x y) (hx : a.eval x = vx) (hy : a.eval y = vy) (h : (Instr.index ty vx vy).run P w = .ok v w) : (execOp a.eval o).run P w = .ok (.value v) w := by
  unfold execOp
  rw [ho]
  simp [hx, hy, h]
/-- a struct's box is made -/
theorem al_box {ty : TypeId} {Z : Array Value} (ho : o.op = .alloc ty) (hi : (P.info? ty).map (fun i => (i.zero, i.size)) = some (some (.agg Z), Z.size)) : o.wp P a w (fun a' w' => ∃ ty, a' = a.put o.dst (.pointer (some ⟨w.heap.size, 0, none⟩)) ∧ w' = w.alloc (.cells Z ty)) Q := by
  obtain ⟨hz, _⟩ := zero_of_info hi
  unfold Oper.wp execOp
  rw [ho]
  simp only [Instr.alloc, newVar, newRow, Sem.run_bind, hz, Result.andThen_ok]
  exact ⟨ty, rfl, rfl⟩
/-- a struct's box is stored into -/
theorem run_st_box {ty : TypeId} {x y : Operand} {g : Nat} {Z cs : Array Value} (ho : o.op = .store ty x y) (hx : a.eval x = .pointer (some ⟨g, 0, none⟩)) (hy : a.eval y = .agg cs) (hs : Str w g Z) (hz : Z.size = cs.size) (hi : (P.info? ty).map (·.size) = some cs.size) (h1' : cs.toList.all (·.oneCell') = true) :
    (execOp a.eval o).run P w = .ok .skip (w.setRow g cs) := by
  obtain ⟨t', hg⟩ := hs
  have h1 : cs.all (·.oneCell') = true := by rw [← Array.all_toList]; exact h1'
  unfold execOp
  rw [ho]
  simp only [hx, hy, Instr.storeAt, Instr.sureAddr, Sem.run_bind, Sem.run_pure, Result.andThen_ok]
  rw [run_storeVar_row w g t' ty Z cs hg hi hz h1]
  rfl
theorem st_box {g : Nat} {cs : Array Value} (hd : o.dst = none) (h : (execOp a.eval o).run P w = .ok .skip (w.setRow g cs)) (hn : notU8 cs = true) (hp : (S.X t).pred cs (hideL w bs) w.heap.size) : o.wp P a w (StoredB S t g bs a w) Q := by
  unfold Oper.wp
  rw [h]
  exact ⟨by simp [hd, Act.put], cs, rfl, hn, hp⟩
end
/-- two values -/
def twoM (p q : MP Value) : MP Value := ⟨fun v w B => ∃ x y, v = .tuple #[x, y] ∧ p.pred x w B ∧ q.pred y w B, fun hs hb ⟨x, y, e, h1, h2⟩ => ⟨x, y, e, p.mono hs hb h1, q.mono hs hb h2⟩⟩
/-- a value that is known -/
def eqM (c : Value) : MP Value := ⟨fun v _ _ => v = c, fun _ _ h => h⟩
def rowM (p : MP Value) : MP (Array Value) := ⟨fun cs w B => p.pred (.agg cs) w B, fun hs hb h => p.mono hs hb h⟩
end Reg
theorem hideL_append (w : World) (bs : List Nat) : ∀ obs, hideL w (obs ++ bs) = hideL (hideL w bs) obs
  | [] => rfl
  | g :: obs => congrArg (fun x => hide x g) (hideL_append w bs obs)
theorem hideL_mono {B : Nat} {w w' : World} (obs : List Nat) (h : Sub B w w') : Sub B (hideL w obs) (hideL w' obs) := by
  intro p v hp hv
  by_cases hg : p.block ∈ obs
  · rw [hideL_in w p obs hg] at hv; cases hv
  · rw [hideL_out w p obs hg] at hv
    rw [hideL_out w' p obs hg]
    exact h p v hp hv
theorem Bytes.keepB {w w' : World} {B n c : Nat} {b0 : List Nat} {A : Option Addr} {l : List UInt8} (h : Bytes w B A n c l) (hB : B ≤ w.heap.size) (hn : ∀ b ∈ b0, ∃ cs, Str w b cs ∧ notU8 cs = true) (hk : Reg.KeepB w.heap.size b0 w w') : Bytes w' B A n c l :=
  (h.hideL b0 hn).sub fun p v hp hv => by
    by_cases hm : p.block ∈ b0
    · rw [hideL_in w p b0 hm] at hv; cases hv
    · rw [hideL_out w p b0 hm] at hv
      rw [hk.cell (by omega) hm]
      exact hv
/-- bytes that hang on none of these blocks -/
def BytesH (bs : List Nat) (w : World) (A : Option Addr) (n c : Nat) (l : List UInt8) : Prop := Bytes (hideL w bs) w.heap.size A n c l
theorem BytesH.keepB {bs : List Nat} {w w' : World} {n c : Nat} {b0 : List Nat} {A : Option Addr} {l : List UInt8} (h : BytesH bs w A n c l) (hn : ∀ b ∈ b0, ∃ cs, Str w b cs ∧ notU8 cs = true) (hk : Reg.KeepB w.heap.size b0 w w') : BytesH bs w' A n c l := by
  refine Bytes.more (w := Go.Proofs.YtpklclnehlgcpaaGreat.hideL w' bs) (Bytes.sub (w := Go.Proofs.YtpklclnehlgcpaaGreat.hideL w (bs ++ b0)) (B := w.heap.size) ?_ ?_) hk.size
  · rw [hideL_append]
    obtain ⟨h1, h2, h3, h4⟩ := h
    refine ⟨h1, h2, h3, fun hpos => ?_⟩
    obtain ⟨b, o, e, hb, hc⟩ := h4 hpos
    refine ⟨b, o, e, hb, fun j u hu => ?_⟩
    have hx := hc j u hu
    have hnb : b ∉ bs := fun hm => by
      have h0 : (Go.Proofs.YtpklclnehlgcpaaGreat.hideL w bs).cell? ⟨b, o + j, none⟩ = none := hideL_in w ⟨b, o + j, none⟩ bs hm
      rw [h0] at hx; cases hx
    rw [hideL_out w ⟨b, o + j, none⟩ bs hnb] at hx
    rw [hideL_out _ ⟨b, o + j, none⟩ bs hnb, hideL_out w ⟨b, o + j, none⟩ b0]
    · exact hx
    · intro hm
      obtain ⟨cs, hs, hn1⟩ := hn b hm
      rw [hs.cell] at hx
      have hm2 : byteV u ∈ cs.toList := by
        rw [Array.mem_toList_iff]
        exact Array.mem_of_getElem? hx
      have := List.all_eq_true.1 hn1 _ hm2
      simp [byteV] at this
  · rw [hideL_append]
    refine hideL_mono bs fun p v hp hv => ?_
    by_cases hm : p.block ∈ b0
    · rw [hideL_in w p b0 hm] at hv; cases hv
    · rw [hideL_out w p b0 hm] at hv
      rw [hk.cell hp hm]
      exact hv
namespace Reg
/-- bytes in a value, that hang on none of these blocks -/
def byH (obs : List Nat) (V : Option Addr → Nat → Nat → Value) (l : List UInt8) : MP Value := ⟨fun v w B => ∃ A n c, v = V A n c ∧ Bytes (hideL w obs) B A n c l, fun hs hb ⟨A, n, c, e, h⟩ => ⟨A, n, c, e, (h.sub (hideL_mono obs hs)).more hb⟩⟩
end Reg
end Go.Proofs.YtpklclnehlgcpaaGreat
end
section
namespace Go.Proofs.YtpklclnehlgcpaaGreat
open Go.RowKit
set_option linter.unusedVariables false
theorem Reg.KeepB.trans {N M : Nat} {b0 : List Nat} {a b c : World} (h : Reg.KeepB N b0 a b) (k : Reg.KeepB M b0 b c) (hN : N ≤ M) : Reg.KeepB N b0 a c :=
  ⟨k.os.trans h.os, k.tape.trans h.tape, k.output.trans h.output, Nat.le_trans h.size k.size, fun i hi hb => (k.block i (by omega) hb).trans (h.block i hi hb)⟩
theorem Reg.KeepB.more {N : Nat} {b0 b1 : List Nat} {a b : World} (h : Reg.KeepB N b0 a b) (hs : ∀ x ∈ b0, x ∈ b1) : Reg.KeepB N b1 a b :=
  ⟨h.os, h.tape, h.output, h.size, fun i hi hb => h.block i hi (fun hm => hb (hs i hm))⟩
theorem Reg.KeepB.less {N M : Nat} {b0 : List Nat} {a b : World} (h : Reg.KeepB N b0 a b) (hM : M ≤ N) : Reg.KeepB M b0 a b :=
  ⟨h.os, h.tape, h.output, h.size, fun i hi hb => h.block i (by omega) hb⟩
/-- blocks that are none of the call's -/
theorem Reg.KeepB.grown {N : Nat} {b0 : List Nat} {a b c : World} {g : Nat} (h : Reg.KeepB N b0 a b) (k : b.grownBy c (some g)) (hN : N ≤ b.heap.size) (hg : N ≤ g ∨ g ∈ b0) : Reg.KeepB N b0 a c :=
  ⟨k.os.trans h.os, k.tape.trans h.tape, k.output.trans h.output, Nat.le_trans h.size k.size, fun i hi hb => (k.block i (by omega) (by intro e; injection e with e; subst e; rcases hg with h1 | h1; omega; exact hb h1)).trans (h.block i hi hb)⟩
theorem Reg.KeepB.step {N : Nat} {b0 : List Nat} {a b c : World} (h : Reg.KeepB N b0 a b) (k : Below b.heap.size b c) (hN : N ≤ b.heap.size) : Reg.KeepB N b0 a c := h.trans (Reg.KeepB.of k) hN
theorem Str.keepB {w w' : World} {b : Nat} {b0 : List Nat} {cs : Array Value} (h : Str w b cs) (k : Reg.KeepB w.heap.size b0 w w') (hb : b ∉ b0) : Str w' b cs := k.str h h.lt hb
end Go.Proofs.YtpklclnehlgcpaaGreat
end
section
namespace Go.Proofs.YtpklclnehlgcpaaGreat
open Go.RowKit
set_option linter.unusedVariables false
set_option linter.unusedSimpArgs false
namespace DiffW
attribute [local go_sem] Oper.semAt_some
/-- what a round must keep: the pages' boxes -/
def KpP (Ba Bb : Nat) (W W' : World) : Prop := W'.heap[Ba]? = W.heap[Ba]? ∧ W'.heap[Bb]? = W.heap[Bb]?
theorem Str.kpa {Ba Bb : Nat} {W W' : World} {cs : Array Value} (h : Str W Ba cs) (k : KpP Ba Bb W W') : Str W' Ba cs := by
  obtain ⟨t, hg⟩ := h; exact ⟨t, k.1.trans hg⟩
theorem Str.kpb {Ba Bb : Nat} {W W' : World} {cs : Array Value} (h : Str W Bb cs) (k : KpP Ba Bb W W') : Str W' Bb cs := by
  obtain ⟨t, hg⟩ := h; exact ⟨t, k.2.trans hg⟩
set_option maxRecDepth 100000 in
set_option maxHeartbeats 2000000 in
theorem unlike1_in (n : Nat) (hn : 1 ≤ n) (l Ba Bb : Nat) (a b : List UInt8) (ha : a.length = 512) (hb : b.length = 512) (J Jx : List Nat → World → Prop)
    (hY : ∀ pre (x : Nat) W, J pre W → pre.length < 500 → YieldAt Fence.wide (n - 1) Tryz.prog l #[.int .i64 ((DiffP.place x : Nat) : Int)] W fun e W' =>
      (e = .returned (.bool true) ∧ J (pre ++ [x]) W' ∧ KpP Ba Bb W W') ∨ (e = .returned (.bool false) ∧ Jx (pre ++ [x]) W'))
    (hD : ∀ pre A B, J pre A → Below A.heap.size A B → J pre B) (W : World) (hBa : Str W Ba (rowV a)) (hBb : Str W Bb (rowV b)) (h0 : J [] W) :
    CallsIn Fence.wide n Tryz.prog 63 #[.func (.yield l) #[] #[], .pointer (some ⟨Ba, 0, none⟩), .pointer (some ⟨Bb, 0, none⟩)] W fun e W' => (∃ v, e = .returned v) ∧
      ((∃ ys, ys = DiffP.places a b 500 ∧ J ys W') ∨ (∃ pre, Jx pre W')) := by
  have HY : Hid (∀ pre (x : Nat) W, J pre W → pre.length < 500 → YieldAt Fence.wide (n - 1) Tryz.prog l #[.int .i64 ((DiffP.place x : Nat) : Int)] W fun e W' =>
      ∃ c, e = .returned (.bool c) ∧ ((c = true ∧ J (pre ++ [x]) W' ∧ KpP Ba Bb W W') ∨ (c = false ∧ Jx (pre ++ [x]) W'))) := Lib.hid fun pre x W hJ hl => by
    obtain ⟨fn, tmps, assign, body, hy, hR⟩ := hY pre x W hJ hl
    refine ⟨fn, tmps, assign, body, hy, hR.mono ?_⟩
    rintro e w' (⟨rfl, h1, h2⟩ | ⟨rfl, h1⟩)
    · exact ⟨true, rfl, .inl ⟨rfl, h1, h2⟩⟩
    · exact ⟨false, rfl, .inr ⟨rfl, h1⟩⟩
  clear hY
  refine callsIn_of_wp Tryz.func63 rfl trivial ?_ rfl
  simp only [Tryz.ntmps63, List.size_toArray, List.length_cons, List.length_nil, Nat.reduceAdd, Nat.reduceSub, Array.replicate_succ, Array.replicate_zero, List.push_toArray, List.append_toArray, List.nil_append, List.cons_append]
  gi_wp2
  gi_loopw [4] (fun p wr => ∃ k : Nat, k ≤ 500 ∧ p = .int .i64 (12 + (k : Int)) ∧ (Str wr Ba (rowV a) ∧ Str wr Bb (rowV b)) ∧ J (DiffP.places a b k) wr)
    (fun p wr => (512 - intOf p).toNat)
  case atStart =>
    exact ⟨0, Nat.zero_le _, by simp, ⟨hBa, hBb⟩, h0⟩
  case round =>
    obtain ⟨k, hk, rfl, ⟨hA, hB⟩, hJ⟩ := hrel
    have HJ := Lib.hid hJ
    have HJD := Lib.hid (hD _ _ wr.drew hJ (ext.drew wr))
    have HD := Lib.hid hD
    clear hJ h0 hBa hBb
    by_cases hlt : k < 500
    · obtain ⟨x, hx⟩ : ∃ x, a[12 + k]? = some x := ⟨_, List.getElem?_eq_getElem (by omega)⟩
      obtain ⟨y, hy⟩ : ∃ y, b[12 + k]? = some y := ⟨_, List.getElem?_eq_getElem (by omega)⟩
      have ca : wr.cell? ⟨Ba, 12 + k, none⟩ = some (.int .u8 (x.toNat : Int)) := by rw [hA.cell, rowV_get, hx]; rfl
      have cb : wr.cell? ⟨Bb, 12 + k, none⟩ = some (.int .u8 (y.toNat : Int)) := by rw [hB.cell, rowV_get, hy]; rfl
      have HA := Lib.hid hA
      have HB := Lib.hid hB
      clear hA hB
      by_cases hxy : x = y
      · subst hxy
        have hu : DiffP.unlike a b k = false := by unfold DiffP.unlike; rw [hx, hy]; simp
        have HU := Lib.hid (DiffP.places_eq hu)
        clear hx hy hu
        have htn : (12 + (k : Int)).toNat = 12 + k := by omega
        gi_wp2
        refine wpIn_wide.2 ?_
        refine Reg.wp_region_vals (R := ext) (W := wr) [Reg.eqv (.int .i64 (12 + (k : Int))), Reg.eqv (.pointer (some ⟨Ba, 12 + k, none⟩)), Reg.eqv (.int .u8 (x.toNat : Int)), Reg.eqv (.int .i64 (12 + (k : Int))), Reg.eqv (.pointer (some ⟨Bb, 12 + k, none⟩)), Reg.eqv (.int .u8 (x.toNat : Int)), Reg.eqv (.bool false), Reg.eqv (.bool false), Reg.eqv undef, Reg.eqv undef, Reg.eqv undef, Reg.eqv undef, Reg.eqv (.bool false)] 22 [[(4, none)], [(1, none), (9, some 0)], [(10, some 1)], [(4, none)], [(2, none), (12, some 3)], [(13, some 4)], [(11, some 2), (14, some 5)], [(15, some 6)], [(0, none), (16, some 7)], [(4, none), (16, some 7)], [(17, some 8), (18, some 9), (16, some 7)], [(19, some 10), (16, some 7)], [(16, some 7), (20, some 11)]] rfl (by kernel_rfl) (by kernel_rfl) (by kernel_rfl) ?_ [some 9, some 10, some 11, some 12, some 13, some 14, some 15, some 16, some 17, some 18, some 19, some 20, some 21] (by kernel_rfl) ?_
        · refine ⟨?_, ?_, ?_, ?_, ?_, ?_, ?_, ?_, ?_, ?_, ?_, ?_, ?_, trivial⟩
          · intro ax wx hx hs
            obtain ⟨e4, -⟩ := hs
            have g4 := Reg.ev (v := .int .i64 (12 + (k : Int))) e4
            exact Reg.obl_free rfl (Reg.wp_eqv (Option.some_ne_none _) (by go_simp) rfl)
          · intro ax wx hx hs
            obtain ⟨e1, e9, -⟩ := hs
            have g1 := Reg.ev (v := .pointer (some ⟨Ba, 0, none⟩)) e1
            have g9 := Reg.ev (v := .int .i64 (12 + (k : Int))) e9
            refine Reg.obl_free rfl ?_
            exact Reg.wp_eqv (Option.some_ne_none _) (by go_simp; first | done | (intro hq; omega)) rfl
          · intro ax wx hx hs
            obtain ⟨e10, -⟩ := hs
            have g10 := Reg.ev (v := .pointer (some ⟨Ba, 12 + k, none⟩)) e10
            have q0 : wx.cell? ⟨Ba, 12 + k, none⟩ = some (.int .u8 (x.toNat : Int)) := (hx.cell (p := ⟨Ba, 12 + k, none⟩) HA.out.lt).trans ca
            have q1 : wx.cell? ⟨Bb, 12 + k, none⟩ = some (.int .u8 (x.toNat : Int)) := (hx.cell (p := ⟨Bb, 12 + k, none⟩) HB.out.lt).trans cb
            exact Reg.obl_free rfl (Reg.wp_eqv (Option.some_ne_none _) (by go_simp) rfl)
          · intro ax wx hx hs
            obtain ⟨e4, -⟩ := hs
            have g4 := Reg.ev (v := .int .i64 (12 + (k : Int))) e4
            exact Reg.obl_free rfl (Reg.wp_eqv (Option.some_ne_none _) (by go_simp) rfl)
          · intro ax wx hx hs
            obtain ⟨e2, e12, -⟩ := hs
            have g2 := Reg.ev (v := .pointer (some ⟨Bb, 0, none⟩)) e2
            have g12 := Reg.ev (v := .int .i64 (12 + (k : Int))) e12
            refine Reg.obl_free rfl ?_
            exact Reg.wp_eqv (Option.some_ne_none _) (by go_simp; first | done | (intro hq; omega)) rfl
          · intro ax wx hx hs
            obtain ⟨e13, -⟩ := hs
            have g13 := Reg.ev (v := .pointer (some ⟨Bb, 12 + k, none⟩)) e13
            have q0 : wx.cell? ⟨Ba, 12 + k, none⟩ = some (.int .u8 (x.toNat : Int)) := (hx.cell (p := ⟨Ba, 12 + k, none⟩) HA.out.lt).trans ca
            have q1 : wx.cell? ⟨Bb, 12 + k, none⟩ = some (.int .u8 (x.toNat : Int)) := (hx.cell (p := ⟨Bb, 12 + k, none⟩) HB.out.lt).trans cb
            exact Reg.obl_free rfl (Reg.wp_eqv (Option.some_ne_none _) (by go_simp) rfl)
          · intro ax wx hx hs
            obtain ⟨e11, e14, -⟩ := hs
            have g11 := Reg.ev (v := .int .u8 (x.toNat : Int)) e11
            have g14 := Reg.ev (v := .int .u8 (x.toNat : Int)) e14
            refine Reg.obl_free rfl ?_
            exact Reg.wp_eqv (Option.some_ne_none _) (by go_simp; first | done | rfl) rfl
          · intro ax wx hx hs
            obtain ⟨e15, -⟩ := hs
            have g15 := Reg.ev (v := .bool false) e15
            exact Reg.obl_free rfl (Reg.wp_eqv (Option.some_ne_none _) (by go_simp) rfl)
          · intro ax wx hx hs
            obtain ⟨e0, e16, -⟩ := hs
            have g0 := Reg.ev (v := .func (.yield l) #[] #[]) e0
            have g16 := Reg.ev (v := .bool false) e16
            exact Reg.obl_skip rfl rfl e16 rfl rfl
          · intro ax wx hx hs
            obtain ⟨e4, e16, -⟩ := hs
            have g4 := Reg.ev (v := .int .i64 (12 + (k : Int))) e4
            have g16 := Reg.ev (v := .bool false) e16
            exact Reg.obl_skip rfl rfl e16 rfl rfl
          · intro ax wx hx hs
            obtain ⟨e17, e18, e16, -⟩ := hs
            have g17 := Reg.ev (v := undef) e17
            have g18 := Reg.ev (v := undef) e18
            have g16 := Reg.ev (v := .bool false) e16
            exact Reg.obl_skip rfl rfl e16 rfl rfl
          · intro ax wx hx hs
            obtain ⟨e19, e16, -⟩ := hs
            have g19 := Reg.ev (v := undef) e19
            have g16 := Reg.ev (v := .bool false) e16
            exact Reg.obl_skip rfl rfl e16 rfl rfl
          · intro ax wx hx hs
            obtain ⟨e16, e20, -⟩ := hs
            have g16 := Reg.ev (v := .bool false) e16
            have g20 := Reg.ev (v := undef) e20
            exact Reg.obl_free rfl (Reg.wp_eqv (Option.some_ne_none _) (by go_simp) rfl)
        · intro W2 hwf
          simp only [Reg.Fin]
          rintro _ rfl _ rfl _ rfl _ rfl _ rfl _ rfl _ rfl _ rfl _ rfl _ rfl _ rfl _ rfl _ rfl
          go_simp
          have hwf' : Below wr.heap.size wr W2 := hwf
          gi_wp2
          go_roundw
          case rel => exact ⟨k + 1, by omega, by congr 1 <;> omega, ⟨HA.out.next hwf', HB.out.next hwf'⟩, by rw [HU.out]; exact HD.out _ _ _ HJ.out hwf'⟩
          case measure => simp [intOf]; try omega
      · have hu : DiffP.unlike a b k = true := by unfold DiffP.unlike; rw [hx, hy]; simpa using hxy
        have HU := Lib.hid (DiffP.places_ne hu)
        have hne : ((x.toNat : Int) != (y.toNat : Int)) = true := by
          rw [bne_iff_ne]; intro h; exact hxy (UInt8.toNat.inj (by omega))
        obtain ⟨fn, tmps, assign, body, hy1, hR⟩ := HY.out _ k wr.drew (show J _ wr.drew from HJD.out) (by have := DiffP.places_len a b k; omega)
        rw [DiffP.place_of hlt, show ((12 + k : Nat) : Int) = 12 + (k : Int) by omega] at hy1
        have HR := Lib.hid hR
        clear hx hy hu hR
        have htn : (12 + (k : Int)).toNat = 12 + k := by omega
        gi_wp2
        gi_region_with (refine HR.out.mono ?_; rintro e W3 ⟨c, rfl, hc⟩; have HC := Lib.hid hc; clear hc)
        all_goals
          have hc := HC.out
          have HA3 := HA
          clear HC
          rcases hc with ⟨rfl, hJ3, hk3⟩ | ⟨rfl, hJ3⟩
          · have HJ3 := Lib.hid hJ3
            have hA3 : Hid (Str W3 Ba (rowV a)) := Lib.hid (Str.kpa (HA.out.next (ext.drew wr)) hk3)
            have hB3 : Hid (Str W3 Bb (rowV b)) := Lib.hid (Str.kpb (HB.out.next (ext.drew wr)) hk3)
            clear hJ3 hk3 hy1
            go_simp
            gi_wp2
            go_roundw
            case rel => exact ⟨k + 1, by omega, by congr 1 <;> omega, ⟨hA3.out, hB3.out⟩, by rw [HU.out]; exact HJ3.out⟩
            case measure => simp [intOf]; try omega
          · have HJ3 := Lib.hid hJ3
            clear hJ3 hy1
            go_simp
            gi_wp2
            refine bodyPost_ret (results_none rfl _ _ _) rfl ?_
            exact ⟨⟨_, rfl⟩, .inr ⟨_, HJ3.out⟩⟩
    · gi_wp2
      go_end0
      obtain rfl : k = 500 := by omega
      exact ⟨⟨_, rfl⟩, .inl ⟨_, rfl, HJ.out⟩⟩
end DiffW
end Go.Proofs.YtpklclnehlgcpaaGreat
end
section
namespace Go.Proofs.YtpklclnehlgcpaaGreat
open Go.RowKit
open SlotP (over)

def cpSem (ts : Array TypeId) (ty : TypeId) (args : Array Value) : Sem Value := Builtin.copy_ ts ty args
theorem cp_fold (ts : Array TypeId) (ty : TypeId) (args : Array Value) : Builtin.copy_ ts ty args = cpSem ts ty args := rfl

theorem splice_map (l : List UInt8) (off : Nat) (s : List UInt8) : splice (l.map byteV) off (s.map byteV) = (over l off s).map byteV := by
  simp [splice, over]
theorem Str.cs {w : World} {b : Nat} {l : List UInt8} {t : TypeId} (h : w.heap[b]? = some (.cells ((l.map byteV).toArray) t (0, 0))) : Str w b (rowV l) := ⟨t, h⟩

section
variable {P : Program} {w : World}
theorem copy_bytes (dT sT ty e : TypeId) (hu : P.underlying dT = some (.slice e)) (hsz : (P.info? e).map (·.size) = some 1) {g off dLen dCap : Nat} {l : List UInt8} (hg : Str w g (rowV l))
    {B m c : Nat} {A : Option Addr} {src : List UInt8} (hs : Bytes w B A m c src) (hfit : off + dLen ≤ l.length) :
    ∃ w1, (cpSem #[dT, sT] ty #[.slice (some ⟨g, off, none⟩) dLen dCap, .slice A m c]).run P w = .ok (.int .i64 (Nat.min m dLen : Nat)) w1 ∧ Str w1 g (rowV (over l off (src.take dLen))) ∧ w.grownBy w1 (some g) := by
  obtain ⟨t, hg⟩ := hg
  have hl := hs.len
  have hlen : ((src.take dLen).map byteV).length = Nat.min m dLen := by
    simp only [List.length_map, List.length_take, hl]
    exact Nat.min_comm _ _
  obtain ⟨w1, hr, hh, hgr⟩ := run_copy_to (P := P) (w := w) dT sT ty e hu hsz (some ⟨g, off, none⟩) dLen dCap g off (l.map byteV) t hg A m c ((src.take dLen).map byteV) hlen
    (fun hpos => ⟨rfl, by
      obtain ⟨ad, e1, e2⟩ := hs.src (by simp at hpos ⊢; omega)
      refine ⟨ad, e1, fun j v hv => e2 j v ?_⟩
      rw [List.map_take, List.getElem?_take] at hv
      split at hv
      · exact hv
      · cases hv⟩) (by simp; omega) (byteV_one _)
  refine ⟨w1, ?_, ?_, hgr⟩
  · rw [hlen] at hr
    exact hr
  · rw [splice_map] at hh
    exact ⟨t, hh⟩
theorem copy_string (dT sT ty e : TypeId) (hu : P.underlying dT = some (.slice e)) (hsz : (P.info? e).map (·.size) = some 1) {g off dLen dCap : Nat} {l : List UInt8} (hg : Str w g (rowV l))
    (s : ByteArray) (hm : s.size ≤ dLen) (hfit : off + dLen ≤ l.length) :
    ∃ w1, (cpSem #[dT, sT] ty #[.slice (some ⟨g, off, none⟩) dLen dCap, .string s]).run P w = .ok (.int .i64 (s.size : Nat)) w1 ∧ Str w1 g (rowV (over l off s.data.toList)) ∧ w.grownBy w1 (some g) := by
  obtain ⟨t, hg⟩ := hg
  have hr := Lib.run_copy_row_string (P := P) w dT sT ty e g off dLen dCap s (rowV l) t hu hsz hg hm (by rw [rowV_size]; omega)
  have hl : s.data.toList.length = s.size := Array.length_toList
  refine ⟨_, hr, ⟨t, ?_⟩, grown_setRow w g _⟩
  have he : ((rowV l).toList.take off ++ Lib.byteCells s.data.toList ++ (rowV l).toList.drop (off + s.size)).toArray = rowV (over l off s.data.toList) := by
    have hb : Lib.byteCells s.data.toList = s.data.toList.map byteV := rfl
    rw [hb]
    simp [rowV, over, hl]
  rw [he]
  exact setRow_heap w g _ _ t _ hg
end
end Go.Proofs.YtpklclnehlgcpaaGreat
end
