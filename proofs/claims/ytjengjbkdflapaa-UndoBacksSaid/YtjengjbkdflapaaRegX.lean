/-
  A region that draws its order, makes one box, and stores into it once what a call has made. No program in sight.
-/
import Derived.Test.YtjengjbkdflapaaRegW
import Derived.Test.YtjengjbkdflapaaRegC
import Derived.Test.YtjengjbkdflapaaRegS
import Derived.Test.YtjengjbkdflapaaBox
namespace Go.Proofs.Ytjengjbkdflapaa
open Go.RowKit
set_option linter.unusedVariables false
namespace Reg

/-- nothing below N turns; above it only rows without bytes, cell by cell -/
def boxW (N : Nat) : Way where
  rel w w' := Below N w w' ∧ ∀ k, N ≤ k → k < w.heap.size → w'.heap[k]? = w.heap[k]? ∨ ∃ cs t cs', w.heap[k]? = some (.cells cs t (0, 0)) ∧ notU8 cs = true ∧ w'.heap[k]? = some (.cells cs' t (0, 0)) ∧ notU8 cs' = true ∧ cs'.size = cs.size
  refl w := ⟨Below.refl _ _, fun _ _ _ => .inl rfl⟩
  trans a b c h k := ⟨h.1.trans k.1, fun i hi hl => by
    rcases k.2 i hi (Nat.lt_of_lt_of_le hl h.1.size) with e | ⟨cs, t, cs', e1, n1, e2, n2, hz⟩
    · rcases h.2 i hi hl with e' | ⟨cs, t, cs', e1, n1, e2, n2, hz⟩
      · exact .inl (e.trans e')
      · exact .inr ⟨cs, t, cs', e1, n1, e.trans e2, n2, hz⟩
    · rcases h.2 i hi hl with e' | ⟨ds, u, ds', f1, m1, f2, m2, hy⟩
      · exact .inr ⟨cs, t, cs', e'.symm.trans e1, n1, e2, n2, hz⟩
      · rw [e1] at f2
        cases f2
        exact .inr ⟨ds, t, cs', f1, m1, e2, n2, hz.trans hy⟩⟩
  drew w := ⟨⟨rfl, rfl, rfl, Nat.le_refl _, fun _ _ => rfl⟩, fun _ _ _ => .inl rfl⟩
theorem box_below {N : Nat} {w w' : World} (hN : N ≤ w.heap.size) (h : Below w.heap.size w w') : (boxW N).rel w w' := ⟨h.mono hN, fun k _ hk => .inl (h.block k hk)⟩
/-- a row is stored -/
theorem box_set {N g : Nat} {w w' : World} {cs cs' : Array Value} (hs : Str w g cs) (hn : notU8 cs = true) (hg : N ≤ g) (h : w.grownBy w' (some g)) (hs' : ∀ t, w.heap[g]? = some (.cells cs t (0, 0)) → w'.heap[g]? = some (.cells cs' t (0, 0))) (hn' : notU8 cs' = true) (hz : cs'.size = cs.size) : (boxW N).rel w w' := by
  refine ⟨⟨h.os, h.tape, h.output, h.size, fun k hk => h.block k (by have := hs.lt; omega) (by intro e; injection e; omega)⟩, fun k hk hl => ?_⟩
  by_cases e : k = g
  · subst e
    obtain ⟨t, ht⟩ := hs
    exact .inr ⟨cs, t, cs', ht, hn, hs' t ht, hn', hz⟩
  · exact .inl (h.block k hl (by intro e2; injection e2; omega))
theorem bytes_box {N n c B : Nat} {w w' : World} {A : Option Addr} {l : List UInt8} (h : Bytes w B A n c l) (hB : B ≤ w.heap.size) (hr : (boxW N).rel w w') : Bytes w' B A n c l := by
  obtain ⟨h1, h2, h3, h4⟩ := h
  refine ⟨h1, h2, h3, fun hpos => ?_⟩
  obtain ⟨b, o, e, hb, hc⟩ := h4 hpos
  refine ⟨b, o, e, hb, fun j u hu => ?_⟩
  rw [← hc j u hu]
  refine World.cell?_of_block (a := ⟨b, o + j, none⟩) ?_
  rcases Nat.lt_or_ge b N with hlt | hge
  · exact hr.1.block b hlt
  · rcases hr.2 b hge (by omega) with e' | ⟨cs, t, cs', e1, n1, -⟩
    · exact e'
    · exfalso
      have hs : Str w b cs := ⟨t, e1⟩
      have h0 : l[0]? = some (l[0]'(by omega)) := List.getElem?_eq_getElem _
      have hx := hc 0 _ h0
      rw [hs.cell] at hx
      have hm : byteV (l[0]'(by omega)) ∈ cs.toList := by
        rw [Array.mem_toList_iff]
        exact Array.mem_of_getElem? hx
      have := List.all_eq_true.1 n1 _ hm
      simp [byteV] at this
theorem bytes_boxS {N n c : Nat} {w w' : World} {A : Option Addr} {l : List UInt8} (h : Bytes w w.heap.size A n c l) (hr : (boxW N).rel w w') : Bytes w' w'.heap.size A n c l := (bytes_box h (Nat.le_refl _) hr).more hr.1.size
/-- a value with bytes -/
def bytesX {N : Nat} (V : Option Addr → Nat → Nat → Value) (l : List UInt8) : SP (boxW N) := ⟨fun v w => ∃ A n c, v = V A n c ∧ Bytes w w.heap.size A n c l, fun _ _ _ hb ⟨A, n, c, e, h⟩ => ⟨A, n, c, e, bytes_boxS h hb⟩⟩
/-- the box -/
def boxX {N : Nat} (m : Nat) : SP (boxW N) := ⟨fun v w => ∃ g cs, v = .pointer (some ⟨g, 0, none⟩) ∧ N ≤ g ∧ Str w g cs ∧ notU8 cs = true ∧ cs.size = m, fun _ w w' hb ⟨g, cs, e, hg, hs, hn, hz⟩ => by
  have hl := hs.lt
  obtain ⟨t, ht⟩ := hs
  rcases hb.2 g hg hl with e' | ⟨ds, u, ds', e1, n1, e2, n2, hy⟩
  · exact ⟨g, cs, e, hg, ⟨t, e'.trans ht⟩, hn, hz⟩
  · rw [ht] at e1
    cases e1
    exact ⟨g, ds', e, hg, ⟨t, e2⟩, n2, hy.trans hz⟩⟩
/-- what lies in the box when it has been stored -/
def OneJ (N ja js : Nat) (t : Tmp) (V : Option Addr → Nat → Nat → Array Value) (l : List UInt8) : Word := fun listed a w => listed.getD js false = true → listed.getD ja false = true ∧ ∃ g A n c, a.eval (.tmp t) = .pointer (some ⟨g, 0, none⟩) ∧ N ≤ g ∧ Str w g (V A n c) ∧ Bytes w w.heap.size A n c l
section
variable {N ja js : Nat} {t : Tmp} {V : Option Addr → Nat → Nat → Array Value} {l : List UInt8} {P : Program} {ops : Array Oper} {Q : Exit → Act → World → Prop} {T : List (SP (boxW N))} {a0 : Act} {W : World} {j : Nat} {o : Oper} {s : List (Tmp × Option Nat)}
theorem one_zero {listed : Array Bool} {a : Act} {w : World} (h : ∀ i, listed.getD i false = false) : OneJ N ja js t V l listed a w := fun h1 => by rw [h js] at h1; cases h1
theorem eval_put_ne {a : Act} {d : Option Tmp} {v : Value} (h : d ≠ some t) : (a.put d v).eval (.tmp t) = a.eval (.tmp t) := eval_of (put_other a d v t h)
theorem oblX_ord (hg : o.guard = none) (hN : N = W.heap.size) (hj : j ≠ js) (hd : o.dst ≠ some t) (h : ∀ a w, (boxW N).rel W w → sights T a0 a w s → o.wp P a w (DoneB T j o a w) Q) : OblJ P ops Q T (OneJ N ja js t V l) a0 W j o s := by
  intro listed a w hx hs _ _ _ _ hJ
  subst hN
  refine free hg (Oper.wp_mono (fun a' w' ⟨v, e, hz, hp, hb⟩ => ?_) (h a w hx hs))
  subst e
  refine ⟨⟨v, rfl, hz, hp, box_below hx.1.size hb⟩, fun h1 => ?_⟩
  rw [getD_set_ne false hj] at h1
  obtain ⟨h2, g, A, n, c, e, hgN, hS, hY⟩ := hJ h1
  exact ⟨getD_set_true h2, g, A, n, c, by rw [eval_put_ne hd]; exact e, hgN, hS.next hb, hY.next hb⟩
theorem oblX_alloc (hg : o.guard = none) (hN : N = W.heap.size) (hj : j = ja) (hjs : j ≠ js) (h : ∀ a w, (boxW N).rel W w → o.wp P a w (DoneB T j o a w) Q) : OblJ P ops Q T (OneJ N ja js t V l) a0 W j o s := by
  intro listed a w hx hs _ _ hun _ hJ
  subst hN
  refine free hg (Oper.wp_mono (fun a' w' ⟨v, e, hz, hp, hb⟩ => ?_) (h a w hx))
  subst e
  refine ⟨⟨v, rfl, hz, hp, box_below hx.1.size hb⟩, fun h1 => ?_⟩
  rw [getD_set_ne false hjs] at h1
  have h2 := (hJ h1).1
  rw [← hj, getD_ft hun] at h2
  cases h2
structure StoredX (N : Nat) (t : Tmp) (V : Option Addr → Nat → Nat → Array Value) (l : List UInt8) (a : Act) (w : World) (a' : Act) (w' : World) : Prop where
  out : a' = a ∧ (boxW N).rel w w' ∧ ∃ g A n c, a.eval (.tmp t) = .pointer (some ⟨g, 0, none⟩) ∧ N ≤ g ∧ Str w' g (V A n c) ∧ Bytes w' w'.heap.size A n c l
theorem oblX_store (hg : o.guard = none) (hN : N = W.heap.size) (hj : j = js) (hw : waits ops j ja = true) (hjl : j < ops.size) (hd : o.dst = none) (hT : ∀ v w, predAt T j v w)
    (h : ∀ a w, (boxW N).rel W w → sights T a0 a w s → o.wp P a w (StoredX N t V l a w) Q) : OblJ P ops Q T (OneJ N ja js t V l) a0 W j o s := by
  intro listed a w hx hs hls _ _ hwt _
  refine free hg (Oper.wp_mono (fun a' w' ⟨e, hr, hx⟩ => ?_) (h a w hx hs))
  subst e
  exact ⟨⟨undef, by rw [hd]; rfl, fun _ => rfl, hT _ _, hr⟩, fun _ => ⟨getD_set_true (hwt ja hw), hx⟩⟩
end
end Reg
end Go.Proofs.Ytjengjbkdflapaa
