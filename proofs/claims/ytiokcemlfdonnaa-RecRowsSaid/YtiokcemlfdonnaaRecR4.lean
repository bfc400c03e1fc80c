/-
  Parts of the proof of RecRows.
-/
import Derived.Test.YtiokcemlfdonnaaRecR3
import Derived.Test.YtiokcemlfdonnaaRecR0
import Derived.Test.YtiokcemlfdonnaaRecR2
import Derived.Test.YtiokcemlfdonnaaRecR1
import Derived.Laws.Externs
section
namespace Go.Proofs.Ytiokcemlfdonnaa
open Go.RowKit
set_option linter.unusedVariables false
/-- an append in a region, of slices of any kind -/
theorem wp_appT {P : Program} {o : Oper} {a : Act} {w w' : World} {K : Act → World → Prop} {Q : Exit → Act → World → Prop} {A A2 A' : Option Addr} {n c m c2 n' c' : Nat} {t : TypeId} (s x : Operand)
    (ho : o.op = .call { callee := .builtin .append, args := #[s, x], argTypes := #[t, t] }) (hty : o.type = t) (hs : a.eval s = .slice A n c) (hx : a.eval x = .slice A2 m c2)
    (hr : (appSem #[t, t] t #[.slice A n c, .slice A2 m c2]).run P w = .ok (.slice A' n' c') w') (k : K (a.put o.dst (.slice A' n' c')) w') : Oper.wp P o a w K Q := by
  unfold appSem at hr
  unfold Oper.wp execOp
  simp only [ho, hty, resolve, invoke, builtin, Sem.run_bind, Sem.run_pure, Result.andThen_ok, List.map_toArray, List.map_cons, List.map_nil, hs, hx, hr]
  exact k
namespace Reg
theorem eval_ne {t : Tmp} {a : Act} {d : Option Tmp} {v : Value} (h : d ≠ some t) : (a.put d v).eval (.tmp t) = a.eval (.tmp t) := eval_of (put_other a d v t h)
theorem obl_freeL {R : Way} {P : Program} {ops : Array Oper} {Q : Exit → Act → World → Prop} {T : List (SP R)} {j : Nat} {o : Oper} {a : Act} {w : World} (hg : o.guard = none) (h : o.wp P a w (DoneB T j o a w) Q) : (Region.wanted o (yielded ops a.tmps) = true → o.wp P a w (DoneB T j o a w) Q) ∧ (Region.wanted o (yielded ops a.tmps) = false → predAt T j undef w) :=
  ⟨fun _ => h, fun hw => by simp [Region.wanted, hg] at hw⟩
theorem extB_next {N : Nat} {b0 : List Nat} {W : World} (hN : N = W.heap.size) : ∀ w w', (extB N b0).rel W w → Below w.heap.size w w' → (extB N b0).rel w w' := fun w w' h k => KeepB.of (k.mono (by rw [hN]; exact KeepB.size h))
/-- what so many of the line have brought about, and whether the one beside them has come up -/
abbrev LS := Nat → Bool → Act → World → Prop
/-- the line: who they are; the one beside them; what they bring about -/
structure Line where
  C : List Nat
  q : Nat
  S : LS
def LineJ (l : Line) : Word := fun listed a w => ∃ k, k ≤ l.C.length ∧ (∀ i c, l.C[i]? = some c → listed.getD c false = decide (i < k)) ∧ l.S k (listed.getD l.q false) a w
theorem line_zero {l : Line} {listed : Array Bool} {a : Act} {w : World} (h0 : l.S 0 false a w) (h : ∀ i, listed.getD i false = false) : LineJ l listed a w :=
  ⟨0, Nat.zero_le _, fun i c _ => by rw [h]; simp, by rw [h]; exact h0⟩
theorem line_end {l : Line} {listed : Array Bool} {a : Act} {w : World} {n : Nat} (hall : ∀ i, i < n → listed.getD i false = true) (hC : ∀ c ∈ l.C, c < n) (hJ : LineJ l listed a w) : ∃ b, (l.q < n → b = true) ∧ l.S l.C.length b a w := by
  obtain ⟨k, hk, hl, hS⟩ := hJ
  have e : k = l.C.length := by
    by_cases h : k < l.C.length
    · have h1 := hl k l.C[k] (List.getElem?_eq_getElem h)
      rw [hall _ (hC _ (List.getElem_mem h))] at h1
      simp at h1
    · omega
  subst e
  exact ⟨_, fun h => hall _ h, hS⟩
section
variable {R : Way} {l : Line} {P : Program} {ops : Array Oper} {Q : Exit → Act → World → Prop} {T : List (SP R)} {a0 : Act} {W : World} {j : Nat} {o : Oper} {s : List (Tmp × Option Nat)}
/-- an operation that is none of these -/
theorem oblL_ord (hj : j ∉ l.C ∧ j ≠ l.q) (hR : ∀ w w', R.rel W w → Below w.heap.size w w' → R.rel w w') (hst : ∀ k b a w v w', l.S k b a w → Below w.heap.size w w' → l.S k b (a.put o.dst v) w')
    (h : ∀ a w, R.rel W w → sights T a0 a w s → (Region.wanted o (yielded ops a.tmps) = true → o.wp P a w (DoneB T j o a w) Q) ∧ (Region.wanted o (yielded ops a.tmps) = false → predAt T j undef w)) : OblJ P ops Q T (LineJ l) a0 W j o s := by
  intro listed a w hx hs _ _ hun hwt hJ
  obtain ⟨h1, h2⟩ := h a w hx hs
  have key : ∀ v w', Below w.heap.size w w' → LineJ l (listed.setIfInBounds j true) (a.put o.dst v) w' := fun v w' hb => by
    obtain ⟨k, hk, hl, hS⟩ := hJ
    refine ⟨k, hk, fun i c hc => ?_, ?_⟩
    · rw [getD_set_ne false (fun e => hj.1 (by rw [e]; exact List.mem_of_getElem? hc))]
      exact hl i c hc
    · rw [getD_set_ne false hj.2]
      exact hst k _ a w v w' hS hb
  refine ⟨fun hw => Oper.wp_mono (fun a' w' ⟨v, e, hz, hp, hb⟩ => ?_) (h1 hw), fun hw => ⟨h2 hw, key _ _ (bsame w)⟩⟩
  subst e
  exact ⟨⟨v, rfl, hz, hp, hR w w' hx hb⟩, key v w' hb⟩
/-- one of the line -/
theorem oblL_line {k : Nat} (hg : o.guard = none) (hc : l.C[k]? = some j) (hnd : l.C.Nodup) (hq : j ≠ l.q) (hjl : j < ops.size) (hw : k = 0 ∨ ∃ c, l.C[k - 1]? = some c ∧ waits ops j c = true)
    (h : ∀ b a w, R.rel W w → sights T a0 a w s → a.tmps.size = a0.tmps.size → (waits ops j l.q = true → b = true) → l.S k b a w → o.wp P a w (fun a' w' => Done T j o a w a' w' ∧ l.S (k + 1) b a' w') Q) : OblJ P ops Q T (LineJ l) a0 W j o s := by
  intro listed a w hx hs hls has hun hwt hJ
  obtain ⟨k', hk', hl, hS⟩ := hJ
  have h1 := hl k j hc
  rw [getD_ft hun] at h1
  have hle : k' ≤ k := by
    have : ¬ k < k' := by simpa using h1.symm
    omega
  have he : k' = k := by
    rcases hw with rfl | ⟨c, h2, h3⟩
    · omega
    · have h4 := hl _ c h2
      rw [hwt c h3] at h4
      have : k - 1 < k' := by simpa using h4.symm
      omega
  subst he
  have hlt := (List.getElem?_eq_some_iff.1 hc).1
  refine free hg (Oper.wp_mono (fun a' w' ⟨h5, h6⟩ => ⟨h5, k' + 1, hlt, fun i c hi => ?_, ?_⟩) (h _ a w hx hs has (fun hw => hwt _ hw) hS))
  · by_cases e : i = k'
    · subst e
      rw [hc] at hi
      cases hi
      rw [getD_set_self (by omega)]
      simp
    · have hne : j ≠ c := fun e2 => e (by
        subst e2
        have g1 := (List.getElem?_eq_some_iff.1 hi).1
        have g3 := (List.getElem?_eq_some_iff.1 hi).2.trans (List.getElem?_eq_some_iff.1 hc).2.symm
        have g4 := List.pairwise_iff_getElem.1 hnd
        rcases Nat.lt_or_gt_of_ne e with e4 | e4
        · exact absurd g3 (g4 i k' g1 hlt e4)
        · exact absurd g3.symm (g4 k' i hlt g1 e4))
      rw [getD_set_ne false hne, hl i c hi]
      by_cases h7 : i < k'
      · simp [h7]; omega
      · simp [h7]; omega
  · rw [getD_set_ne false hq]
    exact h6
/-- the one beside them -/
theorem oblL_side (hg : o.guard = none) (hj : j = l.q) (hn : j ∉ l.C) (hjl : j < ops.size)
    (h : ∀ k a w, R.rel W w → sights T a0 a w s → a.tmps.size = a0.tmps.size → l.S k false a w → o.wp P a w (fun a' w' => Done T j o a w a' w' ∧ l.S k true a' w') Q) : OblJ P ops Q T (LineJ l) a0 W j o s := by
  intro listed a w hx hs hls has hun hwt hJ
  obtain ⟨k, hk, hl, hS⟩ := hJ
  have hf : listed.getD l.q false = false := by rw [← hj]; exact getD_ft hun
  rw [hf] at hS
  refine free hg (Oper.wp_mono (fun a' w' ⟨h5, h6⟩ => ⟨h5, k, hk, fun i c hi => ?_, ?_⟩) (h k a w hx hs has hS))
  · rw [getD_set_ne false (fun e => hn (by rw [e]; exact List.mem_of_getElem? hi))]
    exact hl i c hi
  · rw [← hj, getD_set_self (by omega)]
    exact h6
end
end Reg
end Go.Proofs.Ytiokcemlfdonnaa
end
section
namespace Go.Proofs.Ytiokcemlfdonnaa
open Go.RowKit
set_option linter.unusedVariables false
theorem Reg.KeepB.trans {N M : Nat} {b0 : List Nat} {a b c : World} (h : Reg.KeepB N b0 a b) (k : Reg.KeepB M b0 b c) (hN : N ≤ M) : Reg.KeepB N b0 a c :=
  ⟨k.os.trans h.os, k.tape.trans h.tape, k.output.trans h.output, Nat.le_trans h.size k.size, fun i hi hb => (k.block i (by omega) hb).trans (h.block i hi hb)⟩
theorem Reg.KeepB.more {N : Nat} {b0 b1 : List Nat} {a b : World} (h : Reg.KeepB N b0 a b) (hs : ∀ x ∈ b0, x ∈ b1) : Reg.KeepB N b1 a b :=
  ⟨h.os, h.tape, h.output, h.size, fun i hi hb => h.block i hi (fun hm => hb (hs i hm))⟩
theorem Reg.KeepB.less {N M : Nat} {b0 : List Nat} {a b : World} (h : Reg.KeepB N b0 a b) (hM : M ≤ N) : Reg.KeepB M b0 a b :=
  ⟨h.os, h.tape, h.output, h.size, fun i hi hb => h.block i (by omega) hb⟩
/-- blocks that are none of the call's -/
theorem Reg.KeepB.grown {N : Nat} {b0 : List Nat} {a b c : World} {g : Nat} (h : Reg.KeepB N b0 a b) (k : b.grownBy c (some g)) (hN : N ≤ b.heap.size) (hg : N ≤ g ∨ g ∈ b0) : Reg.KeepB N b0 a c :=
  ⟨k.os.trans h.os, k.tape.trans h.tape, k.output.trans h.output, Nat.le_trans h.size k.size, fun i hi hb => (k.block i (by omega) (by intro e; injection e with e; subst e; rcases hg with h1 | h1; omega; exact hb h1)).trans (h.block i hi hb)⟩
theorem Reg.KeepB.step {N : Nat} {b0 : List Nat} {a b c : World} (h : Reg.KeepB N b0 a b) (k : Below b.heap.size b c) (hN : N ≤ b.heap.size) : Reg.KeepB N b0 a c := h.trans (Reg.KeepB.of k) hN
theorem Str.keepB {w w' : World} {b : Nat} {b0 : List Nat} {cs : Array Value} (h : Str w b cs) (k : Reg.KeepB w.heap.size b0 w w') (hb : b ∉ b0) : Str w' b cs := k.str h h.lt hb
end Go.Proofs.Ytiokcemlfdonnaa
end
section
namespace Go.Proofs.Ytiokcemlfdonnaa
open Go.RowKit
set_option linter.unusedVariables false
/-- what an element reads as hangs on no world -/
def El.Pure {α : Type} (E : El α) : Prop := ∀ w w' B B' vs x, E.rel w B vs x → E.rel w' B' vs x
theorem OwnE.grownP {α : Type} {E : El α} (hE : E.Pure) {T : TypeId} {w w' : World} {base n c : Nat} {A : Option Addr} {l : List α} {k : Option Nat} (h : OwnE E T w base A n c l) (hg : w.grownBy w' k) (hne : ∀ a, A = some a → k ≠ some a.block) : OwnE E T w' base A n c l := by
  obtain ⟨vs, ⟨h0, h1⟩, h2⟩ := h
  refine ⟨vs, ⟨h0, ?_⟩, h2.imp fun _ _ hr => hE _ _ _ _ _ _ hr⟩
  rcases h1 with e | ⟨g, cap, cur, e, hg2, hh, r⟩
  · exact .inl e
  · cases e
    refine .inr ⟨g, c, cur, rfl, hg2, ?_, r⟩
    exact (hg.block g (Array.getElem?_eq_some_iff.1 hh).1 (fun e => hne _ rfl e.symm)).trans hh
namespace Reg
/-- a row, the element that is to come behind it; who makes the row of one, who appends, who hands on; the slots -/
structure Row1 (α : Type) where
  E : El α
  T : TypeId
  base : Nat
  A : Option Addr
  n : Nat
  c : Nat
  l : List α
  x : α
  jr : Nat
  ja : Nat
  jf : Nat
  tr : Tmp
  ts : Tmp
  tf : Tmp
def Row1.Has {α : Type} (I : Row1 α) (N : Nat) (w : World) (A' : Option Addr) (c' : Nat) : Prop := OwnE I.E I.T w I.base A' (I.n + 1) c' (I.l ++ [I.x]) ∧ ∀ d, A' = some d → I.A = A' ∨ N ≤ d.block
def Row1.J {α : Type} (N : Nat) (I : Row1 α) : Word := fun listed a w =>
  (listed.getD I.ja false = false → OwnE I.E I.T w I.base I.A I.n I.c I.l ∧
    (listed.getD I.jr false = true → ∃ g vs, a.eval (.tmp I.tr) = .slice (some ⟨g, 0, none⟩) 1 1 ∧ N ≤ g ∧ Str w g vs.toArray ∧ I.E.rel w w.heap.size vs I.x)) ∧
  (listed.getD I.ja false = true → ∃ A' c', a.eval (.tmp I.ts) = .slice A' (I.n + 1) c' ∧ (listed.getD I.jf false = true → a.eval (.tmp I.tf) = .slice A' (I.n + 1) c') ∧ I.Has N w A' c') ∧
  (listed.getD I.jf false = true → listed.getD I.ja false = true)
def Row1.ok {α : Type} (I : Row1 α) (N k : Nat) : Prop := I.E.Pure ∧ I.jr ≠ I.ja ∧ I.jf ≠ I.ja ∧ I.jf ≠ I.jr ∧ I.tr ≠ I.ts ∧ I.tf ≠ I.ts ∧ I.tf ≠ I.tr ∧ I.jr < k ∧ I.ja < k ∧ I.jf < k
/-- an operation is none of the row's, and its slot none of its slots -/
def Row1.Off {α : Type} (I : Row1 α) (j : Nat) (d : Option Tmp) : Prop := j ≠ I.jr ∧ j ≠ I.ja ∧ j ≠ I.jf ∧ d ≠ some I.tr ∧ d ≠ some I.ts ∧ d ≠ some I.tf
/-- a block is none of the row's -/
def Row1.Out {α : Type} (I : Row1 α) (N : Nat) (k : Option Nat) : Prop := ∀ g, k = some g → g < N ∧ ∀ a, I.A = some a → a.block ≠ g
theorem Str.by_ {w w' : World} {b : Nat} {cs : Array Value} {k : Option Nat} (h : Str w b cs) (hg : w.grownBy w' k) (hk : k ≠ some b) : Str w' b cs := by
  have hl := h.lt
  obtain ⟨t, ht⟩ := h
  exact ⟨t, (hg.block b hl (fun e => hk e.symm)).trans ht⟩
section
variable {α β : Type} {I : Row1 α} {I2 : Row1 β} {N : Nat} {listed : Array Bool} {a : Act} {w w' : World} {j : Nat} {d : Option Tmp} {v : Value} {k : Option Nat}
theorem Row1.step (hE : I.E.Pure) (h : I.J N listed a w) (hj : I.Off j d) (hg : w.grownBy w' k) (ho : I.Out N k) : I.J N (listed.setIfInBounds j true) (a.put d v) w' := by
  obtain ⟨j1, j2, j3, d1, d2, d3⟩ := hj
  unfold Row1.J
  rw [getD_set_ne false j2, getD_set_ne false j1, getD_set_ne false j3, eval_ne d1, eval_ne d2, eval_ne d3]
  refine ⟨fun hf => ?_, fun ht => ?_, h.2.2⟩
  · obtain ⟨h1, h2⟩ := h.1 hf
    refine ⟨h1.grownP hE hg (fun ad e ek => (ho _ ek).2 ad e rfl), fun hr => ?_⟩
    obtain ⟨g, vs, e, hN, hs, hrel⟩ := h2 hr
    exact ⟨g, vs, e, hN, Str.by_ hs hg (fun ek => by have := (ho _ ek).1; omega), hE _ _ _ _ _ _ hrel⟩
  · obtain ⟨A', c', e, ef, h1, h2⟩ := h.2.1 ht
    refine ⟨A', c', e, ef, h1.grownP hE hg (fun ad e2 ek => ?_), h2⟩
    obtain ⟨k1, k2⟩ := ho _ ek
    rcases h2 ad e2 with e3 | e3
    · exact k2 ad (by rw [e3, e2]) rfl
    · omega
theorem grown_own {w w' : World} (h : Below w.heap.size w w') : w.grownBy w' none := ⟨h.os, h.tape, h.output, h.size, fun k hk _ => h.block k hk⟩
theorem Row1.out_none : I.Out N none := fun g e => by cases e
/-- the two new rows lie apart -/
def Apart (I : Row1 α) (I2 : Row1 β) : Word := fun listed a w => listed.getD I.ja false = true → listed.getD I2.ja false = true → ∀ p n c q m d, a.eval (.tmp I.ts) = .slice (some p) n c → a.eval (.tmp I2.ts) = .slice (some q) m d → q.block ≠ p.block
def TwoJ (N : Nat) (I : Row1 α) (I2 : Row1 β) : Word := fun listed a w => I.J N listed a w ∧ I2.J N listed a w ∧ Apart I I2 listed a w
theorem apart_comm (h : Apart I I2 listed a w) : Apart I2 I listed a w := fun h1 h2 p n c q m d e1 e2 e => h h2 h1 q m d p n c e2 e1 e.symm
theorem twoJ_comm : TwoJ N I I2 = TwoJ N I2 I := by
  funext listed a w
  exact propext ⟨fun h => ⟨h.2.1, h.1, apart_comm h.2.2⟩, fun h => ⟨h.2.1, h.1, apart_comm h.2.2⟩⟩
theorem apart_step (h : Apart I I2 listed a w) (j1 : j ≠ I.ja) (j2 : j ≠ I2.ja) (d1 : d ≠ some I.ts) (d2 : d ≠ some I2.ts) : Apart I I2 (listed.setIfInBounds j true) (a.put d v) w' := by
  unfold Apart
  rw [getD_set_ne false j1, getD_set_ne false j2, eval_ne d1, eval_ne d2]
  exact h
theorem two_zero (h1 : OwnE I.E I.T w I.base I.A I.n I.c I.l) (h2 : OwnE I2.E I2.T w I2.base I2.A I2.n I2.c I2.l) (h : ∀ i, listed.getD i false = false) : TwoJ N I I2 listed a w :=
  ⟨⟨fun _ => ⟨h1, fun e => by rw [h] at e; cases e⟩, fun e => (by rw [h] at e; cases e), fun e => by rw [h] at e; cases e⟩, ⟨fun _ => ⟨h2, fun e => by rw [h] at e; cases e⟩, fun e => (by rw [h] at e; cases e), fun e => by rw [h] at e; cases e⟩, fun e => by rw [h] at e; cases e⟩
theorem two_end {n : Nat} (hall : ∀ i, i < n → listed.getD i false = true) (h1 : I.ja < n ∧ I.jf < n) (h2 : I2.ja < n ∧ I2.jf < n) (h : TwoJ N I I2 listed a w) :
    ∃ A' c' A2' c2', a.eval (.tmp I.ts) = .slice A' (I.n + 1) c' ∧ a.eval (.tmp I.tf) = .slice A' (I.n + 1) c' ∧ I.Has N w A' c' ∧ a.eval (.tmp I2.ts) = .slice A2' (I2.n + 1) c2' ∧ a.eval (.tmp I2.tf) = .slice A2' (I2.n + 1) c2' ∧ I2.Has N w A2' c2' ∧ ∀ p q, A' = some p → A2' = some q → q.block ≠ p.block := by
  obtain ⟨A1, c1, e1, f1, g1⟩ := h.1.2.1 (hall _ h1.1)
  obtain ⟨A2, c2, e2, f2, g2⟩ := h.2.1.2.1 (hall _ h2.1)
  exact ⟨A1, c1, A2, c2, e1, f1 (hall _ h1.2), g1, e2, f2 (hall _ h2.2), g2, fun p q ep eq => h.2.2 (hall _ h1.1) (hall _ h2.1) p _ _ q _ _ (by rw [e1, ep]) (by rw [e2, eq])⟩
/-- none of the row's, as a test -/
def offB (jr ja jf tr ts tf j : Nat) (d : Option Nat) : Bool := (j != jr) && (j != ja) && (j != jf) && (d != some tr) && (d != some ts) && (d != some tf)
theorem off_of (h : offB I.jr I.ja I.jf I.tr I.ts I.tf j d = true) : I.Off j d := by
  simp only [offB, Bool.and_eq_true, bne_iff_ne, ne_eq] at h
  obtain ⟨⟨⟨⟨⟨h1, h2⟩, h3⟩, h4⟩, h5⟩, h6⟩ := h
  exact ⟨h1, h2, h3, h4, h5, h6⟩
def okR (jr ja jf tr ts tf k : Nat) : Bool := (jr != ja) && (jf != ja) && (jf != jr) && (tr != ts) && (tf != ts) && (tf != tr) && Nat.blt jr k && Nat.blt ja k && Nat.blt jf k
theorem ok_of {k : Nat} (hE : I.E.Pure) (h : okR I.jr I.ja I.jf I.tr I.ts I.tf k = true) : I.ok N k := by
  simp only [okR, Bool.and_eq_true, bne_iff_ne, ne_eq, Nat.blt_eq] at h
  obtain ⟨⟨⟨⟨⟨⟨⟨⟨h1, h2⟩, h3⟩, h4⟩, h5⟩, h6⟩, h7⟩, h8⟩, h9⟩ := h
  exact ⟨hE, h1, h2, h3, h4, h5, h6, h7, h8, h9⟩
end
section
variable {α β : Type} {I : Row1 α} {I2 : Row1 β} {N : Nat} {bl : List Nat} {P : Program} {ops : Array Oper} {Q : Exit → Act → World → Prop} {T : List (SP (extB N bl))} {a0 : Act} {W : World} {j : Nat} {o : Oper} {s : List (Tmp × Option Nat)}
/-- an operation that is none of these -/
theorem oblT_ord (hN : N = W.heap.size) (h1 : I.ok N ops.size) (h2 : I2.ok N ops.size) (ho : I.Off j o.dst ∧ I2.Off j o.dst)
    (h : ∀ a w, KeepB N bl W w → sights T a0 a w s → (Region.wanted o (yielded ops a.tmps) = true → o.wp P a w (DoneB T j o a w) Q) ∧ (Region.wanted o (yielded ops a.tmps) = false → predAt T j undef w)) : OblJ P ops Q T (TwoJ N I I2) a0 W j o s := by
  intro listed a w hx hs _ _ hun hwt hJ
  obtain ⟨g1, g2⟩ := h a w hx hs
  have key : ∀ v w', Below w.heap.size w w' → TwoJ N I I2 (listed.setIfInBounds j true) (a.put o.dst v) w' := fun v w' hb =>
    ⟨Row1.step h1.1 hJ.1 ho.1 (grown_own hb) Row1.out_none, Row1.step h2.1 hJ.2.1 ho.2 (grown_own hb) Row1.out_none, apart_step hJ.2.2 ho.1.2.1 ho.2.2.1 ho.1.2.2.2.2.1 ho.2.2.2.2.2.1⟩
  refine ⟨fun hw => Oper.wp_mono (fun a' w' ⟨v, e, hz, hp, hb⟩ => ?_) (g1 hw), fun hw => ⟨g2 hw, key _ _ (bsame w)⟩⟩
  subst e
  exact ⟨⟨v, rfl, hz, hp, extB_next hN w w' hx hb⟩, key v w' hb⟩
/-- the row of one is made -/
theorem oblT_row (hg : o.guard = none) (hN : N = W.heap.size) (h1 : I.ok N ops.size) (h2 : I2.ok N ops.size) (hj : j = I.jr) (hd : o.dst = some I.tr) (ho2 : I2.Off I.jr (some I.tr)) (htr : I.tr < a0.tmps.size) (hT : ∀ v w, predAt T j v w)
    (h : ∀ a w, KeepB N bl W w → sights T a0 a w s → ∃ vs TE, I.E.rel w w.heap.size vs I.x ∧ o.wp P a w (fun a' w' => a' = a.put (some I.tr) (.slice (some ⟨w.heap.size, 0, none⟩) 1 1) ∧ w' = w.alloc (.cells vs.toArray TE)) Q) : OblJ P ops Q T (TwoJ N I I2) a0 W j o s := by
  intro listed a w hx hs hls has hun hwt hJ
  subst hj
  obtain ⟨vs, TE, hr, hwp⟩ := h a w hx hs
  obtain ⟨o1, o2, o3, o4, o5, o6, o7, o8, o9, o10⟩ := h1
  refine free hg (Oper.wp_mono (fun a' w' ⟨e1, e2⟩ => ?_) hwp)
  subst e1
  subst e2
  have hb : Below w.heap.size w (w.alloc (.cells vs.toArray TE)) := balloc (bsame w) _
  have hs' := Str.new w vs.toArray TE
  have hNw : N ≤ w.heap.size := by rw [hN]; exact KeepB.size hx
  refine ⟨⟨_, by rw [hd], fun e => (by rw [hd] at e; cases e), hT _ _, extB_next hN _ _ hx hb⟩, ⟨fun hf => ?_, fun ht => ?_, fun hq => ?_⟩, Row1.step h2.1 hJ.2.1 ho2 (grown_own hb) Row1.out_none, apart_step hJ.2.2 o2 ho2.2.1 (fun e => o5 (Option.some.inj e)) ho2.2.2.2.2.1⟩
  · rw [getD_set_ne false o2] at hf
    obtain ⟨k1, k2⟩ := hJ.1.1 hf
    exact ⟨k1.next hb, fun _ => ⟨w.heap.size, vs, eval_put_same (by rw [has]; exact htr), hNw, hs', o1 _ _ _ _ _ _ hr⟩⟩
  · rw [getD_set_ne false o2] at ht
    obtain ⟨A', c', k1, k2, k3, k4⟩ := hJ.1.2.1 ht
    rw [getD_set_ne false (fun e => o4 e.symm), eval_ne (fun e => o5 (Option.some.inj e)), eval_ne (fun e => o7 (Option.some.inj e).symm)]
    exact ⟨A', c', k1, k2, k3.next hb, k4⟩
  · rw [getD_set_ne false (fun e => o4 e.symm)] at hq
    rw [getD_set_ne false o2]
    exact hJ.1.2.2 hq
/-- the append -/
theorem oblT_app (hg : o.guard = none) (hN : N = W.heap.size) (h1 : I.ok N ops.size) (h2 : I2.ok N ops.size) (hj : j = I.ja) (hd : o.dst = some I.ts) (hw : waits ops j I.jr = true) (ho2 : I2.Off I.ja (some I.ts)) (hts : I.ts < a0.tmps.size) (hT : ∀ v w, predAt T j v w)
    (hne : ∀ d d2, I.A = some d → I2.A = some d2 → d2.block ≠ d.block) (hA : ∀ d, I.A = some d → d.block < N ∧ d.block ∈ bl) (hb : I.base ≤ N)
    (t : TypeId) (i : TypeInfo) (z : Value) (bytes : Nat) (ht : P.underlying t = some (.slice I.T)) (hi : P.info? I.T = some i) (hz : i.zero = some z) (hs1 : i.size = I.E.size) (hby : i.bytes = bytes) (hzs : z.cells.size = I.E.size)
    (hn : I.n + 1 ≤ maxLen) (hbytes : (I.n + 1) * bytes ≤ 140737488355328) (src : Operand) (hop : o.op = .call { callee := .builtin .append, args := #[src, .tmp I.tr], argTypes := #[t, t] }) (hty : o.type = t)
    (hsrc : ∀ a w, KeepB N bl W w → sights T a0 a w s → a.eval src = .slice I.A I.n I.c) : OblJ P ops Q T (TwoJ N I I2) a0 W j o s := by
  intro listed a w hx hs hls has hun hwt hJ
  subst hj
  obtain ⟨o1, o2, o3, o4, o5, o6, o7, o8, o9, o10⟩ := h1
  have hf := getD_ft hun
  obtain ⟨k1, k2⟩ := hJ.1.1 hf
  obtain ⟨g, vs, e, hgN, hstr, hrel⟩ := k2 (hwt _ hw)
  have hNw : N ≤ w.heap.size := by rw [hN]; exact KeepB.size hx
  have hrow : ElemsIn I.E (hid I.A w) w w.heap.size (some ⟨g, 0, none⟩) 1 1 [I.x] := by
    refine ⟨[vs], ⟨o1 _ _ _ _ _ _ hrel, trivial⟩, rfl, Nat.le_refl _, by unfold maxLen; omega, fun _ => ⟨g, 0, rfl, hstr.lt, fun j v hv => ?_⟩⟩
    rw [show [vs].flatten = vs by simp] at hv
    rw [Nat.zero_add, hstr.cell j]
    simpa using hv
  obtain ⟨A', c', w', r1, r2, r3, r4, r5⟩ := k1.app (P := P) t t i z bytes ht hi hz hs1 hby hzs hrow hn hbytes (Nat.le_trans hb hNw)
  refine free hg (wp_appT src (.tmp I.tr) hop hty (hsrc a w hx hs) e r1 ?_)
  have hk : KeepB N bl w w' := ⟨r4.os, r4.tape, r4.output, r4.size, fun q hq hn => r4.block q (by omega) (fun e => hn ?_)⟩
  · have hout : I2.Out N (Value.slice I.A 0 0).ownBlock := fun q e => by
      cases hIA : I.A with
      | none => rw [hIA] at e; cases e
      | some ad =>
        rw [hIA] at e
        have h6 : ad.block = q := by simpa [Value.ownBlock] using e
        subst h6
        exact ⟨(hA ad hIA).1, fun a2 e2 => hne ad a2 hIA e2⟩
    refine ⟨⟨.slice A' (I.n + 1) c', rfl, fun e => (by rw [hd] at e; cases e), hT _ _, hk⟩, ?_⟩
    rw [hd]
    refine ⟨⟨fun hf2 => ?_, fun _ => ?_, fun _ => getD_set_self (by rw [hls]; exact o9) _⟩, Row1.step h2.1 hJ.2.1 ho2 r4 hout, fun _ hl2 p n3 c3 q m3 d3 e5 e6 => ?_⟩
    · rw [getD_set_self (by rw [hls]; exact o9)] at hf2
      cases hf2
    · refine ⟨A', c', eval_put_same (by rw [has]; exact hts), fun hl => ?_, r2, fun d e5 => ?_⟩
      · rw [getD_set_ne false (fun e => o3 e.symm)] at hl
        rw [hJ.1.2.2 hl] at hf
        cases hf
      · rcases r5 with e6 | ⟨a2, e6, e7⟩
        · exact .inl e6.symm
        · rw [e6] at e5
          cases e5
          exact .inr (by omega)
    · rw [getD_set_ne false ho2.2.1] at hl2
      rw [eval_put_same (by rw [has]; exact hts)] at e5
      rw [eval_ne ho2.2.2.2.2.1] at e6
      cases e5
      obtain ⟨A2', c2', k1', k2', k3', k4'⟩ := hJ.2.1.2.1 hl2
      rw [k1'] at e6
      cases e6
      have hq2 : q.block < w.heap.size := by
        obtain ⟨vs2, ⟨-, hx2⟩, -⟩ := k3'
        rcases hx2 with ⟨e9, -⟩ | ⟨g9, cap9, cur9, e9, -, hh9, -⟩
        · cases e9
        · cases e9
          exact (Array.getElem?_eq_some_iff.1 hh9).1
      rcases r5 with e7 | ⟨a2, e7, e8⟩
      · rcases k4' q rfl with e9 | e9
        · exact hne p q e7.symm e9
        · have := (hA p e7.symm).1
          omega
      · cases e7
        omega
  · cases hIA : I.A with
    | none => rw [hIA] at e; cases e
    | some ad =>
      rw [hIA] at e
      have h6 : ad.block = q := by simpa [Value.ownBlock] using e.symm
      rw [← h6]
      exact (hA ad hIA).2
/-- the new slice is handed on -/
theorem oblT_hand (hg : o.guard = none) (hN : N = W.heap.size) (h1 : I.ok N ops.size) (h2 : I2.ok N ops.size) (hj : j = I.jf) (hd : o.dst = some I.tf) (hw : waits ops j I.ja = true) (ho2 : I2.Off I.jf (some I.tf)) (htf : I.tf < a0.tmps.size) (hT : ∀ v w, predAt T j v w)
    (h : ∀ a w, o.wp P a w (fun a' w' => a' = a.put (some I.tf) (a.eval (.tmp I.ts)) ∧ w' = w) Q) : OblJ P ops Q T (TwoJ N I I2) a0 W j o s := by
  intro listed a w hx hs hls has hun hwt hJ
  subst hj
  obtain ⟨o1, o2, o3, o4, o5, o6, o7, o8, o9, o10⟩ := h1
  have ht := hwt _ hw
  refine free hg (Oper.wp_mono (fun a' w' ⟨e1, e2⟩ => ?_) (h a w))
  subst e1
  subst e2
  obtain ⟨A', c', k1, k2, k3⟩ := hJ.1.2.1 ht
  refine ⟨⟨_, by rw [hd], fun e => (by rw [hd] at e; cases e), hT _ _, (extB N bl).refl _⟩, ⟨fun hf => ?_, fun _ => ⟨A', c', ?_, fun _ => ?_, k3⟩, fun _ => ?_⟩, Row1.step h2.1 hJ.2.1 ho2 (grown_own (bsame _)) Row1.out_none, apart_step hJ.2.2 o3 ho2.2.1 (fun e => o6 (Option.some.inj e)) ho2.2.2.2.2.1⟩
  · rw [getD_set_ne false o3, ht] at hf
    cases hf
  · rw [eval_ne (fun e => o6 (Option.some.inj e))]
    exact k1
  · rw [eval_put_same (by rw [has]; exact htf)]
    exact k1
  · rw [getD_set_ne false o3]
    exact ht
end
end Reg
end Go.Proofs.Ytiokcemlfdonnaa
end
section
namespace Go.Proofs.Ytiokcemlfdonnaa.NumP

def nstep (n : Nat) (c : UInt8) : Nat := n * 256 + c.toNat
/-- the number of bytes -/
def num (l : List UInt8) : Nat := l.foldl nstep 0
/-- a number of 64 bits without a sign, as one with a sign -/
def toI (u : Nat) : Int := if u < 9223372036854775808 then (u : Int) else (u : Int) - 18446744073709551616
/-- are there width bytes from at on? -/
def there (l : List UInt8) (at_ width : Nat) : Bool := decide (at_ + width ≤ l.length)
/-- their number, or 0 -/
def val (l : List UInt8) (at_ width : Nat) : Int := if at_ + width ≤ l.length then toI (num ((l.drop at_).take width)) else 0

theorem num_snoc (l : List UInt8) (c : UInt8) : num (l ++ [c]) = num l * 256 + c.toNat := by simp [num, nstep]
theorem fold_lt (l : List UInt8) (n : Nat) : l.foldl nstep n < (n + 1) * 256 ^ l.length := by
  induction l generalizing n with
  | nil => simp
  | cons c l ih =>
    have h1 := ih (nstep n c)
    have hc := c.toNat_lt
    have h2 : (nstep n c + 1) * 256 ^ l.length ≤ ((n + 1) * 256) * 256 ^ l.length := Nat.mul_le_mul_right _ (by unfold nstep; omega)
    have h3 : (n + 1) * 256 ^ (l.length + 1) = ((n + 1) * 256) * 256 ^ l.length := by rw [Nat.pow_succ, Nat.mul_assoc, Nat.mul_comm (256 ^ l.length)]
    show l.foldl nstep (nstep n c) < (n + 1) * 256 ^ (l.length + 1)
    rw [h3]
    omega
theorem num_lt (l : List UInt8) : num l < 256 ^ l.length := by
  have := fold_lt l 0
  simpa [num] using this
theorem num_lt8 (l : List UInt8) (h : l.length ≤ 8) : num l < 18446744073709551616 := by
  have h1 := num_lt l
  have h2 : 256 ^ l.length ≤ 256 ^ 8 := Nat.pow_le_pow_right (by decide) h
  have h3 : (256 : Nat) ^ 8 = 18446744073709551616 := by decide
  omega
theorem num_lt7 (l : List UInt8) (h : l.length ≤ 7) : num l < 72057594037927936 := by
  have h1 := num_lt l
  have h2 : 256 ^ l.length ≤ 256 ^ 7 := Nat.pow_le_pow_right (by decide) h
  have h3 : (256 : Nat) ^ 7 = 72057594037927936 := by decide
  omega
theorem toI_in (u : Nat) (h : u < 18446744073709551616) : In64 (toI u) := by
  unfold toI In64
  split <;> omega
theorem toI_small (u : Nat) (h : u < 9223372036854775808) : toI u = (u : Int) := by simp [toI, h]
theorem toI_u64 (m : Int) (h : In64 m) : toI (BeP.u64 m) = m := by
  unfold In64 at h
  unfold toI BeP.u64
  split <;> omega
theorem u64_lt (m : Int) : BeP.u64 m < 18446744073709551616 := by unfold BeP.u64; omega

theorem part_toNat (width : Nat) (m : Int) (k : Nat) : (BeP.part width m k).toNat = BeP.u64 m / 256 ^ (width - 1 - k) % 256 := by
  unfold BeP.part
  have : (2 : Nat) ^ (8 * (width - 1 - k)) = 256 ^ (width - 1 - k) := by rw [Nat.pow_mul]
  rw [this]
  simp
theorem num_parts_take (width : Nat) (m : Int) (k : Nat) (h : k ≤ width) : num ((BeP.parts width m).take k) = BeP.u64 m / 256 ^ (width - k) % 256 ^ k := by
  induction k with
  | zero => simp [num, Nat.mod_one]
  | succ k ih =>
    rw [BeP.parts_take width m k (by omega), num_snoc, ih (by omega), part_toNat]
    generalize BeP.u64 m = u
    have e1 : width - k = (width - 1 - k) + 1 := by omega
    have e2 : width - (k + 1) = width - 1 - k := by omega
    rw [e1, e2, Nat.pow_succ 256 (width - 1 - k), ← Nat.div_div_eq_div_mul]
    generalize u / 256 ^ (width - 1 - k) = q
    rw [Nat.pow_succ, Nat.mul_comm (256 ^ k) 256, Nat.mod_mul]
    omega
theorem num_parts (width : Nat) (m : Int) : num (BeP.parts width m) = BeP.u64 m % 256 ^ width := by
  have := num_parts_take width m width (Nat.le_refl _)
  rw [List.take_of_length_le (by rw [BeP.parts_length]; exact Nat.le_refl _)] at this
  simpa using this
theorem num_parts8 (m : Int) : num (BeP.parts 8 m) = BeP.u64 m := by
  rw [num_parts]
  exact Nat.mod_eq_of_lt (u64_lt m)
theorem val_parts8 (pre post : List UInt8) (m : Int) (h : In64 m) : val (pre ++ (BeP.parts 8 m ++ post)) pre.length 8 = m := by
  unfold val
  have hl := BeP.parts_length 8 m
  rw [if_pos (by simp [hl]), List.drop_left, List.take_append_of_le_length (by omega), List.take_of_length_le (by omega), num_parts8, toI_u64 m h]
theorem val_one (pre post : List UInt8) (c : UInt8) : val (pre ++ c :: post) pre.length 1 = (c.toNat : Int) := by
  unfold val
  rw [if_pos (by simp), List.drop_left]
  have := c.toNat_lt
  simp [num, nstep, toI]
  omega
end Go.Proofs.Ytiokcemlfdonnaa.NumP
end
section
namespace Go.Proofs.Ytiokcemlfdonnaa
set_option linter.unusedVariables false
/-- a run: its place, its bytes -/
structure RunX where
  at_ : Int
  data : List UInt8
/-- a patch -/
structure PatchX where
  page : Int
  fresh : Bool
  runs : List RunX
namespace PatchP
def stop (r : RunX) : Int := r.at_ + (r.data.length : Nat)
def Within (r : RunX) : Prop := 0 < r.data.length ∧ 12 ≤ r.at_ ∧ stop r ≤ 512
/-- where the run ahead of k ends -/
def endOf (l : List RunX) : Nat → Int
  | 0 => -1
  | k + 1 => match l[k]? with
    | some q => stop q
    | none => -1
/-- the first k runs may be -/
def Okay (l : List RunX) (k : Nat) : Prop := ∀ i r, i < k → l[i]? = some r → Within r ∧ endOf l i < r.at_
def Right (x : PatchX) : Prop := 0 ≤ x.page ∧ x.page ≤ 65535 ∧ x.runs.length ≤ 500 ∧ Okay x.runs x.runs.length
noncomputable def within (r : RunX) : Bool := @decide (Within r) (Classical.propDecidable _)
noncomputable def right (x : PatchX) : Bool := @decide (Right x) (Classical.propDecidable _)
noncomputable def same (x y : PatchX) : Bool := @decide (x = y) (Classical.propDecidable _)
noncomputable def sameRuns (x y : List RunX) : Bool := @decide (x = y) (Classical.propDecidable _)
theorem within_iff (r : RunX) : within r = true ↔ Within r := by unfold within; simp
theorem right_iff (x : PatchX) : right x = true ↔ Right x := by unfold right; simp
theorem right_no (x : PatchX) (h : ¬ Right x) : right x = false := by unfold right; simpa using h
theorem right_yes (x : PatchX) (h : Right x) : right x = true := (right_iff x).2 h
theorem within_no (r : RunX) (h : ¬ Within r) : within r = false := by unfold within; simpa using h
theorem within_yes (r : RunX) (h : Within r) : within r = true := (within_iff r).2 h
theorem okay_zero (l : List RunX) : Okay l 0 := fun i r hi => absurd hi (Nat.not_lt_zero _)
theorem endOf_succ (l : List RunX) (k : Nat) (r : RunX) (h : l[k]? = some r) : endOf l (k + 1) = stop r := by show (match l[k]? with | some q => stop q | none => -1) = _; rw [h]
theorem okay_step {l : List RunX} {k : Nat} {r : RunX} (h : Okay l k) (hr : l[k]? = some r) (hw : Within r) (he : endOf l k < r.at_) : Okay l (k + 1) := by
  intro i q hi hq
  by_cases e : i = k
  · subst e
    rw [hr] at hq; cases hq
    exact ⟨hw, he⟩
  · exact h i q (by omega) hq
theorem okay_bad {l : List RunX} {k n : Nat} {r : RunX} (hr : l[k]? = some r) (hb : ¬ (Within r ∧ endOf l k < r.at_)) (hk : k < n) : ¬ Okay l n := fun h => hb (h k r hk hr)
theorem endOf_lo {l : List RunX} {k n : Nat} (h : Okay l n) (hk : k ≤ n) : -1 ≤ endOf l k ∧ endOf l k ≤ 512 := by
  cases k with
  | zero => exact ⟨Int.le_refl _, by show (-1 : Int) ≤ 512; omega⟩
  | succ k =>
    cases hq : l[k]? with
    | some q =>
      rw [endOf_succ l k q hq]
      have := (h k q (by omega) hq).1
      unfold Within at this
      have h2 : stop q = q.at_ + (q.data.length : Nat) := rfl
      omega
    | none =>
      have : endOf l (k + 1) = -1 := by show (match l[k]? with | some q => stop q | none => -1) = _; rw [hq]
      omega
theorem bad_page (x : PatchX) (h : x.page < 0 ∨ 65535 < x.page ∨ 500 < x.runs.length) : right x = false := right_no x fun hr => by
  obtain ⟨a, b, c, -⟩ := hr
  omega
theorem bad_run (x : PatchX) {k : Nat} {r : RunX} (hr : x.runs[k]? = some r) (hb : ¬ (Within r ∧ endOf x.runs k < r.at_)) : right x = false := right_no x fun h =>
  okay_bad hr hb (List.getElem?_eq_some_iff.1 hr).1 h.2.2.2
theorem in_runs {x : PatchX} (h : Right x) {k : Nat} {r : RunX} (hr : x.runs[k]? = some r) : 12 ≤ r.at_ ∧ r.at_ ≤ 511 ∧ 1 ≤ r.data.length ∧ r.data.length ≤ 500 := by
  have := (h.2.2.2 k r (List.getElem?_eq_some_iff.1 hr).1 hr).1
  unfold Within stop at this
  omega
/-- a run's bytes -/
def runB (r : RunX) : List UInt8 := BeP.parts 2 r.at_ ++ (BeP.parts 2 (r.data.length : Nat) ++ r.data)
def runsB (l : List RunX) : List UInt8 := l.flatMap runB
def flag (b : Bool) : Int := if b then 1 else 0
def head (x : PatchX) : List UInt8 := BeP.parts 2 x.page ++ (BeP.parts 1 (flag x.fresh) ++ BeP.parts 2 (x.runs.length : Nat))
def body (x : PatchX) : List UInt8 := head x ++ runsB x.runs
noncomputable def bytes (x : PatchX) : List UInt8 := if right x then body x else []
theorem head_length (x : PatchX) : (head x).length = 5 := by simp [head, BeP.parts_length]
theorem runB_length (r : RunX) : (runB r).length = 4 + r.data.length := by simp [runB, BeP.parts_length]; omega
theorem runsB_snoc (l : List RunX) (k : Nat) (r : RunX) (h : l[k]? = some r) : runsB (l.take (k + 1)) = runsB (l.take k) ++ runB r := by
  obtain ⟨hk, e⟩ := List.getElem?_eq_some_iff.1 h
  rw [List.take_succ_eq_append_getElem hk, e]
  simp [runsB]
theorem runsB_split (l : List RunX) (k : Nat) (r : RunX) (h : l[k]? = some r) : runsB l = runsB (l.take k) ++ (runB r ++ runsB (l.drop (k + 1))) := by
  obtain ⟨hk, e⟩ := List.getElem?_eq_some_iff.1 h
  have h1 : l = l.take k ++ (r :: l.drop (k + 1)) := by rw [← e, ← List.drop_eq_getElem_cons hk, List.take_append_drop]
  have h2 : runsB l = runsB (l.take k ++ (r :: l.drop (k + 1))) := by rw [← h1]
  rw [h2]
  unfold runsB
  rw [List.flatMap_append, List.flatMap_cons]
theorem runsB_le (l : List RunX) (n : Nat) (h : ∀ r ∈ l, r.data.length ≤ n) : (runsB l).length ≤ l.length * (4 + n) := by
  induction l with
  | nil => simp [runsB]
  | cons r l ih =>
    have h1 := ih (fun q hq => h q (List.mem_cons_of_mem _ hq))
    have h2 := h r (List.mem_cons_self ..)
    have : runsB (r :: l) = runB r ++ runsB l := by simp [runsB]
    rw [this, List.length_append, runB_length, List.length_cons, Nat.add_mul]
    omega
theorem runs_le {x : PatchX} (h : Right x) (k : Nat) : (runsB (x.runs.take k)).length ≤ 252000 := by
  have h1 := runsB_le (x.runs.take k) 500 (fun r hr => by
    obtain ⟨j, hj⟩ := List.getElem?_of_mem (List.mem_of_mem_take hr)
    exact (in_runs h hj).2.2.2)
  have h2 : (x.runs.take k).length ≤ 500 := by rw [List.length_take]; have := h.2.2.1; omega
  have h3 : (x.runs.take k).length * (4 + 500) ≤ 500 * 504 := Nat.mul_le_mul_right _ h2
  omega
theorem body_le {x : PatchX} (h : Right x) : (body x).length ≤ 252005 := by
  have := runs_le h x.runs.length
  rw [List.take_of_length_le (Nat.le_refl _)] at this
  unfold body
  rw [List.length_append, head_length]
  omega
/-- numbers among bytes -/
theorem val_parts2 (pre post : List UInt8) (m : Int) (h0 : 0 ≤ m) (h1 : m ≤ 65535) : NumP.val (pre ++ (BeP.parts 2 m ++ post)) pre.length 2 = m := by
  unfold NumP.val
  rw [if_pos (by simp [BeP.parts_length]), List.drop_left, List.take_append_of_le_length (by rw [BeP.parts_length]; omega), List.take_of_length_le (by rw [BeP.parts_length]; omega), NumP.num_parts]
  unfold BeP.u64
  have e : (m % 18446744073709551616).toNat % 256 ^ 2 = m.toNat := by omega
  rw [e, NumP.toI_small _ (by omega)]
  omega
theorem val_parts1 (pre post : List UInt8) (m : Int) (h0 : 0 ≤ m) (h1 : m ≤ 255) : NumP.val (pre ++ (BeP.parts 1 m ++ post)) pre.length 1 = m := by
  unfold NumP.val
  rw [if_pos (by simp [BeP.parts_length]), List.drop_left, List.take_append_of_le_length (by rw [BeP.parts_length]; omega), List.take_of_length_le (by rw [BeP.parts_length]; omega), NumP.num_parts]
  unfold BeP.u64
  have e : (m % 18446744073709551616).toNat % 256 ^ 1 = m.toNat := by omega
  rw [e, NumP.toI_small _ (by omega)]
  omega
theorem flag_in (b : Bool) : 0 ≤ flag b ∧ flag b ≤ 1 := by cases b <;> decide
/-- where the k-th run stands -/
def place (x : PatchX) (k : Nat) : Nat := 5 + (runsB (x.runs.take k)).length
theorem place_zero (x : PatchX) : place x 0 = 5 := by simp [place, runsB]
theorem place_succ (x : PatchX) (k : Nat) (r : RunX) (h : x.runs[k]? = some r) : place x (k + 1) = place x k + 4 + r.data.length := by
  unfold place
  rw [runsB_snoc _ _ _ h, List.length_append, runB_length]
  omega
theorem place_all (x : PatchX) : place x x.runs.length = (body x).length := by
  unfold place body
  rw [List.take_of_length_le (Nat.le_refl _), List.length_append, head_length]
variable {x : PatchX} {more : List UInt8} {k : Nat} {r : RunX}
theorem got_page (h : Right x) : NumP.val (body x ++ more) 0 2 = x.page := by
  have := val_parts2 [] (BeP.parts 1 (flag x.fresh) ++ BeP.parts 2 (x.runs.length : Nat) ++ runsB x.runs ++ more) x.page h.1 h.2.1
  simpa [body, head] using this
theorem got_flag (h : Right x) : NumP.val (body x ++ more) 2 1 = flag x.fresh := by
  have := val_parts1 (BeP.parts 2 x.page) (BeP.parts 2 (x.runs.length : Nat) ++ runsB x.runs ++ more) (flag x.fresh) (flag_in _).1 (by have := (flag_in x.fresh).2; omega)
  simpa [body, head, BeP.parts_length] using this
theorem got_count (h : Right x) : NumP.val (body x ++ more) 3 2 = (x.runs.length : Nat) := by
  have := val_parts2 (BeP.parts 2 x.page ++ BeP.parts 1 (flag x.fresh)) (runsB x.runs ++ more) (x.runs.length : Nat) (by omega) (by have := h.2.2.1; omega)
  simpa [body, head, BeP.parts_length] using this
theorem body_split (hr : x.runs[k]? = some r) : body x ++ more = (head x ++ runsB (x.runs.take k)) ++ (BeP.parts 2 r.at_ ++ (BeP.parts 2 (r.data.length : Nat) ++ (r.data ++ (runsB (x.runs.drop (k + 1)) ++ more)))) := by
  unfold body
  rw [runsB_split _ _ _ hr]
  simp [runB]
theorem place_len : (head x ++ runsB (x.runs.take k)).length = place x k := by rw [List.length_append, head_length]; rfl
theorem got_at (h : Right x) (hr : x.runs[k]? = some r) : NumP.val (body x ++ more) (place x k) 2 = r.at_ := by
  have hi := in_runs h hr
  rw [body_split hr, ← place_len]
  exact val_parts2 _ _ r.at_ (by omega) (by omega)
theorem got_len (h : Right x) (hr : x.runs[k]? = some r) : NumP.val (body x ++ more) (place x k + 2) 2 = (r.data.length : Nat) := by
  have hi := in_runs h hr
  rw [body_split hr, ← place_len]
  have := val_parts2 ((head x ++ runsB (x.runs.take k)) ++ BeP.parts 2 r.at_) (r.data ++ (runsB (x.runs.drop (k + 1)) ++ more)) (r.data.length : Nat) (by omega) (by omega)
  rw [List.length_append, BeP.parts_length] at this
  simpa using this
theorem got_data (hr : x.runs[k]? = some r) : ((body x ++ more).drop (place x k + 4)).take r.data.length = r.data := by
  have e : body x ++ more = ((head x ++ runsB (x.runs.take k)) ++ (BeP.parts 2 r.at_ ++ BeP.parts 2 (r.data.length : Nat))) ++ (r.data ++ (runsB (x.runs.drop (k + 1)) ++ more)) := by rw [body_split hr]; simp
  have hl : ((head x ++ runsB (x.runs.take k)) ++ (BeP.parts 2 r.at_ ++ BeP.parts 2 (r.data.length : Nat))).length = place x k + 4 := by rw [List.length_append, place_len]; simp [BeP.parts_length]
  rw [e, List.drop_left' hl, List.take_left' rfl]
theorem place_fits (hr : x.runs[k]? = some r) : place x k + 4 + r.data.length ≤ (body x).length := by
  have := congrArg List.length (body_split (more := []) hr)
  rw [List.append_nil, List.length_append, place_len] at this
  simp [BeP.parts_length] at this
  omega
end PatchP
end Go.Proofs.Ytiokcemlfdonnaa
end
section
namespace Go.Proofs.Ytiokcemlfdonnaa.WideP
def hi (x : Int) : Int := x / 18446744073709551616
def lo (x : Int) : Int := x % 18446744073709551616
/-- a number of 64 bits? -/
def fits (x : Int) : Bool := decide (-9223372036854775808 ≤ x) && decide (x ≤ 9223372036854775807)
def num (x : Int) : Int := if fits x then x else 0
end Go.Proofs.Ytiokcemlfdonnaa.WideP
namespace Go.Proofs.Ytiokcemlfdonnaa.WideW
open Go.RowKit

end Go.Proofs.Ytiokcemlfdonnaa.WideW
end
section
namespace Go.Proofs.Ytiokcemlfdonnaa
theorem key_inj {a b : ByteArray} (h : a.toList = b.toList) : a = b := by
  rw [Lib.toList_data, Lib.toList_data] at h
  exact ByteArray.ext (Array.ext' h)
theorem key_ne {a b : ByteArray} (h : ¬ a = b) : (a.toList == b.toList) = false := by
  rw [beq_eq_false_iff_ne]
  exact fun e => h (key_inj e)
end Go.Proofs.Ytiokcemlfdonnaa
namespace Go.Proofs.Ytiokcemlfdonnaa.UndoP
def none : Undo := ⟨0, ByteArray.empty, SlotP.none, 0⟩
/-- does the slot stand for this key? -/
def stands (x : Item) (k : ByteArray) : Prop := (x.state = 1 ∨ x.state = 2) ∧ x.key = k
/-- how an operation is taken back -/
noncomputable def of (x : OpX) (was thn : Item) : Undo := by
  classical
  exact if x.act = 4 then ⟨3, x.key, SlotP.none, x.n⟩ else if x.act = 5 then ⟨2, x.key, SlotP.none, x.n⟩ else
    if x.act = 1 ∨ x.act = 2 ∨ x.act = 3 then (if stands was x.key then ⟨1, x.key, was, 0⟩ else ⟨1, x.key, ⟨2, thn.key, thn.cell⟩, 0⟩) else none
/-- the sum, or the difference -/
def sum (u : Undo) (now : Item) : Int := if u.act = 3 then now.cell.val - u.n else now.cell.val + u.n
/-- what a slot becomes -/
noncomputable def apply (u : Undo) (now : Item) : Item × Int := by
  classical
  exact if u.act = 1 then (u.item, 0) else if u.act = 2 ∨ u.act = 3 then
    (if now.state = 1 ∧ now.key = u.key then
      (if now.cell.kind = 2 ∧ CellP.right now.cell = true then
        (if sum u now < now.cell.lo ∨ now.cell.hi < sum u now then (SlotP.none, 8) else (⟨1, now.key, ⟨2, [], now.cell.lo, now.cell.hi, sum u now⟩⟩, 0)) else (SlotP.none, 6)) else (SlotP.none, 5)) else (SlotP.none, 1)
/-- are all fields the same? -/
def same (a b : Undo) : Bool := a.act == b.act && (a.key.toList == b.key.toList && (a.n == b.n && SlotP.same a.item b.item))
end Go.Proofs.Ytiokcemlfdonnaa.UndoP
namespace Go.Proofs.Ytiokcemlfdonnaa.UndoP
/-- may it be? -/
def right (u : Undo) : Bool :=
  if u.act = 0 then same u none
  else if u.act = 1 then KeyP.right u.key.data.toList && ((u.item.state == 1 || u.item.state == 2) && (SlotP.right u.item && (u.item.key.toList == u.key.toList && u.n == 0)))
  else if u.act = 2 ∨ u.act = 3 then KeyP.right u.key.data.toList && (decide (0 ≤ u.n) && SlotP.same u.item SlotP.none) else false
/-- its bytes, if it may be -/
def bytes (u : Undo) : List UInt8 :=
  if right u = true then (if u.act = 0 then [0] else [UInt8.ofNat u.act.toNat, UInt8.ofNat u.key.size] ++ (u.key.data.toList ++ (if u.act = 1 then SlotP.bytes u.item else BeP.parts 8 u.n))) else []
theorem slot_right_state (x : Item) (h : SlotP.right x = true) (h0 : ¬ x.state = 0) : (x.state == 1 || x.state == 2) = true := by
  unfold SlotP.right at h
  rw [if_neg h0] at h
  simp only [Bool.and_eq_true] at h
  exact h.1
end Go.Proofs.Ytiokcemlfdonnaa.UndoP
end
