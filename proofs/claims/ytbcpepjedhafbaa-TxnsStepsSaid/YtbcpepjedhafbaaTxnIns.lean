/-
  What the reference's insert brings about, append by append. No program in sight.
-/
import Derived.Test.YtbcpepjedhafbaaRefTxnGo
namespace Go.Proofs.Ytbcpepjedhafbaa
open Go.RowKit
set_option linter.unusedVariables false
theorem TxnE.keepE {w w' : World} {B n c : Nat} {b0 : List Nat} {A : Option Addr} {l : List TxnX} (h : Elems TxnE w B A n c l) (hne : ∀ a, A = some a → a.block ∉ b0) (k : Reg.KeepB B b0 w w') : Elems TxnE w' B A n c l := by
  obtain ⟨vs, hr, hl, hc, hm, hx⟩ := h
  refine ⟨vs, hr, hl, hc, hm, fun hn => ?_⟩
  obtain ⟨b, o, e, hb, hcl⟩ := hx hn
  exact ⟨b, o, e, hb, fun j v hv => (k.cell (p := ⟨b, o + j, none⟩) hb (show b ∉ b0 from hne _ e)).trans (hcl j v hv)⟩
namespace RefTxn
/-- the parts of the insert: the bound, the table's box and what lies in it, the list, the new one, its place, the list's length -/
structure Ins where
  N : Nat
  b2 : Nat
  old : Array Value
  nx : Value
  L : List TxnX
  t : TxnX
  j : Nat
  n : Nat
abbrev TX : TypeId := 38
def Ins.Side (I : Ins) (a : Act) (w : World) (g : Nat) : Prop := a.eval (.tmp 84) = .slice (some ⟨g, 0, none⟩) 1 1 ∧ Str w g (txV I.t).toArray ∧ I.N ≤ g
/-- a row of the region's own in a slot, with the side row beside it -/
def Ins.Row (I : Ins) (s : Tmp) (m : Nat) (l : List TxnX) (b : Bool) (a : Act) (w : World) : Prop :=
  Str w I.b2 I.old ∧ ∃ A c, a.eval (.tmp s) = .slice A m c ∧ OwnE TxnE TX w I.N A m c l ∧ (b = true → ∃ g, I.Side a w g ∧ ∀ ad, A = some ad → ad.block ≠ g)
def Ins.S (I : Ins) : Reg.LS := fun k b a w => match k with
  | 0 => Str w I.b2 I.old ∧ (b = true → ∃ g, I.Side a w g)
  | 1 => I.Row 70 0 [] b a w
  | 2 => I.Row 74 I.j (I.L.take I.j) b a w
  | 3 => b = true ∧ Str w I.b2 I.old ∧ ∃ A c, a.eval (.tmp 85) = .slice A (I.j + 1) c ∧ OwnE TxnE TX w I.N A (I.j + 1) c (I.L.take I.j ++ [I.t])
  | 4 => b = true ∧ Str w I.b2 I.old ∧ ∃ A c, a.eval (.tmp 89) = .slice A (I.n + 1) c ∧ OwnE TxnE TX w I.N A (I.n + 1) c (I.L.take I.j ++ [I.t] ++ I.L.drop I.j)
  | _ => b = true ∧ ∃ A c, Str w I.b2 #[.slice A (I.n + 1) c, I.nx] ∧ OwnE TxnE TX w I.N A (I.n + 1) c (I.L.take I.j ++ [I.t] ++ I.L.drop I.j)
section
variable {I : Ins} {a : Act} {w w' : World} {b : Bool} {d : Option Tmp} {v : Value}
theorem Ins.Side.put {g : Nat} (hd : d ≠ some 84) (h : I.Side a w g) (hb : Below w.heap.size w w') : I.Side (a.put d v) w' g :=
  ⟨by rw [Reg.eval_ne hd]; exact h.1, h.2.1.next hb, h.2.2⟩
theorem Ins.Row.put {s : Tmp} {m : Nat} {l : List TxnX} (hd : d ≠ some 84) (hs : d ≠ some s) (h : I.Row s m l b a w) (hb : Below w.heap.size w w') : I.Row s m l b (a.put d v) w' := by
  obtain ⟨h1, A, c, h2, h3, h4⟩ := h
  refine ⟨h1.next hb, A, c, by rw [Reg.eval_ne hs]; exact h2, h3.next hb, fun e => ?_⟩
  obtain ⟨g, h5, h6⟩ := h4 e
  exact ⟨g, h5.put hd hb, h6⟩
/-- an operation that is none of these -/
theorem Ins.S_put (hd : d ≠ some 70 ∧ d ≠ some 74 ∧ d ≠ some 84 ∧ d ≠ some 85 ∧ d ≠ some 89) (k : Nat) (h : I.S k b a w) (hb : Below w.heap.size w w') : I.S k b (a.put d v) w' := by
  obtain ⟨d1, d2, d3, d4, d5⟩ := hd
  match k, h with
  | 0, h => exact ⟨h.1.next hb, fun e => by obtain ⟨g, h5⟩ := h.2 e; exact ⟨g, h5.put d3 hb⟩⟩
  | 1, h => exact Ins.Row.put d3 d1 h hb
  | 2, h => exact Ins.Row.put d3 d2 h hb
  | 3, h =>
    obtain ⟨e, h1, A, c, h2, h3⟩ := h
    exact ⟨e, h1.next hb, A, c, by rw [Reg.eval_ne d4]; exact h2, h3.next hb⟩
  | 4, h =>
    obtain ⟨e, h1, A, c, h2, h3⟩ := h
    exact ⟨e, h1.next hb, A, c, by rw [Reg.eval_ne d5]; exact h2, h3.next hb⟩
  | _ + 5, h =>
    obtain ⟨e, A, c, h1, h3⟩ := h
    exact ⟨e, A, c, h1.next hb, h3.next hb⟩
/-- the empty row -/
theorem Ins.S_zero (h : I.S 0 b a w) (ha : 70 < a.tmps.size) (hN : I.N ≤ w.heap.size) : I.S 1 b (a.put (some 70) (.slice (some ⟨w.heap.size, 0, none⟩) 0 0)) (w.alloc (.cells #[] TX)) := by
  obtain ⟨h1, h2⟩ := h
  refine ⟨h1.alloc _, _, _, Reg.eval_put_same ha, TxnE.empty w TX I.N hN, fun e => ?_⟩
  obtain ⟨g, h5⟩ := h2 e
  refine ⟨g, h5.put (by decide) (balloc (bsame w) _), fun ad e2 => ?_⟩
  cases e2
  have := h5.2.1.lt
  show w.heap.size ≠ g
  omega
/-- the row of one -/
theorem Ins.S_side (k : Nat) (h : I.S k false a w) (ha : 84 < a.tmps.size) (hN : I.N ≤ w.heap.size) : I.S k true (a.put (some 84) (.slice (some ⟨w.heap.size, 0, none⟩) 1 1)) (w.alloc (.cells (txV I.t).toArray TX)) := by
  have hb : Below w.heap.size w (w.alloc (.cells (txV I.t).toArray TX)) := balloc (bsame w) _
  have hs : I.Side (a.put (some 84) (.slice (some ⟨w.heap.size, 0, none⟩) 1 1)) (w.alloc (.cells (txV I.t).toArray TX)) w.heap.size := ⟨Reg.eval_put_same ha, Str.new w _ _, hN⟩
  have row : ∀ {s m l}, (some 84 : Option Tmp) ≠ some s → I.Row s m l false a w → I.Row s m l true (a.put (some 84) (.slice (some ⟨w.heap.size, 0, none⟩) 1 1)) (w.alloc (.cells (txV I.t).toArray TX)) := fun {s m l} hne hr => by
    obtain ⟨h1, A, c, h2, h3, _⟩ := hr
    refine ⟨h1.next hb, A, c, by rw [Reg.eval_ne hne]; exact h2, h3.next hb, fun _ => ⟨w.heap.size, hs, fun ad e => ?_⟩⟩
    subst e
    obtain ⟨vs, h5, _⟩ := h3
    rcases h5.2 with ⟨e, _⟩ | ⟨g, cap, cur, e, hg, hh, _⟩
    · cases e
    · cases e
      have := (Array.getElem?_eq_some_iff.1 hh).1
      show g ≠ w.heap.size
      omega
  match k, h with
  | 0, h => exact ⟨h.1.next hb, fun _ => ⟨_, hs⟩⟩
  | 1, h => exact row (by decide) h
  | 2, h => exact row (by decide) h
  | 3, h => cases h.1
  | 4, h => cases h.1
  | _ + 5, h => cases h.1
end
/-- an append of transactions, in such a region -/
theorem app_step {w : World} {N n c n2 c2 : Nat} {A A2 : Option Addr} {l l2 : List TxnX} (h : OwnE TxnE TX w N A n c l) (h2 : ElemsIn TxnE (hid A w) w w.heap.size A2 n2 c2 l2) (hn : n + n2 ≤ 100000) (hN : N ≤ w.heap.size) :
    ∃ A' c' w', (appSem #[26, 26] 26 #[.slice A n c, .slice A2 n2 c2]).run Try.prog w = .ok (.slice A' (n + n2) c') w' ∧ OwnE TxnE TX w' N A' (n + n2) c' (l ++ l2) ∧ Below N w w' ∧ (∀ g cs, Str w g cs → (∀ ad, A = some ad → ad.block ≠ g) → Str w' g cs ∧ ∀ ad, A' = some ad → ad.block ≠ g) := by
  obtain ⟨i0, hi0, iz0, iz1, iz2⟩ := info_parts infoX
  obtain ⟨A', c', w', h3, h4, h5, h6, h7⟩ := h.app (P := Try.prog) 26 26 i0 _ 32 Try.underlying26 hi0 iz0 iz1 iz2 rfl h2 (by unfold maxLen; omega) (by omega) hN
  refine ⟨A', c', w', h3, h4, h5, fun g cs hs hne => ⟨hs.grownO h6 ?_, fun ad e => ?_⟩⟩
  · intro e
    cases A with
    | none => cases e
    | some ad => cases e; exact hne ad rfl rfl
  · rcases h7 with rfl | ⟨a', e', ha'⟩
    · exact hne ad e
    · rw [e'] at e; cases e
      have := hs.lt
      omega
section
variable {I : Ins} {a : Act} {w : World} {b : Bool} {A2 : Option Addr} {c2 : Nat}
abbrev AppEq (A : Option Addr) (n c : Nat) (A2 : Option Addr) (n2 c2 : Nat) (w : World) (A' : Option Addr) (n' c' : Nat) (w' : World) : Prop := (appSem #[26, 26] 26 #[.slice A n c, .slice A2 n2 c2]).run Try.prog w = .ok (.slice A' n' c') w'
theorem Ins.S_one (h : I.S 1 b a w) (ha : 74 < a.tmps.size) (hN : I.N ≤ w.heap.size) (hb2 : I.b2 < I.N) (hE : Elems TxnE w I.N A2 I.j c2 (I.L.take I.j)) (hj : I.j ≤ 1000) :
    ∃ A c A' c' w', a.eval (.tmp 70) = .slice A 0 c ∧ AppEq A 0 c A2 I.j c2 w A' I.j c' w' ∧ I.S 2 b (a.put (some 74) (.slice A' I.j c')) w' ∧ Below I.N w w' := by
  obtain ⟨h1, A, c, h2, h3, h4⟩ := h
  obtain ⟨A', c', w', h5, h6, h7, h8⟩ := app_step h3 (h3.src hE (Nat.le_refl _) hN) (by omega) hN
  rw [Nat.zero_add, List.nil_append] at h6
  rw [Nat.zero_add] at h5
  refine ⟨A, c, A', c', w', h2, h5, ⟨h1.below h7 hb2, A', c', Reg.eval_put_same ha, h6, fun e => ?_⟩, h7⟩
  obtain ⟨g, h9, h10⟩ := h4 e
  obtain ⟨k1, k2⟩ := h8 g _ h9.2.1 h10
  exact ⟨g, ⟨by rw [Reg.eval_ne (by decide)]; exact h9.1, k1, h9.2.2⟩, k2⟩
theorem Ins.S_two (h : I.S 2 true a w) (ha : 85 < a.tmps.size) (hN : I.N ≤ w.heap.size) (hb2 : I.b2 < I.N) (hj : I.j ≤ 1000) :
    ∃ A c A2 A' c' w', a.eval (.tmp 74) = .slice A I.j c ∧ a.eval (.tmp 84) = .slice A2 1 1 ∧ AppEq A I.j c A2 1 1 w A' (I.j + 1) c' w' ∧ I.S 3 true (a.put (some 85) (.slice A' (I.j + 1) c')) w' ∧ Below I.N w w' := by
  obtain ⟨h1, A, c, h2, h3, h4⟩ := h
  obtain ⟨g, h9, h10⟩ := h4 rfl
  obtain ⟨A', c', w', h5, h6, h7, h8⟩ := app_step h3 (TxnE.lit h9.2.1) (by omega) hN
  exact ⟨A, c, _, A', c', w', h2, h9.1, h5, ⟨rfl, h1.below h7 hb2, A', c', Reg.eval_put_same ha, h6⟩, h7⟩
theorem Ins.S_three (h : I.S 3 b a w) (ha : 89 < a.tmps.size) (hN : I.N ≤ w.heap.size) (hb2 : I.b2 < I.N) (hE : Elems TxnE w I.N A2 (I.n - I.j) c2 (I.L.drop I.j)) (hj : I.j ≤ I.n) (hn : I.n ≤ 1000) :
    ∃ A c A' c' w', a.eval (.tmp 85) = .slice A (I.j + 1) c ∧ AppEq A (I.j + 1) c A2 (I.n - I.j) c2 w A' (I.n + 1) c' w' ∧ I.S 4 b (a.put (some 89) (.slice A' (I.n + 1) c')) w' ∧ Below I.N w w' := by
  obtain ⟨e, h1, A, c, h2, h3⟩ := h
  obtain ⟨A', c', w', h5, h6, h7, h8⟩ := app_step h3 (h3.src hE (Nat.le_refl _) hN) (by omega) hN
  rw [show I.j + 1 + (I.n - I.j) = I.n + 1 by omega] at h5 h6
  exact ⟨A, c, A', c', w', h2, h5, ⟨e, h1.below h7 hb2, A', c', Reg.eval_put_same ha, h6⟩, h7⟩
theorem Ins.S_four {x : Value} (h : I.S 4 b a w) (hold : I.old = #[x, I.nx]) (hb2 : I.b2 < I.N) :
    ∃ A c, a.eval (.tmp 89) = .slice A (I.n + 1) c ∧ Str w I.b2 I.old ∧ I.S 5 b a (w.setCell ⟨I.b2, 0, none⟩ (.slice A (I.n + 1) c)) := by
  obtain ⟨e, h1, A, c, h2, h3⟩ := h
  refine ⟨A, c, h2, h1, e, A, c, ?_, TxnE.grown h3 (grown_set (grown_refl w _) 0 _) (fun ad e2 => by have := h3.ge ad e2; omega)⟩
  have := h1.set 0 (.slice A (I.n + 1) c)
  rw [hold] at this
  simpa using this
theorem Ins.S_end (h : I.S 5 b a w) : ∃ A c, Str w I.b2 #[.slice A (I.n + 1) c, I.nx] ∧ OwnE TxnE TX w I.N A (I.n + 1) c (I.L.take I.j ++ [I.t] ++ I.L.drop I.j) := h.2
end
end RefTxn
end Go.Proofs.Ytbcpepjedhafbaa
