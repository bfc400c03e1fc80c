/-
  Parts of the proof of LocksSteps.
-/
import Derived.Test.YtkkfabnehhamdaaDoorLkS24
import Derived.Test.YtkkfabnehhamdaaDoorLkS25
section
namespace Go.Proofs.YtkkfabnehhamdaaDoor
open Go.RowKit
namespace RefL
open ModesP LockP
set_option linter.unusedVariables false
set_option linter.unusedSimpArgs false
attribute [local go_sem ↓] app_fold cut_fold
def GivesR (w : World) (A0 A02 : Option Addr) (n0 n02 : Nat) (y : RT × List Int) (e : Ending) (w' : World) : Prop := ∃ A n c A2 n2 c2 A3 n3 c3, e = .returned (.tuple #[.agg #[.slice A n c, .slice A2 n2 c2], .slice A3 n3 c3]) ∧ Elems H3E w' w'.heap.size A n c y.1.h ∧ Elems H3E w' w'.heap.size A2 n2 c2 y.1.w ∧ Elems IntE w' w'.heap.size A3 n3 c3 y.2 ∧ FrO w A0 n0 A n ∧ FrO w A02 n02 A2 n2 ∧ Below w.heap.size w w'
/-! what grant leaves -/
theorem gR_len (k : ByteArray) : ∀ (r done h : List H3), (gR k r done h).1.h.length + (gR k r done h).1.w.length = h.length + done.length + r.length ∧ (gR k r done h).2.length + (gR k r done h).1.w.length = done.length + r.length
  | [], done, h => ⟨rfl, by show 0 + done.length = done.length + 0; omega⟩
  | e :: r, done, h => by
    by_cases hc : on3 k e = true ∧ blkR h done e = []
    · rw [gR_yes hc.1 hc.2]
      have ih := gR_len k r done (h ++ [e])
      simp only [List.length_append, List.length_cons, List.length_nil] at ih ⊢
      omega
    · rw [gR_no (by
        by_cases h1 : on3 k e = true
        · exact .inr (fun h2 => hc ⟨h1, h2⟩)
        · exact .inl (by simpa using h1))]
      have ih := gR_len k r (done ++ [e]) h
      simp only [List.length_append, List.length_cons, List.length_nil] at ih ⊢
      omega
theorem gR_modes (k : ByteArray) : ∀ (r done h : List H3), Modes3 h → Modes3 (done ++ r) → Modes3 (gR k r done h).1.h ∧ Modes3 (gR k r done h).1.w
  | [], done, h, h1, h2 => ⟨h1, fun e he => h2 e (List.mem_append_left _ he)⟩
  | e :: r, done, h, h1, h2 => by
    by_cases hc : on3 k e = true ∧ blkR h done e = []
    · rw [gR_yes hc.1 hc.2]
      exact gR_modes k r done (h ++ [e]) (fun y hy => by
        rcases List.mem_append.1 hy with hy | hy
        · exact h1 y hy
        · rw [List.mem_singleton] at hy
          subst hy
          exact h2 _ (by simp)) (fun y hy => h2 y (by
        rcases List.mem_append.1 hy with hy | hy
        · exact List.mem_append_left _ hy
        · exact List.mem_append_right _ (List.mem_cons_of_mem _ hy)))
    · rw [gR_no (by
        by_cases h1 : on3 k e = true
        · exact .inr (fun h2 => hc ⟨h1, h2⟩)
        · exact .inl (by simpa using h1))]
      exact gR_modes k r (done ++ [e]) h h1 (fun y hy => h2 y (by simpa using hy))
theorem without_len (l : List H3) (u : Int) : (without l u).length ≤ l.length := List.length_filter_le _ _
theorem without_modes {l : List H3} (h : Modes3 l) (u : Int) : Modes3 (without l u) := fun e he => h e (List.mem_filter.1 he).1
/-- a table's box turns: no text does -/
theorem strs_box {w : World} {B b i n c p q p2 q2 : Nat} {A P P2 : Option Addr} {l : List ByteArray} {v : Value} (hE : Strs w B A n c l) (hB : B ≤ w.heap.size) (hs : Str w b #[.slice P p q, .slice P2 p2 q2]) : Strs (w.setCell ⟨b, i, none⟩ v) B A n c l := by
  obtain ⟨hl, hnc, hm, hz, hx⟩ := hE
  refine ⟨hl, hnc, hm, hz, fun hn => ?_⟩
  obtain ⟨b', o, e, hb, hc⟩ := hx hn
  refine ⟨b', o, e, hb, fun j u hu => ?_⟩
  have hne : b' ≠ b := fun e2 => by
    subst e2
    have h1 := hc j u hu
    rw [hs.cell] at h1
    have hk : o + j = 0 ∨ o + j = 1 := by
      have := (Array.getElem?_eq_some_iff.1 h1).1
      simp at this
      omega
    rcases hk with hk | hk <;> rw [hk] at h1 <;> simp at h1
  exact (World.cell?_of_block ((grown_set (grown_refl w b) i v).block b' (by omega) (fun e => hne (Option.some.inj e)))).trans (hc j u hu)
/-! ### a table's values in a region that draws -/
def NoSl {α : Type} (E : El α) : Prop := ∀ w B vs x, E.rel w B vs x → ∀ v ∈ vs, ∀ P p q, v ≠ .slice P p q
theorem h3_noSl : NoSl H3E := fun w B vs x h v hv P p q e => by
  have h1 : vs = h3V x := h
  subst h1
  subst e
  simp [h3V] at hv
theorem int_noSl : NoSl IntE := fun w B vs x h v hv P p q e => by
  have h1 : vs = [.int .i64 x] := h
  subst h1
  subst e
  simp at hv
/-- a table's box turns: no list does -/
theorem elems_away {α : Type} {E : El α} (hE : NoSl E) (hp : E.Pure) {w w' : World} {B b n c p q p2 q2 : Nat} {A P P2 : Option Addr} {l : List α} (h : Elems E w B A n c l) (hB : B ≤ w.heap.size) (hs : Str w b #[.slice P p q, .slice P2 p2 q2]) (hg : w.grownBy w' (some b)) : Elems E w' B A n c l := by
  obtain ⟨vs, hr, hl, hnc, hm, hx⟩ := h
  refine ⟨vs, hr.imp fun _ _ h => hp _ _ _ _ _ _ h, hl, hnc, hm, fun hn => ?_⟩
  obtain ⟨b', o, e, hb, hc⟩ := hx hn
  refine ⟨b', o, e, hb, fun j u hu => ?_⟩
  have hne : b' ≠ b := fun e2 => by
    subst e2
    have h1 := hc j u hu
    rw [hs.cell] at h1
    obtain ⟨y, hy, hvy⟩ := List.mem_flatten.1 (List.mem_of_getElem? hu)
    obtain ⟨z, hz⟩ := hr.mem hy
    have hk : o + j = 0 ∨ o + j = 1 := by
      have := (Array.getElem?_eq_some_iff.1 h1).1
      simp at this
      omega
    rcases hk with hk | hk <;> rw [hk] at h1 <;> simp at h1 <;> exact hE _ _ _ _ hz u hvy _ _ _ h1.symm
  exact (World.cell?_of_block (hg.block b' (by omega) (fun e => hne (Option.some.inj e)))).trans (hc j u hu)
def PT (x : RT) (A0 A02 : Option Addr) (n0 n02 : Nat) (N : Nat) (v : Value) (w : World) : Prop := ∃ A n c A2 n2 c2, v = .agg #[.slice A n c, .slice A2 n2 c2] ∧ Elems H3E w w.heap.size A n c x.h ∧ Elems H3E w w.heap.size A2 n2 c2 x.w ∧ ((A = A0 ∧ n = n0) ∨ ∀ p, A = some p → N ≤ p.block) ∧ ((A2 = A02 ∧ n2 = n02) ∨ ∀ p, A2 = some p → N ≤ p.block)
def PL (l : List Int) (v : Value) (w : World) : Prop := ∃ A n c, v = .slice A n c ∧ Elems IntE w w.heap.size A n c l
theorem PT.next {x : RT} {A0 A02 : Option Addr} {n0 n02 N : Nat} {v : Value} {w w' : World} (h : PT x A0 A02 n0 n02 N v w) (hb : Below w.heap.size w w') : PT x A0 A02 n0 n02 N v w' := by
  obtain ⟨A, n, c, A2, n2, c2, e, h1, h2, h3⟩ := h
  exact ⟨A, n, c, A2, n2, c2, e, h1.next hb, h2.next hb, h3⟩
theorem PL.next {l : List Int} {v : Value} {w w' : World} (h : PL l v w) (hb : Below w.heap.size w w') : PL l v w' := by
  obtain ⟨A, n, c, e, h1⟩ := h
  exact ⟨A, n, c, e, h1.next hb⟩
theorem PT.away {x : RT} {A0 A02 : Option Addr} {n0 n02 N : Nat} {v : Value} {w w' : World} {b p q p2 q2 : Nat} {P P2 : Option Addr} (h : PT x A0 A02 n0 n02 N v w) (hs : Str w b #[.slice P p q, .slice P2 p2 q2]) (hg : w.grownBy w' (some b)) : PT x A0 A02 n0 n02 N v w' := by
  obtain ⟨A, n, c, A2, n2, c2, e, h1, h2, h3⟩ := h
  exact ⟨A, n, c, A2, n2, c2, e, (elems_away h3_noSl h3E_pure h1 (Nat.le_refl _) hs hg).more hg.size, (elems_away h3_noSl h3E_pure h2 (Nat.le_refl _) hs hg).more hg.size, h3⟩
theorem PL.away {l : List Int} {v : Value} {w w' : World} {b p q p2 q2 : Nat} {P P2 : Option Addr} (h : PL l v w) (hs : Str w b #[.slice P p q, .slice P2 p2 q2]) (hg : w.grownBy w' (some b)) : PL l v w' := by
  obtain ⟨A, n, c, e, h1⟩ := h
  exact ⟨A, n, c, e, (elems_away int_noSl LockW.intE_pure h1 (Nat.le_refl _) hs hg).more hg.size⟩
section
variable (N : Nat) (x : RT) (A0 A02 : Option Addr) (n0 n02 : Nat) (l : List Int)
def tabW : Way := ⟨fun w w' => Below N w w' ∧ (∀ v, PT x A0 A02 n0 n02 N v w → PT x A0 A02 n0 n02 N v w') ∧ ∀ v, PL l v w → PL l v w', fun w => ⟨Below.refl N w, fun _ h => h, fun _ h => h⟩, fun _ _ _ h k => ⟨h.1.trans k.1, fun v hv => k.2.1 v (h.2.1 v hv), fun v hv => k.2.2 v (h.2.2 v hv)⟩, fun w => ⟨⟨rfl, rfl, rfl, Nat.le_refl _, fun _ _ => rfl⟩, fun v h => h, fun v h => h⟩⟩
theorem tab_next {W : World} (hN : N = W.heap.size) : ∀ w w', (tabW N x A0 A02 n0 n02 l).rel W w → Below w.heap.size w w' → (tabW N x A0 A02 n0 n02 l).rel w w' := fun w w' h k => ⟨k.mono (by rw [hN]; have := h.1.size; rw [hN] at h; exact h.1.size), fun v hv => hv.next k, fun v hv => hv.next k⟩
def tabP : SP (tabW N x A0 A02 n0 n02 l) := ⟨fun v w => ∃ y z, v = .tuple #[y, z] ∧ PT x A0 A02 n0 n02 N y w ∧ PL l z w, fun v w w' h ⟨y, z, e, h1, h2⟩ => ⟨y, z, e, h.2.1 y h1, h.2.2 z h2⟩⟩
def numP : SP (tabW N x A0 A02 n0 n02 l) := ⟨fun v w => PL l v w, fun v w w' h h1 => h.2.2 v h1⟩
/-- the new box: made, stored into -/
def tabS : Reg.LS := fun k b a w => match k with
  | 0 => b = true → ∃ g P p q P2 p2 q2, a.eval (.tmp 10) = .pointer (some ⟨g, 0, none⟩) ∧ N ≤ g ∧ Str w g #[.slice P p q, .slice P2 p2 q2]
  | 1 => (b = true → ∃ g P p q P2 p2 q2, a.eval (.tmp 10) = .pointer (some ⟨g, 0, none⟩) ∧ N ≤ g ∧ Str w g #[.slice P p q, .slice P2 p2 q2]) ∧ PT x A0 A02 n0 n02 N (a.eval (.tmp 48)) w
  | _ => b = true ∧ ∃ g P p q P2 p2 q2, a.eval (.tmp 10) = .pointer (some ⟨g, 0, none⟩) ∧ N ≤ g ∧ Str w g #[.slice P p q, .slice P2 p2 q2] ∧ PT x A0 A02 n0 n02 N (.agg #[.slice P p q, .slice P2 p2 q2]) w
end
theorem tabS_put {N : Nat} {x : RT} {A0 A02 : Option Addr} {n0 n02 : Nat} {k : Nat} {b : Bool} {a : Act} {w w' : World} {dst : Option Tmp} {v : Value} (hd : dst ≠ some 10 ∧ dst ≠ some 48) (h : tabS N x A0 A02 n0 n02 k b a w) (hb : Below w.heap.size w w') : tabS N x A0 A02 n0 n02 k b (a.put dst v) w' := by
  have key : (b = true → ∃ g P p q P2 p2 q2, a.eval (.tmp 10) = .pointer (some ⟨g, 0, none⟩) ∧ N ≤ g ∧ Str w g #[.slice P p q, .slice P2 p2 q2]) → (b = true → ∃ g P p q P2 p2 q2, (a.put dst v).eval (.tmp 10) = .pointer (some ⟨g, 0, none⟩) ∧ N ≤ g ∧ Str w' g #[.slice P p q, .slice P2 p2 q2]) := fun h hb1 => by
    obtain ⟨g, P, p, q, P2, p2, q2, e, h1, h2⟩ := h hb1
    exact ⟨g, P, p, q, P2, p2, q2, by rw [Reg.eval_ne hd.1]; exact e, h1, h2.next hb⟩
  match k, h with
  | 0, h => exact key h
  | 1, h => exact ⟨key h.1, by rw [Reg.eval_ne hd.2]; exact h.2.next hb⟩
  | _ + 2, h =>
    obtain ⟨h0, g, P, p, q, P2, p2, q2, e, h1, h2, h3⟩ := h
    exact ⟨h0, g, P, p, q, P2, p2, q2, by rw [Reg.eval_ne hd.1]; exact e, h1, h2.next hb, h3.next hb⟩
theorem tabS_ext {N : Nat} {x : RT} {A0 A02 : Option Addr} {n0 n02 : Nat} {b : Bool} {a : Act} {w : World} {v : Value} (h : tabS N x A0 A02 n0 n02 0 b a w) (ha : 48 < a.tmps.size) (hv : PT x A0 A02 n0 n02 N v w) : tabS N x A0 A02 n0 n02 1 b (a.put (some 48) v) w :=
  ⟨fun hb => by
    obtain ⟨g, P, p, q, P2, p2, q2, e, h1, h2⟩ := h hb
    exact ⟨g, P, p, q, P2, p2, q2, by rw [Reg.eval_ne (by decide)]; exact e, h1, h2⟩, by rw [Reg.eval_put_same ha]; exact hv⟩
theorem tabS_alloc {N : Nat} {x : RT} {A0 A02 : Option Addr} {n0 n02 : Nat} {k : Nat} {a : Act} {w : World} {ty : TypeId} (h : tabS N x A0 A02 n0 n02 k false a w) (ha : 10 < a.tmps.size) (hN : N ≤ w.heap.size) : tabS N x A0 A02 n0 n02 k true (a.put (some 10) (.pointer (some ⟨w.heap.size, 0, none⟩))) (w.alloc (.cells #[.slice none 0 0, .slice none 0 0] ty)) := by
  have key : (true = true → ∃ g P p q P2 p2 q2, (a.put (some 10) (.pointer (some ⟨w.heap.size, 0, none⟩))).eval (.tmp 10) = .pointer (some ⟨g, 0, none⟩) ∧ N ≤ g ∧ Str (w.alloc (.cells #[.slice none 0 0, .slice none 0 0] ty)) g #[.slice P p q, .slice P2 p2 q2]) := fun _ => ⟨w.heap.size, none, 0, 0, none, 0, 0, Reg.eval_put_same ha, hN, Str.new _ _ _⟩
  match k, h with
  | 0, h => exact key
  | 1, h => exact ⟨key, by rw [Reg.eval_ne (by decide)]; exact h.2.next (balloc (bsame w) _)⟩
  | _ + 2, h => exact absurd h.1 (by decide)
theorem tab_store {N : Nat} {x : RT} {A0 A02 : Option Addr} {n0 n02 : Nat} {l : List Int} {w : World} {g p q p2 q2 : Nat} {P P2 : Option Addr} (hN : N ≤ g) (hs : Str w g #[.slice P p q, .slice P2 p2 q2]) (cs : Array Value) : (tabW N x A0 A02 n0 n02 l).rel w (w.setRow g cs) := by
  have hg := grown_setRow w g cs
  exact ⟨⟨hg.os, hg.tape, hg.output, hg.size, fun k hk => hg.block k (by have := hs.lt; omega) (fun e => by injection e with e; omega)⟩, fun v hv => hv.away hs hg, fun v hv => hv.away hs hg⟩
/-- what lies where, between the rounds of Cancel -/
structure Cn (w : World) (A A2 : Option Addr) (n n2 : Nat) (NT : Nat) (x1 : RT) (keys : List ByteArray) (y : RT) (rest : List ByteArray) (told : List Int) (Ak A9 A10 AT : Option Addr) (ck n9 c9 n10 c10 nT cT : Nat) (wr : World) : Prop where
  ext : Below w.heap.size w wr
  z : NT ≤ wr.heap.size
  box : Str wr w.heap.size #[.slice A9 n9 c9, .slice A10 n10 c10]
  res : Str wr (w.heap.size + 1) #[.slice none 0 0, .slice none 0 0]
  h : Elems H3E wr wr.heap.size A9 n9 c9 y.h
  q : Elems H3E wr wr.heap.size A10 n10 c10 y.w
  ks : Strs wr NT Ak keys.length ck keys
  t : OwnE IntE 3 wr NT AT nT cT told
  m : Modes3 y.h
  mq : Modes3 y.w
  ln : y.h.length + y.w.length ≤ 1000
  lt : told.length + y.w.length ≤ 1000
  eq : grantsR keys x1 = ((grantsR rest y).1, told ++ (grantsR rest y).2)
  oh : 0 < n9 → ∀ a p, AT = some a → A9 = some p → p.block ≠ a.block
  oq : 0 < n10 → ∀ a p, AT = some a → A10 = some p → p.block ≠ a.block
  fh : FrO w A n A9 n9
  fq : FrO w A2 n2 A10 n10
def CnR (w : World) (A A2 : Option Addr) (n n2 : Nat) (NT : Nat) (x1 : RT) (keys : List ByteArray) (Ak : Option Addr) (ck : Nat) (tv iv : Value) (wr : World) : Prop := ∃ (y : RT) (pre rest : List ByteArray) (told : List Int) (A9 A10 AT : Option Addr) (n9 c9 n10 c10 nT cT i : Nat), tv = .slice AT nT cT ∧ iv = .int .i64 (i : Int) ∧ pre.length = i ∧ keys = pre ++ rest ∧ Cn w A A2 n n2 NT x1 keys y rest told Ak A9 A10 AT ck n9 c9 n10 c10 nT cT wr
set_option maxRecDepth 100000 in
set_option maxHeartbeats 8000000 in
theorem cancel_any (A A2 : Option Addr) (n c n2 c2 : Nat) (x : RT) (u : Int) (w : World) (hH : Elems H3E w w.heap.size A n c x.h) (hW : Elems H3E w w.heap.size A2 n2 c2 x.w) (hm : Modes3 x.h) (hmw : Modes3 x.w) (hk : ∀ e ∈ x.w, e.key.size ≤ 100) (hn : n + n2 ≤ 1000) :
    Calls Tryd.prog 15 #[.agg #[.slice A n c, .slice A2 n2 c2], .int .i64 u] w (GivesR w A A2 n n2 (cancelR x u)) := by
  obtain ⟨W1, hW1⟩ : ∃ W, (w.alloc (.cells #[.slice A n c, .slice A2 n2 c2] 43)).alloc (.cells #[.slice none 0 0, .slice none 0 0] 43) = W := ⟨_, rfl⟩
  have hb1 : Below w.heap.size w W1 := by rw [← hW1]; exact balloc (balloc (bsame _) _) _
  have hs1 : Str W1 w.heap.size #[.slice A n c, .slice A2 n2 c2] := by rw [← hW1]; exact (Str.new _ _ _).alloc _
  have hs4 : Str W1 (w.heap.size + 1) #[.slice none 0 0, .slice none 0 0] := by rw [← hW1]; have := Str.new (w.alloc (.cells #[.slice A n c, .slice A2 n2 c2] 43)) #[.slice none 0 0, .slice none 0 0] 43; simpa using this
  have HB1 := Lib.hid hb1
  have HS1 := Lib.hid hs1
  have HS4 := Lib.hid hs4
  have HH := Lib.hid (hH.next hb1)
  have HW := Lib.hid (hW.next hb1)
  have HM := Lib.hid (And.intro hm hmw)
  have HK := Lib.hid hk
  have hlh := hH.len
  have hlw := hW.len
  have hz1 := hb1.size
  have hrl := hs4.lt
  clear hH hW hm hmw hk hb1 hs1 hs4
  go_enter Tryd.func15, Tryd.ntmps15
  go_wp2_with fail
  clear hW1
  go_loopw [6, 7] (fun tv iv wr => ∃ (i m9 c9 : Nat) (A9 : Option Addr), i ≤ n2 ∧ tv = .slice A9 i c9 ∧ iv = .int .i64 (i : Int) ∧ Hid (Below W1.heap.size W1 wr ∧ KeyS.OwnS wr W1.heap.size A9 i c9 ((x.w.take i).map (·.key)))) (fun _ iv _ => n2 - (intOf iv).toNat)
  case atStart => exact ⟨0, 0, 0, none, Nat.zero_le _, rfl, rfl, Lib.hid ⟨bsame W1, KeyS.OwnS.none_ _ _⟩⟩
  case round =>
    obtain ⟨i, m9, c9, A9, hi, rfl, rfl, HR⟩ := hrel
    have g1 := str2 (HS1.out.next HR.out.1)
    have gl1 := (HS1.out.next HR.out.1).lt
    have hez := HR.out.1.size
    by_cases hlt : i < n2
    · have hd : decide ((i : Int) < (n2 : Int)) = true := by simpa using hlt
      have k1 : ¬ (i : Int) < 0 := by omega
      obtain ⟨b, o, e, rfl, hb, hx, q0, q1, q2⟩ := h3_at HW.out hlt
      replace q1 := (HR.out.1.cell (p := ⟨b, o + i * 3 + 1, none⟩) hb).trans q1
      have htk := take_next hx
      have hsz := HK.out e (List.mem_of_getElem? hx)
      obtain ⟨A3, c3, w3, happ, hO3, hb3⟩ := (HR.out.2.alloc (.cells #[.string e.key] 9)).app (KeyS.OwnS.one wr W1.heap.size hez e.key (by unfold maxLen; omega)).strs (by omega) (by simp; omega)
      have HR3 : Hid (Below W1.heap.size W1 w3 ∧ KeyS.OwnS w3 W1.heap.size A3 (i + 1) c3 ((x.w.take (i + 1)).map (·.key))) := Lib.hid ⟨(HR.out.1.trans ((balloc (bsame wr) _).mono hez)).trans hb3, by rw [htk, List.map_append]; exact hO3⟩
      clear hx htk hO3 hb3 q0 q2
      go_wp2_with fail
      go_roundw
      case rel => exact ⟨i + 1, 0, c3, A3, by omega, rfl, by go_num, HR3⟩
      case measure => simp [intOf]; omega
    · have hd : decide ((i : Int) < (n2 : Int)) = false := by simp; omega
      obtain rfl : i = n2 := by omega
      have hO := HR.out.2
      rw [List.take_of_length_le (by omega)] at hO
      have HO := Lib.hid hO
      have HB := Lib.hid (bstep HB1.out HR.out.1)
      have HSb := Lib.hid (HS1.out.next HR.out.1)
      have HSr := Lib.hid (HS4.out.next HR.out.1)
      have HH2 := Lib.hid (HH.out.next HR.out.1)
      have HW2 := Lib.hid (HW.out.next HR.out.1)
      have hwo := without_any A2 i c2 x.w u wr HW2.out (by omega)
      clear hO
      go_wp2_with fail
      refine hwo.mono ?_
      rintro e9 W3 ⟨A5, n5, c5, rfl, hE5, hA5, hb3⟩
      have hl5 := hE5.len
      have HE5 := Lib.hid hE5
      have HA5 : Hid (∀ p, A5 = some p → w.heap.size ≤ p.block) := Lib.hid (fun p e => by have := hA5 p e; have := HB.out.size; omega)
      clear hA5
      replace HB := Lib.hid (bstep HB.out hb3)
      replace HSb := Lib.hid (HSb.out.next hb3)
      replace HSr := Lib.hid (HSr.out.next hb3)
      replace HH2 := Lib.hid (HH2.out.next hb3)
      have HKs := Lib.hid ((HO.out.next hb3).strs)
      clear hwo hE5 hb3 HO HW2 HR HS1 HS4 HB1 HH g1 gl1
      have g1 := str2 HSb.out
      have gl1 := HSb.out.lt
      have gf1 := fun j => HSb.out.frozen j
      go_wp2_with fail
      obtain ⟨W4, hW4⟩ : ∃ W, W3.setCell ⟨w.heap.size, 1, none⟩ (.slice A5 n5 c5) = W := ⟨_, rfl⟩
      have hz4 : W4.heap.size = W3.heap.size := by rw [← hW4]; simp
      have hg4 : W3.grownBy W4 (some w.heap.size) := by rw [← hW4]; exact grown_set (grown_refl W3 _) 1 _
      have hb4 : Below w.heap.size w W4 := by rw [← hW4]; exact Below.setCell HB.out (Nat.le_refl _) _
      have hh4 : Elems H3E W4 W4.heap.size A n c x.h := (elems_away h3_noSl h3E_pure HH2.out (Nat.le_refl _) HSb.out hg4).more hg4.size
      have hq4 : Elems H3E W4 W4.heap.size A5 n5 c5 (without x.w u) := (elems_away h3_noSl h3E_pure HE5.out (Nat.le_refl _) HSb.out hg4).more hg4.size
      have hk4 : Strs W4 W4.heap.size A9 i c9 (x.w.map (·.key)) := by rw [hz4, ← hW4]; exact strs_box HKs.out (Nat.le_refl _) HSb.out
      have hr4 : Str W4 (w.heap.size + 1) #[.slice none 0 0, .slice none 0 0] := by rw [← hW4]; exact HSr.out.other 1 _ (by omega)
      have hx4 : Str W4 w.heap.size #[.slice A n c, .slice A5 n5 c5] := by rw [← hW4]; exact HSb.out.set 1 _
      have hrl4 := hr4.lt
      have hso := KeyS.refSort_any A9 i c9 W4.heap.size (x.w.map (·.key)) W4 hk4 (Nat.le_refl _) (by omega)
      obtain ⟨keys, hkeys⟩ : ∃ k, KeyS.sort (x.w.map (·.key)) = k := ⟨_, rfl⟩
      rw [hkeys] at hso
      have HKY : Hid (srt (x.w.map (·.key)) = keys) := Lib.hid hkeys
      have HP4 := Lib.hid (And.intro hb4 (And.intro hh4 (And.intro hq4 (And.intro hr4 hx4))))
      rw [hW4]
      clear hW4 hg4 hb4 hh4 hq4 hk4 hr4 hx4 hkeys g1 gl1 gf1 HB HH2 HE5 HKs HSr HSb
      refine hso.mono ?_
      rintro e9 W5 ⟨Ak, ck, rfl, hKs5, hb5⟩
      have hlw5 := without_len x.w u
      have hz5 := hb5.size
      have hCN : Cn w A A2 n i W5.heap.size ⟨x.h, without x.w u⟩ keys ⟨x.h, without x.w u⟩ keys [] Ak A A5 none ck n c n5 c5 0 0 W5 :=
        ⟨bstep HP4.out.1 hb5, Nat.le_refl _, HP4.out.2.2.2.2.next hb5, HP4.out.2.2.2.1.next hb5, HP4.out.2.1.next hb5, HP4.out.2.2.1.next hb5, hKs5, OwnE.none_ _ _ _ _, HM.out.1, without_modes HM.out.2 u, by dsimp only; omega, by dsimp only; show 0 + _ ≤ _; omega, by simp, fun _ a p e => (by cases e), fun _ a p e => (by cases e), .refl _ _ _, .inr HA5.out⟩
      have HCN := Lib.hid hCN
      have hkl : keys.length ≤ 9223372036854775807 := by have := hKs5.2.1; have := hKs5.2.2.1; unfold maxLen at this; omega
      clear hso hKs5 hb5 hCN HP4
      go_wp2_with fail
      go_loopw [8, 9] (fun tv iv wr => Hid (CnR w A A2 n i W5.heap.size ⟨x.h, without x.w u⟩ keys Ak ck tv iv wr)) (fun _ iv _ => keys.length - (intOf iv).toNat)
      case atStart => exact Lib.hid ⟨⟨x.h, without x.w u⟩, [], keys, [], A, A5, none, n, c, n5, c5, 0, 0, 0, rfl, rfl, rfl, rfl, HCN.out⟩
      case round =>
        obtain ⟨y, pre, rest, told, P9, P10, AT, n9, d9, n10, d10, nT, cT, i2, rfl, rfl, hi2, hkp, hG⟩ := hrel.out
        have HG := Lib.hid hG
        have HI := Lib.hid hi2
        have HKP := Lib.hid hkp
        clear hrel hG
        have g1 := str2 HG.out.box
        have gl1 := HG.out.box.lt
        have hl9 := HG.out.h.len
        have hl10 := HG.out.q.len
        have hlt := HG.out.t.len
        have hln := HG.out.ln
        have hltt := HG.out.lt
        have hNT := HG.out.z
        have hrl := HG.out.res.lt
        have hez := HG.out.ext.size
        have hkl2 := congrArg List.length hkp
        rw [List.length_append] at hkl2
        cases rest with
        | nil =>
          have hd : decide ((i2 : Int) < (keys.length : Int)) = false := by simp at hkl2; simp; omega
          have hge : ¬ i2 < keys.length := by simp at hkl2; omega
          have HR : Hid (cancelR x u = (y, told)) := Lib.hid (by
            unfold cancelR
            rw [HKY.out, HG.out.eq]
            show (y, told ++ []) = _
            rw [List.append_nil])
          have g4 := str2 HG.out.res
          have gl4 := HG.out.res.lt
          have gf4 := fun j => HG.out.res.frozen j
          clear hi2 hkp hkl2
          go_wp2_with fail
          refine bodyPost_ret (v := .tuple #[.agg #[.slice P9 n9 d9, .slice P10 n10 d10], .slice AT nT cT]) (by simp [results, Tryd.results15, go_sem, *]) rfl ?_
          rw [HR.out]
          obtain ⟨k1, k2, k3⟩ := fin_box (w := w) HG.out.res HG.out.h HG.out.q HG.out.ext (by omega) rfl
          refine ⟨_, _, _, _, _, _, _, _, _, rfl, k1, k2, ?_, HG.out.fh, HG.out.fq, k3⟩
          exact (HG.out.t.grownP LockW.intE_pure ((grown_set (grown_refl wr (w.heap.size + 1)) 0 (.slice P9 n9 d9)).trans (grown_set (grown_refl _ (w.heap.size + 1)) 1 (.slice P10 n10 d10))) (fun a e => by have := HG.out.t.ge a e; intro h; injection h with h; omega)).elems
        | cons k r =>
          rw [List.length_cons] at hkl2
          have hin : i2 < keys.length := by omega
          have hd : decide ((i2 : Int) < (keys.length : Int)) = true := by simpa using hin
          have k1 : ¬ (i2 : Int) < 0 := by omega
          obtain ⟨b, o, rfl, hb, hc⟩ := HG.out.ks.2.2.2.2 (by omega)
          have q0 : wr.cell? ⟨b, o + i2, none⟩ = some (.string k) := hc i2 k (by rw [hkp, List.getElem?_append_right (by omega), hi2, Nat.sub_self]; rfl)
          have hbl : b < wr.heap.size := by omega
          have HQ0 := Lib.hid q0
          have hgr := fun (wx : World) (hb : Below wr.heap.size wr wx) => grant_any P9 P10 n9 d9 n10 d10 y k wx (HG.out.h.next hb) (HG.out.q.next hb) HG.out.m HG.out.mq (by omega)
          clear hc q0 hi2 hkp hkl2
          go_wp2_with fail
          refine Reg.wp_region_box (R := (tabW wr.heap.size (grantR y k).1 P9 P10 n9 n10 (grantR y k).2)) (W := wr) (Reg.LineJ (Reg.Line.mk [7, 10] 9 (tabS wr.heap.size (grantR y k).1 P9 P10 n9 n10))) [Reg.eqv (.agg #[.slice P9 n9 d9, .slice P10 n10 d10]), Reg.eqv (.slice (some ⟨b, o, none⟩) keys.length ck), Reg.eqv (.int .i64 (i2 : Int)), Reg.eqv (.pointer (some ⟨b, o + i2, none⟩)), Reg.eqv (.string k), tabP wr.heap.size (grantR y k).1 P9 P10 n9 n10 (grantR y k).2, tabP wr.heap.size (grantR y k).1 P9 P10 n9 n10 (grantR y k).2, Reg.any, numP wr.heap.size (grantR y k).1 P9 P10 n9 n10 (grantR y k).2, Reg.any, Reg.any, numP wr.heap.size (grantR y k).1 P9 P10 n9 n10 (grantR y k).2] 56 [[(2, none)], [(6, none)], [(9, none)], [(43, some 1), (44, some 2)], [(45, some 3)], [(42, some 0), (46, some 4)], [(47, some 5)], [(41, some 6)], [(41, some 6)], [], [(10, some 9), (48, some 7)], [(49, some 8)]] rfl (by kernel_rfl) (by kernel_rfl) (fun _ h => Reg.line_zero (l := (Reg.Line.mk [7, 10] 9 (tabS wr.heap.size (grantR y k).1 P9 P10 n9 n10))) (fun h => by cases h) h) (by kernel_rfl) ?_ [some 42, some 43, some 44, some 45, some 46, some 47, some 41, some 48, some 49, some 10, none, some 11] (by kernel_rfl) ?_
          · refine ⟨?_, ?_, ?_, ?_, ?_, ?_, ?_, ?_, ?_, ?_, ?_, ?_, trivial⟩
            · refine Reg.oblL_ord (l := (Reg.Line.mk [7, 10] 9 (tabS wr.heap.size (grantR y k).1 P9 P10 n9 n10))) (by show 0 ∉ [7, 10] ∧ 0 ≠ 9; decide) (tab_next _ _ _ _ _ _ _ rfl) (fun k1 b1 a1 w1 v1 w2 h1 h2 => tabS_put (dst := (some 42)) (by show ((some 42) : Option Nat) ≠ some 10 ∧ ((some 42) : Option Nat) ≠ some 48; decide) h1 h2) ?_
              intro ax wx hx hs
              obtain ⟨e2, -⟩ := hs
              have g2 := Reg.ev (v := .pointer (some ⟨w.heap.size, 0, none⟩)) e2
              have hx1 : Below wr.heap.size wr wx := hx.1
              have hNx := hx1.size
              have l0 := str2 (HG.out.box.next hx1)
              have l1 := (hx1.cell (p := ⟨b, o + i2, none⟩) hbl).trans HQ0.out
              exact Reg.obl_freeL rfl (Reg.wp_eqvB (Option.some_ne_none _) (by go_simp) rfl)
            · refine Reg.oblL_ord (l := (Reg.Line.mk [7, 10] 9 (tabS wr.heap.size (grantR y k).1 P9 P10 n9 n10))) (by show 1 ∉ [7, 10] ∧ 1 ≠ 9; decide) (tab_next _ _ _ _ _ _ _ rfl) (fun k1 b1 a1 w1 v1 w2 h1 h2 => tabS_put (dst := (some 43)) (by show ((some 43) : Option Nat) ≠ some 10 ∧ ((some 43) : Option Nat) ≠ some 48; decide) h1 h2) ?_
              intro ax wx hx hs
              obtain ⟨e6, -⟩ := hs
              have g6 := Reg.ev (v := .slice (some ⟨b, o, none⟩) keys.length ck) e6
              exact Reg.obl_freeL rfl (Reg.wp_eqvB (Option.some_ne_none _) (by go_simp) rfl)
            · refine Reg.oblL_ord (l := (Reg.Line.mk [7, 10] 9 (tabS wr.heap.size (grantR y k).1 P9 P10 n9 n10))) (by show 2 ∉ [7, 10] ∧ 2 ≠ 9; decide) (tab_next _ _ _ _ _ _ _ rfl) (fun k1 b1 a1 w1 v1 w2 h1 h2 => tabS_put (dst := (some 44)) (by show ((some 44) : Option Nat) ≠ some 10 ∧ ((some 44) : Option Nat) ≠ some 48; decide) h1 h2) ?_
              intro ax wx hx hs
              obtain ⟨e9, -⟩ := hs
              have g9 := Reg.ev (v := .int .i64 (i2 : Int)) e9
              exact Reg.obl_freeL rfl (Reg.wp_eqvB (Option.some_ne_none _) (by go_simp) rfl)
            · refine Reg.oblL_ord (l := (Reg.Line.mk [7, 10] 9 (tabS wr.heap.size (grantR y k).1 P9 P10 n9 n10))) (by show 3 ∉ [7, 10] ∧ 3 ≠ 9; decide) (tab_next _ _ _ _ _ _ _ rfl) (fun k1 b1 a1 w1 v1 w2 h1 h2 => tabS_put (dst := (some 45)) (by show ((some 45) : Option Nat) ≠ some 10 ∧ ((some 45) : Option Nat) ≠ some 48; decide) h1 h2) ?_
              intro ax wx hx hs
              obtain ⟨e43, e44, -⟩ := hs
              have g43 := Reg.ev (v := .slice (some ⟨b, o, none⟩) keys.length ck) e43
              have g44 := Reg.ev (v := .int .i64 (i2 : Int)) e44
              exact Reg.obl_freeL rfl (Reg.wp_eqvB (Option.some_ne_none _) (by go_simp) rfl)
            · refine Reg.oblL_ord (l := (Reg.Line.mk [7, 10] 9 (tabS wr.heap.size (grantR y k).1 P9 P10 n9 n10))) (by show 4 ∉ [7, 10] ∧ 4 ≠ 9; decide) (tab_next _ _ _ _ _ _ _ rfl) (fun k1 b1 a1 w1 v1 w2 h1 h2 => tabS_put (dst := (some 46)) (by show ((some 46) : Option Nat) ≠ some 10 ∧ ((some 46) : Option Nat) ≠ some 48; decide) h1 h2) ?_
              intro ax wx hx hs
              obtain ⟨e45, -⟩ := hs
              have g45 := Reg.ev (v := .pointer (some ⟨b, o + i2, none⟩)) e45
              have hx1 : Below wr.heap.size wr wx := hx.1
              have hNx := hx1.size
              have l0 := str2 (HG.out.box.next hx1)
              have l1 := (hx1.cell (p := ⟨b, o + i2, none⟩) hbl).trans HQ0.out
              exact Reg.obl_freeL rfl (Reg.wp_eqvB (Option.some_ne_none _) (by go_simp) rfl)
            · refine Reg.oblL_ord (l := (Reg.Line.mk [7, 10] 9 (tabS wr.heap.size (grantR y k).1 P9 P10 n9 n10))) (by show 5 ∉ [7, 10] ∧ 5 ≠ 9; decide) (tab_next _ _ _ _ _ _ _ rfl) (fun k1 b1 a1 w1 v1 w2 h1 h2 => tabS_put (dst := (some 47)) (by show ((some 47) : Option Nat) ≠ some 10 ∧ ((some 47) : Option Nat) ≠ some 48; decide) h1 h2) ?_
              intro ax wx hx hs
              obtain ⟨e42, e46, -⟩ := hs
              have g42 := Reg.ev (v := .agg #[.slice P9 n9 d9, .slice P10 n10 d10]) e42
              have g46 := Reg.ev (v := .string k) e46
              refine Reg.obl_freeL rfl ?_
              have hx1 : Below wr.heap.size wr wx := hx.1
              have hNx := hx1.size
              go_simp
              refine (hgr wx hx1).mono ?_
              rintro r wy ⟨A7, n7, c7, A8, n8, c8, A6, n6, c6, rfl, h1, h2, h3, h4, h5, hby⟩
              exact Reg.doneB (Option.some_ne_none _) ⟨_, _, rfl, ⟨A7, n7, c7, A8, n8, c8, rfl, h1, h2, h4.imp id (fun h p e => Nat.le_trans hNx (h p e)), h5.imp id (fun h p e => Nat.le_trans hNx (h p e))⟩, ⟨A6, n6, c6, rfl, h3⟩⟩ hby
            · refine Reg.oblL_ord (l := (Reg.Line.mk [7, 10] 9 (tabS wr.heap.size (grantR y k).1 P9 P10 n9 n10))) (by show 6 ∉ [7, 10] ∧ 6 ≠ 9; decide) (tab_next _ _ _ _ _ _ _ rfl) (fun k1 b1 a1 w1 v1 w2 h1 h2 => tabS_put (dst := (some 41)) (by show ((some 41) : Option Nat) ≠ some 10 ∧ ((some 41) : Option Nat) ≠ some 48; decide) h1 h2) ?_
              intro ax wx hx hs
              obtain ⟨e47, -⟩ := hs
              refine Reg.obl_freeL rfl ?_
              obtain ⟨y7, z7, e47', h1, h2⟩ := e47
              have g47 := Reg.ev e47'
              go_simp
              exact Reg.doneB (Option.some_ne_none _) ⟨y7, z7, rfl, h1, h2⟩ (bsame _)
            · refine Reg.oblL_line (l := (Reg.Line.mk [7, 10] 9 (tabS wr.heap.size (grantR y k).1 P9 P10 n9 n10))) (k := 0) rfl rfl (by show List.Nodup [7, 10]; decide) (by show 7 ≠ 9; decide) (by show 7 < 12; decide) (.inl rfl) ?_
              intro b ax wx hx hs has hwb hS
              obtain ⟨e41, -⟩ := hs
              obtain ⟨y7, z7, e41', h1, h2⟩ := e41
              unfold Oper.wp
              rw [Reg.run_ex (k := 0) (v := y7) rfl e41' rfl]
              exact ⟨⟨y7, rfl, (fun h => by cases h), trivial, (tabW wr.heap.size (grantR y k).1 P9 P10 n9 n10 (grantR y k).2).refl _⟩, tabS_ext hS (by rw [has]; show 48 < 56; decide) h1⟩
            · refine Reg.oblL_ord (l := (Reg.Line.mk [7, 10] 9 (tabS wr.heap.size (grantR y k).1 P9 P10 n9 n10))) (by show 8 ∉ [7, 10] ∧ 8 ≠ 9; decide) (tab_next _ _ _ _ _ _ _ rfl) (fun k1 b1 a1 w1 v1 w2 h1 h2 => tabS_put (dst := (some 49)) (by show ((some 49) : Option Nat) ≠ some 10 ∧ ((some 49) : Option Nat) ≠ some 48; decide) h1 h2) ?_
              intro ax wx hx hs
              obtain ⟨e41, -⟩ := hs
              refine Reg.obl_freeL rfl ?_
              obtain ⟨y7, z7, e41', h1, h2⟩ := e41
              exact Reg.wp_eqvB (c := z7) (Option.some_ne_none _) (Reg.run_ex rfl e41' rfl) h2
            · refine Reg.oblL_side (l := (Reg.Line.mk [7, 10] 9 (tabS wr.heap.size (grantR y k).1 P9 P10 n9 n10))) rfl rfl (by show 9 ∉ [7, 10]; decide) (by show 9 < 12; decide) ?_
              intro k ax wx hx hs has hS
              have hx1 : Below wr.heap.size wr wx := hx.1
              have hNx := hx1.size
              refine Oper.wp_mono (fun a' w' h => ?_) (Reg.al_box (Z := #[.slice none 0 0, .slice none 0 0]) rfl (by kernel_rfl))
              obtain ⟨ty, rfl, rfl⟩ := h
              exact ⟨⟨_, rfl, (fun h => by cases h), trivial, tab_next _ _ _ _ _ _ _ rfl _ _ hx (balloc (bsame _) _)⟩, tabS_alloc hS (by rw [has]; show 10 < 56; decide) hNx⟩
            · refine Reg.oblL_line (l := (Reg.Line.mk [7, 10] 9 (tabS wr.heap.size (grantR y k).1 P9 P10 n9 n10))) (k := 1) rfl rfl (by show List.Nodup [7, 10]; decide) (by show 10 ≠ 9; decide) (by show 10 < 12; decide) (.inr ⟨7, rfl, by kernel_rfl⟩) ?_
              intro b ax wx hx hs has hwb hS
              obtain ⟨e10, e48, -⟩ := hs
              obtain rfl := hwb (by kernel_rfl)
              obtain ⟨h0, A7, n7, c7, A8, n8, c8, e48, hE1, hE2, hf1, hf2⟩ := hS
              obtain ⟨g, P, p, q, P2, p2, q2, e10, hNg, hStr⟩ := h0 rfl
              unfold Oper.wp
              rw [Reg.run_st_box (cs := #[.slice A7 n7 c7, .slice A8 n8 c8]) rfl e10 e48 hStr rfl (by kernel_rfl) rfl]
              exact ⟨⟨undef, rfl, (fun _ => rfl), trivial, tab_store hNg hStr _⟩, rfl, g, _, _, _, _, _, _, e10, hNg, hStr.setRow, PT.away ⟨A7, n7, c7, A8, n8, c8, rfl, hE1, hE2, hf1, hf2⟩ hStr (grown_setRow _ _ _)⟩
            · refine Reg.oblL_ord (l := (Reg.Line.mk [7, 10] 9 (tabS wr.heap.size (grantR y k).1 P9 P10 n9 n10))) (by show 11 ∉ [7, 10] ∧ 11 ≠ 9; decide) (tab_next _ _ _ _ _ _ _ rfl) (fun k1 b1 a1 w1 v1 w2 h1 h2 => tabS_put (dst := (some 11)) (by show ((some 11) : Option Nat) ≠ some 10 ∧ ((some 11) : Option Nat) ≠ some 48; decide) h1 h2) ?_
              intro ax wx hx hs
              obtain ⟨e49, -⟩ := hs
              refine Reg.obl_freeL rfl ?_
              obtain ⟨A6, n6, c6, e49', h1⟩ := e49
              have g49 := Reg.ev e49'
              go_simp
              exact Reg.doneB (Option.some_ne_none _) ⟨A6, n6, c6, rfl, h1⟩ (bsame _)
          · intro W6 listed hwf hall
            simp only [Reg.Fin]
            rintro _ rfl _ rfl _ rfl _ rfl _ rfl v47 h47 v41 h41 v48 h48 v49 h49 v10 h10 vn10 hn10 v11 h11
            intro hJ
            obtain ⟨bL, hbL, hSL⟩ := Reg.line_end (l := (Reg.Line.mk [7, 10] 9 (tabS wr.heap.size (grantR y k).1 P9 P10 n9 n10))) (n := 12) hall (by show ∀ c ∈ [7, 10], c < 12; decide) hJ
            clear hJ hall hbL
            go_simp
            obtain ⟨-, g, P, p, q, P2, p2, q2, e10, hNg, hStr, hPT⟩ := hSL
            have ec10 : v10 = .pointer (some ⟨g, 0, none⟩) := by simpa [Act.eval, Act.put] using e10
            obtain ⟨A7, m7, c7, A8, m8, c8, eT, hE7, hE8, hf7, hf8⟩ := hPT
            obtain ⟨A6, n6, c6, rfl, hE6⟩ := h11
            have hwf' : Below wr.heap.size wr W6 := hwf.1
            subst ec10
            clear e10 h41 h47 h48 h49 h10 hwf
            cases eT
            have hst6 := HG.out.box.next hwf'
            have ht6 := HG.out.t.next hwf'
            have hr6 := HG.out.res.next hwf'
            have hb6 := bstep HG.out.ext hwf'
            have hk6 := HG.out.ks.below (hwf'.mono hNT)
            have hz6 := hwf'.size
            obtain ⟨W7, hW7⟩ : ∃ W, (W6.setCell ⟨w.heap.size, 0, none⟩ (.slice P p q)).setCell ⟨w.heap.size, 1, none⟩ (.slice P2 p2 q2) = W := ⟨_, rfl⟩
            have hg7 : W6.grownBy W7 (some w.heap.size) := by rw [← hW7]; exact (grown_set (grown_refl W6 _) 0 _).trans (grown_set (grown_refl _ _) 1 _)
            have hz7 := hg7.size
            have hst7 : Str W7 w.heap.size #[.slice P p q, .slice P2 p2 q2] := by rw [← hW7]; exact (hst6.set 0 _).set 1 _
            have hb7 : Below w.heap.size w W7 := by rw [← hW7]; exact Below.setCell (Below.setCell hb6 (Nat.le_refl _) _) (Nat.le_refl _) _
            have hr7 : Str W7 (w.heap.size + 1) #[.slice none 0 0, .slice none 0 0] := by rw [← hW7]; exact (hr6.other 0 _ (by omega)).other 1 _ (by omega)
            have hh7 := (elems_away h3_noSl h3E_pure hE7 (Nat.le_refl _) hst6 hg7).more hg7.size
            have hq7 := (elems_away h3_noSl h3E_pure hE8 (Nat.le_refl _) hst6 hg7).more hg7.size
            have hn7 := (elems_away int_noSl LockW.intE_pure hE6 (Nat.le_refl _) hst6 hg7).more hg7.size
            have ht7 := ht6.grownP LockW.intE_pure hg7 (fun a e => by have := ht6.ge a e; intro h; injection h with h; omega)
            have hk7 : Strs W7 W5.heap.size (some ⟨b, o, none⟩) keys.length ck keys := by rw [← hW7]; obtain ⟨Q0, r0, s0, Q1, r1, s1, hs2⟩ := str_box (A := P) (n := p) (c := q) (i := 0) (by omega) hst6; exact strs_box (strs_box hk6 (by omega) hst6) (by simp; omega) hs2
            have hlg := gR_len k y.w [] y.h
            have hmg := gR_modes k y.w [] y.h HG.out.m HG.out.mq
            have hl6 := hE6.len
            have hlt6 : (grantR y k).2.length + (grantR y k).1.w.length = y.w.length := by have := hlg.2; simp only [List.length_nil, Nat.zero_add] at this; exact this
            have hls6 : (grantR y k).1.h.length + (grantR y k).1.w.length = y.h.length + y.w.length := by have := hlg.1; simp only [List.length_nil, Nat.add_zero] at this; exact this
            obtain ⟨i0, hi0, z0, z1, z2⟩ := info_parts infoI
            obtain ⟨A3, c3, W8, happ, hO3, hb8, hg8, hA8⟩ := ht7.app (P := Tryd.prog) 32 32 i0 _ 8 Tryd.underlying32 hi0 z0 z1 z2 rfl (IntE.src hn7) (by unfold maxLen; omega) (by omega) (by omega)
            have hoff : ∀ a, AT = some a → W5.heap.size ≤ a.block ∧ a.block < wr.heap.size := fun a e => ⟨HG.out.t.ge a e, ownE_lt HG.out.t a e⟩
            have hown : ∀ z, (Value.slice AT 0 0).ownBlock = some z → ∃ a, AT = some a ∧ a.block = z := fun z e => by
              cases hAT : AT with
              | none => rw [hAT] at e; cases e
              | some a => rw [hAT] at e; injection e with e; exact ⟨a, rfl, e⟩
            have hoh : 0 < p → ∀ a v, AT = some a → P = some v → v.block ≠ a.block := fun hp a v ea ev => by
              rcases hf7 with e | e
              · exact HG.out.oh (by omega) a v ea (by rw [← e.1]; exact ev)
              · have h1 := e v ev
                have h2 := (hoff a ea).2
                omega
            have hoq : 0 < p2 → ∀ a v, AT = some a → P2 = some v → v.block ≠ a.block := fun hp a v ea ev => by
              rcases hf8 with e | e
              · exact HG.out.oq (by omega) a v ea (by rw [← e.1]; exact ev)
              · have h1 := e v ev
                have h2 := (hoff a ea).2
                omega
            have hCN : Cn w A A2 n i W5.heap.size ⟨x.h, without x.w u⟩ keys (grantR y k).1 r (told ++ (grantR y k).2) (some ⟨b, o, none⟩) P P2 A3 ck p q p2 q2 (nT + n6) c3 W8 := by
              have hlh7 := hE7.len
              have hlq7 := hE8.len
              refine ⟨hb7.trans (hb8.mono (by omega)), by have := hg8.size; omega, Reg.Str.by_ hst7 hg8 (fun e => ?_), Reg.Str.by_ hr7 hg8 (fun e => ?_), ?_, ?_, hk7.below hb8, hO3, hmg.1, hmg.2, by omega, by rw [List.length_append]; omega, ?_, ?_, ?_, HG.out.fh.trans hez hf7, HG.out.fq.trans hez hf8⟩
              · obtain ⟨a, ea, e2⟩ := hown _ e
                have := (hoff a ea).1
                omega
              · obtain ⟨a, ea, e2⟩ := hown _ e
                have := (hoff a ea).1
                omega
              · exact (elems_off hh7 (Nat.le_refl _) hg8 (fun h0 v ev e => by obtain ⟨a, ea, e2⟩ := hown _ e; exact hoh h0 a v ea ev e2.symm)).more hg8.size
              · exact (elems_off hq7 (Nat.le_refl _) hg8 (fun h0 v ev e => by obtain ⟨a, ea, e2⟩ := hown _ e; exact hoq h0 a v ea ev e2.symm)).more hg8.size
              · rw [HG.out.eq]
                show (_, told ++ ((grantR y k).2 ++ _)) = _
                rw [List.append_assoc]
                rfl
              · intro h0 a v ea ev
                rcases hA8 with e3 | ⟨a3, e3, e4⟩
                · exact hoh h0 a v (by rw [← e3, ea]) ev
                · have h1 := elems_lt hh7 h0 v ev
                  rw [e3] at ea
                  cases ea
                  omega
              · intro h0 a v ea ev
                rcases hA8 with e3 | ⟨a3, e3, e4⟩
                · exact hoq h0 a v (by rw [← e3, ea]) ev
                · have h1 := elems_lt hq7 h0 v ev
                  rw [e3] at ea
                  cases ea
                  omega
            have HCN8 := Lib.hid hCN
            have HPRE : Hid ((pre ++ [k]).length = i2 + 1) := Lib.hid (by rw [List.length_append, HI.out]; rfl)
            have HKP8 : Hid (keys = (pre ++ [k]) ++ r) := Lib.hid (by rw [HKP.out]; simp)
            have g6 := str2 hst6
            have gl6 := hst6.lt
            have gf6 := fun j => hst6.frozen j
            have g10 := str2 hStr
            have gl10 := hStr.lt
            clear hCN hoh hoq hown hoff hst7 hb7 hr7 hh7 hq7 hn7 ht7 hk7 hlg hmg hi0 z0 z1 z2 hO3 hb8 hg8 hA8 hE6 hE7 hE8 hf7 hf8 hst6 ht6 hr6 hb6 hk6 hg7 hwf' hgr hz7 hStr g1 gl1
            go_wp2_with fail
            go_roundw
            case rel => exact Lib.hid ⟨_, pre ++ [k], r, _, P, P2, A3, p, q, p2, q2, nT + n6, c3, i2 + 1, rfl, by go_num, HPRE.out, HKP8.out, HCN8.out⟩
            case measure => simp [intOf]; omega
set_option maxRecDepth 100000 in
set_option maxHeartbeats 4000000 in
theorem end_any (A A2 : Option Addr) (n c n2 c2 : Nat) (x : RT) (u : Int) (w : World) (hH : Elems H3E w w.heap.size A n c x.h) (hW : Elems H3E w w.heap.size A2 n2 c2 x.w) (hm : Modes3 x.h) (hmw : Modes3 x.w) (hk : ∀ e ∈ x.w, e.key.size ≤ 100) (hn : n + n2 ≤ 1000) :
    Calls Tryd.prog 16 #[.agg #[.slice A n c, .slice A2 n2 c2], .int .i64 u] w (GivesR w A A2 n n2 (endR x u)) := by
  obtain ⟨W1, hW1⟩ : ∃ W, (w.alloc (.cells #[.slice A n c, .slice A2 n2 c2] 43)).alloc (.cells #[.slice none 0 0, .slice none 0 0] 43) = W := ⟨_, rfl⟩
  have hb1 : Below w.heap.size w W1 := by rw [← hW1]; exact balloc (balloc (bsame _) _) _
  have hs1 : Str W1 w.heap.size #[.slice A n c, .slice A2 n2 c2] := by rw [← hW1]; exact (Str.new _ _ _).alloc _
  have hs4 : Str W1 (w.heap.size + 1) #[.slice none 0 0, .slice none 0 0] := by rw [← hW1]; have := Str.new (w.alloc (.cells #[.slice A n c, .slice A2 n2 c2] 43)) #[.slice none 0 0, .slice none 0 0] 43; simpa using this
  have HB1 := Lib.hid hb1
  have HS1 := Lib.hid hs1
  have HS4 := Lib.hid hs4
  have HH := Lib.hid (hH.next hb1)
  have HW := Lib.hid (hW.next hb1)
  have hlh := hH.len
  have hln := without_len x.h u
  have hz1 := hb1.size
  have hwo := without_any A n c x.h u W1 HH.out (by omega)
  have g1 := str2 hs1
  have gl1 := hs1.lt
  clear hH hW hb1 hs1 hs4
  go_enter Tryd.func16, Tryd.ntmps16
  go_wp2_with fail
  refine hwo.mono ?_
  rintro e9 W3 ⟨A5, n5, c5, rfl, hE5, hA5, hb3⟩
  have hl5 := hE5.len
  have hB0 := HB1.out.size
  have HA5 : Hid (∀ p, A5 = some p → w.heap.size ≤ p.block) := Lib.hid (fun p e => by have := hA5 p e; omega)
  clear hA5
  have hB := bstep HB1.out hb3
  have hSb := HS1.out.next hb3
  have hSr := HS4.out.next hb3
  have hW3 := HW.out.next hb3
  clear hwo g1 gl1 hW1
  have g1 := str2 hSb
  have gl1 := hSb.lt
  have gf1 := fun j => hSb.frozen j
  go_wp2_with fail
  obtain ⟨W4, hW4⟩ : ∃ W, W3.setCell ⟨w.heap.size, 0, none⟩ (.slice A5 n5 c5) = W := ⟨_, rfl⟩
  have hg4 : W3.grownBy W4 (some w.heap.size) := by rw [← hW4]; exact grown_set (grown_refl W3 _) 0 _
  have HB4 : Hid (Below w.heap.size w W4) := Lib.hid (by rw [← hW4]; exact Below.setCell hB (Nat.le_refl _) _)
  have hh4 : Elems H3E W4 W4.heap.size A5 n5 c5 (without x.h u) := (elems_away h3_noSl h3E_pure hE5 (Nat.le_refl _) hSb hg4).more hg4.size
  have hq4 : Elems H3E W4 W4.heap.size A2 n2 c2 x.w := (elems_away h3_noSl h3E_pure hW3 (Nat.le_refl _) hSb hg4).more hg4.size
  have HR4 : Hid (Str W4 (w.heap.size + 1) #[.slice none 0 0, .slice none 0 0]) := Lib.hid (by rw [← hW4]; exact hSr.other 0 _ (by omega))
  have hca := cancel_any A5 A2 n5 c5 n2 c2 ⟨without x.h u, x.w⟩ u W4 hh4 hq4 (without_modes hm u) hmw hk (by omega)
  rw [hW4]
  clear hW4 hg4 hh4 hq4 hB hSb hSr hW3 hE5 hb3 g1 gl1 gf1
  refine hca.mono ?_
  rintro e9 W5 ⟨A6, n6, c6, A7, n7, c7, A8, n8, c8, rfl, h1, h2, h3, hf1, hf2, hb5⟩
  have HFR : Hid (FrO w A n A6 n6 ∧ FrO w A2 n2 A7 n7) := Lib.hid ⟨FrO.trans (.inr HA5.out) HB4.out.size hf1, FrO.trans (.refl _ _ _) HB4.out.size hf2⟩
  clear hf1 hf2
  have HP := Lib.hid (And.intro h1 (And.intro h2 h3))
  have HB5 := Lib.hid (bstep HB4.out hb5)
  have HR5 := Lib.hid (HR4.out.next hb5)
  have g4 := str2 HR5.out
  have gl4 := HR5.out.lt
  have gf4 := fun j => HR5.out.frozen j
  clear h1 h2 h3 hb5 hca
  go_wp2_with fail
  refine bodyPost_ret (v := .tuple #[.agg #[.slice A6 n6 c6, .slice A7 n7 c7], .slice A8 n8 c8]) (by simp [results, Tryd.results16, go_sem, *]) rfl ?_
  obtain ⟨k1, k2, k3⟩ := fin_box (w := w) HR5.out HP.out.1 HP.out.2.1 HB5.out (by omega) rfl
  refine ⟨_, _, _, _, _, _, _, _, _, rfl, k1, k2, ?_, HFR.out.1, HFR.out.2, k3⟩
  have hg : W5.grownBy ((W5.setCell ⟨w.heap.size + 1, 0, none⟩ (.slice A6 n6 c6)).setCell ⟨w.heap.size + 1, 1, none⟩ (.slice A7 n7 c7)) (some (w.heap.size + 1)) := (grown_set (grown_refl W5 (w.heap.size + 1)) 0 (.slice A6 n6 c6)).trans (grown_set (grown_refl _ (w.heap.size + 1)) 1 (.slice A7 n7 c7))
  exact (elems_away int_noSl LockW.intE_pure HP.out.2.2 (Nat.le_refl _) HR5.out hg).more hg.size
end RefL
end Go.Proofs.YtkkfabnehhamdaaDoor
end
