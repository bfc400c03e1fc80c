/-
  Parts of the proof of LocksSteps.
-/
import Derived.Test.YtkkfabnehhamdaaDoorLkS15
import Derived.Test.YtkkfabnehhamdaaDoorLkS16
section
namespace Go.Proofs.YtkkfabnehhamdaaDoor
open Go.RowKit Go.Maps LockP ModesP
set_option linter.unusedVariables false
set_option linter.unusedSimpArgs false
namespace LockW
attribute [local go_sem] Oper.semAt_some
attribute [local go_sem ↓] app_fold
/-- nobody is waited for -/
theorem blocks_none (t N : Nat) (bs : List Nat) (X : St) (u : Int) (w : World) (h : Lk w t bs N X) (hu : In64 u) (hg : MapP.get X.goal u = none) : Calls Tryd.prog 11 #[.pointer (some ⟨t, 0, none⟩), .int .i64 u] w (GivesI (blocksP X u) w) := by
  have HB : Hid (blocksP X u = []) := Lib.hid (by unfold blocksP; rw [hg])
  obtain ⟨W1, hW1⟩ : ∃ W, (w.alloc (.cells #[.pointer (some ⟨t, 0, none⟩)] 25)).alloc (.cells #[.int .i64 u] 3) = W := ⟨_, rfl⟩
  have hb1 : Below w.heap.size w W1 := by rw [← hW1]; exact balloc (balloc (bsame w) _) _
  have hw := waits_any t N bs X u W1 (h.next hb1) hu
  have hh : MapP.has X.goal u = false := by rw [MapP.has_get, hg]; rfl
  rw [hh, hg] at hw
  have HB1 := Lib.hid hb1
  have hs0 : Str W1 w.heap.size #[.pointer (some ⟨t, 0, none⟩)] := by rw [← hW1]; exact (Str.new w _ _).alloc _
  have hs1 : Str W1 (w.heap.size + 1) #[.int .i64 u] := by rw [← hW1]; have := Str.new (w.alloc (.cells #[.pointer (some ⟨t, 0, none⟩)] 25)) #[.int .i64 u] 3; simpa using this
  have f0 := str1 hs0
  have f1 := str1 hs1
  have l0 := hs0.lt
  have l1 := hs1.lt
  clear h hg hh hb1 hs0 hs1
  go_enter Tryd.func11, Tryd.ntmps11
  go_wp2_with fail
  refine hw.mono ?_
  rintro e W2 ⟨rfl, hb2⟩
  have HB2 := Lib.hid (bstep HB1.out hb2)
  clear hb2 hw
  go_wp2_with fail
  go_ret
  refine ⟨none, 0, 0, rfl, by rw [HB.out]; exact OwnE.none_ _ _ _ _, ?_⟩
  exact balloc (balloc HB2.out _) _
/-- who waits, waits for one that holds -/
theorem own_some {X : St} {u : Int} {k : ByteArray} {m : Int} (h : LockP.Good X) (hg : MapP.get X.goal u = some (k, m)) : X.own k ≠ [] := by
  intro he
  have hin := (h.1.rows k u m).2 hg
  cases hr : X.row k with
  | nil => rw [hr] at hin; cases hin
  | cons p r =>
    have hsh := h.2 k [] p.1 p.2 r (by rw [hr]; rfl)
    have hp := h.1.modes k p (by rw [hr]; simp)
    rcases may_false hsh with ⟨-, hf⟩ | ⟨q, hq, -⟩
    · rw [show aheadOf 0 ([] : Row) = 0 from rfl, fits_zero p.2 hp.1 hp.2] at hf
      cases hf
    · rw [he] at hq; cases hq
/-- the boxes of Blocks -/
structure BlB (w : World) (t : Nat) (u : Int) (k : ByteArray) (m : Int) (c : Nat) (V : World) : Prop where
  tb : Str V w.heap.size #[.pointer (some ⟨t, 0, none⟩)]
  ub : Str V (w.heap.size + 1) #[.int .i64 u]
  kb : Str V c #[.string k]
  mb : Str V (c + 1) #[.int .i64 m]
section
variable {w V V' : World} {t c : Nat} {u m : Int} {k : ByteArray}
theorem BlB.next (h : BlB w t u k m c V) (hb : Below V.heap.size V V') : BlB w t u k m c V' := ⟨h.tb.next hb, h.ub.next hb, h.kb.next hb, h.mb.next hb⟩
theorem BlB.grown (h : BlB w t u k m c V) {ob : Option Nat} (hg : V.grownBy V' ob) (hn : ∀ r, ob = some r → c + 1 < r) (hc : w.heap.size + 1 < c) : BlB w t u k m c V' :=
  ⟨h.tb.grownO hg (fun e => by have := hn _ e; omega), h.ub.grownO hg (fun e => by have := hn _ e; omega), h.kb.grownO hg (fun e => by have := hn _ e; omega), h.mb.grownO hg (fun e => by have := hn _ e; omega)⟩
end
/-- between two rounds over those that hold -/
structure B1I (w : World) (t : Nat) (u : Int) (k : ByteArray) (m : Int) (c b r N : Nat) (X : St) (left : Lit → Bool) (cnt : Nat) (wr : World) : Prop where
  rg : wr.ranges Tryd.prog TI (MapP.rdE numM) b r N (MapP.dat intK (X.own k)) left cnt
  bx : BlB w t u k m c wr
  lk : ∃ A n c' os, Str wr (c + 1 + 1) #[.slice A n c'] ∧ OwnE IntE 3 wr (r + 1) A n c' os ∧ n + cnt ≤ (X.own k).length ∧ (∀ x ∈ os, x ∈ outs1 X u k m) ∧ ∀ p ∈ X.own k, left (intK.lit p.1) = false → p.1 ≠ u → fitsM p.2 m = false → p.1 ∈ os
  bl : Below w.heap.size w wr
  z : r + 1 ≤ wr.heap.size
theorem mem_outs1 {X : St} {u : Int} {k : ByteArray} {m : Int} {x : Int} : x ∈ outs1 X u k m ↔ ∃ p ∈ X.own k, p.1 = x ∧ p.1 ≠ u ∧ fitsM p.2 m = false := by
  unfold outs1
  rw [List.mem_map]
  constructor
  · rintro ⟨p, hp, e⟩
    obtain ⟨h1, h2⟩ := List.mem_filter.1 hp
    simp at h2
    exact ⟨p, h1, e, h2.1, h2.2⟩
  · rintro ⟨p, hp, e, h1, h2⟩
    exact ⟨p, List.mem_filter.2 ⟨hp, by simp [h1, h2]⟩, e⟩
/-- one that is none of them -/
theorem B1I.pass {w wr w1 : World} {t c b r N cnt cnt1 : Nat} {u m : Int} {k : ByteArray} {X : St} {left left' : Lit → Bool} {x v : Int} (h : B1I w t u k m c b r N X left cnt wr) (hnd : MapP.Nd (X.own k)) (hx : MapP.get (X.own k) x = some v) (hno : x = u ∨ fitsM v m = true)
    (hrg : w1.ranges Tryd.prog TI (MapP.rdE numM) b r N (MapP.dat intK (X.own k)) left' cnt1) (hl : ∀ y, left' (intK.lit y) = false → left (intK.lit y) = false ∨ y = x) (hc : cnt1 < cnt) (hg : wr.grownBy w1 (some r)) (hcr : c + 1 + 1 < r) (hwc : w.heap.size + 1 < c) : B1I w t u k m c b r N X left' cnt1 w1 := by
  obtain ⟨A, n, c', os, h1, h2, h3, h4, h5⟩ := h.lk
  refine ⟨hrg, h.bx.grown hg (fun j e => by cases e; omega) hwc, ⟨A, n, c', os, h1.grownO hg (fun e => by injection e; omega), IntE.grown h2 hg (by omega), by omega, h4, fun p hp hlp hpu hpf => ?_⟩, below_grown h.bl hg (by omega), by have := hg.size; have := h.z; omega⟩
  rcases hl _ hlp with hl | e
  · exact h5 p hp hl hpu hpf
  · have h6 := MapP.get_of hnd (k := p.1) (v := p.2) hp
    rw [e, hx] at h6
    injection h6 with h6
    rcases hno with h7 | h7
    · exact absurd (e.trans h7) hpu
    · rw [← h6, h7] at hpf; cases hpf
/-- one that is -/
theorem B1I.more {w wr w1 w2 w3 : World} {t c b r N cnt cnt1 n c' c3 : Nat} {u m : Int} {k : ByteArray} {X : St} {left left' : Lit → Bool} {x v : Int} {A A3 : Option Addr} {os : List Int} (h : B1I w t u k m c b r N X left cnt wr) (hnd : MapP.Nd (X.own k)) (hx : MapP.get (X.own k) x = some v) (hxu : x ≠ u) (hf : fitsM v m = false)
    (h1 : Str wr (c + 1 + 1) #[.slice A n c']) (h2 : OwnE IntE 3 wr (r + 1) A n c' os) (h3 : n + cnt ≤ (X.own k).length) (h4 : ∀ x ∈ os, x ∈ outs1 X u k m) (h5 : ∀ p ∈ X.own k, left (intK.lit p.1) = false → p.1 ≠ u → fitsM p.2 m = false → p.1 ∈ os)
    (hrg : w1.ranges Tryd.prog TI (MapP.rdE numM) b r N (MapP.dat intK (X.own k)) left' cnt1) (hl : ∀ y, left' (intK.lit y) = false → left (intK.lit y) = false ∨ y = x) (hc : cnt1 < cnt) (hg : wr.grownBy w1 (some r)) (hcr : c + 1 + 1 < r) (hwc : w.heap.size + 1 < c) (hbr : b ≤ r)
    (hb2 : Below w1.heap.size w1 w2) (hg3 : w2.grownBy w3 ((Value.slice A 0 0).ownBlock)) (hO3 : OwnE IntE 3 w3 (r + 1) A3 (n + 1) c3 (os ++ [x])) (hbc : b ≠ c + 1 + 1) :
    B1I w t u k m c b r N X left' cnt1 (w3.setCell ⟨c + 1 + 1, 0, none⟩ (.slice A3 (n + 1) c3)) := by
  have hz := h.z
  have s1 := hg.size
  have s2 := hb2.size
  have s3 := hg3.size
  have hob : ∀ j, (Value.slice A 0 0).ownBlock = some j → r + 1 ≤ j := fun j e => by
    obtain ⟨a, ea, eb⟩ := ownBlock_some e
    rw [← eb]; exact h2.ge a ea
  have hg4 : w3.grownBy (w3.setCell ⟨c + 1 + 1, 0, none⟩ (.slice A3 (n + 1) c3)) (some (c + 1 + 1)) := grown_set (grown_refl w3 _) 0 _
  have hs3 : Str w3 (c + 1 + 1) #[.slice A n c'] := ((h1.grownO hg (fun e => by injection e; omega)).next hb2).grownO hg3 (fun e => by have := hob _ e; omega)
  refine ⟨(((hrg.kept (grown_below hb2 none) (by simp) (by simp)).kept hg3 (fun e => by have := hob _ e.symm; omega) (fun e => by have := hob _ e.symm; omega)).kept hg4 (fun e => hbc (by injection e)) (fun e => by injection e; omega)), ?_, ⟨A3, n + 1, c3, os ++ [x], by simpa using hs3.set 0 (.slice A3 (n + 1) c3), IntE.grown hO3 hg4 (by omega), by omega, fun y hy => ?_, fun p hp hlp hpu hpf => ?_⟩, ?_, by have := hg4.size; omega⟩
  · have b3 := ((h.bx.grown hg (fun j e => by cases e; omega) hwc).next hb2).grown hg3 (fun j e => by have := hob _ e; omega) hwc
    exact b3.grown hg4 (fun j e => by cases e; omega) hwc
  · rcases List.mem_append.1 hy with hy | hy
    · exact h4 y hy
    · rw [List.mem_singleton] at hy
      rw [hy]
      exact mem_outs1.2 ⟨(x, v), MapP.get_mem hx, rfl, hxu, hf⟩
  · rcases hl _ hlp with hl | e
    · exact List.mem_append_left _ (h5 p hp hl hpu hpf)
    · exact List.mem_append_right _ (by rw [e]; simp)
  · have hbw := h.bl.size
    exact below_grown (below_grownO (bstep (below_grown h.bl hg (by omega)) hb2) hg3 (by omega) (fun j e => by have := hob _ e; omega)) hg4 (by omega)
/-- All's answer, in a region that draws its order -/
def allS (N : Nat) (o : Option Addr) : SP ext := ⟨fun v w => ∃ bx, v = .func (.func 52) #[] #[.pointer (some ⟨bx, 0, none⟩)] ∧ N ≤ bx ∧ Str w bx #[.pointer o], fun v w w' hb h => by
  obtain ⟨bx, e, h1, h2⟩ := h
  exact ⟨bx, e, h1, h2.next hb⟩⟩
theorem BlB.grownN {w V V' : World} {t c : Nat} {u m : Int} {k : ByteArray} (h : BlB w t u k m c V) {row : Option Nat} (hg : V.grownBy V' row) (hr : ∀ r, row = some r → ∃ o : Obj, V.heap[r]? = some o ∧ o.isCells = false) : BlB w t u k m c V' :=
  ⟨h.tb.grownN hg hr, h.ub.grownN hg hr, h.kb.grownN hg hr, h.mb.grownN hg hr⟩
/-- between two rounds over those ahead -/
structure B2I (w : World) (t : Nat) (u : Int) (k : ByteArray) (m : Int) (c base M : Nat) (X : St) (os1 : List Int) {l : Row} (pre : List (In l)) (W : World) : Prop where
  bx : BlB w t u k m c W
  lk : ∃ A n c', Str W (c + 1 + 1) #[.slice A n c'] ∧ OwnE IntE 3 W base A n c' (os1 ++ outsOf (pre.map (·.1.1)) m) ∧ n ≤ 1000000 + pre.length
  ne : ∀ p ∈ pre.map (·.1.1), p.1 ≠ u
  st : pre ≠ [] → LockP.set X k u = 0
  bl : Below w.heap.size w W
  z : base ≤ M ∧ M ≤ W.heap.size
theorem b2I_own {w : World} {t : Nat} {u : Int} {k : ByteArray} {m : Int} {c base M B : Nat} {X : St} {os1 : List Int} {l : Row} (hB : w.heap.size ≤ B) : OwnFrom B (B2I w t u k m c base M X os1 (l := l)) := fun s V Y row h hg hr => by
  have hr' : ∀ r, row = some r → ∃ o : Obj, V.heap[r]? = some o ∧ o.isCells = false := fun r e => (hr r e).2
  obtain ⟨A, n, c', h1, h2, h3⟩ := h.lk
  exact ⟨h.bx.grownN hg hr', ⟨A, n, c', h1.grownN hg hr', own_grownN intE_pure h2 hg (fun r e => .inl (hr' r e)), h3⟩, h.ne, h.st, h.bl.grown hg h.bl.size (fun j e => Nat.le_trans hB (hr j e).1), h.z.1, Nat.le_trans h.z.2 hg.size⟩
theorem B2I.next {w W W' : World} {t : Nat} {u : Int} {k : ByteArray} {m : Int} {c base M : Nat} {X : St} {os1 : List Int} {l : Row} {pre : List (In l)} (h : B2I w t u k m c base M X os1 pre W) (hb : Below W.heap.size W W') : B2I w t u k m c base M X os1 pre W' := by
  obtain ⟨A, n, c', h1, h2, h3⟩ := h.lk
  exact ⟨h.bx.next hb, ⟨A, n, c', h1.next hb, h2.next hb, h3⟩, h.ne, h.st, bstep h.bl hb, h.z.1, Nat.le_trans h.z.2 hb.size⟩
/-- a break -/
def B2X (ID : Nat) (w : World) (t : Nat) (u : Int) (k : ByteArray) (m : Int) (c base M : Nat) (X : St) (os1 : List Int) {l : Row} (cd : Code) (pre : List (In l)) (W : World) : Prop :=
  cd = .exit ID ∧ ∃ pre0 x, pre = pre0 ++ [x] ∧ (x.1.1.1 = u ∨ LockP.set X k u ≠ 0) ∧ B2I w t u k m c base M X os1 pre0 W
theorem b2X_own {ID : Nat} {w : World} {t : Nat} {u : Int} {k : ByteArray} {m : Int} {c base M B : Nat} {X : St} {os1 : List Int} {l : Row} {cd : Code} (hB : w.heap.size ≤ B) : OwnFrom B (B2X ID w t u k m c base M X os1 (l := l) cd) := fun s V Y row h hg hr => by
  obtain ⟨h1, p, x, h2, h3, h4⟩ := h
  exact ⟨h1, p, x, h2, h3, b2I_own hB p V Y row h4 hg hr⟩
/-- one more: a round -/
theorem B2I.more {w W W5 W6 : World} {t : Nat} {u : Int} {k : ByteArray} {m : Int} {c base M n c' c3 : Nat} {X : St} {os1 : List Int} {l : Row} {pre : List (In l)} {x : In l} {A A3 : Option Addr} (h : B2I w t u k m c base M X os1 pre W) (hx : x.1.1.1 ≠ u) (hs : LockP.set X k u = 0) (hcm : compat x.1.1.2 m = false) (hwc : w.heap.size + 1 < c) (hcb : c + 1 + 1 < base) (hcm : compat x.1.1.2 m = false)
    (h1 : Str W (c + 1 + 1) #[.slice A n c']) (h2 : OwnE IntE 3 W base A n c' (os1 ++ outsOf (pre.map (·.1.1)) m)) (h3 : n ≤ 1000000 + pre.length) (hb5 : Below W.heap.size W W5) (hg6 : W5.grownBy W6 ((Value.slice A 0 0).ownBlock)) (hO6 : OwnE IntE 3 W6 base A3 (n + 1) c3 ((os1 ++ outsOf (pre.map (·.1.1)) m) ++ [x.1.1.1])) {B : Nat} {bs : List Nat} (hbs : ∀ b ∈ bs, b < w.heap.size) (hcB : c + 1 + 1 < B) :
    KeepsFrom B W (W6.setCell ⟨c + 1 + 1, 0, none⟩ (.slice A3 (n + 1) c3)) ∧ KpL bs W (W6.setCell ⟨c + 1 + 1, 0, none⟩ (.slice A3 (n + 1) c3)) ∧ B2I w t u k m c base M X os1 (pre ++ [x]) (W6.setCell ⟨c + 1 + 1, 0, none⟩ (.slice A3 (n + 1) c3)) := by
  have s0 := h.bl.size
  have s5 := hb5.size
  have s6 := hg6.size
  have hz := h.z
  have hob : ∀ j, (Value.slice A 0 0).ownBlock = some j → base ≤ j ∧ ∃ cur, W5.heap[j]? = some (.cells cur 3 (0, 0)) := fun j e => by
    obtain ⟨a, ea, eb⟩ := ownBlock_some e
    subst ea
    obtain ⟨cur, hc⟩ := ownE_cells (h2.next hb5)
    rw [← eb]
    exact ⟨h2.ge a rfl, cur, hc⟩
  have hg : W6.grownBy (W6.setCell ⟨c + 1 + 1, 0, none⟩ (.slice A3 (n + 1) c3)) (some (c + 1 + 1)) := grown_set (grown_refl W6 _) 0 _
  have hs6 : Str W6 (c + 1 + 1) #[.slice A n c'] := (h1.next hb5).grownO hg6 (fun e => by have := (hob _ e).1; omega)
  have hk6 : KeepsFrom B W W6 := (KeepsFrom.of_grownBy (row := none) (grown_below hb5 none) (fun j e => by cases e)).trans (keepsFrom_own hg6 (fun j e => .inr (by obtain ⟨-, cur, hc⟩ := hob j e; exact ⟨_, hc, rfl⟩)))
  refine ⟨hk6.trans (KeepsFrom.of_grownBy hg (fun j e => by cases e; omega)), fun b hm => ?_, ?_⟩
  · have := hbs b hm
    exact ((hg.block b (by omega) (fun e => by injection e; omega)).trans (hg6.block b (by omega) (fun e => by have := (hob _ e.symm).1; omega))).trans (hb5.block b (by omega))
  · have hgn : ∀ j, (Value.slice A 0 0).ownBlock = some j → c + 1 < j := fun j e => by have := (hob j e).1; omega
    refine ⟨(((h.bx.next hb5).grown hg6 hgn hwc).grown hg (fun j e => by cases e; omega) hwc), ⟨A3, n + 1, c3, by simpa using hs6.set 0 (.slice A3 (n + 1) c3), ?_, by simp; omega⟩, fun p hp => ?_, fun _ => hs, below_grown (below_grownO (bstep h.bl hb5) hg6 (by omega) (fun j e => by have := (hob j e).1; omega)) hg (by omega), hz.1, by have := hg.size; omega⟩
    · rw [List.map_append, List.map_cons, List.map_nil, outsOf_snoc, if_neg (by rw [hcm]; decide), ← List.append_assoc]
      exact own_grownN intE_pure hO6 hg (fun r e => .inr (fun a ea e2 => by have := hO6.ge a ea; cases e; omega))
    · rw [List.map_append, List.map_cons, List.map_nil] at hp
      rcases List.mem_append.1 hp with hp | hp
      · exact h.ne p hp
      · rw [List.mem_singleton] at hp; rw [hp]; exact hx
/-- one more that goes with it -/
theorem B2I.pass {w W W5 : World} {t : Nat} {u : Int} {k : ByteArray} {m : Int} {c base M : Nat} {X : St} {os1 : List Int} {l : Row} {pre : List (In l)} {x : In l} (h : B2I w t u k m c base M X os1 pre W) (hx : x.1.1.1 ≠ u) (hs : LockP.set X k u = 0) (hcm : compat x.1.1.2 m = true) (hb5 : Below W.heap.size W W5) {B : Nat} {bs : List Nat} (hbs : ∀ b ∈ bs, b < w.heap.size) :
    KeepsFrom B W W5 ∧ KpL bs W W5 ∧ B2I w t u k m c base M X os1 (pre ++ [x]) W5 := by
  have s0 := h.bl.size
  obtain ⟨A, n, c', h1, h2, h3⟩ := h.lk
  refine ⟨KeepsFrom.of_grownBy (row := none) (grown_below hb5 none) (fun j e => by cases e), fun b hm => hb5.block b (by have := hbs b hm; omega), h.bx.next hb5, ⟨A, n, c', h1.next hb5, ?_, by simp; omega⟩, fun p hp => ?_, fun _ => hs, bstep h.bl hb5, h.z.1, Nat.le_trans h.z.2 hb5.size⟩
  · rw [List.map_append, List.map_cons, List.map_nil, outsOf_snoc, if_pos hcm, List.append_nil]
    exact h2.next hb5
  · rw [List.map_append, List.map_cons, List.map_nil] at hp
    rcases List.mem_append.1 hp with hp | hp
    · exact h.ne p hp
    · rw [List.mem_singleton] at hp; rw [hp]; exact hx
set_option maxRecDepth 100000 in
set_option maxHeartbeats 8000000 in
theorem blocks_some (t N : Nat) (bs : List Nat) (X : St) (u : Int) (k : ByteArray) (m : Int) (w : World) (h : Lk w t bs N X) (hgd : LockP.Good X) (hf : LockP.Fit X) (hT : Modes.Tab w) (hu : In64 u) (hg : MapP.get X.goal u = some (k, m)) (hN : N ≤ 1000000) : Calls Tryd.prog 11 #[.pointer (some ⟨t, 0, none⟩), .int .i64 u] w (GivesI (blocksP X u) w) := by
  have hown : X.own k ≠ [] := own_some hgd hg
  have HBP : Hid (blocksP X u = SortI.sort (outs1 X u k m ++ outs2 X u k m)) := Lib.hid (by unfold blocksP; rw [hg])
  obtain ⟨-, hk, hm0, hm1⟩ : In64 u ∧ k.size ≤ 100 ∧ 0 ≤ m ∧ m < 4 := hf.goal _ (MapP.get_mem hg)
  obtain ⟨W1, hW1⟩ : ∃ W, (w.alloc (.cells #[.pointer (some ⟨t, 0, none⟩)] 25)).alloc (.cells #[.int .i64 u] 3) = W := ⟨_, rfl⟩
  have hb1 : Below w.heap.size w W1 := by rw [← hW1]; exact balloc (balloc (bsame w) _) _
  have hz1 : W1.heap.size = w.heap.size + 1 + 1 := by rw [← hW1]; simp
  have hs0 : Str W1 w.heap.size #[.pointer (some ⟨t, 0, none⟩)] := by rw [← hW1]; exact (Str.new w _ _).alloc _
  have hs1 : Str W1 (w.heap.size + 1) #[.int .i64 u] := by rw [← hW1]; have := Str.new (w.alloc (.cells #[.pointer (some ⟨t, 0, none⟩)] 25)) #[.int .i64 u] 3; simpa using this
  have f0 := str1 hs0
  have f1 := str1 hs1
  have l0 := hs0.lt
  have l1 := hs1.lt
  have hw := waits_any t N bs X u W1 (h.next hb1) hu
  have hh : MapP.has X.goal u = true := by rw [MapP.has_get, hg]; rfl
  rw [hh, hg] at hw
  have HL := Lib.hid h
  have HGD := Lib.hid hgd
  have HF := Lib.hid hf
  have HT := Lib.hid hT
  have HB1 := Lib.hid hb1
  have HS0 := Lib.hid hs0
  have HS1 := Lib.hid hs1
  have HZ1 := Lib.hid hz1
  clear h hg hh hb1 hgd hf hT hs0 hs1 hz1
  refine (callsIn_wide (n := 5)).1 ?_
  refine callsIn_of_wp_marks Tryd.func11 rfl trivial ?_ rfl
  simp only [Tryd.ntmps11, List.size_toArray, List.length_cons, List.length_nil, Nat.reduceAdd, Nat.reduceSub, Array.replicate_succ, Array.replicate_zero, List.push_toArray, List.append_toArray, List.nil_append, List.cons_append]
  gi_wp2_with fail
  refine ⟨trivial, ?_⟩
  refine (callsIn_wide.2 hw).mono ?_
  rintro e W2 ⟨rfl, hb2⟩
  have HB2 := Lib.hid (bstep HB1.out hb2)
  have HA2 := Lib.hid (HS0.out.next hb2)
  have HC2 := Lib.hid (HS1.out.next hb2)
  have hz2 := hb2.size
  clear hb2 hw hW1 f0 f1 l0 l1
  gi_wp2_with fail
  obtain ⟨W3, hW3⟩ : ∃ W, ((W2.alloc (.cells #[.string k] 9)).alloc (.cells #[.int .i64 m] 3)).alloc (.cells #[.slice none 0 0] 32) = W := ⟨_, rfl⟩
  rw [hW3]
  have hb3 : Below W2.heap.size W2 W3 := by rw [← hW3]; exact balloc (balloc (balloc (bsame _) _) _) _
  have hz3 : W3.heap.size = W2.heap.size + 1 + 1 + 1 := by rw [← hW3]; simp
  have HK3 : Hid (Str W3 W2.heap.size #[.string k]) := Lib.hid (by rw [← hW3]; exact ((Str.new W2 _ _).alloc _).alloc _)
  have HM3 : Hid (Str W3 (W2.heap.size + 1) #[.int .i64 m]) := Lib.hid (by rw [← hW3]; have := (Str.new (W2.alloc (.cells #[.string k] 9)) #[.int .i64 m] 3).alloc (.cells #[.slice none 0 0] 32); simpa using this)
  have HO3 : Hid (Str W3 (W2.heap.size + 1 + 1) #[.slice none 0 0]) := Lib.hid (by rw [← hW3]; have := Str.new ((W2.alloc (.cells #[.string k] 9)).alloc (.cells #[.int .i64 m] 3)) #[.slice none 0 0] 32; simpa using this)
  have HB3 := Lib.hid (bstep HB2.out hb3)
  have HX3 : Hid (BlB w t u k m W2.heap.size W3) := Lib.hid ⟨HA2.out.next hb3, HC2.out.next hb3, HK3.out, HM3.out⟩
  have hzz := HZ1.out
  clear hW3 hb3 HK3 HM3 HA2 HC2 HB2
  obtain ⟨lab, b1, b2, b3, b4, es1, es2, es3, hI0⟩ := HL.out
  have hI3 := hI0.next HB3.out
  cases hg1 : MapP.get es1 k with
  | none => exact absurd (hI3.n1 k hg1) hown
  | some o =>
  obtain ⟨b, eo, -, hbm, hM⟩ := hI3.e1 k o hg1
  subst eo
  have HG1 := Lib.hid hg1
  have HI3 := Lib.hid hI3
  have HMO := Lib.hid hM
  have hbl : b < w.heap.size := hI0.lo b hbm
  have HI0 := Lib.hid hI0
  clear hg1 hI3 hM hbm hI0
  refine wpIn_wide.2 ?_
  refine Reg.wp_region_tail (R := ext) (W := W3) [Reg.eqv (.pointer (some ⟨t, 0, none⟩)), Reg.eqv (.pointer (some ⟨t, 0, none⟩)), Reg.eqv (.pointer (some ⟨t, 0, none⟩)), Reg.eqv (.map (some b1)), Reg.eqv (.string k), Reg.eqv (.map (some b))] 85 6 _ [[(2, none)], [(22, some 0)], [(23, some 1)], [(24, some 2)], [(5, none)], [(25, some 3), (26, some 4)]] rfl (by kernel_rfl) (by kernel_rfl) (by rfl) (by rfl) rfl (by kernel_rfl) ?_ [some 22, some 23, some 24, some 25, some 26, some 27] (by kernel_rfl) ?_
  · refine ⟨?_, ?_, ?_, ?_, ?_, ?_, trivial⟩
    · intro ax wx hx hs
      obtain ⟨e2, -⟩ := hs
      have g2 := Reg.ev (v := .pointer (some ⟨w.heap.size, 0, none⟩)) e2
      have l0 := str4 (HI3.out.next hx).box
      have l1 := (HX3.out.next hx).tb.cell 0
      have l2 := (HX3.out.next hx).kb.cell 0
      exact Reg.obl_free rfl (Reg.wp_eqv (Option.some_ne_none _) (by go_simp) rfl)
    · intro ax wx hx hs
      obtain ⟨e22, -⟩ := hs
      have g22 := Reg.ev (v := .pointer (some ⟨t, 0, none⟩)) e22
      exact Reg.obl_free rfl (Reg.wp_eqv (Option.some_ne_none _) (by go_simp) rfl)
    · intro ax wx hx hs
      obtain ⟨e23, -⟩ := hs
      have g23 := Reg.ev (v := .pointer (some ⟨t, 0, none⟩)) e23
      exact Reg.obl_free rfl (Reg.wp_eqv (Option.some_ne_none _) (by go_simp) rfl)
    · intro ax wx hx hs
      obtain ⟨e24, -⟩ := hs
      have g24 := Reg.ev (v := .pointer (some ⟨t, 0, none⟩)) e24
      have l0 := str4 (HI3.out.next hx).box
      have l1 := (HX3.out.next hx).tb.cell 0
      have l2 := (HX3.out.next hx).kb.cell 0
      exact Reg.obl_free rfl (Reg.wp_eqv (Option.some_ne_none _) (by go_simp) rfl)
    · intro ax wx hx hs
      obtain ⟨e5, -⟩ := hs
      have g5 := Reg.ev (v := .pointer (some ⟨W2.heap.size, 0, none⟩)) e5
      have l0 := str4 (HI3.out.next hx).box
      have l1 := (HX3.out.next hx).tb.cell 0
      have l2 := (HX3.out.next hx).kb.cell 0
      exact Reg.obl_free rfl (Reg.wp_eqv (Option.some_ne_none _) (by go_simp) rfl)
    · intro ax wx hx hs
      obtain ⟨e25, e26, -⟩ := hs
      have g25 := Reg.ev (v := .map (some b1)) e25
      have g26 := Reg.ev (v := .string k) e26
      refine Reg.obl_free rfl ?_
      have e1 : (Instr.lookup 65 (.map (some b1)) (.string k) false).run Tryd.prog wx = .ok (.map (some b)) wx := by have h := (HI3.out.next hx).look1 hk; rwa [HG1.out] at h
      exact Reg.wp_eqv (Option.some_ne_none _) (by go_simp) rfl
  · intro WR hwf
    simp only [Reg.Fin]
    rintro _ rfl _ rfl _ rfl _ rfl _ rfl _ rfl
    have HXR := Lib.hid (HX3.out.next hwf)
    have HOR := Lib.hid (HO3.out.next hwf)
    have HBR := Lib.hid (bstep HB3.out hwf)
    have hzr := hwf.size
    obtain ⟨W4, hr4, hrg4, hg4, hs4⟩ := (HMO.out.at_ (hwf.block b HMO.out.lt)).own.range lawI Tryd.underlying74
    have HB4 : Hid (Below WR.heap.size WR W4) := Lib.hid ⟨hg4.os, hg4.tape, hg4.output, hg4.size, fun j hj => hg4.block j hj nofun⟩
    have HI1 : Hid (B1I w t u k m W2.heap.size b WR.heap.size N X _ _ W4) := Lib.hid ⟨hrg4, HXR.out.next HB4.out, ⟨none, 0, 0, [], HOR.out.next HB4.out, OwnE.none_ _ _ _ _, by rw [MapP.size_dat]; omega, (fun x hx => by cases hx), fun p hp hl => by rw [MapP.has_dat, MapP.has_false] at hl; exact absurd rfl (hl p hp)⟩, bstep HBR.out HB4.out, by omega⟩
    clear hwf hrg4 hg4
    refine Reg.Goal.mk ?_
    go_simp
    gi_wp2_with fail
    have hrs : W4.heap.size = WR.heap.size + 1 := hs4
    clear hr4 hs4
    refine wpIn_wide.2 ?_
    go_loopw [9] (fun _ wr => ∃ (left : Lit → Bool) (cnt : Nat), Hid (B1I w t u k m W2.heap.size b WR.heap.size N X left cnt wr)) (fun _ wr => wr.rangeLeft b WR.heap.size)
    case atStart => exact ⟨_, _, HI1⟩
    case round =>
      clear HI1
      obtain ⟨left, cnt, HK⟩ := hrel
      go_wp2_with (first
        | (at_next; refine wpList_next_ranges _ rfl _ rfl TI lawI (MapP.rdE numM) (fun x : Int => Value.int .i64 x) (fun x : Int => Value.int .i64 x) (fun key kl hk => keyI_inv hk) (fun v y hv => numM_inv hv) b WR.heap.size N _ _ _ rfl HK.out.rg ?_ ?_)
        | go_in)
      · intro _ hl0
        obtain ⟨A, n, c', os1, k1, k2, k3, k4, k5⟩ := HK.out.lk
        have HMEM : Hid (∀ x, x ∈ os1 ↔ x ∈ outs1 X u k m) := Lib.hid (fun x => ⟨k4 x, fun hx => by
          obtain ⟨p, hp, e, h1, h2⟩ := mem_outs1.1 hx
          rw [← e]; exact k5 p hp (hl0 _) h1 h2⟩)
        have hml := HMO.out.size_le
        have hln := k2.len
        have HBX := Lib.hid HK.out.bx
        have HBL := Lib.hid HK.out.bl
        have hzk := HK.out.z
        have HO1 := Lib.hid k2
        have HS1' := Lib.hid k1
        have HI5 := Lib.hid (HI0.out.next HBL.out)
        have HRI : Hid (RowIn bs w ((MapP.get es3 k).getD none) (X.row k)) := Lib.hid (HI0.out.rowIn hN k)
        have HLO : Hid (∀ b ∈ bs, b < w.heap.size) := Lib.hid HI0.out.lo
        have HLK : Hid (∀ wx, Below wr.heap.size wr wx → (Instr.lookup T3 (.map (some b3)) (.string k) false).run Tryd.prog wx = .ok (.pointer (((MapP.get es3 k).getD none).map fun q => ⟨q, 0, none⟩)) wx) := Lib.hid (fun wx hwx => (HI5.out.next hwx).look3 hk)
        obtain ⟨o3, ho3⟩ : ∃ o, (MapP.get es3 k).getD none = o := ⟨_, rfl⟩
        rw [ho3] at HRI HLK
        clear hl0 k1 k2 k4 k5 HK ho3
        have hmf : ∀ (fn : Fn) (first cap : Array Value) (w : World), (Instr.makeFunc fn first cap).run Tryd.prog w = .ok (.func fn first cap) w := fun _ _ _ _ => rfl
        go_wp2_with fail
        gi_wp2_with fail
        refine wpIn_wide.2 ?_
        refine Reg.wp_region_vals (R := ext) (W := wr) [Reg.eqv (.pointer (some ⟨t, 0, none⟩)), Reg.eqv (.pointer (some ⟨t, 0, none⟩)), Reg.eqv (.pointer (some ⟨t, 2, none⟩)), Reg.eqv (.map (some b3)), Reg.eqv (.string k), Reg.eqv (.pointer (o3.map fun q => ⟨q, 0, none⟩)), allS wr.heap.size (o3.map fun q => ⟨q, 0, none⟩)] 85 [[(2, none)], [(47, some 0)], [(48, some 1)], [(49, some 2)], [(5, none)], [(50, some 3), (51, some 4)], [(52, some 5)]] rfl (by kernel_rfl) (by kernel_rfl) (by kernel_rfl) ?_ [some 47, some 48, some 49, some 50, some 51, some 52, some 53] (by kernel_rfl) ?_
        · refine ⟨?_, ?_, ?_, ?_, ?_, ?_, ?_, trivial⟩
          · intro ax wx hx hs
            obtain ⟨e2, -⟩ := hs
            have g2 := Reg.ev (v := .pointer (some ⟨w.heap.size, 0, none⟩)) e2
            have l0 := str4 (HI5.out.next hx).box
            have l1 := (HBX.out.next hx).tb.cell 0
            have l2 := (HBX.out.next hx).kb.cell 0
            exact Reg.obl_free rfl (Reg.wp_eqv (Option.some_ne_none _) (by go_simp) rfl)
          · intro ax wx hx hs
            obtain ⟨e47, -⟩ := hs
            have g47 := Reg.ev (v := .pointer (some ⟨t, 0, none⟩)) e47
            exact Reg.obl_free rfl (Reg.wp_eqv (Option.some_ne_none _) (by go_simp) rfl)
          · intro ax wx hx hs
            obtain ⟨e48, -⟩ := hs
            have g48 := Reg.ev (v := .pointer (some ⟨t, 0, none⟩)) e48
            exact Reg.obl_free rfl (Reg.wp_eqv (Option.some_ne_none _) (by go_simp) rfl)
          · intro ax wx hx hs
            obtain ⟨e49, -⟩ := hs
            have g49 := Reg.ev (v := .pointer (some ⟨t, 2, none⟩)) e49
            have l0 := str4 (HI5.out.next hx).box
            have l1 := (HBX.out.next hx).tb.cell 0
            have l2 := (HBX.out.next hx).kb.cell 0
            exact Reg.obl_free rfl (Reg.wp_eqv (Option.some_ne_none _) (by go_simp) rfl)
          · intro ax wx hx hs
            obtain ⟨e5, -⟩ := hs
            have g5 := Reg.ev (v := .pointer (some ⟨W2.heap.size, 0, none⟩)) e5
            have l0 := str4 (HI5.out.next hx).box
            have l1 := (HBX.out.next hx).tb.cell 0
            have l2 := (HBX.out.next hx).kb.cell 0
            exact Reg.obl_free rfl (Reg.wp_eqv (Option.some_ne_none _) (by go_simp) rfl)
          · intro ax wx hx hs
            obtain ⟨e50, e51, -⟩ := hs
            have g50 := Reg.ev (v := .map (some b3)) e50
            have g51 := Reg.ev (v := .string k) e51
            refine Reg.obl_free rfl ?_
            have hlk := HLK.out wx hx
            exact Reg.wp_eqv (Option.some_ne_none _) (by go_simp) rfl
          · intro ax wx hx hs
            obtain ⟨e52, -⟩ := hs
            have g52 := Reg.ev (v := .pointer (o3.map fun q => ⟨q, 0, none⟩)) e52
            refine Reg.obl_free rfl ?_
            have hx' : Below wr.heap.size wr wx := hx
            go_simp
            refine (all_any _ wx).mono ?_
            rintro e wy ⟨rfl, hS, hby, -⟩
            exact Reg.done (Option.some_ne_none _) ⟨wx.heap.size, rfl, hx'.size, hS⟩ hby
        · intro W6 hwf
          simp only [Reg.Fin]
          rintro _ rfl _ rfl _ rfl _ rfl _ rfl _ rfl v53 h53
          go_simp
          obtain ⟨bx, rfl, hbx, hS6⟩ := h53
          have HB6 := Lib.hid (bstep HBL.out hwf)
          have HSQ := Lib.hid hS6
          have HX6 := Lib.hid (HBX.out.next hwf)
          have HS6 := Lib.hid (HS1'.out.next hwf)
          have HO6 := Lib.hid (HO1.out.next hwf)
          have hw6 := hwf.size
          have HRI6 : Hid (RowIn bs W6 o3 (X.row k)) := Lib.hid (HRI.out.next HLO.out HB6.out)
          clear hwf hS6
          gi_wp2_with fail
          apply wpIn_rangeFunc_ownH rfl (by omega) (gf := 52) (lb := #[.pointer (some ⟨bx, 0, none⟩)]) rfl trivial (enters_of Tryd.func52 (by kernel_rfl) rfl)
            (all_stops 4 (by omega) bx o3 bs (X.row k) W6 HSQ.out HRI6.out) (fun h k b hm => (k b hm).trans (h b hm)) ?hKb (Below.refl _ _) (fun _ => rfl)
            (B2I w t u k m W2.heap.size (WR.heap.size + 1) W6.heap.size X os1) (B2X 2 w t u k m W2.heap.size (WR.heap.size + 1) W6.heap.size X os1) (b2I_own HB6.out.size) (fun cd => b2X_own HB6.out.size) ?h0 (AskX W6.heap.size _) (fun x a' => askX_own) ?assign ?body ?done ?stop
          case hKb =>
            intro W l' o o' hle hl' _ _ b hm
            have := HLO.out b hm
            have := HB6.out.size
            exact (grownBy_putObj' W l' o').block _ (by have := (Array.getElem?_eq_some_iff.1 hl').1; omega) (fun e => by cases e; omega)
          case h0 => exact ⟨HX6.out, ⟨A, n, c', HS6.out, by rw [show outsOf (([] : List (In (X.row k))).map (·.1.1)) m = [] from rfl, List.append_nil]; exact HO6.out, by simp; omega⟩, (fun p hp => by cases hp), (fun h => absurd rfl h), HB6.out, by omega, Nat.le_refl _⟩
          case assign =>
            intro l' pre x W K hI hK
            have hb' : Below W.heap.size W (W.alloc (.cells #[.int .i64 x.1.1.1, .int .i64 x.1.1.2] 80)) := balloc (bsame W) _
            have hsz := hI.bx.tb.lt
            gi_wp2
            obtain ⟨gb, hgb⟩ : ∃ gb, gb = W.heap.size := ⟨_, rfl⟩
            rw [← hgb]
            have hB := hI.bl.size
            have hWs := hI.z.2
            exact hK _ _ (KeepsFrom.of_grownBy (row := none) (grown_below hb' none) (fun j e => by cases e)) (fun b hm => hb'.block b (by have := HLO.out b hm; omega)) (hI.next hb') ⟨gb, by omega, rfl, by rw [hgb]; exact Str.new W _ _⟩
          case body =>
            rintro l' pre x a' W hle - hI ⟨gb, hgb, rfl, hs⟩ hlt
            obtain ⟨A9, n9, c9, k1, k2, k3⟩ := hI.lk
            have f0 := str1 hI.bx.tb
            have fl0 := hI.bx.tb.lt
            have f1 := str1 hI.bx.ub
            have fl1 := hI.bx.ub.lt
            have f2 := str1 hI.bx.kb
            have fl2 := hI.bx.kb.lt
            have f3 := str1 hI.bx.mb
            have fl3 := hI.bx.mb.lt
            have f4 := str2 hs
            have fl4 := hs.lt
            have HI := Lib.hid hI
            have HS9 := Lib.hid hs
            have hB := hI.bl.size
            have hz9 := hI.z
            have HTW : Hid (Modes.Tab W) := Lib.hid (HT.out.below hI.bl HT.out.lt)
            have HIW := Lib.hid (HI0.out.next hI.bl)
            have K1 := Lib.hid k1
            have K2 := Lib.hid k2
            have hn9 := k2.len
            clear hI hs k1 k2
            by_cases hxu : x.1.1.1 = u
            · have hd1 : (x.1.1.1 == u) = true := by simpa using hxu
              gi_wp2_with fail
              refine Reg.wpIn_region_vals (R := ext) (W := W) [Reg.eqv (.pointer (some ⟨gb, 0, none⟩)), Reg.eqv (.int .i64 x.1.1.1), Reg.eqv (.int .i64 u), Reg.eqv (.bool true), Reg.eqv (.bool true), Reg.eqv undef, Reg.eqv undef, Reg.eqv undef, Reg.eqv undef, Reg.eqv undef, Reg.eqv undef, Reg.eqv undef, Reg.eqv undef, Reg.eqv undef, Reg.eqv (.bool true)] 85 [[(12, none)], [(56, some 0)], [(3, none)], [(57, some 1), (58, some 2)], [(59, some 3)], [(2, none), (60, some 4)], [(61, some 5), (60, some 4)], [(62, some 6), (60, some 4)], [(63, some 7), (60, some 4)], [(5, none), (60, some 4)], [(64, some 8), (65, some 9), (60, some 4)], [(3, none), (60, some 4)], [(66, some 10), (67, some 11), (60, some 4)], [(68, some 12), (60, some 4)], [(60, some 4), (69, some 13)]] rfl (by kernel_rfl) (by kernel_rfl) (by kernel_rfl) ?_ [some 56, some 57, some 58, some 59, some 60, some 61, some 62, some 63, some 64, some 65, some 66, some 67, some 68, some 69, some 70] (by kernel_rfl) ?_
              · refine ⟨?_, ?_, ?_, ?_, ?_, ?_, ?_, ?_, ?_, ?_, ?_, ?_, ?_, ?_, ?_, trivial⟩
                · intro ax wx hx hs
                  obtain ⟨e12, -⟩ := hs
                  have g12 := Reg.ev (v := .pointer (some ⟨gb, 0, none⟩)) e12
                  exact Reg.obl_free rfl (Reg.wp_eqv (Option.some_ne_none _) (by go_simp) rfl)
                · intro ax wx hx hs
                  obtain ⟨e56, -⟩ := hs
                  have g56 := Reg.ev (v := .pointer (some ⟨gb, 0, none⟩)) e56
                  have l0 := str4 (HIW.out.next hx).box
                  have l1 := (HI.out.bx.tb.next hx).cell 0
                  have l2 := (HI.out.bx.ub.next hx).cell 0
                  have l3 := (HI.out.bx.kb.next hx).cell 0
                  have l4 := str2 (HS9.out.next hx)
                  exact Reg.obl_free rfl (Reg.wp_eqv (Option.some_ne_none _) (by go_simp) rfl)
                · intro ax wx hx hs
                  obtain ⟨e3, -⟩ := hs
                  have g3 := Reg.ev (v := .pointer (some ⟨(w.heap.size + 1), 0, none⟩)) e3
                  have l0 := str4 (HIW.out.next hx).box
                  have l1 := (HI.out.bx.tb.next hx).cell 0
                  have l2 := (HI.out.bx.ub.next hx).cell 0
                  have l3 := (HI.out.bx.kb.next hx).cell 0
                  have l4 := str2 (HS9.out.next hx)
                  exact Reg.obl_free rfl (Reg.wp_eqv (Option.some_ne_none _) (by go_simp) rfl)
                · intro ax wx hx hs
                  obtain ⟨e57, e58, -⟩ := hs
                  have g57 := Reg.ev (v := .int .i64 x.1.1.1) e57
                  have g58 := Reg.ev (v := .int .i64 u) e58
                  exact Reg.obl_free rfl (Reg.wp_eqv (Option.some_ne_none _) (by go_simp) rfl)
                · intro ax wx hx hs
                  obtain ⟨e59, -⟩ := hs
                  have g59 := Reg.ev (v := .bool true) e59
                  exact Reg.obl_free rfl (Reg.wp_eqv (Option.some_ne_none _) (by go_simp) rfl)
                · intro ax wx hx hs
                  obtain ⟨e2, e60, -⟩ := hs
                  have g2 := Reg.ev (v := .pointer (some ⟨w.heap.size, 0, none⟩)) e2
                  have g60 := Reg.ev (v := .bool true) e60
                  exact Reg.obl_skip rfl rfl e60 rfl rfl
                · intro ax wx hx hs
                  obtain ⟨e61, e60, -⟩ := hs
                  have g61 := Reg.ev (v := undef) e61
                  have g60 := Reg.ev (v := .bool true) e60
                  exact Reg.obl_skip rfl rfl e60 rfl rfl
                · intro ax wx hx hs
                  obtain ⟨e62, e60, -⟩ := hs
                  have g62 := Reg.ev (v := undef) e62
                  have g60 := Reg.ev (v := .bool true) e60
                  exact Reg.obl_skip rfl rfl e60 rfl rfl
                · intro ax wx hx hs
                  obtain ⟨e63, e60, -⟩ := hs
                  have g63 := Reg.ev (v := undef) e63
                  have g60 := Reg.ev (v := .bool true) e60
                  exact Reg.obl_skip rfl rfl e60 rfl rfl
                · intro ax wx hx hs
                  obtain ⟨e5, e60, -⟩ := hs
                  have g5 := Reg.ev (v := .pointer (some ⟨W2.heap.size, 0, none⟩)) e5
                  have g60 := Reg.ev (v := .bool true) e60
                  exact Reg.obl_skip rfl rfl e60 rfl rfl
                · intro ax wx hx hs
                  obtain ⟨e64, e65, e60, -⟩ := hs
                  have g64 := Reg.ev (v := undef) e64
                  have g65 := Reg.ev (v := undef) e65
                  have g60 := Reg.ev (v := .bool true) e60
                  exact Reg.obl_skip rfl rfl e60 rfl rfl
                · intro ax wx hx hs
                  obtain ⟨e3, e60, -⟩ := hs
                  have g3 := Reg.ev (v := .pointer (some ⟨(w.heap.size + 1), 0, none⟩)) e3
                  have g60 := Reg.ev (v := .bool true) e60
                  exact Reg.obl_skip rfl rfl e60 rfl rfl
                · intro ax wx hx hs
                  obtain ⟨e66, e67, e60, -⟩ := hs
                  have g66 := Reg.ev (v := undef) e66
                  have g67 := Reg.ev (v := undef) e67
                  have g60 := Reg.ev (v := .bool true) e60
                  exact Reg.obl_skip rfl rfl e60 rfl rfl
                · intro ax wx hx hs
                  obtain ⟨e68, e60, -⟩ := hs
                  have g68 := Reg.ev (v := undef) e68
                  have g60 := Reg.ev (v := .bool true) e60
                  exact Reg.obl_skip rfl rfl e60 rfl rfl
                · intro ax wx hx hs
                  obtain ⟨e60, e69, -⟩ := hs
                  have g60 := Reg.ev (v := .bool true) e60
                  have g69 := Reg.ev (v := undef) e69
                  exact Reg.obl_free rfl (Reg.wp_eqv (Option.some_ne_none _) (by go_simp) rfl)
              · intro WX hwf
                simp only [Reg.Fin]
                rintro _ rfl _ rfl _ rfl _ rfl _ rfl _ rfl _ rfl _ rfl _ rfl _ rfl _ rfl _ rfl _ rfl _ rfl _ rfl
                go_simp
                have HIX : Hid (B2I w t u k m W2.heap.size (WR.heap.size + 1) W6.heap.size X os1 pre WX) := Lib.hid (HI.out.next hwf)
                have hKF : KeepsFrom W6.heap.size W WX := KeepsFrom.of_grownBy (row := none) (grown_below hwf none) (fun j e => by cases e)
                clear hwf
                gi_wp2_with fail
                exact ⟨hKF, rfl, pre, x, rfl, .inl hxu, HIX.out⟩
            · have hd1 : (x.1.1.1 == u) = false := by simpa using hxu
              by_cases hst : LockP.set X k u = 0
              · have hd2 : (LockP.set X k u != 0) = false := by simpa using hst
                gi_wp2_with fail
                refine Reg.wpIn_region_vals (R := ext) (W := W) [Reg.eqv (.pointer (some ⟨gb, 0, none⟩)), Reg.eqv (.int .i64 x.1.1.1), Reg.eqv (.int .i64 u), Reg.eqv (.bool false), Reg.eqv (.bool false), Reg.eqv (.pointer (some ⟨t, 0, none⟩)), Reg.eqv (.pointer (some ⟨t, 0, none⟩)), Reg.eqv (.pointer (some ⟨t, 0, none⟩)), Reg.eqv (.map (some b1)), Reg.eqv (.string k), Reg.eqv (.map (some b)), Reg.eqv (.int .i64 u), Reg.eqv (.int .i64 (LockP.set X k u)), Reg.eqv (.bool false), Reg.eqv (.bool false)] 85 [[(12, none)], [(56, some 0)], [(3, none)], [(57, some 1), (58, some 2)], [(59, some 3)], [(2, none), (60, some 4)], [(61, some 5), (60, some 4)], [(62, some 6), (60, some 4)], [(63, some 7), (60, some 4)], [(5, none), (60, some 4)], [(64, some 8), (65, some 9), (60, some 4)], [(3, none), (60, some 4)], [(66, some 10), (67, some 11), (60, some 4)], [(68, some 12), (60, some 4)], [(60, some 4), (69, some 13)]] rfl (by kernel_rfl) (by kernel_rfl) (by kernel_rfl) ?_ [some 56, some 57, some 58, some 59, some 60, some 61, some 62, some 63, some 64, some 65, some 66, some 67, some 68, some 69, some 70] (by kernel_rfl) ?_
                · refine ⟨?_, ?_, ?_, ?_, ?_, ?_, ?_, ?_, ?_, ?_, ?_, ?_, ?_, ?_, ?_, trivial⟩
                  · intro ax wx hx hs
                    obtain ⟨e12, -⟩ := hs
                    have g12 := Reg.ev (v := .pointer (some ⟨gb, 0, none⟩)) e12
                    exact Reg.obl_free rfl (Reg.wp_eqv (Option.some_ne_none _) (by go_simp) rfl)
                  · intro ax wx hx hs
                    obtain ⟨e56, -⟩ := hs
                    have g56 := Reg.ev (v := .pointer (some ⟨gb, 0, none⟩)) e56
                    have l0 := str4 (HIW.out.next hx).box
                    have l1 := (HI.out.bx.tb.next hx).cell 0
                    have l2 := (HI.out.bx.ub.next hx).cell 0
                    have l3 := (HI.out.bx.kb.next hx).cell 0
                    have l4 := str2 (HS9.out.next hx)
                    exact Reg.obl_free rfl (Reg.wp_eqv (Option.some_ne_none _) (by go_simp) rfl)
                  · intro ax wx hx hs
                    obtain ⟨e3, -⟩ := hs
                    have g3 := Reg.ev (v := .pointer (some ⟨(w.heap.size + 1), 0, none⟩)) e3
                    have l0 := str4 (HIW.out.next hx).box
                    have l1 := (HI.out.bx.tb.next hx).cell 0
                    have l2 := (HI.out.bx.ub.next hx).cell 0
                    have l3 := (HI.out.bx.kb.next hx).cell 0
                    have l4 := str2 (HS9.out.next hx)
                    exact Reg.obl_free rfl (Reg.wp_eqv (Option.some_ne_none _) (by go_simp) rfl)
                  · intro ax wx hx hs
                    obtain ⟨e57, e58, -⟩ := hs
                    have g57 := Reg.ev (v := .int .i64 x.1.1.1) e57
                    have g58 := Reg.ev (v := .int .i64 u) e58
                    exact Reg.obl_free rfl (Reg.wp_eqv (Option.some_ne_none _) (by go_simp) rfl)
                  · intro ax wx hx hs
                    obtain ⟨e59, -⟩ := hs
                    have g59 := Reg.ev (v := .bool false) e59
                    exact Reg.obl_free rfl (Reg.wp_eqv (Option.some_ne_none _) (by go_simp) rfl)
                  · intro ax wx hx hs
                    obtain ⟨e2, e60, -⟩ := hs
                    have g2 := Reg.ev (v := .pointer (some ⟨w.heap.size, 0, none⟩)) e2
                    have g60 := Reg.ev (v := .bool false) e60
                    have l0 := str4 (HIW.out.next hx).box
                    have l1 := (HI.out.bx.tb.next hx).cell 0
                    have l2 := (HI.out.bx.ub.next hx).cell 0
                    have l3 := (HI.out.bx.kb.next hx).cell 0
                    have l4 := str2 (HS9.out.next hx)
                    exact Reg.obl_want rfl rfl e60 (Reg.wp_eqv (Option.some_ne_none _) (by go_simp) rfl)
                  · intro ax wx hx hs
                    obtain ⟨e61, e60, -⟩ := hs
                    have g61 := Reg.ev (v := .pointer (some ⟨t, 0, none⟩)) e61
                    have g60 := Reg.ev (v := .bool false) e60
                    exact Reg.obl_want rfl rfl e60 (Reg.wp_eqv (Option.some_ne_none _) (by go_simp) rfl)
                  · intro ax wx hx hs
                    obtain ⟨e62, e60, -⟩ := hs
                    have g62 := Reg.ev (v := .pointer (some ⟨t, 0, none⟩)) e62
                    have g60 := Reg.ev (v := .bool false) e60
                    exact Reg.obl_want rfl rfl e60 (Reg.wp_eqv (Option.some_ne_none _) (by go_simp) rfl)
                  · intro ax wx hx hs
                    obtain ⟨e63, e60, -⟩ := hs
                    have g63 := Reg.ev (v := .pointer (some ⟨t, 0, none⟩)) e63
                    have g60 := Reg.ev (v := .bool false) e60
                    have l0 := str4 (HIW.out.next hx).box
                    have l1 := (HI.out.bx.tb.next hx).cell 0
                    have l2 := (HI.out.bx.ub.next hx).cell 0
                    have l3 := (HI.out.bx.kb.next hx).cell 0
                    have l4 := str2 (HS9.out.next hx)
                    exact Reg.obl_want rfl rfl e60 (Reg.wp_eqv (Option.some_ne_none _) (by go_simp) rfl)
                  · intro ax wx hx hs
                    obtain ⟨e5, e60, -⟩ := hs
                    have g5 := Reg.ev (v := .pointer (some ⟨W2.heap.size, 0, none⟩)) e5
                    have g60 := Reg.ev (v := .bool false) e60
                    have l0 := str4 (HIW.out.next hx).box
                    have l1 := (HI.out.bx.tb.next hx).cell 0
                    have l2 := (HI.out.bx.ub.next hx).cell 0
                    have l3 := (HI.out.bx.kb.next hx).cell 0
                    have l4 := str2 (HS9.out.next hx)
                    exact Reg.obl_want rfl rfl e60 (Reg.wp_eqv (Option.some_ne_none _) (by go_simp) rfl)
                  · intro ax wx hx hs
                    obtain ⟨e64, e65, e60, -⟩ := hs
                    have g64 := Reg.ev (v := .map (some b1)) e64
                    have g65 := Reg.ev (v := .string k) e65
                    have g60 := Reg.ev (v := .bool false) e60
                    refine Reg.obl_want rfl rfl e60 ?_
                    have e1 : (Instr.lookup 65 (.map (some b1)) (.string k) false).run Tryd.prog wx = .ok (.map (some b)) wx := by have h := (HIW.out.next hx).look1 hk; rwa [HG1.out] at h
                    exact Reg.wp_eqv (Option.some_ne_none _) (by go_simp) rfl
                  · intro ax wx hx hs
                    obtain ⟨e3, e60, -⟩ := hs
                    have g3 := Reg.ev (v := .pointer (some ⟨(w.heap.size + 1), 0, none⟩)) e3
                    have g60 := Reg.ev (v := .bool false) e60
                    have l0 := str4 (HIW.out.next hx).box
                    have l1 := (HI.out.bx.tb.next hx).cell 0
                    have l2 := (HI.out.bx.ub.next hx).cell 0
                    have l3 := (HI.out.bx.kb.next hx).cell 0
                    have l4 := str2 (HS9.out.next hx)
                    exact Reg.obl_want rfl rfl e60 (Reg.wp_eqv (Option.some_ne_none _) (by go_simp) rfl)
                  · intro ax wx hx hs
                    obtain ⟨e66, e67, e60, -⟩ := hs
                    have g66 := Reg.ev (v := .map (some b)) e66
                    have g67 := Reg.ev (v := .int .i64 u) e67
                    have g60 := Reg.ev (v := .bool false) e60
                    refine Reg.obl_want rfl rfl e60 ?_
                    have e2 : (Instr.lookup 74 (.map (some b)) (.int .i64 u) false).run Tryd.prog wx = .ok (.int .i64 (LockP.set X k u)) wx := by have h := (HIW.out.next hx).lookSet k hu; rwa [HG1.out] at h
                    exact Reg.wp_eqv (Option.some_ne_none _) (by go_simp) rfl
                  · intro ax wx hx hs
                    obtain ⟨e68, e60, -⟩ := hs
                    have g68 := Reg.ev (v := .int .i64 (LockP.set X k u)) e68
                    have g60 := Reg.ev (v := .bool false) e60
                    exact Reg.obl_want rfl rfl e60 (Reg.wp_eqv (Option.some_ne_none _) (by go_simp) rfl)
                  · intro ax wx hx hs
                    obtain ⟨e60, e69, -⟩ := hs
                    have g60 := Reg.ev (v := .bool false) e60
                    have g69 := Reg.ev (v := .bool false) e69
                    exact Reg.obl_free rfl (Reg.wp_eqv (Option.some_ne_none _) (by go_simp) rfl)
                · intro WX hwf
                  simp only [Reg.Fin]
                  rintro _ rfl _ rfl _ rfl _ rfl _ rfl _ rfl _ rfl _ rfl _ rfl _ rfl _ rfl _ rfl _ rfl _ rfl _ rfl
                  go_simp
                  have HIX : Hid (B2I w t u k m W2.heap.size (WR.heap.size + 1) W6.heap.size X os1 pre WX) := Lib.hid (HI.out.next hwf)
                  have HWX := Lib.hid hwf
                  have hsz := hwf.size
                  have g4 := str2 (HS9.out.next hwf)
                  have gl4 := (HS9.out.next hwf).lt
                  have g3 := str1 HIX.out.bx.mb
                  have gl3 := HIX.out.bx.mb.lt
                  clear hwf f0 fl0 f1 fl1 f2 fl2 f3 fl3 f4 fl4
                  gi_wp2_with fail
                  refine ⟨trivial, ?_⟩
                  refine (callsIn_wide.2 (Modes.compat_any x.1.1.2 m WX (HT.out.below HIX.out.bl HT.out.lt))).mono ?_
                  rintro e wy ⟨rfl, rfl⟩
                  cases hcm : compat x.1.1.2 m with
                  | true =>
                    have HNX := Lib.hid (HI.out.pass hxu hst hcm HWX.out HLO.out (B := W6.heap.size))
                    clear hcm
                    gi_wp2_with fail
                    exact HNX.out
                  | false =>
                    obtain ⟨i0, hi0, iz0, iz1, iz2⟩ := info_parts infoI
                    have k4 := K1.out.next HWX.out
                    have k5 := K2.out.next HWX.out
                    obtain ⟨W8, hW8⟩ : ∃ W, WX.alloc (.cells #[.int .i64 x.1.1.1] 3) = W := ⟨_, rfl⟩
                    have hb8 : Below WX.heap.size WX W8 := by rw [← hW8]; exact balloc (bsame _) _
                    have hs8 : Str W8 WX.heap.size #[.int .i64 x.1.1.1] := by rw [← hW8]; exact Str.new WX _ _
                    have hbz := hb8.size
                    obtain ⟨A', c3, W9, happ, hO9, -, hg9, -⟩ := (k5.next hb8).app (P := Tryd.prog) 32 32 i0 _ 8 Tryd.underlying32 hi0 iz0 iz1 iz2 rfl (IntE.lit (wr := hid A9 W8) (x := x.1.1.1) hs8) (by unfold maxLen; omega) (by omega) (by omega)
                    have hob : (Value.slice A9 0 0).ownBlock ≠ some (W2.heap.size + 1 + 1) := fun e => by
                      obtain ⟨a, ea, eb⟩ := ownBlock_some e
                      have := K2.out.ge a ea; omega
                    have h1 := str1 k4
                    have hl1 := k4.lt
                    have hs9 := (k4.next hb8).grownO hg9 hob
                    have h3 := str1 hs9
                    have hf3 := hs9.frozen 0
                    have hl3 := hs9.lt
                    have HNX := Lib.hid (HI.out.more hxu hst hcm (by omega) (by omega) hcm K1.out K2.out k3 (bstep HWX.out hb8) hg9 hO9 HLO.out (B := W6.heap.size) (by omega))
                    clear hcm k4 k5 hi0 iz0 iz1 iz2 hb8 hs8 hO9 hg9 hob hs9
                    gi_wp2_with fail
                    exact HNX.out
              · have hd2 : (LockP.set X k u != 0) = true := by simpa using hst
                gi_wp2_with fail
                refine Reg.wpIn_region_vals (R := ext) (W := W) [Reg.eqv (.pointer (some ⟨gb, 0, none⟩)), Reg.eqv (.int .i64 x.1.1.1), Reg.eqv (.int .i64 u), Reg.eqv (.bool false), Reg.eqv (.bool false), Reg.eqv (.pointer (some ⟨t, 0, none⟩)), Reg.eqv (.pointer (some ⟨t, 0, none⟩)), Reg.eqv (.pointer (some ⟨t, 0, none⟩)), Reg.eqv (.map (some b1)), Reg.eqv (.string k), Reg.eqv (.map (some b)), Reg.eqv (.int .i64 u), Reg.eqv (.int .i64 (LockP.set X k u)), Reg.eqv (.bool true), Reg.eqv (.bool true)] 85 [[(12, none)], [(56, some 0)], [(3, none)], [(57, some 1), (58, some 2)], [(59, some 3)], [(2, none), (60, some 4)], [(61, some 5), (60, some 4)], [(62, some 6), (60, some 4)], [(63, some 7), (60, some 4)], [(5, none), (60, some 4)], [(64, some 8), (65, some 9), (60, some 4)], [(3, none), (60, some 4)], [(66, some 10), (67, some 11), (60, some 4)], [(68, some 12), (60, some 4)], [(60, some 4), (69, some 13)]] rfl (by kernel_rfl) (by kernel_rfl) (by kernel_rfl) ?_ [some 56, some 57, some 58, some 59, some 60, some 61, some 62, some 63, some 64, some 65, some 66, some 67, some 68, some 69, some 70] (by kernel_rfl) ?_
                · refine ⟨?_, ?_, ?_, ?_, ?_, ?_, ?_, ?_, ?_, ?_, ?_, ?_, ?_, ?_, ?_, trivial⟩
                  · intro ax wx hx hs
                    obtain ⟨e12, -⟩ := hs
                    have g12 := Reg.ev (v := .pointer (some ⟨gb, 0, none⟩)) e12
                    exact Reg.obl_free rfl (Reg.wp_eqv (Option.some_ne_none _) (by go_simp) rfl)
                  · intro ax wx hx hs
                    obtain ⟨e56, -⟩ := hs
                    have g56 := Reg.ev (v := .pointer (some ⟨gb, 0, none⟩)) e56
                    have l0 := str4 (HIW.out.next hx).box
                    have l1 := (HI.out.bx.tb.next hx).cell 0
                    have l2 := (HI.out.bx.ub.next hx).cell 0
                    have l3 := (HI.out.bx.kb.next hx).cell 0
                    have l4 := str2 (HS9.out.next hx)
                    exact Reg.obl_free rfl (Reg.wp_eqv (Option.some_ne_none _) (by go_simp) rfl)
                  · intro ax wx hx hs
                    obtain ⟨e3, -⟩ := hs
                    have g3 := Reg.ev (v := .pointer (some ⟨(w.heap.size + 1), 0, none⟩)) e3
                    have l0 := str4 (HIW.out.next hx).box
                    have l1 := (HI.out.bx.tb.next hx).cell 0
                    have l2 := (HI.out.bx.ub.next hx).cell 0
                    have l3 := (HI.out.bx.kb.next hx).cell 0
                    have l4 := str2 (HS9.out.next hx)
                    exact Reg.obl_free rfl (Reg.wp_eqv (Option.some_ne_none _) (by go_simp) rfl)
                  · intro ax wx hx hs
                    obtain ⟨e57, e58, -⟩ := hs
                    have g57 := Reg.ev (v := .int .i64 x.1.1.1) e57
                    have g58 := Reg.ev (v := .int .i64 u) e58
                    exact Reg.obl_free rfl (Reg.wp_eqv (Option.some_ne_none _) (by go_simp) rfl)
                  · intro ax wx hx hs
                    obtain ⟨e59, -⟩ := hs
                    have g59 := Reg.ev (v := .bool false) e59
                    exact Reg.obl_free rfl (Reg.wp_eqv (Option.some_ne_none _) (by go_simp) rfl)
                  · intro ax wx hx hs
                    obtain ⟨e2, e60, -⟩ := hs
                    have g2 := Reg.ev (v := .pointer (some ⟨w.heap.size, 0, none⟩)) e2
                    have g60 := Reg.ev (v := .bool false) e60
                    have l0 := str4 (HIW.out.next hx).box
                    have l1 := (HI.out.bx.tb.next hx).cell 0
                    have l2 := (HI.out.bx.ub.next hx).cell 0
                    have l3 := (HI.out.bx.kb.next hx).cell 0
                    have l4 := str2 (HS9.out.next hx)
                    exact Reg.obl_want rfl rfl e60 (Reg.wp_eqv (Option.some_ne_none _) (by go_simp) rfl)
                  · intro ax wx hx hs
                    obtain ⟨e61, e60, -⟩ := hs
                    have g61 := Reg.ev (v := .pointer (some ⟨t, 0, none⟩)) e61
                    have g60 := Reg.ev (v := .bool false) e60
                    exact Reg.obl_want rfl rfl e60 (Reg.wp_eqv (Option.some_ne_none _) (by go_simp) rfl)
                  · intro ax wx hx hs
                    obtain ⟨e62, e60, -⟩ := hs
                    have g62 := Reg.ev (v := .pointer (some ⟨t, 0, none⟩)) e62
                    have g60 := Reg.ev (v := .bool false) e60
                    exact Reg.obl_want rfl rfl e60 (Reg.wp_eqv (Option.some_ne_none _) (by go_simp) rfl)
                  · intro ax wx hx hs
                    obtain ⟨e63, e60, -⟩ := hs
                    have g63 := Reg.ev (v := .pointer (some ⟨t, 0, none⟩)) e63
                    have g60 := Reg.ev (v := .bool false) e60
                    have l0 := str4 (HIW.out.next hx).box
                    have l1 := (HI.out.bx.tb.next hx).cell 0
                    have l2 := (HI.out.bx.ub.next hx).cell 0
                    have l3 := (HI.out.bx.kb.next hx).cell 0
                    have l4 := str2 (HS9.out.next hx)
                    exact Reg.obl_want rfl rfl e60 (Reg.wp_eqv (Option.some_ne_none _) (by go_simp) rfl)
                  · intro ax wx hx hs
                    obtain ⟨e5, e60, -⟩ := hs
                    have g5 := Reg.ev (v := .pointer (some ⟨W2.heap.size, 0, none⟩)) e5
                    have g60 := Reg.ev (v := .bool false) e60
                    have l0 := str4 (HIW.out.next hx).box
                    have l1 := (HI.out.bx.tb.next hx).cell 0
                    have l2 := (HI.out.bx.ub.next hx).cell 0
                    have l3 := (HI.out.bx.kb.next hx).cell 0
                    have l4 := str2 (HS9.out.next hx)
                    exact Reg.obl_want rfl rfl e60 (Reg.wp_eqv (Option.some_ne_none _) (by go_simp) rfl)
                  · intro ax wx hx hs
                    obtain ⟨e64, e65, e60, -⟩ := hs
                    have g64 := Reg.ev (v := .map (some b1)) e64
                    have g65 := Reg.ev (v := .string k) e65
                    have g60 := Reg.ev (v := .bool false) e60
                    refine Reg.obl_want rfl rfl e60 ?_
                    have e1 : (Instr.lookup 65 (.map (some b1)) (.string k) false).run Tryd.prog wx = .ok (.map (some b)) wx := by have h := (HIW.out.next hx).look1 hk; rwa [HG1.out] at h
                    exact Reg.wp_eqv (Option.some_ne_none _) (by go_simp) rfl
                  · intro ax wx hx hs
                    obtain ⟨e3, e60, -⟩ := hs
                    have g3 := Reg.ev (v := .pointer (some ⟨(w.heap.size + 1), 0, none⟩)) e3
                    have g60 := Reg.ev (v := .bool false) e60
                    have l0 := str4 (HIW.out.next hx).box
                    have l1 := (HI.out.bx.tb.next hx).cell 0
                    have l2 := (HI.out.bx.ub.next hx).cell 0
                    have l3 := (HI.out.bx.kb.next hx).cell 0
                    have l4 := str2 (HS9.out.next hx)
                    exact Reg.obl_want rfl rfl e60 (Reg.wp_eqv (Option.some_ne_none _) (by go_simp) rfl)
                  · intro ax wx hx hs
                    obtain ⟨e66, e67, e60, -⟩ := hs
                    have g66 := Reg.ev (v := .map (some b)) e66
                    have g67 := Reg.ev (v := .int .i64 u) e67
                    have g60 := Reg.ev (v := .bool false) e60
                    refine Reg.obl_want rfl rfl e60 ?_
                    have e2 : (Instr.lookup 74 (.map (some b)) (.int .i64 u) false).run Tryd.prog wx = .ok (.int .i64 (LockP.set X k u)) wx := by have h := (HIW.out.next hx).lookSet k hu; rwa [HG1.out] at h
                    exact Reg.wp_eqv (Option.some_ne_none _) (by go_simp) rfl
                  · intro ax wx hx hs
                    obtain ⟨e68, e60, -⟩ := hs
                    have g68 := Reg.ev (v := .int .i64 (LockP.set X k u)) e68
                    have g60 := Reg.ev (v := .bool false) e60
                    exact Reg.obl_want rfl rfl e60 (Reg.wp_eqv (Option.some_ne_none _) (by go_simp) rfl)
                  · intro ax wx hx hs
                    obtain ⟨e60, e69, -⟩ := hs
                    have g60 := Reg.ev (v := .bool false) e60
                    have g69 := Reg.ev (v := .bool true) e69
                    exact Reg.obl_free rfl (Reg.wp_eqv (Option.some_ne_none _) (by go_simp) rfl)
                · intro WX hwf
                  simp only [Reg.Fin]
                  rintro _ rfl _ rfl _ rfl _ rfl _ rfl _ rfl _ rfl _ rfl _ rfl _ rfl _ rfl _ rfl _ rfl _ rfl _ rfl
                  go_simp
                  have HIX : Hid (B2I w t u k m W2.heap.size (WR.heap.size + 1) W6.heap.size X os1 pre WX) := Lib.hid (HI.out.next hwf)
                  have hKF : KeepsFrom W6.heap.size W WX := KeepsFrom.of_grownBy (row := none) (grown_below hwf none) (fun j e => by cases e)
                  clear hwf
                  gi_wp2_with fail
                  exact ⟨hKF, rfl, pre, x, rfl, .inr hst, HIX.out⟩
          case done =>
            intro D xs W7 hDD hS hI hK
            obtain ⟨A9, n9, c9, k1, k2, k3⟩ := hI.lk
            have hout : outsOf (xs.map (·.1.1)) m = outs2 X u k m := by
              have h1 := hI.ne
              have h2 := hI.st
              rw [hS] at h1 ⊢
              exact (outs2_end h1 (fun hr => h2 (fun e => hr (by rw [← hS, e]; rfl)))).symm
            have hlx : xs.length ≤ 1000000 := by
              have h1 := congrArg List.length hS
              rw [List.length_map] at h1
              have h2 := HGD.out.1.row_len k
              obtain ⟨N7, bs7, hl7⟩ : ∃ N bs, Lk w t bs N X := ⟨N, bs, ⟨_, _, _, _, _, _, _, _, HI0.out⟩⟩
              have h3 := HI0.out.m4.size_le
              omega
            rw [hout] at k2
            have HBL7 := Lib.hid hI.bl
            have hz7 := hI.z
            dsimp only
            have hd7 := (Array.getElem?_eq_some_iff.1 hK).1
            have hbw := HBL7.out.size
            have f0 := str1 k1
            have fl0 := k1.lt
            have hn9 := k2.len
            have hso := sortI_own A9 n9 c9 (WR.heap.size + 1) _ W7 k2 (by omega)
            have K1 := Lib.hid k1
            have K2 := Lib.hid k2
            have HKD := Lib.hid hK
            clear k1 k2 hK hI
            gi_wp2_with fail
            refine ⟨trivial, ?_⟩
            refine (callsIn_wide.2 hso).mono ?_
            rintro e W8 ⟨rfl, hO8, hg8⟩
            have hob : ∀ j, (Value.slice A9 0 0).ownBlock = some j → WR.heap.size + 1 ≤ j ∧ ∃ cur, W7.heap[j]? = some (.cells cur 3 (0, 0)) := fun j e => by
              obtain ⟨a, ea, eb⟩ := ownBlock_some e
              have h2 := K2.out
              subst ea
              obtain ⟨cur, hc⟩ := ownE_cells h2
              rw [← eb]
              exact ⟨h2.ge a rfl, cur, hc⟩
            have HOB := Lib.hid hob
            have k8 := K1.out.grownO hg8 (fun e => by have := (HOB.out _ e).1; omega)
            have g0 := str1 k8
            have gl0 := k8.lt
            have HD8 : Hid (W8.heap[D]? = some (.deferred (some []))) := Lib.hid ((hg8.block D hd7 (fun e => by obtain ⟨-, cur, hc⟩ := HOB.out _ e.symm; rw [HKD.out] at hc; cases hc)).trans HKD.out)
            have HB8 := Lib.hid (below_grownO HBL7.out hg8 (by omega) (fun j e => by have := (HOB.out _ e).1; omega))
            have hco := compI_own A9 n9 c9 (WR.heap.size + 1) _ W8 hO8 (by omega)
            have hs8 := hg8.size
            have HO8 := Lib.hid hO8
            clear hso hO8 hg8 hob k8 f0 fl0
            gi_wp2_with fail
            refine ⟨trivial, ?_⟩
            refine (callsIn_wide.2 hco).mono ?_
            rintro e W9 ⟨n', rfl, hn', hO9, hg9⟩
            have hob2 : ∀ j, (Value.slice A9 0 0).ownBlock = some j → WR.heap.size + 1 ≤ j ∧ ∃ cur, W8.heap[j]? = some (.cells cur 3 (0, 0)) := fun j e => by
              obtain ⟨a, ea, eb⟩ := ownBlock_some e
              have h2 := HO8.out
              subst ea
              obtain ⟨cur, hc⟩ := ownE_cells h2
              rw [← eb]
              exact ⟨h2.ge a rfl, cur, hc⟩
            have HD9 : Hid (W9.heap[D]? = some (.deferred (some []))) := Lib.hid ((hg9.block D (by omega) (fun e => by obtain ⟨-, cur, hc⟩ := hob2 _ e.symm; rw [HD8.out] at hc; cases hc)).trans HD8.out)
            have HB9 := Lib.hid (below_grownO HB8.out hg9 (by omega) (fun j e => by have := (hob2 _ e).1; omega))
            have HO9 := Lib.hid hO9
            have hs9 := hg9.size
            clear hco hO9 hg9 hob2
            gi_wp2_with fail
            refine ⟨by simp, .inl ⟨_, _, rfl, run_takeDeferred HD9.out, ?_⟩⟩
            refine ⟨.slice A9 n' c9, by simp [results, Tryd.results11, go_sem, *], ?_⟩
            have hgp := grownBy_putObj' W9 D (.deferred none)
            refine ⟨A9, n', c9, rfl, ?_, below_grown HB9.out hgp (by omega)⟩
            have hcg : SortI.sort (os1 ++ outs2 X u k m) = SortI.sort (outs1 X u k m ++ outs2 X u k m) := SortI.sort_congr (fun x => by rw [List.mem_append, List.mem_append, HMEM.out x])
            rw [HBP.out, ← hcg]
            exact (own_grownN intE_pure HO9.out hgp (fun r e => by cases e; exact .inl ⟨_, HD9.out, rfl⟩)).less (by omega)
          case stop =>
            rintro D cd pre W7 hDD hSp ⟨rfl, pre0, x, rfl, hx, hI⟩ hK
            obtain ⟨A9, n9, c9, k1, k2, k3⟩ := hI.lk
            have hout : outsOf (pre0.map (·.1.1)) m = outs2 X u k m := by
              obtain ⟨post, hpo⟩ := hSp
              rw [List.map_append, List.map_cons, List.map_nil] at hpo
              refine (outs2_stop (pre := pre0.map (·.1.1)) (post := post) (x := x.1.1) ?_ hx hI.ne (fun h => hI.st (fun e => h (by rw [e]; rfl)))).symm
              exact hpo.symm.trans (by simp)
            have hlx : pre0.length ≤ 1000000 := by
              have h1 := hSp.length_le
              rw [List.length_map, List.length_append, List.length_singleton] at h1
              have h2 := HGD.out.1.row_len k
              have h3 := HI0.out.m4.size_le
              omega
            rw [hout] at k2
            have HBL7 := Lib.hid hI.bl
            have hz7 := hI.z
            clear hSp hx
            dsimp only
            have hd7 := (Array.getElem?_eq_some_iff.1 hK).1
            have hbw := HBL7.out.size
            have f0 := str1 k1
            have fl0 := k1.lt
            have hn9 := k2.len
            have hso := sortI_own A9 n9 c9 (WR.heap.size + 1) _ W7 k2 (by omega)
            have K1 := Lib.hid k1
            have K2 := Lib.hid k2
            have HKD := Lib.hid hK
            clear k1 k2 hK hI
            gi_wp2_with fail
            refine ⟨trivial, ?_⟩
            refine (callsIn_wide.2 hso).mono ?_
            rintro e W8 ⟨rfl, hO8, hg8⟩
            have hob : ∀ j, (Value.slice A9 0 0).ownBlock = some j → WR.heap.size + 1 ≤ j ∧ ∃ cur, W7.heap[j]? = some (.cells cur 3 (0, 0)) := fun j e => by
              obtain ⟨a, ea, eb⟩ := ownBlock_some e
              have h2 := K2.out
              subst ea
              obtain ⟨cur, hc⟩ := ownE_cells h2
              rw [← eb]
              exact ⟨h2.ge a rfl, cur, hc⟩
            have HOB := Lib.hid hob
            have k8 := K1.out.grownO hg8 (fun e => by have := (HOB.out _ e).1; omega)
            have g0 := str1 k8
            have gl0 := k8.lt
            have HD8 : Hid (W8.heap[D]? = some (.deferred (some []))) := Lib.hid ((hg8.block D hd7 (fun e => by obtain ⟨-, cur, hc⟩ := HOB.out _ e.symm; rw [HKD.out] at hc; cases hc)).trans HKD.out)
            have HB8 := Lib.hid (below_grownO HBL7.out hg8 (by omega) (fun j e => by have := (HOB.out _ e).1; omega))
            have hco := compI_own A9 n9 c9 (WR.heap.size + 1) _ W8 hO8 (by omega)
            have hs8 := hg8.size
            have HO8 := Lib.hid hO8
            clear hso hO8 hg8 hob k8 f0 fl0
            gi_wp2_with fail
            refine ⟨trivial, ?_⟩
            refine (callsIn_wide.2 hco).mono ?_
            rintro e W9 ⟨n', rfl, hn', hO9, hg9⟩
            have hob2 : ∀ j, (Value.slice A9 0 0).ownBlock = some j → WR.heap.size + 1 ≤ j ∧ ∃ cur, W8.heap[j]? = some (.cells cur 3 (0, 0)) := fun j e => by
              obtain ⟨a, ea, eb⟩ := ownBlock_some e
              have h2 := HO8.out
              subst ea
              obtain ⟨cur, hc⟩ := ownE_cells h2
              rw [← eb]
              exact ⟨h2.ge a rfl, cur, hc⟩
            have HD9 : Hid (W9.heap[D]? = some (.deferred (some []))) := Lib.hid ((hg9.block D (by omega) (fun e => by obtain ⟨-, cur, hc⟩ := hob2 _ e.symm; rw [HD8.out] at hc; cases hc)).trans HD8.out)
            have HB9 := Lib.hid (below_grownO HB8.out hg9 (by omega) (fun j e => by have := (hob2 _ e).1; omega))
            have HO9 := Lib.hid hO9
            have hs9 := hg9.size
            clear hco hO9 hg9 hob2
            gi_wp2_with fail
            refine ⟨by simp, .inl ⟨_, _, rfl, run_takeDeferred HD9.out, ?_⟩⟩
            refine ⟨.slice A9 n' c9, by simp [results, Tryd.results11, go_sem, *], ?_⟩
            have hgp := grownBy_putObj' W9 D (.deferred none)
            refine ⟨A9, n', c9, rfl, ?_, below_grown HB9.out hgp (by omega)⟩
            have hcg : SortI.sort (os1 ++ outs2 X u k m) = SortI.sort (outs1 X u k m ++ outs2 X u k m) := SortI.sort_congr (fun x => by rw [List.mem_append, List.mem_append, HMEM.out x])
            rw [HBP.out, ← hcg]
            exact (own_grownN intE_pure HO9.out hgp (fun r e => by cases e; exact .inl ⟨_, HD9.out, rfl⟩)).less (by omega)
      · intro x v kl yd yp w1 cnt1 hkey hlk hv hat hrg1 hcl hg1 hs1 hen
        obtain ⟨x', ex, rfl, -⟩ := Maps.keyOf_int_inv Tryd.underlying3 hkey
        cases ex
        have hgx := met hv hat
        have hval := HGD.out.1.toOk0.vals k (x, v) (MapP.get_mem hgx)
        have HND : Hid (MapP.Nd (X.own k)) := Lib.hid (HGD.out.1.toOk0.nd k)
        have HX := Lib.hid hgx
        have HRG1 := Lib.hid hrg1
        have HG1' := Lib.hid hg1
        have HCL := Lib.hid hcl
        have HLF : Hid (∀ y : Int, (left (intK.lit y) && !(intK.lit y).sameKey (intK.lit x)) = false → left (intK.lit y) = false ∨ y = x) := Lib.hid (fun y h => left_step h)
        have hbx1 := HK.out.bx.grown hg1 (fun j e => by cases e; omega) (by omega)
        have f0 := str1 hbx1.ub
        have f1 := str1 hbx1.mb
        have l0 := hbx1.ub.lt
        have l1 := hbx1.mb.lt
        have hT1 : Modes.Tab w1 := HT.out.below (below_grown HK.out.bl hg1 (by omega)) HT.out.lt
        have HT1 := Lib.hid hT1
        have hsz1 := hg1.size
        clear hkey hlk hv hat hrg1 hcl hs1 hgx hT1
        by_cases hxu : x = u
        · have hd1 : (x != u) = false := by simpa using hxu
          have HNX := Lib.hid (HK.out.pass HND.out HX.out (.inl hxu) HRG1.out HLF.out HCL.out HG1'.out (by omega) (by omega))
          clear hxu hg1 hbx1
          go_wp2_with fail
          go_roundw
          case rel => exact ⟨_, cnt1, HNX⟩
          case measure => rw [HRG1.out.left_eq, HK.out.rg.left_eq]; exact HCL.out
        · have hd1 : (x != u) = true := by simpa using hxu
          go_wp2_with fail
          refine (Modes.fits_any v m w1 HT1.out (Int.le_of_lt hval.1) hval.2 hm0 hm1).mono ?_
          rintro e wy ⟨rfl, rfl⟩
          cases hf : fitsM v m with
          | true =>
            have HNX := Lib.hid (HK.out.pass HND.out HX.out (.inr hf) HRG1.out HLF.out HCL.out HG1'.out (by omega) (by omega))
            clear hxu hg1 hbx1 hf
            go_wp2_with fail
            go_roundw
            case rel => exact ⟨_, cnt1, HNX⟩
            case measure => rw [HRG1.out.left_eq, HK.out.rg.left_eq]; exact HCL.out
          | false =>
            obtain ⟨A, n, c', os, k1, k2, k3, k4, k5⟩ := HK.out.lk
            have hml := HMO.out.size_le
            obtain ⟨i0, hi0, iz0, iz1, iz2⟩ := info_parts infoI
            have hzk := HK.out.z
            obtain ⟨w2, hw2⟩ : ∃ W, w1.alloc (.cells #[.int .i64 x] 3) = W := ⟨_, rfl⟩
            have hba : Below w1.heap.size w1 w2 := by rw [← hw2]; exact balloc (bsame w1) _
            have hsa : Str w2 w1.heap.size #[.int .i64 x] := by rw [← hw2]; exact Str.new w1 _ _
            have hO1 := IntE.grown k2 hg1 (by omega)
            have hO2 := hO1.next hba
            have hbz := hba.size
            obtain ⟨A', c3, w3, happ, hO3, -, hg3, -⟩ := hO2.app (P := Tryd.prog) 32 32 i0 _ 8 Tryd.underlying32 hi0 iz0 iz1 iz2 rfl (IntE.lit (wr := hid A w2) (x := x) hsa) (by unfold maxLen; omega) (by omega) (by omega)
            have hob : (Value.slice A 0 0).ownBlock ≠ some (W2.heap.size + 1 + 1) := fun e => by
              obtain ⟨a, ea, eb⟩ := ownBlock_some e
              have := k2.ge a ea; omega
            have hs1 := k1.grownO hg1 (fun e => by injection e; omega)
            have g1 := str1 hs1
            have gl1 := hs1.lt
            have hs3 := (hs1.next hba).grownO hg3 hob
            have g3 := str1 hs3
            have gf3 := hs3.frozen 0
            have gl3 := hs3.lt
            have HNX := Lib.hid (HK.out.more HND.out HX.out hxu hf k1 k2 k3 k4 k5 HRG1.out HLF.out HCL.out HG1'.out (by omega) (by omega) (by omega) hba hg3 hO3 (by omega))
            clear hxu hg1 hbx1 hf k1 k2 k4 k5 hi0 iz0 iz1 iz2 hba hsa hO1 hO2 hO3 hg3 hob hs1 hs3
            go_wp2_with fail
            go_roundw
            case rel => exact ⟨_, cnt1, HNX⟩
            case measure => rw [HNX.out.rg.left_eq, HK.out.rg.left_eq]; exact HCL.out
theorem blocks_any (t N : Nat) (bs : List Nat) (X : St) (u : Int) (w : World) (h : Lk w t bs N X) (hgd : LockP.Good X) (hf : LockP.Fit X) (hT : Modes.Tab w) (hu : In64 u) (hN : N ≤ 1000000) : Calls Tryd.prog 11 #[.pointer (some ⟨t, 0, none⟩), .int .i64 u] w (GivesI (blocksP X u) w) := by
  cases hg : MapP.get X.goal u with
  | none => exact blocks_none t N bs X u w h hu hg
  | some g => exact blocks_some t N bs X u g.1 g.2 w h hgd hf hT hu hg hN
end LockW
end Go.Proofs.YtkkfabnehhamdaaDoor
end
