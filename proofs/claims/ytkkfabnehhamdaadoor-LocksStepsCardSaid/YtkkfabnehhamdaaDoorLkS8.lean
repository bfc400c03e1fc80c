/-
  Parts of the proof of LocksSteps.
-/
import Derived.Test.YtkkfabnehhamdaaDoorLkS7
import Derived.Test.YtkkfabnehhamdaaDoorLkS0
import Derived.WalkSpells
section
namespace Go.Proofs.YtkkfabnehhamdaaDoor
open Go.RowKit Go.Maps LockP ModesP
set_option linter.unusedVariables false
set_option linter.unusedSimpArgs false
namespace LockW
/-- roles beside the rows -/
def noRow : Role → Bool
  | .que _ => false
  | .itm _ => false
  | _ => true
/-- a table's blocks without those of its rows -/
def rl (lab : Nat → Role) (bs : List Nat) : List Nat := bs.filter fun b => noRow (lab b)
theorem rl_mem {lab : Nat → Role} {bs : List Nat} {b : Nat} (h : b ∈ bs) (hr : noRow (lab b) = true) : b ∈ rl lab bs := List.mem_filter.2 ⟨h, hr⟩
theorem rl_sub {lab : Nat → Role} {bs : List Nat} {b : Nat} (h : b ∈ rl lab bs) : b ∈ bs := (List.mem_filter.1 h).1
/-- the inner maps -/
def Rch (es1 : MapP.T ByteArray (Option Nat)) (es2 : MapP.T Int (Option Nat)) (b : Nat) : Prop := (∃ k, MapP.get es1 k = some (some b)) ∨ ∃ u, MapP.get es2 u = some (some b)
/-- inner maps came, and nothing went -/
structure Stay (n : Nat) (lab : Nat → Role) (bs : List Nat) (es1 : MapP.T ByteArray (Option Nat)) (es2 : MapP.T Int (Option Nat)) (lab' : Nat → Role) (bs' : List Nat) (es1' : MapP.T ByteArray (Option Nat)) (es2' : MapP.T Int (Option Nat)) : Prop where
  new : ∀ b ∈ bs', b ∈ bs ∨ (n ≤ b ∧ Rch es1' es2' b)
  old : ∀ b ∈ bs, b ∈ bs' ∧ lab' b = lab b
  more : ∀ b, Rch es1 es2 b → Rch es1' es2' b
section
variable {n m : Nat} {labA labB labC : Nat → Role} {bsA bsB bsC : List Nat} {eA eB eC : MapP.T ByteArray (Option Nat)} {fA fB fC : MapP.T Int (Option Nat)}
theorem Stay.refl (n : Nat) (labA : Nat → Role) (bsA : List Nat) (eA : MapP.T ByteArray (Option Nat)) (fA : MapP.T Int (Option Nat)) : Stay n labA bsA eA fA labA bsA eA fA := ⟨fun b hb => .inl hb, fun b hb => ⟨hb, rfl⟩, fun b hb => hb⟩
theorem Stay.trans (h : Stay n labA bsA eA fA labB bsB eB fB) (h2 : Stay m labB bsB eB fB labC bsC eC fC) (hs : n ≤ m) : Stay n labA bsA eA fA labC bsC eC fC :=
  ⟨fun b hb => by
    rcases h2.new b hb with hb | ⟨hb, hr⟩
    · rcases h.new b hb with hb | ⟨hb, hr⟩
      · exact .inl hb
      · exact .inr ⟨hb, h2.more b hr⟩
    · exact .inr ⟨Nat.le_trans hs hb, hr⟩,
  fun b hb => ⟨(h2.old b (h.old b hb).1).1, (h2.old b (h.old b hb).1).2.trans (h.old b hb).2⟩, fun b hb => h2.more b (h.more b hb)⟩
theorem Stay.lo (h : Stay n labA bsA eA fA labB bsB eB fB) : ∀ b ∈ bsB, b ∈ bsA ∨ n ≤ b := fun b hb => (h.new b hb).imp id (·.1)
theorem Stay.rl (h : Stay n labA bsA eA fA labB bsB eB fB) : ∀ b ∈ rl labB bsB, b ∈ rl labA bsA ∨ n ≤ b := fun b hb => by
  obtain ⟨hb, hr⟩ := List.mem_filter.1 hb
  rcases h.new b hb with h1 | h1
  · rw [(h.old b h1).2] at hr
    exact .inl (rl_mem h1 hr)
  · exact .inr h1.1
theorem kmore {w w1 w' : World} (h1 : Reg.KeepB w.heap.size (LockW.rl labA bsA) w w1) (hn : Stay w.heap.size labA bsA eA fA labB bsB eB fB) (h2 : Reg.KeepB w1.heap.size (LockW.rl labB bsB) w1 w') : Reg.KeepB w.heap.size (LockW.rl labA bsA) w w' := by
  have hs := Reg.KeepB.size h1
  exact ⟨h2.os.trans h1.os, h2.tape.trans h1.tape, h2.output.trans h1.output, Nat.le_trans hs h2.size, fun i hi hm => (h2.block i (Nat.lt_of_lt_of_le hi hs) (fun h => (hn.rl i h).elim hm (by omega))).trans (h1.block i hi hm)⟩
theorem knext {w w1 w2 w' : World} (h1 : Reg.KeepB w.heap.size (LockW.rl labA bsA) w w1) (hb : Below w1.heap.size w1 w2) (hn : Stay w.heap.size labA bsA eA fA labB bsB eB fB) (h2 : Reg.KeepB w2.heap.size (LockW.rl labB bsB) w2 w') : Reg.KeepB w.heap.size (LockW.rl labA bsA) w w' :=
  kmore (kmore h1 hn (Reg.KeepB.of hb)) hn h2
theorem knew {w w1 w2 w' : World} (h1 : Reg.KeepB w.heap.size (LockW.rl labA bsA) w w1) (hn : Stay w.heap.size labA bsA eA fA labB bsB eB fB) (h2 : Reg.KeepB w1.heap.size (LockW.rl labB bsB) w1 w2) (hp : Stay w1.heap.size labB bsB eB fB labC bsC eC fC) (h3 : Reg.KeepB w2.heap.size (LockW.rl labC bsC) w2 w') : Reg.KeepB w.heap.size (LockW.rl labA bsA) w w' :=
  kmore (kmore h1 hn h2) (hn.trans hp (Reg.KeepB.size h1)) h3
end
section
variable {w w' : World} {t N N' x b b1 b2 b3 b4 : Nat} {bs bs' : List Nat} {X : St} {lab lab' : Nat → Role} {es1 : MapP.T ByteArray (Option Nat)} {es2 : MapP.T Int (Option Nat)} {es3 : MapP.T ByteArray (Option Nat)} {k : ByteArray} {u : Int}
theorem mk1 (W : World) : (Instr.makeMap 74 none).run Tryd.prog W = .ok (.map (some W.heap.size)) (W.alloc (.map #[] 0)) := by kernel_rfl
theorem mk2 (W : World) : (Instr.makeMap 90 none).run Tryd.prog W = .ok (.map (some W.heap.size)) (W.alloc (.map #[] 0)) := by kernel_rfl
/-- a key's map is laid in -/
theorem LkIn.put1 (h : LkIn w t bs N X lab b1 b2 b3 b4 es1 es2 es3) (hk : k.size ≤ 100) (hN : N < maxLen) (hg : MapP.get es1 k = none) :
    ∃ W lab' es1', Stay w.heap.size lab bs es1 es2 lab' (w.heap.size :: bs) es1' es2 ∧ (Instr.mapUpdate 65 (.map (some b1)) (.string k) (.map (some w.heap.size))).run Tryd.prog (w.alloc (.map #[] 0)) = .ok () W ∧ LkIn W t (w.heap.size :: bs) (N + 1) X lab' b1 b2 b3 b4 es1' es2 es3 ∧ MapP.get es1' k = some (some w.heap.size) ∧ Reg.KeepB w.heap.size (rl lab bs) w W := by
  have h1 := h.fresh (.own k) (.map #[] 0)
  obtain ⟨W, hrun, hM, ht⟩ := h1.m1.store lawS Tryd.underlying65 hN (keyS hk) (some w.heap.size)
  have hgr := ht.grown
  have hb1 := h.inb.2.1
  have hlt := h.lo b1 hb1
  have hnd := h.m1.nd
  have hput : ∀ k', MapP.get (MapP.put lS es1 k (some w.heap.size)) k' = if k' = k then some (some w.heap.size) else MapP.get es1 k' := fun k' => MapP.get_put hnd k _ k'
  have hst : Stay w.heap.size lab bs es1 es2 (fun b => if b = w.heap.size then .own k else lab b) (w.heap.size :: bs) (MapP.put lS es1 k (some w.heap.size)) es2 := by
    refine ⟨fun b hb => ?_, fun b hb => ⟨List.mem_cons_of_mem _ hb, if_neg (by have := h.lo b hb; omega)⟩, fun b hb => ?_⟩
    · rcases List.mem_cons.1 hb with rfl | hb
      · exact .inr ⟨Nat.le_refl _, .inl ⟨k, by rw [hput, if_pos rfl]⟩⟩
      · exact .inl hb
    · refine hb.imp (fun ⟨k', hk'⟩ => ⟨k', ?_⟩) id
      rw [hput, if_neg (fun e => by rw [e, hg] at hk'; cases hk')]
      exact hk'
  refine ⟨W, _, _, hst, hrun, h1.m1_turn hgr hM (Nat.le_succ N) (fun k' o ho => ?_) (fun k' ho => ?_), by rw [hput, if_pos rfl], keep_trans (Reg.KeepB.of (balloc (bsame w) _)) hgr (.inl (rl_mem hb1 (by rw [h.labs.2.1]; rfl)))⟩
  · rw [hput] at ho
    by_cases e : k' = k
    · subst e
      rw [if_pos rfl] at ho
      cases ho
      refine .inr ⟨w.heap.size, rfl, by rw [if_pos rfl], by simp, ?_⟩
      rw [h.n1 k' hg]
      have := (MapM.made (P := Tryd.prog) (S := intK) (E := numM) (kt := TI) w).at_ (hgr.block w.heap.size (by simp) (fun e => by injection e with e; omega))
      exact this.mono (Nat.zero_le _)
    · rw [if_neg e] at ho
      exact .inl ho
  · rw [hput] at ho
    by_cases e : k' = k
    · rw [if_pos e] at ho; cases ho
    · rw [if_neg e] at ho; exact h.n1 k' ho
/-- one's map is laid in -/
theorem LkIn.put2 (h : LkIn w t bs N X lab b1 b2 b3 b4 es1 es2 es3) (hu : In64 u) (hN : N < maxLen) (hg : MapP.get es2 u = none) :
    ∃ W lab' es2', Stay w.heap.size lab bs es1 es2 lab' (w.heap.size :: bs) es1 es2' ∧ (Instr.mapUpdate 66 (.map (some b2)) (.int .i64 u) (.map (some w.heap.size))).run Tryd.prog (w.alloc (.map #[] 0)) = .ok () W ∧ LkIn W t (w.heap.size :: bs) (N + 1) X lab' b1 b2 b3 b4 es1 es2' es3 ∧ MapP.get es2' u = some (some w.heap.size) ∧ Reg.KeepB w.heap.size (rl lab bs) w W := by
  have h1 := h.fresh (.mem u) (.map #[] 0)
  obtain ⟨W, hrun, hM, ht⟩ := h1.m2.store lawI Tryd.underlying66 hN (keyI hu) (some w.heap.size)
  have hgr := ht.grown
  have hb2 := h.inb.2.2.1
  have hlt := h.lo b2 hb2
  have hnd := h.m2.nd
  have hput : ∀ u', MapP.get (MapP.put lI es2 u (some w.heap.size)) u' = if u' = u then some (some w.heap.size) else MapP.get es2 u' := fun u' => MapP.get_put hnd u _ u'
  have hst : Stay w.heap.size lab bs es1 es2 (fun b => if b = w.heap.size then .mem u else lab b) (w.heap.size :: bs) es1 (MapP.put lI es2 u (some w.heap.size)) := by
    refine ⟨fun b hb => ?_, fun b hb => ⟨List.mem_cons_of_mem _ hb, if_neg (by have := h.lo b hb; omega)⟩, fun b hb => ?_⟩
    · rcases List.mem_cons.1 hb with rfl | hb
      · exact .inr ⟨Nat.le_refl _, .inr ⟨u, by rw [hput, if_pos rfl]⟩⟩
      · exact .inl hb
    · refine hb.imp id (fun ⟨k', hk'⟩ => ⟨k', ?_⟩)
      rw [hput, if_neg (fun e => by rw [e, hg] at hk'; cases hk')]
      exact hk'
  refine ⟨W, _, _, hst, hrun, h1.m2_turn hgr hM (Nat.le_succ N) (fun u' o ho => ?_) (fun u' ho => ?_), by rw [hput, if_pos rfl], keep_trans (Reg.KeepB.of (balloc (bsame w) _)) hgr (.inl (rl_mem hb2 (by rw [h.labs.2.2.1]; rfl)))⟩
  · rw [hput] at ho
    by_cases e : u' = u
    · subst e
      rw [if_pos rfl] at ho
      cases ho
      refine .inr ⟨w.heap.size, rfl, by rw [if_pos rfl], by simp, ?_⟩
      rw [h.n2 u' hg]
      have := (MapM.made (P := Tryd.prog) (S := strK) (E := unitM) (kt := TS) w).at_ (hgr.block w.heap.size (by simp) (fun e => by injection e with e; omega))
      exact this.mono (Nat.zero_le _)
    · rw [if_neg e] at ho
      exact .inl ho
  · rw [hput] at ho
    by_cases e : u' = u
    · rw [if_pos e] at ho; cases ho
    · rw [if_neg e] at ho; exact h.n2 u' ho
theorem LkIn.set1 (h : LkIn w t bs N X lab b1 b2 b3 b4 es1 es2 es3) (hb : MapP.get es1 k = some (some b)) (hu : In64 u) (hN : N < maxLen) (v : Int) :
    ∃ W, (Instr.mapUpdate 74 (.map (some b)) (.int .i64 u) (.int .i64 v)).run Tryd.prog w = .ok () W ∧ LkIn W t bs (N + 1) { X with own := upd X.own k (MapP.put lI (X.own k) u v) } lab b1 b2 b3 b4 es1 es2 es3 ∧ Reg.KeepB w.heap.size (rl lab bs) w W := by
  obtain ⟨b', e, l, hm, hM⟩ := h.e1 k _ hb
  cases e
  obtain ⟨W, hrun, hM', ht⟩ := hM.store lawI Tryd.underlying74 hN (keyI hu) v
  exact ⟨W, hrun, h.own_turn hb ht.grown hM' (Nat.le_succ N), keep_turn ht.grown (rl_mem hm (by rw [l]; rfl))⟩
theorem LkIn.set2 (h : LkIn w t bs N X lab b1 b2 b3 b4 es1 es2 es3) (hb : MapP.get es2 u = some (some b)) (hk : k.size ≤ 100) (hN : N < maxLen) :
    ∃ W, (Instr.mapUpdate 90 (.map (some b)) (.string k) (.agg #[])).run Tryd.prog w = .ok () W ∧ LkIn W t bs (N + 1) { X with mem := upd X.mem u (MapP.put lS (X.mem u) k ()) } lab b1 b2 b3 b4 es1 es2 es3 ∧ Reg.KeepB w.heap.size (rl lab bs) w W := by
  obtain ⟨b', e, l, hm, hM⟩ := h.e2 u _ hb
  cases e
  obtain ⟨W, hrun, hM', ht⟩ := hM.store lawS Tryd.underlying90 hN (keyS hk) ()
  exact ⟨W, hrun, h.mem_turn hb ht.grown hM' (Nat.le_succ N), keep_turn ht.grown (rl_mem hm (by rw [l]; rfl))⟩
end
theorem keep_more {w w1 w' : World} {bs bsA : List Nat} (h1 : Reg.KeepB w.heap.size bs w w1) (hn : ∀ b ∈ bsA, b ∈ bs ∨ w.heap.size ≤ b) (h2 : Reg.KeepB w1.heap.size bsA w1 w') : Reg.KeepB w.heap.size bs w w' := by
  have hs := Reg.KeepB.size h1
  exact ⟨h2.os.trans h1.os, h2.tape.trans h1.tape, h2.output.trans h1.output, Nat.le_trans hs h2.size, fun i hi hm => (h2.block i (Nat.lt_of_lt_of_le hi hs) (fun h => (hn i h).elim hm (by omega))).trans (h1.block i hi hm)⟩
def HeldIn (w : World) (t : Nat) (bs : List Nat) (N : Nat) (X : St) (lab : Nat → Role) (b1 b2 b3 b4 : Nat) (es1 : MapP.T ByteArray (Option Nat)) (es2 : MapP.T Int (Option Nat)) (es3 : MapP.T ByteArray (Option Nat)) (w' : World) : Prop :=
  ∃ bs' lab' es1' es2', LkIn w' t bs' N X lab' b1 b2 b3 b4 es1' es2' es3 ∧ Stay w.heap.size lab bs es1 es2 lab' bs' es1' es2' ∧ Reg.KeepB w.heap.size (rl lab bs) w w'
theorem HeldIn.told {w w' : World} {t N b1 b2 b3 b4 : Nat} {bs : List Nat} {X : St} {lab : Nat → Role} {es1 : MapP.T ByteArray (Option Nat)} {es2 : MapP.T Int (Option Nat)} {es3 : MapP.T ByteArray (Option Nat)} (h : HeldIn w t bs N X lab b1 b2 b3 b4 es1 es2 es3 w') : Told w t bs N X w' := by
  obtain ⟨bs', lab', es1', es2', hI, hS, hK⟩ := h
  exact ⟨bs', ⟨_, _, _, _, _, _, _, _, hI⟩, hS.lo, ⟨hK.os, hK.tape, hK.output, hK.size, fun i hi hm => hK.block i hi (fun hr => hm (rl_sub hr))⟩⟩
set_option maxRecDepth 100000 in
set_option maxHeartbeats 4000000 in
theorem hold_in (t N : Nat) (bs : List Nat) (X : St) (u : Int) (k : ByteArray) (m : Int) (w : World) (lab : Nat → Role) (b1 b2 b3 b4 : Nat) (es1 : MapP.T ByteArray (Option Nat)) (es2 : MapP.T Int (Option Nat)) (es3 : MapP.T ByteArray (Option Nat)) (h : LkIn w t bs N X lab b1 b2 b3 b4 es1 es2 es3) (hok : Ok0 X) (hu : In64 u) (hk : k.size ≤ 100) (hm0 : 0 ≤ m) (hm1 : m < 4) (hN : N + 4 ≤ 1000000) : Calls Tryd.prog 49 #[.pointer (some ⟨t, 0, none⟩), .int .i64 u, .string k, .int .i64 m] w fun e w' => e = .returned (.tuple #[]) ∧ HeldIn w t bs (N + 4) (hold lI lS X u k m) lab b1 b2 b3 b4 es1 es2 es3 w' := by
  have hmx : (1000000 : Nat) < maxLen := by unfold maxLen; omega
  have q1 : ∀ (W : World) (r : Option Nat), _ := fun W r => run_eql_map_nil (P := Tryd.prog) W 74 _ _ r Tryd.underlying74
  have q2 : ∀ (W : World) (r : Option Nat), _ := fun W r => run_eql_map_nil (P := Tryd.prog) W 90 _ _ r Tryd.underlying90
  have HSB := Lib.hid (hok.set_bd (k := k) (t := u))
  have f1 := str4 h.box
  have hl1 := h.box.lt
  have e1 := h.look1 hk
  cases hg : MapP.get es1 k with
  | some o =>
    obtain ⟨b, e, -⟩ := h.e1 k o hg
    subst e
    rw [hg, Option.getD_some] at e1
    have HI := Lib.hid h
    have HG := Lib.hid hg
    have HK := Lib.hid (Reg.KeepB.of (N := w.heap.size) (b0 := rl lab bs) (Below.refl _ w))
    have HN := Lib.hid (Stay.refl w.heap.size lab bs es1 es2)
    clear h hg hok
    go_enter Tryd.func49, Tryd.ntmps49
    go_wp2_with fail
    clear e1
    refine Reg.wp_region_tail (R := ext) (W := w) [Reg.eqv (.pointer (some ⟨t, 0, none⟩)), Reg.eqv (.pointer (some ⟨t, 0, none⟩)), Reg.eqv (.pointer (some ⟨t, 0, none⟩)), Reg.eqv (.map (some b1)), Reg.eqv (.string k), Reg.eqv (.map (some b)), Reg.eqv (.int .i64 u), Reg.eqv (.pointer (some ⟨t, 0, none⟩)), Reg.eqv (.pointer (some ⟨t, 0, none⟩)), Reg.eqv (.pointer (some ⟨t, 0, none⟩)), Reg.eqv (.map (some b1)), Reg.eqv (.string k), Reg.eqv (.map (some b)), Reg.eqv (.int .i64 u), Reg.eqv (.int .i64 (LockP.set X k u)), Reg.eqv (.int .i64 m), Reg.eqv (.int .i64 (withM (LockP.set X k u) m))] 59 17 _ [[(0, none)], [(21, some 0)], [(22, some 1)], [(23, some 2)], [(2, none)], [(24, some 3), (25, some 4)], [(1, none)], [(0, none)], [(28, some 7)], [(29, some 8)], [(30, some 9)], [(2, none)], [(31, some 10), (32, some 11)], [(1, none)], [(33, some 12), (34, some 13)], [(3, none)], [(35, some 14), (36, some 15)]] rfl (by kernel_rfl) (by kernel_rfl) (by rfl) (by rfl) rfl (by kernel_rfl) ?_ [some 21, some 22, some 23, some 24, some 25, some 26, some 27, some 28, some 29, some 30, some 31, some 32, some 33, some 34, some 35, some 36, some 37] (by kernel_rfl) ?_
    · refine ⟨?_, ?_, ?_, ?_, ?_, ?_, ?_, ?_, ?_, ?_, ?_, ?_, ?_, ?_, ?_, ?_, ?_, trivial⟩
      · intro ax wx hx hs
        obtain ⟨e0, -⟩ := hs
        have g0 := Reg.ev (v := .pointer (some ⟨t, 0, none⟩)) e0
        exact Reg.obl_free rfl (Reg.wp_eqv (Option.some_ne_none _) (by go_simp) rfl)
      · intro ax wx hx hs
        obtain ⟨e21, -⟩ := hs
        have g21 := Reg.ev (v := .pointer (some ⟨t, 0, none⟩)) e21
        exact Reg.obl_free rfl (Reg.wp_eqv (Option.some_ne_none _) (by go_simp) rfl)
      · intro ax wx hx hs
        obtain ⟨e22, -⟩ := hs
        have g22 := Reg.ev (v := .pointer (some ⟨t, 0, none⟩)) e22
        exact Reg.obl_free rfl (Reg.wp_eqv (Option.some_ne_none _) (by go_simp) rfl)
      · intro ax wx hx hs
        obtain ⟨e23, -⟩ := hs
        have g23 := Reg.ev (v := .pointer (some ⟨t, 0, none⟩)) e23
        have l0 := str4 (HI.out.next hx).box
        exact Reg.obl_free rfl (Reg.wp_eqv (Option.some_ne_none _) (by go_simp) rfl)
      · intro ax wx hx hs
        obtain ⟨e2, -⟩ := hs
        have g2 := Reg.ev (v := .string k) e2
        exact Reg.obl_free rfl (Reg.wp_eqv (Option.some_ne_none _) (by go_simp) rfl)
      · intro ax wx hx hs
        obtain ⟨e24, e25, -⟩ := hs
        have g24 := Reg.ev (v := .map (some b1)) e24
        have g25 := Reg.ev (v := .string k) e25
        refine Reg.obl_free rfl ?_
        have e1 : (Instr.lookup 65 (.map (some b1)) (.string k) false).run Tryd.prog wx = .ok (.map (some b)) wx := by have h := (HI.out.next hx).look1 hk; rwa [HG.out] at h
        exact Reg.wp_eqv (Option.some_ne_none _) (by go_simp) rfl
      · intro ax wx hx hs
        obtain ⟨e1, -⟩ := hs
        have g1 := Reg.ev (v := .int .i64 u) e1
        exact Reg.obl_free rfl (Reg.wp_eqv (Option.some_ne_none _) (by go_simp) rfl)
      · intro ax wx hx hs
        obtain ⟨e0, -⟩ := hs
        have g0 := Reg.ev (v := .pointer (some ⟨t, 0, none⟩)) e0
        exact Reg.obl_free rfl (Reg.wp_eqv (Option.some_ne_none _) (by go_simp) rfl)
      · intro ax wx hx hs
        obtain ⟨e28, -⟩ := hs
        have g28 := Reg.ev (v := .pointer (some ⟨t, 0, none⟩)) e28
        exact Reg.obl_free rfl (Reg.wp_eqv (Option.some_ne_none _) (by go_simp) rfl)
      · intro ax wx hx hs
        obtain ⟨e29, -⟩ := hs
        have g29 := Reg.ev (v := .pointer (some ⟨t, 0, none⟩)) e29
        exact Reg.obl_free rfl (Reg.wp_eqv (Option.some_ne_none _) (by go_simp) rfl)
      · intro ax wx hx hs
        obtain ⟨e30, -⟩ := hs
        have g30 := Reg.ev (v := .pointer (some ⟨t, 0, none⟩)) e30
        have l0 := str4 (HI.out.next hx).box
        exact Reg.obl_free rfl (Reg.wp_eqv (Option.some_ne_none _) (by go_simp) rfl)
      · intro ax wx hx hs
        obtain ⟨e2, -⟩ := hs
        have g2 := Reg.ev (v := .string k) e2
        exact Reg.obl_free rfl (Reg.wp_eqv (Option.some_ne_none _) (by go_simp) rfl)
      · intro ax wx hx hs
        obtain ⟨e31, e32, -⟩ := hs
        have g31 := Reg.ev (v := .map (some b1)) e31
        have g32 := Reg.ev (v := .string k) e32
        refine Reg.obl_free rfl ?_
        have e1 : (Instr.lookup 65 (.map (some b1)) (.string k) false).run Tryd.prog wx = .ok (.map (some b)) wx := by have h := (HI.out.next hx).look1 hk; rwa [HG.out] at h
        exact Reg.wp_eqv (Option.some_ne_none _) (by go_simp) rfl
      · intro ax wx hx hs
        obtain ⟨e1, -⟩ := hs
        have g1 := Reg.ev (v := .int .i64 u) e1
        exact Reg.obl_free rfl (Reg.wp_eqv (Option.some_ne_none _) (by go_simp) rfl)
      · intro ax wx hx hs
        obtain ⟨e33, e34, -⟩ := hs
        have g33 := Reg.ev (v := .map (some b)) e33
        have g34 := Reg.ev (v := .int .i64 u) e34
        refine Reg.obl_free rfl ?_
        have e2 : (Instr.lookup 74 (.map (some b)) (.int .i64 u) false).run Tryd.prog wx = .ok (.int .i64 (LockP.set X k u)) wx := by have h := (HI.out.next hx).lookSet k hu; rwa [HG.out] at h
        exact Reg.wp_eqv (Option.some_ne_none _) (by go_simp) rfl
      · intro ax wx hx hs
        obtain ⟨e3, -⟩ := hs
        have g3 := Reg.ev (v := .int .i64 m) e3
        exact Reg.obl_free rfl (Reg.wp_eqv (Option.some_ne_none _) (by go_simp) rfl)
      · intro ax wx hx hs
        obtain ⟨e35, e36, -⟩ := hs
        have g35 := Reg.ev (v := .int .i64 (LockP.set X k u)) e35
        have g36 := Reg.ev (v := .int .i64 m) e36
        refine Reg.obl_free rfl ?_
        go_simp
        refine (Modes.with_any (LockP.set X k u) m wx HSB.out.1 HSB.out.2 hm0 hm1).mono ?_
        rintro r wy ⟨rfl, rfl⟩
        exact Reg.done (Option.some_ne_none _) rfl (bsame _)
    · intro WB hwf
      simp only [Reg.Fin]
      rintro _ rfl _ rfl _ rfl _ rfl _ rfl _ rfl _ rfl _ rfl _ rfl _ rfl _ rfl _ rfl _ rfl _ rfl _ rfl _ rfl _ rfl
      have hwf' : Below w.heap.size w WB := hwf
      have hI4 := HI.out.next hwf'
      obtain ⟨WC, hr2, hI2, hK2⟩ := hI4.set1 HG.out hu (by omega) (withM (LockP.set X k u) m)
      have HKC : Hid (Reg.KeepB w.heap.size (rl lab bs) w WC) := Lib.hid (knext HK.out hwf' HN.out hK2)
      have HI2 := Lib.hid hI2
      clear hwf hwf' hI4 hI2 hK2 HI HG HK f1 hl1
      refine Reg.Goal.mk ?_
      go_simp
      clear hr2
      have f1 := str4 HI2.out.box
      have hl1 := HI2.out.box.lt
      have e3 := HI2.out.look2 hu
      cases hg2 : MapP.get es2 u with
      | some o2 =>
        obtain ⟨c, ec, -⟩ := HI2.out.e2 u o2 hg2
        subst ec
        have HG2 := Lib.hid hg2
        rw [hg2, Option.getD_some] at e3
        obtain ⟨WD, hr3, hI3, hK3⟩ := HI2.out.set2 hg2 hk (by omega)
        have HK3 : Hid (Reg.KeepB w.heap.size (rl lab bs) w WD) := Lib.hid (kmore HKC.out HN.out hK3)
        have HI3 := Lib.hid hI3
        clear hI3 hK3 hg2 HI2 HKC
        go_wp2_with fail
        go_end0
        exact ⟨rfl, _, _, _, _, HI3.out.mono (by omega), HN.out, HK3.out⟩
      | none =>
        rw [hg2] at e3
        have e3' : (Instr.lookup 66 (.map (some b2)) (.int .i64 u) false).run Tryd.prog WC = .ok (.map none) WC := e3
        have hm2 := mk2 WC
        obtain ⟨WE, lab9, es9, hS5, hr5, hI5, hG5, hK5⟩ := HI2.out.put2 hu (by omega) hg2
        obtain ⟨WD, hr3, hI3, hK3⟩ := hI5.set2 hG5 hk (by omega)
        have f5 := str4 hI5.box
        have hl5 := hI5.box.lt
        have e5 := hI5.look2 hu
        rw [hG5, Option.getD_some] at e5
        have HK3 : Hid (Reg.KeepB w.heap.size (rl lab bs) w WD) := Lib.hid (knew HKC.out HN.out hK5 hS5 hK3)
        have HN3 := Lib.hid (HN.out.trans hS5 (Reg.KeepB.size HKC.out))
        have HI3 := Lib.hid hI3
        have f3 := str4 HI3.out.box
        clear hI3 hK3 hg2 HI2 HKC hI5 hG5 hK5 hS5 e3
        go_wp2_with fail
        go_end0
        exact ⟨rfl, _, _, _, _, HI3.out.mono (by omega), HN3.out, HK3.out⟩
  | none =>
    rw [hg] at e1
    have e1' : (Instr.lookup 65 (.map (some b1)) (.string k) false).run Tryd.prog w = .ok (.map none) w := e1
    have hmk := mk1 w
    obtain ⟨WA, lab2, es2_, hS1, hr1, hI1, hG1, hK1⟩ := h.put1 hk (by omega) hg
    have HI := Lib.hid hI1
    have HG := Lib.hid hG1
    have HK := Lib.hid hK1
    have HN := Lib.hid hS1
    clear h hg hok e1 hI1 hG1 hK1 hS1
    go_enter Tryd.func49, Tryd.ntmps49
    go_wp2_with fail
    clear e1' hr1 hmk f1 hl1
    have f1 := str4 HI.out.box
    have hl1 := HI.out.box.lt
    refine Reg.wp_region_tail (R := ext) (W := WA) [Reg.eqv (.pointer (some ⟨t, 0, none⟩)), Reg.eqv (.pointer (some ⟨t, 0, none⟩)), Reg.eqv (.pointer (some ⟨t, 0, none⟩)), Reg.eqv (.map (some b1)), Reg.eqv (.string k), Reg.eqv (.map (some w.heap.size)), Reg.eqv (.int .i64 u), Reg.eqv (.pointer (some ⟨t, 0, none⟩)), Reg.eqv (.pointer (some ⟨t, 0, none⟩)), Reg.eqv (.pointer (some ⟨t, 0, none⟩)), Reg.eqv (.map (some b1)), Reg.eqv (.string k), Reg.eqv (.map (some w.heap.size)), Reg.eqv (.int .i64 u), Reg.eqv (.int .i64 (LockP.set X k u)), Reg.eqv (.int .i64 m), Reg.eqv (.int .i64 (withM (LockP.set X k u) m))] 59 17 _ [[(0, none)], [(21, some 0)], [(22, some 1)], [(23, some 2)], [(2, none)], [(24, some 3), (25, some 4)], [(1, none)], [(0, none)], [(28, some 7)], [(29, some 8)], [(30, some 9)], [(2, none)], [(31, some 10), (32, some 11)], [(1, none)], [(33, some 12), (34, some 13)], [(3, none)], [(35, some 14), (36, some 15)]] rfl (by kernel_rfl) (by kernel_rfl) (by rfl) (by rfl) rfl (by kernel_rfl) ?_ [some 21, some 22, some 23, some 24, some 25, some 26, some 27, some 28, some 29, some 30, some 31, some 32, some 33, some 34, some 35, some 36, some 37] (by kernel_rfl) ?_
    · refine ⟨?_, ?_, ?_, ?_, ?_, ?_, ?_, ?_, ?_, ?_, ?_, ?_, ?_, ?_, ?_, ?_, ?_, trivial⟩
      · intro ax wx hx hs
        obtain ⟨e0, -⟩ := hs
        have g0 := Reg.ev (v := .pointer (some ⟨t, 0, none⟩)) e0
        exact Reg.obl_free rfl (Reg.wp_eqv (Option.some_ne_none _) (by go_simp) rfl)
      · intro ax wx hx hs
        obtain ⟨e21, -⟩ := hs
        have g21 := Reg.ev (v := .pointer (some ⟨t, 0, none⟩)) e21
        exact Reg.obl_free rfl (Reg.wp_eqv (Option.some_ne_none _) (by go_simp) rfl)
      · intro ax wx hx hs
        obtain ⟨e22, -⟩ := hs
        have g22 := Reg.ev (v := .pointer (some ⟨t, 0, none⟩)) e22
        exact Reg.obl_free rfl (Reg.wp_eqv (Option.some_ne_none _) (by go_simp) rfl)
      · intro ax wx hx hs
        obtain ⟨e23, -⟩ := hs
        have g23 := Reg.ev (v := .pointer (some ⟨t, 0, none⟩)) e23
        have l0 := str4 (HI.out.next hx).box
        exact Reg.obl_free rfl (Reg.wp_eqv (Option.some_ne_none _) (by go_simp) rfl)
      · intro ax wx hx hs
        obtain ⟨e2, -⟩ := hs
        have g2 := Reg.ev (v := .string k) e2
        exact Reg.obl_free rfl (Reg.wp_eqv (Option.some_ne_none _) (by go_simp) rfl)
      · intro ax wx hx hs
        obtain ⟨e24, e25, -⟩ := hs
        have g24 := Reg.ev (v := .map (some b1)) e24
        have g25 := Reg.ev (v := .string k) e25
        refine Reg.obl_free rfl ?_
        have e1 : (Instr.lookup 65 (.map (some b1)) (.string k) false).run Tryd.prog wx = .ok (.map (some w.heap.size)) wx := by have h := (HI.out.next hx).look1 hk; rwa [HG.out] at h
        exact Reg.wp_eqv (Option.some_ne_none _) (by go_simp) rfl
      · intro ax wx hx hs
        obtain ⟨e1, -⟩ := hs
        have g1 := Reg.ev (v := .int .i64 u) e1
        exact Reg.obl_free rfl (Reg.wp_eqv (Option.some_ne_none _) (by go_simp) rfl)
      · intro ax wx hx hs
        obtain ⟨e0, -⟩ := hs
        have g0 := Reg.ev (v := .pointer (some ⟨t, 0, none⟩)) e0
        exact Reg.obl_free rfl (Reg.wp_eqv (Option.some_ne_none _) (by go_simp) rfl)
      · intro ax wx hx hs
        obtain ⟨e28, -⟩ := hs
        have g28 := Reg.ev (v := .pointer (some ⟨t, 0, none⟩)) e28
        exact Reg.obl_free rfl (Reg.wp_eqv (Option.some_ne_none _) (by go_simp) rfl)
      · intro ax wx hx hs
        obtain ⟨e29, -⟩ := hs
        have g29 := Reg.ev (v := .pointer (some ⟨t, 0, none⟩)) e29
        exact Reg.obl_free rfl (Reg.wp_eqv (Option.some_ne_none _) (by go_simp) rfl)
      · intro ax wx hx hs
        obtain ⟨e30, -⟩ := hs
        have g30 := Reg.ev (v := .pointer (some ⟨t, 0, none⟩)) e30
        have l0 := str4 (HI.out.next hx).box
        exact Reg.obl_free rfl (Reg.wp_eqv (Option.some_ne_none _) (by go_simp) rfl)
      · intro ax wx hx hs
        obtain ⟨e2, -⟩ := hs
        have g2 := Reg.ev (v := .string k) e2
        exact Reg.obl_free rfl (Reg.wp_eqv (Option.some_ne_none _) (by go_simp) rfl)
      · intro ax wx hx hs
        obtain ⟨e31, e32, -⟩ := hs
        have g31 := Reg.ev (v := .map (some b1)) e31
        have g32 := Reg.ev (v := .string k) e32
        refine Reg.obl_free rfl ?_
        have e1 : (Instr.lookup 65 (.map (some b1)) (.string k) false).run Tryd.prog wx = .ok (.map (some w.heap.size)) wx := by have h := (HI.out.next hx).look1 hk; rwa [HG.out] at h
        exact Reg.wp_eqv (Option.some_ne_none _) (by go_simp) rfl
      · intro ax wx hx hs
        obtain ⟨e1, -⟩ := hs
        have g1 := Reg.ev (v := .int .i64 u) e1
        exact Reg.obl_free rfl (Reg.wp_eqv (Option.some_ne_none _) (by go_simp) rfl)
      · intro ax wx hx hs
        obtain ⟨e33, e34, -⟩ := hs
        have g33 := Reg.ev (v := .map (some w.heap.size)) e33
        have g34 := Reg.ev (v := .int .i64 u) e34
        refine Reg.obl_free rfl ?_
        have e2 : (Instr.lookup 74 (.map (some w.heap.size)) (.int .i64 u) false).run Tryd.prog wx = .ok (.int .i64 (LockP.set X k u)) wx := by have h := (HI.out.next hx).lookSet k hu; rwa [HG.out] at h
        exact Reg.wp_eqv (Option.some_ne_none _) (by go_simp) rfl
      · intro ax wx hx hs
        obtain ⟨e3, -⟩ := hs
        have g3 := Reg.ev (v := .int .i64 m) e3
        exact Reg.obl_free rfl (Reg.wp_eqv (Option.some_ne_none _) (by go_simp) rfl)
      · intro ax wx hx hs
        obtain ⟨e35, e36, -⟩ := hs
        have g35 := Reg.ev (v := .int .i64 (LockP.set X k u)) e35
        have g36 := Reg.ev (v := .int .i64 m) e36
        refine Reg.obl_free rfl ?_
        go_simp
        refine (Modes.with_any (LockP.set X k u) m wx HSB.out.1 HSB.out.2 hm0 hm1).mono ?_
        rintro r wy ⟨rfl, rfl⟩
        exact Reg.done (Option.some_ne_none _) rfl (bsame _)
    · intro WB hwf
      simp only [Reg.Fin]
      rintro _ rfl _ rfl _ rfl _ rfl _ rfl _ rfl _ rfl _ rfl _ rfl _ rfl _ rfl _ rfl _ rfl _ rfl _ rfl _ rfl _ rfl
      have hwf' : Below WA.heap.size WA WB := hwf
      have hI4 := HI.out.next hwf'
      obtain ⟨WC, hr2, hI2, hK2⟩ := hI4.set1 HG.out hu (by omega) (withM (LockP.set X k u) m)
      have HKC : Hid (Reg.KeepB w.heap.size (rl lab bs) w WC) := Lib.hid (knext HK.out hwf' HN.out hK2)
      have HI2 := Lib.hid hI2
      clear hwf hwf' hI4 hI2 hK2 HI HG HK f1 hl1
      refine Reg.Goal.mk ?_
      go_simp
      clear hr2
      have f1 := str4 HI2.out.box
      have hl1 := HI2.out.box.lt
      have e3 := HI2.out.look2 hu
      cases hg2 : MapP.get es2 u with
      | some o2 =>
        obtain ⟨c, ec, -⟩ := HI2.out.e2 u o2 hg2
        subst ec
        have HG2 := Lib.hid hg2
        rw [hg2, Option.getD_some] at e3
        obtain ⟨WD, hr3, hI3, hK3⟩ := HI2.out.set2 hg2 hk (by omega)
        have HK3 : Hid (Reg.KeepB w.heap.size (rl lab bs) w WD) := Lib.hid (kmore HKC.out HN.out hK3)
        have HI3 := Lib.hid hI3
        clear hI3 hK3 hg2 HI2 HKC
        go_wp2_with fail
        go_end0
        exact ⟨rfl, _, _, _, _, HI3.out.mono (by omega), HN.out, HK3.out⟩
      | none =>
        rw [hg2] at e3
        have e3' : (Instr.lookup 66 (.map (some b2)) (.int .i64 u) false).run Tryd.prog WC = .ok (.map none) WC := e3
        have hm2 := mk2 WC
        obtain ⟨WE, lab9, es9, hS5, hr5, hI5, hG5, hK5⟩ := HI2.out.put2 hu (by omega) hg2
        obtain ⟨WD, hr3, hI3, hK3⟩ := hI5.set2 hG5 hk (by omega)
        have f5 := str4 hI5.box
        have hl5 := hI5.box.lt
        have e5 := hI5.look2 hu
        rw [hG5, Option.getD_some] at e5
        have HK3 : Hid (Reg.KeepB w.heap.size (rl lab bs) w WD) := Lib.hid (knew HKC.out HN.out hK5 hS5 hK3)
        have HN3 := Lib.hid (HN.out.trans hS5 (Reg.KeepB.size HKC.out))
        have HI3 := Lib.hid hI3
        have f3 := str4 HI3.out.box
        clear hI3 hK3 hg2 HI2 HKC hI5 hG5 hK5 hS5 e3
        go_wp2_with fail
        go_end0
        exact ⟨rfl, _, _, _, _, HI3.out.mono (by omega), HN3.out, HK3.out⟩
theorem hold_any (t N : Nat) (bs : List Nat) (X : St) (u : Int) (k : ByteArray) (m : Int) (w : World) (h : Lk w t bs N X) (hok : Ok0 X) (hu : In64 u) (hk : k.size ≤ 100) (hm0 : 0 ≤ m) (hm1 : m < 4) (hN : N + 4 ≤ 1000000) : Calls Tryd.prog 49 #[.pointer (some ⟨t, 0, none⟩), .int .i64 u, .string k, .int .i64 m] w fun e w' => e = .returned (.tuple #[]) ∧ Told w t bs (N + 4) (hold lI lS X u k m) w' := by
  obtain ⟨lab, b1, b2, b3, b4, es1, es2, es3, h⟩ := h
  exact (hold_in t N bs X u k m w lab b1 b2 b3 b4 es1 es2 es3 h hok hu hk hm0 hm1 hN).mono fun e w' hp => ⟨hp.1, hp.2.told⟩
end LockW
end Go.Proofs.YtkkfabnehhamdaaDoor
end
