/-
  Parts of the proof of LocksSteps.
-/
import Derived.Test.YtkkfabnehhamdaaDoorLkS10
import Derived.Test.YtkkfabnehhamdaaDoorLkS8
import Derived.Test.YtkkfabnehhamdaaDoorLkS2
section
namespace Go.Proofs.YtkkfabnehhamdaaDoor
open Go.RowKit Go.Maps LockP ModesP
set_option linter.unusedVariables false
set_option linter.unusedSimpArgs false
namespace LockW
theorem ask_any (t N : Nat) (bs : List Nat) (X : St) (u : Int) (k : ByteArray) (m : Int) (w : World) (h : Lk w t bs N X) (hok : Ok0 X) (hrow : ∀ p ∈ X.row k, 0 ≤ p.2 ∧ p.2 < 4) (hT : Modes.Tab w) (hu : In64 u) (hk : k.size ≤ 100) (hN : N + 8 ≤ 1000000) : Calls Tryd.prog 29 #[.pointer (some ⟨t, 0, none⟩), .int .i64 u, .string k, .int .i64 m] w (Asked t N bs X u k m w) := by
  cases hm : isM m with
  | false => exact ask_bad t N bs X u k m w h hm
  | true =>
    cases hw : MapP.has X.goal u with
    | true => exact ask_waits t N bs X u k m w h hu hm hw
    | false =>
      cases hs : hasM (LockP.set X k u) m with
      | true => exact ask_has t N bs X u k m w h hok hu hk hm hw hs
      | false => exact ask_row t N bs X u k m w h hok hrow hT hu hk hN hm hw hs
set_option maxRecDepth 100000 in
set_option maxHeartbeats 1000000 in
theorem leaveIs (g : Nat) (x y : Int × Int) (w : World) (h : Str w g #[.int .i64 y.1, .int .i64 y.2]) : Calls Tryd.prog 58 #[.agg #[.int .i64 x.1, .int .i64 x.2], .pointer (some ⟨g, 0, none⟩)] w fun e w' => e = .returned (.bool (decide (x = y))) ∧ Below w.heap.size w w' := by
  have g0 := str2 h
  have gl := h.lt
  go_enter Tryd.func58, Tryd.ntmps58
  go_wp2_with fail
  all_goals
    go_ret
    refine ⟨?_, balloc (bsame w) _⟩
    congr 2
    simp_all [Prod.ext_iff]
set_option maxRecDepth 100000 in
set_option maxHeartbeats 1000000 in
theorem grantIs (t g N : Nat) (bs : List Nat) (X : St) (x : Int × Int) (w : World) (h : Lk w t bs N X) (hg : Str w g #[.pointer (some ⟨t, 0, none⟩)]) (hx : In64 x.1) : Calls Tryd.prog 75 #[.agg #[.int .i64 x.1, .int .i64 x.2], .pointer (some ⟨g, 0, none⟩)] w fun e w' => e = .returned (.bool (!MapP.has X.goal x.1)) ∧ Below w.heap.size w w' := by
  obtain ⟨lab, b1, b2, b3, b4, es1, es2, es3, h⟩ := h
  obtain ⟨W0, hW0⟩ : ∃ W, w.alloc (.cells #[.int .i64 x.1, .int .i64 x.2] 80) = W := ⟨_, rfl⟩
  have hb0 : Below w.heap.size w W0 := by rw [← hW0]; exact balloc (bsame w) _
  have hs0 : Str W0 w.heap.size #[.int .i64 x.1, .int .i64 x.2] := by rw [← hW0]; exact Str.new w _ _
  obtain ⟨⟨gk, gm⟩, hgd⟩ : ∃ y, (MapP.get X.goal x.1).getD (⟨#[]⟩, 0) = y := ⟨_, rfl⟩
  obtain ⟨hb, hhb⟩ : ∃ y, MapP.has X.goal x.1 = y := ⟨_, rfl⟩
  have HLK : Hid (∀ wx, Below W0.heap.size W0 wx → (Instr.lookup 68 (.map (some b4)) (.int .i64 x.1) true).run Tryd.prog wx = .ok (.tuple #[.agg #[.string gk, .int .i64 gm], .bool hb]) wx) := Lib.hid (fun wx hwx => by have h4 := ((h.next hb0).next hwx).look4 hx; rw [hgd, hhb] at h4; exact h4)
  rw [hhb]
  clear hgd hhb
  have HI := Lib.hid (h.next hb0)
  have HG := Lib.hid (hg.next hb0)
  have HS := Lib.hid hs0
  have HB := Lib.hid hb0
  have HX := Lib.hid hx
  clear h hg hs0 hb0 hx
  go_enter Tryd.func75, Tryd.ntmps75
  go_wp2_with fail
  have hOK : Reg.okS W0.heap.size (Reg.BxS.mk [(10, 4, 11)] (fun t => if t = 4 then #[.string ByteArray.empty, .int .i64 0] else #[]) (fun t => if t = 4 then (Reg.rowM (Reg.eqM (.agg #[.string gk, .int .i64 gm]))) else (Reg.rowM (Reg.eqM undef))) [] (fun t => (Reg.eqM undef)) []) := Reg.okS_of rfl List.Pairwise.nil (fun k hk => by cases hk)
  refine Reg.wp_region_box (R := (Reg.extB W0.heap.size (Reg.BxS.b0 (Reg.BxS.mk [(10, 4, 11)] (fun t => if t = 4 then #[.string ByteArray.empty, .int .i64 0] else #[]) (fun t => if t = 4 then (Reg.rowM (Reg.eqM (.agg #[.string gk, .int .i64 gm]))) else (Reg.rowM (Reg.eqM undef))) [] (fun t => (Reg.eqM undef)) [])))) (W := W0) (Reg.BJ W0.heap.size (Reg.BxS.mk [(10, 4, 11)] (fun t => if t = 4 then #[.string ByteArray.empty, .int .i64 0] else #[]) (fun t => if t = 4 then (Reg.rowM (Reg.eqM (.agg #[.string gk, .int .i64 gm]))) else (Reg.rowM (Reg.eqM undef))) [] (fun t => (Reg.eqM undef)) [])) [Reg.eqv (.pointer (some ⟨t, 0, none⟩)), Reg.eqv (.pointer (some ⟨t, 0, none⟩)), Reg.eqv (.pointer (some ⟨t, 3, none⟩)), Reg.eqv (.map (some b4)), Reg.eqv (.pointer (some ⟨w.heap.size, 0, none⟩)), Reg.eqv (.int .i64 x.1), Reg.eqv (.tuple #[.agg #[.string gk, .int .i64 gm], .bool hb]), Reg.eqv (.tuple #[.agg #[.string gk, .int .i64 gm], .bool hb]), Reg.eqv (.agg #[.string gk, .int .i64 gm]), Reg.eqv (.bool hb), Reg.any, Reg.any, Reg.eqv (.bool hb)] 18 [[(1, none)], [(7, some 0)], [(8, some 1)], [(9, some 2)], [(2, none)], [(11, some 4)], [(10, some 3), (12, some 5)], [(13, some 6)], [(6, some 7)], [(6, some 7)], [], [(4, some 10), (14, some 8)], [(15, some 9)]] rfl (by kernel_rfl) (by kernel_rfl) (fun _ h => Reg.bj_zero (fun k hk => by cases hk) h) (by kernel_rfl) ?_ [some 7, some 8, some 9, some 10, some 11, some 12, some 13, some 6, some 14, some 15, some 4, none, some 5] (by kernel_rfl) ?_
  · refine ⟨?_, ?_, ?_, ?_, ?_, ?_, ?_, ?_, ?_, ?_, ?_, ?_, ?_, trivial⟩
    · refine Reg.oblB_pure rfl rfl rfl ?_
      intro ax wx hx hs hmm
      replace hx : Below W0.heap.size W0 wx := hx.below (Nat.le_refl _) (fun b hb => by cases hb)
      obtain ⟨e1, -⟩ := hs
      have g1 := Reg.ev (v := .pointer (some ⟨g, 0, none⟩)) e1
      have l0 := (HG.out.next hx).cell 0
      have l1 := str4 (HI.out.next hx).box
      have l2 := str2 (HS.out.next hx)
      exact (Reg.wp_eqvB (Option.some_ne_none _) (by go_simp) rfl)
    · refine Reg.oblB_pure rfl rfl rfl ?_
      intro ax wx hx hs hmm
      replace hx : Below W0.heap.size W0 wx := hx.below (Nat.le_refl _) (fun b hb => by cases hb)
      obtain ⟨e7, -⟩ := hs
      have g7 := Reg.ev (v := .pointer (some ⟨t, 0, none⟩)) e7
      exact (Reg.wp_eqvB (Option.some_ne_none _) (by go_simp) rfl)
    · refine Reg.oblB_pure rfl rfl rfl ?_
      intro ax wx hx hs hmm
      replace hx : Below W0.heap.size W0 wx := hx.below (Nat.le_refl _) (fun b hb => by cases hb)
      obtain ⟨e8, -⟩ := hs
      have g8 := Reg.ev (v := .pointer (some ⟨t, 0, none⟩)) e8
      exact (Reg.wp_eqvB (Option.some_ne_none _) (by go_simp) rfl)
    · refine Reg.oblB_pure rfl rfl rfl ?_
      intro ax wx hx hs hmm
      replace hx : Below W0.heap.size W0 wx := hx.below (Nat.le_refl _) (fun b hb => by cases hb)
      obtain ⟨e9, -⟩ := hs
      have g9 := Reg.ev (v := .pointer (some ⟨t, 3, none⟩)) e9
      have l0 := (HG.out.next hx).cell 0
      have l1 := str4 (HI.out.next hx).box
      have l2 := str2 (HS.out.next hx)
      exact (Reg.wp_eqvB (Option.some_ne_none _) (by go_simp) rfl)
    · refine Reg.oblB_pure rfl rfl rfl ?_
      intro ax wx hx hs hmm
      replace hx : Below W0.heap.size W0 wx := hx.below (Nat.le_refl _) (fun b hb => by cases hb)
      obtain ⟨e2, -⟩ := hs
      have g2 := Reg.ev (v := .pointer (some ⟨w.heap.size, 0, none⟩)) e2
      exact (Reg.wp_eqvB (Option.some_ne_none _) (by go_simp) rfl)
    · refine Reg.oblB_pure rfl rfl rfl ?_
      intro ax wx hx hs hmm
      replace hx : Below W0.heap.size W0 wx := hx.below (Nat.le_refl _) (fun b hb => by cases hb)
      obtain ⟨e11, -⟩ := hs
      have g11 := Reg.ev (v := .pointer (some ⟨w.heap.size, 0, none⟩)) e11
      have l0 := (HG.out.next hx).cell 0
      have l1 := str4 (HI.out.next hx).box
      have l2 := str2 (HS.out.next hx)
      exact (Reg.wp_eqvB (Option.some_ne_none _) (by go_simp) rfl)
    · refine Reg.oblB_pure rfl rfl rfl ?_
      intro ax wx hx hs hmm
      replace hx : Below W0.heap.size W0 wx := hx.below (Nat.le_refl _) (fun b hb => by cases hb)
      obtain ⟨e10, e12, -⟩ := hs
      have g10 := Reg.ev (v := .map (some b4)) e10
      have g12 := Reg.ev (v := .int .i64 x.1) e12
      have hlk := HLK.out wx hx
      exact Reg.wp_eqvB (Option.some_ne_none _) (by go_simp) rfl
    · refine Reg.oblB_pure rfl rfl rfl ?_
      intro ax wx hx hs hmm
      replace hx : Below W0.heap.size W0 wx := hx.below (Nat.le_refl _) (fun b hb => by cases hb)
      obtain ⟨e13, -⟩ := hs
      have g13 := Reg.ev (v := .tuple #[.agg #[.string gk, .int .i64 gm], .bool hb]) e13
      exact (Reg.wp_eqvB (Option.some_ne_none _) (by go_simp) rfl)
    · refine Reg.oblB_pure rfl rfl rfl ?_
      intro ax wx hx hs hmm
      replace hx : Below W0.heap.size W0 wx := hx.below (Nat.le_refl _) (fun b hb => by cases hb)
      obtain ⟨e6, -⟩ := hs
      have g6 := Reg.ev (v := .tuple #[.agg #[.string gk, .int .i64 gm], .bool hb]) e6
      exact (Reg.wp_eqvB (Option.some_ne_none _) (by go_simp) rfl)
    · refine Reg.oblB_pure rfl rfl rfl ?_
      intro ax wx hx hs hmm
      replace hx : Below W0.heap.size W0 wx := hx.below (Nat.le_refl _) (fun b hb => by cases hb)
      obtain ⟨e6, -⟩ := hs
      have g6 := Reg.ev (v := .tuple #[.agg #[.string gk, .int .i64 gm], .bool hb]) e6
      exact (Reg.wp_eqvB (Option.some_ne_none _) (by go_simp) rfl)
    · refine Reg.oblB_alloc rfl rfl hOK (t := 4) (js := 11) (List.mem_of_getElem? (i := 0) rfl) rfl (by show 4 < 18; decide) (by show 10 < 13; decide) (fun _ _ => trivial) (by rfl) ?_
      intro ax wx hx
      replace hx : Below W0.heap.size W0 wx := hx.below (Nat.le_refl _) (fun b hb => by cases hb)
      exact Reg.al_box rfl (by kernel_rfl)
    · refine Reg.oblB_store rfl rfl hOK (t := 4) (ja := 10) (List.mem_of_getElem? (i := 0) rfl) rfl (by show 11 < 13; decide) (by kernel_rfl) (fun _ _ => trivial) ?_
      intro ax wx rb g hx hrb hs hmm he hS
      replace hx : Below W0.heap.size W0 wx := hx.below (Nat.le_refl _) (fun b hb => by cases hb)
      obtain ⟨e4, e14, -⟩ := hs
      have g14 := Reg.ev (v := .agg #[.string gk, .int .i64 gm]) e14
      exact Reg.st_box rfl (Reg.run_st_box rfl he e14 hS rfl (by kernel_rfl) rfl) rfl rfl
    · refine Reg.oblB_pure rfl rfl rfl ?_
      intro ax wx hx hs hmm
      replace hx : Below W0.heap.size W0 wx := hx.below (Nat.le_refl _) (fun b hb => by cases hb)
      obtain ⟨e15, -⟩ := hs
      have g15 := Reg.ev (v := .bool hb) e15
      exact (Reg.wp_eqvB (Option.some_ne_none _) (by go_simp) rfl)
  · intro W1 listed hwf hall
    simp only [Reg.Fin]
    rintro _ rfl _ rfl _ rfl _ rfl _ rfl _ rfl _ rfl _ rfl _ rfl _ rfl v4 h4 vn11 hn11 _ rfl
    intro hJ
    obtain ⟨hJM, hJB, hJN, hJ0⟩ := Reg.bj_end (n := 13) hall (by show ∀ b ∈ ([(10, 4, 11)] : List (Nat × Tmp × Nat)), b.1 < 13 ∧ b.2.2 < 13; decide) (by show ∀ m ∈ ([] : List (Nat × Tmp)), m.1 < 13; decide) (by show ∀ k ∈ ([] : List Nat), k < 13; decide) hJ
    obtain ⟨b4, cs4, eb4, hb4, hS4, hX4⟩ := hJB (10, 4, 11) (List.mem_of_getElem? (i := 0) rfl)
    have ec4 : v4 = .pointer (some ⟨b4, 0, none⟩) := by simpa [Act.eval, Act.put] using eb4
    have hX4 : (Reg.rowM (Reg.eqM (.agg #[.string gk, .int .i64 gm]))).pred cs4 W1 W1.heap.size := hX4
    clear hJM hJB hJN hJ0 hJ hall eb4
    subst ec4
    go_simp
    replace hwf : Below W0.heap.size W0 W1 := Reg.KeepB.below hwf (Nat.le_refl _) (fun b hb => by cases hb)
    have HBF := Lib.hid (bstep HB.out hwf)
    clear hwf
    go_wp2_with fail
    go_ret
    exact ⟨by first | rfl | simp, HBF.out⟩
end LockW
end Go.Proofs.YtkkfabnehhamdaaDoor
end
section
namespace Go.Proofs.YtkkfabnehhamdaaDoor
open Go.RowKit Go.Maps LockP ModesP
set_option linter.unusedVariables false
set_option linter.unusedSimpArgs false
namespace LockW
section
variable {w w' : World} {t N N' x b b1 b2 b3 b4 : Nat} {bs bs' : List Nat} {X : St} {lab lab' : Nat → Role} {es1 : MapP.T ByteArray (Option Nat)} {es2 : MapP.T Int (Option Nat)} {es3 : MapP.T ByteArray (Option Nat)} {k : ByteArray} {u : Int}
theorem nil_del1 (w : World) (u : Int) (ty : TypeId) : (Builtin.delete_ #[74, TI] ty #[.map none, .int .i64 u]).run Tryd.prog w = .ok (.tuple #[]) w := by kernel_rfl
theorem nil_del2 (w : World) (k : ByteArray) (ty : TypeId) : (Builtin.delete_ #[90, TS] ty #[.map none, .string k]).run Tryd.prog w = .ok (.tuple #[]) w := by kernel_rfl
theorem LkIn.del1 (h : LkIn w t bs N X lab b1 b2 b3 b4 es1 es2 es3) (hb : MapP.get es1 k = some (some b)) (hu : In64 u) (ty : TypeId) :
    ∃ W, (Builtin.delete_ #[74, TI] ty #[.map (some b), .int .i64 u]).run Tryd.prog w = .ok (.tuple #[]) W ∧ LkIn W t bs N { X with own := upd X.own k (MapP.del (X.own k) u) } lab b1 b2 b3 b4 es1 es2 es3 ∧ Reg.KeepB w.heap.size bs w W := by
  obtain ⟨b', e, l, hm, hM⟩ := h.e1 k _ hb
  cases e
  obtain ⟨W, hrun, hM', ht⟩ := hM.drop lawI Tryd.underlying74 (keyI hu) ty
  exact ⟨W, hrun, h.own_turn hb ht.grown hM' (Nat.le_refl N), keep_turn ht.grown hm⟩
theorem LkIn.del2 (h : LkIn w t bs N X lab b1 b2 b3 b4 es1 es2 es3) (hb : MapP.get es2 u = some (some b)) (hk : k.size ≤ 100) (ty : TypeId) :
    ∃ W, (Builtin.delete_ #[90, TS] ty #[.map (some b), .string k]).run Tryd.prog w = .ok (.tuple #[]) W ∧ LkIn W t bs N { X with mem := upd X.mem u (MapP.del (X.mem u) k) } lab b1 b2 b3 b4 es1 es2 es3 ∧ Reg.KeepB w.heap.size bs w W := by
  obtain ⟨b', e, l, hm, hM⟩ := h.e2 u _ hb
  cases e
  obtain ⟨W, hrun, hM', ht⟩ := hM.drop lawS Tryd.underlying90 (keyS hk) ty
  exact ⟨W, hrun, h.mem_turn hb ht.grown hM' (Nat.le_refl N), keep_turn ht.grown hm⟩
theorem LkIn.len1 (h : LkIn w t bs N X lab b1 b2 b3 b4 es1 es2 es3) (hb : MapP.get es1 k = some (some b)) (ty : TypeId) : (Builtin.len_ #[74] ty #[.map (some b)]).run Tryd.prog w = .ok (.int .i64 ((X.own k).length : Nat)) w := by
  obtain ⟨b', e, l, hm, hM⟩ := h.e1 k _ hb
  cases e
  exact hM.len Tryd.underlying74 ty
theorem LkIn.len2 (h : LkIn w t bs N X lab b1 b2 b3 b4 es1 es2 es3) (hb : MapP.get es2 u = some (some b)) (ty : TypeId) : (Builtin.len_ #[90] ty #[.map (some b)]).run Tryd.prog w = .ok (.int .i64 ((X.mem u).length : Nat)) w := by
  obtain ⟨b', e, l, hm, hM⟩ := h.e2 u _ hb
  cases e
  exact hM.len Tryd.underlying90 ty
/-- a key's map goes that has nothing in it -/
theorem LkIn.gone1 (h : LkIn w t bs N X lab b1 b2 b3 b4 es1 es2 es3) (hk : k.size ≤ 100) (he : X.own k = []) (ty : TypeId) :
    ∃ W es1', (Builtin.delete_ #[65, TS] ty #[.map (some b1), .string k]).run Tryd.prog w = .ok (.tuple #[]) W ∧ LkIn W t bs N X lab b1 b2 b3 b4 es1' es2 es3 ∧ Reg.KeepB w.heap.size bs w W := by
  obtain ⟨W, hrun, hM', ht⟩ := h.m1.drop lawS Tryd.underlying65 (keyS hk) ty
  refine ⟨W, _, hrun, h.m1_turn ht.grown hM' (Nat.le_refl N) (fun k' o ho => ?_) (fun k' ho => ?_), keep_turn ht.grown h.inb.2.1⟩
  · rw [MapP.get_del] at ho
    split at ho
    · cases ho
    · exact .inl ho
  · rw [MapP.get_del] at ho
    split at ho
    · rename_i e; rw [e]; exact he
    · exact h.n1 k' ho
theorem LkIn.gone2 (h : LkIn w t bs N X lab b1 b2 b3 b4 es1 es2 es3) (hu : In64 u) (he : X.mem u = []) (ty : TypeId) :
    ∃ W es2', (Builtin.delete_ #[66, TI] ty #[.map (some b2), .int .i64 u]).run Tryd.prog w = .ok (.tuple #[]) W ∧ LkIn W t bs N X lab b1 b2 b3 b4 es1 es2' es3 ∧ Reg.KeepB w.heap.size bs w W := by
  obtain ⟨W, hrun, hM', ht⟩ := h.m2.drop lawI Tryd.underlying66 (keyI hu) ty
  refine ⟨W, _, hrun, h.m2_turn ht.grown hM' (Nat.le_refl N) (fun u' o ho => ?_) (fun u' ho => ?_), keep_turn ht.grown h.inb.2.2.1⟩
  · rw [MapP.get_del] at ho
    split at ho
    · cases ho
    · exact .inl ho
  · rw [MapP.get_del] at ho
    split at ho
    · rename_i e; rw [e]; exact he
    · exact h.n2 u' ho
theorem own_nil {X : St} (k : ByteArray) (u : Int) (he : X.own k = []) : { X with own := upd X.own k (MapP.del (X.own k) u) } = X := by
  have : upd X.own k (MapP.del (X.own k) u) = X.own := by
    funext k'
    unfold upd
    split
    · rename_i e; rw [e, he]; rfl
    · rfl
  rw [this]
theorem mem_nil {X : St} (k : ByteArray) (u : Int) (he : X.mem u = []) : { X with mem := upd X.mem u (MapP.del (X.mem u) k) } = X := by
  have : upd X.mem u (MapP.del (X.mem u) k) = X.mem := by
    funext u'
    unfold upd
    split
    · rename_i e; rw [e, he]; rfl
    · rfl
  rw [this]
end
set_option maxRecDepth 100000 in
set_option maxHeartbeats 4000000 in
theorem drop_any (t N : Nat) (bs : List Nat) (X : St) (u : Int) (k : ByteArray) (w : World) (h : Lk w t bs N X) (hu : In64 u) (hk : k.size ≤ 100) : Calls Tryd.prog 45 #[.pointer (some ⟨t, 0, none⟩), .int .i64 u, .string k] w fun e w' => e = .returned (.tuple #[]) ∧ Told w t bs N (drop X u k) w' := by
  obtain ⟨lab, b1, b2, b3, b4, es1, es2, es3, h⟩ := h
  have f1 := str4 h.box
  have hl1 := h.box.lt
  have e1 := h.look1 hk
  have HK0 := Lib.hid (Reg.KeepB.of (N := w.heap.size) (b0 := bs) (Below.refl _ w))
  cases hg : MapP.get es1 k with
  | none =>
    rw [hg] at e1
    have e1' : (Instr.lookup 65 (.map (some b1)) (.string k) false).run Tryd.prog w = .ok (.map none) w := e1
    have d1 := fun ty => nil_del1 w u ty
    have hn1 := h.n1 k hg
    obtain ⟨W2, es8, hr2, hI2, hK2⟩ := h.gone1 hk hn1 0
    rw [← own_nil k u hn1] at hI2
    have HI2 := Lib.hid hI2
    have HK2 : Hid (Reg.KeepB w.heap.size bs w W2) := Lib.hid hK2
    clear hI2 hK2 h hg e1 hn1
    have f2 := str4 HI2.out.box
    have hl2 := HI2.out.box.lt
    have e2 := HI2.out.look2 hu
    cases hg2 : MapP.get es2 u with
    | none =>
      rw [hg2] at e2
      have e2' : (Instr.lookup 66 (.map (some b2)) (.int .i64 u) false).run Tryd.prog W2 = .ok (.map none) W2 := e2
      have d2 := fun ty => nil_del2 W2 k ty
      have hn2 := HI2.out.n2 u hg2
      obtain ⟨W3, es9, hr3, hI3, hK3⟩ := HI2.out.gone2 hu hn2 0
      rw [← mem_nil k u hn2] at hI3
      have HI3 := Lib.hid hI3
      have HK3 : Hid (Reg.KeepB w.heap.size bs w W3) := Lib.hid (keep_more HK2.out (fun b hb => .inl hb) hK3)
      have f3 := str4 HI3.out.box
      clear hI3 hK3 hg2 HI2 HK2 e2 hn2
      go_enter Tryd.func45, Tryd.ntmps45
      go_wp2_with fail
      go_end0
      exact ⟨rfl, bs, ⟨_, _, _, _, _, _, _, _, by have h := HI3.out; exact h⟩, fun b hb => .inl hb, HK3.out⟩
    | some o2 =>
      obtain ⟨c, ec, -⟩ := HI2.out.e2 u o2 hg2
      subst ec
      rw [hg2, Option.getD_some] at e2
      obtain ⟨W3, hr3, hI3, hK3⟩ := HI2.out.del2 hg2 hk 0
      have hK3' : Reg.KeepB w.heap.size bs w W3 := keep_more HK2.out (fun b hb => .inl hb) hK3
      have f3 := str4 hI3.box
      have hl3 := hI3.box.lt
      have e3 := hI3.look2 hu
      rw [hg2, Option.getD_some] at e3
      have n3 := fun ty => hI3.len2 hg2 ty
      cases hm3 : MapP.del (X.mem u) k with
      | nil =>
        have hx : ({ { X with own := upd X.own k (MapP.del (X.own k) u) } with mem := upd X.mem u (MapP.del (X.mem u) k) } : St).mem u = [] := by show upd X.mem u _ u = []; rw [upd_same]; exact hm3
        have hxl : ((({ { X with own := upd X.own k (MapP.del (X.own k) u) } with mem := upd X.mem u (MapP.del (X.mem u) k) } : St).mem u).length : Nat) = 0 := by show (upd X.mem u _ u).length = _; rw [upd_same, hm3]; rfl
        obtain ⟨W4, es9, hr4, hI4, hK4⟩ := hI3.gone2 hu hx 0
        have n3' : ∀ ty, (Builtin.len_ #[90] ty #[.map (some c)]).run Tryd.prog W3 = .ok (.int .i64 0) W3 := fun ty => by rw [n3 ty, hxl]; rfl
        have HI3 := Lib.hid hI4
        have HK3 : Hid (Reg.KeepB w.heap.size bs w W4) := Lib.hid (keep_more hK3' (fun b hb => .inl hb) hK4)
        have f4 := str4 HI3.out.box
        clear hI3 hK3 hK3' hI4 hK4 hg2 HI2 HK2 n3 hm3 hx hxl
        go_enter Tryd.func45, Tryd.ntmps45
        go_wp2_with fail
        go_end0
        exact ⟨rfl, bs, ⟨_, _, _, _, _, _, _, _, by have h := HI3.out; exact h⟩, fun b hb => .inl hb, HK3.out⟩
      | cons p r =>
        have hx : ((({ { X with own := upd X.own k (MapP.del (X.own k) u) } with mem := upd X.mem u (MapP.del (X.mem u) k) } : St).mem u).length : Nat) = r.length + 1 := by show (upd X.mem u _ u).length = _; rw [upd_same, hm3]; rfl
        have n3' : ∀ ty, (Builtin.len_ #[90] ty #[.map (some c)]).run Tryd.prog W3 = .ok (.int .i64 ((r.length + 1 : Nat) : Int)) W3 := fun ty => by rw [n3 ty, hx]
        have hd3 : (((r.length + 1 : Nat) : Int) == 0) = false := by simp; omega
        have HI3 := Lib.hid hI3
        have HK3 := Lib.hid hK3'
        clear hI3 hK3 hK3' hg2 HI2 HK2 n3 hm3 hx
        go_enter Tryd.func45, Tryd.ntmps45
        go_wp2_with fail
        go_end0
        exact ⟨rfl, bs, ⟨_, _, _, _, _, _, _, _, by have h := HI3.out; exact h⟩, fun b hb => .inl hb, HK3.out⟩
  | some o =>
    obtain ⟨b, e, -⟩ := h.e1 k o hg
    subst e
    rw [hg, Option.getD_some] at e1
    obtain ⟨W1, hr1, hI1, hK1⟩ := h.del1 hg hu 0
    have f3 := str4 hI1.box
    have hl3 := hI1.box.lt
    have e3 := hI1.look1 hk
    rw [hg, Option.getD_some] at e3
    have n3 := fun ty => hI1.len1 hg ty
    cases hm3 : MapP.del (X.own k) u with
    | nil =>
      have hx : ({ X with own := upd X.own k (MapP.del (X.own k) u) } : St).own k = [] := by show upd X.own k _ k = []; rw [upd_same]; exact hm3
      have hxl : ((({ X with own := upd X.own k (MapP.del (X.own k) u) } : St).own k).length : Nat) = 0 := by show (upd X.own k _ k).length = _; rw [upd_same, hm3]; rfl
      obtain ⟨W2, es8, hr2, hI2, hK2⟩ := hI1.gone1 hk hx 0
      have n3' : ∀ ty, (Builtin.len_ #[74] ty #[.map (some b)]).run Tryd.prog W1 = .ok (.int .i64 0) W1 := fun ty => by rw [n3 ty, hxl]; rfl
      have HI2 := Lib.hid hI2
      have HK2 : Hid (Reg.KeepB w.heap.size bs w W2) := Lib.hid (keep_more hK1 (fun b hb => .inl hb) hK2)
      clear hI1 hK1 hI2 hK2 h hg n3 hm3 hx hxl
      have f2 := str4 HI2.out.box
      have hl2 := HI2.out.box.lt
      have e2 := HI2.out.look2 hu
      cases hg2 : MapP.get es2 u with
      | none =>
        rw [hg2] at e2
        have e2' : (Instr.lookup 66 (.map (some b2)) (.int .i64 u) false).run Tryd.prog W2 = .ok (.map none) W2 := e2
        have d2 := fun ty => nil_del2 W2 k ty
        have hn2 := HI2.out.n2 u hg2
        obtain ⟨W3, es9, hr3, hI3, hK3⟩ := HI2.out.gone2 hu hn2 0
        rw [← mem_nil k u hn2] at hI3
        have HI3 := Lib.hid hI3
        have HK3 : Hid (Reg.KeepB w.heap.size bs w W3) := Lib.hid (keep_more HK2.out (fun b hb => .inl hb) hK3)
        have f3 := str4 HI3.out.box
        clear hI3 hK3 hg2 HI2 HK2 e2 hn2
        go_enter Tryd.func45, Tryd.ntmps45
        go_wp2_with fail
        go_end0
        exact ⟨rfl, bs, ⟨_, _, _, _, _, _, _, _, by have h := HI3.out; exact h⟩, fun b hb => .inl hb, HK3.out⟩
      | some o2 =>
        obtain ⟨c, ec, -⟩ := HI2.out.e2 u o2 hg2
        subst ec
        rw [hg2, Option.getD_some] at e2
        obtain ⟨W3, hr3, hI3, hK3⟩ := HI2.out.del2 hg2 hk 0
        have hK3' : Reg.KeepB w.heap.size bs w W3 := keep_more HK2.out (fun b hb => .inl hb) hK3
        have f3 := str4 hI3.box
        have hl3 := hI3.box.lt
        have e3 := hI3.look2 hu
        rw [hg2, Option.getD_some] at e3
        have n3 := fun ty => hI3.len2 hg2 ty
        cases hm3 : MapP.del (X.mem u) k with
        | nil =>
          have hx : ({ { X with own := upd X.own k (MapP.del (X.own k) u) } with mem := upd X.mem u (MapP.del (X.mem u) k) } : St).mem u = [] := by show upd X.mem u _ u = []; rw [upd_same]; exact hm3
          have hxl : ((({ { X with own := upd X.own k (MapP.del (X.own k) u) } with mem := upd X.mem u (MapP.del (X.mem u) k) } : St).mem u).length : Nat) = 0 := by show (upd X.mem u _ u).length = _; rw [upd_same, hm3]; rfl
          obtain ⟨W4, es9, hr4, hI4, hK4⟩ := hI3.gone2 hu hx 0
          have n3' : ∀ ty, (Builtin.len_ #[90] ty #[.map (some c)]).run Tryd.prog W3 = .ok (.int .i64 0) W3 := fun ty => by rw [n3 ty, hxl]; rfl
          have HI3 := Lib.hid hI4
          have HK3 : Hid (Reg.KeepB w.heap.size bs w W4) := Lib.hid (keep_more hK3' (fun b hb => .inl hb) hK4)
          have f4 := str4 HI3.out.box
          clear hI3 hK3 hK3' hI4 hK4 hg2 HI2 HK2 n3 hm3 hx hxl
          go_enter Tryd.func45, Tryd.ntmps45
          go_wp2_with fail
          go_end0
          exact ⟨rfl, bs, ⟨_, _, _, _, _, _, _, _, by have h := HI3.out; exact h⟩, fun b hb => .inl hb, HK3.out⟩
        | cons p r =>
          have hx : ((({ { X with own := upd X.own k (MapP.del (X.own k) u) } with mem := upd X.mem u (MapP.del (X.mem u) k) } : St).mem u).length : Nat) = r.length + 1 := by show (upd X.mem u _ u).length = _; rw [upd_same, hm3]; rfl
          have n3' : ∀ ty, (Builtin.len_ #[90] ty #[.map (some c)]).run Tryd.prog W3 = .ok (.int .i64 ((r.length + 1 : Nat) : Int)) W3 := fun ty => by rw [n3 ty, hx]
          have hd3 : (((r.length + 1 : Nat) : Int) == 0) = false := by simp; omega
          have HI3 := Lib.hid hI3
          have HK3 := Lib.hid hK3'
          clear hI3 hK3 hK3' hg2 HI2 HK2 n3 hm3 hx
          go_enter Tryd.func45, Tryd.ntmps45
          go_wp2_with fail
          go_end0
          exact ⟨rfl, bs, ⟨_, _, _, _, _, _, _, _, by have h := HI3.out; exact h⟩, fun b hb => .inl hb, HK3.out⟩
    | cons p r =>
      have hx : ((({ X with own := upd X.own k (MapP.del (X.own k) u) } : St).own k).length : Nat) = r.length + 1 := by show (upd X.own k _ k).length = _; rw [upd_same, hm3]; rfl
      have n3' : ∀ ty, (Builtin.len_ #[74] ty #[.map (some b)]).run Tryd.prog W1 = .ok (.int .i64 ((r.length + 1 : Nat) : Int)) W1 := fun ty => by rw [n3 ty, hx]
      have hd3 : (((r.length + 1 : Nat) : Int) == 0) = false := by simp; omega
      obtain ⟨W2, hW2⟩ : ∃ W, W1 = W := ⟨_, rfl⟩
      have HI2 : Hid (LkIn W2 t bs N { X with own := upd X.own k (MapP.del (X.own k) u) } lab b1 b2 b3 b4 es1 es2 es3) := Lib.hid (hW2 ▸ hI1)
      have HK2 : Hid (Reg.KeepB w.heap.size bs w W2) := Lib.hid (hW2 ▸ hK1)
      subst hW2
      clear hI1 hK1 h hg n3 hm3 hx
      have f2 := str4 HI2.out.box
      have hl2 := HI2.out.box.lt
      have e2 := HI2.out.look2 hu
      cases hg2 : MapP.get es2 u with
      | none =>
        rw [hg2] at e2
        have e2' : (Instr.lookup 66 (.map (some b2)) (.int .i64 u) false).run Tryd.prog W1 = .ok (.map none) W1 := e2
        have d2 := fun ty => nil_del2 W1 k ty
        have hn2 := HI2.out.n2 u hg2
        obtain ⟨W3, es9, hr3, hI3, hK3⟩ := HI2.out.gone2 hu hn2 0
        rw [← mem_nil k u hn2] at hI3
        have HI3 := Lib.hid hI3
        have HK3 : Hid (Reg.KeepB w.heap.size bs w W3) := Lib.hid (keep_more HK2.out (fun b hb => .inl hb) hK3)
        have f3 := str4 HI3.out.box
        clear hI3 hK3 hg2 HI2 HK2 e2 hn2
        go_enter Tryd.func45, Tryd.ntmps45
        go_wp2_with fail
        go_end0
        exact ⟨rfl, bs, ⟨_, _, _, _, _, _, _, _, by have h := HI3.out; exact h⟩, fun b hb => .inl hb, HK3.out⟩
      | some o2 =>
        obtain ⟨c, ec, -⟩ := HI2.out.e2 u o2 hg2
        subst ec
        rw [hg2, Option.getD_some] at e2
        obtain ⟨W3, hr3, hI3, hK3⟩ := HI2.out.del2 hg2 hk 0
        have hK3' : Reg.KeepB w.heap.size bs w W3 := keep_more HK2.out (fun b hb => .inl hb) hK3
        have f3 := str4 hI3.box
        have hl3 := hI3.box.lt
        have e3 := hI3.look2 hu
        rw [hg2, Option.getD_some] at e3
        have n3 := fun ty => hI3.len2 hg2 ty
        cases hm3 : MapP.del (X.mem u) k with
        | nil =>
          have hx : ({ { X with own := upd X.own k (MapP.del (X.own k) u) } with mem := upd X.mem u (MapP.del (X.mem u) k) } : St).mem u = [] := by show upd X.mem u _ u = []; rw [upd_same]; exact hm3
          have hxl : ((({ { X with own := upd X.own k (MapP.del (X.own k) u) } with mem := upd X.mem u (MapP.del (X.mem u) k) } : St).mem u).length : Nat) = 0 := by show (upd X.mem u _ u).length = _; rw [upd_same, hm3]; rfl
          obtain ⟨W4, es9, hr4, hI4, hK4⟩ := hI3.gone2 hu hx 0
          have n3' : ∀ ty, (Builtin.len_ #[90] ty #[.map (some c)]).run Tryd.prog W3 = .ok (.int .i64 0) W3 := fun ty => by rw [n3 ty, hxl]; rfl
          have HI3 := Lib.hid hI4
          have HK3 : Hid (Reg.KeepB w.heap.size bs w W4) := Lib.hid (keep_more hK3' (fun b hb => .inl hb) hK4)
          have f4 := str4 HI3.out.box
          clear hI3 hK3 hK3' hI4 hK4 hg2 HI2 HK2 n3 hm3 hx hxl
          go_enter Tryd.func45, Tryd.ntmps45
          go_wp2_with fail
          go_end0
          exact ⟨rfl, bs, ⟨_, _, _, _, _, _, _, _, by have h := HI3.out; exact h⟩, fun b hb => .inl hb, HK3.out⟩
        | cons p r =>
          have hx : ((({ { X with own := upd X.own k (MapP.del (X.own k) u) } with mem := upd X.mem u (MapP.del (X.mem u) k) } : St).mem u).length : Nat) = r.length + 1 := by show (upd X.mem u _ u).length = _; rw [upd_same, hm3]; rfl
          have n3' : ∀ ty, (Builtin.len_ #[90] ty #[.map (some c)]).run Tryd.prog W3 = .ok (.int .i64 ((r.length + 1 : Nat) : Int)) W3 := fun ty => by rw [n3 ty, hx]
          have hd3 : (((r.length + 1 : Nat) : Int) == 0) = false := by simp; omega
          have HI3 := Lib.hid hI3
          have HK3 := Lib.hid hK3'
          clear hI3 hK3 hK3' hg2 HI2 HK2 n3 hm3 hx
          go_enter Tryd.func45, Tryd.ntmps45
          go_wp2_with fail
          go_end0
          exact ⟨rfl, bs, ⟨_, _, _, _, _, _, _, _, by have h := HI3.out; exact h⟩, fun b hb => .inl hb, HK3.out⟩
end LockW
end Go.Proofs.YtkkfabnehhamdaaDoor
end
section
namespace Go.Proofs.YtkkfabnehhamdaaDoor
open Go.RowKit Go.Maps LockP
set_option linter.unusedVariables false
set_option linter.unusedSimpArgs false
namespace LockW
section
variable {w w' : World} {t N b1 b2 b3 b4 q : Nat} {bs : List Nat} {X : St} {lab : Nat → Role} {es1 : MapP.T ByteArray (Option Nat)} {es2 : MapP.T Int (Option Nat)} {es3 : MapP.T ByteArray (Option Nat)} {k : ByteArray} {u m : Int}
theorem LkIn.del4 (h : LkIn w t bs N X lab b1 b2 b3 b4 es1 es2 es3) (hu : In64 u) (ty : TypeId) :
    ∃ W, (Builtin.delete_ #[T4, TI] ty #[.map (some b4), .int .i64 u]).run Tryd.prog w = .ok (.tuple #[]) W ∧ LkIn W t bs N { X with goal := MapP.del X.goal u } lab b1 b2 b3 b4 es1 es2 es3 ∧ Reg.KeepB w.heap.size bs w W := by
  obtain ⟨W, hrun, hM', ht⟩ := h.m4.drop lawI Tryd.underlying68 (keyI hu) ty
  exact ⟨W, hrun, h.m4_turn ht.grown hM' (Nat.le_refl N), keep_turn ht.grown h.inb.2.2.2.2⟩
theorem LkIn.del4r (h : LkIn w t bs N X lab b1 b2 b3 b4 es1 es2 es3) (hu : In64 u) (ty : TypeId) :
    ∃ W, (Builtin.delete_ #[T4, TI] ty #[.map (some b4), .int .i64 u]).run Tryd.prog w = .ok (.tuple #[]) W ∧ LkIn W t bs N { X with goal := MapP.del X.goal u } lab b1 b2 b3 b4 es1 es2 es3 ∧ Reg.KeepB w.heap.size (rl lab bs) w W := by
  obtain ⟨W, hrun, hM', ht⟩ := h.m4.drop lawI Tryd.underlying68 (keyI hu) ty
  exact ⟨W, hrun, h.m4_turn ht.grown hM' (Nat.le_refl N), keep_turn ht.grown (rl_mem h.inb.2.2.2.2 (by rw [h.labs.2.2.2.2]; rfl))⟩
/-- a key's row goes in which nobody waits -/
theorem LkIn.gone3 (h : LkIn w t bs N X lab b1 b2 b3 b4 es1 es2 es3) (hk : k.size ≤ 100) (he : X.row k = []) (ty : TypeId) :
    ∃ W es3', (Builtin.delete_ #[T3, TS] ty #[.map (some b3), .string k]).run Tryd.prog w = .ok (.tuple #[]) W ∧ LkIn W t bs N X lab b1 b2 b3 b4 es1 es2 es3' ∧ Reg.KeepB w.heap.size bs w W := by
  obtain ⟨W, hrun, hM', ht⟩ := h.m3.drop lawS Tryd.underlying67 (keyS hk) ty
  refine ⟨W, _, hrun, h.m3_turn ht.grown hM' (Nat.le_refl N) (fun k' o ho => ?_) (fun k' ho => ?_), keep_turn ht.grown h.inb.2.2.2.1⟩
  · rw [MapP.get_del] at ho
    split at ho
    · cases ho
    · exact .inl ho
  · rw [MapP.get_del] at ho
    split at ho
    · rename_i e; rw [e]; exact he
    · exact h.n3 k' ho
/-- behind Cut -/
theorem LkIn.cutq (h : LkIn w t bs N X lab b1 b2 b3 b4 es1 es2 es3) (hg : MapP.get es3 k = some (some q)) {n' c' : Nat} {A' : Option Addr} {l : Row} (hQ : Que w' q A' n' c' l) (hA' : ∀ p, A' = some p → w.heap.size ≤ p.block) (hkb : Reg.KeepB w.heap.size [q] w w') (hl : l.length ≤ (X.row k).length) :
    ∃ bs' lab', LkIn w' t bs' N { X with row := upd X.row k l } lab' b1 b2 b3 b4 es1 es2 es3 ∧ (∀ b ∈ bs', b ∈ bs ∨ w.heap.size ≤ b) ∧ Reg.KeepB w.heap.size bs w w' := by
  obtain ⟨q', A, n, c, e, hlq, hmq, hQ0, hA, hn⟩ := h.e3 k _ hg
  cases e
  refine h.pushedN hg hQ0 hA hQ (fun p hp => .inr (hA' p hp)) ⟨hkb.os, hkb.tape, hkb.output, hkb.size, fun i hi hni => hkb.block i hi (fun hm => hni ?_)⟩ ?_ (Nat.le_refl N)
  · rw [List.mem_singleton] at hm
    rw [hm]
    exact List.mem_cons_self ..
  · have h1 := hQ.2.len
    have h2 := hQ0.2.len
    omega
end
/-- texts as elements of a slice -/
def StrE : El ByteArray where
  size := 1
  pos := by decide
  rel w B vs x := vs = [.string x]
  len := by rintro w B vs p rfl; rfl
  one := by rintro w B vs p rfl v hv; simp only [List.mem_cons, List.not_mem_nil, or_false] at hv; rcases hv with rfl; rfl
  sub := by rintro w w' B vs p hs h; exact h
  more := by rintro w B B' vs p hB h; exact h
theorem strE_pure : StrE.Pure := fun _ _ _ _ _ _ h => h
end LockW
end Go.Proofs.YtkkfabnehhamdaaDoor
end
section
namespace Go.Proofs.YtkkfabnehhamdaaDoor
open Go.RowKit Go.Maps LockP ModesP
set_option linter.unusedVariables false
set_option linter.unusedSimpArgs false
namespace LockW
attribute [local go_sem] Oper.semAt_some
theorem own_lit {W : World} {base : Nat} (k : ByteArray) (h : base ≤ W.heap.size) : OwnE StrE 9 (W.alloc (.cells #[.string k] 9)) base (some ⟨W.heap.size, 0, none⟩) 1 1 [k] :=
  OwnE.mk' (cur := [.string k]) (vs := [[.string k]]) h (World.alloc_heap_new W _) (Nat.le_refl _) (by unfold maxLen; omega) rfl rfl ⟨rfl, trivial⟩ rfl
def Left (t N : Nat) (bs : List Nat) (X : St) (u : Int) (w : World) (e : Ending) (w' : World) : Prop := ∃ A n c, e = .returned (.slice A n c) ∧ OwnE StrE 9 w' w.heap.size A n c (LockP.leave X u).2 ∧ ∃ bs', Lk w' t bs' N (LockP.leave X u).1 ∧ (∀ b ∈ bs', b ∈ bs ∨ w.heap.size ≤ b) ∧ Reg.KeepB w.heap.size bs w w' ∧ ∀ a, A = some a → a.block ∉ bs'
set_option maxRecDepth 100000 in
set_option maxHeartbeats 4000000 in
theorem leave_none (t N : Nat) (bs : List Nat) (X : St) (u : Int) (w : World) (h : Lk w t bs N X) (hu : In64 u) (hg : MapP.get X.goal u = none) : Calls Tryd.prog 44 #[.pointer (some ⟨t, 0, none⟩), .int .i64 u] w (Left t N bs X u w) := by
  have HL : Hid (LockP.leave X u = (X, [])) := Lib.hid (by unfold LockP.leave; rw [hg])
  have H := Lib.hid h
  obtain ⟨lab, b1, b2, b3, b4, es1, es2, es3, h⟩ := h
  have f0 := str4 h.box
  have hl := h.box.lt
  have e4 := h.look4 hu
  have hh : MapP.has X.goal u = false := by rw [MapP.has_get, hg]; rfl
  rw [hh] at e4
  clear h hg hh
  generalize (MapP.get X.goal u).getD (⟨#[]⟩, 0) = g at *
  obtain ⟨gk, gm⟩ := g
  change (Instr.lookup _ _ _ _).run _ _ = .ok (.tuple #[.agg #[.string gk, .int .i64 gm], _]) _ at e4
  go_enter Tryd.func44, Tryd.ntmps44
  go_wp2_with fail
  go_ret
  refine ⟨none, 0, 0, rfl, ?_, ?_⟩
  · rw [HL.out]; exact OwnE.none_ _ _ _ _
  · rw [HL.out]; exact ⟨bs, H.out.next (balloc (bsame w) _), fun b hm => .inl hm, .of (balloc (bsame w) _), fun a e => by cases e⟩
set_option maxRecDepth 100000 in
set_option maxHeartbeats 4000000 in
theorem leave_some (t N : Nat) (bs : List Nat) (X : St) (u : Int) (k : ByteArray) (m : Int) (w : World) (h : Lk w t bs N X) (hu : In64 u) (hk : k.size ≤ 100) (hg : MapP.get X.goal u = some (k, m)) (hr : X.row k ≠ []) (hN : N ≤ 1000000) : Calls Tryd.prog 44 #[.pointer (some ⟨t, 0, none⟩), .int .i64 u] w (Left t N bs X u w) := by
  have HL : Hid (LockP.leave X u = ({ X with row := upd X.row k ((X.row k).filter fun p => !decide (p = (u, m))), goal := MapP.del X.goal u }, [k])) := Lib.hid (by unfold LockP.leave; rw [hg])
  have HLO : Hid (∀ b ∈ bs, b < w.heap.size) := Lib.hid h.lo
  obtain ⟨lab, b1, b2, b3, b4, es1, es2, es3, h⟩ := h
  have f0 := str4 h.box
  have hl := h.box.lt
  have e4 := h.look4 hu
  have hh : MapP.has X.goal u = true := by rw [MapP.has_get, hg]; rfl
  rw [hh, hg] at e4
  have e4' : (Instr.lookup T4 (.map (some b4)) (.int .i64 u) true).run Tryd.prog w = .ok (.tuple #[.agg #[.string k, .int .i64 m], .bool true]) w := e4
  obtain ⟨W1, hW1⟩ : ∃ W, w.alloc (.cells #[.string k, .int .i64 m] 72) = W := ⟨_, rfl⟩
  have hb1 : Below w.heap.size w W1 := by rw [← hW1]; exact balloc (bsame w) _
  have hs1 : Str W1 w.heap.size #[.string k, .int .i64 m] := by rw [← hW1]; exact Str.new w _ _
  have h1 := h.next hb1
  have f1 := str4 h1.box
  have hl1 := h1.box.lt
  obtain ⟨W2, hd2, hI2, hK2⟩ := h1.del4 hu 0
  have HI2 := Lib.hid hI2
  have HK2 := Lib.hid ((Reg.KeepB.of (b0 := bs) hb1).trans (hK2.less hb1.size) (Nat.le_refl _))
  have hz1 : W1.heap.size = w.heap.size + 1 := by rw [← hW1]; simp
  have hs2 : Str W2 w.heap.size #[.string k, .int .i64 m] := hs1.keepB hK2 (fun hm => by have := HLO.out _ hm; omega)
  have g2 := str2 hs2
  have gl2 := hs2.lt
  obtain ⟨W3, hW3⟩ : ∃ W, W2.alloc (.cells #[.int .i64 u, .int .i64 m] 80) = W := ⟨_, rfl⟩
  have hb3 : Below W2.heap.size W2 W3 := by rw [← hW3]; exact balloc (bsame W2) _
  have hs3 : Str W3 W2.heap.size #[.int .i64 u, .int .i64 m] := by rw [← hW3]; exact Str.new W2 _ _
  have hI3 := hI2.next hb3
  cases hq : MapP.get es3 k with
  | none => exact absurd (h.n3 k hq) hr
  | some o =>
  obtain ⟨q, A, n, c, eo, hlq, hmq, hQ, hA, hn⟩ := hI3.e3 k o hq
  subst eo
  have HLK : Hid (∀ wx, Below W3.heap.size W3 wx → (Instr.lookup T3 (.map (some b3)) (.string k) false).run Tryd.prog wx = .ok (.pointer (some ⟨q, 0, none⟩)) wx) := Lib.hid (fun wx hwx => by have h4 := (hI3.next hwx).look3 hk; rw [hq] at h4; exact h4)
  have HI3 := Lib.hid hI3
  have HG3 := Lib.hid (hs2.next hb3)
  have HY3 := Lib.hid hs3
  have HK3 := Lib.hid (HK2.out.step hb3 HK2.out.size)
  have HQ3 := Lib.hid hQ
  have HQG := Lib.hid hq
  have HA3 := Lib.hid hA
  have hne : ∀ a, A = some a → a.block ≠ q := fun p hp e => by
    have h1 := (hA p hp).1
    rw [e, hlq] at h1
    cases h1
  have HNE := Lib.hid hne
  have hlen := hQ.2.len
  have hww := HK3.out.size
  have hql : q < w.heap.size := HLO.out q hmq
  clear h hh hg e4 h1 hI2 hK2 hs1 hs2 hI3 hb3 hs3 hb1 hQ hA hq hne hlq hmq
  go_enter Tryd.func44, Tryd.ntmps44
  go_wp2_with fail
  refine Reg.wp_region_tail (R := ext) (W := W3) [Reg.eqv (.pointer (some ⟨t, 0, none⟩)), Reg.eqv (.pointer (some ⟨t, 0, none⟩)), Reg.eqv (.pointer (some ⟨t, 2, none⟩)), Reg.eqv (.map (some b3)), Reg.eqv (.pointer (some ⟨w.heap.size, 0, none⟩)), Reg.eqv (.string k), Reg.eqv (.pointer (some ⟨q, 0, none⟩)), Reg.eqv (.func (.func 58) #[] #[.pointer (some ⟨W2.heap.size, 0, none⟩)])] 40 8 _ [[(0, none)], [(28, some 0)], [(29, some 1)], [(30, some 2)], [(5, none)], [(32, some 4)], [(31, some 3), (33, some 5)], [(7, none)]] rfl (by kernel_rfl) (by kernel_rfl) (by rfl) (by rfl) rfl (by kernel_rfl) ?_ [some 28, some 29, some 30, some 31, some 32, some 33, some 34, some 35] (by kernel_rfl) ?_
  · refine ⟨?_, ?_, ?_, ?_, ?_, ?_, ?_, ?_, trivial⟩
    · intro ax wx hx hs
      obtain ⟨e0, -⟩ := hs
      have g0 := Reg.ev (v := .pointer (some ⟨t, 0, none⟩)) e0
      exact Reg.obl_free rfl (Reg.wp_eqv (Option.some_ne_none _) (by go_simp) rfl)
    · intro ax wx hx hs
      obtain ⟨e28, -⟩ := hs
      have g28 := Reg.ev (v := .pointer (some ⟨t, 0, none⟩)) e28
      exact Reg.obl_free rfl (Reg.wp_eqv (Option.some_ne_none _) (by go_simp) rfl)
    · intro ax wx hx hs
      obtain ⟨e29, -⟩ := hs
      have g29 := Reg.ev (v := .pointer (some ⟨t, 0, none⟩)) e29
      exact Reg.obl_free rfl (Reg.wp_eqv (Option.some_ne_none _) (by go_simp) rfl)
    · intro ax wx hx hs
      obtain ⟨e30, -⟩ := hs
      have g30 := Reg.ev (v := .pointer (some ⟨t, 2, none⟩)) e30
      have l0 := str4 (HI3.out.next hx).box
      have l1 := str2 (HG3.out.next hx)
      exact Reg.obl_free rfl (Reg.wp_eqv (Option.some_ne_none _) (by go_simp) rfl)
    · intro ax wx hx hs
      obtain ⟨e5, -⟩ := hs
      have g5 := Reg.ev (v := .pointer (some ⟨w.heap.size, 0, none⟩)) e5
      exact Reg.obl_free rfl (Reg.wp_eqv (Option.some_ne_none _) (by go_simp) rfl)
    · intro ax wx hx hs
      obtain ⟨e32, -⟩ := hs
      have g32 := Reg.ev (v := .pointer (some ⟨w.heap.size, 0, none⟩)) e32
      have l0 := str4 (HI3.out.next hx).box
      have l1 := str2 (HG3.out.next hx)
      exact Reg.obl_free rfl (Reg.wp_eqv (Option.some_ne_none _) (by go_simp) rfl)
    · intro ax wx hx hs
      obtain ⟨e31, e33, -⟩ := hs
      have g31 := Reg.ev (v := .map (some b3)) e31
      have g33 := Reg.ev (v := .string k) e33
      refine Reg.obl_free rfl ?_
      have hlk := HLK.out wx hx
      exact Reg.wp_eqv (Option.some_ne_none _) (by go_simp) rfl
    · intro ax wx hx hs
      obtain ⟨e7, -⟩ := hs
      have g7 := Reg.ev (v := .pointer (some ⟨W2.heap.size, 0, none⟩)) e7
      exact Reg.obl_free rfl (Reg.wp_eqv (Option.some_ne_none _) (by go_simp) rfl)
  · intro W4 hwf
    simp only [Reg.Fin]
    rintro _ rfl _ rfl _ rfl _ rfl _ rfl _ rfl _ rfl _ rfl
    have hwf' : Below W3.heap.size W3 W4 := hwf
    have HI4 := Lib.hid (HI3.out.next hwf')
    have HQ4 := Lib.hid (HQ3.out.below hwf')
    have HG4 := Lib.hid (HG3.out.next hwf')
    have HY4 := Lib.hid (HY3.out.next hwf')
    have HK4 := Lib.hid (HK3.out.step hwf' HK3.out.size)
    clear hwf hwf'
    refine Reg.Goal.mk ?_
    go_simp
    refine (cut_any q n c 58 A (X.row k) #[.pointer (some ⟨W2.heap.size, 0, none⟩)] (fun x => decide (x = (u, m))) W4 HQ4.out HNE.out (by omega) (enters_of Tryd.func58 (by kernel_rfl) rfl) (fun x hx W hW => leaveIs W2.heap.size x (u, m) W (HY4.out.next hW))).mono ?_
    rintro e W5 ⟨⟨v, rfl⟩, A', n', c', hQ', hA', hkb⟩
    obtain ⟨bs', lab', hI5, hN5, hK5⟩ := HI4.out.cutq HQG.out hQ' hA' hkb (List.length_filter_le _ _)
    have hG5 := HG4.out.keepB hkb (by rw [List.mem_singleton]; omega)
    have g5 := str2 hG5
    have gl5 := hG5.lt
    have HI5 := Lib.hid hI5
    have HK5 := Lib.hid (keep_more HK4.out (fun b hm => .inl hm) hK5)
    have HN5 : Hid (∀ b ∈ bs', b ∈ bs ∨ w.heap.size ≤ b) := Lib.hid (fun b hm => (hN5 b hm).imp id (fun h => Nat.le_trans HK4.out.size h))
    have hw5 := HK5.out.size
    clear hQ' hA' hkb hI5 hN5 hK5 hG5
    go_wp2_with fail
    go_ret
    refine ⟨some ⟨W5.heap.size, 0, none⟩, 1, 1, rfl, ?_, ?_⟩
    · rw [HL.out]
      exact own_lit (W := W5) k hw5
    · rw [HL.out]
      have hb6 : Below W5.heap.size W5 (W5.alloc (.cells #[.string k] 9)) := balloc (bsame W5) _
      exact ⟨bs', ⟨_, _, _, _, _, _, _, _, HI5.out.next hb6⟩, HN5.out, HK5.out.step hb6 HK5.out.size, fun a e hm => by cases e; exact Nat.lt_irrefl _ (HI5.out.lo _ hm)⟩
end LockW
end Go.Proofs.YtkkfabnehhamdaaDoor
end
section
namespace Go.Proofs.YtkkfabnehhamdaaDoor.LockP
open ModesP
set_option linter.unusedVariables false
section
variable (ltI : Int → Int → Bool) (ltS : ByteArray → ByteArray → Bool)
/-- one more of those that wait: the table, the modes ahead, who is told -/
def step (k : ByteArray) (y : St × Int × List Int) (p : Int × Int) : St × Int × List Int :=
  if may y.1 p.1 k p.2 y.2.1 then (take ltI ltS y.1 p.1 k p.2, y.2.1, y.2.2 ++ [p.1]) else (y.1, withM y.2.1 p.2, y.2.2)
theorem pass_step (k : ByteArray) : ∀ (l : Row) (s : St) (a : Int) (o : List Int), (l.foldl (step ltI ltS k) (s, a, o)).1 = (pass ltI ltS k l s a).1 ∧ (l.foldl (step ltI ltS k) (s, a, o)).2.2 = o ++ (pass ltI ltS k l s a).2
  | [], s, a, o => ⟨rfl, by simp [pass]⟩
  | (t, m) :: r, s, a, o => by
    rw [List.foldl_cons]
    unfold step pass
    dsimp only
    by_cases h : may s t k m a = true
    · rw [if_pos h, if_pos h]
      have h2 := pass_step k r (take ltI ltS s t k m) a (o ++ [t])
      unfold step at h2
      exact ⟨h2.1, by rw [h2.2, List.append_assoc]; rfl⟩
    · rw [if_neg h, if_neg h]
      have h2 := pass_step k r s (withM a m) o
      unfold step at h2
      exact h2
theorem step_row (k : ByteArray) (y : St × Int × List Int) (p : Int × Int) : (step ltI ltS k y p).1.row = y.1.row := by
  unfold step
  split
  · rfl
  · rfl
theorem steps_row (k : ByteArray) : ∀ (l : Row) (y : St × Int × List Int), (l.foldl (step ltI ltS k) y).1.row = y.1.row
  | [], y => rfl
  | p :: r, y => by rw [List.foldl_cons, steps_row k r, step_row]
end
end Go.Proofs.YtkkfabnehhamdaaDoor.LockP
end
