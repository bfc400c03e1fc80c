/-
  Parts of the proof of LocksSteps.
-/
import Derived.Test.YtkkfabnehhamdaaDoorLkS6
import Derived.Stop.RegionWithIn
import Derived.RangeFuncBox
import Derived.RangeFuncNested
import Derived.RangeFuncLeaves
import Derived.RangeFuncWrites
import Derived.Shelf.Abstract
import Derived.OwnWalkIn
import Derived.TacticsInMore
import Derived.LoopNIn
import Derived.LoopIn
section
namespace Go.Proofs.YtkkfabnehhamdaaDoor
open Go.RowKit Go.Maps LockP
set_option linter.unusedVariables false
set_option linter.unusedSimpArgs false
namespace LockW
attribute [local go_sem] Oper.semAt_some
/-- what a round must keep: the row -/
def KpQ (q : Nat) (A : Option Addr) (W W' : World) : Prop := W'.heap[q]? = W.heap[q]? ∧ ∀ a, A = some a → W'.heap[a.block]? = W.heap[a.block]?
theorem KpQ.trans {q : Nat} {A : Option Addr} {a b c : World} (h : KpQ q A a b) (k : KpQ q A b c) : KpQ q A a c := ⟨k.1.trans h.1, fun d e => (k.2 d e).trans (h.2 d e)⟩
theorem Que.kp {w w' : World} {q n c : Nat} {A : Option Addr} {l : Row} (h : Que w q A n c l) (k : KpQ q A w w') : Que w' q A n c l := que_at h k.1 k.2
theorem Que.below {w w' : World} {q n c : Nat} {A : Option Addr} {l : Row} (h : Que w q A n c l) (hb : Below w.heap.size w w') : Que w' q A n c l := ⟨h.1.next hb, h.2.next hb⟩
theorem Que.fit {w : World} {q n c : Nat} {A : Option Addr} {l : Row} (h : Que w q A n c l) : l.length = n ∧ n ≤ c := ⟨h.2.len, (h.2.elems.cap).1⟩
theorem Que.at_ {w : World} {q n c k : Nat} {A : Option Addr} {l : Row} (h : Que w q A n c l) (hk : k < n) : ∃ b o x, A = some ⟨b, o, none⟩ ∧ b < w.heap.size ∧ l[k]? = some x ∧ w.cell? ⟨b, o + k * 2, none⟩ = some (.int .i64 x.1) ∧ w.cell? ⟨b, o + k * 2 + 1, none⟩ = some (.int .i64 x.2) := by
  obtain ⟨b, o, vs, e, hb, hr, hc⟩ := h.2.elems.at_ (k := k) hk
  refine ⟨b, o, _, e, hb, List.getElem?_eq_getElem (by rw [h.2.len]; exact hk), hc 0 _ ?_, hc 1 _ ?_⟩
  · rw [show vs = _ from hr]; rfl
  · rw [show vs = _ from hr]; rfl
theorem idx_next {l : Row} {k : Nat} {x : Int × Int} (h : l[k]? = some x) : (l.take (k + 1)).zipIdx = (l.take k).zipIdx ++ [(x, k)] := by
  have hk := (List.getElem?_eq_some_iff.1 h).1
  rw [List.take_add_one, h, Option.toList_some, List.zipIdx_append]
  simp [List.length_take]; omega
theorem yield_nil (l : Nat) (w : World) : (binOp BinOp.eql 100 (.func (.yield l) #[] #[]) Value.nilFunc).run Tryd.prog w = .ok (.bool false) w := by kernel_rfl
set_option maxRecDepth 100000 in
set_option maxHeartbeats 2000000 in
theorem all1_nil_in (n0 : Nat) (hn0 : 1 ≤ n0) (l bx : Nat) (W : World) (hb : Str W bx #[.pointer none]) :
    CallsIn Fence.wide n0 Tryd.prog 52 #[.func (.yield l) #[] #[], .pointer (some ⟨bx, 0, none⟩)] W fun e W' => (∃ v, e = .returned v) ∧ Below W.heap.size W W' := by
  have g0 := str1 hb
  refine callsIn_wide.2 ?_
  go_enter Tryd.func52, Tryd.ntmps52
  go_wp2
  exact bodyPost_ret (results_none rfl _ _ _) rfl ⟨⟨_, rfl⟩, bsame W⟩
set_option maxRecDepth 100000 in
set_option maxHeartbeats 2000000 in
theorem all1_in (n0 : Nat) (hn0 : 1 ≤ n0) (l bx q n c : Nat) (A : Option Addr) (lr : Row) (J Jx : List ((Int × Int) × Nat) → World → Prop) (hn : n ≤ 1000000)
    (hY : ∀ pre (x : (Int × Int) × Nat) W, J pre W → lr[x.2]? = some x.1 → pre.length < lr.length → (pre ++ [x]).map (·.1) <+: lr → YieldAt Fence.wide (n0 - 1) Tryd.prog l #[.int .i64 (x.2 : Int), .agg #[.int .i64 x.1.1, .int .i64 x.1.2]] W fun e W' =>
      (e = .returned (.bool true) ∧ J (pre ++ [x]) W' ∧ KpQ q A W W') ∨ (e = .returned (.bool false) ∧ Jx (pre ++ [x]) W'))
    (hD : ∀ pre A B, J pre A → Below A.heap.size A B → J pre B) (W : World) (hb : Str W bx #[.pointer (some ⟨q, 0, none⟩)]) (hq : Que W q A n c lr) (h0 : J [] W) :
    CallsIn Fence.wide n0 Tryd.prog 52 #[.func (.yield l) #[] #[], .pointer (some ⟨bx, 0, none⟩)] W fun e W' => (∃ v, e = .returned v) ∧
      ((∃ ys, ys = lr.zipIdx ∧ J ys W') ∨ (∃ pre, Jx pre W')) := by
  have HY : Hid (∀ pre (x : (Int × Int) × Nat) W, J pre W → lr[x.2]? = some x.1 → pre.length < lr.length → (pre ++ [x]).map (·.1) <+: lr → YieldAt Fence.wide (n0 - 1) Tryd.prog l #[.int .i64 (x.2 : Int), .agg #[.int .i64 x.1.1, .int .i64 x.1.2]] W fun e W' =>
      ∃ c, e = .returned (.bool c) ∧ ((c = true ∧ J (pre ++ [x]) W' ∧ KpQ q A W W') ∨ (c = false ∧ Jx (pre ++ [x]) W'))) := Lib.hid fun pre x W hJ hm hl hp => by
    obtain ⟨fn, tmps, assign, body, hy, hR⟩ := hY pre x W hJ hm hl hp
    refine ⟨fn, tmps, assign, body, hy, hR.mono ?_⟩
    rintro e w' (⟨rfl, h1, h2⟩ | ⟨rfl, h1⟩)
    · exact ⟨true, rfl, .inl ⟨rfl, h1, h2⟩⟩
    · exact ⟨false, rfl, .inr ⟨rfl, h1⟩⟩
  have HQ := Lib.hid hq
  have HS := Lib.hid hb
  have HD := Lib.hid hD
  have H0 := Lib.hid h0
  have f0 := str1 hb
  have hlen := hq.fit
  have q1 := yield_nil l
  clear hY hq hb hD h0
  refine callsIn_of_wp Tryd.func52 rfl trivial ?_ rfl
  simp only [Tryd.ntmps52, List.size_toArray, List.length_cons, List.length_nil, Nat.reduceAdd, Nat.reduceSub, Array.replicate_succ, Array.replicate_zero, List.push_toArray, List.append_toArray, List.nil_append, List.cons_append]
  gi_wp2
  refine wpIn_wide.2 ?_
  refine Reg.wp_region_vals (R := ext) (W := W) [Reg.eqv (.pointer (some ⟨q, 0, none⟩)), Reg.eqv (.pointer (some ⟨q, 0, none⟩)), Reg.eqv (.pointer (some ⟨q, 0, none⟩)), Reg.eqv (.slice A n c), Reg.eqv (.pointer (some ⟨q, 0, none⟩)), Reg.eqv (.pointer (some ⟨q, 0, none⟩)), Reg.eqv (.pointer (some ⟨q, 1, none⟩)), Reg.eqv (.int .i64 0), Reg.eqv (.slice A n c), Reg.eqv (.int .i64 (n : Int)), Reg.eqv (.int .i64 0)] 32 [[(1, none)], [(11, some 0)], [(12, some 1)], [(13, some 2)], [(1, none)], [(15, some 4)], [(16, some 5)], [(17, some 6)], [(14, some 3), (18, some 7)], [(19, some 8)], []] rfl (by kernel_rfl) (by kernel_rfl) (by kernel_rfl) ?_ [some 11, some 12, some 13, some 14, some 15, some 16, some 17, some 18, some 19, some 20, some 21] (by kernel_rfl) ?_
  · refine ⟨?_, ?_, ?_, ?_, ?_, ?_, ?_, ?_, ?_, ?_, ?_, trivial⟩
    · intro ax wx hx hs
      obtain ⟨e1, -⟩ := hs
      have g1 := Reg.ev (v := .pointer (some ⟨bx, 0, none⟩)) e1
      have l0 := (HS.out.next hx).cell 0
      have l1 := str2 ((HQ.out.below hx).1)
      exact Reg.obl_free rfl (Reg.wp_eqv (Option.some_ne_none _) (by go_simp) rfl)
    · intro ax wx hx hs
      obtain ⟨e11, -⟩ := hs
      have g11 := Reg.ev (v := .pointer (some ⟨q, 0, none⟩)) e11
      exact Reg.obl_free rfl (Reg.wp_eqv (Option.some_ne_none _) (by go_simp) rfl)
    · intro ax wx hx hs
      obtain ⟨e12, -⟩ := hs
      have g12 := Reg.ev (v := .pointer (some ⟨q, 0, none⟩)) e12
      exact Reg.obl_free rfl (Reg.wp_eqv (Option.some_ne_none _) (by go_simp) rfl)
    · intro ax wx hx hs
      obtain ⟨e13, -⟩ := hs
      have g13 := Reg.ev (v := .pointer (some ⟨q, 0, none⟩)) e13
      have l0 := (HS.out.next hx).cell 0
      have l1 := str2 ((HQ.out.below hx).1)
      exact Reg.obl_free rfl (Reg.wp_eqv (Option.some_ne_none _) (by go_simp) rfl)
    · intro ax wx hx hs
      obtain ⟨e1, -⟩ := hs
      have g1 := Reg.ev (v := .pointer (some ⟨bx, 0, none⟩)) e1
      have l0 := (HS.out.next hx).cell 0
      have l1 := str2 ((HQ.out.below hx).1)
      exact Reg.obl_free rfl (Reg.wp_eqv (Option.some_ne_none _) (by go_simp) rfl)
    · intro ax wx hx hs
      obtain ⟨e15, -⟩ := hs
      have g15 := Reg.ev (v := .pointer (some ⟨q, 0, none⟩)) e15
      exact Reg.obl_free rfl (Reg.wp_eqv (Option.some_ne_none _) (by go_simp) rfl)
    · intro ax wx hx hs
      obtain ⟨e16, -⟩ := hs
      have g16 := Reg.ev (v := .pointer (some ⟨q, 0, none⟩)) e16
      exact Reg.obl_free rfl (Reg.wp_eqv (Option.some_ne_none _) (by go_simp) rfl)
    · intro ax wx hx hs
      obtain ⟨e17, -⟩ := hs
      have g17 := Reg.ev (v := .pointer (some ⟨q, 1, none⟩)) e17
      have l0 := (HS.out.next hx).cell 0
      have l1 := str2 ((HQ.out.below hx).1)
      exact Reg.obl_free rfl (Reg.wp_eqv (Option.some_ne_none _) (by go_simp) rfl)
    · intro ax wx hx hs
      obtain ⟨e14, e18, -⟩ := hs
      have g14 := Reg.ev (v := .slice A n c) e14
      have g18 := Reg.ev (v := .int .i64 0) e18
      exact Reg.obl_free rfl (Reg.wp_eqv (Option.some_ne_none _) (by go_simp) rfl)
    · intro ax wx hx hs
      obtain ⟨e19, -⟩ := hs
      have g19 := Reg.ev (v := .slice A n c) e19
      exact Reg.obl_free rfl (Reg.wp_eqv (Option.some_ne_none _) (by go_simp) rfl)
    · intro ax wx hx hs
      exact Reg.obl_free rfl (Reg.wp_eqv (Option.some_ne_none _) (by go_simp) rfl)
  · intro W1 hwf
    simp only [Reg.Fin]
    rintro _ rfl _ rfl _ rfl _ rfl _ rfl _ rfl _ rfl _ rfl _ rfl _ rfl _ rfl
    go_simp
    have HB1 : Hid (Below W.heap.size W W1) := Lib.hid hwf
    have HQ1 := Lib.hid (HQ.out.below HB1.out)
    have H1 := Lib.hid (HD.out _ _ _ H0.out HB1.out)
    clear hwf f0
    gi_wp2
    gi_loopw [21] (fun p wr => ∃ k : Nat, k ≤ n ∧ p = .int .i64 (k : Int) ∧ Hid (Que wr q A n c lr ∧ J (lr.take k).zipIdx wr)) (fun p wr => (n - (intOf p).toNat : Nat))
    case atStart =>
      exact ⟨0, Nat.zero_le _, rfl, Lib.hid ⟨HQ1.out, by simpa using H1.out⟩⟩
    case round =>
      obtain ⟨k, hk, rfl, HR⟩ := hrel
      by_cases hlt : k < n
      · obtain ⟨b, o, x, rfl, hbl, hx, c0, c1⟩ := HR.out.1.at_ hlt
        have HX := Lib.hid hx
        clear hx
        have hd1 : decide ((k : Int) < (n : Int)) = true := by simpa using hlt
        have k1 : ¬ (k : Int) < 0 := by omega
        have hb3 : Below wr.heap.size wr (wr.alloc (.cells #[.int .i64 x.1, .int .i64 x.2] 80)) := balloc (bsame wr) _
        have HB3 := Lib.hid hb3
        obtain ⟨fn, tmps, assign, body, hy1, hR⟩ := HY.out _ (x, k) _ (HD.out _ _ _ HR.out.2 hb3) HX.out (by have := (List.getElem?_eq_some_iff.1 HX.out).1; simp [List.length_take]; omega) (by rw [← idx_next HX.out, List.zipIdx_map_fst]; exact List.take_prefix _ _)
        have HRR := Lib.hid hR
        have HW := Lib.hid (HR.out.1.below hb3)
        clear hR hb3
        gi_wp2_with fail
        refine HRR.out.mono ?_
        rintro e W3 ⟨cc, rfl, hc⟩
        have HX3 := HX
        rcases hc with ⟨rfl, hJ3, hk3⟩ | ⟨rfl, hJ3⟩
        · have HJ3 := Lib.hid hJ3
          have HQ3 := Lib.hid (HW.out.kp hk3)
          clear hJ3 hk3 hy1
          gi_wp2_with fail
          go_roundw
          case rel => exact ⟨k + 1, by omega, by simp, Lib.hid ⟨HQ3.out, by rw [idx_next HX.out]; exact HJ3.out⟩⟩
          case measure => simp [intOf]; try omega
        · have HJ3 := Lib.hid hJ3
          clear hJ3 hy1
          gi_wp2_with fail
          refine bodyPost_ret (results_none rfl _ _ _) rfl ?_
          exact ⟨⟨_, rfl⟩, .inr ⟨_, HJ3.out⟩⟩
      · have hd1 : decide ((k : Int) < (n : Int)) = false := by simpa using hlt
        gi_wp2_with fail
        go_end0
        obtain rfl : k = n := by omega
        exact ⟨⟨_, rfl⟩, .inl ⟨_, rfl, by have h := HR.out.2; rwa [List.take_of_length_le (by omega)] at h⟩⟩
end LockW
end Go.Proofs.YtkkfabnehhamdaaDoor
end
section
namespace Go.Proofs.YtkkfabnehhamdaaDoor
open Go.RowKit Go.Maps LockP
set_option linter.unusedVariables false
set_option linter.unusedSimpArgs false
namespace LockW
section
variable {w w' : World} {t N N' x b1 b2 b3 b4 : Nat} {bs : List Nat} {X : St} {lab : Nat → Role} {es1 : MapP.T ByteArray (Option Nat)} {es2 : MapP.T Int (Option Nat)} {es3 : MapP.T ByteArray (Option Nat)} {k : ByteArray} {u : Int}
theorem nil_own (w : World) (u : Int) : (Instr.lookup 74 (.map none) (.int .i64 u) false).run Tryd.prog w = .ok (.int .i64 0) w := by kernel_rfl
theorem LkIn.look1 (h : LkIn w t bs N X lab b1 b2 b3 b4 es1 es2 es3) (hk : k.size ≤ 100) : (Instr.lookup 65 (.map (some b1)) (.string k) false).run Tryd.prog w = .ok (.map ((MapP.get es1 k).getD none)) w :=
  h.m1.look lawS Tryd.underlying65 (zeroMap1 w) (keyS hk)
theorem LkIn.look2 (h : LkIn w t bs N X lab b1 b2 b3 b4 es1 es2 es3) (hu : In64 u) : (Instr.lookup 66 (.map (some b2)) (.int .i64 u) false).run Tryd.prog w = .ok (.map ((MapP.get es2 u).getD none)) w :=
  h.m2.look lawI Tryd.underlying66 (zeroMap2 w) (keyI hu)
theorem LkIn.look3 (h : LkIn w t bs N X lab b1 b2 b3 b4 es1 es2 es3) (hk : k.size ≤ 100) : (Instr.lookup 67 (.map (some b3)) (.string k) false).run Tryd.prog w = .ok (.pointer (((MapP.get es3 k).getD none).map fun q => ⟨q, 0, none⟩)) w :=
  h.m3.look lawS Tryd.underlying67 (zeroQue w) (keyS hk)
theorem LkIn.look4 (h : LkIn w t bs N X lab b1 b2 b3 b4 es1 es2 es3) (hu : In64 u) : (Instr.lookup 68 (.map (some b4)) (.int .i64 u) true).run Tryd.prog w = .ok (.tuple #[goalM.val ((MapP.get X.goal u).getD (⟨#[]⟩, 0)), .bool (MapP.has X.goal u)]) w :=
  h.m4.look_ok lawI Tryd.underlying68 (zeroGoal w) (keyI hu)
/-- by which set one holds a key -/
theorem LkIn.lookSet (h : LkIn w t bs N X lab b1 b2 b3 b4 es1 es2 es3) (k : ByteArray) (hu : In64 u) : (Instr.lookup 74 (.map ((MapP.get es1 k).getD none)) (.int .i64 u) false).run Tryd.prog w = .ok (.int .i64 (LockP.set X k u)) w := by
  cases hg : MapP.get es1 k with
  | none =>
    have e : LockP.set X k u = 0 := by unfold LockP.set; rw [h.n1 k hg]; rfl
    rw [e]
    exact nil_own w u
  | some o =>
    obtain ⟨b, rfl, -, -, hM⟩ := h.e1 k o hg
    exact hM.look lawI Tryd.underlying74 (zeroNum w) (keyI hu)
end
set_option maxRecDepth 100000 in
set_option maxHeartbeats 1000000 in
theorem holds_any (t N : Nat) (bs : List Nat) (X : St) (u : Int) (k : ByteArray) (w : World) (h : Lk w t bs N X) (hu : In64 u) (hk : k.size ≤ 100) : Calls Tryd.prog 13 #[.pointer (some ⟨t, 0, none⟩), .int .i64 u, .string k] w fun e w' => e = .returned (.int .i64 (LockP.set X k u)) ∧ w = w' := by
  obtain ⟨lab, b1, b2, b3, b4, es1, es2, es3, h⟩ := h
  have f0 := str4 h.box
  have hl := h.box.lt
  have e1 := h.look1 hk
  have e2 := h.lookSet k hu
  clear h
  generalize (MapP.get es1 k).getD none = o1 at *
  go_enter Tryd.func13, Tryd.ntmps13
  go_wp2_with fail
  go_ret
  exact ⟨rfl, rfl⟩
set_option maxRecDepth 100000 in
set_option maxHeartbeats 1000000 in
theorem waits_any (t N : Nat) (bs : List Nat) (X : St) (u : Int) (w : World) (h : Lk w t bs N X) (hu : In64 u) : Calls Tryd.prog 10 #[.pointer (some ⟨t, 0, none⟩), .int .i64 u] w fun e w' => e = .returned (.tuple #[.string ((MapP.get X.goal u).getD (⟨#[]⟩, 0)).1, .int .i64 ((MapP.get X.goal u).getD (⟨#[]⟩, 0)).2, .bool (MapP.has X.goal u)]) ∧ Below w.heap.size w w' := by
  obtain ⟨lab, b1, b2, b3, b4, es1, es2, es3, h⟩ := h
  have f0 := str4 h.box
  have hl := h.box.lt
  have e4 := h.look4 hu
  clear h
  generalize (MapP.get X.goal u).getD (⟨#[]⟩, 0) = g at *
  obtain ⟨gk, gm⟩ := g
  change (Instr.lookup _ _ _ _).run _ _ = .ok (.tuple #[.agg #[.string gk, .int .i64 gm], _]) _ at e4
  go_enter Tryd.func10, Tryd.ntmps10
  go_wp2_with fail
  generalize hW1 : w.alloc (.cells #[.string gk, .int .i64 gm] 72) = W1
  have hb1 : Below w.heap.size w W1 := by rw [← hW1]; exact balloc (bsame _) _
  have f1 : W1.cell? ⟨w.heap.size, 0, none⟩ = some (.string gk) ∧ W1.cell? ⟨w.heap.size, 1, none⟩ = some (.int .i64 gm) := by rw [← hW1]; exact str2 (Str.new w _ _)
  clear hW1 e4 f0
  obtain ⟨f1, f2⟩ := f1
  have HLT : Hid (w.heap.size < W1.heap.size) := Lib.hid (lt_of_cell f1)
  refine Reg.wp_region_vals (R := ext) (W := W1) [Reg.eqv (.pointer (some ⟨w.heap.size, 0, none⟩)), Reg.eqv (.string gk), Reg.eqv (.pointer (some ⟨w.heap.size, 1, none⟩)), Reg.eqv (.int .i64 gm), Reg.eqv (.bool (MapP.has X.goal u)), Reg.eqv (.string gk), Reg.eqv (.int .i64 gm), Reg.eqv (.bool (MapP.has X.goal u))] 25 [[(7, none)], [(20, some 0)], [(7, none)], [(22, some 2)], [(8, none)], [(21, some 1)], [(23, some 3)], [(24, some 4)]] rfl (by kernel_rfl) (by kernel_rfl) (by kernel_rfl) ?_ [some 20, some 21, some 22, some 23, some 24, some 4, some 5, some 6] (by kernel_rfl) ?_
  · refine ⟨?_, ?_, ?_, ?_, ?_, ?_, ?_, ?_, trivial⟩
    · intro ax wx hx hs
      obtain ⟨e7, -⟩ := hs
      have g7 := Reg.ev (v := .pointer (some ⟨w.heap.size, 0, none⟩)) e7
      exact Reg.obl_free rfl (Reg.wp_eqv (Option.some_ne_none _) (by go_simp) rfl)
    · intro ax wx hx hs
      obtain ⟨e20, -⟩ := hs
      have g20 := Reg.ev (v := .pointer (some ⟨w.heap.size, 0, none⟩)) e20
      have l0 : wx.cell? ⟨w.heap.size, 0, none⟩ = some (.string gk) := (World.cell?_of_block (a := ⟨w.heap.size, 0, none⟩) (Below.block hx w.heap.size (by have := hb1.size; exact HLT.out))).trans f1
      have l1 : wx.cell? ⟨w.heap.size, 1, none⟩ = some (.int .i64 gm) := (World.cell?_of_block (a := ⟨w.heap.size, 1, none⟩) (Below.block hx w.heap.size (by have := hb1.size; exact HLT.out))).trans f2
      exact Reg.obl_free rfl (Reg.wp_eqv (Option.some_ne_none _) (by go_simp) rfl)
    · intro ax wx hx hs
      obtain ⟨e7, -⟩ := hs
      have g7 := Reg.ev (v := .pointer (some ⟨w.heap.size, 0, none⟩)) e7
      exact Reg.obl_free rfl (Reg.wp_eqv (Option.some_ne_none _) (by go_simp) rfl)
    · intro ax wx hx hs
      obtain ⟨e22, -⟩ := hs
      have g22 := Reg.ev (v := .pointer (some ⟨w.heap.size, 1, none⟩)) e22
      have l0 : wx.cell? ⟨w.heap.size, 0, none⟩ = some (.string gk) := (World.cell?_of_block (a := ⟨w.heap.size, 0, none⟩) (Below.block hx w.heap.size (by have := hb1.size; exact HLT.out))).trans f1
      have l1 : wx.cell? ⟨w.heap.size, 1, none⟩ = some (.int .i64 gm) := (World.cell?_of_block (a := ⟨w.heap.size, 1, none⟩) (Below.block hx w.heap.size (by have := hb1.size; exact HLT.out))).trans f2
      exact Reg.obl_free rfl (Reg.wp_eqv (Option.some_ne_none _) (by go_simp) rfl)
    · intro ax wx hx hs
      obtain ⟨e8, -⟩ := hs
      have g8 := Reg.ev (v := .bool (MapP.has X.goal u)) e8
      exact Reg.obl_free rfl (Reg.wp_eqv (Option.some_ne_none _) (by go_simp) rfl)
    · intro ax wx hx hs
      obtain ⟨e21, -⟩ := hs
      have g21 := Reg.ev (v := .string gk) e21
      exact Reg.obl_free rfl (Reg.wp_eqv (Option.some_ne_none _) (by go_simp) rfl)
    · intro ax wx hx hs
      obtain ⟨e23, -⟩ := hs
      have g23 := Reg.ev (v := .int .i64 gm) e23
      exact Reg.obl_free rfl (Reg.wp_eqv (Option.some_ne_none _) (by go_simp) rfl)
    · intro ax wx hx hs
      obtain ⟨e24, -⟩ := hs
      have g24 := Reg.ev (v := .bool (MapP.has X.goal u)) e24
      exact Reg.obl_free rfl (Reg.wp_eqv (Option.some_ne_none _) (by go_simp) rfl)
  · intro W2 hwf
    simp only [Reg.Fin]
    rintro _ rfl _ rfl _ rfl _ rfl _ rfl _ rfl _ rfl _ rfl
    go_simp
    have hwf' : Below W1.heap.size W1 W2 := hwf
    have HB := Lib.hid (bstep hb1 hwf')
    clear hwf hwf' hb1
    go_wp2
    exact bodyPost_ret (v := .tuple #[.string gk, .int .i64 gm, .bool (MapP.has X.goal u)]) (by simp [results, Tryd.results10, go_sem, *]) rfl ⟨rfl, HB.out⟩
theorem made_map {α : Type} {K : Type} [DecidableEq K] {S : KeyS K} {E : ElS α} {kt : TypeId} {w W : World} {b : Nat} (he : w.heap.size = b) (hb : Below (w.alloc (.map #[] 0)).heap.size (w.alloc (.map #[] 0)) W) : MapM Tryd.prog S E kt W b 0 [] := by
  subst he
  exact (MapM.made (P := Tryd.prog) (S := S) (E := E) (kt := kt) w).at_ (hb.block _ (by simp))
theorem new_in (w : World) : Lk (((((w.alloc (.map #[] 0)).alloc (.map #[] 0)).alloc (.map #[] 0)).alloc (.map #[] 0)).alloc (.cells #[.map (some w.heap.size), .map (some (w.heap.size + 1)), .map (some (w.heap.size + 1 + 1)), .map (some (w.heap.size + 1 + 1 + 1))] 70)) (w.heap.size + 1 + 1 + 1 + 1) [w.heap.size + 1 + 1 + 1 + 1, w.heap.size, w.heap.size + 1, w.heap.size + 1 + 1, w.heap.size + 1 + 1 + 1] 0 empty := by
  refine ⟨fun b => if b = w.heap.size then .m1 else if b = w.heap.size + 1 then .m2 else if b = w.heap.size + 1 + 1 then .m3 else if b = w.heap.size + 1 + 1 + 1 then .m4 else .box, w.heap.size, w.heap.size + 1, w.heap.size + 1 + 1, w.heap.size + 1 + 1 + 1, [], [], [], ?_, ?_, ?_, ?_, ?_, ?_, by simp, (fun k o h => by cases h), (fun _ _ => rfl), (fun k o h => by cases h), (fun _ _ => rfl), (fun k o h => by cases h), (fun _ _ => rfl), fun b hb => ?_⟩
  · have := Str.new ((((w.alloc (.map #[] 0)).alloc (.map #[] 0)).alloc (.map #[] 0)).alloc (.map #[] 0)) #[.map (some w.heap.size), .map (some (w.heap.size + 1)), .map (some (w.heap.size + 1 + 1)), .map (some (w.heap.size + 1 + 1 + 1))] 70
    simpa using this
  · exact made_map (w := w) rfl (balloc (balloc (balloc (balloc (bsame _) _) _) _) _)
  · exact made_map (w := w.alloc (.map #[] 0)) (by simp) (balloc (balloc (balloc (bsame _) _) _) _)
  · exact made_map (w := (w.alloc (.map #[] 0)).alloc (.map #[] 0)) (by simp) (balloc (balloc (bsame _) _) _)
  · exact made_map (w := ((w.alloc (.map #[] 0)).alloc (.map #[] 0)).alloc (.map #[] 0)) (by simp) (balloc (bsame _) _)
  · refine ⟨by rw [if_neg (by omega), if_neg (by omega), if_neg (by omega), if_neg (by omega)], by rw [if_pos rfl], by rw [if_neg (by omega), if_pos rfl], by rw [if_neg (by omega), if_neg (by omega), if_pos rfl], by rw [if_neg (by omega), if_neg (by omega), if_neg (by omega), if_pos rfl]⟩
  · simp only [List.mem_cons, List.not_mem_nil, or_false] at hb
    simp
    omega
set_option maxRecDepth 100000 in
set_option maxHeartbeats 1000000 in
theorem new_any (w : World) : Calls Tryd.prog 8 #[] w fun e w' => ∃ t bs, e = .returned (.pointer (some ⟨t, 0, none⟩)) ∧ Lk w' t bs 0 empty ∧ (∀ b ∈ bs, w.heap.size ≤ b) ∧ Below w.heap.size w w' := by
  have m1 : ∀ W : World, (Instr.makeMap 65 none).run Tryd.prog W = .ok (.map (some W.heap.size)) (W.alloc (.map #[] 0)) := fun W => by kernel_rfl
  have m2 : ∀ W : World, (Instr.makeMap 66 none).run Tryd.prog W = .ok (.map (some W.heap.size)) (W.alloc (.map #[] 0)) := fun W => by kernel_rfl
  have m3 : ∀ W : World, (Instr.makeMap 67 none).run Tryd.prog W = .ok (.map (some W.heap.size)) (W.alloc (.map #[] 0)) := fun W => by kernel_rfl
  have m4 : ∀ W : World, (Instr.makeMap 68 none).run Tryd.prog W = .ok (.map (some W.heap.size)) (W.alloc (.map #[] 0)) := fun W => by kernel_rfl
  go_enter Tryd.func8, Tryd.ntmps8
  go_wp2_with fail
  go_ret
  exact ⟨w.heap.size + 1 + 1 + 1 + 1, [w.heap.size + 1 + 1 + 1 + 1, w.heap.size, w.heap.size + 1, w.heap.size + 1 + 1, w.heap.size + 1 + 1 + 1], rfl, new_in w, fun b hb => by simp only [List.mem_cons, List.not_mem_nil, or_false] at hb; omega, balloc (balloc (balloc (balloc (balloc (bsame w) _) _) _) _) _⟩
end LockW
end Go.Proofs.YtkkfabnehhamdaaDoor
end
section
namespace Go.Proofs.YtkkfabnehhamdaaDoor
open Go.RowKit Go.Maps LockP
set_option linter.unusedVariables false
set_option linter.unusedSimpArgs false
namespace LockW
section
variable {w w' : World} {t N N' x b b1 b2 b3 b4 : Nat} {bs bs' : List Nat} {X : St} {lab lab' : Nat → Role} {es1 es1' : MapP.T ByteArray (Option Nat)} {es2 es2' : MapP.T Int (Option Nat)} {es3 es3' : MapP.T ByteArray (Option Nat)} {k : ByteArray} {u : Int}
/-- the same, blocks more -/
theorem LkIn.relab (h : LkIn w t bs N X lab b1 b2 b3 b4 es1 es2 es3) (hl : ∀ b ∈ bs, lab' b = lab b) (hb : ∀ b ∈ bs, b ∈ bs') (hlo : ∀ b ∈ bs', b < w.heap.size) : LkIn w t bs' N X lab' b1 b2 b3 b4 es1 es2 es3 := by
  obtain ⟨i0, i1, i2, i3, i4⟩ := h.inb
  obtain ⟨l0, l1, l2, l3, l4⟩ := h.labs
  refine ⟨h.box, h.m1, h.m2, h.m3, h.m4, ⟨(hl _ i0).trans l0, (hl _ i1).trans l1, (hl _ i2).trans l2, (hl _ i3).trans l3, (hl _ i4).trans l4⟩, ⟨hb _ i0, hb _ i1, hb _ i2, hb _ i3, hb _ i4⟩, fun k o ho => ?_, h.n1, fun u o ho => ?_, h.n2, fun k o ho => ?_, h.n3, hlo⟩
  · obtain ⟨b, e, l, hm, hM⟩ := h.e1 k o ho
    exact ⟨b, e, (hl b hm).trans l, hb b hm, hM⟩
  · obtain ⟨b, e, l, hm, hM⟩ := h.e2 u o ho
    exact ⟨b, e, (hl b hm).trans l, hb b hm, hM⟩
  · obtain ⟨q, A, n, c, e, l, hm, hQ, hA, hn⟩ := h.e3 k o ho
    exact ⟨q, A, n, c, e, (hl q hm).trans l, hb q hm, hQ, fun a ha => ⟨(hl _ (hA a ha).2).trans (hA a ha).1, hb _ (hA a ha).2⟩, hn⟩
/-- a new block -/
theorem LkIn.fresh (h : LkIn w t bs N X lab b1 b2 b3 b4 es1 es2 es3) (r : Role) (o : Obj) : LkIn (w.alloc o) t (w.heap.size :: bs) N X (fun b => if b = w.heap.size then r else lab b) b1 b2 b3 b4 es1 es2 es3 := by
  have h1 := h.next (balloc (bsame w) o)
  refine h1.relab (fun b hb => ?_) (fun b hb => List.mem_cons_of_mem _ hb) (fun b hb => ?_)
  · have := h.lo b hb
    rw [if_neg (by omega)]
  · rcases List.mem_cons.1 hb with rfl | hb
    · simp
    · exact h1.lo b hb
theorem LkIn.own_turn (h : LkIn w t bs N X lab b1 b2 b3 b4 es1 es2 es3) (hb : MapP.get es1 k = some (some b)) (hg : w.grownBy w' (some b)) {L : MapP.T Int Int} (hM : MO w' b N' L) (hN : N ≤ N') : LkIn w' t bs N' { X with own := upd X.own k L } lab b1 b2 b3 b4 es1 es2 es3 := by
  obtain ⟨b', e, l, hm, -⟩ := h.e1 k _ hb
  cases e
  have r := (h.mono hN).rest hg
  rw [l] at r
  refine ⟨r.box nofun, r.m1 nofun, r.m2 nofun, r.m3 nofun, r.m4 nofun, h.labs, h.inb, fun k' o ho => ?_, fun k' hn => ?_, fun u o ho => r.e2 u o nofun ho, h.n2, fun k' o ho => r.e3 k' o nofun nofun ho, h.n3, r.lo⟩
  · by_cases e : k' = k
    · subst e
      rw [hb] at ho
      cases ho
      exact ⟨b, rfl, l, hm, by show MO w' b N' (upd X.own k' L k'); rw [upd_same]; exact hM⟩
    · obtain ⟨b2', e2, l2, hm2, hM2⟩ := r.e1 k' o (fun e3 => e (by injection e3 with e3; exact e3.symm)) ho
      exact ⟨b2', e2, l2, hm2, by show MO w' b2' N' (upd X.own k L k'); rw [upd_other _ _ e]; exact hM2⟩
  · have e : k' ≠ k := fun e => by rw [e, hb] at hn; cases hn
    show upd X.own k L k' = []
    rw [upd_other _ _ e]
    exact h.n1 k' hn
theorem LkIn.mem_turn (h : LkIn w t bs N X lab b1 b2 b3 b4 es1 es2 es3) (hb : MapP.get es2 u = some (some b)) (hg : w.grownBy w' (some b)) {L : MapP.T ByteArray Unit} (hM : MM w' b N' L) (hN : N ≤ N') : LkIn w' t bs N' { X with mem := upd X.mem u L } lab b1 b2 b3 b4 es1 es2 es3 := by
  obtain ⟨b', e, l, hm, -⟩ := h.e2 u _ hb
  cases e
  have r := (h.mono hN).rest hg
  rw [l] at r
  refine ⟨r.box nofun, r.m1 nofun, r.m2 nofun, r.m3 nofun, r.m4 nofun, h.labs, h.inb, fun k' o ho => r.e1 k' o nofun ho, h.n1, fun u' o ho => ?_, fun u' hn => ?_, fun k' o ho => r.e3 k' o nofun nofun ho, h.n3, r.lo⟩
  · by_cases e : u' = u
    · subst e
      rw [hb] at ho
      cases ho
      exact ⟨b, rfl, l, hm, by show MM w' b N' (upd X.mem u' L u'); rw [upd_same]; exact hM⟩
    · obtain ⟨b2', e2, l2, hm2, hM2⟩ := r.e2 u' o (fun e3 => e (by injection e3 with e3; exact e3.symm)) ho
      exact ⟨b2', e2, l2, hm2, by show MM w' b2' N' (upd X.mem u L u'); rw [upd_other _ _ e]; exact hM2⟩
  · have e : u' ≠ u := fun e => by rw [e, hb] at hn; cases hn
    show upd X.mem u L u' = []
    rw [upd_other _ _ e]
    exact h.n2 u' hn
theorem LkIn.m1_turn (h : LkIn w t bs N X lab b1 b2 b3 b4 es1 es2 es3) (hg : w.grownBy w' (some b1)) (hM : M1 w' b1 N' es1') (hN : N ≤ N') (he : ∀ k' o, MapP.get es1' k' = some o → MapP.get es1 k' = some o ∨ ∃ b, o = some b ∧ lab b = .own k' ∧ b ∈ bs ∧ MO w' b N' (X.own k')) (hn : ∀ k', MapP.get es1' k' = none → X.own k' = []) : LkIn w' t bs N' X lab b1 b2 b3 b4 es1' es2 es3 := by
  have r := (h.mono hN).rest hg
  rw [h.labs.2.1] at r
  refine ⟨r.box nofun, hM, r.m2 nofun, r.m3 nofun, r.m4 nofun, h.labs, h.inb, fun k' o ho => ?_, hn, fun u o ho => r.e2 u o nofun ho, h.n2, fun k' o ho => r.e3 k' o nofun nofun ho, h.n3, r.lo⟩
  rcases he k' o ho with ho | ho
  · exact r.e1 k' o nofun ho
  · exact ho
theorem LkIn.m2_turn (h : LkIn w t bs N X lab b1 b2 b3 b4 es1 es2 es3) (hg : w.grownBy w' (some b2)) (hM : M2 w' b2 N' es2') (hN : N ≤ N') (he : ∀ u' o, MapP.get es2' u' = some o → MapP.get es2 u' = some o ∨ ∃ b, o = some b ∧ lab b = .mem u' ∧ b ∈ bs ∧ MM w' b N' (X.mem u')) (hn : ∀ u', MapP.get es2' u' = none → X.mem u' = []) : LkIn w' t bs N' X lab b1 b2 b3 b4 es1 es2' es3 := by
  have r := (h.mono hN).rest hg
  rw [h.labs.2.2.1] at r
  refine ⟨r.box nofun, r.m1 nofun, hM, r.m3 nofun, r.m4 nofun, h.labs, h.inb, fun k' o ho => r.e1 k' o nofun ho, h.n1, fun u' o ho => ?_, hn, fun k' o ho => r.e3 k' o nofun nofun ho, h.n3, r.lo⟩
  rcases he u' o ho with ho | ho
  · exact r.e2 u' o nofun ho
  · exact ho
theorem LkIn.m3_turn (h : LkIn w t bs N X lab b1 b2 b3 b4 es1 es2 es3) (hg : w.grownBy w' (some b3)) (hM : M3 w' b3 N' es3') (hN : N ≤ N') (he : ∀ k' o, MapP.get es3' k' = some o → MapP.get es3 k' = some o ∨ ∃ q A n c, o = some q ∧ lab q = .que k' ∧ q ∈ bs ∧ Que w' q A n c (X.row k') ∧ (∀ a, A = some a → lab a.block = .itm k' ∧ a.block ∈ bs) ∧ n ≤ N') (hn : ∀ k', MapP.get es3' k' = none → X.row k' = []) : LkIn w' t bs N' X lab b1 b2 b3 b4 es1 es2 es3' := by
  have r := (h.mono hN).rest hg
  rw [h.labs.2.2.2.1] at r
  refine ⟨r.box nofun, r.m1 nofun, r.m2 nofun, hM, r.m4 nofun, h.labs, h.inb, fun k' o ho => r.e1 k' o nofun ho, h.n1, fun u' o ho => r.e2 u' o nofun ho, h.n2, fun k' o ho => ?_, hn, r.lo⟩
  rcases he k' o ho with ho | ho
  · exact r.e3 k' o nofun nofun ho
  · exact ho
theorem LkIn.m4_turn (h : LkIn w t bs N X lab b1 b2 b3 b4 es1 es2 es3) (hg : w.grownBy w' (some b4)) {g : MapP.T Int (ByteArray × Int)} (hM : M4 w' b4 N' g) (hN : N ≤ N') : LkIn w' t bs N' { X with goal := g } lab b1 b2 b3 b4 es1 es2 es3 := by
  have r := (h.mono hN).rest hg
  rw [h.labs.2.2.2.2] at r
  exact ⟨r.box nofun, r.m1 nofun, r.m2 nofun, r.m3 nofun, hM, h.labs, h.inb, fun k' o ho => r.e1 k' o nofun ho, h.n1, fun u' o ho => r.e2 u' o nofun ho, h.n2, fun k' o ho => r.e3 k' o nofun nofun ho, h.n3, r.lo⟩
/-- a row turns -/
theorem LkIn.que_turn (h : LkIn w t bs N X lab b1 b2 b3 b4 es1 es2 es3) {q n c : Nat} {A : Option Addr} {l : Row} (hq : MapP.get es3 k = some (some q)) (hb : ∀ b ∈ bs, lab b ≠ .que k → lab b ≠ .itm k → w'.heap[b]? = w.heap[b]?) (hs : w.heap.size ≤ w'.heap.size) (hl : ∀ b ∈ bs, lab' b = lab b) (hbs : ∀ b ∈ bs, b ∈ bs') (hlo : ∀ b ∈ bs', b < w'.heap.size)
    (hQ : Que w' q A n c l) (hA : ∀ a, A = some a → lab' a.block = .itm k ∧ a.block ∈ bs') (hn : n ≤ N') (hN : N ≤ N') : LkIn w' t bs' N' { X with row := upd X.row k l } lab' b1 b2 b3 b4 es1 es2 es3 := by
  obtain ⟨i0, i1, i2, i3, i4⟩ := h.inb
  obtain ⟨l0, l1, l2, l3, l4⟩ := h.labs
  have hm := h.mono hN
  refine ⟨?_, hm.m1.at_ (hb _ i1 (by rw [l1]; nofun) (by rw [l1]; nofun)), hm.m2.at_ (hb _ i2 (by rw [l2]; nofun) (by rw [l2]; nofun)), hm.m3.at_ (hb _ i3 (by rw [l3]; nofun) (by rw [l3]; nofun)), hm.m4.at_ (hb _ i4 (by rw [l4]; nofun) (by rw [l4]; nofun)), ⟨(hl _ i0).trans l0, (hl _ i1).trans l1, (hl _ i2).trans l2, (hl _ i3).trans l3, (hl _ i4).trans l4⟩, ⟨hbs _ i0, hbs _ i1, hbs _ i2, hbs _ i3, hbs _ i4⟩, fun k' o ho => ?_, h.n1, fun u o ho => ?_, h.n2, fun k' o ho => ?_, fun k' hnk => ?_, hlo⟩
  · obtain ⟨T, hs0⟩ := h.box
    exact ⟨T, (hb _ i0 (by rw [l0]; nofun) (by rw [l0]; nofun)).trans hs0⟩
  · obtain ⟨b, e, l5, hm5, hM⟩ := hm.e1 k' o ho
    exact ⟨b, e, (hl b hm5).trans l5, hbs b hm5, hM.at_ (hb b hm5 (by rw [l5]; nofun) (by rw [l5]; nofun))⟩
  · obtain ⟨b, e, l5, hm5, hM⟩ := hm.e2 u o ho
    exact ⟨b, e, (hl b hm5).trans l5, hbs b hm5, hM.at_ (hb b hm5 (by rw [l5]; nofun) (by rw [l5]; nofun))⟩
  · by_cases e : k' = k
    · subst e
      rw [hq] at ho
      cases ho
      obtain ⟨q', A', n', c', e', l5, hm5, -⟩ := h.e3 k' _ hq
      cases e'
      exact ⟨q, A, n, c, rfl, (hl q hm5).trans l5, hbs q hm5, by show Que w' q A n c (upd X.row k' l k'); rw [upd_same]; exact hQ, hA, hn⟩
    · obtain ⟨q', A', n', c', e', l5, hm5, hQ', hA', hn'⟩ := hm.e3 k' o ho
      have ne1 : Role.que k' ≠ .que k := fun e3 => e (by injection e3)
      have ne2 : Role.itm k' ≠ .itm k := fun e3 => e (by injection e3)
      refine ⟨q', A', n', c', e', (hl q' hm5).trans l5, hbs q' hm5, ?_, fun a ha => ⟨(hl _ (hA' a ha).2).trans (hA' a ha).1, hbs _ (hA' a ha).2⟩, hn'⟩
      show Que w' q' A' n' c' (upd X.row k l k')
      rw [upd_other _ _ e]
      exact que_at hQ' (hb q' hm5 (by rw [l5]; exact ne1) (by rw [l5]; nofun)) (fun a ha => hb _ (hA' a ha).2 (by rw [(hA' a ha).1]; nofun) (by rw [(hA' a ha).1]; exact ne2))
  · have e : k' ≠ k := fun e => by rw [e, hq] at hnk; cases hnk
    show upd X.row k l k' = []
    rw [upd_other _ _ e]
    exact h.n3 k' hnk
end
/-- what a method tells, and what is left behind -/
def Told (w : World) (t : Nat) (bs : List Nat) (N : Nat) (X : St) (w' : World) : Prop := ∃ bs', Lk w' t bs' N X ∧ (∀ b ∈ bs', b ∈ bs ∨ w.heap.size ≤ b) ∧ Reg.KeepB w.heap.size bs w w'
section
variable {w w1 w' : World} {t N N' : Nat} {bs : List Nat} {X X' X1 : St}
theorem Told.trans {bs1 : List Nat} (h1 : ∀ b ∈ bs1, b ∈ bs ∨ w.heap.size ≤ b) (h2 : Reg.KeepB w.heap.size bs w w1) (h : Told w1 t bs1 N X' w') : Told w t bs N X' w' := by
  obtain ⟨bs', a, b, c⟩ := h
  have hs := Reg.KeepB.size h2
  refine ⟨bs', a, fun x hx => ?_, ⟨c.os.trans h2.os, c.tape.trans h2.tape, c.output.trans h2.output, Nat.le_trans hs c.size, fun i hi hn => (c.block i (Nat.lt_of_lt_of_le hi hs) (fun hm => (h1 i hm).elim hn (by omega))).trans (h2.block i hi hn)⟩⟩
  rcases b x hx with hx | hx
  · exact h1 x hx
  · exact .inr (Nat.le_trans hs hx)
theorem keep_turn {b : Nat} (hg : w.grownBy w' (some b)) (hb : b ∈ bs) : Reg.KeepB w.heap.size bs w w' := ⟨hg.os, hg.tape, hg.output, hg.size, fun i hi hn => hg.block i hi (fun e => hn (by injection e with e; rw [e]; exact hb))⟩
theorem keep_trans (h1 : Reg.KeepB w.heap.size bs w w1) (h2 : w1.grownBy w' (some N)) (hN : N ∈ bs ∨ w.heap.size ≤ N) : Reg.KeepB w.heap.size bs w w' := by
  have hs := Reg.KeepB.size h1
  refine ⟨h2.os.trans h1.os, h2.tape.trans h1.tape, h2.output.trans h1.output, Nat.le_trans hs h2.size, fun i hi hn => (h2.block i (Nat.lt_of_lt_of_le hi hs) (fun e => ?_)).trans (h1.block i hi hn)⟩
  injection e with e
  rcases hN with h | h
  · exact hn (by rw [e]; exact h)
  · omega
end
end LockW
end Go.Proofs.YtkkfabnehhamdaaDoor
end
