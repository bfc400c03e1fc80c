/-
  Parts of the proof of LocksSteps.
-/
import Derived.Test.YtkkfabnehhamdaaDoorLkS19
import Derived.Test.YtkkfabnehhamdaaDoorLkS26
section
namespace Go.Proofs.YtkkfabnehhamdaaDoor
namespace Law13
open Go.RowKit Go.Maps LockP ModesP LockW
set_option linter.unusedVariables false
set_option linter.unusedSimpArgs false
/-- a table that came behind w0, none of whose blocks is in F; H: what lies in these -/
structure LF (F : List Nat) (H : Nat → Option Obj) (w0 : World) (t : Nat) (M : Nat) (X : St) (w : World) : Prop where
  lk : ∃ N bs, Lk w t bs N X ∧ N + 4 * X.goal.length ≤ M ∧ ∀ b ∈ bs, w0.heap.size ≤ b ∧ b ∉ F
  good : LockP.Good X
  fit : LockP.Fit X
  bl : Below w0.heap.size w0 w
  fr : ∀ k ∈ F, k < w.heap.size ∧ w.heap[k]? = H k
section
variable {F : List Nat} {H : Nat → Option Obj} {w0 w w' : World} {t M M' N N' : Nat} {X X' : St} {bs : List Nat}
theorem LF.toLS (h : LF F H w0 t M X w) : LS w0 t M X w := by
  obtain ⟨N, bs, h1, h2, h3⟩ := h.lk
  exact ⟨⟨N, bs, h1, h2, fun b hb => (h3 b hb).1⟩, h.good, h.fit, h.bl⟩
theorem LF.next (h : LF F H w0 t M X w) (hb : Below w.heap.size w w') : LF F H w0 t M X w' := by
  obtain ⟨N, bs, h1, h2, h3⟩ := h.lk
  exact ⟨⟨N, bs, h1.next hb, h2, h3⟩, h.good, h.fit, bstep h.bl hb, fun k hk => ⟨Nat.lt_of_lt_of_le (h.fr k hk).1 hb.size, (hb.block k (h.fr k hk).1).trans (h.fr k hk).2⟩⟩
theorem LF.mono (h : LF F H w0 t M X w) (hM : M ≤ M') : LF F H w0 t M' X w := by
  obtain ⟨N, bs, h1, h2, h3⟩ := h.lk
  exact ⟨⟨N, bs, h1, Nat.le_trans h2 hM, h3⟩, h.good, h.fit, h.bl, h.fr⟩
theorem LF.tab (h : LF F H w0 t M X w) (hT : Modes.Tab w0) : Modes.Tab w := hT.below h.bl hT.lt
theorem LF.told (hfr : ∀ k ∈ F, k < w.heap.size ∧ w.heap[k]? = H k) (hb : Below w0.heap.size w0 w) (h3 : ∀ b ∈ bs, w0.heap.size ≤ b ∧ b ∉ F) (hT : LockW.Told w t bs N' X' w') (hN : N' + 4 * X'.goal.length ≤ M') (hg : LockP.Good X') (hf : LockP.Fit X') : LF F H w0 t M' X' w' := by
  obtain ⟨bs', hl, hn, hk⟩ := hT
  have hs := hb.size
  refine ⟨⟨N', bs', hl, hN, fun b hm => (hn b hm).elim (h3 b) (fun h => ⟨Nat.le_trans hs h, fun hF => ?_⟩)⟩, hg, hf, ?_, fun k hF => ⟨Nat.lt_of_lt_of_le (hfr k hF).1 hk.size, (hk.block k (hfr k hF).1 (fun hm => (h3 k hm).2 hF)).trans (hfr k hF).2⟩⟩
  · have := (hfr b hF).1
    omega
  · have k0 : Reg.KeepB w0.heap.size bs w0 w := Reg.KeepB.of hb
    exact (k0.trans (hk.low hs fun b hm => .inl hm) (Nat.le_refl _)).below (Nat.le_refl _) (fun b hm => (h3 b hm).1)
/-- what a step gives by its numbers -/
def GivesF (F : List Nat) (H : Nat → Option Obj) (w0 : World) (t M : Nat) (X : St) (l : List Int) (e : Ending) (w' : World) : Prop := ∃ A n c, e = .returned (.slice A n c) ∧ Elems IntE w' w'.heap.size A n c l ∧ LF F H w0 t M X w'
theorem ask_lf (h : LF F H w0 t M X w) (hT : Modes.Tab w0) {u : Int} {k : ByteArray} (m : Int) (hu : In64 u) (hk : k.size ≤ 100) (hM : M + 8 ≤ 1000000) :
    Calls Tryd.prog 29 #[.pointer (some ⟨t, 0, none⟩), .int .i64 u, .string k, .int .i64 m] w fun e w' => e = .returned (.tuple #[.bool (LockP.ask lI lS X u k m).2.1, .int .i64 (LockP.ask lI lS X u k m).2.2]) ∧ LF F H w0 t (M + 12) (LockP.ask lI lS X u k m).1 w' := by
  obtain ⟨N, bs, h1, h2, h3⟩ := h.lk
  refine (ask_any t N bs X u k m w h1 h.good.1.toOk0 (h.good.1.modes k) (h.tab hT) hu hk (by omega)).mono ?_
  rintro e w' ⟨rfl, hP⟩
  have hl := ask_len (ltI := lI) (ltS := lS) X u k m
  exact ⟨rfl, LF.told h.fr h.bl h3 hP (by omega) (ask_ok h.good u k m).1 (h.fit.ask hu hk)⟩
theorem cancel_lf (h : LF F H w0 t M X w) (hT : Modes.Tab w0) {u : Int} (hu : In64 u) (hM : M + 8 ≤ 1000000) :
    Calls Tryd.prog 31 #[.pointer (some ⟨t, 0, none⟩), .int .i64 u] w (GivesF F H w0 t M (cancelP lI lS X u).1 (cancelP lI lS X u).2) := by
  obtain ⟨N, bs, h1, h2, h3⟩ := h.lk
  refine (cancel_any t N bs X u w h1 h.good.1 h.fit (h.tab hT) (fun hm => by have := (h3 _ hm).1; have := hT.lt; omega) hu (by omega)).mono ?_
  rintro e w' ⟨A, n, c, rfl, hO, hP⟩
  have hl := cancelP_len (ltI := lI) (ltS := lS) h.good.1 u
  exact ⟨A, n, c, rfl, hO.elems, LF.told h.fr h.bl h3 hP (by show _ + 4 * (cancelP lI lS X u).2.length + 4 * (cancelP lI lS X u).1.goal.length ≤ M; omega) (cancelP_good h.good u).1 (cancelP_fit h.fit u)⟩
theorem end_lf (h : LF F H w0 t M X w) (hT : Modes.Tab w0) {u : Int} (hu : In64 u) (hM : M + 8 ≤ 1000000) :
    Calls Tryd.prog 28 #[.pointer (some ⟨t, 0, none⟩), .int .i64 u] w (GivesF F H w0 t M (endP lI lS X u).1 (endP lI lS X u).2) := by
  obtain ⟨N, bs, h1, h2, h3⟩ := h.lk
  refine (end_any t N bs X u w h1 h.good.1 h.fit (h.tab hT) (fun hm => by have := (h3 _ hm).1; have := hT.lt; omega) hu (by omega)).mono ?_
  rintro e w' ⟨fl, f1, f2, f3, A, n, c, rfl, hO, hP⟩
  have he := ends_eq (ltI := lI) (ltS := lS) f1 f2 f3
  rw [he] at hO hP
  have hl := endP_len (ltI := lI) (ltS := lS) h.good.1 u
  exact ⟨A, n, c, rfl, hO.elems, LF.told h.fr h.bl h3 hP (by omega) (endP_good h.good u).1 (endP_fit h.fit u)⟩
end
set_option maxRecDepth 100000 in
set_option maxHeartbeats 2000000 in
theorem do_lf {F : List Nat} {H : Nat → Option Obj} {w0 w : World} {t M : Nat} {X : St} (s : StepL) (h : LF F H w0 t M X w) (hT : Modes.Tab w0) (hs : s.In) (hk : s.key.size ≤ 100) (hM : M + 8 ≤ 1000000) :
    Calls Tryd.prog 9 #[.pointer (some ⟨t, 0, none⟩), .agg #[.int .i64 s.act, .int .i64 s.txn, .string s.key, .int .i64 s.mode]] w fun e w' => ∃ A n c, e = .returned (.tuple #[.bool (stepP lI lS X s.act s.txn s.key s.mode).2.1, .int .i64 (stepP lI lS X s.act s.txn s.key s.mode).2.2.1, .slice A n c]) ∧ Elems IntE w' w'.heap.size A n c (stepP lI lS X s.act s.txn s.key s.mode).2.2.2 ∧ LF F H w0 t (M + 12) (stepP lI lS X s.act s.txn s.key s.mode).1 w' := by
  obtain ⟨W1, hW1⟩ : ∃ W, w.alloc (.cells #[.int .i64 s.act, .int .i64 s.txn, .string s.key, .int .i64 s.mode] 30) = W := ⟨_, rfl⟩
  have hb1 : Below w.heap.size w W1 := by rw [← hW1]; exact balloc (bsame _) _
  have hs1 : Str W1 w.heap.size #[.int .i64 s.act, .int .i64 s.txn, .string s.key, .int .i64 s.mode] := by rw [← hW1]; exact Str.new _ _ _
  have f1 := str4 hs1
  have fl := hs1.lt
  have HL := Lib.hid (h.next hb1)
  have HT := Lib.hid hT
  have HU := Lib.hid hs.2.1
  clear h hT hs hb1 hs1
  by_cases h1 : s.act = 1
  · have HS : Hid (stepP lI lS X s.act s.txn s.key s.mode = ((cancelP lI lS X s.txn).1, false, 0, (cancelP lI lS X s.txn).2)) := Lib.hid (by unfold stepP; rw [if_pos h1])
    have hd1 : (s.act == 1) = true := by simpa using h1
    clear h1
    go_enter Tryd.func9, Tryd.ntmps9
    go_wp2_with fail
    refine (cancel_lf HL.out HT.out HU.out hM).mono ?_
    rintro e W2 ⟨A, n, c, rfl, hE, hL⟩
    have HE := Lib.hid hE
    have HL2 := Lib.hid (hL.mono (Nat.le_add_right M 12))
    clear hE hL
    go_wp2_with fail
    refine bodyPost_ret (v := .tuple #[.bool false, .int .i64 0, .slice A n c]) (by simp [results, Tryd.results9, go_sem, *]) rfl ?_
    rw [HS.out]
    exact ⟨A, n, c, rfl, HE.out, HL2.out⟩
  · have hd1 : (s.act == 1) = false := by simpa using h1
    by_cases h2 : s.act = 2
    · have HS : Hid (stepP lI lS X s.act s.txn s.key s.mode = ((endP lI lS X s.txn).1, false, 0, (endP lI lS X s.txn).2)) := Lib.hid (by unfold stepP; rw [if_neg h1, if_pos h2])
      have hd2 : (s.act == 2) = true := by simpa using h2
      clear h1 h2
      go_enter Tryd.func9, Tryd.ntmps9
      go_wp2_with fail
      refine (end_lf HL.out HT.out HU.out hM).mono ?_
      rintro e W2 ⟨A, n, c, rfl, hE, hL⟩
      have HE := Lib.hid hE
      have HL2 := Lib.hid (hL.mono (Nat.le_add_right M 12))
      clear hE hL
      go_wp2_with fail
      refine bodyPost_ret (v := .tuple #[.bool false, .int .i64 0, .slice A n c]) (by simp [results, Tryd.results9, go_sem, *]) rfl ?_
      rw [HS.out]
      exact ⟨A, n, c, rfl, HE.out, HL2.out⟩
    · have HS : Hid (stepP lI lS X s.act s.txn s.key s.mode = ((LockP.ask lI lS X s.txn s.key s.mode).1, (LockP.ask lI lS X s.txn s.key s.mode).2.1, (LockP.ask lI lS X s.txn s.key s.mode).2.2, [])) := Lib.hid (by unfold stepP; rw [if_neg h1, if_neg h2])
      have hd2 : (s.act == 2) = false := by simpa using h2
      clear h1 h2
      go_enter Tryd.func9, Tryd.ntmps9
      go_wp2_with fail
      refine (ask_lf HL.out HT.out s.mode HU.out hk hM).mono ?_
      rintro e W2 ⟨rfl, hL⟩
      have HL2 := Lib.hid hL
      clear hL
      go_wp2_with fail
      refine (code_any _ W2).mono ?_
      rintro e W3 ⟨rfl, rfl⟩
      go_wp2_with fail
      refine bodyPost_ret (v := .tuple #[.bool (LockP.ask lI lS X s.txn s.key s.mode).2.1, .int .i64 (LockP.ask lI lS X s.txn s.key s.mode).2.2, .slice none 0 0]) (by simp [results, Tryd.results9, go_sem, *]) rfl ?_
      rw [HS.out]
      exact ⟨none, 0, 0, rfl, Elems.none_ _ _ _, HL2.out⟩
/-- the block of a list that is not empty -/
def blkF (A : Option Addr) (n : Nat) : List Nat := if 0 < n then (A.map (·.block)).toList else []
theorem mem_blkF {A : Option Addr} {n k : Nat} : k ∈ blkF A n ↔ 0 < n ∧ ∃ p, A = some p ∧ p.block = k := by
  unfold blkF
  split
  · rename_i h0
    cases A with
    | none => simp
    | some p =>
      constructor
      · intro h
        have e : k = p.block := by simpa using h
        exact ⟨h0, p, rfl, e.symm⟩
      · rintro ⟨-, q, eq, e⟩
        cases eq
        simp [e]
  · simp; omega
end Law13
end Go.Proofs.YtkkfabnehhamdaaDoor
end
section
namespace Go.Proofs.YtkkfabnehhamdaaDoor
open Go.RowKit
namespace LockP
open ModesP
set_option linter.unusedVariables false
/-- a step of the document's -/
def stepR (x : RT) (act : Int) (e : H3) : RT × Bool × Int × List Int :=
  if act = 1 then ((cancelR x e.txn).1, false, 0, (cancelR x e.txn).2) else
  if act = 2 then ((endR x e.txn).1, false, 0, (endR x e.txn).2) else
  ((askR x e).1, (askR x e).2.1, (askR x e).2.2, [])
theorem step_sim {ltI : Int → Int → Bool} {ltS : ByteArray → ByteArray → Bool} {s : St} {x : RT} (h : Good s) (hs : Sim s x) (act : Int) (e : H3) : (stepP ltI ltS s act e.txn e.key e.mode).2 = (stepR x act e).2 ∧ Sim (stepP ltI ltS s act e.txn e.key e.mode).1 (stepR x act e).1 := by
  unfold stepP stepR
  by_cases h1 : act = 1
  · rw [if_pos h1, if_pos h1]
    obtain ⟨e1, e2⟩ := cancel_sim (ltI := ltI) (ltS := ltS) h hs e.txn
    exact ⟨by rw [e1], e2⟩
  · rw [if_neg h1, if_neg h1]
    by_cases h2 : act = 2
    · rw [if_pos h2, if_pos h2]
      obtain ⟨e1, e2⟩ := end_sim (ltI := ltI) (ltS := ltS) h hs e.txn
      exact ⟨by rw [e1], e2⟩
    · rw [if_neg h2, if_neg h2]
      obtain ⟨e1, e2⟩ := ask_sim (ltI := ltI) (ltS := ltS) h.1 hs e
      exact ⟨by rw [e1], e2⟩
/-- no more than so many, of keys of 100 bytes -/
def Few (n : Nat) (x : RT) : Prop := x.h.length + x.w.length ≤ n ∧ ∀ e ∈ x.w, e.key.size ≤ 100
theorem gR_sub (k : ByteArray) : ∀ (r done h : List H3), ∀ e ∈ (gR k r done h).1.w, e ∈ done ++ r
  | [], done, h, e, he => by rw [List.append_nil]; exact he
  | p :: r, done, h, e, he => by
    by_cases hc : on3 k p = true ∧ blkR h done p = []
    · rw [RefL.gR_yes hc.1 hc.2] at he
      have := gR_sub k r done (h ++ [p]) e he
      rcases List.mem_append.1 this with h1 | h1
      · exact List.mem_append_left _ h1
      · exact List.mem_append_right _ (List.mem_cons_of_mem _ h1)
    · rw [RefL.gR_no (by
        by_cases h1 : on3 k p = true
        · exact .inr (fun h2 => hc ⟨h1, h2⟩)
        · exact .inl (by simpa using h1))] at he
      have := gR_sub k r (done ++ [p]) h e he
      simpa using this
theorem few_grants {n : Nat} : ∀ (l : List ByteArray) {x : RT}, Few n x → Few n (grantsR l x).1
  | [], x, h => h
  | k :: r, x, h => few_grants r (x := (grantR x k).1) ⟨by
      have := (RefL.gR_len k x.w [] x.h).1
      simp only [List.length_nil, Nat.add_zero] at this
      have h1 : (grantR x k).1.h.length + (grantR x k).1.w.length = x.h.length + x.w.length := this
      rw [h1]
      exact h.1, fun e he => h.2 e (by simpa using gR_sub k x.w [] x.h e he)⟩
theorem few_cancel {n : Nat} {x : RT} (h : Few n x) (u : Int) : Few n (cancelR x u).1 :=
  few_grants _ ⟨by have := RefL.without_len x.w u; have := h.1; dsimp only; omega, fun e he => h.2 e (List.mem_filter.1 he).1⟩
theorem few_step {n : Nat} {x : RT} (h : Few n x) (act : Int) {e : H3} (hk : e.key.size ≤ 100) : Few (n + 1) (stepR x act e).1 := by
  have h1 : Few (n + 1) x := ⟨by have := h.1; omega, h.2⟩
  unfold stepR
  split
  · exact few_cancel h1 _
  · split
    · exact few_cancel (x := ⟨without x.h e.txn, x.w⟩) ⟨by have := RefL.without_len x.h e.txn; have := h1.1; dsimp only; omega, h1.2⟩ _
    · unfold askR
      split
      · exact h1
      · split
        · exact h1
        · split
          · exact h1
          · split
            · exact ⟨by have := h.1; dsimp only; rw [List.length_append, List.length_cons, List.length_nil]; omega, h.2⟩
            · refine ⟨by have := h.1; dsimp only; rw [List.length_append, List.length_cons, List.length_nil]; omega, fun p hp => ?_⟩
              rcases List.mem_append.1 hp with hp | hp
              · exact h.2 p hp
              · rw [List.mem_singleton] at hp
                subst hp
                exact hk
end LockP
namespace Law13
open Go.Maps LockP ModesP LockW RefL
set_option linter.unusedVariables false
/-- the document's blocks: the box, its lists' -/
def blkD (g : Nat) (A : Option Addr) (n : Nat) (A2 : Option Addr) (n2 : Nat) : List Nat := g :: (blkF A n ++ blkF A2 n2)
/-- the document's table in memory -/
structure RP (w : World) (g L : Nat) (x : RT) (A : Option Addr) (n c : Nat) (A2 : Option Addr) (n2 c2 : Nat) (wr : World) : Prop where
  box : Str wr g #[.slice A n c, .slice A2 n2 c2]
  g : w.heap.size ≤ g
  h : Elems H3E wr wr.heap.size A n c x.h
  q : Elems H3E wr wr.heap.size A2 n2 c2 x.w
  few : Few L x
section
variable {F F' : List Nat} {H : Nat → Option Obj} {w w0 wr W W' : World} {t M L g n c n2 c2 : Nat} {X : St} {x : RT} {A A2 : Option Addr}
theorem RP.next (h : RP w g L x A n c A2 n2 c2 wr) (hb : Below wr.heap.size wr W) : RP w g L x A n c A2 n2 c2 W := ⟨h.box.next hb, h.g, h.h.next hb, h.q.next hb, h.few⟩
theorem RP.lt (h : RP w g L x A n c A2 n2 c2 wr) : ∀ k ∈ blkD g A n A2 n2, k < wr.heap.size := fun k hk => by
  rcases List.mem_cons.1 hk with rfl | hk
  · exact h.box.lt
  · rcases List.mem_append.1 hk with hk | hk
    · obtain ⟨hn, p, e, rfl⟩ := mem_blkF.1 hk
      exact elems_lt h.h hn p e
    · obtain ⟨hn, p, e, rfl⟩ := mem_blkF.1 hk
      exact elems_lt h.q hn p e
theorem elems_fr2 {B : Nat} {l : List H3} (h : Elems H3E wr B A n c l) (hk : ∀ k ∈ blkF A n, k < W.heap.size ∧ W.heap[k]? = wr.heap[k]?) : Elems H3E W W.heap.size A n c l := by
  obtain ⟨vs, hr, hl, hnc, hm, hx⟩ := h
  refine ⟨vs, hr, hl, hnc, hm, fun hn => ?_⟩
  obtain ⟨b, o, e, hb, hc⟩ := hx hn
  have h2 := hk b (mem_blkF.2 ⟨hn, _, e, rfl⟩)
  exact ⟨b, o, e, h2.1, fun j u hu => (World.cell?_of_block h2.2).trans (hc j u hu)⟩
/-- the program's step leaves the document's lists -/
theorem RP.step (h : RP w g L x A n c A2 n2 c2 wr) (hl : LF (blkD g A n A2 n2) (fun k => wr.heap[k]?) w0 t M X W) : RP w g L x A n c A2 n2 c2 W := by
  refine ⟨?_, h.g, elems_fr2 h.h fun k hk => hl.fr k (List.mem_cons_of_mem _ (List.mem_append_left _ hk)), elems_fr2 h.q fun k hk => hl.fr k (List.mem_cons_of_mem _ (List.mem_append_right _ hk)), h.few⟩
  obtain ⟨T, hT⟩ := h.box
  exact ⟨T, (hl.fr g (List.mem_cons_self ..)).2.trans hT⟩
theorem LF.here (h : LF F H w0 t M X W) : LF F (fun k => W.heap[k]?) w0 t M X W := ⟨h.lk, h.good, h.fit, h.bl, fun k hk => ⟨(h.fr k hk).1, rfl⟩⟩
/-- other lists in the place of these, made since -/
theorem LF.swap (h : LF F H w0 t M X W) (hb : Below W.heap.size W W') (hF : ∀ k ∈ F', k ∈ F ∨ W.heap.size ≤ k) (hlt : ∀ k ∈ F', k < W'.heap.size) : LF F' (fun k => W'.heap[k]?) w0 t M X W' := by
  obtain ⟨N, bs, h1, h2, h3⟩ := h.lk
  refine ⟨⟨N, bs, h1.next hb, h2, fun b hm => ⟨(h3 b hm).1, fun hbF => ?_⟩⟩, h.good, h.fit, bstep h.bl hb, fun k hk => ⟨hlt k hk, rfl⟩⟩
  rcases hF b hbF with h4 | h4
  · exact (h3 b hm).2 h4
  · have := h1.lo b hm
    omega
theorem LF.box (h : LF F H w0 t M X W) (hg : W.grownBy W' (some g)) (hm : g ∈ F) (h0 : w0.heap.size ≤ g) : LF F (fun k => W'.heap[k]?) w0 t M X W' := by
  obtain ⟨N, bs, h1, h2, h3⟩ := h.lk
  refine ⟨⟨N, bs, h1.grown hg (fun r e hb => by cases e; exact (h3 _ hb).2 hm), h2, h3⟩, h.good, h.fit, ?_, fun k hk => ⟨Nat.lt_of_lt_of_le (h.fr k hk).1 hg.size, rfl⟩⟩
  exact below_grown h.bl hg h0
/-- the lists that the document's step hands back, put into the box -/
theorem frO_blk {A' A2' : Option Addr} {n' n2' : Nat} (h1 : FrO W A n A' n') (h2 : FrO W A2 n2 A2' n2') : ∀ k ∈ blkD g A' n' A2' n2', k ∈ blkD g A n A2 n2 ∨ W.heap.size ≤ k := fun k hk => by
  rcases List.mem_cons.1 hk with rfl | hk
  · exact .inl (List.mem_cons_self ..)
  · rcases List.mem_append.1 hk with hk | hk
    · rcases h1 with ⟨rfl, rfl⟩ | h1
      · exact .inl (List.mem_cons_of_mem _ (List.mem_append_left _ hk))
      · obtain ⟨-, p, e, rfl⟩ := mem_blkF.1 hk
        exact .inr (h1 p e)
    · rcases h2 with ⟨rfl, rfl⟩ | h2
      · exact .inl (List.mem_cons_of_mem _ (List.mem_append_right _ hk))
      · obtain ⟨-, p, e, rfl⟩ := mem_blkF.1 hk
        exact .inr (h2 p e)
end
end Law13
end Go.Proofs.YtkkfabnehhamdaaDoor
end
