/-
  Parts of the proof of LocksEnd.
-/
import Derived.Test.YtkkfabnehhamdaaDoorLkG2
import Derived.Test.YtkkfabnehhamdaaDoorLkG0
import Derived.Deep.Slices
import Derived.Test.YtkkfabnehhamdaaDoorLkG3
import Derived.Test.YtkkfabnehhamdaaDoorLkG5
import Derived.BigQuiet
import Derived.Test.YtkkfabnehhamdaaDoorLkG15
section
namespace Go.Proofs.YtkkfabnehhamdaaDoor
open Go.ChangeShapes Go.WideShapes Go.ChangeAt Go.RowKit
set_option linter.unusedVariables false
section
variable {H : Type} {enc : TypeId × Value → H} {P : Program} {w : World}
/-- a slice whose elements can be read one by one -/
theorem elems_of {α : Type} (E : El α) {fuel : Nat} {t e : TypeId} {cs : List Value} {x : DataW H × List MemPlace} (ht : P.underlying t = some (.slice e)) (hc : P.cellsOf e = E.size)
    (hel : ∀ (n : Nat) (cs : List Value) y, DataW.trod enc P w 0 (fun _ => true) true n e cs = some y → ∃ x, E.rel w w.heap.size cs x)
    (h : DataW.trod enc P w 0 (fun _ => true) true fuel t cs = some x) : ∃ A n c l, cs = [.slice A n c] ∧ Elems E w w.heap.size A n c l := by
  rcases Go.Deep.open_slice ht h with ⟨hcs, _⟩ | ⟨a, len, cap, m, n, D, Pl, hcs, _, hl, hm, hmm, _, hx⟩
  · exact ⟨none, 0, 0, [], hcs, Elems.none_ _ _ _⟩
  · have hlm : len ≤ m := by rw [hmm]; split <;> omega
    have key : ∀ k, k ≤ len → ∃ (vs : List (List Value)) (l : List α), Rel2 (E.rel w w.heap.size) vs l ∧ l.length = k ∧ ∀ j v, vs.flatten[j]? = some v → w.cell? (a.add j) = some v := by
      intro k
      induction k with
      | zero => intro _; exact ⟨[], [], trivial, rfl, fun j v hv => by simp at hv⟩
      | succ k ih =>
        intro hk
        obtain ⟨vs, l, hr, hlen, hcell⟩ := ih (by omega)
        obtain ⟨cs', h1, h2⟩ := hx k (by omega)
        obtain ⟨y, hy⟩ := hel _ _ _ h2
        obtain ⟨_, hcl, hci⟩ := World.cells?_some h1
        refine ⟨vs ++ [cs'], l ++ [y], Rel2.append (show Rel2 (E.rel w w.heap.size) [cs'] [y] from ⟨hy, trivial⟩) hr, by simp [hlen], fun j v hv => ?_⟩
        have hfl : vs.flatten.length = k * E.size := by rw [hr.flat (fun _ _ => E.len), hlen]
        rw [List.flatten_append, List.flatten_singleton] at hv
        by_cases hj : j < vs.flatten.length
        · rw [List.getElem?_append_left hj] at hv
          exact hcell j v hv
        · rw [List.getElem?_append_right (by omega), hfl] at hv
          have hi := (List.getElem?_eq_some_iff.1 hv).1
          have := hci (j - k * E.size) (by omega)
          rw [hv, hc, Go.Deep.add_add, show k * E.size + (j - k * E.size) = j by omega] at this
          exact this
    obtain ⟨vs, l, hr, hlen, hcell⟩ := key len (Nat.le_refl _)
    refine ⟨some a, len, cap, l, hcs, vs, hr, hlen, hl, hm, fun hn => ?_⟩
    have hfl : vs.flatten.length = len * E.size := by rw [hr.flat (fun _ _ => E.len), hlen]
    have hpos : 0 < vs.flatten.length := by rw [hfl]; exact Nat.mul_pos hn E.pos
    obtain ⟨b, o, s⟩ := a
    have h0 := hcell 0 _ (List.getElem?_eq_getElem hpos)
    have hs : s = none := by simpa [Addr.add] using World.cell?_spot h0
    subst hs
    refine ⟨b, o, rfl, by simpa [Addr.add] using lt_of_cell h0, fun j v hv => ?_⟩
    have := hcell j v hv
    rwa [add_none] at this
end
end Go.Proofs.YtkkfabnehhamdaaDoor
end
section
namespace Go.Proofs.YtkkfabnehhamdaaDoor
open Go.ChangeShapes Go.WideShapes Go.ChangeAt Go.RowKit
set_option linter.unusedVariables false
set_option maxRecDepth 100000
structure StepL where
  act : Int
  txn : Int
  key : ByteArray
  mode : Int
def slV (x : StepL) : List Value := [.int .i64 x.act, .int .i64 x.txn, .string x.key, .int .i64 x.mode]
def StepL.In (x : StepL) : Prop := In64 x.act ∧ In64 x.txn ∧ x.key.size ≤ maxLen ∧ In64 x.mode
def StepLE : El StepL where
  size := 4
  pos := by decide
  rel w B vs x := vs = slV x ∧ x.In
  len := by rintro w B vs p ⟨rfl, _⟩; rfl
  one := by rintro w B vs p ⟨rfl, _⟩ v hv; simp only [slV, List.mem_cons, List.not_mem_nil, or_false] at hv; rcases hv with rfl | rfl | rfl | rfl <;> rfl
  sub := by rintro w w' B vs p hs h; exact h
  more := by rintro w B B' vs p hB h; exact h
theorem stepL_at {wr w : World} {B n c k : Nat} {A : Option Addr} {l : List StepL} (h : ElemsIn StepLE wr w B A n c l) (hk : k < n) : ∃ b o x, A = some ⟨b, o, none⟩ ∧ b < B ∧ l[k]? = some x ∧ x.In ∧ w.cell? ⟨b, o + k * 4, none⟩ = some (.int .i64 x.act) ∧ w.cell? ⟨b, o + k * 4 + 1, none⟩ = some (.int .i64 x.txn) ∧ w.cell? ⟨b, o + k * 4 + 2, none⟩ = some (.string x.key) ∧ w.cell? ⟨b, o + k * 4 + 3, none⟩ = some (.int .i64 x.mode) := by
  have hl : k < l.length := by rw [h.len]; exact hk
  obtain ⟨b, o, vs, e, hb, ⟨rfl, hin⟩, hc⟩ := h.at_ hk
  exact ⟨b, o, _, e, hb, List.getElem?_eq_getElem hl, hin, hc 0 _ rfl, hc 1 _ rfl, hc 2 _ rfl, hc 3 _ rfl⟩
def RStepsL (w : World) (B : Nat) (v : Value) (l : List StepL) : Prop := ∃ A n c, v = .slice A n c ∧ Elems StepLE w B A n c l
section
variable {H : Type} {enc : TypeId × Value → H} {W : World} {base : Nat} {v : Value} {d : DataW H} {p : List MemPlace}
theorem cells_stepL {n0 : Nat} {l : List Value} {y0 : DataW H × List MemPlace} (hf : DataW.trod enc Tryd.prog W 0 (fun _ => true) true n0 30 l = some y0) : ∃ x, StepLE.rel W W.heap.size l x := by
  obtain ⟨hl, n, hg⟩ := field_of Tryd.underlying30 hf
  have hl' : l.length = 4 := hl.trans (by kernel_rfl)
  match l, hl' with
  | [c0, c1, c2, c3], _ =>
    obtain ⟨y0, h0⟩ := hg 0 3 0 1 rfl (by kernel_rfl)
    have h0' : DataW.trod enc Tryd.prog W 0 (fun _ => true) true n 3 [c0] = some y0 := h0
    obtain ⟨z0, e0, _, q0⟩ := DataW.trod_int Tryd.underlying3 h0'
    obtain ⟨w1, g1⟩ := hg 1 28 1 3 rfl (by kernel_rfl)
    have g1' : DataW.trod enc Tryd.prog W 0 (fun _ => true) true n 28 [c1, c2, c3] = some w1 := g1
    obtain ⟨_, m1, hg1⟩ := field_of Tryd.underlying28 g1'
    obtain ⟨y1, h1⟩ := hg1 0 3 0 1 rfl (by kernel_rfl)
    have h1' : DataW.trod enc Tryd.prog W 0 (fun _ => true) true m1 3 [c1] = some y1 := h1
    obtain ⟨z1, e1, _, q1⟩ := DataW.trod_int Tryd.underlying3 h1'
    obtain ⟨y2, h2⟩ := hg1 1 9 1 1 rfl (by kernel_rfl)
    have h2' : DataW.trod enc Tryd.prog W 0 (fun _ => true) true m1 9 [c2] = some y2 := h2
    obtain ⟨z2, e2, _, q2⟩ := DataW.trod_string Tryd.underlying9 h2'
    obtain ⟨y3, h3⟩ := hg1 2 3 2 1 rfl (by kernel_rfl)
    have h3' : DataW.trod enc Tryd.prog W 0 (fun _ => true) true m1 3 [c3] = some y3 := h3
    obtain ⟨z3, e3, _, q3⟩ := DataW.trod_int Tryd.underlying3 h3'
    simp only [List.cons.injEq, and_true] at e0 e1 e2 e3
    subst e0 e1 e2 e3
    exact ⟨⟨z0, z1, z2, z3⟩, rfl, in64 q0, in64 q1, q2, in64 q3⟩
theorem open_stepsL (hv : Value.okWide Tryd.prog W .any base 22 v) (h : DataW.Trod enc Tryd.prog W 0 (fun _ => true) true 22 v d p) : ∃ l, RStepsL W W.heap.size v l := by
  obtain ⟨a, len, cap, rfl⟩ := okWide_slice Tryd.underlying22 hv
  obtain ⟨fuel, hf⟩ := h
  obtain ⟨A, n, c, l, e, hb⟩ := elems_of StepLE Tryd.underlying22 (by kernel_rfl) (fun _ _ _ hq => cells_stepL hq) hf
  refine ⟨l, A, n, c, ?_, hb⟩
  simpa [Value.cells] using e
end
end Go.Proofs.YtkkfabnehhamdaaDoor
end
section
namespace Go.Proofs.YtkkfabnehhamdaaDoor.SameL
open Go.RowKit
set_option linter.unusedVariables false
set_option linter.unusedSimpArgs false
theorem int_at {wr w : World} {B n c k : Nat} {A : Option Addr} {l : List Int} (h : ElemsIn IntE wr w B A n c l) (hk : k < n) : ∃ b o x, A = some ⟨b, o, none⟩ ∧ b < B ∧ l[k]? = some x ∧ w.cell? ⟨b, o + k, none⟩ = some (.int .i64 x) := by
  have hl : k < l.length := by rw [h.len]; exact hk
  obtain ⟨b, o, vs, e, hb, rfl, hc⟩ := h.at_ hk
  refine ⟨b, o, _, e, hb, List.getElem?_eq_getElem hl, ?_⟩
  have := hc 0 _ rfl
  rwa [show o + k * IntE.size + 0 = o + k from by show o + k * 1 + 0 = _; omega] at this
set_option maxRecDepth 100000 in
set_option maxHeartbeats 1000000 in
theorem sameList_any {A : Option Addr} {n c : Nat} {A' : Option Addr} {n' c' : Nat} {l l' : List Int} (w : World) (hE : Elems IntE w w.heap.size A n c l) (hE' : Elems IntE w w.heap.size A' n' c' l') :
    Calls Tryd.prog 18 #[.slice A n c, .slice A' n' c'] w fun e w' => e = .returned (.bool (decide (l = l'))) ∧ Below w.heap.size w w' := by
  have HE := Lib.hid hE
  have HE' := Lib.hid hE'
  have hcap := Nat.le_trans hE.cap.1 hE.cap.2
  unfold maxLen at hcap
  have hln := hE.len
  have hln' := hE'.len
  clear hE hE'
  by_cases hnn : n = n'
  · subst hnn
    go_enter Tryd.func18, Tryd.ntmps18
    go_wp2
    go_loopw [5] (fun i wr => ∃ k : Nat, k ≤ n ∧ i = .int .i64 (k : Int) ∧ Hid (l.take k = l'.take k ∧ Below w.heap.size w wr)) (fun i _ => n - (intOf i).toNat)
    case atStart => exact ⟨0, Nat.zero_le _, rfl, Lib.hid ⟨rfl, bsame w⟩⟩
    case round =>
      obtain ⟨i, hi, rfl, HG⟩ := hrel
      have HB := Lib.hid HG.out.2
      have hsz := HB.out.size
      by_cases hlt : i < n
      · have hd : decide ((i : Int) < (n : Int)) = true := by simpa using hlt
        obtain ⟨b, o, x, rfl, hb, hx, q0⟩ := int_at HE.out hlt
        obtain ⟨b', o', x', rfl, hb', hx', q0'⟩ := int_at HE'.out hlt
        replace q0 := (HB.out.cell (p := ⟨b, o + i, none⟩) hb).trans q0
        replace q0' := (HB.out.cell (p := ⟨b', o' + i, none⟩) hb').trans q0'
        by_cases he : x = x'
        · subst he
          have hd2 : (x != x) = false := by simp
          have HN : Hid (l.take (i + 1) = l'.take (i + 1)) := Lib.hid (by rw [List.take_add_one, List.take_add_one, hx, hx', HG.out.1])
          clear HG hx hx' hln hln'
          go_wp2_with (first | go_quiet (fail) | go_in)
          go_wp2
          go_roundw
          case rel => exact ⟨i + 1, by omega, by go_num, Lib.hid ⟨HN.out, drewN_below HB.out _⟩⟩
          case measure => simp [intOf]; omega
        · have hd2 : (x != x') = true := by simpa using he
          have HN : Hid (decide (l = l') = false) := Lib.hid (by simp only [decide_eq_false_iff_not]; rintro rfl; rw [hx] at hx'; cases hx'; exact he rfl)
          clear HG hx hx' hln hln' he
          go_wp2_with (first | go_quiet (fail) | go_in)
          go_wp2
          go_ret
          exact ⟨by rw [HN.out]; rfl, drewN_below HB.out _⟩
      · have hd : decide ((i : Int) < (n : Int)) = false := by simp; omega
        have hin : i = n := by omega
        subst hin
        have HN : Hid (decide (l = l') = true) := Lib.hid (by
          have := HG.out.1
          rw [List.take_of_length_le (by omega), List.take_of_length_le (by omega)] at this
          simpa using this)
        go_wp2
        go_ret
        exact ⟨by rw [HN.out]; rfl, HB.out⟩
  · have hd : ((n : Int) != (n' : Int)) = true := by simp; omega
    have HN : Hid (decide (l = l') = false) := Lib.hid (by simp only [decide_eq_false_iff_not]; rintro rfl; omega)
    go_enter Tryd.func18, Tryd.ntmps18
    go_wp2
    go_ret
    exact ⟨by rw [HN.out]; rfl, bsame _⟩
end Go.Proofs.YtkkfabnehhamdaaDoor.SameL
end
section
namespace Go.Proofs.YtkkfabnehhamdaaDoor
namespace Law13
open Go.RowKit Go.Maps LockP ModesP LockW
set_option linter.unusedVariables false
set_option linter.unusedSimpArgs false
/-- a table that came behind w0 -/
structure LS (w0 : World) (t : Nat) (M : Nat) (X : St) (w : World) : Prop where
  lk : ∃ N bs, Lk w t bs N X ∧ N + 4 * X.goal.length ≤ M ∧ ∀ b ∈ bs, w0.heap.size ≤ b
  good : LockP.Good X
  fit : LockP.Fit X
  bl : Below w0.heap.size w0 w
section
variable {w0 w w' : World} {t M M' N N' : Nat} {X X' : St} {bs : List Nat}
theorem LS.next (h : LS w0 t M X w) (hb : Below w.heap.size w w') : LS w0 t M X w' := by
  obtain ⟨N, bs, h1, h2, h3⟩ := h.lk
  exact ⟨⟨N, bs, h1.next hb, h2, h3⟩, h.good, h.fit, bstep h.bl hb⟩
theorem LS.mono (h : LS w0 t M X w) (hM : M ≤ M') : LS w0 t M' X w := by
  obtain ⟨N, bs, h1, h2, h3⟩ := h.lk
  exact ⟨⟨N, bs, h1, Nat.le_trans h2 hM, h3⟩, h.good, h.fit, h.bl⟩
theorem LS.tab (h : LS w0 t M X w) (hT : Modes.Tab w0) : Modes.Tab w := hT.below h.bl hT.lt
theorem LS.told (hb : Below w0.heap.size w0 w) (h3 : ∀ b ∈ bs, w0.heap.size ≤ b) (hT : LockW.Told w t bs N' X' w') (hN : N' + 4 * X'.goal.length ≤ M') (hg : LockP.Good X') (hf : LockP.Fit X') : LS w0 t M' X' w' := by
  obtain ⟨bs', hl, hn, hk⟩ := hT
  have hs := hb.size
  refine ⟨⟨N', bs', hl, hN, fun b hm => (hn b hm).elim (h3 b) (Nat.le_trans hs)⟩, hg, hf, ?_⟩
  have k0 : Reg.KeepB w0.heap.size bs w0 w := Reg.KeepB.of hb
  exact (k0.trans (hk.low hs fun b hm => .inl hm) (Nat.le_refl _)).below (Nat.le_refl _) (fun b hm => h3 b hm)
/-- what a step gives by its numbers -/
def GivesT (w0 : World) (t M : Nat) (X : St) (l : List Int) (e : Ending) (w' : World) : Prop := ∃ A n c, e = .returned (.slice A n c) ∧ Elems IntE w' w'.heap.size A n c l ∧ LS w0 t M X w'
theorem ask_ls (h : LS w0 t M X w) (hT : Modes.Tab w0) {u : Int} {k : ByteArray} (m : Int) (hu : In64 u) (hk : k.size ≤ 100) (hM : M + 8 ≤ 1000000) :
    Calls Tryd.prog 29 #[.pointer (some ⟨t, 0, none⟩), .int .i64 u, .string k, .int .i64 m] w fun e w' => e = .returned (.tuple #[.bool (LockP.ask lI lS X u k m).2.1, .int .i64 (LockP.ask lI lS X u k m).2.2]) ∧ LS w0 t (M + 12) (LockP.ask lI lS X u k m).1 w' := by
  obtain ⟨N, bs, h1, h2, h3⟩ := h.lk
  refine (ask_any t N bs X u k m w h1 h.good.1.toOk0 (h.good.1.modes k) (h.tab hT) hu hk (by omega)).mono ?_
  rintro e w' ⟨rfl, hP⟩
  have hl := ask_len (ltI := lI) (ltS := lS) X u k m
  exact ⟨rfl, LS.told h.bl h3 hP (by omega) (ask_ok h.good u k m).1 (h.fit.ask hu hk)⟩
theorem cancel_ls (h : LS w0 t M X w) (hT : Modes.Tab w0) {u : Int} (hu : In64 u) (hM : M + 8 ≤ 1000000) :
    Calls Tryd.prog 31 #[.pointer (some ⟨t, 0, none⟩), .int .i64 u] w (GivesT w0 t M (cancelP lI lS X u).1 (cancelP lI lS X u).2) := by
  obtain ⟨N, bs, h1, h2, h3⟩ := h.lk
  refine (cancel_any t N bs X u w h1 h.good.1 h.fit (h.tab hT) (fun hm => by have := h3 _ hm; have := hT.lt; omega) hu (by omega)).mono ?_
  rintro e w' ⟨A, n, c, rfl, hO, hP⟩
  have hl := cancelP_len (ltI := lI) (ltS := lS) h.good.1 u
  exact ⟨A, n, c, rfl, hO.elems, LS.told h.bl h3 hP (by show _ + 4 * (cancelP lI lS X u).2.length + 4 * (cancelP lI lS X u).1.goal.length ≤ M; omega) (cancelP_good h.good u).1 (cancelP_fit h.fit u)⟩
theorem end_ls (h : LS w0 t M X w) (hT : Modes.Tab w0) {u : Int} (hu : In64 u) (hM : M + 8 ≤ 1000000) :
    Calls Tryd.prog 28 #[.pointer (some ⟨t, 0, none⟩), .int .i64 u] w (GivesT w0 t M (endP lI lS X u).1 (endP lI lS X u).2) := by
  obtain ⟨N, bs, h1, h2, h3⟩ := h.lk
  refine (end_any t N bs X u w h1 h.good.1 h.fit (h.tab hT) (fun hm => by have := h3 _ hm; have := hT.lt; omega) hu (by omega)).mono ?_
  rintro e w' ⟨fl, f1, f2, f3, A, n, c, rfl, hO, hP⟩
  have he := ends_eq (ltI := lI) (ltS := lS) f1 f2 f3
  rw [he] at hO hP
  have hl := endP_len (ltI := lI) (ltS := lS) h.good.1 u
  exact ⟨A, n, c, rfl, hO.elems, LS.told h.bl h3 hP (by omega) (endP_good h.good u).1 (endP_fit h.fit u)⟩
theorem waiting_ls (h : LS w0 t M X w) (hM : M + 8 ≤ 1000000) : Calls Tryd.prog 21 #[.pointer (some ⟨t, 0, none⟩)] w fun e w' => ∃ A n c, e = .returned (.slice A n c) ∧ Elems IntE w' w'.heap.size A n c (waitingP X) ∧ Below w.heap.size w w' := by
  obtain ⟨N, bs, h1, h2, h3⟩ := h.lk
  refine (waiting_any t N bs X w h1 h.good.1.toOk0 (by omega)).mono ?_
  rintro e w' ⟨A, n, c, rfl, hO, hb⟩
  exact ⟨A, n, c, rfl, hO.elems, hb⟩
theorem len_ls (h : LS w0 t M X w) (hM : M + 8 ≤ 1000000) : Calls Tryd.prog 19 #[.pointer (some ⟨t, 0, none⟩)] w fun e w' => ∃ us : List Int, us.Nodup ∧ (∀ u, X.mem u ≠ [] → u ∈ us) ∧ e = .returned (.int .i64 (lenOf X us : Nat)) ∧ Below w.heap.size w w' := by
  obtain ⟨N, bs, h1, h2, h3⟩ := h.lk
  exact len_any t N bs X w h1 (by omega)
theorem new_ls (w : World) : Calls Tryd.prog 8 #[] w fun e w' => ∃ t, e = .returned (.pointer (some ⟨t, 0, none⟩)) ∧ LS w t 0 LockP.empty w' := by
  refine (new_any w).mono ?_
  rintro e w' ⟨t, bs, rfl, hl, hn, hb⟩
  exact ⟨t, rfl, ⟨0, bs, hl, Nat.le_refl _, hn⟩, good_empty, fit_empty, hb⟩
end
theorem code_any (e : Int) (w : World) : Calls Tryd.prog 30 #[.int .i64 e] w fun r w' => r = .returned (.int .i64 e) ∧ w = w' := by
  go_enter Tryd.func30, Tryd.ntmps30
  go_wp2
  go_ret
  exact ⟨rfl, rfl⟩
/-- no more than is asked -/
def Asked (n : Nat) (l : List StepL) : Prop := n ≤ 60 ∧ ∀ x ∈ l, x.key.size ≤ 100
set_option maxRecDepth 100000 in
set_option maxHeartbeats 1000000 in
theorem great_any (A : Option Addr) (n c : Nat) (l : List StepL) (w : World) (hE : Elems StepLE w w.heap.size A n c l) :
    Calls Tryd.prog 6 #[.slice A n c] w fun e w' => ∃ r, e = .returned (.bool r) ∧ (r = false → Asked n l) ∧ w = w' := by
  have HE := Lib.hid hE
  have hlen := hE.len
  have hcm := hE.cap.2
  have hcap := hE.cap.1
  unfold maxLen at hcm
  clear hE
  go_enter Tryd.func6, Tryd.ntmps6
  go_wp2
  go_loopw [3] (fun iv wr => ∃ k : Nat, k ≤ n ∧ k ≤ 100 ∧ iv = .int .i64 (k : Int) ∧ wr = w ∧ Hid (∀ j x, j < k → l[j]? = some x → x.key.size ≤ 100)) (fun iv _ => n - (intOf iv).toNat)
  case atStart => exact ⟨0, Nat.zero_le _, by omega, rfl, rfl, Lib.hid (fun j x h => absurd h (by omega))⟩
  case round =>
    obtain ⟨k, hk, hk1, rfl, hwr, HK⟩ := hrel
    subst hwr
    by_cases hlt : k < n
    · have hd : decide ((k : Int) < (n : Int)) = true := by simpa using hlt
      by_cases h100 : k < 100
      · have hd2 : decide ((k : Int) < 100) = true := by simp; omega
        obtain ⟨b, o, x, rfl, hb, hx, hi, q0, q1, q2, q3⟩ := stepL_at HE.out hlt
        have hki : (0 : Int) ≤ (k : Int) := by omega
        by_cases hB : 100 < x.key.size
        · have hd3 : decide ((100 : Int) < (x.key.size : Int)) = true := by simp; omega
          clear hi hx
          go_wp2
          go_ret
          exact ⟨true, rfl, (fun h => by cases h), rfl⟩
        · have hd3 : decide ((100 : Int) < (x.key.size : Int)) = false := by simp; omega
          have HN : Hid (∀ j y, j < k + 1 → l[j]? = some y → y.key.size ≤ 100) := Lib.hid (fun j y hj hy => by
            by_cases e : j = k
            · subst e; rw [hx] at hy; cases hy; omega
            · exact HK.out j y (by omega) hy)
          clear hi hx
          go_wp2
          go_roundw
          case rel => exact ⟨k + 1, by omega, by omega, by go_num, (by first | rfl | trivial), HN⟩
          case measure => simp [intOf]; omega
      · have hd2 : decide ((k : Int) < 100) = false := by simp; omega
        have hd5 : decide ((60 : Int) < (n : Int)) = true := by simp; omega
        go_wp2
        go_ret
        exact ⟨true, rfl, (fun h => by cases h), rfl⟩
    · have hd : decide ((k : Int) < (n : Int)) = false := by simp; omega
      have HF : Hid (∀ x ∈ l, x.key.size ≤ 100) := Lib.hid (fun x hx => by
        obtain ⟨j, hj, rfl⟩ := List.getElem_of_mem hx
        exact HK.out j _ (by omega) (List.getElem?_eq_getElem hj))
      by_cases h60 : 60 < n
      · have hd5 : decide ((60 : Int) < (n : Int)) = true := by simp; omega
        go_wp2
        go_ret
        exact ⟨true, rfl, (fun h => by cases h), rfl⟩
      · have hd5 : decide ((60 : Int) < (n : Int)) = false := by simp; omega
        go_wp2
        go_ret
        exact ⟨false, rfl, (fun _ => ⟨by omega, HF.out⟩), rfl⟩
/-- the page's example -/
def exA : ByteArray := ⟨#[97]⟩
def x1 : St := (LockP.ask lI lS LockP.empty 1 exA 0).1
def x2 : St := (LockP.ask lI lS x1 2 exA 1).1
def x3 : St := (LockP.ask lI lS x2 3 exA 0).1
theorem live1 : (LockP.ask lI lS LockP.empty 1 exA 0).2 = (true, 0) := by kernel_rfl
theorem live2 : (LockP.ask lI lS x1 2 exA 1).2 = (false, 0) := by kernel_rfl
theorem live3 : (LockP.ask lI lS x2 3 exA 0).2 = (false, 0) := by kernel_rfl
theorem live_end : endP lI lS x3 1 = ends lI lS x3 1 [exA] [exA] := by
  have h : freeOf x3 1 = [exA] := by kernel_rfl
  unfold endP
  rw [h, srt_one]
theorem live4 : (endP lI lS x3 1).2 = [2] := by rw [live_end]; kernel_rfl
theorem live5 : LockP.set (endP lI lS x3 1).1 exA 2 = 2 := by rw [live_end]; kernel_rfl
set_option maxRecDepth 100000 in
set_option maxHeartbeats 2000000 in
theorem live_any (w : World) (hT : Modes.Tab w) : Calls Tryd.prog 7 #[] w fun e w' => e = .returned (.bool true) ∧ Below w.heap.size w w' := by
  have HT := Lib.hid hT
  have i1 : In64 1 := by constructor <;> decide
  have i2 : In64 2 := by constructor <;> decide
  have i3 : In64 3 := by constructor <;> decide
  have hz : exA.size ≤ 100 := by decide
  clear hT
  go_enter Tryd.func7, Tryd.ntmps7
  go_wp2_with fail
  refine (new_ls w).mono ?_
  rintro e W1 ⟨t, rfl, hL1⟩
  have HL1 := Lib.hid hL1
  clear hL1
  go_wp2_with fail
  refine (ask_ls HL1.out HT.out (u := 1) (k := exA) 0 i1 hz (by omega)).mono ?_
  rintro e W2 ⟨rfl, hL2⟩
  rw [live1]
  have HL2 : Hid (LS w t 12 x1 W2) := Lib.hid hL2
  clear hL2
  go_wp2_with fail
  refine (ask_ls HL2.out HT.out (u := 2) (k := exA) 1 i2 hz (by omega)).mono ?_
  rintro e W3 ⟨rfl, hL3⟩
  rw [live2]
  have HL3 : Hid (LS w t 24 x2 W3) := Lib.hid hL3
  clear hL3
  go_wp2_with fail
  refine (ask_ls HL3.out HT.out (u := 3) (k := exA) 0 i3 hz (by omega)).mono ?_
  rintro e W4 ⟨rfl, hL4⟩
  rw [live3]
  have HL4 : Hid (LS w t 36 x3 W4) := Lib.hid hL4
  clear hL4
  go_wp2_with fail
  refine (end_ls HL4.out HT.out (u := 1) i1 (by omega)).mono ?_
  rintro e W5 ⟨A, n, c, rfl, hE, hL5⟩
  rw [live4] at hE
  have HL5 := Lib.hid hL5
  have HE := Lib.hid hE
  clear hE hL5
  go_wp2_with fail
  obtain ⟨W6, hW6⟩ : ∃ W, W5.alloc (.cells #[.int .i64 2] 3) = W := ⟨_, rfl⟩
  rw [hW6]
  have hb6 : Below W5.heap.size W5 W6 := by rw [← hW6]; exact balloc (bsame _) _
  have hs6 : Str W6 W5.heap.size #[.int .i64 2] := by rw [← hW6]; exact Str.new _ _ _
  have HL6 := Lib.hid (HL5.out.next hb6)
  have hE2 : Elems IntE W6 W6.heap.size (some ⟨W5.heap.size, 0, none⟩) 1 1 [2] := IntE.lit hs6
  refine (SameL.sameList_any (l := [2]) (l' := [2]) W6 (HE.out.next hb6) hE2).mono ?_
  rintro e W7 ⟨rfl, hb7⟩
  have HL7 := Lib.hid (HL6.out.next hb7)
  clear hW6 hb6 hs6 hb7 hE2
  go_wp2_with fail
  obtain ⟨N7, bs7, hl7, -, -⟩ := HL7.out.lk
  refine (holds_any t N7 bs7 _ 2 exA W7 hl7 i2 hz).mono ?_
  rintro e W8 ⟨rfl, rfl⟩
  rw [live5]
  go_wp2_with fail
  go_ret
  exact ⟨rfl, HL7.out.bl⟩
set_option maxRecDepth 100000 in
set_option maxHeartbeats 2000000 in
theorem do_any {w0 w : World} {t M : Nat} {X : St} (s : StepL) (h : LS w0 t M X w) (hT : Modes.Tab w0) (hs : s.In) (hk : s.key.size ≤ 100) (hM : M + 8 ≤ 1000000) :
    Calls Tryd.prog 9 #[.pointer (some ⟨t, 0, none⟩), .agg #[.int .i64 s.act, .int .i64 s.txn, .string s.key, .int .i64 s.mode]] w fun e w' => ∃ A n c, e = .returned (.tuple #[.bool (stepP lI lS X s.act s.txn s.key s.mode).2.1, .int .i64 (stepP lI lS X s.act s.txn s.key s.mode).2.2.1, .slice A n c]) ∧ Elems IntE w' w'.heap.size A n c (stepP lI lS X s.act s.txn s.key s.mode).2.2.2 ∧ LS w0 t (M + 12) (stepP lI lS X s.act s.txn s.key s.mode).1 w' := by
  obtain ⟨W1, hW1⟩ : ∃ W, w.alloc (.cells #[.int .i64 s.act, .int .i64 s.txn, .string s.key, .int .i64 s.mode] 30) = W := ⟨_, rfl⟩
  have hb1 : Below w.heap.size w W1 := by rw [← hW1]; exact balloc (bsame _) _
  have hs1 : Str W1 w.heap.size #[.int .i64 s.act, .int .i64 s.txn, .string s.key, .int .i64 s.mode] := by rw [← hW1]; exact Str.new _ _ _
  have f1 := str4 hs1
  have fl := hs1.lt
  have HL := Lib.hid (h.next hb1)
  have HT := Lib.hid hT
  have HU := Lib.hid hs.2.1
  clear h hT hs hb1 hs1
  by_cases h1 : s.act = 1
  · have HS : Hid (stepP lI lS X s.act s.txn s.key s.mode = ((cancelP lI lS X s.txn).1, false, 0, (cancelP lI lS X s.txn).2)) := Lib.hid (by unfold stepP; rw [if_pos h1])
    have hd1 : (s.act == 1) = true := by simpa using h1
    clear h1
    go_enter Tryd.func9, Tryd.ntmps9
    go_wp2_with fail
    refine (cancel_ls HL.out HT.out HU.out hM).mono ?_
    rintro e W2 ⟨A, n, c, rfl, hE, hL⟩
    have HE := Lib.hid hE
    have HL2 := Lib.hid (hL.mono (Nat.le_add_right M 12))
    clear hE hL
    go_wp2_with fail
    refine bodyPost_ret (v := .tuple #[.bool false, .int .i64 0, .slice A n c]) (by simp [results, Tryd.results9, go_sem, *]) rfl ?_
    rw [HS.out]
    exact ⟨A, n, c, rfl, HE.out, HL2.out⟩
  · have hd1 : (s.act == 1) = false := by simpa using h1
    by_cases h2 : s.act = 2
    · have HS : Hid (stepP lI lS X s.act s.txn s.key s.mode = ((endP lI lS X s.txn).1, false, 0, (endP lI lS X s.txn).2)) := Lib.hid (by unfold stepP; rw [if_neg h1, if_pos h2])
      have hd2 : (s.act == 2) = true := by simpa using h2
      clear h1 h2
      go_enter Tryd.func9, Tryd.ntmps9
      go_wp2_with fail
      refine (end_ls HL.out HT.out HU.out hM).mono ?_
      rintro e W2 ⟨A, n, c, rfl, hE, hL⟩
      have HE := Lib.hid hE
      have HL2 := Lib.hid (hL.mono (Nat.le_add_right M 12))
      clear hE hL
      go_wp2_with fail
      refine bodyPost_ret (v := .tuple #[.bool false, .int .i64 0, .slice A n c]) (by simp [results, Tryd.results9, go_sem, *]) rfl ?_
      rw [HS.out]
      exact ⟨A, n, c, rfl, HE.out, HL2.out⟩
    · have HS : Hid (stepP lI lS X s.act s.txn s.key s.mode = ((LockP.ask lI lS X s.txn s.key s.mode).1, (LockP.ask lI lS X s.txn s.key s.mode).2.1, (LockP.ask lI lS X s.txn s.key s.mode).2.2, [])) := Lib.hid (by unfold stepP; rw [if_neg h1, if_neg h2])
      have hd2 : (s.act == 2) = false := by simpa using h2
      clear h1 h2
      go_enter Tryd.func9, Tryd.ntmps9
      go_wp2_with fail
      refine (ask_ls HL.out HT.out s.mode HU.out hk hM).mono ?_
      rintro e W2 ⟨rfl, hL⟩
      have HL2 := Lib.hid hL
      clear hL
      go_wp2_with fail
      refine (code_any _ W2).mono ?_
      rintro e W3 ⟨rfl, rfl⟩
      go_wp2_with fail
      refine bodyPost_ret (v := .tuple #[.bool (LockP.ask lI lS X s.txn s.key s.mode).2.1, .int .i64 (LockP.ask lI lS X s.txn s.key s.mode).2.2, .slice none 0 0]) (by simp [results, Tryd.results9, go_sem, *]) rfl ?_
      rw [HS.out]
      exact ⟨none, 0, 0, rfl, Elems.none_ _ _ _, HL2.out⟩
end Law13
end Go.Proofs.YtkkfabnehhamdaaDoor
end
section
namespace Go.Proofs.YtkkfabnehhamdaaDoor
open Go.ChangeShapes Go.WideShapes Go.ChangeAt Go.RowKit
set_option linter.unusedVariables false
set_option maxRecDepth 100000

def RBytes (w : World) (B : Nat) (v : Value) (l : List UInt8) : Prop := ∃ A n c, v = .slice A n c ∧ Bytes w B A n c l
section
variable {H : Type} {enc : TypeId × Value → H} {W : World} {base : Nat} {v : Value} {d : DataW H} {p : List MemPlace}
theorem open_bytes (hv : Value.okWide Tryd.prog W .any base 59 v) (h : DataW.Trod enc Tryd.prog W 0 (fun _ => true) true 59 v d p) : ∃ l, RBytes W W.heap.size v l := by
  obtain ⟨a, len, cap, rfl⟩ := okWide_slice Tryd.underlying59 hv
  obtain ⟨fuel, hf⟩ := h
  obtain ⟨A, n, c, l, e, hb⟩ := bytes_of Tryd.underlying59 Tryd.underlying5 (by kernel_rfl) hf
  refine ⟨l, A, n, c, ?_, hb⟩
  simpa [Value.cells] using e
end
end Go.Proofs.YtkkfabnehhamdaaDoor
end
section
namespace Go.Proofs.YtkkfabnehhamdaaDoor.locksEnd
open Go.RowKit Go.Maps LockP ModesP LockW Law13
set_option linter.unusedVariables false
set_option linter.unusedSimpArgs false
/-- those outside of eight hold nothing, and do not wait -/
def OutOff (X : St) : Prop := ∀ u : Int, u < 0 ∨ 8 ≤ u → ¬ On X u
theorem outOff_step {X : St} (h : LockP.Good X) (ho : OutOff X) (act : Int) {u : Int} (key : ByteArray) (mode : Int) (h0 : 0 ≤ u) (h1 : u < 8) : OutOff (stepP lI lS X act u key mode).1 := fun v hv => (stepP_good h act u key mode).2 v (by omega) (ho v hv)
theorem empty_off (u : Int) : ¬ On LockP.empty u := fun h => by
  rcases h with ⟨k, h⟩ | h
  · exact h rfl
  · exact h rfl
theorem lenOf_zero {X : St} (h : ∀ u, X.mem u = []) (us : List Int) : lenOf X us = 0 := by
  unfold lenOf
  induction us with
  | nil => rfl
  | cons u r ih => rw [List.map_cons, List.sum_cons, ih, h u]; rfl
theorem wrap64_in' {x : Int} (h1 : -9223372036854775808 ≤ x) (h2 : x ≤ 9223372036854775807) : wrap64 x = x := by
  unfold wrap64
  omega
theorem tmod8 {z : Int} (h : 0 ≤ z) : 0 ≤ wrap64 (z.tmod 8) ∧ wrap64 (z.tmod 8) < 8 := by
  rw [Int.tmod_eq_emod_of_nonneg h]
  have h1 := Int.emod_nonneg z (show (8 : Int) ≠ 0 by omega)
  have h2 := Int.emod_lt_of_pos z (show (0 : Int) < 8 by omega)
  rw [wrap64_in' (by omega) (by omega)]
  exact ⟨h1, h2⟩
theorem wrapU (x : Int) : 0 ≤ IntKind.u64.wrap x := by
  have h : IntKind.u64.wrap x = x % 18446744073709551616 := by rfl
  rw [h]
  exact Int.emod_nonneg x (by omega)
set_option maxRecDepth 100000 in
set_option maxHeartbeats 8000000 in
theorem walk (v0 v1 : Value) (a0 : List StepL) (a1 : List UInt8) (w : World) (g0 : RStepsL w w.heap.size v0 a0) (g1 : RBytes w w.heap.size v1 a1) (hT : Modes.Tab w) (hG : 0 < w.heap.size) :
    Calls Tryd.prog 5 #[v0, v1] w fun e w' => e = .returned (.bool true) ∧ Below w.heap.size w w' := by
  obtain ⟨A0, n0, c0, rfl, hE0⟩ := g0
  obtain ⟨A1, n1, c1, rfl, hE1⟩ := g1
  have HE0 := Lib.hid hE0
  have HE1 := Lib.hid hE1
  have HT := Lib.hid hT
  have hl0 := hE0.len
  have hl1 := hE1.1
  have hb0 := Nat.le_trans hE0.cap.1 hE0.cap.2
  have hb1 := Nat.le_trans hE1.2.1 hE1.2.2.1
  unfold maxLen at hb0 hb1
  have hgr := great_any A0 n0 c0 a0 w hE0
  clear hE0 hE1 hT hG
  go_enter Tryd.func5, Tryd.ntmps5
  go_wp2_with fail
  refine hgr.mono ?_
  rintro e w' ⟨r, rfl, hr, rfl⟩
  clear hgr
  cases r with
  | true =>
    go_wp2_with fail
    refine (live_any w HT.out).mono ?_
    rintro e w' ⟨rfl, hb⟩
    go_wp2
    go_ret
    exact ⟨rfl, hb⟩
  | false =>
    obtain ⟨hn0, hk0⟩ := hr rfl
    have HK0 := Lib.hid hk0
    clear hr hk0
    by_cases h60 : 60 < n1
    · have hd1 : decide ((60 : Int) < (n1 : Int)) = true := by simp; omega
      go_wp2_with fail
      refine (live_any w HT.out).mono ?_
      rintro e w' ⟨rfl, hb⟩
      go_wp2
      go_ret
      exact ⟨rfl, hb⟩
    · have hd1 : decide ((60 : Int) < (n1 : Int)) = false := by simp; omega
      go_wp2_with fail
      refine (new_ls w).mono ?_
      rintro e W1 ⟨t, rfl, hL1⟩
      have HL1 := Lib.hid hL1
      clear hL1
      go_wp2_with fail
      go_loopw [6] (fun iv wr => ∃ i : Nat, i ≤ n0 ∧ iv = .int .i64 (i : Int) ∧ Hid (∃ X, LS w t (12 * i) X wr ∧ OutOff X)) (fun iv _ => n0 - (intOf iv).toNat)
      case atStart => exact ⟨0, Nat.zero_le _, rfl, Lib.hid ⟨_, HL1.out, fun u _ => empty_off u⟩⟩
      case round =>
        obtain ⟨i, hi, rfl, HX⟩ := hrel
        obtain ⟨X, hX, hoff⟩ := HX.out
        have HLX := Lib.hid hX
        have HOF := Lib.hid hoff
        clear hX hoff HX
        by_cases hlt : i < n0
        · have hd2 : decide ((i : Int) < (n0 : Int)) = true := by simpa using hlt
          have k1 : ¬ (i : Int) < 0 := by omega
          obtain ⟨b, o, x, rfl, hb, hx, hin, q0, q1, q2, q3⟩ := stepL_at HE0.out hlt
          have HIN := Lib.hid hin
          have HKX := Lib.hid (HK0.out x (List.mem_of_getElem? hx))
          have hbl := HLX.out.bl
          replace q0 := (hbl.cell (p := ⟨b, o + i * 4, none⟩) hb).trans q0
          replace q1 := (hbl.cell (p := ⟨b, o + i * 4 + 1, none⟩) hb).trans q1
          replace q2 := (hbl.cell (p := ⟨b, o + i * 4 + 2, none⟩) hb).trans q2
          replace q3 := (hbl.cell (p := ⟨b, o + i * 4 + 3, none⟩) hb).trans q3
          obtain ⟨W2, hW2⟩ : ∃ W, wr.alloc (.cells #[.int .i64 x.act, .int .i64 x.txn, .string x.key, .int .i64 x.mode] 30) = W := ⟨_, rfl⟩
          have hb2 : Below wr.heap.size wr W2 := by rw [← hW2]; exact balloc (bsame _) _
          have hs2 : Str W2 wr.heap.size #[.int .i64 x.act, .int .i64 x.txn, .string x.key, .int .i64 x.mode] := by rw [← hW2]; exact Str.new _ _ _
          have HB2 := Lib.hid hb2
          have HS2 := Lib.hid hs2
          have f2 := str4 hs2
          have gf2 := fun j => hs2.frozen j
          have gl2 := hs2.lt
          clear hbl hx hin hb2 hs2
          go_wp2_with fail
          obtain ⟨u0, u1⟩ := tmod8 (wrapU x.txn)
          generalize wrap64 ((IntKind.u64.wrap x.txn).tmod 8) = u at *
          have hb3 : Below wr.heap.size wr (W2.setCell ⟨wr.heap.size, 1, none⟩ (.int .i64 u)) := HB2.out.setCell (p := ⟨wr.heap.size, 1, none⟩) (Nat.le_refl _) _
          refine (do_any ⟨x.act, u, x.key, x.mode⟩ (HLX.out.next hb3) HT.out ⟨HIN.out.1, show In64 u from ⟨by omega, by omega⟩, HIN.out.2.2.1, HIN.out.2.2.2⟩ HKX.out (by omega)).mono ?_
          rintro e W4 ⟨A4, n4, c4, rfl, -, hL4⟩
          have HL4 := Lib.hid hL4
          clear hL4 hb3 f2 gf2 gl2
          go_wp2_with fail
          go_roundw
          case rel => exact ⟨i + 1, by omega, by go_num, Lib.hid ⟨_, HL4.out, outOff_step HLX.out.good HOF.out x.act x.key x.mode u0 u1⟩⟩
          case measure => simp [intOf]; omega
        · have hd2 : decide ((i : Int) < (n0 : Int)) = false := by simp; omega
          have HL := Lib.hid (HLX.out.mono (M' := 720) (by omega))
          go_wp2_with fail
          clear hlt
          go_loopw [8] (fun iv wr => ∃ i : Nat, i ≤ n1 ∧ iv = .int .i64 (i : Int) ∧ Hid (∃ X, LS w t 720 X wr ∧ OutOff X)) (fun iv _ => n1 - (intOf iv).toNat)
          case atStart => exact ⟨0, Nat.zero_le _, rfl, Lib.hid ⟨_, HL.out, HOF.out⟩⟩
          case round =>
            clear HL HLX HOF hd2
            obtain ⟨j, hj, rfl, HX⟩ := hrel
            obtain ⟨Y, hX, hoff⟩ := HX.out
            have HLX := Lib.hid hX
            have HOF := Lib.hid hoff
            clear hX hoff HX
            by_cases hlt : j < n1
            · have hd2 : decide ((j : Int) < (n1 : Int)) = true := by simpa using hlt
              have k1 : ¬ (j : Int) < 0 := by omega
              obtain ⟨b, o, rfl, hb, q0⟩ := HE1.out.at_ hlt
              generalize hu : a1[j]'(by rw [hl1]; exact hlt) = z at q0
              replace q0 : wr.cell? ⟨b, o + j, none⟩ = some (.int .u8 (z.toNat : Int)) := (HLX.out.bl.cell (p := ⟨b, o + j, none⟩) hb).trans q0
              have hz : (0 : Int) ≤ (z.toNat : Int) := by omega
              clear hu
              go_wp2_with fail
              obtain ⟨u0, u1⟩ : 0 ≤ (z.toNat : Int) % 8 ∧ (z.toNat : Int) % 8 < 8 := ⟨Int.emod_nonneg _ (by omega), Int.emod_lt_of_pos _ (by omega)⟩
              generalize (z.toNat : Int) % 8 = u at *
              refine (end_ls HLX.out HT.out (u := u) ⟨by omega, by omega⟩ (by omega)).mono ?_
              rintro e W4 ⟨A4, n4, c4, rfl, -, hL4⟩
              have HL4 := Lib.hid hL4
              clear hL4
              go_wp2_with fail
              go_roundw
              case rel => exact ⟨j + 1, by omega, by go_num, Lib.hid ⟨_, HL4.out, fun v hv => (endP_good HLX.out.good u).2.1 v (HOF.out v hv)⟩⟩
              case measure => simp [intOf]; omega
            · have hd2 : decide ((j : Int) < (n1 : Int)) = false := by simp; omega
              go_wp2_with fail
              clear hlt
              go_loopw [9] (fun iv wr => ∃ a : Nat, a ≤ 8 ∧ iv = .int .i64 (a : Int) ∧ Hid (∃ X, LS w t 720 X wr ∧ OutOff X ∧ ∀ u : Int, 0 ≤ u → u < a → ¬ On X u)) (fun iv _ => 8 - (intOf iv).toNat)
              case atStart => exact ⟨0, by omega, rfl, Lib.hid ⟨_, HLX.out, HOF.out, fun u h0 h1 => absurd h1 (by omega)⟩⟩
              case round =>
                clear HLX HOF hd2
                obtain ⟨a, ha, rfl, HX⟩ := hrel
                obtain ⟨Z, hX, hoff, hdn⟩ := HX.out
                have HLX := Lib.hid hX
                have HOF := Lib.hid hoff
                have HDN := Lib.hid hdn
                clear hX hoff HX hdn
                by_cases hlt : a < 8
                · have hd2 : decide ((a : Int) < 8) = true := by simp; omega
                  go_wp2_with fail
                  refine (end_ls HLX.out HT.out (u := (a : Int)) ⟨by omega, by omega⟩ (by omega)).mono ?_
                  rintro e W4 ⟨A4, n4, c4, rfl, -, hL4⟩
                  have HL4 := Lib.hid hL4
                  clear hL4
                  go_wp2_with fail
                  go_roundw
                  case rel => exact ⟨a + 1, by omega, by go_num, Lib.hid ⟨_, HL4.out, fun u hu => (endP_good HLX.out.good a).2.1 u (HOF.out u hu), fun u h0 h1 => by
                    by_cases e : u = (a : Int)
                    · rw [e]; exact (endP_good HLX.out.good a).2.2
                    · exact (endP_good HLX.out.good a).2.1 u (HDN.out u h0 (by omega))⟩⟩
                  case measure => simp [intOf]; omega
                · have hd2 : decide ((a : Int) < 8) = false := by simp; omega
                  obtain ⟨o1, o2, o3⟩ := all_off HLX.out.good (fun u => by
                    by_cases e : u < 0 ∨ 8 ≤ u
                    · exact HOF.out u e
                    · exact HDN.out u (by omega) (by omega))
                  have HM := Lib.hid o2
                  have HGO := Lib.hid o3
                  clear o1 o2 o3
                  go_wp2_with fail
                  clear hlt
                  refine (ask_nil 1 ⟨#[97]⟩ 0 wr).mono ?_
                  rintro e W5 ⟨rfl, rfl⟩
                  go_wp2_with fail
                  refine (len_ls HLX.out (by omega)).mono ?_
                  rintro e W6 ⟨us, -, -, rfl, hb6⟩
                  rw [lenOf_zero HM.out]
                  have HL6 := Lib.hid (HLX.out.next hb6)
                  clear hb6
                  go_wp2_with fail
                  refine (waiting_ls HL6.out (by omega)).mono ?_
                  rintro e W7 ⟨A7, n7, c7, rfl, hE7, hb7⟩
                  have hn7 : n7 = 0 := by
                    have := hE7.len
                    unfold waitingP at this
                    rw [HGO.out] at this
                    simpa using this.symm
                  subst hn7
                  have HL7 := Lib.hid (HL6.out.next hb7)
                  clear hE7 hb7
                  go_wp2_with fail
                  refine (code_any 4 W7).mono ?_
                  rintro e W8 ⟨rfl, rfl⟩
                  go_wp2_with fail
                  refine (end_nil 1 _).mono ?_
                  rintro e W8 ⟨rfl, rfl⟩
                  go_wp2_with fail
                  refine (cancel_nil 1 _).mono ?_
                  rintro e W8 ⟨rfl, rfl⟩
                  go_wp2_with fail
                  refine (blocks_nil 1 _).mono ?_
                  rintro e W8 ⟨rfl, hb8⟩
                  have HL8 := Lib.hid (HL7.out.next hb8)
                  clear hb8
                  go_wp2_with fail
                  refine (waiting_nil _).mono ?_
                  rintro e W9 ⟨rfl, rfl⟩
                  go_wp2_with fail
                  refine (LockW.len_nil _).mono ?_
                  rintro e W9 ⟨rfl, rfl⟩
                  go_wp2_with fail
                  refine (holds_nil 1 ⟨#[97]⟩ _).mono ?_
                  rintro e W9 ⟨rfl, rfl⟩
                  go_wp2_with fail
                  refine (held_nil ⟨#[97]⟩ 0 _).mono ?_
                  rintro e W9 ⟨rfl, rfl⟩
                  go_wp2_with fail
                  refine (live_any _ (HL8.out.tab HT.out)).mono ?_
                  rintro e W9 ⟨rfl, hb9⟩
                  have HB9 := Lib.hid (bstep HL8.out.bl hb9)
                  clear hb9
                  go_wp2_with fail
                  go_ret
                  exact ⟨rfl, HB9.out⟩
end Go.Proofs.YtkkfabnehhamdaaDoor.locksEnd
end
