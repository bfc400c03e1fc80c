/-
  Parts of the proof of LocksSteps.
-/
import Derived.Test.YtkkfabnehhamdaaDoorLkS15
import Derived.Test.YtkkfabnehhamdaaDoorLkS3
import Derived.Test.YtkkfabnehhamdaaDoorLkS5
import Derived.BigQuiet
import Derived.OrdersIn
import Derived.RangeFuncCalls
section
namespace Go.Proofs.YtkkfabnehhamdaaDoor
open Go.ChangeShapes Go.WideShapes Go.ChangeAt Go.RowKit
set_option linter.unusedVariables false
set_option maxRecDepth 100000
structure StepL where
  act : Int
  txn : Int
  key : ByteArray
  mode : Int
def slV (x : StepL) : List Value := [.int .i64 x.act, .int .i64 x.txn, .string x.key, .int .i64 x.mode]
def StepL.In (x : StepL) : Prop := In64 x.act ∧ In64 x.txn ∧ x.key.size ≤ maxLen ∧ In64 x.mode
def StepLE : El StepL where
  size := 4
  pos := by decide
  rel w B vs x := vs = slV x ∧ x.In
  len := by rintro w B vs p ⟨rfl, _⟩; rfl
  one := by rintro w B vs p ⟨rfl, _⟩ v hv; simp only [slV, List.mem_cons, List.not_mem_nil, or_false] at hv; rcases hv with rfl | rfl | rfl | rfl <;> rfl
  sub := by rintro w w' B vs p hs h; exact h
  more := by rintro w B B' vs p hB h; exact h
theorem stepL_at {wr w : World} {B n c k : Nat} {A : Option Addr} {l : List StepL} (h : ElemsIn StepLE wr w B A n c l) (hk : k < n) : ∃ b o x, A = some ⟨b, o, none⟩ ∧ b < B ∧ l[k]? = some x ∧ x.In ∧ w.cell? ⟨b, o + k * 4, none⟩ = some (.int .i64 x.act) ∧ w.cell? ⟨b, o + k * 4 + 1, none⟩ = some (.int .i64 x.txn) ∧ w.cell? ⟨b, o + k * 4 + 2, none⟩ = some (.string x.key) ∧ w.cell? ⟨b, o + k * 4 + 3, none⟩ = some (.int .i64 x.mode) := by
  have hl : k < l.length := by rw [h.len]; exact hk
  obtain ⟨b, o, vs, e, hb, ⟨rfl, hin⟩, hc⟩ := h.at_ hk
  exact ⟨b, o, _, e, hb, List.getElem?_eq_getElem hl, hin, hc 0 _ rfl, hc 1 _ rfl, hc 2 _ rfl, hc 3 _ rfl⟩
def RStepsL (w : World) (B : Nat) (v : Value) (l : List StepL) : Prop := ∃ A n c, v = .slice A n c ∧ Elems StepLE w B A n c l
section
variable {H : Type} {enc : TypeId × Value → H} {W : World} {base : Nat} {v : Value} {d : DataW H} {p : List MemPlace}
theorem cells_stepL {n0 : Nat} {l : List Value} {y0 : DataW H × List MemPlace} (hf : DataW.trod enc Tryd.prog W 0 (fun _ => true) true n0 30 l = some y0) : ∃ x, StepLE.rel W W.heap.size l x := by
  obtain ⟨hl, n, hg⟩ := field_of Tryd.underlying30 hf
  have hl' : l.length = 4 := hl.trans (by kernel_rfl)
  match l, hl' with
  | [c0, c1, c2, c3], _ =>
    obtain ⟨y0, h0⟩ := hg 0 3 0 1 rfl (by kernel_rfl)
    have h0' : DataW.trod enc Tryd.prog W 0 (fun _ => true) true n 3 [c0] = some y0 := h0
    obtain ⟨z0, e0, _, q0⟩ := DataW.trod_int Tryd.underlying3 h0'
    obtain ⟨w1, g1⟩ := hg 1 28 1 3 rfl (by kernel_rfl)
    have g1' : DataW.trod enc Tryd.prog W 0 (fun _ => true) true n 28 [c1, c2, c3] = some w1 := g1
    obtain ⟨_, m1, hg1⟩ := field_of Tryd.underlying28 g1'
    obtain ⟨y1, h1⟩ := hg1 0 3 0 1 rfl (by kernel_rfl)
    have h1' : DataW.trod enc Tryd.prog W 0 (fun _ => true) true m1 3 [c1] = some y1 := h1
    obtain ⟨z1, e1, _, q1⟩ := DataW.trod_int Tryd.underlying3 h1'
    obtain ⟨y2, h2⟩ := hg1 1 9 1 1 rfl (by kernel_rfl)
    have h2' : DataW.trod enc Tryd.prog W 0 (fun _ => true) true m1 9 [c2] = some y2 := h2
    obtain ⟨z2, e2, _, q2⟩ := DataW.trod_string Tryd.underlying9 h2'
    obtain ⟨y3, h3⟩ := hg1 2 3 2 1 rfl (by kernel_rfl)
    have h3' : DataW.trod enc Tryd.prog W 0 (fun _ => true) true m1 3 [c3] = some y3 := h3
    obtain ⟨z3, e3, _, q3⟩ := DataW.trod_int Tryd.underlying3 h3'
    simp only [List.cons.injEq, and_true] at e0 e1 e2 e3
    subst e0 e1 e2 e3
    exact ⟨⟨z0, z1, z2, z3⟩, rfl, in64 q0, in64 q1, q2, in64 q3⟩
theorem open_stepsL (hv : Value.okWide Tryd.prog W .any base 22 v) (h : DataW.Trod enc Tryd.prog W 0 (fun _ => true) true 22 v d p) : ∃ l, RStepsL W W.heap.size v l := by
  obtain ⟨a, len, cap, rfl⟩ := okWide_slice Tryd.underlying22 hv
  obtain ⟨fuel, hf⟩ := h
  obtain ⟨A, n, c, l, e, hb⟩ := elems_of StepLE Tryd.underlying22 (by kernel_rfl) (fun _ _ _ hq => cells_stepL hq) hf
  refine ⟨l, A, n, c, ?_, hb⟩
  simpa [Value.cells] using e
end
end Go.Proofs.YtkkfabnehhamdaaDoor
end
section
namespace Go.Proofs.YtkkfabnehhamdaaDoor.SameL
open Go.RowKit
set_option linter.unusedVariables false
set_option linter.unusedSimpArgs false
theorem int_at {wr w : World} {B n c k : Nat} {A : Option Addr} {l : List Int} (h : ElemsIn IntE wr w B A n c l) (hk : k < n) : ∃ b o x, A = some ⟨b, o, none⟩ ∧ b < B ∧ l[k]? = some x ∧ w.cell? ⟨b, o + k, none⟩ = some (.int .i64 x) := by
  have hl : k < l.length := by rw [h.len]; exact hk
  obtain ⟨b, o, vs, e, hb, rfl, hc⟩ := h.at_ hk
  refine ⟨b, o, _, e, hb, List.getElem?_eq_getElem hl, ?_⟩
  have := hc 0 _ rfl
  rwa [show o + k * IntE.size + 0 = o + k from by show o + k * 1 + 0 = _; omega] at this
set_option maxRecDepth 100000 in
set_option maxHeartbeats 1000000 in
theorem sameList_any {A : Option Addr} {n c : Nat} {A' : Option Addr} {n' c' : Nat} {l l' : List Int} (w : World) (hE : Elems IntE w w.heap.size A n c l) (hE' : Elems IntE w w.heap.size A' n' c' l') :
    Calls Tryd.prog 18 #[.slice A n c, .slice A' n' c'] w fun e w' => e = .returned (.bool (decide (l = l'))) ∧ Below w.heap.size w w' := by
  have HE := Lib.hid hE
  have HE' := Lib.hid hE'
  have hcap := Nat.le_trans hE.cap.1 hE.cap.2
  unfold maxLen at hcap
  have hln := hE.len
  have hln' := hE'.len
  clear hE hE'
  by_cases hnn : n = n'
  · subst hnn
    go_enter Tryd.func18, Tryd.ntmps18
    go_wp2
    go_loopw [5] (fun i wr => ∃ k : Nat, k ≤ n ∧ i = .int .i64 (k : Int) ∧ Hid (l.take k = l'.take k ∧ Below w.heap.size w wr)) (fun i _ => n - (intOf i).toNat)
    case atStart => exact ⟨0, Nat.zero_le _, rfl, Lib.hid ⟨rfl, bsame w⟩⟩
    case round =>
      obtain ⟨i, hi, rfl, HG⟩ := hrel
      have HB := Lib.hid HG.out.2
      have hsz := HB.out.size
      by_cases hlt : i < n
      · have hd : decide ((i : Int) < (n : Int)) = true := by simpa using hlt
        obtain ⟨b, o, x, rfl, hb, hx, q0⟩ := int_at HE.out hlt
        obtain ⟨b', o', x', rfl, hb', hx', q0'⟩ := int_at HE'.out hlt
        replace q0 := (HB.out.cell (p := ⟨b, o + i, none⟩) hb).trans q0
        replace q0' := (HB.out.cell (p := ⟨b', o' + i, none⟩) hb').trans q0'
        by_cases he : x = x'
        · subst he
          have hd2 : (x != x) = false := by simp
          have HN : Hid (l.take (i + 1) = l'.take (i + 1)) := Lib.hid (by rw [List.take_add_one, List.take_add_one, hx, hx', HG.out.1])
          clear HG hx hx' hln hln'
          go_wp2_with (first | go_quiet (fail) | go_in)
          go_wp2
          go_roundw
          case rel => exact ⟨i + 1, by omega, by go_num, Lib.hid ⟨HN.out, drewN_below HB.out _⟩⟩
          case measure => simp [intOf]; omega
        · have hd2 : (x != x') = true := by simpa using he
          have HN : Hid (decide (l = l') = false) := Lib.hid (by simp only [decide_eq_false_iff_not]; rintro rfl; rw [hx] at hx'; cases hx'; exact he rfl)
          clear HG hx hx' hln hln' he
          go_wp2_with (first | go_quiet (fail) | go_in)
          go_wp2
          go_ret
          exact ⟨by rw [HN.out]; rfl, drewN_below HB.out _⟩
      · have hd : decide ((i : Int) < (n : Int)) = false := by simp; omega
        have hin : i = n := by omega
        subst hin
        have HN : Hid (decide (l = l') = true) := Lib.hid (by
          have := HG.out.1
          rw [List.take_of_length_le (by omega), List.take_of_length_le (by omega)] at this
          simpa using this)
        go_wp2
        go_ret
        exact ⟨by rw [HN.out]; rfl, HB.out⟩
  · have hd : ((n : Int) != (n' : Int)) = true := by simp; omega
    have HN : Hid (decide (l = l') = false) := Lib.hid (by simp only [decide_eq_false_iff_not]; rintro rfl; omega)
    go_enter Tryd.func18, Tryd.ntmps18
    go_wp2
    go_ret
    exact ⟨by rw [HN.out]; rfl, bsame _⟩
end Go.Proofs.YtkkfabnehhamdaaDoor.SameL
end
section
namespace Go.Proofs.YtkkfabnehhamdaaDoor
namespace Law13
open Go.RowKit Go.Maps LockP ModesP LockW
set_option linter.unusedVariables false
set_option linter.unusedSimpArgs false
/-- a table that came behind w0 -/
structure LS (w0 : World) (t : Nat) (M : Nat) (X : St) (w : World) : Prop where
  lk : ∃ N bs, Lk w t bs N X ∧ N + 4 * X.goal.length ≤ M ∧ ∀ b ∈ bs, w0.heap.size ≤ b
  good : LockP.Good X
  fit : LockP.Fit X
  bl : Below w0.heap.size w0 w
section
variable {w0 w w' : World} {t M M' N N' : Nat} {X X' : St} {bs : List Nat}
theorem LS.next (h : LS w0 t M X w) (hb : Below w.heap.size w w') : LS w0 t M X w' := by
  obtain ⟨N, bs, h1, h2, h3⟩ := h.lk
  exact ⟨⟨N, bs, h1.next hb, h2, h3⟩, h.good, h.fit, bstep h.bl hb⟩
theorem LS.mono (h : LS w0 t M X w) (hM : M ≤ M') : LS w0 t M' X w := by
  obtain ⟨N, bs, h1, h2, h3⟩ := h.lk
  exact ⟨⟨N, bs, h1, Nat.le_trans h2 hM, h3⟩, h.good, h.fit, h.bl⟩
theorem LS.tab (h : LS w0 t M X w) (hT : Modes.Tab w0) : Modes.Tab w := hT.below h.bl hT.lt
theorem LS.told (hb : Below w0.heap.size w0 w) (h3 : ∀ b ∈ bs, w0.heap.size ≤ b) (hT : LockW.Told w t bs N' X' w') (hN : N' + 4 * X'.goal.length ≤ M') (hg : LockP.Good X') (hf : LockP.Fit X') : LS w0 t M' X' w' := by
  obtain ⟨bs', hl, hn, hk⟩ := hT
  have hs := hb.size
  refine ⟨⟨N', bs', hl, hN, fun b hm => (hn b hm).elim (h3 b) (Nat.le_trans hs)⟩, hg, hf, ?_⟩
  have k0 : Reg.KeepB w0.heap.size bs w0 w := Reg.KeepB.of hb
  exact (k0.trans (hk.low hs fun b hm => .inl hm) (Nat.le_refl _)).below (Nat.le_refl _) (fun b hm => h3 b hm)
/-- what a step gives by its numbers -/
def GivesT (w0 : World) (t M : Nat) (X : St) (l : List Int) (e : Ending) (w' : World) : Prop := ∃ A n c, e = .returned (.slice A n c) ∧ Elems IntE w' w'.heap.size A n c l ∧ LS w0 t M X w'
theorem ask_ls (h : LS w0 t M X w) (hT : Modes.Tab w0) {u : Int} {k : ByteArray} (m : Int) (hu : In64 u) (hk : k.size ≤ 100) (hM : M + 8 ≤ 1000000) :
    Calls Tryd.prog 29 #[.pointer (some ⟨t, 0, none⟩), .int .i64 u, .string k, .int .i64 m] w fun e w' => e = .returned (.tuple #[.bool (LockP.ask lI lS X u k m).2.1, .int .i64 (LockP.ask lI lS X u k m).2.2]) ∧ LS w0 t (M + 12) (LockP.ask lI lS X u k m).1 w' := by
  obtain ⟨N, bs, h1, h2, h3⟩ := h.lk
  refine (ask_any t N bs X u k m w h1 h.good.1.toOk0 (h.good.1.modes k) (h.tab hT) hu hk (by omega)).mono ?_
  rintro e w' ⟨rfl, hP⟩
  have hl := ask_len (ltI := lI) (ltS := lS) X u k m
  exact ⟨rfl, LS.told h.bl h3 hP (by omega) (ask_ok h.good u k m).1 (h.fit.ask hu hk)⟩
theorem cancel_ls (h : LS w0 t M X w) (hT : Modes.Tab w0) {u : Int} (hu : In64 u) (hM : M + 8 ≤ 1000000) :
    Calls Tryd.prog 31 #[.pointer (some ⟨t, 0, none⟩), .int .i64 u] w (GivesT w0 t M (cancelP lI lS X u).1 (cancelP lI lS X u).2) := by
  obtain ⟨N, bs, h1, h2, h3⟩ := h.lk
  refine (cancel_any t N bs X u w h1 h.good.1 h.fit (h.tab hT) (fun hm => by have := h3 _ hm; have := hT.lt; omega) hu (by omega)).mono ?_
  rintro e w' ⟨A, n, c, rfl, hO, hP⟩
  have hl := cancelP_len (ltI := lI) (ltS := lS) h.good.1 u
  exact ⟨A, n, c, rfl, hO.elems, LS.told h.bl h3 hP (by show _ + 4 * (cancelP lI lS X u).2.length + 4 * (cancelP lI lS X u).1.goal.length ≤ M; omega) (cancelP_good h.good u).1 (cancelP_fit h.fit u)⟩
theorem end_ls (h : LS w0 t M X w) (hT : Modes.Tab w0) {u : Int} (hu : In64 u) (hM : M + 8 ≤ 1000000) :
    Calls Tryd.prog 28 #[.pointer (some ⟨t, 0, none⟩), .int .i64 u] w (GivesT w0 t M (endP lI lS X u).1 (endP lI lS X u).2) := by
  obtain ⟨N, bs, h1, h2, h3⟩ := h.lk
  refine (end_any t N bs X u w h1 h.good.1 h.fit (h.tab hT) (fun hm => by have := h3 _ hm; have := hT.lt; omega) hu (by omega)).mono ?_
  rintro e w' ⟨fl, f1, f2, f3, A, n, c, rfl, hO, hP⟩
  have he := ends_eq (ltI := lI) (ltS := lS) f1 f2 f3
  rw [he] at hO hP
  have hl := endP_len (ltI := lI) (ltS := lS) h.good.1 u
  exact ⟨A, n, c, rfl, hO.elems, LS.told h.bl h3 hP (by omega) (endP_good h.good u).1 (endP_fit h.fit u)⟩
theorem waiting_ls (h : LS w0 t M X w) (hM : M + 8 ≤ 1000000) : Calls Tryd.prog 21 #[.pointer (some ⟨t, 0, none⟩)] w fun e w' => ∃ A n c, e = .returned (.slice A n c) ∧ Elems IntE w' w'.heap.size A n c (waitingP X) ∧ Below w.heap.size w w' := by
  obtain ⟨N, bs, h1, h2, h3⟩ := h.lk
  refine (waiting_any t N bs X w h1 h.good.1.toOk0 (by omega)).mono ?_
  rintro e w' ⟨A, n, c, rfl, hO, hb⟩
  exact ⟨A, n, c, rfl, hO.elems, hb⟩
theorem len_ls (h : LS w0 t M X w) (hM : M + 8 ≤ 1000000) : Calls Tryd.prog 19 #[.pointer (some ⟨t, 0, none⟩)] w fun e w' => ∃ us : List Int, us.Nodup ∧ (∀ u, X.mem u ≠ [] → u ∈ us) ∧ e = .returned (.int .i64 (lenOf X us : Nat)) ∧ Below w.heap.size w w' := by
  obtain ⟨N, bs, h1, h2, h3⟩ := h.lk
  exact len_any t N bs X w h1 (by omega)
theorem new_ls (w : World) : Calls Tryd.prog 8 #[] w fun e w' => ∃ t, e = .returned (.pointer (some ⟨t, 0, none⟩)) ∧ LS w t 0 LockP.empty w' := by
  refine (new_any w).mono ?_
  rintro e w' ⟨t, bs, rfl, hl, hn, hb⟩
  exact ⟨t, rfl, ⟨0, bs, hl, Nat.le_refl _, hn⟩, good_empty, fit_empty, hb⟩
end
theorem code_any (e : Int) (w : World) : Calls Tryd.prog 30 #[.int .i64 e] w fun r w' => r = .returned (.int .i64 e) ∧ w = w' := by
  go_enter Tryd.func30, Tryd.ntmps30
  go_wp2
  go_ret
  exact ⟨rfl, rfl⟩
/-- no more than is asked -/
def Asked (n : Nat) (l : List StepL) : Prop := n ≤ 60 ∧ ∀ x ∈ l, x.key.size ≤ 100
set_option maxRecDepth 100000 in
set_option maxHeartbeats 1000000 in
theorem great_any (A : Option Addr) (n c : Nat) (l : List StepL) (w : World) (hE : Elems StepLE w w.heap.size A n c l) :
    Calls Tryd.prog 6 #[.slice A n c] w fun e w' => ∃ r, e = .returned (.bool r) ∧ (r = false → Asked n l) ∧ w = w' := by
  have HE := Lib.hid hE
  have hlen := hE.len
  have hcm := hE.cap.2
  have hcap := hE.cap.1
  unfold maxLen at hcm
  clear hE
  go_enter Tryd.func6, Tryd.ntmps6
  go_wp2
  go_loopw [3] (fun iv wr => ∃ k : Nat, k ≤ n ∧ k ≤ 100 ∧ iv = .int .i64 (k : Int) ∧ wr = w ∧ Hid (∀ j x, j < k → l[j]? = some x → x.key.size ≤ 100)) (fun iv _ => n - (intOf iv).toNat)
  case atStart => exact ⟨0, Nat.zero_le _, by omega, rfl, rfl, Lib.hid (fun j x h => absurd h (by omega))⟩
  case round =>
    obtain ⟨k, hk, hk1, rfl, hwr, HK⟩ := hrel
    subst hwr
    by_cases hlt : k < n
    · have hd : decide ((k : Int) < (n : Int)) = true := by simpa using hlt
      by_cases h100 : k < 100
      · have hd2 : decide ((k : Int) < 100) = true := by simp; omega
        obtain ⟨b, o, x, rfl, hb, hx, hi, q0, q1, q2, q3⟩ := stepL_at HE.out hlt
        have hki : (0 : Int) ≤ (k : Int) := by omega
        by_cases hB : 100 < x.key.size
        · have hd3 : decide ((100 : Int) < (x.key.size : Int)) = true := by simp; omega
          clear hi hx
          go_wp2
          go_ret
          exact ⟨true, rfl, (fun h => by cases h), rfl⟩
        · have hd3 : decide ((100 : Int) < (x.key.size : Int)) = false := by simp; omega
          have HN : Hid (∀ j y, j < k + 1 → l[j]? = some y → y.key.size ≤ 100) := Lib.hid (fun j y hj hy => by
            by_cases e : j = k
            · subst e; rw [hx] at hy; cases hy; omega
            · exact HK.out j y (by omega) hy)
          clear hi hx
          go_wp2
          go_roundw
          case rel => exact ⟨k + 1, by omega, by omega, by go_num, (by first | rfl | trivial), HN⟩
          case measure => simp [intOf]; omega
      · have hd2 : decide ((k : Int) < 100) = false := by simp; omega
        have hd5 : decide ((60 : Int) < (n : Int)) = true := by simp; omega
        go_wp2
        go_ret
        exact ⟨true, rfl, (fun h => by cases h), rfl⟩
    · have hd : decide ((k : Int) < (n : Int)) = false := by simp; omega
      have HF : Hid (∀ x ∈ l, x.key.size ≤ 100) := Lib.hid (fun x hx => by
        obtain ⟨j, hj, rfl⟩ := List.getElem_of_mem hx
        exact HK.out j _ (by omega) (List.getElem?_eq_getElem hj))
      by_cases h60 : 60 < n
      · have hd5 : decide ((60 : Int) < (n : Int)) = true := by simp; omega
        go_wp2
        go_ret
        exact ⟨true, rfl, (fun h => by cases h), rfl⟩
      · have hd5 : decide ((60 : Int) < (n : Int)) = false := by simp; omega
        go_wp2
        go_ret
        exact ⟨false, rfl, (fun _ => ⟨by omega, HF.out⟩), rfl⟩
/-- the page's example -/
def exA : ByteArray := ⟨#[97]⟩
def x1 : St := (LockP.ask lI lS LockP.empty 1 exA 0).1
def x2 : St := (LockP.ask lI lS x1 2 exA 1).1
def x3 : St := (LockP.ask lI lS x2 3 exA 0).1
theorem live1 : (LockP.ask lI lS LockP.empty 1 exA 0).2 = (true, 0) := by kernel_rfl
theorem live2 : (LockP.ask lI lS x1 2 exA 1).2 = (false, 0) := by kernel_rfl
theorem live3 : (LockP.ask lI lS x2 3 exA 0).2 = (false, 0) := by kernel_rfl
theorem live_end : endP lI lS x3 1 = ends lI lS x3 1 [exA] [exA] := by
  have h : freeOf x3 1 = [exA] := by kernel_rfl
  unfold endP
  rw [h, srt_one]
theorem live4 : (endP lI lS x3 1).2 = [2] := by rw [live_end]; kernel_rfl
theorem live5 : LockP.set (endP lI lS x3 1).1 exA 2 = 2 := by rw [live_end]; kernel_rfl
set_option maxRecDepth 100000 in
set_option maxHeartbeats 2000000 in
theorem live_any (w : World) (hT : Modes.Tab w) : Calls Tryd.prog 7 #[] w fun e w' => e = .returned (.bool true) ∧ Below w.heap.size w w' := by
  have HT := Lib.hid hT
  have i1 : In64 1 := by constructor <;> decide
  have i2 : In64 2 := by constructor <;> decide
  have i3 : In64 3 := by constructor <;> decide
  have hz : exA.size ≤ 100 := by decide
  clear hT
  go_enter Tryd.func7, Tryd.ntmps7
  go_wp2_with fail
  refine (new_ls w).mono ?_
  rintro e W1 ⟨t, rfl, hL1⟩
  have HL1 := Lib.hid hL1
  clear hL1
  go_wp2_with fail
  refine (ask_ls HL1.out HT.out (u := 1) (k := exA) 0 i1 hz (by omega)).mono ?_
  rintro e W2 ⟨rfl, hL2⟩
  rw [live1]
  have HL2 : Hid (LS w t 12 x1 W2) := Lib.hid hL2
  clear hL2
  go_wp2_with fail
  refine (ask_ls HL2.out HT.out (u := 2) (k := exA) 1 i2 hz (by omega)).mono ?_
  rintro e W3 ⟨rfl, hL3⟩
  rw [live2]
  have HL3 : Hid (LS w t 24 x2 W3) := Lib.hid hL3
  clear hL3
  go_wp2_with fail
  refine (ask_ls HL3.out HT.out (u := 3) (k := exA) 0 i3 hz (by omega)).mono ?_
  rintro e W4 ⟨rfl, hL4⟩
  rw [live3]
  have HL4 : Hid (LS w t 36 x3 W4) := Lib.hid hL4
  clear hL4
  go_wp2_with fail
  refine (end_ls HL4.out HT.out (u := 1) i1 (by omega)).mono ?_
  rintro e W5 ⟨A, n, c, rfl, hE, hL5⟩
  rw [live4] at hE
  have HL5 := Lib.hid hL5
  have HE := Lib.hid hE
  clear hE hL5
  go_wp2_with fail
  obtain ⟨W6, hW6⟩ : ∃ W, W5.alloc (.cells #[.int .i64 2] 3) = W := ⟨_, rfl⟩
  rw [hW6]
  have hb6 : Below W5.heap.size W5 W6 := by rw [← hW6]; exact balloc (bsame _) _
  have hs6 : Str W6 W5.heap.size #[.int .i64 2] := by rw [← hW6]; exact Str.new _ _ _
  have HL6 := Lib.hid (HL5.out.next hb6)
  have hE2 : Elems IntE W6 W6.heap.size (some ⟨W5.heap.size, 0, none⟩) 1 1 [2] := IntE.lit hs6
  refine (SameL.sameList_any (l := [2]) (l' := [2]) W6 (HE.out.next hb6) hE2).mono ?_
  rintro e W7 ⟨rfl, hb7⟩
  have HL7 := Lib.hid (HL6.out.next hb7)
  clear hW6 hb6 hs6 hb7 hE2
  go_wp2_with fail
  obtain ⟨N7, bs7, hl7, -, -⟩ := HL7.out.lk
  refine (holds_any t N7 bs7 _ 2 exA W7 hl7 i2 hz).mono ?_
  rintro e W8 ⟨rfl, rfl⟩
  rw [live5]
  go_wp2_with fail
  go_ret
  exact ⟨rfl, HL7.out.bl⟩
end Law13
end Go.Proofs.YtkkfabnehhamdaaDoor
end
section
namespace Go.Proofs.YtkkfabnehhamdaaDoor.SortI
open Go.Lib
abbrev T := Int
theorem lt_of (a b : Int) (h : a ≤ b) (hn : a ≠ b) : a < b := by omega
theorem lt_ne {a b : T} (h : a < b) : a ≠ b := by rintro rfl; exact Int.lt_irrefl _ h
theorem lt_tr {a b c : T} (h : a < b) (h' : b < c) : a < c := Int.lt_trans h h'
/-- strictly rising lists of the same members are the same -/
theorem ext {l l' : List T} (h : l.Pairwise (· < ·)) (h' : l'.Pairwise (· < ·)) (hm : ∀ x, x ∈ l ↔ x ∈ l') : l = l' := by
  have hp : l.Perm l' := (List.perm_ext_iff_of_nodup (h.imp lt_ne) (h'.imp lt_ne)).2 hm
  exact List.Perm.eq_of_pairwise (le := (· < ·)) (fun a b _ _ h1 h2 => absurd (lt_tr h1 h2) (Int.lt_irrefl _)) h h' hp
theorem upTo (d : Array T) (hs : ∀ i j, i ≤ j → j < d.size → d[i]! ≤ d[j]!) : ∀ m, m ≤ d.size → (compactUpTo d m).Pairwise (· < ·) ∧ ∀ x, x ∈ compactUpTo d m ↔ ∃ j, j < m ∧ x = d[j]!
  | 0, _ => by simp [compactUpTo]
  | m + 1, hm => by
    obtain ⟨h1, h2⟩ := upTo d hs m (by omega)
    rw [compactUpTo_succ]
    by_cases hk : keeps d m = true
    · rw [if_pos hk]
      refine ⟨List.pairwise_append.2 ⟨h1, by simp, fun a ha b hb => ?_⟩, fun x => ?_⟩
      · simp only [List.mem_singleton] at hb
        subst hb
        obtain ⟨j, hj, rfl⟩ := (h2 a).1 ha
        have hne : d[m - 1]! ≠ d[m]! := by
          intro e
          simp [keeps] at hk
          rcases hk with hk | hk
          · omega
          · exact hk e.symm
        have ha := lt_of _ _ (hs (m - 1) m (by omega) (by omega)) hne
        have hb := hs j (m - 1) (by omega) (by omega)
        exact Int.lt_of_le_of_lt hb ha
      · rw [List.mem_append, h2, List.mem_singleton]
        constructor
        · rintro (⟨j, hj, rfl⟩ | rfl)
          · exact ⟨j, by omega, rfl⟩
          · exact ⟨m, by omega, rfl⟩
        · rintro ⟨j, hj, rfl⟩
          by_cases e : j = m
          · exact Or.inr (by rw [e])
          · exact Or.inl ⟨j, by omega, rfl⟩
    · rw [if_neg hk, List.append_nil]
      refine ⟨h1, fun x => ?_⟩
      rw [h2]
      constructor
      · rintro ⟨j, hj, rfl⟩
        exact ⟨j, by omega, rfl⟩
      · rintro ⟨j, hj, rfl⟩
        by_cases e : j = m
        · subst e
          simp [keeps] at hk
          exact ⟨j - 1, by omega, hk.2⟩
        · exact ⟨j, by omega, rfl⟩
/-- what Sort and Compact give -/
def sort (l : List T) : List T := compact (l.mergeSort fun x y => decide (x ≤ y))
theorem sort_spec (l : List T) : (sort l).Pairwise (· < ·) ∧ ∀ x, x ∈ sort l ↔ x ∈ l := by
  have tr : ∀ a b c : T, decide (a ≤ b) = true → decide (b ≤ c) = true → decide (a ≤ c) = true := fun a b c h1 h2 => by simp only [decide_eq_true_eq] at *; exact Int.le_trans h1 h2
  have to : ∀ a b : T, (decide (a ≤ b) || decide (b ≤ a)) = true := fun a b => by simp only [Bool.or_eq_true, decide_eq_true_eq]; exact Int.le_total a b
  have hp := List.pairwise_mergeSort tr to l
  have hm : ∀ x, x ∈ l.mergeSort (fun x y => decide (x ≤ y)) ↔ x ∈ l := fun x => List.mem_mergeSort
  unfold sort
  generalize l.mergeSort (fun x y => decide (x ≤ y)) = m at hp hm
  unfold compact
  have hs : ∀ i j, i ≤ j → j < m.toArray.size → m.toArray[i]! ≤ m.toArray[j]! := by
    intro i j hij hj
    have hj' : j < m.length := by simpa using hj
    rw [getElem!_pos m.toArray i (by simp; omega), getElem!_pos m.toArray j (by simp; omega)]
    simp only [List.getElem_toArray]
    by_cases e : i = j
    · subst e; exact Int.le_refl _
    · have := List.pairwise_iff_getElem.1 hp i j (by omega) hj' (by omega)
      simpa using this
  obtain ⟨h1, h2⟩ := upTo m.toArray hs m.length (by simp)
  refine ⟨h1, fun x => ?_⟩
  rw [h2, ← hm x, List.mem_iff_getElem]
  constructor
  · rintro ⟨j, hj, rfl⟩
    exact ⟨j, hj, by rw [getElem!_pos m.toArray j (by simp; omega)]; simp⟩
  · rintro ⟨j, hj, rfl⟩
    exact ⟨j, hj, by rw [getElem!_pos m.toArray j (by simp; omega)]; simp⟩
theorem sort_congr {l l' : List T} (h : ∀ x, x ∈ l ↔ x ∈ l') : sort l = sort l' := ext (sort_spec l).1 (sort_spec l').1 fun x => by rw [(sort_spec l).2, (sort_spec l').2, h x]
theorem sort_nil : sort [] = [] := by
  cases h : sort [] with
  | nil => rfl
  | cons x r =>
    have := (sort_spec []).2 x |>.1 (by rw [h]; simp)
    cases this
end Go.Proofs.YtkkfabnehhamdaaDoor.SortI
namespace Go.Proofs.YtkkfabnehhamdaaDoor.LockP
open ModesP
set_option linter.unusedVariables false
/-- for whom one waits, rising -/
def blocksP (s : St) (u : Int) : List Int := match MapP.get s.goal u with
  | none => []
  | some (k, m) => SortI.sort (outs1 s u k m ++ outs2 s u k m)
/-- those ahead that do not go with it -/
def outsOf (l : Row) (m : Int) : List Int := (l.filter fun p => !compat p.2 m).map (·.1)
theorem outs2_stop {s : St} {u : Int} {k : ByteArray} {m : Int} {pre post : Row} {x : Int × Int} (hl : s.row k = pre ++ x :: post) (hx : x.1 = u ∨ set s k u ≠ 0) (h0 : ∀ p ∈ pre, p.1 ≠ u) (h1 : pre ≠ [] → set s k u = 0) : outs2 s u k m = outsOf pre m := by
  unfold outs2 outsOf
  by_cases hs : set s k u = 0
  · rw [if_pos hs]
    have hx : x.1 = u := hx.resolve_right (fun h => h hs)
    obtain ⟨x1, x2⟩ := x
    subst hx
    rw [hl, take_to pre post h0]
  · rw [if_neg hs]
    have : pre = [] := by
      cases pre with
      | nil => rfl
      | cons p r => exact absurd (h1 (by simp)) hs
    rw [this]
    rfl
theorem take_all {α : Type} {f : α → Bool} : ∀ (l : List α), (∀ p ∈ l, f p = true) → l.takeWhile f = l
  | [], _ => rfl
  | p :: r, h => by rw [List.takeWhile_cons, if_pos (h p (by simp)), take_all r (fun q hq => h q (List.mem_cons_of_mem _ hq))]
theorem outs2_end {s : St} {u : Int} {k : ByteArray} {m : Int} (h0 : ∀ p ∈ s.row k, p.1 ≠ u) (h1 : s.row k ≠ [] → set s k u = 0) : outs2 s u k m = outsOf (s.row k) m := by
  unfold outs2 outsOf
  cases hr : s.row k with
  | nil => split <;> rfl
  | cons p r =>
    rw [if_pos (h1 (by rw [hr]; simp)), ← hr]
    congr 1
    congr 1
    exact take_all _ (fun p hp => by simpa using h0 p hp)
theorem outsOf_snoc (l : Row) (x : Int × Int) (m : Int) : outsOf (l ++ [x]) m = outsOf l m ++ if compat x.2 m = true then [] else [x.1] := by
  unfold outsOf
  rw [List.filter_append, List.map_append]
  congr 1
  cases h : compat x.2 m <;> simp [h]
end Go.Proofs.YtkkfabnehhamdaaDoor.LockP
end
section
namespace Go.Proofs.YtkkfabnehhamdaaDoor
namespace Reg
set_option linter.unusedVariables false
def noDefer : Op → Bool
  | .defer _ => false
  | _ => true
/-- the region's end, and no other way out -/
def Only (Q : Exit → Act → World → Prop) : Exit → Act → World → Prop := fun e a w => e = .normal ∧ Q e a w
section
variable {P : Program} {ops : Array Oper} {Q : Exit → Act → World → Prop} {n l : Nat}
theorem lets_only : ¬ LetsOut (Only Q) := fun ⟨_, _, h, _⟩ => by cases h
theorem opIn {o : Oper} {a : Act} {w : World} {K : Act → World → Prop} (hd : noDefer o.op = true) (h : o.wp P a w K (Only Q)) : o.wpIn (Fence.wide.inRound l) n P a w K Q := by
  unfold Oper.wp at h
  unfold Oper.wpIn
  refine ⟨fun _ _ => trivial, ?_⟩
  rw [Oper.semAt_eq _ _ _ (fun c e => by rw [e] at hd; cases hd)]
  generalize (execOp a.eval o).run P w = r at *
  cases r with
  | ok x w' =>
    cases x with
    | value v => exact h
    | skip => exact h
    | «defer» d => exact h
    | enter f args =>
      refine ⟨fun hd => (by cases hd), ((callsIn_wide.2 h).mono ?_).inRound l⟩
      intro e w'' he
      cases e with
      | returned v => exact he
      | panicked ch => exact absurd he.1 (by simp)
      | outgrown => exact absurd he lets_only
    | row row args =>
      refine ⟨fun hd => (by cases hd), fun c cs _ => ?_⟩
      obtain ⟨v, w'', r, s⟩ := h c cs
      exact ⟨v, w'', r, stepsIn_wide.2 s⟩
    | _ => exact h.elim
  | halt x w' =>
    cases x with
    | panic v => exact absurd h.1 (by simp)
    | _ => exact h.elim
theorem anyIn (hd : (ops.toList.all fun o => noDefer o.op) = true) {md : Region.Mode} : ∀ (fuel : Nat) (listed : Array Bool) (a : Act) (w : World), wpAny P md ops (Only Q) fuel listed a w → wpAnyIn (Fence.wide.inRound l) n P md ops Q fuel listed a w
  | 0, listed, a, w, h => ⟨h.1, h.2.2⟩
  | fuel + 1, listed, a, w, h => by
    refine ⟨fun hr => (h.1 hr).2, fun i hi => ?_⟩
    have h2 := h.2 i hi
    unfold wpOp at h2
    unfold wpOpIn
    cases ho : ops[i]? with
    | none => rw [ho] at h2; exact anyIn hd fuel _ a w h2
    | some o =>
      rw [ho] at h2
      dsimp only at h2 ⊢
      have hdo : noDefer o.op = true := List.all_eq_true.1 hd o (Array.mem_toList_iff.2 (Array.mem_of_getElem? ho))
      split
      · rename_i hw
        rw [if_pos hw] at h2
        rcases h2 with h2 | ⟨-, h2⟩
        · exact opIn hdo (Oper.wp_mono (fun a' w' h => anyIn hd fuel _ a' w' h) h2)
        · exact absurd h2 lets_only
      · rename_i hw
        rw [if_neg hw] at h2
        exact ⟨fun _ _ => trivial, anyIn hd fuel _ _ w h2⟩
end
section
variable {R : Way} {P : Program} {ops : Array Oper} {Q : Exit → Act → World → Prop} {a0 : Act} {W : World}
/-- THE LAW, inside a round -/
theorem wpIn_region_vals {id l m : Nat} (T : List (SP R)) (n : Nat) (L : List (List (Tmp × Option Nat))) (hn : a0.tmps.size = n) (hm : P.follows .mixedOrders = true) (hc : checkB ops n = true) (hL : lookAll ops 0 ops.toList = L) (hobl : Obls P ops (Only Q) T a0 W 0 ops.toList L)
    (D : List (Option Tmp)) (hD : ops.toList.map (·.dst) = D) (hfin : ∀ w', R.rel W w' → Fin (Q .normal) w' D T a0) (hd : (ops.toList.all fun o => noDefer o.op) = true := by kernel_rfl) : (Code.region id ops true).wpIn (Fence.wide.inRound l) m P Q a0 W := by
  subst hn
  subst hL
  subst hD
  refine wpIn_region_any hm (anyIn hd _ _ _ _ (wpAny_vals (form_of hc) hobl (fun w' hw => fin_mono (fun _ _ h => ⟨rfl, h⟩) _ _ _ (hfin w' hw)) _ _ _ _ (by simp) ⟨R.drew W, rfl, rfl, by simp, fun _ _ => rfl, fun i o ho hl => ?_, fun i o ho hl e he hb => ?_⟩))
  · have hlt := (Array.getElem?_eq_some_iff.1 ho).1
    simp [hlt] at hl
  · have hlt := (Array.getElem?_eq_some_iff.1 ho).1
    simp [hlt] at hl
end
end Reg
end Go.Proofs.YtkkfabnehhamdaaDoor
end
