/-
  Parts of the proof of PlanGrows.
-/
import Derived.Test.YtpklclnehlgcpaaGreatPlanG13
import Derived.Test.YtpklclnehlgcpaaGreatPlanG18
import Derived.Laws.Externs
import Derived.Test.YtpklclnehlgcpaaGreatPlanG2
import Derived.Test.YtpklclnehlgcpaaGreatPlanG0
import Derived.Deep.Slices
import Derived.Test.YtpklclnehlgcpaaGreatPlanG17
import Derived.BigQuiet
import Derived.Laws.BitsAllLaws
import Derived.Laws.BitsLemmas
import Derived.Test.YtpklclnehlgcpaaGreatProg
import Derived.Test.YtpklclnehlgcpaaGreatPlanG7
import Derived.Test.YtpklclnehlgcpaaGreatPlanG1
import Derived.Test.YtpklclnehlgcpaaGreatPlanG9
import Derived.Lib.SliceRun
section
namespace Go.Proofs.YtpklclnehlgcpaaGreat.ModelP
/-- a pair that may be -/
def okP (p : Pair) : Prop := KeyP.right p.key.data.toList = true ∧ CellP.right p.cell = true
/-- a state that may be -/
def Right (s : List Pair) : Prop := (∀ p ∈ s, okP p) ∧ Rises s
theorem rightB_iff : ∀ s : List Pair, rightB s = true ↔ Right s
  | [] => by simp [rightB, Right, Rises]
  | [p] => by simp [rightB, Right, Rises, okP]
  | p :: q :: s => by
    have ih := rightB_iff (q :: s)
    unfold rightB
    simp only [Bool.and_eq_true, decide_eq_true_eq, ih]
    constructor
    · rintro ⟨h1, h2, h3, h4, h5⟩
      refine ⟨fun r hr => ?_, List.pairwise_cons.2 ⟨fun r hr => ?_, h5⟩⟩
      · rcases List.mem_cons.1 hr with rfl | hr
        · exact ⟨h1, h2⟩
        · exact h4 r hr
      · rcases List.mem_cons.1 hr with rfl | hr
        · exact h3
        · exact lt_trans h3 ((List.pairwise_cons.1 h5).1 r hr)
    · rintro ⟨h1, h2⟩
      obtain ⟨h3, h4⟩ := List.pairwise_cons.1 h2
      exact ⟨(h1 p (by simp)).1, (h1 p (by simp)).2, h3 q (by simp), fun r hr => h1 r (by simp [hr]), h4⟩
/-- by neighbours -/
theorem rises_of : ∀ s : List Pair, (∀ (i : Nat) p q, s[i]? = some p → s[i + 1]? = some q → lt p.key q.key) → Rises s
  | [], _ => List.Pairwise.nil
  | [p], _ => List.pairwise_singleton _ _
  | p :: q :: s, h => by
    have ih := rises_of (q :: s) fun i a b ha hb => h (i + 1) a b (by simpa using ha) (by simpa using hb)
    have hpq := h 0 p q rfl rfl
    refine List.pairwise_cons.2 ⟨fun r hr => ?_, ih⟩
    rcases List.mem_cons.1 hr with rfl | hr
    · exact hpq
    · exact lt_trans hpq ((List.pairwise_cons.1 ih).1 r hr)
theorem right_of {s : List Pair} (h1 : ∀ (i : Nat) p, s[i]? = some p → okP p) (h2 : ∀ (i : Nat) p q, s[i]? = some p → s[i + 1]? = some q → lt p.key q.key) : rightB s = true :=
  (rightB_iff s).2 ⟨fun p hp => by obtain ⟨i, hi, rfl⟩ := List.getElem_of_mem hp; exact h1 i _ (List.getElem?_eq_getElem hi), rises_of s h2⟩
/-- what stands ahead is below, what stands behind is above -/
theorem split_at (s : List Pair) (k : ByteArray) (hr : Rises s) : (∀ p ∈ s.take (at_ s k), lt p.key k) ∧ ∀ p ∈ (if (s[at_ s k]?).map (·.key) = some k then s.drop (at_ s k + 1) else s.drop (at_ s k)), lt k p.key := by
  refine ⟨fun p hp => ?_, fun p hp => ?_⟩
  · obtain ⟨i, hi, rfl⟩ := List.getElem_of_mem hp
    have hi' : i < at_ s k := by simp at hi; omega
    exact at_lt k s i _ hi' (by rw [List.getElem_take]; exact List.getElem?_eq_getElem _)
  · split at hp
    · rename_i he
      obtain ⟨i, hi, rfl⟩ := List.getElem_of_mem hp
      obtain ⟨q, hq, hk⟩ := Option.map_eq_some_iff.1 he
      obtain ⟨hl, rfl⟩ := List.getElem?_eq_some_iff.1 hq
      rw [List.getElem_drop]
      have := List.pairwise_iff_getElem.1 hr (at_ s k) (at_ s k + 1 + i) hl (by simp at hi; omega) (by omega)
      rw [hk] at this
      exact this
    · rename_i he
      obtain ⟨i, hi, rfl⟩ := List.getElem_of_mem hp
      rw [List.getElem_drop]
      have hl : at_ s k < s.length := by simp at hi; omega
      have hge := at_ge k s _ (List.getElem?_eq_getElem hl)
      have hne : ¬ s[at_ s k].key = k := fun e => he (by rw [List.getElem?_eq_getElem hl]; simp [e])
      have hgt : lt k s[at_ s k].key := by
        rcases List.le_iff_lt_or_eq.1 (List.not_lt.1 hge) with h1 | h1
        · exact h1
        · exact absurd (key_eq h1).symm hne
      rcases Nat.eq_zero_or_pos i with h0 | h0
      · subst h0; exact hgt
      · exact lt_trans hgt (List.pairwise_iff_getElem.1 hr (at_ s k) (at_ s k + i) hl (by simp at hi; omega) (by omega))
theorem mem_put {s : List Pair} {k : ByteArray} {c : Option Cell} {p : Pair} (h : p ∈ put s k c) : p ∈ s ∨ ∃ x, c = some x ∧ p = ⟨k, x⟩ := by
  unfold put at h
  rcases List.mem_append.1 h with h | h
  · exact .inl (List.mem_of_mem_take h)
  · rcases List.mem_append.1 h with h | h
    · cases c with
      | none => simp at h
      | some x => exact .inr ⟨x, rfl, by simpa using h⟩
    · left
      split at h
      · exact List.mem_of_mem_drop h
      · exact List.mem_of_mem_drop h
theorem put_rises (s : List Pair) (k : ByteArray) (c : Option Cell) (hr : Rises s) : Rises (put s k c) := by
  obtain ⟨h1, h2⟩ := split_at s k hr
  unfold put
  have hd : Rises (if (s[at_ s k]?).map (·.key) = some k then s.drop (at_ s k + 1) else s.drop (at_ s k)) := by
    split
    · exact hr.sublist (List.drop_sublist _ _)
    · exact hr.sublist (List.drop_sublist _ _)
  generalize hD : (if (s[at_ s k]?).map (·.key) = some k then s.drop (at_ s k + 1) else s.drop (at_ s k)) = D at h2 hd
  have hdd : ∀ p ∈ (match c with | some c => [(⟨k, c⟩ : Pair)] | none => []) ++ D, ∀ q ∈ s.take (at_ s k), lt q.key p.key := by
    intro p hp q hq
    rcases List.mem_append.1 hp with hp | hp
    · cases c with
      | none => simp at hp
      | some x =>
        have : p = ⟨k, x⟩ := by simpa using hp
        subst this
        exact h1 q hq
    · exact lt_trans (h1 q hq) (h2 p hp)
  refine List.pairwise_append.2 ⟨hr.sublist (List.take_sublist _ _), ?_, fun q hq p hp => hdd p hp q hq⟩
  cases c with
  | none => exact hd
  | some x => exact List.pairwise_cons.2 ⟨fun p hp => h2 p hp, hd⟩
theorem rule_right {t : Option Cell} {x : OpX} (hg : good x = true) (ht : ∀ c, t = some c → CellP.right c = true) : ∀ c, (rule t x).2.1 = some c → CellP.right c = true := by
  intro c hc
  unfold good at hg
  simp only [Bool.and_eq_true, decide_eq_true_eq] at hg
  obtain ⟨⟨ha0, ha5⟩, -, hg⟩ := hg
  unfold rule at hc
  split at hc
  · cases t with
    | none => cases hc
    | some d => cases hc; exact ht _ rfl
  · split at hc
    · rename_i h1
      split at hc
      · cases hc
      · cases hc
        rw [if_pos h1] at hg
        simp [CellP.right]
        simpa using hg
    · split at hc
      · rename_i h0 h1 h2
        cases t with
        | some d => cases hc
        | none =>
          cases hc
          rw [if_neg h1, if_pos h2] at hg
          simp [CellP.right]
          simpa using hg
      · split at hc
        · cases t <;> cases hc
        · cases t with
          | none => cases hc
          | some d =>
            dsimp only at hc
            generalize (if x.act = 4 then d.val + x.n else d.val - x.n) = v at hc
            split at hc
            · cases hc
            · split at hc
              · cases hc
              · rename_i hn
                simp only [Option.some.injEq] at hc
                subst hc
                simp [CellP.right]
                omega
theorem find_right (k : ByteArray) {s : List Pair} (h : Right s) : ∀ c, find s k = some c → CellP.right c = true := by
  intro c hc
  rw [find_eq k s h.2] at hc
  split at hc
  · obtain ⟨p, hp, rfl⟩ := Option.map_eq_some_iff.1 hc
    exact (h.1 p (List.mem_of_getElem? hp)).2
  · cases hc
theorem good_key {x : OpX} (hg : good x = true) : KeyP.right x.key.data.toList = true := by
  unfold good at hg
  simp only [Bool.and_eq_true] at hg
  exact hg.2.1
theorem step_right {s : List Pair} (h : Right s) (x : OpX) : Right (step s x).1 := by
  unfold step
  split
  · exact h
  · rename_i hg
    have hg : good x = true := by simpa using hg
    split
    · exact h
    · refine ⟨fun p hp => ?_, put_rises s _ _ h.2⟩
      rcases mem_put hp with hp | ⟨c, hc, rfl⟩
      · exact h.1 p hp
      · exact ⟨good_key hg, rule_right hg (find_right _ h) c hc⟩
theorem same_self (s : List Pair) : sameAll s s = true := by
  unfold sameAll
  simp only [beq_self_eq_true, Bool.true_and, List.all_eq_true]
  intro p hp
  obtain ⟨i, hi, rfl⟩ := List.getElem_of_mem hp
  simp [CellP.same]
theorem put_set (s : List Pair) (k : ByteArray) (c : Cell) (h : (s[at_ s k]?).map (·.key) = some k) : put s k (some c) = s.set (at_ s k) ⟨k, c⟩ := by
  obtain ⟨p, hp, hk⟩ := Option.map_eq_some_iff.1 h
  have hl := (List.getElem?_eq_some_iff.1 hp).1
  unfold put
  rw [if_pos h, List.set_eq_take_append_cons_drop, if_pos hl]
  rfl
theorem put_ins (s : List Pair) (k : ByteArray) (c : Cell) (h : ¬ (s[at_ s k]?).map (·.key) = some k) : put s k (some c) = s.take (at_ s k) ++ ⟨k, c⟩ :: s.drop (at_ s k) := by
  unfold put
  rw [if_neg h]
  rfl
theorem put_del (s : List Pair) (k : ByteArray) (h : (s[at_ s k]?).map (·.key) = some k) : put s k none = s.eraseIdx (at_ s k) := by
  unfold put
  rw [if_pos h, List.eraseIdx_eq_take_drop_succ]
  rfl
/-- how long it is then -/
theorem put_length (s : List Pair) (k : ByteArray) (c : Option Cell) : (put s k c).length ≤ s.length + 1 := by
  have := at_le k s
  unfold put
  split <;> split <;> simp <;> omega
theorem step_length (s : List Pair) (x : OpX) : (step s x).1.length ≤ s.length + 1 := by
  unfold step
  split
  · exact Nat.le_succ _
  · split
    · exact Nat.le_succ _
    · exact put_length _ _ _
end Go.Proofs.YtpklclnehlgcpaaGreat.ModelP
end
section
namespace Go.Proofs.YtpklclnehlgcpaaGreat.ModelP
theorem rule_err {t : Option Cell} {x : OpX} (h : (rule t x).1 ≠ 0) : rule t x = ((rule t x).1, none, CellP.none) := by
  unfold rule at *
  split
  · rename_i h0; rw [if_pos h0] at h; cases t <;> simp_all
  · rename_i h0
    rw [if_neg h0] at h
    split
    · rename_i h1; rw [if_pos h1] at h; split <;> simp_all
    · rename_i h1
      rw [if_neg h1] at h
      split
      · rename_i h2; rw [if_pos h2] at h; cases t <;> simp_all
      · rename_i h2
        rw [if_neg h2] at h
        split
        · rename_i h3; rw [if_pos h3] at h; cases t <;> simp_all
        · rename_i h3
          rw [if_neg h3] at h
          cases t with
          | none => rfl
          | some c =>
            dsimp only at *
            generalize (if x.act = 4 then c.val + x.n else c.val - x.n) = v at h ⊢
            split
            · rfl
            · rename_i hk
              rw [if_neg hk] at h
              split
              · rfl
              · rename_i hb
                rw [if_neg hb] at h
                exact absurd rfl h
theorem rule_some {x : OpX} (h : (rule none x).1 = 0) : ∃ c, (rule none x).2.1 = some c := by
  unfold rule at *
  split
  · rename_i h0; rw [if_pos h0] at h; simp at h
  · rename_i h0
    rw [if_neg h0] at h
    split
    · rename_i h1
      split
      · rename_i hk; simp [CellP.none] at hk
      · exact ⟨_, rfl⟩
    · rename_i h1
      rw [if_neg h1] at h
      split
      · exact ⟨_, rfl⟩
      · rename_i h2
        rw [if_neg h2] at h
        split
        · rename_i h3; rw [if_pos h3] at h; simp at h
        · rename_i h3; rw [if_neg h3] at h; simp at h
def CellIn (c : Cell) : Prop := In64 c.kind ∧ In64 c.lo ∧ In64 c.hi ∧ In64 c.val
theorem rule_in {t : Option Cell} {x : OpX} (ht : ∀ c, t = some c → CellIn c) (h1 : In64 x.lo) (h2 : In64 x.hi) (h3 : In64 x.n) : ∀ c, (rule t x).2.1 = some c → CellIn c := by
  intro c hc
  unfold rule at hc
  split at hc
  · cases t with
    | none => cases hc
    | some d => cases hc; exact ht _ rfl
  · split at hc
    · split at hc
      · cases hc
      · cases hc
        unfold CellIn In64; dsimp only; omega
    · split at hc
      · cases t with
        | some d => cases hc
        | none =>
          cases hc
          refine ⟨?_, h1, h2, h3⟩
          unfold In64; dsimp only; omega
      · split at hc
        · cases t <;> cases hc
        · cases t with
          | none => cases hc
          | some d =>
            dsimp only at hc
            generalize (if x.act = 4 then d.val + x.n else d.val - x.n) = v at hc
            split at hc
            · cases hc
            · split at hc
              · cases hc
              · rename_i hn
                simp only [Option.some.injEq] at hc
                subst hc
                obtain ⟨q1, q2, q3, q4⟩ := ht d rfl
                unfold In64 at q2 q3
                refine ⟨?_, q2, q3, ?_⟩ <;> (unfold In64; dsimp only; omega)
end Go.Proofs.YtpklclnehlgcpaaGreat.ModelP
namespace Go.Proofs.YtpklclnehlgcpaaGreat.ModelW
open Go.RowKit
set_option linter.unusedVariables false
theorem enterF {P : Program} {f : FuncId} {fn : Func} {c : Code} (hf : P.funcs[f]? = some fn) (hname : (fn.name == "runtime.NumGoroutine") = false) (hb : fn.body = some c) (args : Array Value) (w : World) : (callFunc f args).run P w = .ok (.enter f args) w := by
  have h1 : fn.name ≠ "runtime.NumGoroutine" := by simpa using hname
  simp [callFunc, hf, h1, hb]
theorem enter_read (args : Array Value) (w : World) : (callFunc 90 args).run Tryz.prog w = .ok (.enter 90 args) w := enterF Tryz.func90 (by kernel_rfl) rfl args w
theorem enter_write (args : Array Value) (w : World) : (callFunc 91 args).run Tryz.prog w = .ok (.enter 91 args) w := enterF Tryz.func91 (by kernel_rfl) rfl args w
theorem enter_create (args : Array Value) (w : World) : (callFunc 92 args).run Tryz.prog w = .ok (.enter 92 args) w := enterF Tryz.func92 (by kernel_rfl) rfl args w
theorem enter_drop (args : Array Value) (w : World) : (callFunc 93 args).run Tryz.prog w = .ok (.enter 93 args) w := enterF Tryz.func93 (by kernel_rfl) rfl args w
theorem enter_move1 (args : Array Value) (w : World) : (callFunc 105 args).run Tryz.prog w = .ok (.enter 105 args) w := enterF Tryz.func105 (by kernel_rfl) rfl args w
theorem ix0 (b c : Nat) (W : World) : (Instr.index 127 (.agg (rulesV b c)) (.int .i64 0)).run Tryz.prog W = .ok (.agg #[.func (.func 90) #[] ((fun _ _ => #[] : Nat → Nat → Array Value) b c)]) W := by
  simp [Instr.index, run_underlying Tryz.underlying127, rulesV, asIntOf, part, isAgg, run_underlying Tryz.underlying126]
theorem ix1 (b c : Nat) (W : World) : (Instr.index 127 (.agg (rulesV b c)) (.int .i64 1)).run Tryz.prog W = .ok (.agg #[.func (.func 91) #[] ((fun _ _ => #[] : Nat → Nat → Array Value) b c)]) W := by
  simp [Instr.index, run_underlying Tryz.underlying127, rulesV, asIntOf, part, isAgg, run_underlying Tryz.underlying126]
theorem ix2 (b c : Nat) (W : World) : (Instr.index 127 (.agg (rulesV b c)) (.int .i64 2)).run Tryz.prog W = .ok (.agg #[.func (.func 92) #[] ((fun _ _ => #[] : Nat → Nat → Array Value) b c)]) W := by
  simp [Instr.index, run_underlying Tryz.underlying127, rulesV, asIntOf, part, isAgg, run_underlying Tryz.underlying126]
theorem ix3 (b c : Nat) (W : World) : (Instr.index 127 (.agg (rulesV b c)) (.int .i64 3)).run Tryz.prog W = .ok (.agg #[.func (.func 93) #[] ((fun _ _ => #[] : Nat → Nat → Array Value) b c)]) W := by
  simp [Instr.index, run_underlying Tryz.underlying127, rulesV, asIntOf, part, isAgg, run_underlying Tryz.underlying126]
theorem ix4 (b c : Nat) (W : World) : (Instr.index 127 (.agg (rulesV b c)) (.int .i64 4)).run Tryz.prog W = .ok (.agg #[.func (.func 105) #[] ((fun b _ => #[.pointer (some ⟨b, 0, none⟩)] : Nat → Nat → Array Value) b c)]) W := by
  simp [Instr.index, run_underlying Tryz.underlying127, rulesV, asIntOf, part, isAgg, run_underlying Tryz.underlying126]
theorem ix5 (b c : Nat) (W : World) : (Instr.index 127 (.agg (rulesV b c)) (.int .i64 5)).run Tryz.prog W = .ok (.agg #[.func (.func 105) #[] ((fun _ c => #[.pointer (some ⟨c, 0, none⟩)] : Nat → Nat → Array Value) b c)]) W := by
  simp [Instr.index, run_underlying Tryz.underlying127, rulesV, asIntOf, part, isAgg, run_underlying Tryz.underlying126]
theorem OwnE.in_ {w : World} {base n c : Nat} {A : Option Addr} {l : List Pair} (h : OwnE PairE TPr w base A n c l) : ∀ p ∈ l, ModelP.CellIn p.cell ∧ p.key.size ≤ maxLen := by
  obtain ⟨vs, -, hr⟩ := h
  intro p hp
  obtain ⟨j, hj, rfl⟩ := List.getElem_of_mem hp
  obtain ⟨v, -, A1, n1, c1, -, -, h1, h2, h3, h4, h5⟩ := hr.get (List.getElem?_eq_getElem hj)
  exact ⟨⟨h2, h3, h4, h5⟩, h1⟩
theorem step_at (A : Option Addr) (n cA base : Nat) (l : List Pair) (act : Int) (xk : ByteArray) (xdata : List UInt8) (Ax : Option Addr) (nx cx Bx : Nat) (xlo xhi xn : Int) (w : World) (h : OwnE PairE TPr w base A n cA l) (hb : base ≤ w.heap.size) (hr : ModelP.Rises l) (hn : n ≤ 1000) (hx : Bytes w Bx Ax nx cx xdata) (hBx : Bx ≤ w.heap.size) (hxk : xk.size ≤ maxLen) (hd : ∀ p ∈ l, p.cell.data.length ≤ 100000) (hi1 : In64 xlo) (hi2 : In64 xhi) (hi3 : In64 xn) (hg : ModelP.good ⟨act, xk, xdata, xlo, xhi, xn⟩ = true) (f : FuncId) (cap : Nat → Nat → Array Value)
    (hix : ∀ b c W, (Instr.index 127 (.agg (rulesV b c)) (.int .i64 act)).run Tryz.prog W = .ok (.agg #[.func (.func f) #[] (cap b c)]) W) (hcf : ∀ args W, (callFunc f args).run Tryz.prog W = .ok (.enter f args) W)
    (hdo : ∀ t, (∀ c, t = some c → ModelP.CellIn c) → Does t ⟨act, xk, xdata, xlo, xhi, xn⟩ Ax nx cx f cap) :
    Calls Tryz.prog 59 #[.slice A n cA, .agg #[.int .i64 act, .string xk, .slice Ax nx cx, .int .i64 xlo, .int .i64 xhi, .int .i64 xn]] w (GivesStep base A w (ModelP.step l ⟨act, xk, xdata, xlo, xhi, xn⟩)) := by
  obtain ⟨k, hat⟩ : ∃ k, ModelP.at_ l xk = k := ⟨_, rfl⟩
  have hin := OwnE.in_ h
  have hfind := ModelP.find_eq xk l hr
  rw [hat] at hfind
  by_cases hh : hasB l xk = true
  · have hkey := (hasB_iff l xk).1 hh
    rw [hat] at hkey
    obtain ⟨p, hp, hpk⟩ := Option.map_eq_some_iff.1 hkey
    obtain ⟨pk, pkd, pda, plo, phi, pva⟩ := p
    dsimp only at hpk
    subst hpk
    rw [if_pos hkey, hp] at hfind
    have hmem := List.mem_of_getElem? hp
    have hpd := hd _ hmem
    have hpin := (hin _ hmem).1
    have hdo' := hdo (some ⟨pkd, pda, plo, phi, pva⟩) (fun c e => by cases e; exact hpin)
    have hrin := ModelP.rule_in (t := some ⟨pkd, pda, plo, phi, pva⟩) (x := ⟨act, pk, xdata, xlo, xhi, xn⟩) (fun c e => by cases e; exact hpin) hi1 hi2 hi3
    have hstep : ModelP.step l ⟨act, pk, xdata, xlo, xhi, xn⟩ = if (ModelP.rule (some ⟨pkd, pda, plo, phi, pva⟩) ⟨act, pk, xdata, xlo, xhi, xn⟩).1 ≠ 0 then (l, ⟨(ModelP.rule (some ⟨pkd, pda, plo, phi, pva⟩) ⟨act, pk, xdata, xlo, xhi, xn⟩).1, CellP.none⟩) else (ModelP.put l pk (ModelP.rule (some ⟨pkd, pda, plo, phi, pva⟩) ⟨act, pk, xdata, xlo, xhi, xn⟩).2.1, ⟨0, (ModelP.rule (some ⟨pkd, pda, plo, phi, pva⟩) ⟨act, pk, xdata, xlo, xhi, xn⟩).2.2⟩) := by
      unfold ModelP.step
      rw [if_neg (by rw [hg]; simp)]
      dsimp only
      rw [hfind]
      rfl
    rw [hstep]
    by_cases he : (ModelP.rule (some ⟨pkd, pda, plo, phi, pva⟩) ⟨act, pk, xdata, xlo, xhi, xn⟩).1 ≠ 0
    · rw [if_pos he]
      exact step_hasA A n cA base k l act pk xdata Ax nx cx Bx xlo xhi xn pkd pda plo phi pva _ f cap w h hb hr hn hx hBx hxk hg hat hh hp hpd hix hcf hdo' (ModelP.rule_err he) (by simpa using he)
    · rw [if_neg he]
      have he : (ModelP.rule (some ⟨pkd, pda, plo, phi, pva⟩) ⟨act, pk, xdata, xlo, xhi, xn⟩).1 = 0 := by simpa using he
      obtain ⟨th, hth⟩ : ∃ th, (ModelP.rule (some ⟨pkd, pda, plo, phi, pva⟩) ⟨act, pk, xdata, xlo, xhi, xn⟩).2.1 = th := ⟨_, rfl⟩
      obtain ⟨told, htold⟩ : ∃ told, (ModelP.rule (some ⟨pkd, pda, plo, phi, pva⟩) ⟨act, pk, xdata, xlo, xhi, xn⟩).2.2 = told := ⟨_, rfl⟩
      have hR : ModelP.rule (some ⟨pkd, pda, plo, phi, pva⟩) ⟨act, pk, xdata, xlo, xhi, xn⟩ = (0, th, told) := by rw [← hth, ← htold, ← he]
      rw [hth, htold]
      cases th with
      | none =>
        rw [ModelP.put_del l pk (by rw [hat]; exact hkey), hat]
        exact step_hasD A n cA base k l act pk xdata Ax nx cx Bx xlo xhi xn pkd pda plo phi pva told f cap w h hb hr hn hx hBx hxk hg hat hh hp hpd hix hcf hdo' hR
      | some c =>
        have hc := hrin c hth
        rw [ModelP.put_set l pk c (by rw [hat]; exact hkey), hat]
        obtain ⟨ckd, cda, clo, chi, cva⟩ := c
        exact step_hasB A n cA base k l act pk xdata Ax nx cx Bx xlo xhi xn pkd pda plo phi pva told ckd cda clo chi cva f cap w h hb hr hn hx hBx hxk hg hat hh hp hpd hix hcf hdo' hR hc
  · have hh : hasB l xk = false := by simpa using hh
    have hkey : ¬ (l[k]?).map (·.key) = some xk := by
      intro e
      have := (hasB_iff l xk).2 (by rw [hat]; exact e)
      rw [hh] at this
      cases this
    rw [if_neg hkey] at hfind
    have hdo' := hdo none (fun c e => by cases e)
    have hrin := ModelP.rule_in (t := none) (x := ⟨act, xk, xdata, xlo, xhi, xn⟩) (fun c e => by cases e) hi1 hi2 hi3
    have hstep : ModelP.step l ⟨act, xk, xdata, xlo, xhi, xn⟩ = if (ModelP.rule none ⟨act, xk, xdata, xlo, xhi, xn⟩).1 ≠ 0 then (l, ⟨(ModelP.rule none ⟨act, xk, xdata, xlo, xhi, xn⟩).1, CellP.none⟩) else (ModelP.put l xk (ModelP.rule none ⟨act, xk, xdata, xlo, xhi, xn⟩).2.1, ⟨0, (ModelP.rule none ⟨act, xk, xdata, xlo, xhi, xn⟩).2.2⟩) := by
      unfold ModelP.step
      rw [if_neg (by rw [hg]; simp)]
      dsimp only
      rw [hfind]
    rw [hstep]
    by_cases he : (ModelP.rule none ⟨act, xk, xdata, xlo, xhi, xn⟩).1 ≠ 0
    · rw [if_pos he]
      exact step_noA A n cA base k l act xk xdata Ax nx cx Bx xlo xhi xn _ f cap w h hb hr hn hx hBx hxk hg hat hh hix hcf hdo' (ModelP.rule_err he) (by simpa using he)
    · rw [if_neg he]
      have he : (ModelP.rule none ⟨act, xk, xdata, xlo, xhi, xn⟩).1 = 0 := by simpa using he
      obtain ⟨c, hth⟩ := ModelP.rule_some he
      obtain ⟨told, htold⟩ : ∃ told, (ModelP.rule none ⟨act, xk, xdata, xlo, xhi, xn⟩).2.2 = told := ⟨_, rfl⟩
      have hR : ModelP.rule none ⟨act, xk, xdata, xlo, xhi, xn⟩ = (0, some c, told) := by rw [← hth, ← htold, ← he]
      have hc := hrin c hth
      rw [hth, htold, ModelP.put_ins l xk c (by rw [hat]; exact hkey), hat]
      obtain ⟨ckd, cda, clo, chi, cva⟩ := c
      exact step_noC A n cA base k l act xk xdata Ax nx cx Bx xlo xhi xn told ckd cda clo chi cva f cap w h hb hr hn hx hBx hxk hg hat hh hix hcf hdo' hR hc
/-- model.step -/
theorem step_any (A : Option Addr) (n cA base : Nat) (l : List Pair) (act : Int) (xk : ByteArray) (xdata : List UInt8) (Ax : Option Addr) (nx cx Bx : Nat) (xlo xhi xn : Int) (w : World) (h : OwnE PairE TPr w base A n cA l) (hb : base ≤ w.heap.size) (hr : ModelP.Rises l) (hn : n ≤ 1000) (hx : Bytes w Bx Ax nx cx xdata) (hBx : Bx ≤ w.heap.size) (hxk : xk.size ≤ maxLen) (hd : ∀ p ∈ l, p.cell.data.length ≤ 100000) (hi1 : In64 xlo) (hi2 : In64 xhi) (hi3 : In64 xn) (hnx : nx ≤ 100000) :
    Calls Tryz.prog 59 #[.slice A n cA, .agg #[.int .i64 act, .string xk, .slice Ax nx cx, .int .i64 xlo, .int .i64 xhi, .int .i64 xn]] w (GivesStep base A w (ModelP.step l ⟨act, xk, xdata, xlo, xhi, xn⟩)) := by
  by_cases hg : ModelP.good ⟨act, xk, xdata, xlo, xhi, xn⟩ = true
  · have hact : 0 ≤ act ∧ act ≤ 5 := by
      unfold ModelP.good at hg
      simp only [Bool.and_eq_true, decide_eq_true_eq] at hg
      exact hg.1
    have hcase : act = 0 ∨ act = 1 ∨ act = 2 ∨ act = 3 ∨ act = 4 ∨ act = 5 := by omega
    rcases hcase with rfl | rfl | rfl | rfl | rfl | rfl
    · refine step_at A n cA base l 0 xk xdata Ax nx cx Bx xlo xhi xn w h hb hr hn hx hBx hxk hd hi1 hi2 hi3 hg 90 (fun _ _ => #[]) ix0 enter_read ?_
      intro t ht bs A n c b d Bx W hbs h1 h2 h3 h4 h5 h6 h7 h8
      have := does0 bs t A n c xk xdata Ax nx cx xlo xhi xn W hbs h1 h2
      simpa using this
    · refine step_at A n cA base l 1 xk xdata Ax nx cx Bx xlo xhi xn w h hb hr hn hx hBx hxk hd hi1 hi2 hi3 hg 91 (fun _ _ => #[]) ix1 enter_write ?_
      intro t ht bs A n c b d Bx W hbs h1 h2 h3 h4 h5 h6 h7 h8
      have := does1 bs t A n c xk xdata Ax nx cx xlo xhi xn W hbs h1 h2 Bx h7 h8 hnx
      simpa using this
    · refine step_at A n cA base l 2 xk xdata Ax nx cx Bx xlo xhi xn w h hb hr hn hx hBx hxk hd hi1 hi2 hi3 hg 92 (fun _ _ => #[]) ix2 enter_create ?_
      intro t ht bs A n c b d Bx W hbs h1 h2 h3 h4 h5 h6 h7 h8
      have := does2 bs t A n c xk xdata Ax nx cx xlo xhi xn W hbs h1 h2
      simpa using this
    · refine step_at A n cA base l 3 xk xdata Ax nx cx Bx xlo xhi xn w h hb hr hn hx hBx hxk hd hi1 hi2 hi3 hg 93 (fun _ _ => #[]) ix3 enter_drop ?_
      intro t ht bs A n c b d Bx W hbs h1 h2 h3 h4 h5 h6 h7 h8
      have := does3 bs t A n c xk xdata Ax nx cx xlo xhi xn W hbs h1 h2
      simpa using this
    · refine step_at A n cA base l 4 xk xdata Ax nx cx Bx xlo xhi xn w h hb hr hn hx hBx hxk hd hi1 hi2 hi3 hg 105 (fun b _ => #[.pointer (some ⟨b, 0, none⟩)]) ix4 enter_move1 ?_
      intro t ht bs A n c b d Bx W hbs h1 h2 h3 h4 h5 h6 h7 h8
      have := does4 bs t A n c xk xdata Ax nx cx xlo xhi xn W hbs h1 h2 b h3 h5 hi3 (fun c0 e => ⟨(ht c0 e).2.2.2, (ht c0 e).2.1, (ht c0 e).2.2.1⟩)
      simpa using this
    · refine step_at A n cA base l 5 xk xdata Ax nx cx Bx xlo xhi xn w h hb hr hn hx hBx hxk hd hi1 hi2 hi3 hg 105 (fun _ c => #[.pointer (some ⟨c, 0, none⟩)]) ix5 enter_move1 ?_
      intro t ht bs A n c b d Bx W hbs h1 h2 h3 h4 h5 h6 h7 h8
      have := does5 bs t A n c xk xdata Ax nx cx xlo xhi xn W hbs h1 h2 d h4 h6 hi3 (fun c0 e => ⟨(ht c0 e).2.2.2, (ht c0 e).2.1, (ht c0 e).2.2.1⟩)
      simpa using this
  · have hg : ModelP.good ⟨act, xk, xdata, xlo, xhi, xn⟩ = false := by simpa using hg
    have e : ModelP.step l ⟨act, xk, xdata, xlo, xhi, xn⟩ = (l, ⟨1, CellP.none⟩) := by
      unfold ModelP.step
      rw [if_pos hg]
    rw [e]
    exact step_bad A n cA base l act xk xdata Ax nx cx xlo xhi xn w h hb hx.len hxk hg
end Go.Proofs.YtpklclnehlgcpaaGreat.ModelW
end
section
namespace Go.Proofs.YtpklclnehlgcpaaGreat
open Go.ChangeShapes Go.WideShapes Go.ChangeAt Go.RowKit
set_option linter.unusedVariables false
section
variable {H : Type} {enc : TypeId × Value → H} {P : Program} {w : World}
/-- a slice whose elements can be read one by one -/
theorem elems_of {α : Type} (E : El α) {fuel : Nat} {t e : TypeId} {cs : List Value} {x : DataW H × List MemPlace} (ht : P.underlying t = some (.slice e)) (hc : P.cellsOf e = E.size)
    (hel : ∀ (n : Nat) (cs : List Value) y, DataW.trod enc P w 0 (fun _ => true) true n e cs = some y → ∃ x, E.rel w w.heap.size cs x)
    (h : DataW.trod enc P w 0 (fun _ => true) true fuel t cs = some x) : ∃ A n c l, cs = [.slice A n c] ∧ Elems E w w.heap.size A n c l := by
  rcases Go.Deep.open_slice ht h with ⟨hcs, _⟩ | ⟨a, len, cap, m, n, D, Pl, hcs, _, hl, hm, hmm, _, hx⟩
  · exact ⟨none, 0, 0, [], hcs, Elems.none_ _ _ _⟩
  · have hlm : len ≤ m := by rw [hmm]; split <;> omega
    have key : ∀ k, k ≤ len → ∃ (vs : List (List Value)) (l : List α), Rel2 (E.rel w w.heap.size) vs l ∧ l.length = k ∧ ∀ j v, vs.flatten[j]? = some v → w.cell? (a.add j) = some v := by
      intro k
      induction k with
      | zero => intro _; exact ⟨[], [], trivial, rfl, fun j v hv => by simp at hv⟩
      | succ k ih =>
        intro hk
        obtain ⟨vs, l, hr, hlen, hcell⟩ := ih (by omega)
        obtain ⟨cs', h1, h2⟩ := hx k (by omega)
        obtain ⟨y, hy⟩ := hel _ _ _ h2
        obtain ⟨_, hcl, hci⟩ := World.cells?_some h1
        refine ⟨vs ++ [cs'], l ++ [y], Rel2.append (show Rel2 (E.rel w w.heap.size) [cs'] [y] from ⟨hy, trivial⟩) hr, by simp [hlen], fun j v hv => ?_⟩
        have hfl : vs.flatten.length = k * E.size := by rw [hr.flat (fun _ _ => E.len), hlen]
        rw [List.flatten_append, List.flatten_singleton] at hv
        by_cases hj : j < vs.flatten.length
        · rw [List.getElem?_append_left hj] at hv
          exact hcell j v hv
        · rw [List.getElem?_append_right (by omega), hfl] at hv
          have hi := (List.getElem?_eq_some_iff.1 hv).1
          have := hci (j - k * E.size) (by omega)
          rw [hv, hc, Go.Deep.add_add, show k * E.size + (j - k * E.size) = j by omega] at this
          exact this
    obtain ⟨vs, l, hr, hlen, hcell⟩ := key len (Nat.le_refl _)
    refine ⟨some a, len, cap, l, hcs, vs, hr, hlen, hl, hm, fun hn => ?_⟩
    have hfl : vs.flatten.length = len * E.size := by rw [hr.flat (fun _ _ => E.len), hlen]
    have hpos : 0 < vs.flatten.length := by rw [hfl]; exact Nat.mul_pos hn E.pos
    obtain ⟨b, o, s⟩ := a
    have h0 := hcell 0 _ (List.getElem?_eq_getElem hpos)
    have hs : s = none := by simpa [Addr.add] using World.cell?_spot h0
    subst hs
    refine ⟨b, o, rfl, by simpa [Addr.add] using lt_of_cell h0, fun j v hv => ?_⟩
    have := hcell j v hv
    rwa [add_none] at this
end
end Go.Proofs.YtpklclnehlgcpaaGreat
end
section
namespace Go.Proofs.YtpklclnehlgcpaaGreat
open Go.ChangeShapes Go.WideShapes Go.ChangeAt Go.RowKit
set_option linter.unusedVariables false
set_option maxRecDepth 100000
section
variable {H : Type} {enc : TypeId × Value → H} {W : World} {base : Nat} {v : Value} {d : DataW H} {p : List MemPlace}
end
end Go.Proofs.YtpklclnehlgcpaaGreat
end
section
namespace Go.Proofs.YtpklclnehlgcpaaGreat.ModelW
open Go.RowKit
set_option linter.unusedVariables false
theorem Elems.drew1 {w : World} {B n c : Nat} {A : Option Addr} {l : List Pair} (h : Pairs w B A n c l) : Pairs w.drew B A n c l := h.sub fun p v _ hv => hv
/-- what a state must be to be walked -/
structure Small (l : List Pair) : Prop where
  len : l.length ≤ 1000
  data : ∀ p ∈ l, p.cell.data.length ≤ 100000
/-- the call hands back a state and an answer -/
def GivesSA (w : World) (r : List Pair × Answer) (e : Ending) (w' : World) : Prop :=
  ∃ A n c A2 n2 c2, e = .returned (.tuple #[.slice A n c, .agg (ansV A2 n2 c2 r.2)]) ∧ Pairs w' w'.heap.size A n c r.1 ∧ Bytes w' w'.heap.size A2 n2 c2 r.2.cell.data ∧ Below w.heap.size w w'
set_option maxRecDepth 100000 in
set_option maxHeartbeats 1000000 in
theorem Step_any (A : Option Addr) (n c B : Nat) (l : List Pair) (act : Int) (xk : ByteArray) (xdata : List UInt8) (Ax : Option Addr) (nx cx Bx : Nat) (xlo xhi xn : Int) (w : World) (h : Pairs w B A n c l) (hB : B ≤ w.heap.size) (hr : ModelP.Rises l) (hs : Small l) (hx : Bytes w Bx Ax nx cx xdata) (hBx : Bx ≤ w.heap.size) (hxk : xk.size ≤ maxLen) (hi1 : In64 xlo) (hi2 : In64 xhi) (hi3 : In64 xn) (hnx : nx ≤ 100000) :
    Calls Tryz.prog 41 #[.slice A n c, .agg #[.int .i64 act, .string xk, .slice Ax nx cx, .int .i64 xlo, .int .i64 xhi, .int .i64 xn]] w (GivesSA w (ModelP.step l ⟨act, xk, xdata, xlo, xhi, xn⟩)) := by
  have hlen := h.len
  have hn : n ≤ 1000 := by rw [← hlen]; exact hs.len
  have H := Lib.hid h
  have HR := Lib.hid hr
  have HD := Lib.hid hs.data
  have HX := Lib.hid hx
  clear h hr hs hx hlen
  obtain ⟨r, hr⟩ : ∃ r, ModelP.step l ⟨act, xk, xdata, xlo, xhi, xn⟩ = r := ⟨_, rfl⟩
  have HRR := Lib.hid hr
  rw [hr]
  clear hr
  go_enter Tryz.func41, Tryz.ntmps41
  go_wp2_with fail
  generalize hW0 : ((w).alloc (.cells #[.int .i64 act, .string xk, .slice Ax nx cx, .int .i64 xlo, .int .i64 xhi, .int .i64 xn] 62)).alloc (.cells #[.int .i64 0, .int .i64 0, .slice none 0 0, .int .i64 0, .int .i64 0, .int .i64 0] 58) = W0
  obtain ⟨HS0_0, HS1_0, HB_0, hw_0, hz0⟩ := new2 hW0
  clear hW0 hz0
  have f0_0 := str6 HS0_0.out
  have hl0_0 := HS0_0.out.lt
  have hf0_0 := fun j => HS0_0.out.frozen j
  have f1_0 := str6 HS1_0.out
  have hl1_0 := HS1_0.out.lt
  have hf1_0 := fun j => HS1_0.out.frozen j
  go_region_with (first
    | (go_at_call 60
       refine (copyState_any A n c B l _ (Elems.drew1 (H.out.below (HB_0.out.mono hB))) (by simp; omega) hn HD.out).mono ?_
       rintro e W1 ⟨g, rfl, hO1, hb1⟩
       rw [show W0.drew.heap.size = W0.heap.size from rfl] at hO1 hb1
       have HO1 := Lib.hid hO1
       have hb1' : Below W0.heap.size W0 W1 := ((bsame W0).drew).trans hb1
       obtain ⟨q0, q1, q2, q3, q4, q5⟩ := str6 (HS0_0.out.next hb1')
       have HB1 := Lib.hid hb1'
       have hsz1 := hb1'.size
       clear hO1 hb1 hb1')
    | (go_at_call 59
       refine (step_any (some ⟨g, 0, none⟩) n n W0.heap.size l act xk xdata Ax nx cx Bx xlo xhi xn _ HO1.out hsz1 HR.out hn ((HX.out.below (HB_0.out.mono hBx)).below (HB1.out.mono (by omega))) (by omega) hxk HD.out hi1 hi2 hi3 hnx).mono ?_
       rw [HRR.out]
       rintro e W2 ⟨A', n', c', A2, n2, c2, rfl, hO2, hy2, hg2, -⟩
       have hb2 : Below W0.heap.size W1 W2 := below_grownO (Below.refl _ _) hg2 hsz1 (by intro j hj; cases hj; exact HO1.out.ge _ rfl)
       clear hg2
       have hS1 := HS1_0.out.next (HB1.out.trans hb2)
       obtain ⟨r0, r1, r2, r3, r4, r5⟩ := str6 hS1
       have hrf := fun j => hS1.frozen j
       have hrl := hS1.lt
       have HS1 := Lib.hid hS1
       have HO2 := Lib.hid hO2
       have HY2 := Lib.hid hy2.bytes
       have HB2 := Lib.hid (HB1.out.trans hb2)
       have hsz2 := HB2.out.size
       clear hO2 hy2 hb2 hS1
       simp only [ansV]))
  all_goals
    go_wp2_with fail
  all_goals
    generalize hW3 : (((((W2.setCell ⟨w.heap.size + 1, 0, none⟩ (.int .i64 r.2.err)).setCell ⟨w.heap.size + 1, 1, none⟩ (.int .i64 r.2.cell.kind)).setCell ⟨w.heap.size + 1, 2, none⟩ (.slice A2 n2 c2)).setCell ⟨w.heap.size + 1, 3, none⟩ (.int .i64 r.2.cell.lo)).setCell ⟨w.heap.size + 1, 4, none⟩ (.int .i64 r.2.cell.hi)).setCell ⟨w.heap.size + 1, 5, none⟩ (.int .i64 r.2.cell.val) = W3
    have hgr : W2.grownBy W3 (some (w.heap.size + 1)) := by rw [← hW3]; exact grown_set (grown_set (grown_set (grown_set (grown_set (grown_set (grown_refl W2 _) 0 _) 1 _) 2 _) 3 _) 4 _) 5 _
    have HSf : Str W3 (w.heap.size + 1) #[.int .i64 r.2.err, .int .i64 r.2.cell.kind, .slice A2 n2 c2, .int .i64 r.2.cell.lo, .int .i64 r.2.cell.hi, .int .i64 r.2.cell.val] := by rw [← hW3]; have := (((((HS1.out.set 0 (.int .i64 r.2.err)).set 1 (.int .i64 r.2.cell.kind)).set 2 (.slice A2 n2 c2)).set 3 (.int .i64 r.2.cell.lo)).set 4 (.int .i64 r.2.cell.hi)).set 5 (.int .i64 r.2.cell.val); simpa using this
    clear r0 r1 r2 r3 r4 r5
    obtain ⟨r0, r1, r2, r3, r4, r5⟩ := str6 HSf
    clear hW3 HSf
    exact bodyPost_ret (v := .tuple #[.slice A' n' c', .agg #[.int .i64 r.2.err, .int .i64 r.2.cell.kind, .slice A2 n2 c2, .int .i64 r.2.cell.lo, .int .i64 r.2.cell.hi, .int .i64 r.2.cell.val]]) (by simp [results, Tryz.results41, go_sem, *]) rfl ⟨A', n', c', A2, n2, c2, rfl, (HO2.out.grownU PairE_byt HS1.out rfl hgr (by intro a e; have := HO2.out.ge a e; omega)).elems, Bytes.more (Bytes.grown HY2.out (Nat.le_refl _) HS1.out rfl hgr) hgr.size, below_grownO (HB_0.out.trans (HB2.out.mono (by omega))) hgr (by omega) (by intro j hj; cases hj; omega)⟩
end Go.Proofs.YtpklclnehlgcpaaGreat.ModelW
end
section
namespace Go.Proofs.YtpklclnehlgcpaaGreat.ModelW
open Go.RowKit
set_option linter.unusedVariables false
/-- the call hands back a cell, and whether there is one -/
def GivesFind (w : World) (r : Option Cell) (e : Ending) (w' : World) : Prop :=
  ∃ A n c, e = .returned (.tuple #[.agg #[.int .i64 (r.getD CellP.none).kind, .slice A n c, .int .i64 (r.getD CellP.none).lo, .int .i64 (r.getD CellP.none).hi, .int .i64 (r.getD CellP.none).val], .bool r.isSome]) ∧ Bytes w' w'.heap.size A n c (r.getD CellP.none).data ∧ Below w.heap.size w w'
theorem find_at {l : List Pair} {k : ByteArray} {i : Nat} {p : Pair} (hp : l[i]? = some p) (hk : p.key = k) (h : ∀ (j : Nat) q, j < i → l[j]? = some q → ¬ q.key = k) : ModelP.find l k = some p.cell := by
  induction l generalizing i with
  | nil => simp at hp
  | cons q l ih =>
    unfold ModelP.find
    cases i with
    | zero => simp at hp; subst hp; rw [if_pos hk]
    | succ i =>
      rw [if_neg (h 0 q (by omega) rfl)]
      exact ih (by simpa using hp) (fun j r hj hr => h (j + 1) r (by omega) (by simpa using hr))
theorem find_no {l : List Pair} {k : ByteArray} (h : ∀ (j : Nat) q, l[j]? = some q → ¬ q.key = k) : ModelP.find l k = none := by
  induction l with
  | nil => rfl
  | cons q l ih =>
    unfold ModelP.find
    rw [if_neg (h 0 q rfl)]
    exact ih (fun j r hr => h (j + 1) r (by simpa using hr))
set_option maxRecDepth 100000 in
set_option maxHeartbeats 1000000 in
theorem Find_any (A : Option Addr) (n c B : Nat) (l : List Pair) (key : ByteArray) (w : World) (h : Pairs w B A n c l) (hB : B ≤ w.heap.size) (hn : n ≤ 100000) (hd : ∀ p ∈ l, p.cell.data.length ≤ 100000) :
    Calls Tryz.prog 43 #[.slice A n c, .string key] w (GivesFind w (ModelP.find l key)) := by
  have H := Lib.hid h
  have HL := Lib.hid h.len
  have HD := Lib.hid hd
  clear h hd
  go_enter Tryz.func43, Tryz.ntmps43
  go_wp2
  generalize hW0 : w.alloc (.cells #[.int .i64 0, .slice none 0 0, .int .i64 0, .int .i64 0, .int .i64 0] 25) = W0
  have HS0 : Hid (Str W0 w.heap.size #[.int .i64 0, .slice none 0 0, .int .i64 0, .int .i64 0, .int .i64 0]) := Lib.hid (by rw [← hW0]; exact Str.new w _ _)
  have HB0 : Hid (Below w.heap.size w W0) := Lib.hid (by rw [← hW0]; exact balloc (bsame w) _)
  clear hW0
  have hl0 := HS0.out.lt
  go_loopw [10] (fun i wr => ∃ k : Nat, k ≤ n ∧ i = .int .i64 (k : Int) ∧ Hid (Below W0.heap.size W0 wr ∧ ∀ (j : Nat) q, j < k → l[j]? = some q → ¬ q.key = key)) (fun i _ => n - (intOf i).toNat)
  case atStart => exact ⟨0, Nat.zero_le _, rfl, Lib.hid ⟨bsame W0, fun j q hj => absurd hj (by omega)⟩⟩
  case round =>
    obtain ⟨k, hk, rfl, HK⟩ := hrel
    have hsz := HK.out.1.size
    have HBw := Lib.hid (bstep HB0.out HK.out.1)
    have hszw := HBw.out.size
    by_cases hlt : k < n
    · obtain ⟨b, o, p, Ap, np, cp, rfl, hbB, hp, hby, -, -, -, -, -, c0, c1, c2, c3, c4, c5⟩ := pair_at (H.out.below (HBw.out.mono hB)) hlt
      have HP := Lib.hid hp
      have hnp : np ≤ 100000 := by have := HD.out p (List.mem_of_getElem? hp); rw [hby.len] at this; exact this
      clear hp
      have HY := Lib.hid (hby.more (show B ≤ wr.heap.size by omega))
      clear hby
      obtain ⟨pk, pkd, pda, plo, phi, pva⟩ := p
      dsimp only at *
      have hbw : b < wr.heap.size := by omega
      by_cases he : (pk.toList == key.toList) = true
      · have HE := Lib.hid (find_at HP.out (key_inj (by simpa using he)) HK.out.2)
        have HS1 := Lib.hid (HS0.out.next HK.out.1)
        obtain ⟨f0, f1, f2, f3, f4⟩ := str5 HS1.out
        have hff := fun j => HS1.out.frozen j
        have hfl := HS1.out.lt
        dsimp only at HE
        go_wp2_with fail
        generalize hW1 : wr.alloc (.cells #[.string pk, .int .i64 pkd, .slice Ap np cp, .int .i64 plo, .int .i64 phi, .int .i64 pva] 85) = W1
        have HS2 : Hid (Str W1 w.heap.size #[.int .i64 0, .slice none 0 0, .int .i64 0, .int .i64 0, .int .i64 0]) := Lib.hid (by rw [← hW1]; exact HS1.out.alloc _)
        have hba : Below wr.heap.size wr W1 := by rw [← hW1]; exact balloc (bsame _) _
        have hba2 := hba.size
        clear hW1
        refine (copyCell_any [] Ap np cp wr.heap.size pkd pda plo phi pva _ (by intro b hb; cases hb) (HY.out.below hba) hba.size hnp).mono ?_
        rintro e W2 ⟨A1, n1, c1', rfl, hy1, hb1⟩
        have HY1 : Hid (Bytes W2 W2.heap.size A1 n1 c1' pda) := Lib.hid hy1.bytes
        have HS3 := Lib.hid (HS2.out.next hb1)
        have HB2 := Lib.hid (bstep HBw.out (bstep hba hb1))
        have hsz2 := HB2.out.size
        clear hba hb1 f0 f1 f2 f3 f4 hff hfl HS1 HS2 hy1
        obtain ⟨f0, f1, f2, f3, f4⟩ := str5 HS3.out
        have hff := fun j => HS3.out.frozen j
        have hfl := HS3.out.lt
        go_wp2_with fail
        generalize hW3 : (((((W2).setCell ⟨w.heap.size, 0, none⟩ (.int .i64 pkd)).setCell ⟨w.heap.size, 1, none⟩ (.slice A1 n1 c1')).setCell ⟨w.heap.size, 2, none⟩ (.int .i64 plo)).setCell ⟨w.heap.size, 3, none⟩ (.int .i64 phi)).setCell ⟨w.heap.size, 4, none⟩ (.int .i64 pva) = W3
        have hgr : W2.grownBy W3 (some w.heap.size) := by rw [← hW3]; exact grown_set (grown_set (grown_set (grown_set (grown_set (grown_refl W2 w.heap.size) 0 (.int .i64 pkd)) 1 (.slice A1 n1 c1')) 2 (.int .i64 plo)) 3 (.int .i64 phi)) 4 (.int .i64 pva)
        have HSf : Str W3 w.heap.size #[.int .i64 pkd, .slice A1 n1 c1', .int .i64 plo, .int .i64 phi, .int .i64 pva] := by rw [← hW3]; have := (((((HS3.out).set 0 (.int .i64 pkd)).set 1 (.slice A1 n1 c1')).set 2 (.int .i64 plo)).set 3 (.int .i64 phi)).set 4 (.int .i64 pva); simpa using this
        clear f0 f1 f2 f3 f4 hW3
        obtain ⟨f0, f1, f2, f3, f4⟩ := str5 HSf
        clear HSf
        exact bodyPost_ret (v := .tuple #[.agg #[.int .i64 pkd, .slice A1 n1 c1', .int .i64 plo, .int .i64 phi, .int .i64 pva], .bool true]) (by simp [results, Tryz.results43, go_sem, *]) rfl ⟨A1, n1, c1', by rw [HE.out]; rfl, by rw [HE.out]; exact Bytes.more (Bytes.grown HY1.out (Nat.le_refl _) HS3.out rfl hgr) hgr.size, below_grownO HB2.out hgr (by omega) (by intro j hj; cases hj; omega)⟩
      · have he : (pk.toList == key.toList) = false := by simpa using he
        have HNE : Hid (¬ pk = key) := Lib.hid (by rintro rfl; simp at he)
        go_wp2
        go_roundw
        case rel => exact ⟨k + 1, by omega, by go_num, Lib.hid ⟨bstep HK.out.1 (balloc (bsame wr) _), fun j q hj hq => by
          rcases Nat.lt_or_ge j k with h3 | h3
          · exact HK.out.2 j q h3 hq
          · have : j = k := by omega
            subst this
            rw [HP.out] at hq
            cases hq
            exact HNE.out⟩⟩
        case measure => simp [intOf]; omega
    · have hk' : k = n := by omega
      subst hk'
      have HE := Lib.hid (find_no (l := l) (k := key) (fun j q hq => HK.out.2 j q (by rw [← HL.out]; exact (List.getElem?_eq_some_iff.1 hq).1) hq))
      have HS1 := Lib.hid (HS0.out.next HK.out.1)
      obtain ⟨f0, f1, f2, f3, f4⟩ := str5 HS1.out
      have hff := fun j => HS1.out.frozen j
      have hfl := HS1.out.lt
      go_wp2_with fail
      generalize hW3 : ((((wr.setCell ⟨w.heap.size, 0, none⟩ (.int .i64 0)).setCell ⟨w.heap.size, 1, none⟩ (.slice none 0 0)).setCell ⟨w.heap.size, 2, none⟩ (.int .i64 0)).setCell ⟨w.heap.size, 3, none⟩ (.int .i64 0)).setCell ⟨w.heap.size, 4, none⟩ (.int .i64 0) = W3
      have hgr : wr.grownBy W3 (some w.heap.size) := by rw [← hW3]; exact grown_set (grown_set (grown_set (grown_set (grown_set (grown_refl wr _) 0 _) 1 _) 2 _) 3 _) 4 _
      have HSf : Str W3 w.heap.size #[.int .i64 0, .slice none 0 0, .int .i64 0, .int .i64 0, .int .i64 0] := by rw [← hW3]; have := ((((HS1.out.set 0 (.int .i64 0)).set 1 (.slice none 0 0)).set 2 (.int .i64 0)).set 3 (.int .i64 0)).set 4 (.int .i64 0); simpa using this
      clear f0 f1 f2 f3 f4 hW3
      obtain ⟨f0, f1, f2, f3, f4⟩ := str5 HSf
      clear HSf
      exact bodyPost_ret (v := .tuple #[.agg #[.int .i64 0, .slice none 0 0, .int .i64 0, .int .i64 0, .int .i64 0], .bool false]) (by simp [results, Tryz.results43, go_sem, *]) rfl ⟨none, 0, 0, by rw [HE.out]; rfl, by rw [HE.out]; exact Bytes.none_ _ _, below_grownO HBw.out hgr (by omega) (by intro j hj; cases hj; omega)⟩
end Go.Proofs.YtpklclnehlgcpaaGreat.ModelW
end
section
namespace Go.Proofs.YtpklclnehlgcpaaGreat
open Go.RowKit
set_option linter.unusedVariables false
/-- a pair typed out -/
theorem pairOne {w : World} {b : Nat} {p : Pair} {vs : List Value} (hs : Str w b vs.toArray) (hp : PairE.rel w w.heap.size vs p) : Pairs w w.heap.size (some ⟨b, 0, none⟩) 1 1 [p] := by
  refine ⟨[vs], ⟨hp, trivial⟩, rfl, Nat.le_refl _, by unfold maxLen; omega, fun _ => ⟨b, 0, rfl, hs.lt, fun j v hv => ?_⟩⟩
  rw [List.flatten_singleton] at hv
  rw [hs.cell, Nat.zero_add]
  simpa using hv
end Go.Proofs.YtpklclnehlgcpaaGreat
end
section
namespace Go.Proofs.YtpklclnehlgcpaaGreat.ModesP

end Go.Proofs.YtpklclnehlgcpaaGreat.ModesP
end
section
namespace Go.Proofs.YtpklclnehlgcpaaGreat
open Go.RowKit
set_option linter.unusedVariables false
namespace ModelP
end ModelP
end Go.Proofs.YtpklclnehlgcpaaGreat
end
section
namespace Go.Proofs.YtpklclnehlgcpaaGreat
open Go.RowKit
set_option linter.unusedVariables false
namespace ModelP
def app (s : List Pair) (k : ByteArray) : Option (Option Cell) → List Pair
  | none => s
  | some c => put s k c
theorem step_bad {s : List Pair} {a : OpX} (h : good a = false) : step s a = (s, ⟨1, CellP.none⟩) := by
  unfold step
  rw [if_pos h]
def add (x : OpX) : Int := if x.act = 4 then x.n else -x.n
end ModelP
end Go.Proofs.YtpklclnehlgcpaaGreat
end
section
namespace Go.Proofs.YtpklclnehlgcpaaGreat
open Go.RowKit
set_option linter.unusedVariables false
namespace PlanP
/-- the state that a slot tells -/
def state (now : Item) : List Pair := if now.state = 1 then [⟨now.key, now.cell⟩] else []
/-- what the slot is then, and what is told -/
def slot (x : OpX) (now : Item) : Item × Answer :=
  if (ModelP.step (state now) x).2.err ≠ 0 ∨ x.act = 0 then (now, (ModelP.step (state now) x).2)
  else if x.act = 3 then (⟨2, now.key, now.cell⟩, (ModelP.step (state now) x).2)
  else (⟨1, x.key, (ModelP.find (ModelP.step (state now) x).1 x.key).getD CellP.none⟩, (ModelP.step (state now) x).2)
theorem state_right {now : Item} (h : SlotP.right now = true) : ModelP.Right (state now) := by
  unfold state
  split
  · rename_i h1
    have h0 : now.state ≠ 0 := by omega
    unfold SlotP.right at h
    rw [if_neg h0] at h
    simp only [Bool.and_eq_true] at h
    exact ⟨fun p hp => by simp only [List.mem_singleton] at hp; subst hp; exact h.2, List.pairwise_singleton _ _⟩
  · exact ⟨fun p hp => (by cases hp), List.Pairwise.nil⟩
theorem state_len (now : Item) : (state now).length ≤ 1 := by unfold state; split <;> simp
end PlanP
end Go.Proofs.YtpklclnehlgcpaaGreat
end
section
namespace Go.Proofs.YtpklclnehlgcpaaGreat.CellW
open Go.RowKit

end Go.Proofs.YtpklclnehlgcpaaGreat.CellW
end
section
namespace Go.Proofs.YtpklclnehlgcpaaGreat
end Go.Proofs.YtpklclnehlgcpaaGreat
namespace Go.Proofs.YtpklclnehlgcpaaGreat.UndoW
open Go.RowKit

theorem eql_nil (w : World) (a : Option Addr) (l c : Nat) : (binOp .eql 23 (.slice a l c) (.slice none 0 0)).run Tryz.prog w = .ok (.bool a.isNone) w := Lib.run_eql_slice_nil w _ _ a l c 0 0 Tryz.underlying23
section
attribute [local go_sem ↓] app_fold
set_option maxRecDepth 100000 in
set_option maxHeartbeats 400000 in
theorem clone_any (A : Option Addr) (n c B : Nat) (l : List UInt8) (w : World) (h : Bytes w B A n c l) (hB : B ≤ w.heap.size) (hn : n ≤ 140737488355328) :
    Calls Tryz.prog 42 #[.slice A n c] w (GivesBytes w l) := by
  cases A with
  | none =>
    have h0 : n = 0 := by
      rcases Nat.eq_zero_or_pos n with h0 | h0
      · exact h0
      · obtain ⟨b, o, e, -⟩ := h.2.2.2 h0
        cases e
    have hl : l = [] := List.eq_nil_of_length_eq_zero (by rw [h.1, h0])
    subst hl
    subst h0
    clear h
    have heq := eql_nil w none 0 c
    go_enter Tryz.func42, Tryz.ntmps42
    go_wp2
    go_ret
    exact ⟨none, 0, 0, rfl, Bytes.none_ _ _, bsame w⟩
  | some a =>
    obtain ⟨A3, c3, w3, happ3, hO3, hb3⟩ := (Own.empty w w.heap.size (Nat.le_refl _)).app (h.alloc hB _) (by omega) (by simp)
    simp only [Nat.zero_add, List.nil_append] at happ3 hO3
    have HB : Hid (Below w.heap.size w w3) := Lib.hid (((Below.refl _ w).alloc (Nat.le_refl _) _).trans hb3)
    have HO := Lib.hid hO3
    clear h hO3 hb3
    have heq := eql_nil w (some a) n c
    go_enter Tryz.func42, Tryz.ntmps42
    go_wp2
    go_ret
    exact ⟨A3, n, c3, rfl, HO.out.bytes, HB.out⟩
end
end Go.Proofs.YtpklclnehlgcpaaGreat.UndoW
end
