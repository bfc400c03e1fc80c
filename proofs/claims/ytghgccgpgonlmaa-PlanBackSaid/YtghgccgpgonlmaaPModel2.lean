/-
  Plain words on states: which may be, what an operation keeps, what counts of it. No program in sight.
-/
import Derived.Test.YtghgccgpgonlmaaPModel
namespace Go.Proofs.Ytghgccgpgonlmaa.ModelP
/-- a pair that may be -/
def okP (p : Pair) : Prop := KeyP.right p.key.data.toList = true ∧ CellP.right p.cell = true
/-- a state that may be -/
def Right (s : List Pair) : Prop := (∀ p ∈ s, okP p) ∧ Rises s
theorem rightB_iff : ∀ s : List Pair, rightB s = true ↔ Right s
  | [] => by simp [rightB, Right, Rises]
  | [p] => by simp [rightB, Right, Rises, okP]
  | p :: q :: s => by
    have ih := rightB_iff (q :: s)
    unfold rightB
    simp only [Bool.and_eq_true, decide_eq_true_eq, ih]
    constructor
    · rintro ⟨h1, h2, h3, h4, h5⟩
      refine ⟨fun r hr => ?_, List.pairwise_cons.2 ⟨fun r hr => ?_, h5⟩⟩
      · rcases List.mem_cons.1 hr with rfl | hr
        · exact ⟨h1, h2⟩
        · exact h4 r hr
      · rcases List.mem_cons.1 hr with rfl | hr
        · exact h3
        · exact lt_trans h3 ((List.pairwise_cons.1 h5).1 r hr)
    · rintro ⟨h1, h2⟩
      obtain ⟨h3, h4⟩ := List.pairwise_cons.1 h2
      exact ⟨(h1 p (by simp)).1, (h1 p (by simp)).2, h3 q (by simp), fun r hr => h1 r (by simp [hr]), h4⟩
/-- by neighbours -/
theorem rises_of : ∀ s : List Pair, (∀ (i : Nat) p q, s[i]? = some p → s[i + 1]? = some q → lt p.key q.key) → Rises s
  | [], _ => List.Pairwise.nil
  | [p], _ => List.pairwise_singleton _ _
  | p :: q :: s, h => by
    have ih := rises_of (q :: s) fun i a b ha hb => h (i + 1) a b (by simpa using ha) (by simpa using hb)
    have hpq := h 0 p q rfl rfl
    refine List.pairwise_cons.2 ⟨fun r hr => ?_, ih⟩
    rcases List.mem_cons.1 hr with rfl | hr
    · exact hpq
    · exact lt_trans hpq ((List.pairwise_cons.1 ih).1 r hr)
theorem right_of {s : List Pair} (h1 : ∀ (i : Nat) p, s[i]? = some p → okP p) (h2 : ∀ (i : Nat) p q, s[i]? = some p → s[i + 1]? = some q → lt p.key q.key) : rightB s = true :=
  (rightB_iff s).2 ⟨fun p hp => by obtain ⟨i, hi, rfl⟩ := List.getElem_of_mem hp; exact h1 i _ (List.getElem?_eq_getElem hi), rises_of s h2⟩
theorem wrong_at {s : List Pair} {i : Nat} {p : Pair} (h : s[i]? = some p) (hn : ¬ okP p) : rightB s = false := by
  cases hb : rightB s with
  | false => rfl
  | true => exact absurd (((rightB_iff s).1 hb).1 p (List.mem_of_getElem? h)) hn
theorem wrong_to {s : List Pair} {i : Nat} {p q : Pair} (h : s[i]? = some p) (h2 : s[i + 1]? = some q) (hn : ¬ lt p.key q.key) : rightB s = false := by
  cases hb : rightB s with
  | false => rfl
  | true =>
    obtain ⟨hi, rfl⟩ := List.getElem?_eq_some_iff.1 h
    obtain ⟨hj, rfl⟩ := List.getElem?_eq_some_iff.1 h2
    exact absurd (List.pairwise_iff_getElem.1 ((rightB_iff s).1 hb).2 i (i + 1) hi hj (by omega)) hn
theorem get_mem {α : Type} {s : List α} {i : Nat} {p : α} (h : s[i]? = some p) : p ∈ s := List.mem_of_getElem? h
/-- what stands ahead is below, what stands behind is above -/
theorem split_at (s : List Pair) (k : ByteArray) (hr : Rises s) : (∀ p ∈ s.take (at_ s k), lt p.key k) ∧ ∀ p ∈ (if (s[at_ s k]?).map (·.key) = some k then s.drop (at_ s k + 1) else s.drop (at_ s k)), lt k p.key := by
  refine ⟨fun p hp => ?_, fun p hp => ?_⟩
  · obtain ⟨i, hi, rfl⟩ := List.getElem_of_mem hp
    have hi' : i < at_ s k := by simp at hi; omega
    exact at_lt k s i _ hi' (by rw [List.getElem_take]; exact List.getElem?_eq_getElem _)
  · split at hp
    · rename_i he
      obtain ⟨i, hi, rfl⟩ := List.getElem_of_mem hp
      obtain ⟨q, hq, hk⟩ := Option.map_eq_some_iff.1 he
      obtain ⟨hl, rfl⟩ := List.getElem?_eq_some_iff.1 hq
      rw [List.getElem_drop]
      have := List.pairwise_iff_getElem.1 hr (at_ s k) (at_ s k + 1 + i) hl (by simp at hi; omega) (by omega)
      rw [hk] at this
      exact this
    · rename_i he
      obtain ⟨i, hi, rfl⟩ := List.getElem_of_mem hp
      rw [List.getElem_drop]
      have hl : at_ s k < s.length := by simp at hi; omega
      have hge := at_ge k s _ (List.getElem?_eq_getElem hl)
      have hne : ¬ s[at_ s k].key = k := fun e => he (by rw [List.getElem?_eq_getElem hl]; simp [e])
      have hgt : lt k s[at_ s k].key := by
        rcases List.le_iff_lt_or_eq.1 (List.not_lt.1 hge) with h1 | h1
        · exact h1
        · exact absurd (key_eq h1).symm hne
      rcases Nat.eq_zero_or_pos i with h0 | h0
      · subst h0; exact hgt
      · exact lt_trans hgt (List.pairwise_iff_getElem.1 hr (at_ s k) (at_ s k + i) hl (by simp at hi; omega) (by omega))
theorem mem_put {s : List Pair} {k : ByteArray} {c : Option Cell} {p : Pair} (h : p ∈ put s k c) : p ∈ s ∨ ∃ x, c = some x ∧ p = ⟨k, x⟩ := by
  unfold put at h
  rcases List.mem_append.1 h with h | h
  · exact .inl (List.mem_of_mem_take h)
  · rcases List.mem_append.1 h with h | h
    · cases c with
      | none => simp at h
      | some x => exact .inr ⟨x, rfl, by simpa using h⟩
    · left
      split at h
      · exact List.mem_of_mem_drop h
      · exact List.mem_of_mem_drop h
theorem put_rises (s : List Pair) (k : ByteArray) (c : Option Cell) (hr : Rises s) : Rises (put s k c) := by
  obtain ⟨h1, h2⟩ := split_at s k hr
  unfold put
  have hd : Rises (if (s[at_ s k]?).map (·.key) = some k then s.drop (at_ s k + 1) else s.drop (at_ s k)) := by
    split
    · exact hr.sublist (List.drop_sublist _ _)
    · exact hr.sublist (List.drop_sublist _ _)
  generalize hD : (if (s[at_ s k]?).map (·.key) = some k then s.drop (at_ s k + 1) else s.drop (at_ s k)) = D at h2 hd
  have hdd : ∀ p ∈ (match c with | some c => [(⟨k, c⟩ : Pair)] | none => []) ++ D, ∀ q ∈ s.take (at_ s k), lt q.key p.key := by
    intro p hp q hq
    rcases List.mem_append.1 hp with hp | hp
    · cases c with
      | none => simp at hp
      | some x =>
        have : p = ⟨k, x⟩ := by simpa using hp
        subst this
        exact h1 q hq
    · exact lt_trans (h1 q hq) (h2 p hp)
  refine List.pairwise_append.2 ⟨hr.sublist (List.take_sublist _ _), ?_, fun q hq p hp => hdd p hp q hq⟩
  cases c with
  | none => exact hd
  | some x => exact List.pairwise_cons.2 ⟨fun p hp => h2 p hp, hd⟩
theorem rule_right {t : Option Cell} {x : OpX} (hg : good x = true) (ht : ∀ c, t = some c → CellP.right c = true) : ∀ c, (rule t x).2.1 = some c → CellP.right c = true := by
  intro c hc
  unfold good at hg
  simp only [Bool.and_eq_true, decide_eq_true_eq] at hg
  obtain ⟨⟨ha0, ha5⟩, -, hg⟩ := hg
  unfold rule at hc
  split at hc
  · cases t with
    | none => cases hc
    | some d => cases hc; exact ht _ rfl
  · split at hc
    · rename_i h1
      split at hc
      · cases hc
      · cases hc
        rw [if_pos h1] at hg
        simp [CellP.right]
        simpa using hg
    · split at hc
      · rename_i h0 h1 h2
        cases t with
        | some d => cases hc
        | none =>
          cases hc
          rw [if_neg h1, if_pos h2] at hg
          simp [CellP.right]
          simpa using hg
      · split at hc
        · cases t <;> cases hc
        · cases t with
          | none => cases hc
          | some d =>
            dsimp only at hc
            generalize (if x.act = 4 then d.val + x.n else d.val - x.n) = v at hc
            split at hc
            · cases hc
            · split at hc
              · cases hc
              · rename_i hn
                simp only [Option.some.injEq] at hc
                subst hc
                simp [CellP.right]
                omega
theorem find_right (k : ByteArray) {s : List Pair} (h : Right s) : ∀ c, find s k = some c → CellP.right c = true := by
  intro c hc
  rw [find_eq k s h.2] at hc
  split at hc
  · obtain ⟨p, hp, rfl⟩ := Option.map_eq_some_iff.1 hc
    exact (h.1 p (List.mem_of_getElem? hp)).2
  · cases hc
theorem good_key {x : OpX} (hg : good x = true) : KeyP.right x.key.data.toList = true := by
  unfold good at hg
  simp only [Bool.and_eq_true] at hg
  exact hg.2.1
theorem step_right {s : List Pair} (h : Right s) (x : OpX) : Right (step s x).1 := by
  unfold step
  split
  · exact h
  · rename_i hg
    have hg : good x = true := by simpa using hg
    split
    · exact h
    · refine ⟨fun p hp => ?_, put_rises s _ _ h.2⟩
      rcases mem_put hp with hp | ⟨c, hc, rfl⟩
      · exact h.1 p hp
      · exact ⟨good_key hg, rule_right hg (find_right _ h) c hc⟩
theorem same_self (s : List Pair) : sameAll s s = true := by
  unfold sameAll
  simp only [beq_self_eq_true, Bool.true_and, List.all_eq_true]
  intro p hp
  obtain ⟨i, hi, rfl⟩ := List.getElem_of_mem hp
  simp [CellP.same]
theorem ans_self (a : Answer) : sameAns a a = true := by simp [sameAns, CellP.same]
theorem good_plain (x : OpX) : good (plain x) = good x := by
  unfold good plain
  dsimp only
  by_cases h1 : x.act = 1
  · simp [h1]
  · by_cases h2 : x.act = 2
    · simp [h2]
    · by_cases h4 : x.act = 4
      · simp [h4]
      · by_cases h5 : x.act = 5
        · simp [h5]
        · simp only [h1, h2, h4, h5, if_false, or_false]
          by_cases h : x.act < 4
          · simp [h]
          · have : ¬ (0 ≤ x.act ∧ x.act ≤ 5) := by omega
            simp [this]
theorem rule_plain (t : Option Cell) (x : OpX) (hg : good x = true) : rule t (plain x) = rule t x := by
  unfold good at hg
  simp only [Bool.and_eq_true, decide_eq_true_eq] at hg
  obtain ⟨⟨ha0, ha5⟩, -, -⟩ := hg
  have hc : x.act = 0 ∨ x.act = 1 ∨ x.act = 2 ∨ x.act = 3 ∨ x.act = 4 ∨ x.act = 5 := by omega
  unfold rule plain
  rcases hc with h | h | h | h | h | h <;> simp [h]
theorem step_plain (s : List Pair) (x : OpX) : step s (plain x) = step s x := by
  unfold step
  rw [good_plain]
  by_cases h : good x = false
  · simp [h]
  · have hg : good x = true := by simpa using h
    rw [rule_plain _ x hg]
    rfl
/-- what stands there put there again -/
theorem put_same (s : List Pair) (k : ByteArray) (hr : Rises s) (c : Cell) (h : find s k = some c) : put s k (some c) = s := by
  rw [find_eq k s hr] at h
  split at h
  · rename_i he
    obtain ⟨p, hp, rfl⟩ := Option.map_eq_some_iff.1 h
    rw [hp] at he
    have hk : p.key = k := by simpa using he
    unfold put
    rw [hp, if_pos he]
    obtain ⟨hl, hpe⟩ := List.getElem?_eq_some_iff.1 hp
    have : (⟨k, p.cell⟩ : Pair) = s[at_ s k] := by rw [hpe, ← hk]
    dsimp only
    rw [this]
    simp
  · cases h
theorem put_set (s : List Pair) (k : ByteArray) (c : Cell) (h : (s[at_ s k]?).map (·.key) = some k) : put s k (some c) = s.set (at_ s k) ⟨k, c⟩ := by
  obtain ⟨p, hp, hk⟩ := Option.map_eq_some_iff.1 h
  have hl := (List.getElem?_eq_some_iff.1 hp).1
  unfold put
  rw [if_pos h, List.set_eq_take_append_cons_drop, if_pos hl]
  rfl
theorem put_ins (s : List Pair) (k : ByteArray) (c : Cell) (h : ¬ (s[at_ s k]?).map (·.key) = some k) : put s k (some c) = s.take (at_ s k) ++ ⟨k, c⟩ :: s.drop (at_ s k) := by
  unfold put
  rw [if_neg h]
  rfl
theorem put_del (s : List Pair) (k : ByteArray) (h : (s[at_ s k]?).map (·.key) = some k) : put s k none = s.eraseIdx (at_ s k) := by
  unfold put
  rw [if_pos h, List.eraseIdx_eq_take_drop_succ]
  rfl
/-- how long it is then -/
theorem put_length (s : List Pair) (k : ByteArray) (c : Option Cell) : (put s k c).length ≤ s.length + 1 := by
  have := at_le k s
  unfold put
  split <;> split <;> simp <;> omega
theorem step_length (s : List Pair) (x : OpX) : (step s x).1.length ≤ s.length + 1 := by
  unfold step
  split
  · exact Nat.le_succ _
  · split
    · exact Nat.le_succ _
    · exact put_length _ _ _
end Go.Proofs.Ytghgccgpgonlmaa.ModelP
