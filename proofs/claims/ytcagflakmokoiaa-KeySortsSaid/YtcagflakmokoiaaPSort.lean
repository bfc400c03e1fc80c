/-
  Texts in order, each once: what slices.Sort and slices.Compact give, and what insertion gives. No program in sight.
-/
import Derived.Lib.SlicesCompact
namespace Go.Proofs.Ytcagflakmokoiaa.SortP
open Go.Lib
abbrev T := List UInt8
theorem lt_of (a b : T) (h : a ≤ b) (hn : a ≠ b) : a < b := by
  rcases Decidable.em (a < b) with h1 | h1
  · exact h1
  · exact absurd (List.le_antisymm h (List.not_lt.1 h1)) hn
theorem lt_ne {a b : T} (h : a < b) : a ≠ b := by
  rintro rfl; exact List.lt_irrefl _ h
theorem lt_tr {a b c : T} (h : a < b) (h' : b < c) : a < c := List.lt_trans h h'
/-- strictly rising lists of the same members are the same -/
theorem ext {l l' : List T} (h : l.Pairwise (· < ·)) (h' : l'.Pairwise (· < ·)) (hm : ∀ x, x ∈ l ↔ x ∈ l') : l = l' := by
  have hp : l.Perm l' := (List.perm_ext_iff_of_nodup (h.imp lt_ne) (h'.imp lt_ne)).2 hm
  exact List.Perm.eq_of_pairwise (le := (· < ·)) (fun a b _ _ h1 h2 => absurd (lt_tr h1 h2) (List.lt_irrefl _)) h h' hp
theorem upTo (d : Array T) (hs : ∀ i j, i ≤ j → j < d.size → d[i]! ≤ d[j]!) : ∀ m, m ≤ d.size → (compactUpTo d m).Pairwise (· < ·) ∧ ∀ x, x ∈ compactUpTo d m ↔ ∃ j, j < m ∧ x = d[j]!
  | 0, _ => by simp [compactUpTo]
  | m + 1, hm => by
    obtain ⟨h1, h2⟩ := upTo d hs m (by omega)
    rw [compactUpTo_succ]
    by_cases hk : keeps d m = true
    · rw [if_pos hk]
      refine ⟨List.pairwise_append.2 ⟨h1, by simp, fun a ha b hb => ?_⟩, fun x => ?_⟩
      · simp only [List.mem_singleton] at hb
        subst hb
        obtain ⟨j, hj, rfl⟩ := (h2 a).1 ha
        have hne : d[m - 1]! ≠ d[m]! := by
          intro e
          simp [keeps] at hk
          rcases hk with hk | hk
          · omega
          · exact hk e.symm
        have ha := lt_of _ _ (hs (m - 1) m (by omega) (by omega)) hne
        have hb := hs j (m - 1) (by omega) (by omega)
        exact List.lt_of_le_of_lt hb ha
      · rw [List.mem_append, h2, List.mem_singleton]
        constructor
        · rintro (⟨j, hj, rfl⟩ | rfl)
          · exact ⟨j, by omega, rfl⟩
          · exact ⟨m, by omega, rfl⟩
        · rintro ⟨j, hj, rfl⟩
          by_cases e : j = m
          · exact Or.inr (by rw [e])
          · exact Or.inl ⟨j, by omega, rfl⟩
    · rw [if_neg hk, List.append_nil]
      refine ⟨h1, fun x => ?_⟩
      rw [h2]
      constructor
      · rintro ⟨j, hj, rfl⟩
        exact ⟨j, by omega, rfl⟩
      · rintro ⟨j, hj, rfl⟩
        by_cases e : j = m
        · subst e
          simp [keeps] at hk
          exact ⟨j - 1, by omega, hk.2⟩
        · exact ⟨j, by omega, rfl⟩
/-- what Sort and Compact give -/
def sort (l : List T) : List T := compact (l.mergeSort fun x y => decide (x ≤ y))
theorem sort_spec (l : List T) : (sort l).Pairwise (· < ·) ∧ ∀ x, x ∈ sort l ↔ x ∈ l := by
  have tr : ∀ a b c : T, decide (a ≤ b) = true → decide (b ≤ c) = true → decide (a ≤ c) = true := fun a b c h1 h2 => by simp only [decide_eq_true_eq] at *; exact List.le_trans h1 h2
  have to : ∀ a b : T, (decide (a ≤ b) || decide (b ≤ a)) = true := fun a b => by simp only [Bool.or_eq_true, decide_eq_true_eq]; exact List.le_total a b
  have hp := List.pairwise_mergeSort tr to l
  have hm : ∀ x, x ∈ l.mergeSort (fun x y => decide (x ≤ y)) ↔ x ∈ l := fun x => List.mem_mergeSort
  unfold sort
  generalize l.mergeSort (fun x y => decide (x ≤ y)) = m at hp hm
  unfold compact
  have hs : ∀ i j, i ≤ j → j < m.toArray.size → m.toArray[i]! ≤ m.toArray[j]! := by
    intro i j hij hj
    have hj' : j < m.length := by simpa using hj
    rw [getElem!_pos m.toArray i (by simp; omega), getElem!_pos m.toArray j (by simp; omega)]
    simp only [List.getElem_toArray]
    by_cases e : i = j
    · subst e; exact List.le_refl _
    · have := List.pairwise_iff_getElem.1 hp i j (by omega) hj' (by omega)
      simpa using this
  obtain ⟨h1, h2⟩ := upTo m.toArray hs m.length (by simp)
  refine ⟨h1, fun x => ?_⟩
  rw [h2, ← hm x, List.mem_iff_getElem]
  constructor
  · rintro ⟨j, hj, rfl⟩
    exact ⟨j, hj, by rw [getElem!_pos m.toArray j (by simp; omega)]; simp⟩
  · rintro ⟨j, hj, rfl⟩
    exact ⟨j, hj, by rw [getElem!_pos m.toArray j (by simp; omega)]; simp⟩
/-- sorted again: the same -/
theorem sort_sort (l : List T) : sort (sort l) = sort l := ext (sort_spec _).1 (sort_spec _).1 (sort_spec (sort l)).2
/-- how many lie ahead of x -/
def place (x : T) : List T → Nat
  | [] => 0
  | y :: l => if y < x then place x l + 1 else 0
/-- one text put in -/
def ins (out : List T) (x : T) : List T := if out[place x out]? = some x then out else out.take (place x out) ++ x :: out.drop (place x out)
theorem ins_spec (x : T) : ∀ out : List T, out.Pairwise (· < ·) → (ins out x).Pairwise (· < ·) ∧ ∀ y, y ∈ ins out x ↔ y = x ∨ y ∈ out
  | [], _ => by simp [ins, place]
  | z :: l, h => by
    obtain ⟨hz, hl⟩ := List.pairwise_cons.1 h
    by_cases hzx : z < x
    · have e : ins (z :: l) x = z :: ins l x := by
        simp only [ins, place, if_pos hzx, List.getElem?_cons_succ, List.take_succ_cons, List.drop_succ_cons]
        split <;> rfl
      obtain ⟨h1, h2⟩ := ins_spec x l hl
      rw [e]
      refine ⟨List.pairwise_cons.2 ⟨fun y hy => ?_, h1⟩, fun y => ?_⟩
      · rcases (h2 y).1 hy with rfl | hy
        · exact hzx
        · exact hz y hy
      · rw [List.mem_cons, h2, List.mem_cons]
        constructor
        · rintro (h | h | h)
          · exact Or.inr (Or.inl h)
          · exact Or.inl h
          · exact Or.inr (Or.inr h)
        · rintro (h | h | h)
          · exact Or.inr (Or.inl h)
          · exact Or.inl h
          · exact Or.inr (Or.inr h)
    · by_cases e : z = x
      · subst e
        have e : ins (z :: l) z = z :: l := by simp [ins, place, List.lt_irrefl]
        rw [e]
        exact ⟨h, fun y => by simp⟩
      · have e' : ins (z :: l) x = x :: z :: l := by simp [ins, place, hzx, e]
        have hxz : x < z := lt_of _ _ (List.not_lt.1 hzx) (fun h => e h.symm)
        rw [e']
        refine ⟨List.pairwise_cons.2 ⟨fun y hy => ?_, h⟩, fun y => by simp⟩
        rcases List.mem_cons.1 hy with rfl | hy
        · exact hxz
        · exact lt_tr hxz (hz y hy)
def fold (l : List T) : List T := l.foldl ins []
theorem fold_spec (l : List T) : ∀ out : List T, out.Pairwise (· < ·) → (l.foldl ins out).Pairwise (· < ·) ∧ ∀ y, y ∈ l.foldl ins out ↔ y ∈ l ∨ y ∈ out := by
  induction l with
  | nil => intro out h; exact ⟨h, fun y => by simp⟩
  | cons x l ih =>
    intro out h
    obtain ⟨h1, h2⟩ := ins_spec x out h
    obtain ⟨h3, h4⟩ := ih _ h1
    refine ⟨h3, fun y => ?_⟩
    rw [List.foldl_cons, h4, h2, List.mem_cons]
    constructor
    · rintro (h | h | h)
      · exact Or.inl (Or.inr h)
      · exact Or.inl (Or.inl h)
      · exact Or.inr h
    · rintro ((h | h) | h)
      · exact Or.inr (Or.inl h)
      · exact Or.inl h
      · exact Or.inr (Or.inr h)
theorem sort_eq_fold (l : List T) : sort l = fold l := by
  obtain ⟨h1, h2⟩ := fold_spec l [] List.Pairwise.nil
  exact ext (sort_spec l).1 h1 fun x => by rw [(sort_spec l).2]; exact ((h2 x).trans (by simp)).symm
theorem place_le (x : T) : ∀ out : List T, place x out ≤ out.length
  | [] => Nat.le_refl _
  | y :: l => by
    unfold place
    split
    · have := place_le x l
      simp; omega
    · omega
/-- the place is where all ahead lie below x and the one there does not -/
theorem place_eq (x : T) : ∀ (out : List T) (k : Nat), (∀ j y, j < k → out[j]? = some y → y < x) → k ≤ out.length → (∀ y, out[k]? = some y → ¬ y < x) → place x out = k
  | [], k, _, hk, _ => by simp [place]; simp at hk; omega
  | y :: l, 0, _, _, h2 => by
    have := h2 y rfl
    simp [place, this]
  | y :: l, k + 1, h1, hk, h2 => by
    have hy := h1 0 y (by omega) rfl
    have := place_eq x l k (fun j z hj hz => h1 (j + 1) z (by omega) (by simpa using hz)) (by simpa using hk) (fun z hz => h2 z (by simpa using hz))
    simp [place, hy, this]
end Go.Proofs.Ytcagflakmokoiaa.SortP
