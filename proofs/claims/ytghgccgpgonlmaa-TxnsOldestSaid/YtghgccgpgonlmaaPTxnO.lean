/-
  Plain words on the statement TxnsOldest: of those that wrote and are under way, where the first record begins. No program in sight.
-/
import Derived.Test.YtghgccgpgonlmaaTxnOld
namespace Go.Proofs.Ytghgccgpgonlmaa.TxnP
open Go.RowKit Go.Maps
set_option linter.unusedVariables false
/-- what a list of firsts says of a number -/
def f (F : List Int) (id : Int) : Int := F.getD id.toNat 0
theorem f_set (F : List Int) (id x j : Int) (hl : F.length = 7) (h1 : 0 ≤ id) (h2 : id < 7) (h3 : 0 ≤ j) : f (F.set id.toNat x) j = if j = id then x else f F j := by
  unfold f
  rw [List.getD_eq_getElem?_getD, List.getD_eq_getElem?_getD, List.getElem?_set]
  by_cases h : j = id
  · subst h
    rw [if_pos rfl, if_pos (by omega), if_pos rfl]
    rfl
  · rw [if_neg (by omega), if_neg h]
/-- all up to k began, and nothing was noted -/
def Inv0 (L : List TxnX) (k : Int) : Prop := Rises L ∧ (∀ t ∈ L, 1 ≤ t.id ∧ t.id ≤ k ∧ t.last = 0 ∧ t.kept = 0) ∧ ∀ id, 1 ≤ id → id ≤ k → has L id = true
theorem has_put_iff {L : List TxnX} {t : TxnX} {k : Int} : has (put L t) k = true ↔ k = t.id ∨ has L k = true := by
  rw [has_iff, has_iff]
  constructor
  · rintro ⟨u, hu, rfl⟩
    rcases mem_put.1 hu with rfl | ⟨hu, _⟩
    · exact .inl rfl
    · exact .inr ⟨u, hu, rfl⟩
  · rintro (rfl | ⟨u, hu, rfl⟩)
    · exact ⟨t, mem_put.2 (.inl rfl), rfl⟩
    · by_cases h : u.id = t.id
      · exact ⟨t, mem_put.2 (.inl rfl), h.symm⟩
      · exact ⟨u, mem_put.2 (.inr ⟨hu, h⟩), rfl⟩
theorem inv0_nil : Inv0 [] 0 := ⟨List.Pairwise.nil, fun t h => (by cases h), fun id h1 h2 => by omega⟩
theorem inv0_step {L : List TxnX} {k : Int} (h : Inv0 L k) (hk : 0 ≤ k) : Inv0 (put L ⟨k + 1, 0, 0, 0⟩) (k + 1) := by
  refine ⟨rises_put h.1 _, fun t ht => ?_, fun id h1 h2 => has_put_iff.2 ?_⟩
  · rcases mem_put.1 ht with rfl | ⟨ht, _⟩
    · exact ⟨by dsimp only; omega, Int.le_refl _, rfl, rfl⟩
    · have := h.2.1 t ht; omega
  · by_cases h3 : id = k + 1
    · exact .inl h3
    · exact .inr (h.2.2 id h1 (by omega))
/-- the firsts are those of the transactions -/
def InvF (L : List TxnX) (F : List Int) (n : Int) : Prop := F.length = 7 ∧ Rises L ∧ (∀ t ∈ L, 1 ≤ t.id ∧ t.id ≤ n) ∧ ∀ id, 1 ≤ id → id ≤ n → (0 ≤ f F id ∧ f F id ≤ 1000) ∧ (f F id = 0 → ∀ t ∈ L, t.id = id → t.last = 0) ∧ (f F id ≠ 0 → ∃ t ∈ L, t.id = id ∧ t.last ≠ 0 ∧ t.first = f F id - 1)
/-- all are under way, and little is reserved -/
def InvK (L : List TxnX) (n i : Int) : Prop := (∀ id, 1 ≤ id → id ≤ n → has L id = true) ∧ ∀ t ∈ L, 0 ≤ t.kept ∧ t.kept ≤ i
def zero7 : List Int := List.replicate 7 0
theorem f_zero (id : Int) : f zero7 id = 0 := by
  unfold f zero7
  rw [List.getD_eq_getElem?_getD, List.getElem?_replicate]
  split <;> rfl
theorem invF_start {L : List TxnX} {n : Int} (h : Inv0 L n) : InvF L zero7 n ∧ InvK L n 0 :=
  ⟨⟨rfl, h.1, fun t ht => ⟨(h.2.1 t ht).1, (h.2.1 t ht).2.1⟩, fun id h1 h2 => ⟨by rw [f_zero]; omega, fun _ t ht _ => (h.2.1 t ht).2.2.1, fun hn => absurd (f_zero id) hn⟩⟩, h.2.2, fun t ht => by have := (h.2.1 t ht).2.2.2; omega⟩
theorem first_iff {L : List TxnX} {F : List Int} {n id : Int} (h : InvF L F n) (h1 : 1 ≤ id) (h2 : id ≤ n) (hh : has L id = true) : (get L id).last = 0 ↔ f F id = 0 := by
  obtain ⟨-, hr, -, hf⟩ := h
  obtain ⟨-, ha, hb⟩ := hf id h1 h2
  have hg := get_mem hh
  constructor
  · intro hl
    by_cases h0 : f F id = 0
    · exact h0
    · obtain ⟨t, ht, e, hn, -⟩ := hb h0
      have : t = get L id := rises_inj hr ht hg.1 (by rw [e, hg.2])
      subst this
      exact absurd hl hn
  · exact fun h0 => ha h0 _ hg.1 hg.2
theorem inv_note {L : List TxnX} {F : List Int} {n id i : Int} (h : InvF L F n) (hk : InvK L n i) (hn : n ≤ 6) (h1 : 1 ≤ id) (h2 : id ≤ n) (hi : 0 ≤ i) (hi2 : i ≤ 60) :
    InvF (put L ⟨id, if (get L id).last = 0 then 10 * i else (get L id).first, 10 * i + 9, max ((get L id).kept + 1) 0⟩) (if f F id = 0 then F.set id.toNat (10 * i + 1) else F) n ∧ InvK (put L ⟨id, if (get L id).last = 0 then 10 * i else (get L id).first, 10 * i + 9, max ((get L id).kept + 1) 0⟩) n (i + 1) := by
  have hh := hk.1 id h1 h2
  have hiff := first_iff h h1 h2 hh
  have hg := get_mem hh
  obtain ⟨hl, hr, hid, hf⟩ := h
  refine ⟨⟨by split <;> simp [hl], rises_put hr _, fun t ht => ?_, fun j h3 h4 => ?_⟩, fun j h3 h4 => has_put_iff.2 (.inr (hk.1 j h3 h4)), fun t ht => ?_⟩
  · rcases mem_put.1 ht with rfl | ⟨ht, _⟩
    · exact ⟨h1, h2⟩
    · exact hid t ht
  · obtain ⟨h5, ha, hb⟩ := hf j h3 h4
    by_cases hj : j = id
    · subst hj
      by_cases h0 : f F j = 0
      · rw [if_pos h0, f_set F j _ j hl (by omega) (by omega) (by omega), if_pos rfl, if_pos (hiff.2 h0)]
        exact ⟨by omega, fun e => by omega, fun _ => ⟨_, mem_put.2 (.inl rfl), rfl, by dsimp only; omega, by dsimp only; omega⟩⟩
      · rw [if_neg h0, if_neg (fun e => h0 (hiff.1 e))]
        obtain ⟨t, ht, e, hn, e2⟩ := hb h0
        have : t = get L j := rises_inj hr ht hg.1 (by rw [e, hg.2])
        subst this
        exact ⟨h5, fun e => absurd e h0, fun _ => ⟨_, mem_put.2 (.inl rfl), rfl, by dsimp only; omega, e2⟩⟩
    · have e3 : f (if f F id = 0 then F.set id.toNat (10 * i + 1) else F) j = f F j := by
        split
        · rw [f_set F id _ j hl (by omega) (by omega) (by omega), if_neg hj]
        · rfl
      rw [e3]
      refine ⟨h5, fun h0 t ht e => ?_, fun h0 => ?_⟩
      · rcases mem_put.1 ht with rfl | ⟨ht, _⟩
        · exact absurd e (fun e => hj e.symm)
        · exact ha h0 t ht e
      · obtain ⟨t, ht, e, r⟩ := hb h0
        exact ⟨t, mem_put.2 (.inr ⟨ht, by dsimp only; rw [e]; exact hj⟩), e, r⟩
  · rcases mem_put.1 ht with rfl | ⟨ht, _⟩
    · have := hk.2 _ hg.1
      dsimp only
      omega
    · have := hk.2 t ht; omega
theorem inv_end {L : List TxnX} {F : List Int} {n id : Int} (h : InvF L F n) (hn : n ≤ 6) (h1 : 1 ≤ id) (h2 : id ≤ n) : InvF (del L id) (F.set id.toNat 0) n := by
  obtain ⟨hl, hr, hid, hf⟩ := h
  refine ⟨by simp [hl], rises_del hr _, fun t ht => hid t (mem_del.1 ht).1, fun j h3 h4 => ?_⟩
  obtain ⟨h5, ha, hb⟩ := hf j h3 h4
  rw [f_set F id _ j hl (by omega) (by omega) (by omega)]
  by_cases hj : j = id
  · subst hj
    rw [if_pos rfl]
    exact ⟨by omega, fun _ t ht e => absurd e (mem_del.1 ht).2, fun h => absurd rfl h⟩
  · rw [if_neg hj]
    refine ⟨h5, fun h0 t ht e => ha h0 t (mem_del.1 ht).1 e, fun h0 => ?_⟩
    obtain ⟨t, ht, e, r⟩ := hb h0
    exact ⟨t, mem_del.2 ⟨ht, by rw [e]; exact hj⟩, e, r⟩
/-- v is the least first below k, or nought -/
def Want (F : List Int) (k v : Int) : Prop := (v = 0 ∧ ∀ id, 1 ≤ id → id < k → f F id = 0) ∨ (v ≠ 0 ∧ (∃ id, 1 ≤ id ∧ id < k ∧ f F id = v) ∧ ∀ id, 1 ≤ id → id < k → f F id ≠ 0 → v ≤ f F id)
theorem want_start (F : List Int) : Want F 1 0 := .inl ⟨rfl, fun id h1 h2 => by omega⟩
theorem want_stay {F : List Int} {k v : Int} (h : Want F k v) (hn : f F k = 0 ∨ (v ≠ 0 ∧ ¬ f F k < v)) : Want F (k + 1) v := by
  rcases h with ⟨rfl, h⟩ | ⟨hv, ⟨id, h1, h2, h3⟩, h⟩
  · refine .inl ⟨rfl, fun id h1 h2 => ?_⟩
    by_cases he : id = k
    · subst he
      rcases hn with hn | ⟨hn, _⟩
      · exact hn
      · exact absurd rfl hn
    · exact h id h1 (by omega)
  · refine .inr ⟨hv, ⟨id, h1, by omega, h3⟩, fun j h4 h5 h6 => ?_⟩
    by_cases he : j = k
    · subst he
      rcases hn with hn | ⟨_, hn⟩
      · exact absurd hn h6
      · omega
    · exact h j h4 (by omega) h6
theorem want_take {F : List Int} {k v : Int} (h : Want F k v) (hk : 1 ≤ k) (h0 : f F k ≠ 0) (hn : v = 0 ∨ f F k < v) : Want F (k + 1) (f F k) := by
  refine .inr ⟨h0, ⟨k, hk, by omega, rfl⟩, fun j h4 h5 h6 => ?_⟩
  by_cases he : j = k
  · subst he; exact Int.le_refl _
  · rcases h with ⟨rfl, h⟩ | ⟨hv, -, h⟩
    · exact absurd (h j h4 (by omega)) h6
    · have := h j h4 (by omega) h6
      rcases hn with hn | hn
      · exact absurd hn hv
      · omega
theorem old_want {L : List TxnX} {F : List Int} {n v a : Int} {b : Bool} (h : InvF L F n) (ho : Old L a b) (hw : Want F (n + 1) v) : ((b = true ↔ v ≠ 0) ∧ (b = true → a = v - 1) ∧ (b = false → a = 0)) ∧ 0 ≤ v ∧ v ≤ 1000 := by
  have hv0 : 0 ≤ v ∧ v ≤ 1000 := by
    rcases hw with ⟨rfl, -⟩ | ⟨-, ⟨id, h3, h4, h5⟩, -⟩
    · omega
    · have := (h.2.2.2 id h3 (by omega)).1; omega
  refine ⟨?_, hv0⟩
  obtain ⟨hl, hr, hid, hf⟩ := h
  rcases ho with ⟨rfl, rfl, ho⟩ | ⟨rfl, ⟨t, ht, -, h1, h2⟩, ho⟩
  · refine ⟨⟨fun e => (by cases e), fun e => ?_⟩, fun e => (by cases e), fun _ => rfl⟩
    rcases hw with ⟨rfl, -⟩ | ⟨hv, ⟨id, h3, h4, h5⟩, -⟩
    · exact absurd rfl e
    · obtain ⟨t, ht, -, h6, -⟩ := (hf id h3 (by omega)).2.2 (by rw [h5]; exact hv)
      exact absurd (ho t ht trivial) h6
  · have hti := hid t ht
    have hft : f F t.id ≠ 0 := fun e => h1 ((hf t.id hti.1 hti.2).2.1 e t ht rfl)
    obtain ⟨u, hu, e1, e2, e3⟩ := (hf t.id hti.1 hti.2).2.2 hft
    have : u = t := rises_inj hr hu ht e1
    subst this
    rcases hw with ⟨rfl, hw⟩ | ⟨hv, ⟨id, h3, h4, h5⟩, hw⟩
    · exact absurd (hw u.id hti.1 (by omega)) hft
    · refine ⟨⟨fun _ => hv, fun _ => rfl⟩, fun _ => ?_, fun e => (by cases e)⟩
      have h6 := hw u.id hti.1 (by omega) hft
      obtain ⟨x, hx, e4, e5, e6⟩ := (hf id h3 (by omega)).2.2 (by rw [h5]; exact hv)
      have h7 := ho x hx trivial e5
      omega
/-- those up to m are gone -/
def Gone (L : List TxnX) (m : Int) : Prop := ∀ id, 1 ≤ id → id ≤ m → has L id = false
theorem has_del {L : List TxnX} {k j : Int} : has (del L k) j = true ↔ has L j = true ∧ j ≠ k := by
  rw [has_iff, has_iff]
  constructor
  · rintro ⟨t, ht, rfl⟩; exact ⟨⟨t, (mem_del.1 ht).1, rfl⟩, (mem_del.1 ht).2⟩
  · rintro ⟨⟨t, ht, rfl⟩, h⟩; exact ⟨t, mem_del.2 ⟨ht, h⟩, rfl⟩
theorem gone_del {L : List TxnX} {m k : Int} (h : Gone L m) : Gone (del L k) m := fun id h1 h2 => by
  cases hh : has (del L k) id with
  | false => rfl
  | true => have := h id h1 h2; rw [(has_del.1 hh).1] at this; cases this
theorem gone_step {L : List TxnX} {m : Int} (h : Gone L m) : Gone (del L (m + 1)) (m + 1) := fun id h1 h2 => by
  cases hh : has (del L (m + 1)) id with
  | false => rfl
  | true =>
    obtain ⟨h3, h4⟩ := has_del.1 hh
    have := h id h1 (by omega)
    rw [h3] at this; cases this
theorem gone_all {L : List TxnX} {F : List Int} {n : Int} (hf : InvF L F n) (h : Gone L n) : L = [] := by
  cases L with
  | nil => rfl
  | cons t r =>
    have ht := hf.2.2.1 t (by simp)
    have := h t.id ht.1 ht.2
    rw [has_false] at this
    exact absurd rfl (this t (by simp))
end Go.Proofs.Ytghgccgpgonlmaa.TxnP
