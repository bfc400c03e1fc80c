/-
  Texts of one claim, joined: PModes, PTight, PSwap, PPlan, PairLit, PlanSlot, RefModelA, PlanLaw, PNum, PCellGet, PSlotGet, Open2, Open3, PlanBackW.
-/
import Derived.Laws.BitsAllLaws
import Derived.Laws.BitsLemmas
import Derived.Test.YtghgccgpgonlmaaPModel
import Derived.Test.YtghgccgpgonlmaaPModel2
import Derived.Test.YtghgccgpgonlmaaPUndo
import Derived.Test.YtghgccgpgonlmaaModelD
import Derived.Test.YtghgccgpgonlmaaModelI
import Derived.Test.YtghgccgpgonlmaaUndo
import Derived.Test.YtghgccgpgonlmaaModelH
import Derived.RegionTactic
import Derived.Test.YtghgccgpgonlmaaSlotC
import Derived.Test.YtghgccgpgonlmaaPTypes
import Derived.Test.YtghgccgpgonlmaaPBe
import Derived.Test.YtghgccgpgonlmaaPCell
import Derived.Test.YtghgccgpgonlmaaPSlot
import Derived.Laws.StructEq
import Derived.Test.YtghgccgpgonlmaaOpen
import Derived.Test.YtghgccgpgonlmaaArr
import Derived.Test.YtghgccgpgonlmaaUndoOf
import Derived.Test.YtghgccgpgonlmaaUndoMore
import Derived.Test.YtghgccgpgonlmaaOpenM
namespace Go.Proofs.Ytghgccgpgonlmaa.ModesP

def isM (m : Int) : Bool := decide (0 ≤ m) && decide (m < 4)
def compat (a b : Int) : Bool := (a == 0 && b == 0) || ((a == 2 || a == 3) && (b == 2 || b == 3))
def ofDo (d : Int) : Int := if d = 0 then 0 else if d = 1 then 1 else if d = 2 then 1 else if d = 3 then 1 else if d = 4 then 2 else if d = 5 then 3 else -1
def commuteM (d1 : Int) (k1 : ByteArray) (d2 : Int) (k2 : ByteArray) : Bool := isM (ofDo d1) && (isM (ofDo d2) && (!(k1.toList == k2.toList) || compat (ofDo d1) (ofDo d2)))
def bitOf (m : Int) : Nat := 2 ^ m.toNat
def withM (s m : Int) : Int := ((s.toNat ||| bitOf m : Nat) : Int)
def hasM (s m : Int) : Bool := (s.toNat &&& bitOf m) != 0
def fitsUpto (s m : Int) : Nat → Bool
  | 0 => true
  | k + 1 => fitsUpto s m k && (!hasM s k || compat k m)
def fitsM (s m : Int) : Bool := fitsUpto s m 4

theorem or_i64 (a b : Nat) (ha : a < 16) (hb : b < 16) : bits .or .i64 (a : Int) (b : Int) = ((a ||| b : Nat) : Int) := by
  have h : ∀ x : Fin 16, ∀ y : Fin 16, bits .or .i64 (x.val : Int) (y.val : Int) = ((x.val ||| y.val : Nat) : Int) := by decide +kernel
  exact h ⟨a, ha⟩ ⟨b, hb⟩
theorem and_i64 (a b : Nat) (ha : a < 16) (hb : b < 16) : bits .and .i64 (a : Int) (b : Int) = ((a &&& b : Nat) : Int) := by
  have h : ∀ x : Fin 16, ∀ y : Fin 16, bits .and .i64 (x.val : Int) (y.val : Int) = ((x.val &&& y.val : Nat) : Int) := by decide +kernel
  exact h ⟨a, ha⟩ ⟨b, hb⟩

theorem four (m : Int) (h0 : 0 ≤ m) (h1 : m < 4) : m = 0 ∨ m = 1 ∨ m = 2 ∨ m = 3 := by omega

theorem withM_bd (s m : Int) (h0 : 0 ≤ s) (h1 : s < 16) (h2 : 0 ≤ m) (h3 : m < 4) : 0 ≤ withM s m ∧ withM s m < 16 := by
  have h : ∀ x : Fin 16, ∀ y : Fin 4, 0 ≤ withM (x.val : Int) (y.val : Int) ∧ withM (x.val : Int) (y.val : Int) < 16 := by decide +kernel
  have := h ⟨s.toNat, by omega⟩ ⟨m.toNat, by omega⟩
  simpa [Int.toNat_of_nonneg h0, Int.toNat_of_nonneg h2] using this

/-- what the statement ModesOrder asks of three modes -/
theorem order_all (x y z : Int) (hx0 : 0 ≤ x) (hx1 : x < 4) (hy0 : 0 ≤ y) (hy1 : y < 4) (hz0 : 0 ≤ z) (hz1 : z < 4) :
    compat y x = compat x y ∧ withM (withM 0 y) x = withM (withM 0 x) y ∧ hasM (withM (withM 0 x) y) x = true ∧ hasM (withM (withM 0 x) y) y = true ∧
    fitsM (withM (withM 0 x) y) z = (compat x z && compat y z) ∧ fitsM (withM 0 x) z = compat x z := by
  have h : ∀ a b c : Fin 4, (compat (b.val : Int) (a.val : Int) = compat (a.val : Int) (b.val : Int) ∧ withM (withM 0 (b.val : Int)) (a.val : Int) = withM (withM 0 (a.val : Int)) (b.val : Int) ∧ hasM (withM (withM 0 (a.val : Int)) (b.val : Int)) (a.val : Int) = true ∧ hasM (withM (withM 0 (a.val : Int)) (b.val : Int)) (b.val : Int) = true ∧
    fitsM (withM (withM 0 (a.val : Int)) (b.val : Int)) (c.val : Int) = (compat (a.val : Int) (c.val : Int) && compat (b.val : Int) (c.val : Int)) ∧ fitsM (withM 0 (a.val : Int)) (c.val : Int) = compat (a.val : Int) (c.val : Int)) := by decide +kernel
  have := h ⟨x.toNat, by omega⟩ ⟨y.toNat, by omega⟩ ⟨z.toNat, by omega⟩
  simpa only [Int.toNat_of_nonneg hx0, Int.toNat_of_nonneg hy0, Int.toNat_of_nonneg hz0] using this
end Go.Proofs.Ytghgccgpgonlmaa.ModesP
namespace Go.Proofs.Ytghgccgpgonlmaa
open Go.RowKit
set_option linter.unusedVariables false
namespace ModelP
/-- do two operations do and tell the same from s on, whichever is the first? -/
def swapM (s : List Pair) (a b : OpX) : Bool :=
  (sameAns (step s a).2 (step (step s b).1 a).2 && sameAns (step (step s a).1 b).2 (step s b).2) && sameAll (step (step s a).1 b).1 (step (step s b).1 a).1
/-- an operation of a mode, on the key a -/
def oneP (m : Int) (n : Nat) : OpX := if m = 1 then ⟨1, ⟨#[97]⟩, [UInt8.ofNat n], 0, 0, 0⟩ else ⟨if m = 0 then 0 else if m = 2 then 4 else 5, ⟨#[97]⟩, [], 0, 0, 1⟩
def counterP : List Pair := [⟨⟨#[97]⟩, ⟨2, [], 0, 9, 3⟩⟩]
def dropP : OpX := ⟨3, ⟨#[97]⟩, [], 0, 0, 0⟩
theorem tight_both : swapM [] (oneP 1 1) (oneP 1 2) = false := by decide +kernel
theorem tight_a (b : Fin 4) (h : b.val ≠ 1) : swapM counterP dropP (oneP b.val 2) = false := by
  revert b
  decide +kernel
theorem tight_b (a : Fin 4) (h : a.val ≠ 1) : swapM counterP (oneP a.val 1) dropP = false := by
  revert a
  decide +kernel
theorem tight_no (a b : Fin 4) (ha : a.val ≠ 1) (hb : b.val ≠ 1) (hc : ModesP.compat a.val b.val = false) : swapM counterP (oneP a.val 1) (oneP b.val 2) = false := by
  revert a b
  decide +kernel
end ModelP
end Go.Proofs.Ytghgccgpgonlmaa
namespace Go.Proofs.Ytghgccgpgonlmaa
open Go.RowKit
set_option linter.unusedVariables false
namespace ModelP
theorem rises_ext : ∀ {s t : List Pair}, Rises s → Rises t → (∀ p, p ∈ s ↔ p ∈ t) → s = t
  | [], [], _, _, _ => rfl
  | [], q :: t, _, _, h => absurd ((h q).2 (by simp)) (by simp)
  | p :: s, [], _, _, h => absurd ((h p).1 (by simp)) (by simp)
  | p :: s, q :: t, hs, ht, h => by
    have hs' := List.pairwise_cons.1 hs
    have ht' := List.pairwise_cons.1 ht
    by_cases e : p = q
    · subst e
      rw [rises_ext hs'.2 ht'.2 fun r => ?_]
      constructor
      · intro hr
        rcases List.mem_cons.1 ((h r).1 (List.mem_cons_of_mem _ hr)) with rfl | h1
        · exact absurd (hs'.1 _ hr) (lt_irrefl _)
        · exact h1
      · intro hr
        rcases List.mem_cons.1 ((h r).2 (List.mem_cons_of_mem _ hr)) with rfl | h1
        · exact absurd (ht'.1 _ hr) (lt_irrefl _)
        · exact h1
    · have h1 : p ∈ t := by
        rcases List.mem_cons.1 ((h p).1 (by simp)) with h1 | h1
        · exact absurd h1 e
        · exact h1
      have h2 : q ∈ s := by
        rcases List.mem_cons.1 ((h q).2 (by simp)) with h2 | h2
        · exact absurd h2.symm e
        · exact h2
      exact absurd (lt_trans (hs'.1 _ h2) (ht'.1 _ h1)) (lt_irrefl _)
theorem find_mem {s : List Pair} {k : ByteArray} (hr : Rises s) (c : Cell) : find s k = some c ↔ (⟨k, c⟩ : Pair) ∈ s := by
  induction s with
  | nil => simp [find]
  | cons p s ih =>
    have hp := List.pairwise_cons.1 hr
    unfold find
    by_cases e : p.key = k
    · rw [if_pos e]
      constructor
      · intro h
        cases h
        subst e
        exact List.mem_cons_self
      · intro h
        rcases List.mem_cons.1 h with h | h
        · rw [← h]
        · exact absurd (by have := hp.1 _ h; rw [e] at this; exact this) (lt_irrefl k)
    · rw [if_neg e, ih hp.2]
      constructor
      · exact List.mem_cons_of_mem _
      · intro h
        rcases List.mem_cons.1 h with h | h
        · exact absurd (by rw [← h]) e
        · exact h
theorem mem_put_iff {s : List Pair} {k : ByteArray} {c : Option Cell} (hr : Rises s) (p : Pair) : p ∈ put s k c ↔ (p ∈ s ∧ p.key ≠ k) ∨ ∃ x, c = some x ∧ p = ⟨k, x⟩ := by
  obtain ⟨h1, h2⟩ := split_at s k hr
  have hsplit : ∀ q ∈ s, q.key ≠ k → q ∈ s.take (at_ s k) ∨ q ∈ (if (s[at_ s k]?).map (·.key) = some k then s.drop (at_ s k + 1) else s.drop (at_ s k)) := by
    intro q hq hk
    obtain ⟨i, hi, rfl⟩ := List.mem_iff_getElem.1 hq
    by_cases hlt : i < at_ s k
    · exact .inl (List.mem_take_iff_getElem.2 ⟨i, by omega, rfl⟩)
    · right
      split
      · rename_i hm
        by_cases he : i = at_ s k
        · rw [← he, List.getElem?_eq_getElem hi] at hm
          exact absurd (by simpa using hm) hk
        · exact List.mem_drop_iff_getElem.2 ⟨i - (at_ s k + 1), by omega, by congr 1; omega⟩
      · exact List.mem_drop_iff_getElem.2 ⟨i - at_ s k, by omega, by congr 1; omega⟩
  unfold put
  rw [List.mem_append, List.mem_append]
  constructor
  · rintro (h | h | h)
    · exact .inl ⟨List.mem_of_mem_take h, fun e => by have := h1 _ h; rw [e] at this; exact lt_irrefl _ this⟩
    · cases c with
      | none => cases h
      | some x => exact .inr ⟨x, rfl, by simpa using h⟩
    · refine .inl ⟨?_, fun e => by have := h2 _ h; rw [e] at this; exact lt_irrefl _ this⟩
      split at h <;> exact List.mem_of_mem_drop h
  · rintro (⟨h, hk⟩ | ⟨x, rfl, rfl⟩)
    · rcases hsplit p h hk with h | h
      · exact .inl h
      · exact .inr (.inr h)
    · exact .inr (.inl (by simp))
theorem find_put_other {s : List Pair} {k k' : ByteArray} (hr : Rises s) (h : k' ≠ k) (c : Option Cell) : find (put s k c) k' = find s k' := by
  refine Option.ext fun x => ?_
  rw [find_mem (put_rises s k c hr), find_mem hr, mem_put_iff hr]
  constructor
  · rintro (⟨h1, -⟩ | ⟨y, -, e⟩)
    · exact h1
    · exact absurd (congrArg Pair.key e) h
  · intro h1
    exact .inl ⟨h1, h⟩
theorem find_put_self {s : List Pair} {k : ByteArray} (hr : Rises s) (c : Option Cell) : find (put s k c) k = c := by
  refine Option.ext fun x => ?_
  rw [find_mem (put_rises s k c hr), mem_put_iff hr]
  constructor
  · rintro (⟨-, h⟩ | ⟨y, rfl, e⟩)
    · exact absurd rfl h
    · cases e; rfl
  · rintro rfl
    exact .inr ⟨x, rfl, rfl⟩
theorem put_comm {s : List Pair} {k k' : ByteArray} (hr : Rises s) (h : k ≠ k') (c c' : Option Cell) : put (put s k c) k' c' = put (put s k' c') k c := by
  refine rises_ext (put_rises _ _ _ (put_rises s k c hr)) (put_rises _ _ _ (put_rises s k' c' hr)) fun p => ?_
  rw [mem_put_iff (put_rises s k c hr), mem_put_iff hr, mem_put_iff (put_rises s k' c' hr), mem_put_iff hr]
  constructor
  · rintro (⟨⟨h1, h2⟩ | ⟨x, rfl, rfl⟩, h3⟩ | ⟨x, rfl, rfl⟩)
    · exact .inl ⟨.inl ⟨h1, h3⟩, h2⟩
    · exact .inr ⟨x, rfl, rfl⟩
    · exact .inl ⟨.inr ⟨x, rfl, rfl⟩, fun e => h e.symm⟩
  · rintro (⟨⟨h1, h2⟩ | ⟨x, rfl, rfl⟩, h3⟩ | ⟨x, rfl, rfl⟩)
    · exact .inl ⟨.inl ⟨h1, h3⟩, h2⟩
    · exact .inr ⟨x, rfl, rfl⟩
    · exact .inl ⟨.inr ⟨x, rfl, rfl⟩, h⟩
theorem put_put {s : List Pair} {k : ByteArray} (hr : Rises s) (c c' : Option Cell) : put (put s k c) k c' = put s k c' := by
  refine rises_ext (put_rises _ _ _ (put_rises s k c hr)) (put_rises s k c' hr) fun p => ?_
  rw [mem_put_iff (put_rises s k c hr), mem_put_iff hr, mem_put_iff hr]
  constructor
  · rintro (⟨⟨h1, h2⟩ | ⟨x, rfl, rfl⟩, h3⟩ | h1)
    · exact .inl ⟨h1, h3⟩
    · exact absurd rfl h3
    · exact .inr h1
  · rintro (⟨h1, h2⟩ | h1)
    · exact .inl ⟨.inl ⟨h1, h2⟩, h2⟩
    · exact .inr h1
/-- what an operation does to its key, and tells -/
def eff (t : Option Cell) (x : OpX) : Option (Option Cell) × Answer :=
  if good x = false then (none, ⟨1, CellP.none⟩)
  else if (rule t x).1 ≠ 0 then (none, ⟨(rule t x).1, CellP.none⟩)
  else (some (rule t x).2.1, ⟨0, (rule t x).2.2⟩)
def app (s : List Pair) (k : ByteArray) : Option (Option Cell) → List Pair
  | none => s
  | some c => put s k c
theorem step_eff (s : List Pair) (x : OpX) : step s x = (app s x.key (eff (find s x.key) x).1, (eff (find s x.key) x).2) := by
  unfold step eff
  split
  · rfl
  · split <;> rfl
theorem app_rises {s : List Pair} (hr : Rises s) (k : ByteArray) (e : Option (Option Cell)) : Rises (app s k e) := by
  cases e with
  | none => exact hr
  | some c => exact put_rises s k c hr
theorem find_app {s : List Pair} {k k' : ByteArray} (hr : Rises s) (h : k' ≠ k) (e : Option (Option Cell)) : find (app s k e) k' = find s k' := by
  cases e with
  | none => rfl
  | some c => exact find_put_other hr h c
theorem app_comm {s : List Pair} {k k' : ByteArray} (hr : Rises s) (h : k ≠ k') (e e' : Option (Option Cell)) : app (app s k e) k' e' = app (app s k' e') k e := by
  cases e with
  | none => rfl
  | some c =>
    cases e' with
    | none => rfl
    | some c' => exact put_comm hr h c c'
theorem swap_self {s : List Pair} {a b : OpX} (h1 : (step (step s b).1 a).2 = (step s a).2) (h2 : (step (step s a).1 b).2 = (step s b).2) (h3 : (step (step s a).1 b).1 = (step (step s b).1 a).1) : swapM s a b = true := by
  unfold swapM
  rw [h1, h2, h3, ans_self, ans_self, same_self]
  rfl
/-- operations on two keys can be swapped -/
theorem swap_keys {s : List Pair} {a b : OpX} (hr : Rises s) (h : a.key ≠ b.key) : swapM s a b = true := by
  refine swap_self ?_ ?_ ?_
  · simp only [step_eff, find_app hr h]
  · simp only [step_eff, find_app hr (Ne.symm h)]
  · simp only [step_eff, find_app hr h, find_app hr (Ne.symm h)]
    exact app_comm hr h _ _
/-- an operation that leaves the state, whatever came ahead -/
theorem swap_idle {s : List Pair} {a b : OpX} (h1 : (step s a).1 = s) (h2 : (step (step s b).1 a).1 = (step s b).1) (h3 : (step (step s b).1 a).2 = (step s a).2) : swapM s a b = true := by
  refine swap_self h3 ?_ ?_
  · rw [h1]
  · rw [h1, h2]
theorem step_bad {s : List Pair} {a : OpX} (h : good a = false) : step s a = (s, ⟨1, CellP.none⟩) := by
  unfold step
  rw [if_pos h]
theorem swap_bad {s : List Pair} {a b : OpX} (h : good a = false) : swapM s a b = true := by
  refine swap_idle ?_ ?_ ?_ <;> simp only [step_bad h]
theorem swap_sym {s : List Pair} {a b : OpX} (h : (step (step s b).1 a).2 = (step s a).2 ∧ (step (step s a).1 b).2 = (step s b).2 ∧ (step (step s a).1 b).1 = (step (step s b).1 a).1) : swapM s a b = true := swap_self h.1 h.2.1 h.2.2
theorem read_state {s : List Pair} {a : OpX} (hr : Rises s) (h : a.act = 0) : (step s a).1 = s := by
  unfold step
  split
  · rfl
  · split
    · rfl
    · rename_i h1 h2
      unfold rule at h2 ⊢
      rw [if_pos h] at h2 ⊢
      cases hf : find s a.key with
      | none => rw [hf] at h2; simp at h2
      | some c => exact put_same s a.key hr c hf
theorem swap_reads {s : List Pair} {a b : OpX} (hr : Rises s) (ha : a.act = 0) (hb : b.act = 0) : swapM s a b = true := by
  have h1 := read_state hr ha
  have h2 := read_state hr hb
  refine swap_idle h1 ?_ ?_
  · rw [h2, h1]
  · rw [h2]
/-- neither tells ErrBounds, in either order -/
def tightM (s : List Pair) (a b : OpX) : Bool :=
  ((decide ((step s a).2.err ≠ 8) && decide ((step (step s a).1 b).2.err ≠ 8)) && decide ((step s b).2.err ≠ 8)) && decide ((step (step s b).1 a).2.err ≠ 8)
def add (x : OpX) : Int := if x.act = 4 then x.n else -x.n
theorem rule_add {c : Cell} {x : OpX} (h : x.act = 4 ∨ x.act = 5) : rule (some c) x = if c.kind ≠ 2 then (6, none, CellP.none) else if c.val + add x < c.lo ∨ c.hi < c.val + add x then (8, none, CellP.none) else (0, some ⟨2, [], c.lo, c.hi, c.val + add x⟩, CellP.none) := by
  have e : (if x.act = 4 then c.val + x.n else c.val - x.n) = c.val + add x := by
    unfold add
    split <;> omega
  unfold rule
  rw [if_neg (by omega), if_neg (by omega), if_neg (by omega), if_neg (by omega)]
  simp only [e]
theorem rule_add_none {x : OpX} (h : x.act = 4 ∨ x.act = 5) : rule none x = (5, none, CellP.none) := by
  unfold rule
  rw [if_neg (by omega), if_neg (by omega), if_neg (by omega), if_neg (by omega)]
theorem step_none {s : List Pair} {x : OpX} {e : Int} (hg : good x = true) (h : rule (find s x.key) x = (e, none, CellP.none)) (he : e ≠ 0) : step s x = (s, ⟨e, CellP.none⟩) := by
  unfold step
  rw [if_neg (by simp [hg]), h, if_pos he]
theorem step_some {s : List Pair} {x : OpX} {c : Cell} (hg : good x = true) (h : rule (find s x.key) x = (0, some c, CellP.none)) : step s x = (put s x.key (some c), ⟨0, CellP.none⟩) := by
  unfold step
  rw [if_neg (by simp [hg]), h, if_neg (by simp)]
/-- two that count, on one key, can be swapped, if no bound is in the way -/
theorem swap_adds {s : List Pair} {a b : OpX} (hr : Rises s) (ha : a.act = 4 ∨ a.act = 5) (hb : b.act = 4 ∨ b.act = 5) (hk : a.key = b.key) (ht : tightM s a b = true) : swapM s a b = true := by
  cases hga : good a with
  | false => exact swap_bad hga
  | true =>
    cases hgb : good b with
    | false =>
      refine swap_self ?_ ?_ ?_ <;> simp only [step_bad hgb]
    | true =>
      have hfb : find s b.key = find s a.key := by rw [hk]
      cases hf : find s a.key with
      | none =>
        have e1 : step s a = (s, ⟨5, CellP.none⟩) := step_none hga (by rw [hf]; exact rule_add_none ha) (by decide)
        have e2 : step s b = (s, ⟨5, CellP.none⟩) := step_none hgb (by rw [hfb, hf]; exact rule_add_none hb) (by decide)
        refine swap_self ?_ ?_ ?_ <;> simp only [e1, e2]
      | some c =>
        by_cases hkd : c.kind = 2
        · by_cases h1 : c.val + add a < c.lo ∨ c.hi < c.val + add a
          · have e1 : step s a = (s, ⟨8, CellP.none⟩) := step_none hga (by rw [hf, rule_add ha, if_neg (by simp [hkd]), if_pos h1]) (by decide)
            simp [tightM, e1] at ht
          · by_cases h2 : c.val + add b < c.lo ∨ c.hi < c.val + add b
            · have e2 : step s b = (s, ⟨8, CellP.none⟩) := step_none hgb (by rw [hfb, hf, rule_add hb, if_neg (by simp [hkd]), if_pos h2]) (by decide)
              simp [tightM, e2] at ht
            · have e1 : step s a = (put s a.key (some ⟨2, [], c.lo, c.hi, c.val + add a⟩), ⟨0, CellP.none⟩) := step_some hga (by rw [hf, rule_add ha, if_neg (by simp [hkd]), if_neg h1])
              have e2 : step s b = (put s b.key (some ⟨2, [], c.lo, c.hi, c.val + add b⟩), ⟨0, CellP.none⟩) := step_some hgb (by rw [hfb, hf, rule_add hb, if_neg (by simp [hkd]), if_neg h2])
              have f1 : find (put s a.key (some ⟨2, [], c.lo, c.hi, c.val + add a⟩)) b.key = some ⟨2, [], c.lo, c.hi, c.val + add a⟩ := by rw [← hk]; exact find_put_self hr _
              have f2 : find (put s b.key (some ⟨2, [], c.lo, c.hi, c.val + add b⟩)) a.key = some ⟨2, [], c.lo, c.hi, c.val + add b⟩ := by rw [hk]; exact find_put_self hr _
              by_cases h3 : (c.val + add a) + add b < c.lo ∨ c.hi < (c.val + add a) + add b
              · have e3 : step (put s a.key (some ⟨2, [], c.lo, c.hi, c.val + add a⟩)) b = (put s a.key (some ⟨2, [], c.lo, c.hi, c.val + add a⟩), ⟨8, CellP.none⟩) := step_none hgb (by rw [f1, rule_add hb]; dsimp only; rw [if_neg (by simp), if_pos h3]) (by decide)
                simp [tightM, e1, e3] at ht
              · have h4 : ¬ ((c.val + add b) + add a < c.lo ∨ c.hi < (c.val + add b) + add a) := by omega
                have e3 : step (put s a.key (some ⟨2, [], c.lo, c.hi, c.val + add a⟩)) b = (put (put s a.key (some ⟨2, [], c.lo, c.hi, c.val + add a⟩)) b.key (some ⟨2, [], c.lo, c.hi, (c.val + add a) + add b⟩), ⟨0, CellP.none⟩) := step_some hgb (by rw [f1, rule_add hb]; dsimp only; rw [if_neg (by simp), if_neg h3])
                have e4 : step (put s b.key (some ⟨2, [], c.lo, c.hi, c.val + add b⟩)) a = (put (put s b.key (some ⟨2, [], c.lo, c.hi, c.val + add b⟩)) a.key (some ⟨2, [], c.lo, c.hi, (c.val + add b) + add a⟩), ⟨0, CellP.none⟩) := step_some hga (by rw [f2, rule_add ha]; dsimp only; rw [if_neg (by simp), if_neg h4])
                refine swap_self ?_ ?_ ?_ <;> simp only [e1, e2, e3, e4]
                rw [hk, put_put hr, put_put hr, show c.val + add a + add b = c.val + add b + add a by omega]
        · have e1 : step s a = (s, ⟨6, CellP.none⟩) := step_none hga (by rw [hf, rule_add ha, if_pos hkd]) (by decide)
          have e2 : step s b = (s, ⟨6, CellP.none⟩) := step_none hgb (by rw [hfb, hf, rule_add hb, if_pos hkd]) (by decide)
          refine swap_self ?_ ?_ ?_ <;> simp only [e1, e2]
/-- P10.3: those that commute can be swapped, if no bound is in the way -/
theorem commute_swap {s : List Pair} {a b : OpX} (hr : Rises s) (hc : ModesP.commuteM a.act a.key b.act b.key = true) (ht : tightM s a b = true) : swapM s a b = true := by
  by_cases hk : a.key = b.key
  · unfold ModesP.commuteM at hc
    simp only [hk, beq_self_eq_true, Bool.not_true, Bool.false_or, Bool.and_eq_true] at hc
    obtain ⟨-, -, hc⟩ := hc
    have hd : (a.act = 0 ∧ b.act = 0) ∨ ((a.act = 4 ∨ a.act = 5) ∧ (b.act = 4 ∨ b.act = 5)) := by
      unfold ModesP.compat at hc
      simp only [Bool.or_eq_true, Bool.and_eq_true, beq_iff_eq] at hc
      unfold ModesP.ofDo at hc
      have : ∀ d : Int, ((if d = 0 then (0 : Int) else if d = 1 then 1 else if d = 2 then 1 else if d = 3 then 1 else if d = 4 then 2 else if d = 5 then 3 else -1) = 0 → d = 0) ∧ (((if d = 0 then (0 : Int) else if d = 1 then 1 else if d = 2 then 1 else if d = 3 then 1 else if d = 4 then 2 else if d = 5 then 3 else -1) = 2 ∨ (if d = 0 then (0 : Int) else if d = 1 then 1 else if d = 2 then 1 else if d = 3 then 1 else if d = 4 then 2 else if d = 5 then 3 else -1) = 3) → d = 4 ∨ d = 5) := by
        intro d
        repeat' split
        all_goals omega
      rcases hc with ⟨h1, h2⟩ | ⟨h1, h2⟩
      · exact .inl ⟨(this _).1 h1, (this _).1 h2⟩
      · exact .inr ⟨(this _).2 h1, (this _).2 h2⟩
    rcases hd with ⟨h1, h2⟩ | ⟨h1, h2⟩
    · exact swap_reads hr h1 h2
    · exact swap_adds hr h1 h2 hk ht
  · exact swap_keys hr hk
end ModelP
end Go.Proofs.Ytghgccgpgonlmaa
namespace Go.Proofs.Ytghgccgpgonlmaa
open Go.RowKit
set_option linter.unusedVariables false
namespace PlanP
/-- the state that a slot tells -/
def state (now : Item) : List Pair := if now.state = 1 then [⟨now.key, now.cell⟩] else []
/-- what the slot is then, and what is told -/
def slot (x : OpX) (now : Item) : Item × Answer :=
  if (ModelP.step (state now) x).2.err ≠ 0 ∨ x.act = 0 then (now, (ModelP.step (state now) x).2)
  else if x.act = 3 then (⟨2, now.key, now.cell⟩, (ModelP.step (state now) x).2)
  else (⟨1, x.key, (ModelP.find (ModelP.step (state now) x).1 x.key).getD CellP.none⟩, (ModelP.step (state now) x).2)
def writes (x : OpX) (a : Answer) : Bool := x.act != 0 && a.err == 0
theorem state_right {now : Item} (h : SlotP.right now = true) : ModelP.Right (state now) := by
  unfold state
  split
  · rename_i h1
    have h0 : now.state ≠ 0 := by omega
    unfold SlotP.right at h
    rw [if_neg h0] at h
    simp only [Bool.and_eq_true] at h
    exact ⟨fun p hp => by simp only [List.mem_singleton] at hp; subst hp; exact h.2, List.pairwise_singleton _ _⟩
  · exact ⟨fun p hp => (by cases hp), List.Pairwise.nil⟩
theorem state_len (now : Item) : (state now).length ≤ 1 := by unfold state; split <;> simp
theorem right_none {now : Item} (h : SlotP.right now = true) (h0 : now.state = 0) : now = SlotP.none := by
  unfold SlotP.right at h
  rw [if_pos h0] at h
  obtain ⟨s, k, kind, data, lo, hi, val⟩ := now
  simp only [SlotP.same, SlotP.none, CellP.same, CellP.none, Bool.and_eq_true, beq_iff_eq] at h
  obtain ⟨h1, h2, h3, h4, h5, h6, h7⟩ := h
  have hk := key_inj h2
  subst h1 hk h3 h4 h5 h6 h7
  rfl
/-- what an operation that is done makes of a slot -/
theorem slot_done {x : OpX} {now : Item} (hr : SlotP.right now = true) (hk : now.state ≠ 0 → now.key = x.key) (hw : writes x (slot x now).2 = true) :
    ModelP.good x = true ∧ x.act ≠ 0 ∧ (ModelP.rule (if now.state = 1 then some now.cell else none) x).1 = 0 ∧
    (slot x now).1 = (if x.act = 3 then ⟨2, now.key, now.cell⟩ else ⟨1, x.key, (ModelP.rule (if now.state = 1 then some now.cell else none) x).2.1.getD CellP.none⟩) := by
  have ef : ModelP.find (state now) x.key = if now.state = 1 then some now.cell else none := by
    unfold state
    split
    · rename_i h1
      rw [hk (by omega)]
      simp [ModelP.find]
    · rfl
  have hrs := (state_right hr).2
  have ha : x.act ≠ 0 := by
    unfold writes at hw
    simp only [Bool.and_eq_true, bne_iff_ne] at hw
    exact hw.1
  have he : (slot x now).2 = (ModelP.step (state now) x).2 := by unfold slot; split; rfl; split <;> rfl
  have h0 : (ModelP.step (state now) x).2.err = 0 := by
    unfold writes at hw
    simp only [Bool.and_eq_true, beq_iff_eq] at hw
    rw [← he]; exact hw.2
  have hg : ModelP.good x = true := by
    cases hg : ModelP.good x with
    | true => rfl
    | false => unfold ModelP.step at h0; rw [if_pos hg] at h0; cases h0
  have hru : (ModelP.rule (ModelP.find (state now) x.key) x).1 = 0 := by
    by_cases hz : (ModelP.rule (ModelP.find (state now) x.key) x).1 = 0
    · exact hz
    · unfold ModelP.step at h0
      rw [if_neg (by simp [hg]), if_pos hz] at h0
      exact absurd h0 hz
  have es : (ModelP.step (state now) x).1 = ModelP.put (state now) x.key (ModelP.rule (ModelP.find (state now) x.key) x).2.1 := by
    unfold ModelP.step
    rw [if_neg (by simp [hg]), if_neg (by simp [hru])]
  refine ⟨hg, ha, by rw [← ef]; exact hru, ?_⟩
  unfold slot
  rw [if_neg (by simp [h0, ha])]
  split
  · rfl
  · rw [es, ModelP.find_put_self hrs, ef]
theorem rule_old {t : Option Cell} {x : OpX} (h : x.act = 4 ∨ x.act = 5) (h0 : (ModelP.rule t x).1 = 0) : ∃ c, t = some c ∧ c.kind = 2 ∧ ¬ (c.val + ModelP.add x < c.lo ∨ c.hi < c.val + ModelP.add x) ∧ (ModelP.rule t x).2.1 = some ⟨2, [], c.lo, c.hi, c.val + ModelP.add x⟩ := by
  cases t with
  | none => rw [ModelP.rule_add_none h] at h0; cases h0
  | some c =>
    rw [ModelP.rule_add h] at h0 ⊢
    by_cases hk : c.kind = 2
    · rw [if_neg (by simp [hk])] at h0 ⊢
      by_cases hb : c.val + ModelP.add x < c.lo ∨ c.hi < c.val + ModelP.add x
      · rw [if_pos hb] at h0; cases h0
      · rw [if_neg hb]; exact ⟨c, rfl, hk, hb, rfl⟩
    · rw [if_pos hk] at h0; cases h0
theorem counter_data {c : Cell} (h : CellP.right c = true) (hk : c.kind = 2) : c.data = [] := by
  unfold CellP.right at h
  rw [if_neg (by omega)] at h
  simp only [Bool.and_eq_true, beq_iff_eq] at h
  exact List.eq_nil_of_length_eq_zero h.2.1
theorem counter_right {c : Cell} (h : CellP.right c = true) (hk : c.kind = 2) : c.lo ≤ c.val ∧ c.val ≤ c.hi := by
  unfold CellP.right at h
  rw [if_neg (by omega)] at h
  simp only [Bool.and_eq_true, decide_eq_true_eq] at h
  exact h.2.2
/-- what was made is taken back -/
theorem back {x : OpX} {now : Item} (hr : SlotP.right now = true) (hk : now.state ≠ 0 → now.key = x.key) (hw : writes x (slot x now).2 = true) :
    (UndoP.apply (UndoP.of x now (slot x now).1) (slot x now).1).2 = 0 ∧ UndoP.right (UndoP.of x now (slot x now).1) = true ∧
    (UndoP.apply (UndoP.of x now (slot x now).1) (slot x now).1).1.key = x.key ∧
    ((UndoP.apply (UndoP.of x now (slot x now).1) (slot x now).1).1.state = 1 ↔ now.state = 1) ∧
    (now.state ≠ 0 → (UndoP.apply (UndoP.of x now (slot x now).1) (slot x now).1).1 = now) := by
  obtain ⟨hg, ha, hru, hs⟩ := slot_done hr hk hw
  have hkr := ModelP.good_key hg
  have hact : 0 ≤ x.act ∧ x.act ≤ 5 := by
    unfold ModelP.good at hg
    simp only [Bool.and_eq_true, decide_eq_true_eq] at hg
    exact hg.1
  have htr : ∀ c, (if now.state = 1 then some now.cell else none) = some c → CellP.right c = true := by
    intro c hc
    split at hc
    · cases hc; exact SlotP.right_cell now (by omega) hr
    · cases hc
  by_cases h3 : x.act = 1 ∨ x.act = 2 ∨ x.act = 3
  · by_cases hst : UndoP.stands now x.key
    · rw [UndoP.of_was x now _ h3 hst, UndoP.apply_item _ _ rfl]
      refine ⟨rfl, ?_, hst.2, Iff.rfl, fun _ => rfl⟩
      unfold UndoP.right
      rw [if_neg (by simp), if_pos rfl]
      simp only [Bool.and_eq_true]
      refine ⟨hkr, ?_, hr, by rw [hst.2]; simp, rfl⟩
      rcases hst.1 with h | h <;> simp [h]
    · have h0 : now.state = 0 := by
        by_cases h0 : now.state = 0
        · exact h0
        · exact absurd ⟨SlotP.right_state now h0 hr, hk h0⟩ hst
      have hn1 : ¬ now.state = 1 := by omega
      rw [if_neg hn1] at hru hs
      have hn3 : x.act ≠ 3 := by
        intro e
        unfold ModelP.rule at hru
        rw [if_neg (by omega), if_neg (by omega), if_neg (by omega), if_pos e] at hru
        cases hru
      rw [if_neg hn3] at hs
      rw [UndoP.of_then x now _ h3 hst, UndoP.apply_item _ _ rfl, hs]
      refine ⟨rfl, ?_, rfl, ⟨fun h => (by cases h), fun h => absurd h hn1⟩, fun h => absurd h0 h⟩
      unfold UndoP.right
      rw [if_neg (by simp), if_pos rfl]
      simp only [Bool.and_eq_true]
      refine ⟨hkr, by simp, ?_, by simp, rfl⟩
      unfold SlotP.right
      rw [if_neg (by simp)]
      simp only [Bool.and_eq_true]
      refine ⟨by simp, hkr, ?_⟩
      obtain ⟨c, hc⟩ : ∃ c, (ModelP.rule none x).2.1 = some c := by
        unfold ModelP.rule
        rcases h3 with e | e | e
        · rw [if_neg (by omega), if_pos e]; exact ⟨_, rfl⟩
        · rw [if_neg (by omega), if_neg (by omega), if_pos e]; exact ⟨_, rfl⟩
        · exact absurd e hn3
      rw [hc]
      exact ModelP.rule_right hg (t := none) (fun c h => by cases h) c hc
  · have h45 : x.act = 4 ∨ x.act = 5 := by omega
    obtain ⟨c, htc, hck, hb, hrc⟩ := rule_old h45 hru
    have h1 : now.state = 1 := by
      by_cases h : now.state = 1
      · exact h
      · rw [if_neg h] at htc; cases htc
    rw [if_pos h1, Option.some.injEq] at htc
    have hcr := SlotP.right_cell now (by omega) hr
    rw [if_neg (by omega), hrc] at hs
    have hn0 : 0 ≤ x.n := by
      unfold ModelP.good at hg
      simp only [Bool.and_eq_true] at hg
      have := hg.2.2
      rw [if_neg (by omega), if_neg (by omega)] at this
      simp at this
      omega
    have hkey := hk (by omega)
    have hcr' : CellP.right (⟨2, [], c.lo, c.hi, c.val + ModelP.add x⟩ : Cell) = true := ModelP.rule_right hg (t := some now.cell) (fun c h => by cases h; exact hcr) _ (by rw [h1] at hrc; simpa using hrc)
    subst htc
    have hcd := counter_data hcr hck
    have hcb := counter_right hcr hck
    have hnow : now = ⟨1, x.key, ⟨2, [], now.cell.lo, now.cell.hi, now.cell.val⟩⟩ := by
      obtain ⟨s, k, kd, d, lo, hi, va⟩ := now
      dsimp only at h1 hkey hck hcd
      subst h1 hkey hck hcd
      rfl
    have hU : ∀ a : Int, a = 2 ∨ a = 3 → UndoP.right ⟨a, x.key, SlotP.none, x.n⟩ = true := by
      intro a h
      unfold UndoP.right
      rw [if_neg (by dsimp only; omega), if_neg (by dsimp only; omega), if_pos h]
      simp only [Bool.and_eq_true]
      exact ⟨hkr, by simpa using hn0, by simp [SlotP.same, CellP.same]⟩
    rcases h45 with e | e
    · have hadd : ModelP.add x = x.n := by unfold ModelP.add; rw [if_pos e]
      rw [UndoP.of_inc x now _ e]
      have hsum : UndoP.sum ⟨3, x.key, SlotP.none, x.n⟩ (slot x now).1 = now.cell.val := by rw [hs, hadd]; unfold UndoP.sum; rw [if_pos rfl]; show now.cell.val + x.n - x.n = _; omega
      have hap := UndoP.apply_ok ⟨3, x.key, SlotP.none, x.n⟩ (slot x now).1 (.inr rfl) (by rw [hs]; exact ⟨rfl, rfl⟩) (by rw [hs]; exact ⟨rfl, hcr'⟩) (by rw [hsum, hs]; show ¬ (now.cell.val < now.cell.lo ∨ now.cell.hi < now.cell.val); omega)
      rw [hsum, hs] at hap
      rw [hs, hap]
      refine ⟨rfl, hU 3 (.inr rfl), rfl, ⟨fun _ => h1, fun _ => rfl⟩, fun _ => hnow.symm⟩
    · have hadd : ModelP.add x = -x.n := by unfold ModelP.add; rw [if_neg (by omega)]
      rw [UndoP.of_dec x now _ e]
      have hsum : UndoP.sum ⟨2, x.key, SlotP.none, x.n⟩ (slot x now).1 = now.cell.val := by rw [hs, hadd]; unfold UndoP.sum; rw [if_neg (by show ¬ ((2 : Int) = 3); decide)]; show now.cell.val + -x.n + x.n = _; omega
      have hap := UndoP.apply_ok ⟨2, x.key, SlotP.none, x.n⟩ (slot x now).1 (.inl rfl) (by rw [hs]; exact ⟨rfl, rfl⟩) (by rw [hs]; exact ⟨rfl, hcr'⟩) (by rw [hsum, hs]; show ¬ (now.cell.val < now.cell.lo ∨ now.cell.hi < now.cell.val); omega)
      rw [hsum, hs] at hap
      rw [hs, hap]
      refine ⟨rfl, hU 2 (.inl rfl), rfl, ⟨fun _ => h1, fun _ => rfl⟩, fun _ => hnow.symm⟩
end PlanP
end Go.Proofs.Ytghgccgpgonlmaa
namespace Go.Proofs.Ytghgccgpgonlmaa
open Go.RowKit
set_option linter.unusedVariables false
/-- a pair typed out -/
theorem pairOne {w : World} {b : Nat} {p : Pair} {vs : List Value} (hs : Str w b vs.toArray) (hp : PairE.rel w w.heap.size vs p) : Pairs w w.heap.size (some ⟨b, 0, none⟩) 1 1 [p] := by
  refine ⟨[vs], ⟨hp, trivial⟩, rfl, Nat.le_refl _, by unfold maxLen; omega, fun _ => ⟨b, 0, rfl, hs.lt, fun j v hv => ?_⟩⟩
  rw [List.flatten_singleton] at hv
  rw [hs.cell, Nat.zero_add]
  simpa using hv
end Go.Proofs.Ytghgccgpgonlmaa
namespace Go.Proofs.Ytghgccgpgonlmaa.PlanW
open Go.RowKit ModelW
set_option linter.unusedVariables false
set_option linter.unusedSimpArgs false
/-- an item's cells -/
def itV (A : Option Addr) (n c : Nat) (x : Item) : Array Value := #[.int .i64 x.state, .string x.key, .int .i64 x.cell.kind, .slice A n c, .int .i64 x.cell.lo, .int .i64 x.cell.hi, .int .i64 x.cell.val]
/-- the call hands back an item and an answer -/
def GivesPlan (w : World) (r : Item × Answer) (e : Ending) (w' : World) : Prop :=
  ∃ A n c A2 n2 c2, e = .returned (.tuple #[.agg (itV A n c r.1), .agg (ansV A2 n2 c2 r.2)]) ∧ Bytes w' w'.heap.size A n c r.1.cell.data ∧ Bytes w' w'.heap.size A2 n2 c2 r.2.cell.data ∧ Below w.heap.size w w'
theorem str7 {w : World} {b : Nat} {c0 c1 c2 c3 c4 c5 c6 : Value} (h : Str w b #[c0, c1, c2, c3, c4, c5, c6]) :
    w.cell? ⟨b, 0, none⟩ = some c0 ∧ w.cell? ⟨b, 1, none⟩ = some c1 ∧ w.cell? ⟨b, 2, none⟩ = some c2 ∧ w.cell? ⟨b, 3, none⟩ = some c3 ∧ w.cell? ⟨b, 4, none⟩ = some c4 ∧ w.cell? ⟨b, 5, none⟩ = some c5 ∧ w.cell? ⟨b, 6, none⟩ = some c6 :=
  ⟨h.cell 0, h.cell 1, h.cell 2, h.cell 3, h.cell 4, h.cell 5, h.cell 6⟩
theorem state_pairs {w : World} {b B n c : Nat} {A : Option Addr} {x : Item} (h1 : x.state = 1) (hs : Str w b (pairV ⟨x.key, x.cell⟩ A n c).toArray) (hy : Bytes w B A n c x.cell.data) (hB : B ≤ w.heap.size) (hk : x.key.size ≤ maxLen) (hin : In64 x.cell.kind ∧ In64 x.cell.lo ∧ In64 x.cell.hi ∧ In64 x.cell.val) :
    Pairs w w.heap.size (some ⟨b, 0, none⟩) 1 1 (PlanP.state x) := by
  unfold PlanP.state
  rw [if_pos h1]
  exact pairOne (p := ⟨x.key, x.cell⟩) hs ⟨A, n, c, rfl, hy.more hB, hk, hin.1, hin.2.1, hin.2.2.1, hin.2.2.2⟩
theorem state_small {x : Item} (h : x.cell.data.length ≤ 100000) : Small (PlanP.state x) := by
  unfold PlanP.state
  split
  · exact ⟨by simp, fun p hp => by simp only [List.mem_singleton] at hp; subst hp; exact h⟩
  · exact ⟨by simp, fun p hp => by cases hp⟩
theorem slot_err {x : OpX} {now : Item} {r : List Pair × Answer} (hr : ModelP.step (PlanP.state now) x = r) (h : r.2.err ≠ 0) : PlanP.slot x now = (now, r.2) := by
  unfold PlanP.slot; rw [hr, if_pos (.inl h)]
theorem slot_read {x : OpX} {now : Item} {r : List Pair × Answer} (hr : ModelP.step (PlanP.state now) x = r) (h : x.act = 0) : PlanP.slot x now = (now, r.2) := by
  unfold PlanP.slot; rw [hr, if_pos (.inr h)]
theorem slot_drop {x : OpX} {now : Item} {r : List Pair × Answer} (hr : ModelP.step (PlanP.state now) x = r) (h0 : r.2.err = 0) (h : x.act = 3) : PlanP.slot x now = (⟨2, now.key, now.cell⟩, r.2) := by
  unfold PlanP.slot; rw [hr, if_neg (by omega), if_pos h]
theorem slot_set {x : OpX} {now : Item} {r : List Pair × Answer} (hr : ModelP.step (PlanP.state now) x = r) (h0 : r.2.err = 0) (h : x.act = 1 ∨ x.act = 2 ∨ x.act = 4 ∨ x.act = 5) : PlanP.slot x now = (⟨1, x.key, (ModelP.find r.1 x.key).getD CellP.none⟩, r.2) := by
  unfold PlanP.slot; rw [hr, if_neg (by omega), if_neg (by omega)]
theorem act_in {x : OpX} {s : List Pair} {r : List Pair × Answer} (hr : ModelP.step s x = r) (h0 : r.2.err = 0) : x.act = 0 ∨ x.act = 3 ∨ x.act = 1 ∨ x.act = 2 ∨ x.act = 4 ∨ x.act = 5 := by
  have hg : ModelP.good x = true := by
    cases hg : ModelP.good x with
    | true => rfl
    | false => subst hr; unfold ModelP.step at h0; rw [if_pos hg] at h0; cases h0
  unfold ModelP.good at hg
  simp only [Bool.and_eq_true, decide_eq_true_eq] at hg
  omega
theorem find_len {l : List Pair} {k : ByteArray} {c : Cell} (h : ∀ p ∈ l, p.cell.data.length ≤ 100000) (hc : (ModelP.find l k).getD CellP.none = c) : c.data.length ≤ 100000 := by
  subst hc
  induction l with
  | nil => simp [ModelP.find, CellP.none]
  | cons p l ih =>
    unfold ModelP.find
    split
    · exact h p (by simp)
    · exact ih (fun q hq => h q (by simp [hq]))
theorem right_data {c : Cell} (h : CellP.right c = true) : c.data.length ≤ 32 := by
  unfold CellP.right at h
  split at h <;> simp only [Bool.and_eq_true, decide_eq_true_eq, beq_iff_eq] at h <;> omega
theorem find_data {x : OpX} {s : List Pair} {r : List Pair × Answer} (hr : ModelP.step s x = r) (hri : ModelP.Right s) : (∀ p ∈ r.1, p.cell.data.length ≤ 100000) := by
  subst hr
  intro p hp
  have := right_data ((ModelP.step_right hri x).1 p hp).2
  omega
set_option maxRecDepth 100000 in
set_option maxHeartbeats 2000000 in
theorem slot_any (act : Int) (xk : ByteArray) (xdata : List UInt8) (xlo xhi xn : Int) (Ax : Option Addr) (nx cx Bx : Nat) (pst : Int) (pk : ByteArray) (pkd : Int) (pda : List UInt8) (plo phi pva : Int) (Ap : Option Addr) (np cp Bp : Nat) (w : World) (hx : Bytes w Bx Ax nx cx xdata) (hBx : Bx ≤ w.heap.size) (hxk : xk.size ≤ maxLen) (hi : In64 xlo ∧ In64 xhi ∧ In64 xn) (hnx : nx ≤ 100000) (hp : Bytes w Bp Ap np cp pda) (hBp : Bp ≤ w.heap.size) (hpk : pk.size ≤ maxLen) (hj : In64 pkd ∧ In64 plo ∧ In64 phi ∧ In64 pva) (hnp : np ≤ 100000) (hR : SlotP.right ⟨pst, pk, ⟨pkd, pda, plo, phi, pva⟩⟩ = true) :
    Calls Try.prog 36 #[.agg #[.int .i64 act, .string xk, .slice Ax nx cx, .int .i64 xlo, .int .i64 xhi, .int .i64 xn], .agg #[.int .i64 pst, .string pk, .int .i64 pkd, .slice Ap np cp, .int .i64 plo, .int .i64 phi, .int .i64 pva]] w (GivesPlan w (PlanP.slot ⟨act, xk, xdata, xlo, xhi, xn⟩ ⟨pst, pk, ⟨pkd, pda, plo, phi, pva⟩⟩)) := by
  have hlx := hx.len
  have hlp := hp.len
  have HX := Lib.hid hx
  have HP := Lib.hid hp
  have HI := Lib.hid hi
  have HJ := Lib.hid hj
  have HRI := Lib.hid (PlanP.state_right hR)
  have HSM := Lib.hid (state_small (x := ⟨pst, pk, ⟨pkd, pda, plo, phi, pva⟩⟩) (by show pda.length ≤ 100000; omega))
  obtain ⟨r, hr⟩ : ∃ r, ModelP.step (PlanP.state ⟨pst, pk, ⟨pkd, pda, plo, phi, pva⟩⟩) ⟨act, xk, xdata, xlo, xhi, xn⟩ = r := ⟨_, rfl⟩
  have HRR := Lib.hid hr
  have HFD := Lib.hid (find_data hr HRI.out)
  have HRL : Hid (r.1.length ≤ 2) := Lib.hid (by have h1 := ModelP.step_length (PlanP.state ⟨pst, pk, ⟨pkd, pda, plo, phi, pva⟩⟩) ⟨act, xk, xdata, xlo, xhi, xn⟩; have h2 := PlanP.state_len ⟨pst, pk, ⟨pkd, pda, plo, phi, pva⟩⟩; rw [hr] at h1; omega)
  clear hx hp hi hj hlx hlp hR
  by_cases hst : pst = 1
  case' pos =>
    have HST := Lib.hid hst
    have hd : (pst == 1) = true := by simpa using hst
    clear hst hr
    go_enter Try.func36, Try.ntmps36
    go_wp2_with fail
    generalize hW0 : (((((w).alloc (.cells #[.int .i64 act, .string xk, .slice Ax nx cx, .int .i64 xlo, .int .i64 xhi, .int .i64 xn] 24)).alloc (.cells #[.int .i64 pst, .string pk, .int .i64 pkd, .slice Ap np cp, .int .i64 plo, .int .i64 phi, .int .i64 pva] 54)).alloc (.cells #[.int .i64 0, .string ⟨#[]⟩, .int .i64 0, .slice none 0 0, .int .i64 0, .int .i64 0, .int .i64 0] 54)).alloc (.cells #[.int .i64 0, .int .i64 0, .slice none 0 0, .int .i64 0, .int .i64 0, .int .i64 0] 39)).alloc (.cells #[.string pk, .int .i64 pkd, .slice Ap np cp, .int .i64 plo, .int .i64 phi, .int .i64 pva] 103) = W0
    obtain ⟨HS0_0, HS1_0, HS2_0, HS3_0, HS4_0, HB_0, hw_0, hz0⟩ := new5 hW0
    clear hW0 hz0
    have f0_0 := str6 HS0_0.out
    have hl0_0 := HS0_0.out.lt
    have hf0_0 := fun j => HS0_0.out.frozen j
    have f1_0 := str7 HS1_0.out
    have hl1_0 := HS1_0.out.lt
    have hf1_0 := fun j => HS1_0.out.frozen j
    have f2_0 := str7 HS2_0.out
    have hl2_0 := HS2_0.out.lt
    have hf2_0 := fun j => HS2_0.out.frozen j
    have f3_0 := str6 HS3_0.out
    have hl3_0 := HS3_0.out.lt
    have hf3_0 := fun j => HS3_0.out.frozen j
    have f4_0 := str6 HS4_0.out
    have hl4_0 := HS4_0.out.lt
    have HQ := Lib.hid (state_pairs (x := ⟨pst, pk, ⟨pkd, pda, plo, phi, pva⟩⟩) HST.out HS4_0.out (HP.out.below (HB_0.out.mono hBp)) (Nat.le_trans hBp HB_0.out.size) hpk HJ.out)
    clear HS4_0 f4_0 hl4_0 HST hd
  case' neg =>
    have hd : (pst == 1) = false := by simpa using hst
    have HST := Lib.hid hst
    clear hst hr
    go_enter Try.func36, Try.ntmps36
    go_wp2_with fail
    generalize hW0 : ((((w).alloc (.cells #[.int .i64 act, .string xk, .slice Ax nx cx, .int .i64 xlo, .int .i64 xhi, .int .i64 xn] 24)).alloc (.cells #[.int .i64 pst, .string pk, .int .i64 pkd, .slice Ap np cp, .int .i64 plo, .int .i64 phi, .int .i64 pva] 54)).alloc (.cells #[.int .i64 0, .string ⟨#[]⟩, .int .i64 0, .slice none 0 0, .int .i64 0, .int .i64 0, .int .i64 0] 54)).alloc (.cells #[.int .i64 0, .int .i64 0, .slice none 0 0, .int .i64 0, .int .i64 0, .int .i64 0] 39) = W0
    obtain ⟨HS0_0, HS1_0, HS2_0, HS3_0, HB_0, hw_0, hz0⟩ := new4 hW0
    clear hW0 hz0
    have f0_0 := str6 HS0_0.out
    have hl0_0 := HS0_0.out.lt
    have hf0_0 := fun j => HS0_0.out.frozen j
    have f1_0 := str7 HS1_0.out
    have hl1_0 := HS1_0.out.lt
    have hf1_0 := fun j => HS1_0.out.frozen j
    have f2_0 := str7 HS2_0.out
    have hl2_0 := HS2_0.out.lt
    have hf2_0 := fun j => HS2_0.out.frozen j
    have f3_0 := str6 HS3_0.out
    have hl3_0 := HS3_0.out.lt
    have hf3_0 := fun j => HS3_0.out.frozen j
    have HQ : Hid (Pairs W0 W0.heap.size none 0 0 (PlanP.state ⟨pst, pk, ⟨pkd, pda, plo, phi, pva⟩⟩)) := Lib.hid (by unfold PlanP.state; rw [if_neg HST.out]; exact Elems.none_ _ _ _)
    clear HST hd
  all_goals
    refine (Step_any _ _ _ W0.heap.size (PlanP.state ⟨pst, pk, ⟨pkd, pda, plo, phi, pva⟩⟩) act xk xdata Ax nx cx W0.heap.size xlo xhi xn _ HQ.out (Nat.le_refl _) HRI.out.2 HSM.out ((HX.out.below (HB_0.out.mono hBx)).more (Nat.le_trans hBx HB_0.out.size)) (Nat.le_refl _) hxk HI.out.1 HI.out.2.1 HI.out.2.2 hnx).mono ?_
    rintro e W1 ⟨A1, n1, c1, A2, n2, c2, rfl, hP, hy, hb1⟩
    have HS0_1 := Lib.hid (HS0_0.out.next hb1)
    have HS1_1 := Lib.hid (HS1_0.out.next hb1)
    have HS2_1 := Lib.hid (HS2_0.out.next hb1)
    have HS3_1 := Lib.hid (HS3_0.out.next hb1)
    have HB_1 := Lib.hid (bstep HB_0.out hb1)
    have hw_1 := HB_1.out.size
    have hws_1 := (hb1).size
    clear f0_0 HS0_0 hf0_0 f1_0 HS1_0 hf1_0 f2_0 HS2_0 hf2_0 f3_0 HS3_0 hf3_0
    have f0_1 := str6 HS0_1.out
    have hl0_1 := HS0_1.out.lt
    have hf0_1 := fun j => HS0_1.out.frozen j
    have f1_1 := str7 HS1_1.out
    have hl1_1 := HS1_1.out.lt
    have hf1_1 := fun j => HS1_1.out.frozen j
    have f2_1 := str7 HS2_1.out
    have hl2_1 := HS2_1.out.lt
    have hf2_1 := fun j => HS2_1.out.frozen j
    have f3_1 := str6 HS3_1.out
    have hl3_1 := HS3_1.out.lt
    have hf3_1 := fun j => HS3_1.out.frozen j
    rw [HRR.out] at hP hy
    rw [HRR.out]
    simp only [ansV]
    have HPA := Lib.hid hP
    have hn1 : n1 ≤ 2 := by have h1 := hP.len; have h2 := HRL.out; omega
    have HYa_1 := Lib.hid (hy)
    have HM_1 := Lib.hid (bsame W1)
    clear hP hy hb1 HQ
    go_wp2_with fail
    generalize hW2 : W1.alloc (.cells #[.int .i64 r.2.err, .int .i64 r.2.cell.kind, .slice A2 n2 c2, .int .i64 r.2.cell.lo, .int .i64 r.2.cell.hi, .int .i64 r.2.cell.val] 39) = W2
    have HS0_2 := sEq hW2 (HS0_1.out.alloc _)
    have HS1_2 := sEq hW2 (HS1_1.out.alloc _)
    have HS2_2 := sEq hW2 (HS2_1.out.alloc _)
    have HS3_2 := sEq hW2 (HS3_1.out.alloc _)
    have HS4_2 := sEq hW2 (Str.new _ _ _)
    have hba2 : Below W1.heap.size W1 W2 := by rw [← hW2]; exact balloc (bsame _) _
    have HB_2 := Lib.hid (bstep HB_1.out hba2)
    have hw_2 := HB_2.out.size
    have hws_2 := hba2.size
    have HYa_2 := Lib.hid (HYa_1.out.next hba2)
    clear HYa_1
    have hz2 : W2.heap.size = W1.heap.size + 1 := by rw [← hW2]; simp
    clear hW2
    clear f0_1 HS0_1 hf0_1 f1_1 HS1_1 hf1_1 f2_1 HS2_1 hf2_1 f3_1 HS3_1 hf3_1
    have f0_2 := str6 HS0_2.out
    have hl0_2 := HS0_2.out.lt
    have hf0_2 := fun j => HS0_2.out.frozen j
    have f1_2 := str7 HS1_2.out
    have hl1_2 := HS1_2.out.lt
    have hf1_2 := fun j => HS1_2.out.frozen j
    have f2_2 := str7 HS2_2.out
    have hl2_2 := HS2_2.out.lt
    have hf2_2 := fun j => HS2_2.out.frozen j
    have f3_2 := str6 HS3_2.out
    have hl3_2 := HS3_2.out.lt
    have hf3_2 := fun j => HS3_2.out.frozen j
    have f4_2 := str6 HS4_2.out
    have hl4_2 := HS4_2.out.lt
    have HM_2 := Lib.hid (bstep HM_1.out hba2)
    clear HM_1
    generalize hW3 : W2.alloc (.cells #[.int .i64 pst, .string pk, .int .i64 pkd, .slice Ap np cp, .int .i64 plo, .int .i64 phi, .int .i64 pva] 54) = W3
    have HS0_3 := sEq hW3 (HS0_2.out.alloc _)
    have HS1_3 := sEq hW3 (HS1_2.out.alloc _)
    have HS2_3 := sEq hW3 (HS2_2.out.alloc _)
    have HS3_3 := sEq hW3 (HS3_2.out.alloc _)
    have HS4_3 := sEq hW3 (HS4_2.out.alloc _)
    have HS5_3 := sEq hW3 (Str.new _ _ _)
    have hba3 : Below W2.heap.size W2 W3 := by rw [← hW3]; exact balloc (bsame _) _
    have HB_3 := Lib.hid (bstep HB_2.out hba3)
    have hw_3 := HB_3.out.size
    have hws_3 := hba3.size
    have HYa_3 := Lib.hid (HYa_2.out.next hba3)
    clear HYa_2
    clear hW3
    clear f0_2 HS0_2 hf0_2 f1_2 HS1_2 hf1_2 f2_2 HS2_2 hf2_2 f3_2 HS3_2 hf3_2 f4_2 HS4_2
    have f0_3 := str6 HS0_3.out
    have hl0_3 := HS0_3.out.lt
    have hf0_3 := fun j => HS0_3.out.frozen j
    have f1_3 := str7 HS1_3.out
    have hl1_3 := HS1_3.out.lt
    have hf1_3 := fun j => HS1_3.out.frozen j
    have f2_3 := str7 HS2_3.out
    have hl2_3 := HS2_3.out.lt
    have hf2_3 := fun j => HS2_3.out.frozen j
    have f3_3 := str6 HS3_3.out
    have hl3_3 := HS3_3.out.lt
    have hf3_3 := fun j => HS3_3.out.frozen j
    have f4_3 := str6 HS4_3.out
    have hl4_3 := HS4_3.out.lt
    have f5_3 := str7 HS5_3.out
    have hl5_3 := HS5_3.out.lt
    have hf5_3 := fun j => HS5_3.out.frozen j
    have HM_3 := Lib.hid (bstep HM_2.out hba3)
    clear HM_2
    rw [hz2] at HS5_3 hl5_3 f5_3 hf5_3
    refine (UndoW.clone_any Ap np cp W3.heap.size pda _ ((HP.out.below (HB_3.out.mono hBp)).more (Nat.le_trans hBp HB_3.out.size)) (Nat.le_refl _) (by omega)).mono ?_
    rintro e W4 ⟨Ac, nc, cc, rfl, hyc, hb4⟩
    have HS0_4 := Lib.hid (HS0_3.out.next hb4)
    have HS1_4 := Lib.hid (HS1_3.out.next hb4)
    have HS2_4 := Lib.hid (HS2_3.out.next hb4)
    have HS3_4 := Lib.hid (HS3_3.out.next hb4)
    have HS4_4 := Lib.hid (HS4_3.out.next hb4)
    have HS5_4 := Lib.hid (HS5_3.out.next hb4)
    have HB_4 := Lib.hid (bstep HB_3.out hb4)
    have hw_4 := HB_4.out.size
    have hws_4 := (hb4).size
    have HYa_4 := Lib.hid (HYa_3.out.next hb4)
    clear HYa_3
    clear f0_3 HS0_3 hf0_3 f1_3 HS1_3 hf1_3 f2_3 HS2_3 hf2_3 f3_3 HS3_3 hf3_3 f4_3 HS4_3 f5_3 HS5_3 hf5_3
    have f0_4 := str6 HS0_4.out
    have hl0_4 := HS0_4.out.lt
    have hf0_4 := fun j => HS0_4.out.frozen j
    have f1_4 := str7 HS1_4.out
    have hl1_4 := HS1_4.out.lt
    have hf1_4 := fun j => HS1_4.out.frozen j
    have f2_4 := str7 HS2_4.out
    have hl2_4 := HS2_4.out.lt
    have hf2_4 := fun j => HS2_4.out.frozen j
    have f3_4 := str6 HS3_4.out
    have hl3_4 := HS3_4.out.lt
    have hf3_4 := fun j => HS3_4.out.frozen j
    have f4_4 := str6 HS4_4.out
    have hl4_4 := HS4_4.out.lt
    have f5_4 := str7 HS5_4.out
    have hl5_4 := HS5_4.out.lt
    have hf5_4 := fun j => HS5_4.out.frozen j
    have HM_4 := Lib.hid (bstep HM_3.out hb4)
    clear HM_3
    have HYc_4 := Lib.hid (hyc)
    clear hyc hb4
    by_cases he : r.2.err = 0
    case neg =>
      have hd : (r.2.err != 0) = true := by simpa using he
      have HEN := Lib.hid he
      clear he
      go_wp2_with fail
      generalize hW5 : (W4).setCell ⟨W1.heap.size + 1, 3, none⟩ (.slice Ac nc cc) = W5
      have HS5_5 : Hid (Str W5 (W1.heap.size + 1) #[.int .i64 pst, .string pk, .int .i64 pkd, .slice Ac nc cc, .int .i64 plo, .int .i64 phi, .int .i64 pva]) := Lib.hid (by rw [← hW5]; have := (HS5_4.out).set 3 (.slice Ac nc cc); simpa using this)
      have hgr5 : W4.grownBy W5 (some (W1.heap.size + 1)) := by rw [← hW5]; exact grown_set (grown_refl W4 (W1.heap.size + 1)) 3 (_)
      have HS0_5 := Lib.hid (HS0_4.out.grown hgr5 (by omega))
      have HS1_5 := Lib.hid (HS1_4.out.grown hgr5 (by omega))
      have HS2_5 := Lib.hid (HS2_4.out.grown hgr5 (by omega))
      have HS3_5 := Lib.hid (HS3_4.out.grown hgr5 (by omega))
      have HS4_5 := Lib.hid (HS4_4.out.grown hgr5 (by omega))
      have HB_5 := Lib.hid (below_grown HB_4.out hgr5 (by omega))
      have hw_5 := HB_5.out.size
      have hws_5 := hgr5.size
      have HYa_5 := Lib.hid ((Bytes.grown HYa_4.out (Nat.le_refl _) HS5_4.out rfl hgr5).more hws_5)
      have HYc_5 := Lib.hid ((Bytes.grown HYc_4.out (Nat.le_refl _) HS5_4.out rfl hgr5).more hws_5)
      clear HYa_4 HYc_4
      have HM_5 : Hid (Below W1.heap.size W1 W5) := Lib.hid (below_grown HM_4.out hgr5 (by omega))
      clear hW5
      clear f0_4 HS0_4 hf0_4 f1_4 HS1_4 hf1_4 f2_4 HS2_4 hf2_4 f3_4 HS3_4 hf3_4 f4_4 HS4_4 f5_4 HS5_4 hf5_4
      clear hgr5
      have f0_5 := str6 HS0_5.out
      have hl0_5 := HS0_5.out.lt
      have hf0_5 := fun j => HS0_5.out.frozen j
      have f1_5 := str7 HS1_5.out
      have hl1_5 := HS1_5.out.lt
      have hf1_5 := fun j => HS1_5.out.frozen j
      have f2_5 := str7 HS2_5.out
      have hl2_5 := HS2_5.out.lt
      have hf2_5 := fun j => HS2_5.out.frozen j
      have f3_5 := str6 HS3_5.out
      have hl3_5 := HS3_5.out.lt
      have hf3_5 := fun j => HS3_5.out.frozen j
      have f4_5 := str6 HS4_5.out
      have hl4_5 := HS4_5.out.lt
      have f5_5 := str7 HS5_5.out
      have hl5_5 := HS5_5.out.lt
      have hf5_5 := fun j => HS5_5.out.frozen j
      have HNU : Hid (∀ b ∈ ([w.heap.size + 1 + 1, w.heap.size + 1 + 1 + 1] : List Nat), ∃ cs, Str W5 b cs ∧ notU8 cs = true) := Lib.hid (by intro b hb; simp only [List.mem_cons, List.not_mem_nil, or_false] at hb; rcases hb with rfl | rfl <;> first | exact ⟨_, HS2_5.out, rfl⟩ | exact ⟨_, HS3_5.out, rfl⟩)
      have hOK : Reg.okS W5.heap.size (Reg.BxS.mk [] (fun t => if t = 4 then #[.int .i64 0, .string ⟨#[]⟩, .int .i64 0, .slice none 0 0, .int .i64 0, .int .i64 0, .int .i64 0] else if t = 5 then #[.int .i64 0, .int .i64 0, .slice none 0 0, .int .i64 0, .int .i64 0, .int .i64 0] else #[]) (fun t => if t = 4 then (Reg.rowM (Reg.eqM (.agg #[.int .i64 pst, .string pk, .int .i64 pkd, .slice Ac nc cc, .int .i64 plo, .int .i64 phi, .int .i64 pva]))) else if t = 5 then (Reg.rowM (Reg.eqM (.agg #[.int .i64 r.2.err, .int .i64 r.2.cell.kind, .slice A2 n2 c2, .int .i64 r.2.cell.lo, .int .i64 r.2.cell.hi, .int .i64 r.2.cell.val]))) else (Reg.rowM (Reg.eqM undef))) [] (fun t => (Reg.eqM undef)) [(4, w.heap.size + 1 + 1, 2), (5, w.heap.size + 1 + 1 + 1, 3)]) := Reg.okS_of rfl (by first | exact List.pairwise_singleton _ _ | simp) (by intro k hk; have hk : k ∈ ([(4, w.heap.size + 1 + 1, 2), (5, w.heap.size + 1 + 1 + 1, 3)] : List (Tmp × Nat × Nat)) := hk; simp only [List.mem_cons, List.not_mem_nil, or_false] at hk; rcases hk with rfl | rfl <;> (dsimp only; omega))
      refine Reg.wp_region_box (R := (Reg.extB W5.heap.size (Reg.BxS.b0 (Reg.BxS.mk [] (fun t => if t = 4 then #[.int .i64 0, .string ⟨#[]⟩, .int .i64 0, .slice none 0 0, .int .i64 0, .int .i64 0, .int .i64 0] else if t = 5 then #[.int .i64 0, .int .i64 0, .slice none 0 0, .int .i64 0, .int .i64 0, .int .i64 0] else #[]) (fun t => if t = 4 then (Reg.rowM (Reg.eqM (.agg #[.int .i64 pst, .string pk, .int .i64 pkd, .slice Ac nc cc, .int .i64 plo, .int .i64 phi, .int .i64 pva]))) else if t = 5 then (Reg.rowM (Reg.eqM (.agg #[.int .i64 r.2.err, .int .i64 r.2.cell.kind, .slice A2 n2 c2, .int .i64 r.2.cell.lo, .int .i64 r.2.cell.hi, .int .i64 r.2.cell.val]))) else (Reg.rowM (Reg.eqM undef))) [] (fun t => (Reg.eqM undef)) [(4, w.heap.size + 1 + 1, 2), (5, w.heap.size + 1 + 1 + 1, 3)])))) (W := W5) (Reg.BJ W5.heap.size (Reg.BxS.mk [] (fun t => if t = 4 then #[.int .i64 0, .string ⟨#[]⟩, .int .i64 0, .slice none 0 0, .int .i64 0, .int .i64 0, .int .i64 0] else if t = 5 then #[.int .i64 0, .int .i64 0, .slice none 0 0, .int .i64 0, .int .i64 0, .int .i64 0] else #[]) (fun t => if t = 4 then (Reg.rowM (Reg.eqM (.agg #[.int .i64 pst, .string pk, .int .i64 pkd, .slice Ac nc cc, .int .i64 plo, .int .i64 phi, .int .i64 pva]))) else if t = 5 then (Reg.rowM (Reg.eqM (.agg #[.int .i64 r.2.err, .int .i64 r.2.cell.kind, .slice A2 n2 c2, .int .i64 r.2.cell.lo, .int .i64 r.2.cell.hi, .int .i64 r.2.cell.val]))) else (Reg.rowM (Reg.eqM undef))) [] (fun t => (Reg.eqM undef)) [(4, w.heap.size + 1 + 1, 2), (5, w.heap.size + 1 + 1 + 1, 3)])) [Reg.eqv (.agg #[.int .i64 pst, .string pk, .int .i64 pkd, .slice Ac nc cc, .int .i64 plo, .int .i64 phi, .int .i64 pva]), Reg.eqv (.agg #[.int .i64 r.2.err, .int .i64 r.2.cell.kind, .slice A2 n2 c2, .int .i64 r.2.cell.lo, .int .i64 r.2.cell.hi, .int .i64 r.2.cell.val]), Reg.any, Reg.any] 68 [[(8, none)], [(7, none)], [(4, none), (36, some 0)], [(5, none), (37, some 1)]] rfl (by kernel_rfl) (by kernel_rfl) (fun _ h => Reg.bj_zero (by intro k hk; have hk : k ∈ ([(4, w.heap.size + 1 + 1, 2), (5, w.heap.size + 1 + 1 + 1, 3)] : List (Tmp × Nat × Nat)) := hk; simp only [List.mem_cons, List.not_mem_nil, or_false] at hk; rcases hk with rfl | rfl <;> first | exact ⟨HS2_5.out, rfl⟩ | exact ⟨HS3_5.out, rfl⟩) h) (by kernel_rfl) ?_ [some 36, some 37, none, none] (by kernel_rfl) ?_
      · refine ⟨?_, ?_, ?_, ?_, trivial⟩
        · refine Reg.oblB_pure rfl rfl rfl ?_
          intro ax wx hx hs hmm
          replace hx : Reg.KeepB W5.heap.size [w.heap.size + 1 + 1, w.heap.size + 1 + 1 + 1] W5 wx := hx
          have hxB : Below w.heap.size W5 wx := hx.below (by omega) (by intro b hb; have hb : b ∈ ([w.heap.size + 1 + 1, w.heap.size + 1 + 1 + 1] : List Nat) := hb; simp only [List.mem_cons, List.not_mem_nil, or_false] at hb; rcases hb with rfl | rfl <;> omega)
          obtain ⟨e8, -⟩ := hs
          have g8 := Reg.ev (v := .pointer (some ⟨W1.heap.size + 1, 0, none⟩)) e8
          obtain ⟨l0_0, l0_1, l0_2, l0_3, l0_4, l0_5⟩ := str6 (hx.str HS0_5.out (by omega) (by simp only [List.mem_cons, List.not_mem_nil, or_false, not_or]; omega))
          obtain ⟨l1_0, l1_1, l1_2, l1_3, l1_4, l1_5, l1_6⟩ := str7 (hx.str HS1_5.out (by omega) (by simp only [List.mem_cons, List.not_mem_nil, or_false, not_or]; omega))
          obtain ⟨l4_0, l4_1, l4_2, l4_3, l4_4, l4_5⟩ := str6 (hx.str HS4_5.out (by omega) (by simp only [List.mem_cons, List.not_mem_nil, or_false, not_or]; omega))
          obtain ⟨l5_0, l5_1, l5_2, l5_3, l5_4, l5_5, l5_6⟩ := str7 (hx.str HS5_5.out (by omega) (by simp only [List.mem_cons, List.not_mem_nil, or_false, not_or]; omega))
          exact (Reg.wp_eqvB (Option.some_ne_none _) (by go_simp) rfl)
        · refine Reg.oblB_pure rfl rfl rfl ?_
          intro ax wx hx hs hmm
          replace hx : Reg.KeepB W5.heap.size [w.heap.size + 1 + 1, w.heap.size + 1 + 1 + 1] W5 wx := hx
          have hxB : Below w.heap.size W5 wx := hx.below (by omega) (by intro b hb; have hb : b ∈ ([w.heap.size + 1 + 1, w.heap.size + 1 + 1 + 1] : List Nat) := hb; simp only [List.mem_cons, List.not_mem_nil, or_false] at hb; rcases hb with rfl | rfl <;> omega)
          obtain ⟨e7, -⟩ := hs
          have g7 := Reg.ev (v := .pointer (some ⟨W1.heap.size, 0, none⟩)) e7
          obtain ⟨l0_0, l0_1, l0_2, l0_3, l0_4, l0_5⟩ := str6 (hx.str HS0_5.out (by omega) (by simp only [List.mem_cons, List.not_mem_nil, or_false, not_or]; omega))
          obtain ⟨l1_0, l1_1, l1_2, l1_3, l1_4, l1_5, l1_6⟩ := str7 (hx.str HS1_5.out (by omega) (by simp only [List.mem_cons, List.not_mem_nil, or_false, not_or]; omega))
          obtain ⟨l4_0, l4_1, l4_2, l4_3, l4_4, l4_5⟩ := str6 (hx.str HS4_5.out (by omega) (by simp only [List.mem_cons, List.not_mem_nil, or_false, not_or]; omega))
          obtain ⟨l5_0, l5_1, l5_2, l5_3, l5_4, l5_5, l5_6⟩ := str7 (hx.str HS5_5.out (by omega) (by simp only [List.mem_cons, List.not_mem_nil, or_false, not_or]; omega))
          exact (Reg.wp_eqvB (Option.some_ne_none _) (by go_simp) rfl)
        · refine Reg.oblB_store0 rfl rfl hOK (t := 4) (g := w.heap.size + 1 + 1) (List.mem_of_getElem? (i := 0) rfl) rfl (by show 2 < 4; decide) (fun _ _ => trivial) ?_
          intro ax wx rb hx hrb hs hmm hS
          replace hx : Reg.KeepB W5.heap.size [w.heap.size + 1 + 1, w.heap.size + 1 + 1 + 1] W5 wx := hx
          have hxB : Below w.heap.size W5 wx := hx.below (by omega) (by intro b hb; have hb : b ∈ ([w.heap.size + 1 + 1, w.heap.size + 1 + 1 + 1] : List Nat) := hb; simp only [List.mem_cons, List.not_mem_nil, or_false] at hb; rcases hb with rfl | rfl <;> omega)
          obtain ⟨e4, e36, -⟩ := hs
          have g4 := Reg.ev (v := .pointer (some ⟨w.heap.size + 1 + 1, 0, none⟩)) e4
          have g36 := Reg.ev (v := .agg #[.int .i64 pst, .string pk, .int .i64 pkd, .slice Ac nc cc, .int .i64 plo, .int .i64 phi, .int .i64 pva]) e36
          exact Reg.st_box rfl (Reg.run_st_box rfl e4 e36 hS rfl (by kernel_rfl) rfl) rfl rfl
        · refine Reg.oblB_store0 rfl rfl hOK (t := 5) (g := w.heap.size + 1 + 1 + 1) (List.mem_of_getElem? (i := 1) rfl) rfl (by show 3 < 4; decide) (fun _ _ => trivial) ?_
          intro ax wx rb hx hrb hs hmm hS
          replace hx : Reg.KeepB W5.heap.size [w.heap.size + 1 + 1, w.heap.size + 1 + 1 + 1] W5 wx := hx
          have hxB : Below w.heap.size W5 wx := hx.below (by omega) (by intro b hb; have hb : b ∈ ([w.heap.size + 1 + 1, w.heap.size + 1 + 1 + 1] : List Nat) := hb; simp only [List.mem_cons, List.not_mem_nil, or_false] at hb; rcases hb with rfl | rfl <;> omega)
          obtain ⟨e5, e37, -⟩ := hs
          have g5 := Reg.ev (v := .pointer (some ⟨w.heap.size + 1 + 1 + 1, 0, none⟩)) e5
          have g37 := Reg.ev (v := .agg #[.int .i64 r.2.err, .int .i64 r.2.cell.kind, .slice A2 n2 c2, .int .i64 r.2.cell.lo, .int .i64 r.2.cell.hi, .int .i64 r.2.cell.val]) e37
          exact Reg.st_box rfl (Reg.run_st_box rfl e5 e37 hS rfl (by kernel_rfl) rfl) rfl rfl
      · intro W6 listed hwf hall
        simp only [Reg.Fin]
        rintro _ rfl _ rfl vn2 hn2 vn3 hn3
        intro hJ
        obtain ⟨hJM, hJB, hJN, hJ0⟩ := Reg.bj_end (n := 4) hall (by show ∀ b ∈ ([] : List (Nat × Tmp × Nat)), b.1 < 4 ∧ b.2.2 < 4; decide) (by show ∀ m ∈ ([] : List (Nat × Tmp)), m.1 < 4; decide) (by show ∀ k ∈ ([2, 3] : List Nat), k < 4; decide) hJ
        obtain ⟨cs4, hS4, hX4⟩ := hJ0 (4, w.heap.size + 1 + 1, 2) (List.mem_of_getElem? (i := 0) rfl)
        have hX4 : (Reg.rowM (Reg.eqM (.agg #[.int .i64 pst, .string pk, .int .i64 pkd, .slice Ac nc cc, .int .i64 plo, .int .i64 phi, .int .i64 pva]))).pred cs4 W6 W6.heap.size := hX4
        obtain ⟨cs5, hS5, hX5⟩ := hJ0 (5, w.heap.size + 1 + 1 + 1, 3) (List.mem_of_getElem? (i := 1) rfl)
        have hX5 : (Reg.rowM (Reg.eqM (.agg #[.int .i64 r.2.err, .int .i64 r.2.cell.kind, .slice A2 n2 c2, .int .i64 r.2.cell.lo, .int .i64 r.2.cell.hi, .int .i64 r.2.cell.val]))).pred cs5 W6 W6.heap.size := hX5
        clear hJM hJB hJN hJ0 hJ hall 
        go_simp
        replace hwf : Reg.KeepB W5.heap.size [w.heap.size + 1 + 1, w.heap.size + 1 + 1 + 1] W5 W6 := hwf
        have hbw : Below w.heap.size W5 W6 := hwf.below (by omega) (by intro b hb; simp only [List.mem_cons, List.not_mem_nil, or_false] at hb; rcases hb with rfl | rfl <;> omega)
        have HS0_6 := Lib.hid (hwf.str HS0_5.out (by omega) (by simp only [List.mem_cons, List.not_mem_nil, or_false, not_or]; omega))
        have HS1_6 := Lib.hid (hwf.str HS1_5.out (by omega) (by simp only [List.mem_cons, List.not_mem_nil, or_false, not_or]; omega))
        have HS4_6 := Lib.hid (hwf.str HS4_5.out (by omega) (by simp only [List.mem_cons, List.not_mem_nil, or_false, not_or]; omega))
        have HS5_6 := Lib.hid (hwf.str HS5_5.out (by omega) (by simp only [List.mem_cons, List.not_mem_nil, or_false, not_or]; omega))
        have HB_6 := Lib.hid (HB_5.out.trans hbw)
        have hw_6 := HB_6.out.size
        have hws_6 := hbw.size
        have HYa_6 := Lib.hid ((HYa_5.out.keepB (Nat.le_refl _) HNU.out hwf).more hws_6)
        clear HYa_5
        have HYc_6 := Lib.hid ((HYc_5.out.keepB (Nat.le_refl _) HNU.out hwf).more hws_6)
        clear HYc_5
        have HS2_6 := Lib.hid hS4
        clear hS4
        have HS3_6 := Lib.hid hS5
        clear hS5
        clear f0_5 HS0_5 hf0_5 f1_5 HS1_5 hf1_5 f2_5 HS2_5 hf2_5 f3_5 HS3_5 hf3_5 f4_5 HS4_5 f5_5 HS5_5 hf5_5
        clear HNU
        clear hwf hbw hOK
        have e4 : cs4 = #[.int .i64 pst, .string pk, .int .i64 pkd, .slice Ac nc cc, .int .i64 plo, .int .i64 phi, .int .i64 pva] := by injection hX4
        have e5 : cs5 = #[.int .i64 r.2.err, .int .i64 r.2.cell.kind, .slice A2 n2 c2, .int .i64 r.2.cell.lo, .int .i64 r.2.cell.hi, .int .i64 r.2.cell.val] := by injection hX5
        subst e4 e5
        clear hX4 hX5
        have f0_6 := str6 HS0_6.out
        have hl0_6 := HS0_6.out.lt
        have hf0_6 := fun j => HS0_6.out.frozen j
        have f1_6 := str7 HS1_6.out
        have hl1_6 := HS1_6.out.lt
        have hf1_6 := fun j => HS1_6.out.frozen j
        have f2_6 := str7 HS2_6.out
        have hl2_6 := HS2_6.out.lt
        have hf2_6 := fun j => HS2_6.out.frozen j
        have f3_6 := str6 HS3_6.out
        have hl3_6 := HS3_6.out.lt
        have hf3_6 := fun j => HS3_6.out.frozen j
        have f4_6 := str6 HS4_6.out
        have hl4_6 := HS4_6.out.lt
        have f5_6 := str7 HS5_6.out
        have hl5_6 := HS5_6.out.lt
        have hf5_6 := fun j => HS5_6.out.frozen j
        go_wp2_with fail
        refine bodyPost_ret (v := .tuple #[.agg #[.int .i64 pst, .string pk, .int .i64 pkd, .slice Ac nc cc, .int .i64 plo, .int .i64 phi, .int .i64 pva], .agg #[.int .i64 r.2.err, .int .i64 r.2.cell.kind, .slice A2 n2 c2, .int .i64 r.2.cell.lo, .int .i64 r.2.cell.hi, .int .i64 r.2.cell.val]]) (by simp [results, Try.results36, go_sem, *]) rfl ?_
        rw [slot_err HRR.out HEN.out]
        exact ⟨Ac, nc, cc, A2, n2, c2, rfl, HYc_6.out, HYa_6.out, HB_6.out⟩
    case pos =>
      have hd : (r.2.err != 0) = false := by simpa using he
      have HE := Lib.hid he
      have hA := act_in HRR.out he
      dsimp only at hA
      clear he
      rcases hA with rfl | rfl | hA
      · go_wp2_with fail
        generalize hW5 : (W4).setCell ⟨W1.heap.size + 1, 3, none⟩ (.slice Ac nc cc) = W5
        have HS5_5 : Hid (Str W5 (W1.heap.size + 1) #[.int .i64 pst, .string pk, .int .i64 pkd, .slice Ac nc cc, .int .i64 plo, .int .i64 phi, .int .i64 pva]) := Lib.hid (by rw [← hW5]; have := (HS5_4.out).set 3 (.slice Ac nc cc); simpa using this)
        have hgr5 : W4.grownBy W5 (some (W1.heap.size + 1)) := by rw [← hW5]; exact grown_set (grown_refl W4 (W1.heap.size + 1)) 3 (_)
        have HS0_5 := Lib.hid (HS0_4.out.grown hgr5 (by omega))
        have HS1_5 := Lib.hid (HS1_4.out.grown hgr5 (by omega))
        have HS2_5 := Lib.hid (HS2_4.out.grown hgr5 (by omega))
        have HS3_5 := Lib.hid (HS3_4.out.grown hgr5 (by omega))
        have HS4_5 := Lib.hid (HS4_4.out.grown hgr5 (by omega))
        have HB_5 := Lib.hid (below_grown HB_4.out hgr5 (by omega))
        have hw_5 := HB_5.out.size
        have hws_5 := hgr5.size
        have HYa_5 := Lib.hid ((Bytes.grown HYa_4.out (Nat.le_refl _) HS5_4.out rfl hgr5).more hws_5)
        have HYc_5 := Lib.hid ((Bytes.grown HYc_4.out (Nat.le_refl _) HS5_4.out rfl hgr5).more hws_5)
        clear HYa_4 HYc_4
        have HM_5 : Hid (Below W1.heap.size W1 W5) := Lib.hid (below_grown HM_4.out hgr5 (by omega))
        clear hW5
        clear f0_4 HS0_4 hf0_4 f1_4 HS1_4 hf1_4 f2_4 HS2_4 hf2_4 f3_4 HS3_4 hf3_4 f4_4 HS4_4 f5_4 HS5_4 hf5_4
        clear hgr5
        have f0_5 := str6 HS0_5.out
        have hl0_5 := HS0_5.out.lt
        have hf0_5 := fun j => HS0_5.out.frozen j
        have f1_5 := str7 HS1_5.out
        have hl1_5 := HS1_5.out.lt
        have hf1_5 := fun j => HS1_5.out.frozen j
        have f2_5 := str7 HS2_5.out
        have hl2_5 := HS2_5.out.lt
        have hf2_5 := fun j => HS2_5.out.frozen j
        have f3_5 := str6 HS3_5.out
        have hl3_5 := HS3_5.out.lt
        have hf3_5 := fun j => HS3_5.out.frozen j
        have f4_5 := str6 HS4_5.out
        have hl4_5 := HS4_5.out.lt
        have f5_5 := str7 HS5_5.out
        have hl5_5 := HS5_5.out.lt
        have hf5_5 := fun j => HS5_5.out.frozen j
        have HNU : Hid (∀ b ∈ ([w.heap.size + 1 + 1, w.heap.size + 1 + 1 + 1] : List Nat), ∃ cs, Str W5 b cs ∧ notU8 cs = true) := Lib.hid (by intro b hb; simp only [List.mem_cons, List.not_mem_nil, or_false] at hb; rcases hb with rfl | rfl <;> first | exact ⟨_, HS2_5.out, rfl⟩ | exact ⟨_, HS3_5.out, rfl⟩)
        have hOK : Reg.okS W5.heap.size (Reg.BxS.mk [] (fun t => if t = 4 then #[.int .i64 0, .string ⟨#[]⟩, .int .i64 0, .slice none 0 0, .int .i64 0, .int .i64 0, .int .i64 0] else if t = 5 then #[.int .i64 0, .int .i64 0, .slice none 0 0, .int .i64 0, .int .i64 0, .int .i64 0] else #[]) (fun t => if t = 4 then (Reg.rowM (Reg.eqM (.agg #[.int .i64 pst, .string pk, .int .i64 pkd, .slice Ac nc cc, .int .i64 plo, .int .i64 phi, .int .i64 pva]))) else if t = 5 then (Reg.rowM (Reg.eqM (.agg #[.int .i64 r.2.err, .int .i64 r.2.cell.kind, .slice A2 n2 c2, .int .i64 r.2.cell.lo, .int .i64 r.2.cell.hi, .int .i64 r.2.cell.val]))) else (Reg.rowM (Reg.eqM undef))) [] (fun t => (Reg.eqM undef)) [(4, w.heap.size + 1 + 1, 2), (5, w.heap.size + 1 + 1 + 1, 3)]) := Reg.okS_of rfl (by first | exact List.pairwise_singleton _ _ | simp) (by intro k hk; have hk : k ∈ ([(4, w.heap.size + 1 + 1, 2), (5, w.heap.size + 1 + 1 + 1, 3)] : List (Tmp × Nat × Nat)) := hk; simp only [List.mem_cons, List.not_mem_nil, or_false] at hk; rcases hk with rfl | rfl <;> (dsimp only; omega))
        refine Reg.wp_region_box (R := (Reg.extB W5.heap.size (Reg.BxS.b0 (Reg.BxS.mk [] (fun t => if t = 4 then #[.int .i64 0, .string ⟨#[]⟩, .int .i64 0, .slice none 0 0, .int .i64 0, .int .i64 0, .int .i64 0] else if t = 5 then #[.int .i64 0, .int .i64 0, .slice none 0 0, .int .i64 0, .int .i64 0, .int .i64 0] else #[]) (fun t => if t = 4 then (Reg.rowM (Reg.eqM (.agg #[.int .i64 pst, .string pk, .int .i64 pkd, .slice Ac nc cc, .int .i64 plo, .int .i64 phi, .int .i64 pva]))) else if t = 5 then (Reg.rowM (Reg.eqM (.agg #[.int .i64 r.2.err, .int .i64 r.2.cell.kind, .slice A2 n2 c2, .int .i64 r.2.cell.lo, .int .i64 r.2.cell.hi, .int .i64 r.2.cell.val]))) else (Reg.rowM (Reg.eqM undef))) [] (fun t => (Reg.eqM undef)) [(4, w.heap.size + 1 + 1, 2), (5, w.heap.size + 1 + 1 + 1, 3)])))) (W := W5) (Reg.BJ W5.heap.size (Reg.BxS.mk [] (fun t => if t = 4 then #[.int .i64 0, .string ⟨#[]⟩, .int .i64 0, .slice none 0 0, .int .i64 0, .int .i64 0, .int .i64 0] else if t = 5 then #[.int .i64 0, .int .i64 0, .slice none 0 0, .int .i64 0, .int .i64 0, .int .i64 0] else #[]) (fun t => if t = 4 then (Reg.rowM (Reg.eqM (.agg #[.int .i64 pst, .string pk, .int .i64 pkd, .slice Ac nc cc, .int .i64 plo, .int .i64 phi, .int .i64 pva]))) else if t = 5 then (Reg.rowM (Reg.eqM (.agg #[.int .i64 r.2.err, .int .i64 r.2.cell.kind, .slice A2 n2 c2, .int .i64 r.2.cell.lo, .int .i64 r.2.cell.hi, .int .i64 r.2.cell.val]))) else (Reg.rowM (Reg.eqM undef))) [] (fun t => (Reg.eqM undef)) [(4, w.heap.size + 1 + 1, 2), (5, w.heap.size + 1 + 1 + 1, 3)])) [Reg.eqv (.agg #[.int .i64 pst, .string pk, .int .i64 pkd, .slice Ac nc cc, .int .i64 plo, .int .i64 phi, .int .i64 pva]), Reg.eqv (.agg #[.int .i64 r.2.err, .int .i64 r.2.cell.kind, .slice A2 n2 c2, .int .i64 r.2.cell.lo, .int .i64 r.2.cell.hi, .int .i64 r.2.cell.val]), Reg.any, Reg.any] 68 [[(8, none)], [(7, none)], [(4, none), (66, some 0)], [(5, none), (67, some 1)]] rfl (by kernel_rfl) (by kernel_rfl) (fun _ h => Reg.bj_zero (by intro k hk; have hk : k ∈ ([(4, w.heap.size + 1 + 1, 2), (5, w.heap.size + 1 + 1 + 1, 3)] : List (Tmp × Nat × Nat)) := hk; simp only [List.mem_cons, List.not_mem_nil, or_false] at hk; rcases hk with rfl | rfl <;> first | exact ⟨HS2_5.out, rfl⟩ | exact ⟨HS3_5.out, rfl⟩) h) (by kernel_rfl) ?_ [some 66, some 67, none, none] (by kernel_rfl) ?_
        · refine ⟨?_, ?_, ?_, ?_, trivial⟩
          · refine Reg.oblB_pure rfl rfl rfl ?_
            intro ax wx hx hs hmm
            replace hx : Reg.KeepB W5.heap.size [w.heap.size + 1 + 1, w.heap.size + 1 + 1 + 1] W5 wx := hx
            have hxB : Below w.heap.size W5 wx := hx.below (by omega) (by intro b hb; have hb : b ∈ ([w.heap.size + 1 + 1, w.heap.size + 1 + 1 + 1] : List Nat) := hb; simp only [List.mem_cons, List.not_mem_nil, or_false] at hb; rcases hb with rfl | rfl <;> omega)
            obtain ⟨e8, -⟩ := hs
            have g8 := Reg.ev (v := .pointer (some ⟨W1.heap.size + 1, 0, none⟩)) e8
            obtain ⟨l0_0, l0_1, l0_2, l0_3, l0_4, l0_5⟩ := str6 (hx.str HS0_5.out (by omega) (by simp only [List.mem_cons, List.not_mem_nil, or_false, not_or]; omega))
            obtain ⟨l1_0, l1_1, l1_2, l1_3, l1_4, l1_5, l1_6⟩ := str7 (hx.str HS1_5.out (by omega) (by simp only [List.mem_cons, List.not_mem_nil, or_false, not_or]; omega))
            obtain ⟨l4_0, l4_1, l4_2, l4_3, l4_4, l4_5⟩ := str6 (hx.str HS4_5.out (by omega) (by simp only [List.mem_cons, List.not_mem_nil, or_false, not_or]; omega))
            obtain ⟨l5_0, l5_1, l5_2, l5_3, l5_4, l5_5, l5_6⟩ := str7 (hx.str HS5_5.out (by omega) (by simp only [List.mem_cons, List.not_mem_nil, or_false, not_or]; omega))
            exact (Reg.wp_eqvB (Option.some_ne_none _) (by go_simp) rfl)
          · refine Reg.oblB_pure rfl rfl rfl ?_
            intro ax wx hx hs hmm
            replace hx : Reg.KeepB W5.heap.size [w.heap.size + 1 + 1, w.heap.size + 1 + 1 + 1] W5 wx := hx
            have hxB : Below w.heap.size W5 wx := hx.below (by omega) (by intro b hb; have hb : b ∈ ([w.heap.size + 1 + 1, w.heap.size + 1 + 1 + 1] : List Nat) := hb; simp only [List.mem_cons, List.not_mem_nil, or_false] at hb; rcases hb with rfl | rfl <;> omega)
            obtain ⟨e7, -⟩ := hs
            have g7 := Reg.ev (v := .pointer (some ⟨W1.heap.size, 0, none⟩)) e7
            obtain ⟨l0_0, l0_1, l0_2, l0_3, l0_4, l0_5⟩ := str6 (hx.str HS0_5.out (by omega) (by simp only [List.mem_cons, List.not_mem_nil, or_false, not_or]; omega))
            obtain ⟨l1_0, l1_1, l1_2, l1_3, l1_4, l1_5, l1_6⟩ := str7 (hx.str HS1_5.out (by omega) (by simp only [List.mem_cons, List.not_mem_nil, or_false, not_or]; omega))
            obtain ⟨l4_0, l4_1, l4_2, l4_3, l4_4, l4_5⟩ := str6 (hx.str HS4_5.out (by omega) (by simp only [List.mem_cons, List.not_mem_nil, or_false, not_or]; omega))
            obtain ⟨l5_0, l5_1, l5_2, l5_3, l5_4, l5_5, l5_6⟩ := str7 (hx.str HS5_5.out (by omega) (by simp only [List.mem_cons, List.not_mem_nil, or_false, not_or]; omega))
            exact (Reg.wp_eqvB (Option.some_ne_none _) (by go_simp) rfl)
          · refine Reg.oblB_store0 rfl rfl hOK (t := 4) (g := w.heap.size + 1 + 1) (List.mem_of_getElem? (i := 0) rfl) rfl (by show 2 < 4; decide) (fun _ _ => trivial) ?_
            intro ax wx rb hx hrb hs hmm hS
            replace hx : Reg.KeepB W5.heap.size [w.heap.size + 1 + 1, w.heap.size + 1 + 1 + 1] W5 wx := hx
            have hxB : Below w.heap.size W5 wx := hx.below (by omega) (by intro b hb; have hb : b ∈ ([w.heap.size + 1 + 1, w.heap.size + 1 + 1 + 1] : List Nat) := hb; simp only [List.mem_cons, List.not_mem_nil, or_false] at hb; rcases hb with rfl | rfl <;> omega)
            obtain ⟨e4, e66, -⟩ := hs
            have g4 := Reg.ev (v := .pointer (some ⟨w.heap.size + 1 + 1, 0, none⟩)) e4
            have g66 := Reg.ev (v := .agg #[.int .i64 pst, .string pk, .int .i64 pkd, .slice Ac nc cc, .int .i64 plo, .int .i64 phi, .int .i64 pva]) e66
            exact Reg.st_box rfl (Reg.run_st_box rfl e4 e66 hS rfl (by kernel_rfl) rfl) rfl rfl
          · refine Reg.oblB_store0 rfl rfl hOK (t := 5) (g := w.heap.size + 1 + 1 + 1) (List.mem_of_getElem? (i := 1) rfl) rfl (by show 3 < 4; decide) (fun _ _ => trivial) ?_
            intro ax wx rb hx hrb hs hmm hS
            replace hx : Reg.KeepB W5.heap.size [w.heap.size + 1 + 1, w.heap.size + 1 + 1 + 1] W5 wx := hx
            have hxB : Below w.heap.size W5 wx := hx.below (by omega) (by intro b hb; have hb : b ∈ ([w.heap.size + 1 + 1, w.heap.size + 1 + 1 + 1] : List Nat) := hb; simp only [List.mem_cons, List.not_mem_nil, or_false] at hb; rcases hb with rfl | rfl <;> omega)
            obtain ⟨e5, e67, -⟩ := hs
            have g5 := Reg.ev (v := .pointer (some ⟨w.heap.size + 1 + 1 + 1, 0, none⟩)) e5
            have g67 := Reg.ev (v := .agg #[.int .i64 r.2.err, .int .i64 r.2.cell.kind, .slice A2 n2 c2, .int .i64 r.2.cell.lo, .int .i64 r.2.cell.hi, .int .i64 r.2.cell.val]) e67
            exact Reg.st_box rfl (Reg.run_st_box rfl e5 e67 hS rfl (by kernel_rfl) rfl) rfl rfl
        · intro W6 listed hwf hall
          simp only [Reg.Fin]
          rintro _ rfl _ rfl vn2 hn2 vn3 hn3
          intro hJ
          obtain ⟨hJM, hJB, hJN, hJ0⟩ := Reg.bj_end (n := 4) hall (by show ∀ b ∈ ([] : List (Nat × Tmp × Nat)), b.1 < 4 ∧ b.2.2 < 4; decide) (by show ∀ m ∈ ([] : List (Nat × Tmp)), m.1 < 4; decide) (by show ∀ k ∈ ([2, 3] : List Nat), k < 4; decide) hJ
          obtain ⟨cs4, hS4, hX4⟩ := hJ0 (4, w.heap.size + 1 + 1, 2) (List.mem_of_getElem? (i := 0) rfl)
          have hX4 : (Reg.rowM (Reg.eqM (.agg #[.int .i64 pst, .string pk, .int .i64 pkd, .slice Ac nc cc, .int .i64 plo, .int .i64 phi, .int .i64 pva]))).pred cs4 W6 W6.heap.size := hX4
          obtain ⟨cs5, hS5, hX5⟩ := hJ0 (5, w.heap.size + 1 + 1 + 1, 3) (List.mem_of_getElem? (i := 1) rfl)
          have hX5 : (Reg.rowM (Reg.eqM (.agg #[.int .i64 r.2.err, .int .i64 r.2.cell.kind, .slice A2 n2 c2, .int .i64 r.2.cell.lo, .int .i64 r.2.cell.hi, .int .i64 r.2.cell.val]))).pred cs5 W6 W6.heap.size := hX5
          clear hJM hJB hJN hJ0 hJ hall 
          go_simp
          replace hwf : Reg.KeepB W5.heap.size [w.heap.size + 1 + 1, w.heap.size + 1 + 1 + 1] W5 W6 := hwf
          have hbw : Below w.heap.size W5 W6 := hwf.below (by omega) (by intro b hb; simp only [List.mem_cons, List.not_mem_nil, or_false] at hb; rcases hb with rfl | rfl <;> omega)
          have HS0_6 := Lib.hid (hwf.str HS0_5.out (by omega) (by simp only [List.mem_cons, List.not_mem_nil, or_false, not_or]; omega))
          have HS1_6 := Lib.hid (hwf.str HS1_5.out (by omega) (by simp only [List.mem_cons, List.not_mem_nil, or_false, not_or]; omega))
          have HS4_6 := Lib.hid (hwf.str HS4_5.out (by omega) (by simp only [List.mem_cons, List.not_mem_nil, or_false, not_or]; omega))
          have HS5_6 := Lib.hid (hwf.str HS5_5.out (by omega) (by simp only [List.mem_cons, List.not_mem_nil, or_false, not_or]; omega))
          have HB_6 := Lib.hid (HB_5.out.trans hbw)
          have hw_6 := HB_6.out.size
          have hws_6 := hbw.size
          have HYa_6 := Lib.hid ((HYa_5.out.keepB (Nat.le_refl _) HNU.out hwf).more hws_6)
          clear HYa_5
          have HYc_6 := Lib.hid ((HYc_5.out.keepB (Nat.le_refl _) HNU.out hwf).more hws_6)
          clear HYc_5
          have HS2_6 := Lib.hid hS4
          clear hS4
          have HS3_6 := Lib.hid hS5
          clear hS5
          clear f0_5 HS0_5 hf0_5 f1_5 HS1_5 hf1_5 f2_5 HS2_5 hf2_5 f3_5 HS3_5 hf3_5 f4_5 HS4_5 f5_5 HS5_5 hf5_5
          clear HNU
          clear hwf hbw hOK
          have e4 : cs4 = #[.int .i64 pst, .string pk, .int .i64 pkd, .slice Ac nc cc, .int .i64 plo, .int .i64 phi, .int .i64 pva] := by injection hX4
          have e5 : cs5 = #[.int .i64 r.2.err, .int .i64 r.2.cell.kind, .slice A2 n2 c2, .int .i64 r.2.cell.lo, .int .i64 r.2.cell.hi, .int .i64 r.2.cell.val] := by injection hX5
          subst e4 e5
          clear hX4 hX5
          have f0_6 := str6 HS0_6.out
          have hl0_6 := HS0_6.out.lt
          have hf0_6 := fun j => HS0_6.out.frozen j
          have f1_6 := str7 HS1_6.out
          have hl1_6 := HS1_6.out.lt
          have hf1_6 := fun j => HS1_6.out.frozen j
          have f2_6 := str7 HS2_6.out
          have hl2_6 := HS2_6.out.lt
          have hf2_6 := fun j => HS2_6.out.frozen j
          have f3_6 := str6 HS3_6.out
          have hl3_6 := HS3_6.out.lt
          have hf3_6 := fun j => HS3_6.out.frozen j
          have f4_6 := str6 HS4_6.out
          have hl4_6 := HS4_6.out.lt
          have f5_6 := str7 HS5_6.out
          have hl5_6 := HS5_6.out.lt
          have hf5_6 := fun j => HS5_6.out.frozen j
          go_wp2_with fail
          refine bodyPost_ret (v := .tuple #[.agg #[.int .i64 pst, .string pk, .int .i64 pkd, .slice Ac nc cc, .int .i64 plo, .int .i64 phi, .int .i64 pva], .agg #[.int .i64 r.2.err, .int .i64 r.2.cell.kind, .slice A2 n2 c2, .int .i64 r.2.cell.lo, .int .i64 r.2.cell.hi, .int .i64 r.2.cell.val]]) (by simp [results, Try.results36, go_sem, *]) rfl ?_
          rw [slot_read HRR.out rfl]
          exact ⟨Ac, nc, cc, A2, n2, c2, rfl, HYc_6.out, HYa_6.out, HB_6.out⟩
      · go_wp2_with fail
        generalize hW5 : ((W4).setCell ⟨W1.heap.size + 1, 3, none⟩ (.slice Ac nc cc)).setCell ⟨W1.heap.size + 1, 0, none⟩ (.int .i64 2) = W5
        have HS5_5 : Hid (Str W5 (W1.heap.size + 1) #[.int .i64 2, .string pk, .int .i64 pkd, .slice Ac nc cc, .int .i64 plo, .int .i64 phi, .int .i64 pva]) := Lib.hid (by rw [← hW5]; have := ((HS5_4.out).set 3 (.slice Ac nc cc)).set 0 (.int .i64 2); simpa using this)
        have hgr5 : W4.grownBy W5 (some (W1.heap.size + 1)) := by rw [← hW5]; exact grown_set (grown_set (grown_refl W4 (W1.heap.size + 1)) 3 (_)) 0 (_)
        have HS0_5 := Lib.hid (HS0_4.out.grown hgr5 (by omega))
        have HS1_5 := Lib.hid (HS1_4.out.grown hgr5 (by omega))
        have HS2_5 := Lib.hid (HS2_4.out.grown hgr5 (by omega))
        have HS3_5 := Lib.hid (HS3_4.out.grown hgr5 (by omega))
        have HS4_5 := Lib.hid (HS4_4.out.grown hgr5 (by omega))
        have HB_5 := Lib.hid (below_grown HB_4.out hgr5 (by omega))
        have hw_5 := HB_5.out.size
        have hws_5 := hgr5.size
        have HYa_5 := Lib.hid ((Bytes.grown HYa_4.out (Nat.le_refl _) HS5_4.out rfl hgr5).more hws_5)
        have HYc_5 := Lib.hid ((Bytes.grown HYc_4.out (Nat.le_refl _) HS5_4.out rfl hgr5).more hws_5)
        clear HYa_4 HYc_4
        have HM_5 : Hid (Below W1.heap.size W1 W5) := Lib.hid (below_grown HM_4.out hgr5 (by omega))
        clear hW5
        clear f0_4 HS0_4 hf0_4 f1_4 HS1_4 hf1_4 f2_4 HS2_4 hf2_4 f3_4 HS3_4 hf3_4 f4_4 HS4_4 f5_4 HS5_4 hf5_4
        clear hgr5
        have f0_5 := str6 HS0_5.out
        have hl0_5 := HS0_5.out.lt
        have hf0_5 := fun j => HS0_5.out.frozen j
        have f1_5 := str7 HS1_5.out
        have hl1_5 := HS1_5.out.lt
        have hf1_5 := fun j => HS1_5.out.frozen j
        have f2_5 := str7 HS2_5.out
        have hl2_5 := HS2_5.out.lt
        have hf2_5 := fun j => HS2_5.out.frozen j
        have f3_5 := str6 HS3_5.out
        have hl3_5 := HS3_5.out.lt
        have hf3_5 := fun j => HS3_5.out.frozen j
        have f4_5 := str6 HS4_5.out
        have hl4_5 := HS4_5.out.lt
        have f5_5 := str7 HS5_5.out
        have hl5_5 := HS5_5.out.lt
        have hf5_5 := fun j => HS5_5.out.frozen j
        have HNU : Hid (∀ b ∈ ([w.heap.size + 1 + 1, w.heap.size + 1 + 1 + 1] : List Nat), ∃ cs, Str W5 b cs ∧ notU8 cs = true) := Lib.hid (by intro b hb; simp only [List.mem_cons, List.not_mem_nil, or_false] at hb; rcases hb with rfl | rfl <;> first | exact ⟨_, HS2_5.out, rfl⟩ | exact ⟨_, HS3_5.out, rfl⟩)
        have hOK : Reg.okS W5.heap.size (Reg.BxS.mk [] (fun t => if t = 4 then #[.int .i64 0, .string ⟨#[]⟩, .int .i64 0, .slice none 0 0, .int .i64 0, .int .i64 0, .int .i64 0] else if t = 5 then #[.int .i64 0, .int .i64 0, .slice none 0 0, .int .i64 0, .int .i64 0, .int .i64 0] else #[]) (fun t => if t = 4 then (Reg.rowM (Reg.eqM (.agg #[.int .i64 2, .string pk, .int .i64 pkd, .slice Ac nc cc, .int .i64 plo, .int .i64 phi, .int .i64 pva]))) else if t = 5 then (Reg.rowM (Reg.eqM (.agg #[.int .i64 r.2.err, .int .i64 r.2.cell.kind, .slice A2 n2 c2, .int .i64 r.2.cell.lo, .int .i64 r.2.cell.hi, .int .i64 r.2.cell.val]))) else (Reg.rowM (Reg.eqM undef))) [] (fun t => (Reg.eqM undef)) [(4, w.heap.size + 1 + 1, 2), (5, w.heap.size + 1 + 1 + 1, 3)]) := Reg.okS_of rfl (by first | exact List.pairwise_singleton _ _ | simp) (by intro k hk; have hk : k ∈ ([(4, w.heap.size + 1 + 1, 2), (5, w.heap.size + 1 + 1 + 1, 3)] : List (Tmp × Nat × Nat)) := hk; simp only [List.mem_cons, List.not_mem_nil, or_false] at hk; rcases hk with rfl | rfl <;> (dsimp only; omega))
        refine Reg.wp_region_box (R := (Reg.extB W5.heap.size (Reg.BxS.b0 (Reg.BxS.mk [] (fun t => if t = 4 then #[.int .i64 0, .string ⟨#[]⟩, .int .i64 0, .slice none 0 0, .int .i64 0, .int .i64 0, .int .i64 0] else if t = 5 then #[.int .i64 0, .int .i64 0, .slice none 0 0, .int .i64 0, .int .i64 0, .int .i64 0] else #[]) (fun t => if t = 4 then (Reg.rowM (Reg.eqM (.agg #[.int .i64 2, .string pk, .int .i64 pkd, .slice Ac nc cc, .int .i64 plo, .int .i64 phi, .int .i64 pva]))) else if t = 5 then (Reg.rowM (Reg.eqM (.agg #[.int .i64 r.2.err, .int .i64 r.2.cell.kind, .slice A2 n2 c2, .int .i64 r.2.cell.lo, .int .i64 r.2.cell.hi, .int .i64 r.2.cell.val]))) else (Reg.rowM (Reg.eqM undef))) [] (fun t => (Reg.eqM undef)) [(4, w.heap.size + 1 + 1, 2), (5, w.heap.size + 1 + 1 + 1, 3)])))) (W := W5) (Reg.BJ W5.heap.size (Reg.BxS.mk [] (fun t => if t = 4 then #[.int .i64 0, .string ⟨#[]⟩, .int .i64 0, .slice none 0 0, .int .i64 0, .int .i64 0, .int .i64 0] else if t = 5 then #[.int .i64 0, .int .i64 0, .slice none 0 0, .int .i64 0, .int .i64 0, .int .i64 0] else #[]) (fun t => if t = 4 then (Reg.rowM (Reg.eqM (.agg #[.int .i64 2, .string pk, .int .i64 pkd, .slice Ac nc cc, .int .i64 plo, .int .i64 phi, .int .i64 pva]))) else if t = 5 then (Reg.rowM (Reg.eqM (.agg #[.int .i64 r.2.err, .int .i64 r.2.cell.kind, .slice A2 n2 c2, .int .i64 r.2.cell.lo, .int .i64 r.2.cell.hi, .int .i64 r.2.cell.val]))) else (Reg.rowM (Reg.eqM undef))) [] (fun t => (Reg.eqM undef)) [(4, w.heap.size + 1 + 1, 2), (5, w.heap.size + 1 + 1 + 1, 3)])) [Reg.eqv (.agg #[.int .i64 2, .string pk, .int .i64 pkd, .slice Ac nc cc, .int .i64 plo, .int .i64 phi, .int .i64 pva]), Reg.eqv (.agg #[.int .i64 r.2.err, .int .i64 r.2.cell.kind, .slice A2 n2 c2, .int .i64 r.2.cell.lo, .int .i64 r.2.cell.hi, .int .i64 r.2.cell.val]), Reg.any, Reg.any] 68 [[(8, none)], [(7, none)], [(4, none), (66, some 0)], [(5, none), (67, some 1)]] rfl (by kernel_rfl) (by kernel_rfl) (fun _ h => Reg.bj_zero (by intro k hk; have hk : k ∈ ([(4, w.heap.size + 1 + 1, 2), (5, w.heap.size + 1 + 1 + 1, 3)] : List (Tmp × Nat × Nat)) := hk; simp only [List.mem_cons, List.not_mem_nil, or_false] at hk; rcases hk with rfl | rfl <;> first | exact ⟨HS2_5.out, rfl⟩ | exact ⟨HS3_5.out, rfl⟩) h) (by kernel_rfl) ?_ [some 66, some 67, none, none] (by kernel_rfl) ?_
        · refine ⟨?_, ?_, ?_, ?_, trivial⟩
          · refine Reg.oblB_pure rfl rfl rfl ?_
            intro ax wx hx hs hmm
            replace hx : Reg.KeepB W5.heap.size [w.heap.size + 1 + 1, w.heap.size + 1 + 1 + 1] W5 wx := hx
            have hxB : Below w.heap.size W5 wx := hx.below (by omega) (by intro b hb; have hb : b ∈ ([w.heap.size + 1 + 1, w.heap.size + 1 + 1 + 1] : List Nat) := hb; simp only [List.mem_cons, List.not_mem_nil, or_false] at hb; rcases hb with rfl | rfl <;> omega)
            obtain ⟨e8, -⟩ := hs
            have g8 := Reg.ev (v := .pointer (some ⟨W1.heap.size + 1, 0, none⟩)) e8
            obtain ⟨l0_0, l0_1, l0_2, l0_3, l0_4, l0_5⟩ := str6 (hx.str HS0_5.out (by omega) (by simp only [List.mem_cons, List.not_mem_nil, or_false, not_or]; omega))
            obtain ⟨l1_0, l1_1, l1_2, l1_3, l1_4, l1_5, l1_6⟩ := str7 (hx.str HS1_5.out (by omega) (by simp only [List.mem_cons, List.not_mem_nil, or_false, not_or]; omega))
            obtain ⟨l4_0, l4_1, l4_2, l4_3, l4_4, l4_5⟩ := str6 (hx.str HS4_5.out (by omega) (by simp only [List.mem_cons, List.not_mem_nil, or_false, not_or]; omega))
            obtain ⟨l5_0, l5_1, l5_2, l5_3, l5_4, l5_5, l5_6⟩ := str7 (hx.str HS5_5.out (by omega) (by simp only [List.mem_cons, List.not_mem_nil, or_false, not_or]; omega))
            exact (Reg.wp_eqvB (Option.some_ne_none _) (by go_simp) rfl)
          · refine Reg.oblB_pure rfl rfl rfl ?_
            intro ax wx hx hs hmm
            replace hx : Reg.KeepB W5.heap.size [w.heap.size + 1 + 1, w.heap.size + 1 + 1 + 1] W5 wx := hx
            have hxB : Below w.heap.size W5 wx := hx.below (by omega) (by intro b hb; have hb : b ∈ ([w.heap.size + 1 + 1, w.heap.size + 1 + 1 + 1] : List Nat) := hb; simp only [List.mem_cons, List.not_mem_nil, or_false] at hb; rcases hb with rfl | rfl <;> omega)
            obtain ⟨e7, -⟩ := hs
            have g7 := Reg.ev (v := .pointer (some ⟨W1.heap.size, 0, none⟩)) e7
            obtain ⟨l0_0, l0_1, l0_2, l0_3, l0_4, l0_5⟩ := str6 (hx.str HS0_5.out (by omega) (by simp only [List.mem_cons, List.not_mem_nil, or_false, not_or]; omega))
            obtain ⟨l1_0, l1_1, l1_2, l1_3, l1_4, l1_5, l1_6⟩ := str7 (hx.str HS1_5.out (by omega) (by simp only [List.mem_cons, List.not_mem_nil, or_false, not_or]; omega))
            obtain ⟨l4_0, l4_1, l4_2, l4_3, l4_4, l4_5⟩ := str6 (hx.str HS4_5.out (by omega) (by simp only [List.mem_cons, List.not_mem_nil, or_false, not_or]; omega))
            obtain ⟨l5_0, l5_1, l5_2, l5_3, l5_4, l5_5, l5_6⟩ := str7 (hx.str HS5_5.out (by omega) (by simp only [List.mem_cons, List.not_mem_nil, or_false, not_or]; omega))
            exact (Reg.wp_eqvB (Option.some_ne_none _) (by go_simp) rfl)
          · refine Reg.oblB_store0 rfl rfl hOK (t := 4) (g := w.heap.size + 1 + 1) (List.mem_of_getElem? (i := 0) rfl) rfl (by show 2 < 4; decide) (fun _ _ => trivial) ?_
            intro ax wx rb hx hrb hs hmm hS
            replace hx : Reg.KeepB W5.heap.size [w.heap.size + 1 + 1, w.heap.size + 1 + 1 + 1] W5 wx := hx
            have hxB : Below w.heap.size W5 wx := hx.below (by omega) (by intro b hb; have hb : b ∈ ([w.heap.size + 1 + 1, w.heap.size + 1 + 1 + 1] : List Nat) := hb; simp only [List.mem_cons, List.not_mem_nil, or_false] at hb; rcases hb with rfl | rfl <;> omega)
            obtain ⟨e4, e66, -⟩ := hs
            have g4 := Reg.ev (v := .pointer (some ⟨w.heap.size + 1 + 1, 0, none⟩)) e4
            have g66 := Reg.ev (v := .agg #[.int .i64 2, .string pk, .int .i64 pkd, .slice Ac nc cc, .int .i64 plo, .int .i64 phi, .int .i64 pva]) e66
            exact Reg.st_box rfl (Reg.run_st_box rfl e4 e66 hS rfl (by kernel_rfl) rfl) rfl rfl
          · refine Reg.oblB_store0 rfl rfl hOK (t := 5) (g := w.heap.size + 1 + 1 + 1) (List.mem_of_getElem? (i := 1) rfl) rfl (by show 3 < 4; decide) (fun _ _ => trivial) ?_
            intro ax wx rb hx hrb hs hmm hS
            replace hx : Reg.KeepB W5.heap.size [w.heap.size + 1 + 1, w.heap.size + 1 + 1 + 1] W5 wx := hx
            have hxB : Below w.heap.size W5 wx := hx.below (by omega) (by intro b hb; have hb : b ∈ ([w.heap.size + 1 + 1, w.heap.size + 1 + 1 + 1] : List Nat) := hb; simp only [List.mem_cons, List.not_mem_nil, or_false] at hb; rcases hb with rfl | rfl <;> omega)
            obtain ⟨e5, e67, -⟩ := hs
            have g5 := Reg.ev (v := .pointer (some ⟨w.heap.size + 1 + 1 + 1, 0, none⟩)) e5
            have g67 := Reg.ev (v := .agg #[.int .i64 r.2.err, .int .i64 r.2.cell.kind, .slice A2 n2 c2, .int .i64 r.2.cell.lo, .int .i64 r.2.cell.hi, .int .i64 r.2.cell.val]) e67
            exact Reg.st_box rfl (Reg.run_st_box rfl e5 e67 hS rfl (by kernel_rfl) rfl) rfl rfl
        · intro W6 listed hwf hall
          simp only [Reg.Fin]
          rintro _ rfl _ rfl vn2 hn2 vn3 hn3
          intro hJ
          obtain ⟨hJM, hJB, hJN, hJ0⟩ := Reg.bj_end (n := 4) hall (by show ∀ b ∈ ([] : List (Nat × Tmp × Nat)), b.1 < 4 ∧ b.2.2 < 4; decide) (by show ∀ m ∈ ([] : List (Nat × Tmp)), m.1 < 4; decide) (by show ∀ k ∈ ([2, 3] : List Nat), k < 4; decide) hJ
          obtain ⟨cs4, hS4, hX4⟩ := hJ0 (4, w.heap.size + 1 + 1, 2) (List.mem_of_getElem? (i := 0) rfl)
          have hX4 : (Reg.rowM (Reg.eqM (.agg #[.int .i64 2, .string pk, .int .i64 pkd, .slice Ac nc cc, .int .i64 plo, .int .i64 phi, .int .i64 pva]))).pred cs4 W6 W6.heap.size := hX4
          obtain ⟨cs5, hS5, hX5⟩ := hJ0 (5, w.heap.size + 1 + 1 + 1, 3) (List.mem_of_getElem? (i := 1) rfl)
          have hX5 : (Reg.rowM (Reg.eqM (.agg #[.int .i64 r.2.err, .int .i64 r.2.cell.kind, .slice A2 n2 c2, .int .i64 r.2.cell.lo, .int .i64 r.2.cell.hi, .int .i64 r.2.cell.val]))).pred cs5 W6 W6.heap.size := hX5
          clear hJM hJB hJN hJ0 hJ hall 
          go_simp
          replace hwf : Reg.KeepB W5.heap.size [w.heap.size + 1 + 1, w.heap.size + 1 + 1 + 1] W5 W6 := hwf
          have hbw : Below w.heap.size W5 W6 := hwf.below (by omega) (by intro b hb; simp only [List.mem_cons, List.not_mem_nil, or_false] at hb; rcases hb with rfl | rfl <;> omega)
          have HS0_6 := Lib.hid (hwf.str HS0_5.out (by omega) (by simp only [List.mem_cons, List.not_mem_nil, or_false, not_or]; omega))
          have HS1_6 := Lib.hid (hwf.str HS1_5.out (by omega) (by simp only [List.mem_cons, List.not_mem_nil, or_false, not_or]; omega))
          have HS4_6 := Lib.hid (hwf.str HS4_5.out (by omega) (by simp only [List.mem_cons, List.not_mem_nil, or_false, not_or]; omega))
          have HS5_6 := Lib.hid (hwf.str HS5_5.out (by omega) (by simp only [List.mem_cons, List.not_mem_nil, or_false, not_or]; omega))
          have HB_6 := Lib.hid (HB_5.out.trans hbw)
          have hw_6 := HB_6.out.size
          have hws_6 := hbw.size
          have HYa_6 := Lib.hid ((HYa_5.out.keepB (Nat.le_refl _) HNU.out hwf).more hws_6)
          clear HYa_5
          have HYc_6 := Lib.hid ((HYc_5.out.keepB (Nat.le_refl _) HNU.out hwf).more hws_6)
          clear HYc_5
          have HS2_6 := Lib.hid hS4
          clear hS4
          have HS3_6 := Lib.hid hS5
          clear hS5
          clear f0_5 HS0_5 hf0_5 f1_5 HS1_5 hf1_5 f2_5 HS2_5 hf2_5 f3_5 HS3_5 hf3_5 f4_5 HS4_5 f5_5 HS5_5 hf5_5
          clear HNU
          clear hwf hbw hOK
          have e4 : cs4 = #[.int .i64 2, .string pk, .int .i64 pkd, .slice Ac nc cc, .int .i64 plo, .int .i64 phi, .int .i64 pva] := by injection hX4
          have e5 : cs5 = #[.int .i64 r.2.err, .int .i64 r.2.cell.kind, .slice A2 n2 c2, .int .i64 r.2.cell.lo, .int .i64 r.2.cell.hi, .int .i64 r.2.cell.val] := by injection hX5
          subst e4 e5
          clear hX4 hX5
          have f0_6 := str6 HS0_6.out
          have hl0_6 := HS0_6.out.lt
          have hf0_6 := fun j => HS0_6.out.frozen j
          have f1_6 := str7 HS1_6.out
          have hl1_6 := HS1_6.out.lt
          have hf1_6 := fun j => HS1_6.out.frozen j
          have f2_6 := str7 HS2_6.out
          have hl2_6 := HS2_6.out.lt
          have hf2_6 := fun j => HS2_6.out.frozen j
          have f3_6 := str6 HS3_6.out
          have hl3_6 := HS3_6.out.lt
          have hf3_6 := fun j => HS3_6.out.frozen j
          have f4_6 := str6 HS4_6.out
          have hl4_6 := HS4_6.out.lt
          have f5_6 := str7 HS5_6.out
          have hl5_6 := HS5_6.out.lt
          have hf5_6 := fun j => HS5_6.out.frozen j
          go_wp2_with fail
          refine bodyPost_ret (v := .tuple #[.agg #[.int .i64 2, .string pk, .int .i64 pkd, .slice Ac nc cc, .int .i64 plo, .int .i64 phi, .int .i64 pva], .agg #[.int .i64 r.2.err, .int .i64 r.2.cell.kind, .slice A2 n2 c2, .int .i64 r.2.cell.lo, .int .i64 r.2.cell.hi, .int .i64 r.2.cell.val]]) (by simp [results, Try.results36, go_sem, *]) rfl ?_
          rw [slot_drop HRR.out HE.out rfl]
          exact ⟨Ac, nc, cc, A2, n2, c2, rfl, HYc_6.out, HYa_6.out, HB_6.out⟩
      · have HA := Lib.hid (slot_set HRR.out HE.out hA)
        obtain ⟨cc_, hcc⟩ : ∃ c, (ModelP.find r.1 xk).getD CellP.none = c := ⟨_, rfl⟩
        have HCC := Lib.hid hcc
        have HCL := Lib.hid (find_len HFD.out hcc)
        rw [hcc] at HA
        clear hcc
        rcases hA with rfl | rfl | rfl | rfl
        all_goals
          go_wp2_with fail
          generalize hW5 : (W4).setCell ⟨W1.heap.size + 1, 3, none⟩ (.slice Ac nc cc) = W5
          have HS5_5 : Hid (Str W5 (W1.heap.size + 1) #[.int .i64 pst, .string pk, .int .i64 pkd, .slice Ac nc cc, .int .i64 plo, .int .i64 phi, .int .i64 pva]) := Lib.hid (by rw [← hW5]; have := (HS5_4.out).set 3 (.slice Ac nc cc); simpa using this)
          have hgr5 : W4.grownBy W5 (some (W1.heap.size + 1)) := by rw [← hW5]; exact grown_set (grown_refl W4 (W1.heap.size + 1)) 3 (_)
          have HS0_5 := Lib.hid (HS0_4.out.grown hgr5 (by omega))
          have HS1_5 := Lib.hid (HS1_4.out.grown hgr5 (by omega))
          have HS2_5 := Lib.hid (HS2_4.out.grown hgr5 (by omega))
          have HS3_5 := Lib.hid (HS3_4.out.grown hgr5 (by omega))
          have HS4_5 := Lib.hid (HS4_4.out.grown hgr5 (by omega))
          have HB_5 := Lib.hid (below_grown HB_4.out hgr5 (by omega))
          have hw_5 := HB_5.out.size
          have hws_5 := hgr5.size
          have HYa_5 := Lib.hid ((Bytes.grown HYa_4.out (Nat.le_refl _) HS5_4.out rfl hgr5).more hws_5)
          have HYc_5 := Lib.hid ((Bytes.grown HYc_4.out (Nat.le_refl _) HS5_4.out rfl hgr5).more hws_5)
          clear HYa_4 HYc_4
          have HM_5 : Hid (Below W1.heap.size W1 W5) := Lib.hid (below_grown HM_4.out hgr5 (by omega))
          clear hW5
          clear f0_4 HS0_4 hf0_4 f1_4 HS1_4 hf1_4 f2_4 HS2_4 hf2_4 f3_4 HS3_4 hf3_4 f4_4 HS4_4 f5_4 HS5_4 hf5_4
          clear hgr5
          have f0_5 := str6 HS0_5.out
          have hl0_5 := HS0_5.out.lt
          have hf0_5 := fun j => HS0_5.out.frozen j
          have f1_5 := str7 HS1_5.out
          have hl1_5 := HS1_5.out.lt
          have hf1_5 := fun j => HS1_5.out.frozen j
          have f2_5 := str7 HS2_5.out
          have hl2_5 := HS2_5.out.lt
          have hf2_5 := fun j => HS2_5.out.frozen j
          have f3_5 := str6 HS3_5.out
          have hl3_5 := HS3_5.out.lt
          have hf3_5 := fun j => HS3_5.out.frozen j
          have f4_5 := str6 HS4_5.out
          have hl4_5 := HS4_5.out.lt
          have f5_5 := str7 HS5_5.out
          have hl5_5 := HS5_5.out.lt
          have hf5_5 := fun j => HS5_5.out.frozen j
          refine (Find_any A1 n1 c1 W1.heap.size r.1 xk _ (HPA.out.below HM_5.out) HM_5.out.size (by omega) HFD.out).mono ?_
          rintro e W6 ⟨Af, nf, cf, rfl, hyf, hb6⟩
          have HS0_6 := Lib.hid (HS0_5.out.next hb6)
          have HS1_6 := Lib.hid (HS1_5.out.next hb6)
          have HS2_6 := Lib.hid (HS2_5.out.next hb6)
          have HS3_6 := Lib.hid (HS3_5.out.next hb6)
          have HS4_6 := Lib.hid (HS4_5.out.next hb6)
          have HS5_6 := Lib.hid (HS5_5.out.next hb6)
          have HB_6 := Lib.hid (bstep HB_5.out hb6)
          have hw_6 := HB_6.out.size
          have hws_6 := (hb6).size
          have HYa_6 := Lib.hid (HYa_5.out.next hb6)
          have HYc_6 := Lib.hid (HYc_5.out.next hb6)
          clear HYa_5 HYc_5
          clear f0_5 HS0_5 hf0_5 f1_5 HS1_5 hf1_5 f2_5 HS2_5 hf2_5 f3_5 HS3_5 hf3_5 f4_5 HS4_5 f5_5 HS5_5 hf5_5
          have f0_6 := str6 HS0_6.out
          have hl0_6 := HS0_6.out.lt
          have hf0_6 := fun j => HS0_6.out.frozen j
          have f1_6 := str7 HS1_6.out
          have hl1_6 := HS1_6.out.lt
          have hf1_6 := fun j => HS1_6.out.frozen j
          have f2_6 := str7 HS2_6.out
          have hl2_6 := HS2_6.out.lt
          have hf2_6 := fun j => HS2_6.out.frozen j
          have f3_6 := str6 HS3_6.out
          have hl3_6 := HS3_6.out.lt
          have hf3_6 := fun j => HS3_6.out.frozen j
          have f4_6 := str6 HS4_6.out
          have hl4_6 := HS4_6.out.lt
          have f5_6 := str7 HS5_6.out
          have hl5_6 := HS5_6.out.lt
          have hf5_6 := fun j => HS5_6.out.frozen j
          rw [HCC.out] at hyf
          rw [HCC.out]
          have HM_6 := Lib.hid (bstep HM_5.out hb6)
          clear HM_5
          have HYf_6 := Lib.hid (hyf)
          have hnf : nf ≤ 100000 := by have h1 := hyf.len; have h2 := HCL.out; omega
          clear hyf hb6
          go_wp2_with fail
          generalize hW7 : W6.alloc (.cells #[.int .i64 cc_.kind, .slice Af nf cf, .int .i64 cc_.lo, .int .i64 cc_.hi, .int .i64 cc_.val] 37) = W7
          have HS0_7 := sEq hW7 (HS0_6.out.alloc _)
          have HS1_7 := sEq hW7 (HS1_6.out.alloc _)
          have HS2_7 := sEq hW7 (HS2_6.out.alloc _)
          have HS3_7 := sEq hW7 (HS3_6.out.alloc _)
          have HS4_7 := sEq hW7 (HS4_6.out.alloc _)
          have HS5_7 := sEq hW7 (HS5_6.out.alloc _)
          have HS6_7 := sEq hW7 (Str.new _ _ _)
          have hba7 : Below W6.heap.size W6 W7 := by rw [← hW7]; exact balloc (bsame _) _
          have HB_7 := Lib.hid (bstep HB_6.out hba7)
          have hw_7 := HB_7.out.size
          have hws_7 := hba7.size
          have HYa_7 := Lib.hid (HYa_6.out.next hba7)
          have HYc_7 := Lib.hid (HYc_6.out.next hba7)
          have HYf_7 := Lib.hid (HYf_6.out.next hba7)
          clear HYa_6 HYc_6 HYf_6
          clear hW7
          clear f0_6 HS0_6 hf0_6 f1_6 HS1_6 hf1_6 f2_6 HS2_6 hf2_6 f3_6 HS3_6 hf3_6 f4_6 HS4_6 f5_6 HS5_6 hf5_6
          have f0_7 := str6 HS0_7.out
          have hl0_7 := HS0_7.out.lt
          have hf0_7 := fun j => HS0_7.out.frozen j
          have f1_7 := str7 HS1_7.out
          have hl1_7 := HS1_7.out.lt
          have hf1_7 := fun j => HS1_7.out.frozen j
          have f2_7 := str7 HS2_7.out
          have hl2_7 := HS2_7.out.lt
          have hf2_7 := fun j => HS2_7.out.frozen j
          have f3_7 := str6 HS3_7.out
          have hl3_7 := HS3_7.out.lt
          have hf3_7 := fun j => HS3_7.out.frozen j
          have f4_7 := str6 HS4_7.out
          have hl4_7 := HS4_7.out.lt
          have f5_7 := str7 HS5_7.out
          have hl5_7 := HS5_7.out.lt
          have hf5_7 := fun j => HS5_7.out.frozen j
          have f6_7 := str5 HS6_7.out
          have hl6_7 := HS6_7.out.lt
          have hf6_7 := fun j => HS6_7.out.frozen j
          have HM_7 := Lib.hid (bstep HM_6.out hba7)
          clear HM_6
          refine (UndoW.clone_any Af nf cf W7.heap.size cc_.data _ (HYf_7.out) (Nat.le_refl _) (by omega)).mono ?_
          rintro e W8 ⟨Ag, ng, cg, rfl, hyc, hb8⟩
          have HS0_8 := Lib.hid (HS0_7.out.next hb8)
          have HS1_8 := Lib.hid (HS1_7.out.next hb8)
          have HS2_8 := Lib.hid (HS2_7.out.next hb8)
          have HS3_8 := Lib.hid (HS3_7.out.next hb8)
          have HS4_8 := Lib.hid (HS4_7.out.next hb8)
          have HS5_8 := Lib.hid (HS5_7.out.next hb8)
          have HS6_8 := Lib.hid (HS6_7.out.next hb8)
          have HB_8 := Lib.hid (bstep HB_7.out hb8)
          have hw_8 := HB_8.out.size
          have hws_8 := (hb8).size
          have HYa_8 := Lib.hid (HYa_7.out.next hb8)
          have HYc_8 := Lib.hid (HYc_7.out.next hb8)
          have HYf_8 := Lib.hid (HYf_7.out.next hb8)
          clear HYa_7 HYc_7 HYf_7
          clear f0_7 HS0_7 hf0_7 f1_7 HS1_7 hf1_7 f2_7 HS2_7 hf2_7 f3_7 HS3_7 hf3_7 f4_7 HS4_7 f5_7 HS5_7 hf5_7 f6_7 HS6_7 hf6_7
          have f0_8 := str6 HS0_8.out
          have hl0_8 := HS0_8.out.lt
          have hf0_8 := fun j => HS0_8.out.frozen j
          have f1_8 := str7 HS1_8.out
          have hl1_8 := HS1_8.out.lt
          have hf1_8 := fun j => HS1_8.out.frozen j
          have f2_8 := str7 HS2_8.out
          have hl2_8 := HS2_8.out.lt
          have hf2_8 := fun j => HS2_8.out.frozen j
          have f3_8 := str6 HS3_8.out
          have hl3_8 := HS3_8.out.lt
          have hf3_8 := fun j => HS3_8.out.frozen j
          have f4_8 := str6 HS4_8.out
          have hl4_8 := HS4_8.out.lt
          have f5_8 := str7 HS5_8.out
          have hl5_8 := HS5_8.out.lt
          have hf5_8 := fun j => HS5_8.out.frozen j
          have f6_8 := str5 HS6_8.out
          have hl6_8 := HS6_8.out.lt
          have hf6_8 := fun j => HS6_8.out.frozen j
          have HM_8 := Lib.hid (bstep HM_7.out hb8)
          clear HM_7
          have HYg_8 := Lib.hid (hyc)
          clear hyc hb8
          go_wp2_with fail
          generalize hW9 : (W8).setCell ⟨W6.heap.size, 1, none⟩ (.slice Ag ng cg) = W9
          have HS6_9 : Hid (Str W9 (W6.heap.size) #[.int .i64 cc_.kind, .slice Ag ng cg, .int .i64 cc_.lo, .int .i64 cc_.hi, .int .i64 cc_.val]) := Lib.hid (by rw [← hW9]; have := (HS6_8.out).set 1 (.slice Ag ng cg); simpa using this)
          have hgr9 : W8.grownBy W9 (some (W6.heap.size)) := by rw [← hW9]; exact grown_set (grown_refl W8 (W6.heap.size)) 1 (_)
          have HS0_9 := Lib.hid (HS0_8.out.grown hgr9 (by omega))
          have HS1_9 := Lib.hid (HS1_8.out.grown hgr9 (by omega))
          have HS2_9 := Lib.hid (HS2_8.out.grown hgr9 (by omega))
          have HS3_9 := Lib.hid (HS3_8.out.grown hgr9 (by omega))
          have HS4_9 := Lib.hid (HS4_8.out.grown hgr9 (by omega))
          have HS5_9 := Lib.hid (HS5_8.out.grown hgr9 (by omega))
          have HB_9 := Lib.hid (below_grown HB_8.out hgr9 (by omega))
          have hw_9 := HB_9.out.size
          have hws_9 := hgr9.size
          have HYa_9 := Lib.hid ((Bytes.grown HYa_8.out (Nat.le_refl _) HS6_8.out rfl hgr9).more hws_9)
          have HYc_9 := Lib.hid ((Bytes.grown HYc_8.out (Nat.le_refl _) HS6_8.out rfl hgr9).more hws_9)
          have HYf_9 := Lib.hid ((Bytes.grown HYf_8.out (Nat.le_refl _) HS6_8.out rfl hgr9).more hws_9)
          have HYg_9 := Lib.hid ((Bytes.grown HYg_8.out (Nat.le_refl _) HS6_8.out rfl hgr9).more hws_9)
          clear HYa_8 HYc_8 HYf_8 HYg_8
          have HM_9 : Hid (Below W1.heap.size W1 W9) := Lib.hid (below_grown HM_8.out hgr9 (by omega))
          clear hW9
          clear f0_8 HS0_8 hf0_8 f1_8 HS1_8 hf1_8 f2_8 HS2_8 hf2_8 f3_8 HS3_8 hf3_8 f4_8 HS4_8 f5_8 HS5_8 hf5_8 f6_8 HS6_8 hf6_8
          clear hgr9
          have f0_9 := str6 HS0_9.out
          have hl0_9 := HS0_9.out.lt
          have hf0_9 := fun j => HS0_9.out.frozen j
          have f1_9 := str7 HS1_9.out
          have hl1_9 := HS1_9.out.lt
          have hf1_9 := fun j => HS1_9.out.frozen j
          have f2_9 := str7 HS2_9.out
          have hl2_9 := HS2_9.out.lt
          have hf2_9 := fun j => HS2_9.out.frozen j
          have f3_9 := str6 HS3_9.out
          have hl3_9 := HS3_9.out.lt
          have hf3_9 := fun j => HS3_9.out.frozen j
          have f4_9 := str6 HS4_9.out
          have hl4_9 := HS4_9.out.lt
          have f5_9 := str7 HS5_9.out
          have hl5_9 := HS5_9.out.lt
          have hf5_9 := fun j => HS5_9.out.frozen j
          have f6_9 := str5 HS6_9.out
          have hl6_9 := HS6_9.out.lt
          have hf6_9 := fun j => HS6_9.out.frozen j
          generalize hW10 : (((((((W9).setCell ⟨W1.heap.size + 1, 0, none⟩ (.int .i64 1)).setCell ⟨W1.heap.size + 1, 1, none⟩ (.string xk)).setCell ⟨W1.heap.size + 1, 2, none⟩ (.int .i64 cc_.kind)).setCell ⟨W1.heap.size + 1, 3, none⟩ (.slice Ag ng cg)).setCell ⟨W1.heap.size + 1, 4, none⟩ (.int .i64 cc_.lo)).setCell ⟨W1.heap.size + 1, 5, none⟩ (.int .i64 cc_.hi)).setCell ⟨W1.heap.size + 1, 6, none⟩ (.int .i64 cc_.val) = W10
          have HS5_10 : Hid (Str W10 (W1.heap.size + 1) #[.int .i64 1, .string xk, .int .i64 cc_.kind, .slice Ag ng cg, .int .i64 cc_.lo, .int .i64 cc_.hi, .int .i64 cc_.val]) := Lib.hid (by rw [← hW10]; have := (((((((HS5_9.out).set 0 (.int .i64 1)).set 1 (.string xk)).set 2 (.int .i64 cc_.kind)).set 3 (.slice Ag ng cg)).set 4 (.int .i64 cc_.lo)).set 5 (.int .i64 cc_.hi)).set 6 (.int .i64 cc_.val); simpa using this)
          have hgr10 : W9.grownBy W10 (some (W1.heap.size + 1)) := by rw [← hW10]; exact grown_set (grown_set (grown_set (grown_set (grown_set (grown_set (grown_set (grown_refl W9 (W1.heap.size + 1)) 0 (_)) 1 (_)) 2 (_)) 3 (_)) 4 (_)) 5 (_)) 6 (_)
          have HS0_10 := Lib.hid (HS0_9.out.grown hgr10 (by omega))
          have HS1_10 := Lib.hid (HS1_9.out.grown hgr10 (by omega))
          have HS2_10 := Lib.hid (HS2_9.out.grown hgr10 (by omega))
          have HS3_10 := Lib.hid (HS3_9.out.grown hgr10 (by omega))
          have HS4_10 := Lib.hid (HS4_9.out.grown hgr10 (by omega))
          have HS6_10 := Lib.hid (HS6_9.out.grown hgr10 (by omega))
          have HB_10 := Lib.hid (below_grown HB_9.out hgr10 (by omega))
          have hw_10 := HB_10.out.size
          have hws_10 := hgr10.size
          have HYa_10 := Lib.hid ((Bytes.grown HYa_9.out (Nat.le_refl _) HS5_9.out rfl hgr10).more hws_10)
          have HYc_10 := Lib.hid ((Bytes.grown HYc_9.out (Nat.le_refl _) HS5_9.out rfl hgr10).more hws_10)
          have HYf_10 := Lib.hid ((Bytes.grown HYf_9.out (Nat.le_refl _) HS5_9.out rfl hgr10).more hws_10)
          have HYg_10 := Lib.hid ((Bytes.grown HYg_9.out (Nat.le_refl _) HS5_9.out rfl hgr10).more hws_10)
          clear HYa_9 HYc_9 HYf_9 HYg_9
          have HM_10 : Hid (Below W1.heap.size W1 W10) := Lib.hid (below_grown HM_9.out hgr10 (by omega))
          clear hW10
          clear f0_9 HS0_9 hf0_9 f1_9 HS1_9 hf1_9 f2_9 HS2_9 hf2_9 f3_9 HS3_9 hf3_9 f4_9 HS4_9 f5_9 HS5_9 hf5_9 f6_9 HS6_9 hf6_9
          clear hgr10
          have f0_10 := str6 HS0_10.out
          have hl0_10 := HS0_10.out.lt
          have hf0_10 := fun j => HS0_10.out.frozen j
          have f1_10 := str7 HS1_10.out
          have hl1_10 := HS1_10.out.lt
          have hf1_10 := fun j => HS1_10.out.frozen j
          have f2_10 := str7 HS2_10.out
          have hl2_10 := HS2_10.out.lt
          have hf2_10 := fun j => HS2_10.out.frozen j
          have f3_10 := str6 HS3_10.out
          have hl3_10 := HS3_10.out.lt
          have hf3_10 := fun j => HS3_10.out.frozen j
          have f4_10 := str6 HS4_10.out
          have hl4_10 := HS4_10.out.lt
          have f5_10 := str7 HS5_10.out
          have hl5_10 := HS5_10.out.lt
          have hf5_10 := fun j => HS5_10.out.frozen j
          have f6_10 := str5 HS6_10.out
          have hl6_10 := HS6_10.out.lt
          have hf6_10 := fun j => HS6_10.out.frozen j
          have HNU : Hid (∀ b ∈ ([w.heap.size + 1 + 1, w.heap.size + 1 + 1 + 1] : List Nat), ∃ cs, Str W10 b cs ∧ notU8 cs = true) := Lib.hid (by intro b hb; simp only [List.mem_cons, List.not_mem_nil, or_false] at hb; rcases hb with rfl | rfl <;> first | exact ⟨_, HS2_10.out, rfl⟩ | exact ⟨_, HS3_10.out, rfl⟩)
          have hOK : Reg.okS W10.heap.size (Reg.BxS.mk [] (fun t => if t = 4 then #[.int .i64 0, .string ⟨#[]⟩, .int .i64 0, .slice none 0 0, .int .i64 0, .int .i64 0, .int .i64 0] else if t = 5 then #[.int .i64 0, .int .i64 0, .slice none 0 0, .int .i64 0, .int .i64 0, .int .i64 0] else #[]) (fun t => if t = 4 then (Reg.rowM (Reg.eqM (.agg #[.int .i64 1, .string xk, .int .i64 cc_.kind, .slice Ag ng cg, .int .i64 cc_.lo, .int .i64 cc_.hi, .int .i64 cc_.val]))) else if t = 5 then (Reg.rowM (Reg.eqM (.agg #[.int .i64 r.2.err, .int .i64 r.2.cell.kind, .slice A2 n2 c2, .int .i64 r.2.cell.lo, .int .i64 r.2.cell.hi, .int .i64 r.2.cell.val]))) else (Reg.rowM (Reg.eqM undef))) [] (fun t => (Reg.eqM undef)) [(4, w.heap.size + 1 + 1, 2), (5, w.heap.size + 1 + 1 + 1, 3)]) := Reg.okS_of rfl (by first | exact List.pairwise_singleton _ _ | simp) (by intro k hk; have hk : k ∈ ([(4, w.heap.size + 1 + 1, 2), (5, w.heap.size + 1 + 1 + 1, 3)] : List (Tmp × Nat × Nat)) := hk; simp only [List.mem_cons, List.not_mem_nil, or_false] at hk; rcases hk with rfl | rfl <;> (dsimp only; omega))
          refine Reg.wp_region_box (R := (Reg.extB W10.heap.size (Reg.BxS.b0 (Reg.BxS.mk [] (fun t => if t = 4 then #[.int .i64 0, .string ⟨#[]⟩, .int .i64 0, .slice none 0 0, .int .i64 0, .int .i64 0, .int .i64 0] else if t = 5 then #[.int .i64 0, .int .i64 0, .slice none 0 0, .int .i64 0, .int .i64 0, .int .i64 0] else #[]) (fun t => if t = 4 then (Reg.rowM (Reg.eqM (.agg #[.int .i64 1, .string xk, .int .i64 cc_.kind, .slice Ag ng cg, .int .i64 cc_.lo, .int .i64 cc_.hi, .int .i64 cc_.val]))) else if t = 5 then (Reg.rowM (Reg.eqM (.agg #[.int .i64 r.2.err, .int .i64 r.2.cell.kind, .slice A2 n2 c2, .int .i64 r.2.cell.lo, .int .i64 r.2.cell.hi, .int .i64 r.2.cell.val]))) else (Reg.rowM (Reg.eqM undef))) [] (fun t => (Reg.eqM undef)) [(4, w.heap.size + 1 + 1, 2), (5, w.heap.size + 1 + 1 + 1, 3)])))) (W := W10) (Reg.BJ W10.heap.size (Reg.BxS.mk [] (fun t => if t = 4 then #[.int .i64 0, .string ⟨#[]⟩, .int .i64 0, .slice none 0 0, .int .i64 0, .int .i64 0, .int .i64 0] else if t = 5 then #[.int .i64 0, .int .i64 0, .slice none 0 0, .int .i64 0, .int .i64 0, .int .i64 0] else #[]) (fun t => if t = 4 then (Reg.rowM (Reg.eqM (.agg #[.int .i64 1, .string xk, .int .i64 cc_.kind, .slice Ag ng cg, .int .i64 cc_.lo, .int .i64 cc_.hi, .int .i64 cc_.val]))) else if t = 5 then (Reg.rowM (Reg.eqM (.agg #[.int .i64 r.2.err, .int .i64 r.2.cell.kind, .slice A2 n2 c2, .int .i64 r.2.cell.lo, .int .i64 r.2.cell.hi, .int .i64 r.2.cell.val]))) else (Reg.rowM (Reg.eqM undef))) [] (fun t => (Reg.eqM undef)) [(4, w.heap.size + 1 + 1, 2), (5, w.heap.size + 1 + 1 + 1, 3)])) [Reg.eqv (.agg #[.int .i64 1, .string xk, .int .i64 cc_.kind, .slice Ag ng cg, .int .i64 cc_.lo, .int .i64 cc_.hi, .int .i64 cc_.val]), Reg.eqv (.agg #[.int .i64 r.2.err, .int .i64 r.2.cell.kind, .slice A2 n2 c2, .int .i64 r.2.cell.lo, .int .i64 r.2.cell.hi, .int .i64 r.2.cell.val]), Reg.any, Reg.any] 68 [[(8, none)], [(7, none)], [(4, none), (66, some 0)], [(5, none), (67, some 1)]] rfl (by kernel_rfl) (by kernel_rfl) (fun _ h => Reg.bj_zero (by intro k hk; have hk : k ∈ ([(4, w.heap.size + 1 + 1, 2), (5, w.heap.size + 1 + 1 + 1, 3)] : List (Tmp × Nat × Nat)) := hk; simp only [List.mem_cons, List.not_mem_nil, or_false] at hk; rcases hk with rfl | rfl <;> first | exact ⟨HS2_10.out, rfl⟩ | exact ⟨HS3_10.out, rfl⟩) h) (by kernel_rfl) ?_ [some 66, some 67, none, none] (by kernel_rfl) ?_
          · refine ⟨?_, ?_, ?_, ?_, trivial⟩
            · refine Reg.oblB_pure rfl rfl rfl ?_
              intro ax wx hx hs hmm
              replace hx : Reg.KeepB W10.heap.size [w.heap.size + 1 + 1, w.heap.size + 1 + 1 + 1] W10 wx := hx
              have hxB : Below w.heap.size W10 wx := hx.below (by omega) (by intro b hb; have hb : b ∈ ([w.heap.size + 1 + 1, w.heap.size + 1 + 1 + 1] : List Nat) := hb; simp only [List.mem_cons, List.not_mem_nil, or_false] at hb; rcases hb with rfl | rfl <;> omega)
              obtain ⟨e8, -⟩ := hs
              have g8 := Reg.ev (v := .pointer (some ⟨W1.heap.size + 1, 0, none⟩)) e8
              obtain ⟨l0_0, l0_1, l0_2, l0_3, l0_4, l0_5⟩ := str6 (hx.str HS0_10.out (by omega) (by simp only [List.mem_cons, List.not_mem_nil, or_false, not_or]; omega))
              obtain ⟨l1_0, l1_1, l1_2, l1_3, l1_4, l1_5, l1_6⟩ := str7 (hx.str HS1_10.out (by omega) (by simp only [List.mem_cons, List.not_mem_nil, or_false, not_or]; omega))
              obtain ⟨l4_0, l4_1, l4_2, l4_3, l4_4, l4_5⟩ := str6 (hx.str HS4_10.out (by omega) (by simp only [List.mem_cons, List.not_mem_nil, or_false, not_or]; omega))
              obtain ⟨l5_0, l5_1, l5_2, l5_3, l5_4, l5_5, l5_6⟩ := str7 (hx.str HS5_10.out (by omega) (by simp only [List.mem_cons, List.not_mem_nil, or_false, not_or]; omega))
              obtain ⟨l6_0, l6_1, l6_2, l6_3, l6_4⟩ := str5 (hx.str HS6_10.out (by omega) (by simp only [List.mem_cons, List.not_mem_nil, or_false, not_or]; omega))
              exact (Reg.wp_eqvB (Option.some_ne_none _) (by go_simp) rfl)
            · refine Reg.oblB_pure rfl rfl rfl ?_
              intro ax wx hx hs hmm
              replace hx : Reg.KeepB W10.heap.size [w.heap.size + 1 + 1, w.heap.size + 1 + 1 + 1] W10 wx := hx
              have hxB : Below w.heap.size W10 wx := hx.below (by omega) (by intro b hb; have hb : b ∈ ([w.heap.size + 1 + 1, w.heap.size + 1 + 1 + 1] : List Nat) := hb; simp only [List.mem_cons, List.not_mem_nil, or_false] at hb; rcases hb with rfl | rfl <;> omega)
              obtain ⟨e7, -⟩ := hs
              have g7 := Reg.ev (v := .pointer (some ⟨W1.heap.size, 0, none⟩)) e7
              obtain ⟨l0_0, l0_1, l0_2, l0_3, l0_4, l0_5⟩ := str6 (hx.str HS0_10.out (by omega) (by simp only [List.mem_cons, List.not_mem_nil, or_false, not_or]; omega))
              obtain ⟨l1_0, l1_1, l1_2, l1_3, l1_4, l1_5, l1_6⟩ := str7 (hx.str HS1_10.out (by omega) (by simp only [List.mem_cons, List.not_mem_nil, or_false, not_or]; omega))
              obtain ⟨l4_0, l4_1, l4_2, l4_3, l4_4, l4_5⟩ := str6 (hx.str HS4_10.out (by omega) (by simp only [List.mem_cons, List.not_mem_nil, or_false, not_or]; omega))
              obtain ⟨l5_0, l5_1, l5_2, l5_3, l5_4, l5_5, l5_6⟩ := str7 (hx.str HS5_10.out (by omega) (by simp only [List.mem_cons, List.not_mem_nil, or_false, not_or]; omega))
              obtain ⟨l6_0, l6_1, l6_2, l6_3, l6_4⟩ := str5 (hx.str HS6_10.out (by omega) (by simp only [List.mem_cons, List.not_mem_nil, or_false, not_or]; omega))
              exact (Reg.wp_eqvB (Option.some_ne_none _) (by go_simp) rfl)
            · refine Reg.oblB_store0 rfl rfl hOK (t := 4) (g := w.heap.size + 1 + 1) (List.mem_of_getElem? (i := 0) rfl) rfl (by show 2 < 4; decide) (fun _ _ => trivial) ?_
              intro ax wx rb hx hrb hs hmm hS
              replace hx : Reg.KeepB W10.heap.size [w.heap.size + 1 + 1, w.heap.size + 1 + 1 + 1] W10 wx := hx
              have hxB : Below w.heap.size W10 wx := hx.below (by omega) (by intro b hb; have hb : b ∈ ([w.heap.size + 1 + 1, w.heap.size + 1 + 1 + 1] : List Nat) := hb; simp only [List.mem_cons, List.not_mem_nil, or_false] at hb; rcases hb with rfl | rfl <;> omega)
              obtain ⟨e4, e66, -⟩ := hs
              have g4 := Reg.ev (v := .pointer (some ⟨w.heap.size + 1 + 1, 0, none⟩)) e4
              have g66 := Reg.ev (v := .agg #[.int .i64 1, .string xk, .int .i64 cc_.kind, .slice Ag ng cg, .int .i64 cc_.lo, .int .i64 cc_.hi, .int .i64 cc_.val]) e66
              exact Reg.st_box rfl (Reg.run_st_box rfl e4 e66 hS rfl (by kernel_rfl) rfl) rfl rfl
            · refine Reg.oblB_store0 rfl rfl hOK (t := 5) (g := w.heap.size + 1 + 1 + 1) (List.mem_of_getElem? (i := 1) rfl) rfl (by show 3 < 4; decide) (fun _ _ => trivial) ?_
              intro ax wx rb hx hrb hs hmm hS
              replace hx : Reg.KeepB W10.heap.size [w.heap.size + 1 + 1, w.heap.size + 1 + 1 + 1] W10 wx := hx
              have hxB : Below w.heap.size W10 wx := hx.below (by omega) (by intro b hb; have hb : b ∈ ([w.heap.size + 1 + 1, w.heap.size + 1 + 1 + 1] : List Nat) := hb; simp only [List.mem_cons, List.not_mem_nil, or_false] at hb; rcases hb with rfl | rfl <;> omega)
              obtain ⟨e5, e67, -⟩ := hs
              have g5 := Reg.ev (v := .pointer (some ⟨w.heap.size + 1 + 1 + 1, 0, none⟩)) e5
              have g67 := Reg.ev (v := .agg #[.int .i64 r.2.err, .int .i64 r.2.cell.kind, .slice A2 n2 c2, .int .i64 r.2.cell.lo, .int .i64 r.2.cell.hi, .int .i64 r.2.cell.val]) e67
              exact Reg.st_box rfl (Reg.run_st_box rfl e5 e67 hS rfl (by kernel_rfl) rfl) rfl rfl
          · intro W11 listed hwf hall
            simp only [Reg.Fin]
            rintro _ rfl _ rfl vn2 hn2 vn3 hn3
            intro hJ
            obtain ⟨hJM, hJB, hJN, hJ0⟩ := Reg.bj_end (n := 4) hall (by show ∀ b ∈ ([] : List (Nat × Tmp × Nat)), b.1 < 4 ∧ b.2.2 < 4; decide) (by show ∀ m ∈ ([] : List (Nat × Tmp)), m.1 < 4; decide) (by show ∀ k ∈ ([2, 3] : List Nat), k < 4; decide) hJ
            obtain ⟨cs4, hS4, hX4⟩ := hJ0 (4, w.heap.size + 1 + 1, 2) (List.mem_of_getElem? (i := 0) rfl)
            have hX4 : (Reg.rowM (Reg.eqM (.agg #[.int .i64 1, .string xk, .int .i64 cc_.kind, .slice Ag ng cg, .int .i64 cc_.lo, .int .i64 cc_.hi, .int .i64 cc_.val]))).pred cs4 W11 W11.heap.size := hX4
            obtain ⟨cs5, hS5, hX5⟩ := hJ0 (5, w.heap.size + 1 + 1 + 1, 3) (List.mem_of_getElem? (i := 1) rfl)
            have hX5 : (Reg.rowM (Reg.eqM (.agg #[.int .i64 r.2.err, .int .i64 r.2.cell.kind, .slice A2 n2 c2, .int .i64 r.2.cell.lo, .int .i64 r.2.cell.hi, .int .i64 r.2.cell.val]))).pred cs5 W11 W11.heap.size := hX5
            clear hJM hJB hJN hJ0 hJ hall 
            go_simp
            replace hwf : Reg.KeepB W10.heap.size [w.heap.size + 1 + 1, w.heap.size + 1 + 1 + 1] W10 W11 := hwf
            have hbw : Below w.heap.size W10 W11 := hwf.below (by omega) (by intro b hb; simp only [List.mem_cons, List.not_mem_nil, or_false] at hb; rcases hb with rfl | rfl <;> omega)
            have HS0_11 := Lib.hid (hwf.str HS0_10.out (by omega) (by simp only [List.mem_cons, List.not_mem_nil, or_false, not_or]; omega))
            have HS1_11 := Lib.hid (hwf.str HS1_10.out (by omega) (by simp only [List.mem_cons, List.not_mem_nil, or_false, not_or]; omega))
            have HS4_11 := Lib.hid (hwf.str HS4_10.out (by omega) (by simp only [List.mem_cons, List.not_mem_nil, or_false, not_or]; omega))
            have HS5_11 := Lib.hid (hwf.str HS5_10.out (by omega) (by simp only [List.mem_cons, List.not_mem_nil, or_false, not_or]; omega))
            have HS6_11 := Lib.hid (hwf.str HS6_10.out (by omega) (by simp only [List.mem_cons, List.not_mem_nil, or_false, not_or]; omega))
            have HB_11 := Lib.hid (HB_10.out.trans hbw)
            have hw_11 := HB_11.out.size
            have hws_11 := hbw.size
            have HYa_11 := Lib.hid ((HYa_10.out.keepB (Nat.le_refl _) HNU.out hwf).more hws_11)
            clear HYa_10
            have HYc_11 := Lib.hid ((HYc_10.out.keepB (Nat.le_refl _) HNU.out hwf).more hws_11)
            clear HYc_10
            have HYf_11 := Lib.hid ((HYf_10.out.keepB (Nat.le_refl _) HNU.out hwf).more hws_11)
            clear HYf_10
            have HYg_11 := Lib.hid ((HYg_10.out.keepB (Nat.le_refl _) HNU.out hwf).more hws_11)
            clear HYg_10
            have HS2_11 := Lib.hid hS4
            clear hS4
            have HS3_11 := Lib.hid hS5
            clear hS5
            clear f0_10 HS0_10 hf0_10 f1_10 HS1_10 hf1_10 f2_10 HS2_10 hf2_10 f3_10 HS3_10 hf3_10 f4_10 HS4_10 f5_10 HS5_10 hf5_10 f6_10 HS6_10 hf6_10
            clear HNU
            clear hwf hbw hOK
            have e4 : cs4 = #[.int .i64 1, .string xk, .int .i64 cc_.kind, .slice Ag ng cg, .int .i64 cc_.lo, .int .i64 cc_.hi, .int .i64 cc_.val] := by injection hX4
            have e5 : cs5 = #[.int .i64 r.2.err, .int .i64 r.2.cell.kind, .slice A2 n2 c2, .int .i64 r.2.cell.lo, .int .i64 r.2.cell.hi, .int .i64 r.2.cell.val] := by injection hX5
            subst e4 e5
            clear hX4 hX5
            have f0_11 := str6 HS0_11.out
            have hl0_11 := HS0_11.out.lt
            have hf0_11 := fun j => HS0_11.out.frozen j
            have f1_11 := str7 HS1_11.out
            have hl1_11 := HS1_11.out.lt
            have hf1_11 := fun j => HS1_11.out.frozen j
            have f2_11 := str7 HS2_11.out
            have hl2_11 := HS2_11.out.lt
            have hf2_11 := fun j => HS2_11.out.frozen j
            have f3_11 := str6 HS3_11.out
            have hl3_11 := HS3_11.out.lt
            have hf3_11 := fun j => HS3_11.out.frozen j
            have f4_11 := str6 HS4_11.out
            have hl4_11 := HS4_11.out.lt
            have f5_11 := str7 HS5_11.out
            have hl5_11 := HS5_11.out.lt
            have hf5_11 := fun j => HS5_11.out.frozen j
            have f6_11 := str5 HS6_11.out
            have hl6_11 := HS6_11.out.lt
            have hf6_11 := fun j => HS6_11.out.frozen j
            go_wp2_with fail
            refine bodyPost_ret (v := .tuple #[.agg #[.int .i64 1, .string xk, .int .i64 cc_.kind, .slice Ag ng cg, .int .i64 cc_.lo, .int .i64 cc_.hi, .int .i64 cc_.val], .agg #[.int .i64 r.2.err, .int .i64 r.2.cell.kind, .slice A2 n2 c2, .int .i64 r.2.cell.lo, .int .i64 r.2.cell.hi, .int .i64 r.2.cell.val]]) (by simp [results, Try.results36, go_sem, *]) rfl ?_
            rw [HA.out]
            exact ⟨Ag, ng, cg, A2, n2, c2, rfl, HYg_11.out, HYa_11.out, HB_11.out⟩
end Go.Proofs.Ytghgccgpgonlmaa.PlanW
namespace Go.Proofs.Ytghgccgpgonlmaa.ModelP
def muchP (p : Pair) : Bool := decide (300 < p.key.size) || decide (300 < p.cell.data.length)
def muchO (p : OpX) : Bool := decide (300 < p.key.size) || decide (300 < p.data.length)
def muchS (l : List Pair) : Bool := (l.take 100).any muchP || decide (60 < l.length)
def muchL (l : List OpX) : Bool := (l.take 100).any muchO || decide (60 < l.length)
end Go.Proofs.Ytghgccgpgonlmaa.ModelP
namespace Go.Proofs.Ytghgccgpgonlmaa.ModelW
open Go.RowKit
set_option linter.unusedVariables false
set_option maxRecDepth 100000 in
set_option maxHeartbeats 400000 in
theorem good_low (act : Int) (xk : ByteArray) (Ax : Option Addr) (nx cx : Nat) (xdata : List UInt8) (xlo xhi xn : Int) (w : World) (hxk : xk.size ≤ maxLen) (hl : xdata.length = nx) (h : act < 0) :
    Calls Try.prog 16 #[.agg #[.int .i64 act, .string xk, .slice Ax nx cx, .int .i64 xlo, .int .i64 xhi, .int .i64 xn]] w fun e w' => e = .returned (.bool (false)) ∧ Below w.heap.size w w' := by
  have d0 : decide (act < 0) = true := by simpa using h
  go_enter Try.func16, Try.ntmps16
  go_wp2_with (go_at_call 60; refine (Key.right_any xk _ hxk).mono ?_; rintro e w1 ⟨rfl, rfl⟩)
  go_ret
  exact ⟨by rfl, balloc (bsame w) _⟩
set_option maxRecDepth 100000 in
set_option maxHeartbeats 400000 in
theorem good_high (act : Int) (xk : ByteArray) (Ax : Option Addr) (nx cx : Nat) (xdata : List UInt8) (xlo xhi xn : Int) (w : World) (hxk : xk.size ≤ maxLen) (hl : xdata.length = nx) (h : 5 < act) :
    Calls Try.prog 16 #[.agg #[.int .i64 act, .string xk, .slice Ax nx cx, .int .i64 xlo, .int .i64 xhi, .int .i64 xn]] w fun e w' => e = .returned (.bool (false)) ∧ Below w.heap.size w w' := by
  have d0 : decide (act < 0) = false := by simp; omega
  have d1 : decide (5 < act) = true := by simpa using h
  go_enter Try.func16, Try.ntmps16
  go_wp2_with (go_at_call 60; refine (Key.right_any xk _ hxk).mono ?_; rintro e w1 ⟨rfl, rfl⟩)
  go_ret
  exact ⟨by rfl, balloc (bsame w) _⟩
set_option maxRecDepth 100000 in
set_option maxHeartbeats 400000 in
theorem good_wrong0 (xk : ByteArray) (Ax : Option Addr) (nx cx : Nat) (xdata : List UInt8) (xlo xhi xn : Int) (w : World) (hxk : xk.size ≤ maxLen) (hl : xdata.length = nx) (hr : KeyP.right xk.data.toList = false) :
    Calls Try.prog 16 #[.agg #[.int .i64 0, .string xk, .slice Ax nx cx, .int .i64 xlo, .int .i64 xhi, .int .i64 xn]] w fun e w' => e = .returned (.bool (false)) ∧ Below w.heap.size w w' := by
  go_enter Try.func16, Try.ntmps16
  go_wp2_with (go_at_call 60; refine (Key.right_any xk _ hxk).mono ?_; rintro e w1 ⟨rfl, rfl⟩)
  go_ret
  exact ⟨by rfl, balloc (bsame w) _⟩
set_option maxRecDepth 100000 in
set_option maxHeartbeats 400000 in
theorem good_wrong1 (xk : ByteArray) (Ax : Option Addr) (nx cx : Nat) (xdata : List UInt8) (xlo xhi xn : Int) (w : World) (hxk : xk.size ≤ maxLen) (hl : xdata.length = nx) (hr : KeyP.right xk.data.toList = false) :
    Calls Try.prog 16 #[.agg #[.int .i64 1, .string xk, .slice Ax nx cx, .int .i64 xlo, .int .i64 xhi, .int .i64 xn]] w fun e w' => e = .returned (.bool (false)) ∧ Below w.heap.size w w' := by
  go_enter Try.func16, Try.ntmps16
  go_wp2_with (go_at_call 60; refine (Key.right_any xk _ hxk).mono ?_; rintro e w1 ⟨rfl, rfl⟩)
  go_ret
  exact ⟨by rfl, balloc (bsame w) _⟩
set_option maxRecDepth 100000 in
set_option maxHeartbeats 400000 in
theorem good_wrong2 (xk : ByteArray) (Ax : Option Addr) (nx cx : Nat) (xdata : List UInt8) (xlo xhi xn : Int) (w : World) (hxk : xk.size ≤ maxLen) (hl : xdata.length = nx) (hr : KeyP.right xk.data.toList = false) :
    Calls Try.prog 16 #[.agg #[.int .i64 2, .string xk, .slice Ax nx cx, .int .i64 xlo, .int .i64 xhi, .int .i64 xn]] w fun e w' => e = .returned (.bool (false)) ∧ Below w.heap.size w w' := by
  go_enter Try.func16, Try.ntmps16
  go_wp2_with (go_at_call 60; refine (Key.right_any xk _ hxk).mono ?_; rintro e w1 ⟨rfl, rfl⟩)
  go_ret
  exact ⟨by rfl, balloc (bsame w) _⟩
set_option maxRecDepth 100000 in
set_option maxHeartbeats 400000 in
theorem good_wrong3 (xk : ByteArray) (Ax : Option Addr) (nx cx : Nat) (xdata : List UInt8) (xlo xhi xn : Int) (w : World) (hxk : xk.size ≤ maxLen) (hl : xdata.length = nx) (hr : KeyP.right xk.data.toList = false) :
    Calls Try.prog 16 #[.agg #[.int .i64 3, .string xk, .slice Ax nx cx, .int .i64 xlo, .int .i64 xhi, .int .i64 xn]] w fun e w' => e = .returned (.bool (false)) ∧ Below w.heap.size w w' := by
  go_enter Try.func16, Try.ntmps16
  go_wp2_with (go_at_call 60; refine (Key.right_any xk _ hxk).mono ?_; rintro e w1 ⟨rfl, rfl⟩)
  go_ret
  exact ⟨by rfl, balloc (bsame w) _⟩
set_option maxRecDepth 100000 in
set_option maxHeartbeats 400000 in
theorem good_wrong4 (xk : ByteArray) (Ax : Option Addr) (nx cx : Nat) (xdata : List UInt8) (xlo xhi xn : Int) (w : World) (hxk : xk.size ≤ maxLen) (hl : xdata.length = nx) (hr : KeyP.right xk.data.toList = false) :
    Calls Try.prog 16 #[.agg #[.int .i64 4, .string xk, .slice Ax nx cx, .int .i64 xlo, .int .i64 xhi, .int .i64 xn]] w fun e w' => e = .returned (.bool (false)) ∧ Below w.heap.size w w' := by
  go_enter Try.func16, Try.ntmps16
  go_wp2_with (go_at_call 60; refine (Key.right_any xk _ hxk).mono ?_; rintro e w1 ⟨rfl, rfl⟩)
  go_ret
  exact ⟨by rfl, balloc (bsame w) _⟩
set_option maxRecDepth 100000 in
set_option maxHeartbeats 400000 in
theorem good_wrong5 (xk : ByteArray) (Ax : Option Addr) (nx cx : Nat) (xdata : List UInt8) (xlo xhi xn : Int) (w : World) (hxk : xk.size ≤ maxLen) (hl : xdata.length = nx) (hr : KeyP.right xk.data.toList = false) :
    Calls Try.prog 16 #[.agg #[.int .i64 5, .string xk, .slice Ax nx cx, .int .i64 xlo, .int .i64 xhi, .int .i64 xn]] w fun e w' => e = .returned (.bool (false)) ∧ Below w.heap.size w w' := by
  go_enter Try.func16, Try.ntmps16
  go_wp2_with (go_at_call 60; refine (Key.right_any xk _ hxk).mono ?_; rintro e w1 ⟨rfl, rfl⟩)
  go_ret
  exact ⟨by rfl, balloc (bsame w) _⟩
set_option maxRecDepth 100000 in
set_option maxHeartbeats 400000 in
theorem good_a0 (xk : ByteArray) (Ax : Option Addr) (nx cx : Nat) (xdata : List UInt8) (xlo xhi xn : Int) (w : World) (hxk : xk.size ≤ maxLen) (hl : xdata.length = nx) (hr : KeyP.right xk.data.toList = true) :
    Calls Try.prog 16 #[.agg #[.int .i64 0, .string xk, .slice Ax nx cx, .int .i64 xlo, .int .i64 xhi, .int .i64 xn]] w fun e w' => e = .returned (.bool (true)) ∧ Below w.heap.size w w' := by
  go_enter Try.func16, Try.ntmps16
  go_wp2_with (go_at_call 60; refine (Key.right_any xk _ hxk).mono ?_; rintro e w1 ⟨rfl, rfl⟩)
  go_ret
  exact ⟨by rfl, balloc (bsame w) _⟩
set_option maxRecDepth 100000 in
set_option maxHeartbeats 400000 in
theorem good_a3 (xk : ByteArray) (Ax : Option Addr) (nx cx : Nat) (xdata : List UInt8) (xlo xhi xn : Int) (w : World) (hxk : xk.size ≤ maxLen) (hl : xdata.length = nx) (hr : KeyP.right xk.data.toList = true) :
    Calls Try.prog 16 #[.agg #[.int .i64 3, .string xk, .slice Ax nx cx, .int .i64 xlo, .int .i64 xhi, .int .i64 xn]] w fun e w' => e = .returned (.bool (true)) ∧ Below w.heap.size w w' := by
  go_enter Try.func16, Try.ntmps16
  go_wp2_with (go_at_call 60; refine (Key.right_any xk _ hxk).mono ?_; rintro e w1 ⟨rfl, rfl⟩)
  go_ret
  exact ⟨by rfl, balloc (bsame w) _⟩
set_option maxRecDepth 100000 in
set_option maxHeartbeats 400000 in
theorem good_w (xk : ByteArray) (Ax : Option Addr) (nx cx : Nat) (xdata : List UInt8) (xlo xhi xn : Int) (w : World) (hxk : xk.size ≤ maxLen) (hl : xdata.length = nx) (hr : KeyP.right xk.data.toList = true) (h : nx ≤ 32) :
    Calls Try.prog 16 #[.agg #[.int .i64 1, .string xk, .slice Ax nx cx, .int .i64 xlo, .int .i64 xhi, .int .i64 xn]] w fun e w' => e = .returned (.bool (true)) ∧ Below w.heap.size w w' := by
  have d : decide ((nx : Int) ≤ 32) = true := by simp; omega
  go_enter Try.func16, Try.ntmps16
  go_wp2_with (go_at_call 60; refine (Key.right_any xk _ hxk).mono ?_; rintro e w1 ⟨rfl, rfl⟩)
  go_ret
  exact ⟨by rfl, balloc (bsame w) _⟩
set_option maxRecDepth 100000 in
set_option maxHeartbeats 400000 in
theorem good_wN (xk : ByteArray) (Ax : Option Addr) (nx cx : Nat) (xdata : List UInt8) (xlo xhi xn : Int) (w : World) (hxk : xk.size ≤ maxLen) (hl : xdata.length = nx) (hr : KeyP.right xk.data.toList = true) (h : 32 < nx) :
    Calls Try.prog 16 #[.agg #[.int .i64 1, .string xk, .slice Ax nx cx, .int .i64 xlo, .int .i64 xhi, .int .i64 xn]] w fun e w' => e = .returned (.bool (false)) ∧ Below w.heap.size w w' := by
  have d : decide ((nx : Int) ≤ 32) = false := by simp; omega
  go_enter Try.func16, Try.ntmps16
  go_wp2_with (go_at_call 60; refine (Key.right_any xk _ hxk).mono ?_; rintro e w1 ⟨rfl, rfl⟩)
  go_ret
  exact ⟨by rfl, balloc (bsame w) _⟩
set_option maxRecDepth 100000 in
set_option maxHeartbeats 400000 in
theorem good_c (xk : ByteArray) (Ax : Option Addr) (nx cx : Nat) (xdata : List UInt8) (xlo xhi xn : Int) (w : World) (hxk : xk.size ≤ maxLen) (hl : xdata.length = nx) (hr : KeyP.right xk.data.toList = true) (h1 : xlo ≤ xn) (h2 : xn ≤ xhi) :
    Calls Try.prog 16 #[.agg #[.int .i64 2, .string xk, .slice Ax nx cx, .int .i64 xlo, .int .i64 xhi, .int .i64 xn]] w fun e w' => e = .returned (.bool (true)) ∧ Below w.heap.size w w' := by
  go_enter Try.func16, Try.ntmps16
  go_wp2_with (go_at_call 60; refine (Key.right_any xk _ hxk).mono ?_; rintro e w1 ⟨rfl, rfl⟩)
  go_ret
  exact ⟨by rfl, balloc (bsame w) _⟩
set_option maxRecDepth 100000 in
set_option maxHeartbeats 400000 in
theorem good_cN1 (xk : ByteArray) (Ax : Option Addr) (nx cx : Nat) (xdata : List UInt8) (xlo xhi xn : Int) (w : World) (hxk : xk.size ≤ maxLen) (hl : xdata.length = nx) (hr : KeyP.right xk.data.toList = true) (h1 : xn < xlo) :
    Calls Try.prog 16 #[.agg #[.int .i64 2, .string xk, .slice Ax nx cx, .int .i64 xlo, .int .i64 xhi, .int .i64 xn]] w fun e w' => e = .returned (.bool (false)) ∧ Below w.heap.size w w' := by
  have d : decide (xlo ≤ xn) = false := by simp; omega
  go_enter Try.func16, Try.ntmps16
  go_wp2_with (go_at_call 60; refine (Key.right_any xk _ hxk).mono ?_; rintro e w1 ⟨rfl, rfl⟩)
  go_ret
  exact ⟨by rfl, balloc (bsame w) _⟩
set_option maxRecDepth 100000 in
set_option maxHeartbeats 400000 in
theorem good_cN2 (xk : ByteArray) (Ax : Option Addr) (nx cx : Nat) (xdata : List UInt8) (xlo xhi xn : Int) (w : World) (hxk : xk.size ≤ maxLen) (hl : xdata.length = nx) (hr : KeyP.right xk.data.toList = true) (h1 : xlo ≤ xn) (h2 : xhi < xn) :
    Calls Try.prog 16 #[.agg #[.int .i64 2, .string xk, .slice Ax nx cx, .int .i64 xlo, .int .i64 xhi, .int .i64 xn]] w fun e w' => e = .returned (.bool (false)) ∧ Below w.heap.size w w' := by
  have d : decide (xn ≤ xhi) = false := by simp; omega
  go_enter Try.func16, Try.ntmps16
  go_wp2_with (go_at_call 60; refine (Key.right_any xk _ hxk).mono ?_; rintro e w1 ⟨rfl, rfl⟩)
  go_ret
  exact ⟨by rfl, balloc (bsame w) _⟩
set_option maxRecDepth 100000 in
set_option maxHeartbeats 400000 in
theorem good_i4 (xk : ByteArray) (Ax : Option Addr) (nx cx : Nat) (xdata : List UInt8) (xlo xhi xn : Int) (w : World) (hxk : xk.size ≤ maxLen) (hl : xdata.length = nx) (hr : KeyP.right xk.data.toList = true) (h : 0 ≤ xn) :
    Calls Try.prog 16 #[.agg #[.int .i64 4, .string xk, .slice Ax nx cx, .int .i64 xlo, .int .i64 xhi, .int .i64 xn]] w fun e w' => e = .returned (.bool (true)) ∧ Below w.heap.size w w' := by
  go_enter Try.func16, Try.ntmps16
  go_wp2_with (go_at_call 60; refine (Key.right_any xk _ hxk).mono ?_; rintro e w1 ⟨rfl, rfl⟩)
  go_ret
  exact ⟨by rfl, balloc (bsame w) _⟩
set_option maxRecDepth 100000 in
set_option maxHeartbeats 400000 in
theorem good_iN4 (xk : ByteArray) (Ax : Option Addr) (nx cx : Nat) (xdata : List UInt8) (xlo xhi xn : Int) (w : World) (hxk : xk.size ≤ maxLen) (hl : xdata.length = nx) (hr : KeyP.right xk.data.toList = true) (h : xn < 0) :
    Calls Try.prog 16 #[.agg #[.int .i64 4, .string xk, .slice Ax nx cx, .int .i64 xlo, .int .i64 xhi, .int .i64 xn]] w fun e w' => e = .returned (.bool (false)) ∧ Below w.heap.size w w' := by
  have d : decide (0 ≤ xn) = false := by simp; omega
  go_enter Try.func16, Try.ntmps16
  go_wp2_with (go_at_call 60; refine (Key.right_any xk _ hxk).mono ?_; rintro e w1 ⟨rfl, rfl⟩)
  go_ret
  exact ⟨by rfl, balloc (bsame w) _⟩
set_option maxRecDepth 100000 in
set_option maxHeartbeats 400000 in
theorem good_i5 (xk : ByteArray) (Ax : Option Addr) (nx cx : Nat) (xdata : List UInt8) (xlo xhi xn : Int) (w : World) (hxk : xk.size ≤ maxLen) (hl : xdata.length = nx) (hr : KeyP.right xk.data.toList = true) (h : 0 ≤ xn) :
    Calls Try.prog 16 #[.agg #[.int .i64 5, .string xk, .slice Ax nx cx, .int .i64 xlo, .int .i64 xhi, .int .i64 xn]] w fun e w' => e = .returned (.bool (true)) ∧ Below w.heap.size w w' := by
  go_enter Try.func16, Try.ntmps16
  go_wp2_with (go_at_call 60; refine (Key.right_any xk _ hxk).mono ?_; rintro e w1 ⟨rfl, rfl⟩)
  go_ret
  exact ⟨by rfl, balloc (bsame w) _⟩
set_option maxRecDepth 100000 in
set_option maxHeartbeats 400000 in
theorem good_iN5 (xk : ByteArray) (Ax : Option Addr) (nx cx : Nat) (xdata : List UInt8) (xlo xhi xn : Int) (w : World) (hxk : xk.size ≤ maxLen) (hl : xdata.length = nx) (hr : KeyP.right xk.data.toList = true) (h : xn < 0) :
    Calls Try.prog 16 #[.agg #[.int .i64 5, .string xk, .slice Ax nx cx, .int .i64 xlo, .int .i64 xhi, .int .i64 xn]] w fun e w' => e = .returned (.bool (false)) ∧ Below w.heap.size w w' := by
  have d : decide (0 ≤ xn) = false := by simp; omega
  go_enter Try.func16, Try.ntmps16
  go_wp2_with (go_at_call 60; refine (Key.right_any xk _ hxk).mono ?_; rintro e w1 ⟨rfl, rfl⟩)
  go_ret
  exact ⟨by rfl, balloc (bsame w) _⟩
/-- ref09.Good -/
theorem good_any (x : OpX) (Ax : Option Addr) (nx cx : Nat) (w : World) (hxk : x.key.size ≤ maxLen) (hl : x.data.length = nx) :
    Calls Try.prog 16 #[.agg (opV x Ax nx cx).toArray] w fun e w' => e = .returned (.bool (ModelP.good x)) ∧ Below w.heap.size w w' := by
  obtain ⟨act, xk, xdata, xlo, xhi, xn⟩ := x
  dsimp only at hxk hl
  by_cases h0 : act < 0
  · rw [show ModelP.good ⟨act, xk, xdata, xlo, xhi, xn⟩ = false from by have : ¬ (0 ≤ act ∧ act ≤ 5) := by omega
                                                                        simp [ModelP.good, this]]
    exact good_low act xk Ax nx cx xdata xlo xhi xn w hxk hl h0
  by_cases h5 : 5 < act
  · rw [show ModelP.good ⟨act, xk, xdata, xlo, xhi, xn⟩ = false from by have : ¬ (0 ≤ act ∧ act ≤ 5) := by omega
                                                                        simp [ModelP.good, this]]
    exact good_high act xk Ax nx cx xdata xlo xhi xn w hxk hl h5
  have hcase : act = 0 ∨ act = 1 ∨ act = 2 ∨ act = 3 ∨ act = 4 ∨ act = 5 := by omega
  clear h0 h5
  by_cases hr : KeyP.right xk.data.toList = true
  · rcases hcase with rfl | rfl | rfl | rfl | rfl | rfl
    · rw [show ModelP.good ⟨0, xk, xdata, xlo, xhi, xn⟩ = true from by simp [ModelP.good, hr]]
      exact good_a0 xk Ax nx cx xdata xlo xhi xn w hxk hl hr
    · by_cases h : nx ≤ 32
      · rw [show ModelP.good ⟨1, xk, xdata, xlo, xhi, xn⟩ = true from by simp [ModelP.good, hr, hl, h]]
        exact good_w xk Ax nx cx xdata xlo xhi xn w hxk hl hr h
      · rw [show ModelP.good ⟨1, xk, xdata, xlo, xhi, xn⟩ = false from by simp [ModelP.good, hr, hl, h]]
        exact good_wN xk Ax nx cx xdata xlo xhi xn w hxk hl hr (by omega)
    · by_cases h : xlo ≤ xn
      · by_cases h2 : xn ≤ xhi
        · rw [show ModelP.good ⟨2, xk, xdata, xlo, xhi, xn⟩ = true from by simp [ModelP.good, hr, h, h2]]
          exact good_c xk Ax nx cx xdata xlo xhi xn w hxk hl hr h h2
        · rw [show ModelP.good ⟨2, xk, xdata, xlo, xhi, xn⟩ = false from by simp [ModelP.good, h2]]
          exact good_cN2 xk Ax nx cx xdata xlo xhi xn w hxk hl hr h (by omega)
      · rw [show ModelP.good ⟨2, xk, xdata, xlo, xhi, xn⟩ = false from by simp [ModelP.good, h]]
        exact good_cN1 xk Ax nx cx xdata xlo xhi xn w hxk hl hr (by omega)
    · rw [show ModelP.good ⟨3, xk, xdata, xlo, xhi, xn⟩ = true from by simp [ModelP.good, hr]]
      exact good_a3 xk Ax nx cx xdata xlo xhi xn w hxk hl hr
    · by_cases h : 0 ≤ xn
      · rw [show ModelP.good ⟨4, xk, xdata, xlo, xhi, xn⟩ = true from by simp [ModelP.good, hr, h]]
        exact good_i4 xk Ax nx cx xdata xlo xhi xn w hxk hl hr h
      · rw [show ModelP.good ⟨4, xk, xdata, xlo, xhi, xn⟩ = false from by simp [ModelP.good, h]]
        exact good_iN4 xk Ax nx cx xdata xlo xhi xn w hxk hl hr (by omega)
    · by_cases h : 0 ≤ xn
      · rw [show ModelP.good ⟨5, xk, xdata, xlo, xhi, xn⟩ = true from by simp [ModelP.good, hr, h]]
        exact good_i5 xk Ax nx cx xdata xlo xhi xn w hxk hl hr h
      · rw [show ModelP.good ⟨5, xk, xdata, xlo, xhi, xn⟩ = false from by simp [ModelP.good, h]]
        exact good_iN5 xk Ax nx cx xdata xlo xhi xn w hxk hl hr (by omega)
  · have hr : KeyP.right xk.data.toList = false := by simpa using hr
    rw [show ModelP.good ⟨act, xk, xdata, xlo, xhi, xn⟩ = false from by simp [ModelP.good, hr]]
    rcases hcase with rfl | rfl | rfl | rfl | rfl | rfl
    · exact good_wrong0 xk Ax nx cx xdata xlo xhi xn w hxk hl hr
    · exact good_wrong1 xk Ax nx cx xdata xlo xhi xn w hxk hl hr
    · exact good_wrong2 xk Ax nx cx xdata xlo xhi xn w hxk hl hr
    · exact good_wrong3 xk Ax nx cx xdata xlo xhi xn w hxk hl hr
    · exact good_wrong4 xk Ax nx cx xdata xlo xhi xn w hxk hl hr
    · exact good_wrong5 xk Ax nx cx xdata xlo xhi xn w hxk hl hr
set_option maxRecDepth 100000 in
set_option maxHeartbeats 1000000 in
theorem exact_any (a b : OpX) (Aa Ab : Option Addr) (na ca nb cb Ba Bb : Nat) (w : World) (h : Bytes w Ba Aa na ca a.data) (hB : Ba ≤ w.heap.size) (h' : Bytes w Bb Ab nb cb b.data) (hB' : Bb ≤ w.heap.size) :
    Calls Try.prog 17 #[.agg (opV a Aa na ca).toArray, .agg (opV b Ab nb cb).toArray] w fun e w' => e = .returned (.bool (ModelP.same a b)) ∧ Below w.heap.size w w' := by
  obtain ⟨a0, ak, ad, a1, a2, a3⟩ := a
  obtain ⟨b0, bk, bd, b1, b2, b3⟩ := b
  dsimp only [opV] at *
  have H := Lib.hid h
  have H' := Lib.hid h'
  clear h h'
  go_enter Try.func17, Try.ntmps17
  go_wp2_with (go_at_call 61; refine (Same.same_any _ _ _ _ _ _ _ _ _ _ _ ((H.out.alloc hB _).alloc (by simp; omega) _) ((H'.out.alloc hB' _).alloc (by simp; omega) _)).mono ?_; rintro e w' ⟨rfl, rfl⟩)
  all_goals go_ret
  all_goals refine ⟨congrArg (fun b => Ending.returned (.bool b)) ?_, balloc (balloc (bsame _) _) _⟩
  all_goals simp_all [ModelP.same]
theorem muchP_hit {l : List Pair} {k : Nat} {p : Pair} (hk : k < 100) (hp : l[k]? = some p) (h : ModelP.muchP p = true) : ModelP.muchS l = true := by
  unfold ModelP.muchS
  rw [Bool.or_eq_true]
  left
  exact List.any_eq_true.2 ⟨p, List.mem_of_getElem? (i := k) (by rw [List.getElem?_take, if_pos hk]; exact hp), h⟩
theorem muchP_miss {l : List Pair} {k : Nat} (h : ∀ (j : Nat) p, j < k → l[j]? = some p → ModelP.muchP p = false) (hk : l.length ≤ k ∨ 100 ≤ k) : ModelP.muchS l = decide (60 < l.length) := by
  unfold ModelP.muchS
  have : (l.take 100).any ModelP.muchP = false := by
    rw [List.any_eq_false]
    intro p hp
    obtain ⟨j, hj, rfl⟩ := List.getElem_of_mem hp
    have hj' : j < 100 ∧ j < l.length := by simp at hj; omega
    rw [List.getElem_take, h j _ (by omega) (List.getElem?_eq_getElem _)]
    simp
  rw [this, Bool.false_or]
set_option maxRecDepth 100000 in
set_option maxHeartbeats 1000000 in
theorem muchState_any (A : Option Addr) (n c B : Nat) (l : List Pair) (w : World) (h : Elems PairE w B A n c l) (hB : B ≤ w.heap.size) :
    Calls Try.prog 20 #[.slice A n c] w fun e w' => e = .returned (.bool (ModelP.muchS l)) ∧ Below w.heap.size w w' := by
  have H := Lib.hid h
  have HL := Lib.hid h.len
  have hcm := h.cap
  unfold maxLen at hcm
  clear h
  go_enter Try.func20, Try.ntmps20
  go_wp2
  go_loopw [3] (fun i wr => ∃ k : Nat, k ≤ n ∧ k ≤ 100 ∧ i = .int .i64 (k : Int) ∧ Hid (Below w.heap.size w wr ∧ ∀ (j : Nat) p, j < k → l[j]? = some p → ModelP.muchP p = false)) (fun i _ => n - (intOf i).toNat)
  case atStart => exact ⟨0, Nat.zero_le _, by omega, rfl, Lib.hid ⟨bsame w, fun j q hj => absurd hj (by omega)⟩⟩
  case round =>
    obtain ⟨k, hk, hk2, rfl, HK⟩ := hrel
    have hsz := HK.out.1.size
    by_cases hlt : k < n
    · by_cases hlt2 : k < 100
      · obtain ⟨b, o, p, Ap, np, cp, rfl, hbB, hp, hby, hpk, -, -, -, -, c0, c1, c2, c3, c4, c5⟩ := pair_at (H.out.below (HK.out.1.mono hB)) hlt
        have HP := Lib.hid hp
        have hnp := hby.len
        have hnc := hby.2.1
        have hnm := hby.2.2.1
        clear hp hby
        obtain ⟨pk, pkd, pda, plo, phi, pva⟩ := p
        dsimp only at *
        unfold maxLen at hpk hnm
        have hbw : b < wr.heap.size := by omega
        by_cases h1 : 300 < pk.size
        · have HE := Lib.hid (muchP_hit hlt2 HP.out (by simp [ModelP.muchP, h1]))
          go_wp2
          go_ret
          exact ⟨by rw [HE.out]; rfl, HK.out.1⟩
        · by_cases h2 : 300 < np
          · have HE := Lib.hid (muchP_hit hlt2 HP.out (by simp [ModelP.muchP, hnp, h2]))
            have d1 : decide (300 < (pk.size : Int)) = false := by simp; omega
            go_wp2
            go_ret
            exact ⟨by rw [HE.out]; rfl, HK.out.1⟩
          · have HN : Hid (ModelP.muchP ⟨pk, ⟨pkd, pda, plo, phi, pva⟩⟩ = false) := Lib.hid (by simp [ModelP.muchP, hnp]; omega)
            have d1 : decide (300 < (pk.size : Int)) = false := by simp; omega
            have d2 : decide (300 < (np : Int)) = false := by simp; omega
            go_wp2
            go_roundw
            case rel => exact ⟨k + 1, by omega, by omega, by go_num, Lib.hid ⟨HK.out.1, fun j q hj hq => by
              rcases Nat.lt_or_ge j k with h3 | h3
              · exact HK.out.2 j q h3 hq
              · have : j = k := by omega
                subst this
                rw [HP.out] at hq
                cases hq
                exact HN.out⟩⟩
            case measure => simp [intOf]; omega
      · have HE := Lib.hid (muchP_miss (k := k) HK.out.2 (by omega))
        have d1 : decide ((k : Int) < 100) = false := by simp; omega
        go_wp2
        go_ret
        exact ⟨by rw [HE.out, HL.out]; simp; omega, HK.out.1⟩
    · have HE := Lib.hid (muchP_miss (k := k) HK.out.2 (by left; rw [HL.out]; omega))
      have d1 : decide ((k : Int) < (n : Int)) = false := by simp; omega
      go_wp2
      go_ret
      exact ⟨by rw [HE.out, HL.out]; simp; omega, HK.out.1⟩
theorem muchO_hit {l : List OpX} {k : Nat} {p : OpX} (hk : k < 100) (hp : l[k]? = some p) (h : ModelP.muchO p = true) : ModelP.muchL l = true := by
  unfold ModelP.muchL
  rw [Bool.or_eq_true]
  left
  exact List.any_eq_true.2 ⟨p, List.mem_of_getElem? (i := k) (by rw [List.getElem?_take, if_pos hk]; exact hp), h⟩
theorem muchO_miss {l : List OpX} {k : Nat} (h : ∀ (j : Nat) p, j < k → l[j]? = some p → ModelP.muchO p = false) (hk : l.length ≤ k ∨ 100 ≤ k) : ModelP.muchL l = decide (60 < l.length) := by
  unfold ModelP.muchL
  have : (l.take 100).any ModelP.muchO = false := by
    rw [List.any_eq_false]
    intro p hp
    obtain ⟨j, hj, rfl⟩ := List.getElem_of_mem hp
    have hj' : j < 100 ∧ j < l.length := by simp at hj; omega
    rw [List.getElem_take, h j _ (by omega) (List.getElem?_eq_getElem _)]
    simp
  rw [this, Bool.false_or]
set_option maxRecDepth 100000 in
set_option maxHeartbeats 1000000 in
theorem much_any (A : Option Addr) (n c B : Nat) (l : List OpX) (w : World) (h : Elems OpE w B A n c l) (hB : B ≤ w.heap.size) :
    Calls Try.prog 12 #[.slice A n c] w fun e w' => e = .returned (.bool (ModelP.muchL l)) ∧ Below w.heap.size w w' := by
  have H := Lib.hid h
  have HL := Lib.hid h.len
  have hcm := h.cap
  unfold maxLen at hcm
  clear h
  go_enter Try.func12, Try.ntmps12
  go_wp2
  go_loopw [3] (fun i wr => ∃ k : Nat, k ≤ n ∧ k ≤ 100 ∧ i = .int .i64 (k : Int) ∧ Hid (Below w.heap.size w wr ∧ ∀ (j : Nat) p, j < k → l[j]? = some p → ModelP.muchO p = false)) (fun i _ => n - (intOf i).toNat)
  case atStart => exact ⟨0, Nat.zero_le _, by omega, rfl, Lib.hid ⟨bsame w, fun j q hj => absurd hj (by omega)⟩⟩
  case round =>
    obtain ⟨k, hk, hk2, rfl, HK⟩ := hrel
    have hsz := HK.out.1.size
    by_cases hlt : k < n
    · by_cases hlt2 : k < 100
      · obtain ⟨b, o, p, Ap, np, cp, rfl, hbB, hp, hby, hpk, -, -, -, -, c0, c1, c2, c3, c4, c5⟩ := op_at (H.out.below (HK.out.1.mono hB)) hlt
        have HP := Lib.hid hp
        have hnp := hby.len
        have hnc := hby.2.1
        have hnm := hby.2.2.1
        clear hp hby
        obtain ⟨pact, pk, pda, plo, phi, pn⟩ := p
        dsimp only at *
        unfold maxLen at hpk hnm
        have hbw : b < wr.heap.size := by omega
        by_cases h1 : 300 < pk.size
        · have HE := Lib.hid (muchO_hit hlt2 HP.out (by simp [ModelP.muchO, h1]))
          go_wp2
          go_ret
          exact ⟨by rw [HE.out]; rfl, HK.out.1⟩
        · by_cases h2 : 300 < np
          · have HE := Lib.hid (muchO_hit hlt2 HP.out (by simp [ModelP.muchO, hnp, h2]))
            have d1 : decide (300 < (pk.size : Int)) = false := by simp; omega
            go_wp2
            go_ret
            exact ⟨by rw [HE.out]; rfl, HK.out.1⟩
          · have HN : Hid (ModelP.muchO ⟨pact, pk, pda, plo, phi, pn⟩ = false) := Lib.hid (by simp [ModelP.muchO, hnp]; omega)
            have d1 : decide (300 < (pk.size : Int)) = false := by simp; omega
            have d2 : decide (300 < (np : Int)) = false := by simp; omega
            go_wp2
            go_roundw
            case rel => exact ⟨k + 1, by omega, by omega, by go_num, Lib.hid ⟨HK.out.1, fun j q hj hq => by
              rcases Nat.lt_or_ge j k with h3 | h3
              · exact HK.out.2 j q h3 hq
              · have : j = k := by omega
                subst this
                rw [HP.out] at hq
                cases hq
                exact HN.out⟩⟩
            case measure => simp [intOf]; omega
      · have HE := Lib.hid (muchO_miss (k := k) HK.out.2 (by omega))
        have d1 : decide ((k : Int) < 100) = false := by simp; omega
        go_wp2
        go_ret
        exact ⟨by rw [HE.out, HL.out]; simp; omega, HK.out.1⟩
    · have HE := Lib.hid (muchO_miss (k := k) HK.out.2 (by left; rw [HL.out]; omega))
      have d1 : decide ((k : Int) < (n : Int)) = false := by simp; omega
      go_wp2
      go_ret
      exact ⟨by rw [HE.out, HL.out]; simp; omega, HK.out.1⟩
end Go.Proofs.Ytghgccgpgonlmaa.ModelW
namespace Go.Proofs.Ytghgccgpgonlmaa.PlanW
open Go.RowKit ModelW
set_option linter.unusedVariables false
set_option linter.unusedSimpArgs false
theorem opOne {w : World} {b n c B : Nat} {A : Option Addr} {x : OpX} (hs : Str w b (opV x A n c).toArray) (hy : Bytes w B A n c x.data) (hB : B ≤ w.heap.size) (hk : x.key.size ≤ maxLen) (hin : In64 x.act ∧ In64 x.lo ∧ In64 x.hi ∧ In64 x.n) : OpsL w w.heap.size (some ⟨b, 0, none⟩) 1 1 [x] := by
  refine ⟨[opV x A n c], ⟨⟨A, n, c, rfl, hy.more hB, hk, hin.1, hin.2.1, hin.2.2.1, hin.2.2.2⟩, trivial⟩, rfl, Nat.le_refl _, by unfold maxLen; omega, fun _ => ⟨b, 0, rfl, hs.lt, fun j v hv => ?_⟩⟩
  rw [List.flatten_singleton] at hv
  rw [hs.cell, Nat.zero_add]
  simpa using hv
theorem byteOne {w : World} {b : Nat} {x : UInt8} (hs : Str w b #[byteV x]) : Bytes w w.heap.size (some ⟨b, 0, none⟩) 1 1 [x] :=
  ⟨rfl, Nat.le_refl _, by unfold maxLen; omega, fun _ => ⟨b, 0, rfl, hs.lt, fun j u hu => by
    have hj : j = 0 := by have := (List.getElem?_eq_some_iff.1 hu).1; simp at this; omega
    subst hj
    simp at hu
    subst hu
    exact hs.cell 0⟩⟩
theorem code_any (n : Int) (w : World) : Calls Try.prog 42 #[.int .i64 n] w fun e w' => e = .returned (.int .i64 n) ∧ w = w' := by
  go_enter Try.func42, Try.ntmps42
  go_wp2
  go_ret
  exact ⟨rfl, rfl⟩
/-- more than is asked? -/
def bigI (x : Item) : Bool := decide (300 < x.key.size) || decide (300 < x.cell.data.length)
set_option maxRecDepth 100000 in
set_option maxHeartbeats 1000000 in
theorem big_any (A : Option Addr) (n cap : Nat) (x : Item) (w : World) (hk : x.key.size ≤ maxLen) (hl : x.cell.data.length = n) (hn : n ≤ maxLen) :
    Calls Try.prog 33 #[.agg (itV A n cap x)] w fun e w' => e = .returned (.bool (bigI x)) ∧ Below w.heap.size w w' := by
  obtain ⟨s, k, kind, data, lo, hi, val⟩ := x
  dsimp only [itV, bigI] at *
  rw [hl]
  clear hl
  unfold maxLen at hk hn
  by_cases h : 300 < k.size
  · have HE : Hid ((decide (300 < k.size) || decide (300 < n)) = true) := Lib.hid (by simp [h])
    rw [HE.out]
    go_enter Try.func33, Try.ntmps33
    go_wp2
    go_ret
    exact ⟨rfl, balloc (bsame w) _⟩
  by_cases h2 : 300 < n
  · have HE : Hid ((decide (300 < k.size) || decide (300 < n)) = true) := Lib.hid (by simp [h2])
    rw [HE.out]
    go_enter Try.func33, Try.ntmps33
    go_wp2
    go_ret
    exact ⟨by simp; omega, balloc (bsame w) _⟩
  · have HE : Hid ((decide (300 < k.size) || decide (300 < n)) = false) := Lib.hid (by simp [h, h2])
    rw [HE.out]
    go_enter Try.func33, Try.ntmps33
    go_wp2
    go_ret
    exact ⟨by simp; omega, balloc (bsame w) _⟩
set_option maxRecDepth 100000 in
set_option maxHeartbeats 1000000 in
theorem writes_any (act : Int) (xk : ByteArray) (Ax : Option Addr) (nx cx : Nat) (xlo xhi xn : Int) (ae ak : Int) (Aa : Option Addr) (na ca : Nat) (alo ahi av : Int) (w : World) :
    Calls Try.prog 39 #[.agg #[.int .i64 act, .string xk, .slice Ax nx cx, .int .i64 xlo, .int .i64 xhi, .int .i64 xn], .agg #[.int .i64 ae, .int .i64 ak, .slice Aa na ca, .int .i64 alo, .int .i64 ahi, .int .i64 av]] w fun e w' => e = .returned (.bool (act != 0 && ae == 0)) ∧ Below w.heap.size w w' := by
  cases h1 : (act != 0) with
  | false =>
    go_enter Try.func39, Try.ntmps39
    go_wp2
    go_ret
    exact ⟨rfl, balloc (balloc (bsame w) _) _⟩
  | true =>
    go_enter Try.func39, Try.ntmps39
    go_wp2
    go_ret
    exact ⟨by rw [Bool.true_and]; rfl, balloc (balloc (bsame w) _) _⟩
theorem live_step : ModelP.step (PlanP.state ⟨1, ⟨#[97]⟩, ⟨1, [7], 0, 0, 0⟩⟩) ⟨3, ⟨#[97]⟩, [], 0, 0, 0⟩ = ([], ⟨0, CellP.none⟩) := by
  have hg : ModelP.good ⟨3, ⟨#[97]⟩, [], 0, 0, 0⟩ = true := by decide +kernel
  have hs : PlanP.state ⟨1, ⟨#[97]⟩, ⟨1, [7], 0, 0, 0⟩⟩ = [⟨⟨#[97]⟩, ⟨1, [7], 0, 0, 0⟩⟩] := rfl
  have hf : ModelP.find [⟨⟨#[97]⟩, ⟨1, [7], 0, 0, 0⟩⟩] ⟨#[97]⟩ = some ⟨1, [7], 0, 0, 0⟩ := by simp [ModelP.find]
  rw [hs]
  unfold ModelP.step
  rw [if_neg (by simp [hg]), hf, if_neg (by simp [ModelP.rule])]
  rfl
theorem live_slot : PlanP.slot ⟨3, ⟨#[97]⟩, [], 0, 0, 0⟩ ⟨1, ⟨#[97]⟩, ⟨1, [7], 0, 0, 0⟩⟩ = (⟨2, ⟨#[97]⟩, ⟨1, [7], 0, 0, 0⟩⟩, ⟨0, CellP.none⟩) := by
  unfold PlanP.slot
  rw [live_step]
  rfl
theorem live_right : SlotP.right ⟨1, ⟨#[97]⟩, ⟨1, [7], 0, 0, 0⟩⟩ = true := by decide +kernel
set_option maxRecDepth 100000 in
set_option maxHeartbeats 1000000 in
theorem live_any (w : World) : Calls Try.prog 35 #[] w fun e w' => e = .returned (.bool true) ∧ Below w.heap.size w w' := by
  go_enter Try.func35, Try.ntmps35
  go_wp2_with fail
  generalize hW0 : ((w).alloc (.cells #[.int .u8 7] 5)).alloc (.cells #[.int .i64 1, .string ⟨#[97]⟩, .int .i64 1, .slice (some ⟨w.heap.size, 0, none⟩) 1 1, .int .i64 0, .int .i64 0, .int .i64 0] 54) = W0
  obtain ⟨HS0_0, HS1_0, HB_0, hw_0, hz0⟩ := new2 hW0
  clear hW0 hz0
  have f0_0 := str1 HS0_0.out
  have hl0_0 := HS0_0.out.lt
  have f1_0 := str7 HS1_0.out
  have hl1_0 := HS1_0.out.lt
  have HYd_0 := Lib.hid (byteOne (x := 7) HS0_0.out)
  refine (slot_any 3 ⟨#[97]⟩ [] 0 0 0 none 0 0 0 1 ⟨#[97]⟩ 1 [7] 0 0 0 (some ⟨w.heap.size, 0, none⟩) 1 1 W0.heap.size _ (Bytes.none_ _ _) (Nat.zero_le _) (by decide) (by unfold In64; omega) (by omega) HYd_0.out (Nat.le_refl _) (by decide) (by unfold In64; omega) (by omega) live_right).mono ?_
  rintro e W1 ⟨A1, n1, c1, A2, n2, c2, rfl, hy1, hy2, hb1⟩
  have HS0_1 := Lib.hid (HS0_0.out.next hb1)
  have HS1_1 := Lib.hid (HS1_0.out.next hb1)
  have HB_1 := Lib.hid (bstep HB_0.out hb1)
  have hw_1 := HB_1.out.size
  have hws_1 := (hb1).size
  have HYd_1 := Lib.hid (HYd_0.out.next hb1)
  clear HYd_0
  clear f0_0 HS0_0 f1_0 HS1_0
  have f0_1 := str1 HS0_1.out
  have hl0_1 := HS0_1.out.lt
  have f1_1 := str7 HS1_1.out
  have hl1_1 := HS1_1.out.lt
  rw [live_slot] at hy1 hy2
  rw [live_slot]
  dsimp only [itV, ansV, CellP.none] at *
  have hn1 : n1 = 1 := hy1.len.symm
  subst hn1
  have HYr_1 := Lib.hid (hy1)
  clear hy1 hy2 hb1
  go_wp2_with fail
  generalize hW2 : W1.alloc (.cells #[.int .i64 2, .string ⟨#[97]⟩, .int .i64 1, .slice A1 1 c1, .int .i64 0, .int .i64 0, .int .i64 0] 54) = W2
  have HS0_2 := sEq hW2 (HS0_1.out.alloc _)
  have HS1_2 := sEq hW2 (HS1_1.out.alloc _)
  have HS2_2 := sEq hW2 (Str.new _ _ _)
  have hba2 : Below W1.heap.size W1 W2 := by rw [← hW2]; exact balloc (bsame _) _
  have HB_2 := Lib.hid (bstep HB_1.out hba2)
  have hw_2 := HB_2.out.size
  have hws_2 := hba2.size
  have HYd_2 := Lib.hid (HYd_1.out.next hba2)
  have HYr_2 := Lib.hid (HYr_1.out.next hba2)
  clear HYd_1 HYr_1
  have hz2 : W2.heap.size = W1.heap.size + 1 := by rw [← hW2]; simp
  clear hW2
  clear f0_1 HS0_1 f1_1 HS1_1
  have f0_2 := str1 HS0_2.out
  have hl0_2 := HS0_2.out.lt
  have f1_2 := str7 HS1_2.out
  have hl1_2 := HS1_2.out.lt
  have f2_2 := str7 HS2_2.out
  have hl2_2 := HS2_2.out.lt
  generalize hW3 : W2.alloc (.cells #[.int .i64 0, .int .i64 0, .slice A2 n2 c2, .int .i64 0, .int .i64 0, .int .i64 0] 39) = W3
  have HS0_3 := sEq hW3 (HS0_2.out.alloc _)
  have HS1_3 := sEq hW3 (HS1_2.out.alloc _)
  have HS2_3 := sEq hW3 (HS2_2.out.alloc _)
  have HS3_3 := sEq hW3 (Str.new _ _ _)
  have hba3 : Below W2.heap.size W2 W3 := by rw [← hW3]; exact balloc (bsame _) _
  have HB_3 := Lib.hid (bstep HB_2.out hba3)
  have hw_3 := HB_3.out.size
  have hws_3 := hba3.size
  have HYd_3 := Lib.hid (HYd_2.out.next hba3)
  have HYr_3 := Lib.hid (HYr_2.out.next hba3)
  clear HYd_2 HYr_2
  clear hW3
  clear f0_2 HS0_2 f1_2 HS1_2 f2_2 HS2_2
  have f0_3 := str1 HS0_3.out
  have hl0_3 := HS0_3.out.lt
  have f1_3 := str7 HS1_3.out
  have hl1_3 := HS1_3.out.lt
  have f2_3 := str7 HS2_3.out
  have hl2_3 := HS2_3.out.lt
  have f3_3 := str6 HS3_3.out
  have hl3_3 := HS3_3.out.lt
  rw [hz2] at HS3_3 hl3_3 f3_3
  refine (code_any 0 _).mono ?_
  rintro e W3_ ⟨rfl, rfl⟩
  go_wp2_with fail
  generalize hW4 : W3.alloc (.cells #[.int .u8 7] 5) = W4
  have hSL : Str W4 W3.heap.size #[byteV 7] := by rw [← hW4]; exact Str.new W3 _ _
  have hba4 : Below W3.heap.size W3 W4 := by rw [← hW4]; exact balloc (bsame _) _
  clear hW4
  have HS0_4 := Lib.hid (HS0_3.out.next hba4)
  have HS1_4 := Lib.hid (HS1_3.out.next hba4)
  have HS2_4 := Lib.hid (HS2_3.out.next hba4)
  have HS3_4 := Lib.hid (HS3_3.out.next hba4)
  have HB_4 := Lib.hid (bstep HB_3.out hba4)
  have hw_4 := HB_4.out.size
  have hws_4 := (hba4).size
  have HYd_4 := Lib.hid (HYd_3.out.next hba4)
  have HYr_4 := Lib.hid (HYr_3.out.next hba4)
  clear HYd_3 HYr_3
  clear f0_3 HS0_3 f1_3 HS1_3 f2_3 HS2_3 f3_3 HS3_3
  have f0_4 := str1 HS0_4.out
  have hl0_4 := HS0_4.out.lt
  have f1_4 := str7 HS1_4.out
  have hl1_4 := HS1_4.out.lt
  have f2_4 := str7 HS2_4.out
  have hl2_4 := HS2_4.out.lt
  have f3_4 := str6 HS3_4.out
  have hl3_4 := HS3_4.out.lt
  have HLB := Lib.hid (byteOne hSL)
  clear hSL
  refine (Same.same_any _ _ _ _ _ _ _ _ [7] [7] _ HYr_4.out HLB.out).mono ?_
  rintro e W4_ ⟨rfl, rfl⟩
  rw [show (([7] : List UInt8) == [7]) = true from rfl]
  go_wp2_with fail
  go_ret
  exact ⟨rfl, HB_4.out⟩
end Go.Proofs.Ytghgccgpgonlmaa.PlanW
namespace Go.Proofs.Ytghgccgpgonlmaa.NumP

def nstep (n : Nat) (c : UInt8) : Nat := n * 256 + c.toNat
/-- the number of bytes -/
def num (l : List UInt8) : Nat := l.foldl nstep 0
/-- a number of 64 bits without a sign, as one with a sign -/
def toI (u : Nat) : Int := if u < 9223372036854775808 then (u : Int) else (u : Int) - 18446744073709551616
/-- are there width bytes from at on? -/
def there (l : List UInt8) (at_ width : Nat) : Bool := decide (at_ + width ≤ l.length)
/-- their number, or 0 -/
def val (l : List UInt8) (at_ width : Nat) : Int := if at_ + width ≤ l.length then toI (num ((l.drop at_).take width)) else 0

theorem num_snoc (l : List UInt8) (c : UInt8) : num (l ++ [c]) = num l * 256 + c.toNat := by simp [num, nstep]
theorem fold_lt (l : List UInt8) (n : Nat) : l.foldl nstep n < (n + 1) * 256 ^ l.length := by
  induction l generalizing n with
  | nil => simp
  | cons c l ih =>
    have h1 := ih (nstep n c)
    have hc := c.toNat_lt
    have h2 : (nstep n c + 1) * 256 ^ l.length ≤ ((n + 1) * 256) * 256 ^ l.length := Nat.mul_le_mul_right _ (by unfold nstep; omega)
    have h3 : (n + 1) * 256 ^ (l.length + 1) = ((n + 1) * 256) * 256 ^ l.length := by rw [Nat.pow_succ, Nat.mul_assoc, Nat.mul_comm (256 ^ l.length)]
    show l.foldl nstep (nstep n c) < (n + 1) * 256 ^ (l.length + 1)
    rw [h3]
    omega
theorem num_lt (l : List UInt8) : num l < 256 ^ l.length := by
  have := fold_lt l 0
  simpa [num] using this
theorem num_lt8 (l : List UInt8) (h : l.length ≤ 8) : num l < 18446744073709551616 := by
  have h1 := num_lt l
  have h2 : 256 ^ l.length ≤ 256 ^ 8 := Nat.pow_le_pow_right (by decide) h
  have h3 : (256 : Nat) ^ 8 = 18446744073709551616 := by decide
  omega
theorem num_lt7 (l : List UInt8) (h : l.length ≤ 7) : num l < 72057594037927936 := by
  have h1 := num_lt l
  have h2 : 256 ^ l.length ≤ 256 ^ 7 := Nat.pow_le_pow_right (by decide) h
  have h3 : (256 : Nat) ^ 7 = 72057594037927936 := by decide
  omega
theorem toI_in (u : Nat) (h : u < 18446744073709551616) : In64 (toI u) := by
  unfold toI In64
  split <;> omega
theorem toI_small (u : Nat) (h : u < 9223372036854775808) : toI u = (u : Int) := by simp [toI, h]
theorem toI_u64 (m : Int) (h : In64 m) : toI (BeP.u64 m) = m := by
  unfold In64 at h
  unfold toI BeP.u64
  split <;> omega
theorem u64_lt (m : Int) : BeP.u64 m < 18446744073709551616 := by unfold BeP.u64; omega

theorem part_toNat (width : Nat) (m : Int) (k : Nat) : (BeP.part width m k).toNat = BeP.u64 m / 256 ^ (width - 1 - k) % 256 := by
  unfold BeP.part
  have : (2 : Nat) ^ (8 * (width - 1 - k)) = 256 ^ (width - 1 - k) := by rw [Nat.pow_mul]
  rw [this]
  simp
theorem num_parts_take (width : Nat) (m : Int) (k : Nat) (h : k ≤ width) : num ((BeP.parts width m).take k) = BeP.u64 m / 256 ^ (width - k) % 256 ^ k := by
  induction k with
  | zero => simp [num, Nat.mod_one]
  | succ k ih =>
    rw [BeP.parts_take width m k (by omega), num_snoc, ih (by omega), part_toNat]
    generalize BeP.u64 m = u
    have e1 : width - k = (width - 1 - k) + 1 := by omega
    have e2 : width - (k + 1) = width - 1 - k := by omega
    rw [e1, e2, Nat.pow_succ 256 (width - 1 - k), ← Nat.div_div_eq_div_mul]
    generalize u / 256 ^ (width - 1 - k) = q
    rw [Nat.pow_succ, Nat.mul_comm (256 ^ k) 256, Nat.mod_mul]
    omega
theorem num_parts (width : Nat) (m : Int) : num (BeP.parts width m) = BeP.u64 m % 256 ^ width := by
  have := num_parts_take width m width (Nat.le_refl _)
  rw [List.take_of_length_le (by rw [BeP.parts_length]; exact Nat.le_refl _)] at this
  simpa using this
theorem num_parts8 (m : Int) : num (BeP.parts 8 m) = BeP.u64 m := by
  rw [num_parts]
  exact Nat.mod_eq_of_lt (u64_lt m)
theorem val_parts8 (pre post : List UInt8) (m : Int) (h : In64 m) : val (pre ++ (BeP.parts 8 m ++ post)) pre.length 8 = m := by
  unfold val
  have hl := BeP.parts_length 8 m
  rw [if_pos (by simp [hl]), List.drop_left, List.take_append_of_le_length (by omega), List.take_of_length_le (by omega), num_parts8, toI_u64 m h]
theorem val_one (pre post : List UInt8) (c : UInt8) : val (pre ++ c :: post) pre.length 1 = (c.toNat : Int) := by
  unfold val
  rw [if_pos (by simp), List.drop_left]
  have := c.toNat_lt
  simp [num, nstep, toI]
  omega
theorem there_iff (l : List UInt8) (a w : Nat) : there l a w = true ↔ a + w ≤ l.length := by simp [there]
end Go.Proofs.Ytghgccgpgonlmaa.NumP
namespace Go.Proofs.Ytghgccgpgonlmaa.CellP

/-- the second byte, as a number -/
def len1 (l : List UInt8) : Nat := (l.getD 1 0).toNat
/-- the cell with which bytes begin, how many bytes it takes, the error's number -/
def get (l : List UInt8) : Cell × Int × Int :=
  if l.length < 1 then (none, 0, 13)
  else if NumP.val l 0 1 = 1 then
    (if l.length < 2 ∨ l.length < 2 + len1 l then (none, 0, 13) else if 32 < len1 l then (none, 0, 12) else (⟨1, (l.drop 2).take (len1 l), 0, 0, 0⟩, 2 + (len1 l : Int), 0))
  else if NumP.val l 0 1 = 2 then
    (if l.length < 25 then (none, 0, 13) else if NumP.val l 1 8 ≤ NumP.val l 17 8 ∧ NumP.val l 17 8 ≤ NumP.val l 9 8 then (⟨2, [], NumP.val l 1 8, NumP.val l 9 8, NumP.val l 17 8⟩, 25, 0) else (none, 0, 12))
  else (none, 0, 12)

theorem len1_val (l : List UInt8) (h : 2 ≤ l.length) : NumP.val l 1 1 = (len1 l : Int) := by
  match l, h with
  | a :: b :: r, _ => exact NumP.val_one [a] r b
theorem len1_lt (l : List UInt8) : len1 l < 256 := (l.getD 1 0).toNat_lt
theorem val_in (l : List UInt8) (a width : Nat) (h : width ≤ 8) : In64 (NumP.val l a width) := by
  unfold NumP.val
  split
  · exact NumP.toI_in _ (NumP.num_lt8 _ (by simp; omega))
  · unfold In64; omega
theorem get_short (l : List UInt8) (h : l.length < 1) : get l = (none, 0, 13) := by simp only [get]; rw [if_pos h]
theorem get_rec_short (l : List UInt8) (h : ¬ l.length < 1) (hk : NumP.val l 0 1 = 1) (h2 : l.length < 2 ∨ l.length < 2 + len1 l) : get l = (none, 0, 13) := by
  simp only [get]; rw [if_neg h, if_pos hk, if_pos h2]
theorem get_rec_form (l : List UInt8) (h : ¬ l.length < 1) (hk : NumP.val l 0 1 = 1) (h2 : ¬ (l.length < 2 ∨ l.length < 2 + len1 l)) (h3 : 32 < len1 l) : get l = (none, 0, 12) := by
  simp only [get]; rw [if_neg h, if_pos hk, if_neg h2, if_pos h3]
theorem get_rec (l : List UInt8) (h : ¬ l.length < 1) (hk : NumP.val l 0 1 = 1) (h2 : ¬ (l.length < 2 ∨ l.length < 2 + len1 l)) (h3 : ¬ 32 < len1 l) : get l = (⟨1, (l.drop 2).take (len1 l), 0, 0, 0⟩, 2 + (len1 l : Int), 0) := by
  simp only [get]; rw [if_neg h, if_pos hk, if_neg h2, if_neg h3]
theorem get_cnt_short (l : List UInt8) (h : ¬ l.length < 1) (hk : NumP.val l 0 1 = 2) (h2 : l.length < 25) : get l = (none, 0, 13) := by
  simp only [get]; rw [if_neg h, if_neg (by omega), if_pos hk, if_pos h2]
theorem get_cnt_form (l : List UInt8) (h : ¬ l.length < 1) (hk : NumP.val l 0 1 = 2) (h2 : ¬ l.length < 25) (h3 : ¬ (NumP.val l 1 8 ≤ NumP.val l 17 8 ∧ NumP.val l 17 8 ≤ NumP.val l 9 8)) : get l = (none, 0, 12) := by
  simp only [get]; rw [if_neg h, if_neg (by omega), if_pos hk, if_neg h2, if_neg h3]
theorem get_cnt (l : List UInt8) (h : ¬ l.length < 1) (hk : NumP.val l 0 1 = 2) (h2 : ¬ l.length < 25) (h3 : NumP.val l 1 8 ≤ NumP.val l 17 8 ∧ NumP.val l 17 8 ≤ NumP.val l 9 8) :
    get l = (⟨2, [], NumP.val l 1 8, NumP.val l 9 8, NumP.val l 17 8⟩, 25, 0) := by
  simp only [get]; rw [if_neg h, if_neg (by omega), if_pos hk, if_neg h2, if_pos h3]
theorem get_other (l : List UInt8) (h : ¬ l.length < 1) (hk : NumP.val l 0 1 ≠ 1) (hk2 : NumP.val l 0 1 ≠ 2) : get l = (none, 0, 12) := by
  simp only [get]; rw [if_neg h, if_neg hk, if_neg hk2]

theorem right_rec (d : List UInt8) (h : d.length ≤ 32) : right ⟨1, d, 0, 0, 0⟩ = true := by simp [right, h]
theorem right_rec_no (d : List UInt8) (h : ¬ d.length ≤ 32) : right ⟨1, d, 0, 0, 0⟩ = false := by simp [right, h]
theorem right_cnt (lo hi v : Int) (h : lo ≤ v ∧ v ≤ hi) : right ⟨2, [], lo, hi, v⟩ = true := by simp [right, h]
theorem right_cnt_no (lo hi v : Int) (h : ¬ (lo ≤ v ∧ v ≤ hi)) : right ⟨2, [], lo, hi, v⟩ = false := by
  simp [right]
  omega
theorem right_other (k : Int) (d : List UInt8) (lo hi v : Int) (h1 : k ≠ 1) (h2 : k ≠ 2) : right ⟨k, d, lo, hi, v⟩ = false := by simp [right, h1, h2]
/-- a cell that may be is got out of its bytes -/
theorem get_bytes (c : Cell) (post : List UInt8) (hr : right c = true) (hi : In64 c.lo ∧ In64 c.hi ∧ In64 c.val) : get (bytes c ++ post) = (c, ((bytes c).length : Int), 0) := by
  obtain ⟨k, d, lo, hi', v⟩ := c
  obtain ⟨i1, i2, i3⟩ := hi
  dsimp only at *
  have hr' := hr
  by_cases hk : k = 1
  · subst hk
    simp [right] at hr'
    obtain ⟨hd, rfl, rfl, rfl⟩ := hr'
    have hb : bytes ⟨1, d, 0, 0, 0⟩ = 1 :: UInt8.ofNat d.length :: d := by
      unfold bytes
      rw [if_pos hr, if_pos rfl]
      rfl
    rw [hb]
    have hn : (UInt8.ofNat d.length).toNat = d.length := by simp; omega
    have hl1 : len1 (1 :: UInt8.ofNat d.length :: d ++ post) = d.length := by simp [len1]; omega
    have hv : NumP.val (1 :: UInt8.ofNat d.length :: d ++ post) 0 1 = 1 := NumP.val_one [] (UInt8.ofNat d.length :: d ++ post) 1
    rw [get_rec _ (by simp) hv (by rw [hl1]; simp; omega) (by rw [hl1]; omega), hl1]
    simp
    omega
  · have hk2 : k = 2 := by simp [right, hk] at hr'; exact hr'.1
    subst hk2
    simp [right] at hr'
    obtain ⟨rfl, h1, h2⟩ := hr'
    have hb : bytes ⟨2, [], lo, hi', v⟩ = 2 :: (BeP.parts 8 lo ++ (BeP.parts 8 hi' ++ BeP.parts 8 v)) := by
      unfold bytes
      rw [if_pos hr, if_neg (by simp)]
      rfl
    rw [hb]
    have p1 := BeP.parts_length 8 lo
    have p2 := BeP.parts_length 8 hi'
    have p3 := BeP.parts_length 8 v
    have hv : NumP.val (2 :: (BeP.parts 8 lo ++ (BeP.parts 8 hi' ++ BeP.parts 8 v)) ++ post) 0 1 = 2 := NumP.val_one [] _ 2
    have e1 : NumP.val (2 :: (BeP.parts 8 lo ++ (BeP.parts 8 hi' ++ BeP.parts 8 v)) ++ post) 1 8 = lo := by
      have := NumP.val_parts8 [2] (BeP.parts 8 hi' ++ (BeP.parts 8 v ++ post)) lo i1
      simpa using this
    have e2 : NumP.val (2 :: (BeP.parts 8 lo ++ (BeP.parts 8 hi' ++ BeP.parts 8 v)) ++ post) 9 8 = hi' := by
      have := NumP.val_parts8 (2 :: BeP.parts 8 lo) (BeP.parts 8 v ++ post) hi' i2
      simpa [p1] using this
    have e3 : NumP.val (2 :: (BeP.parts 8 lo ++ (BeP.parts 8 hi' ++ BeP.parts 8 v)) ++ post) 17 8 = v := by
      have := NumP.val_parts8 (2 :: BeP.parts 8 lo ++ BeP.parts 8 hi') post v i3
      simpa [p1, p2] using this
    rw [get_cnt _ (by simp) hv (by simp [p1, p2, p3]; omega) (by rw [e1, e2, e3]; exact ⟨h1, h2⟩), e1, e2, e3]
    simp [p1, p2, p3]
end Go.Proofs.Ytghgccgpgonlmaa.CellP
namespace Go.Proofs.Ytghgccgpgonlmaa.SlotP

/-- bytes as a text -/
def text (l : List UInt8) : ByteArray := ⟨l.toArray⟩
/-- the item that bytes seem to be -/
def seem (l : List UInt8) : Item := ⟨((l.getD 0 0).toNat : Int), text ((l.drop 2).take (l.getD 1 0).toNat), (CellP.get (l.drop (2 + (l.getD 1 0).toNat))).1⟩
/-- is it one? -/
def good (l : List UInt8) : Bool := decide ((l.getD 1 0).toNat ≤ 16) && ((CellP.get (l.drop (2 + (l.getD 1 0).toNat))).2.2 == 0 && (right (seem l) && (bytes (seem l) == l)))
/-- the item of which bytes are, and the error's number -/
def get (l : List UInt8) : Item × Int := if l = zeros 64 then (none, 0) else if good l = true then (seem l, 0) else (none, 12)

theorem text_data (l : List UInt8) : (text l).data.toList = l := by simp [text]
theorem text_of (s : ByteArray) : text s.data.toList = s := by
  obtain ⟨⟨l⟩⟩ := s
  rfl
theorem bytearray_ext {a b : ByteArray} (h : a.toList = b.toList) : a = b := by
  have h2 : a.data.toList = b.data.toList := by
    rw [ByteArray.toList_eq, ByteArray.toList_eq] at h
    exact h
  rw [← text_of a, ← text_of b, h2]
theorem cell_same {c d : Cell} (h : CellP.same c d = true) : c = d := by
  obtain ⟨k, l, lo, hi, v⟩ := c
  obtain ⟨k', l', lo', hi', v'⟩ := d
  simp [CellP.same] at h
  obtain ⟨rfl, rfl, rfl, rfl, rfl⟩ := h
  rfl
theorem same_eq {x y : Item} (h : same x y = true) : x = y := by
  obtain ⟨s, k, c⟩ := x
  obtain ⟨s', k', c'⟩ := y
  unfold same at h
  simp only [Bool.and_eq_true, beq_iff_eq] at h
  obtain ⟨rfl, h2, h3⟩ := h
  obtain rfl := bytearray_ext h2
  obtain rfl := cell_same h3
  rfl
theorem same_self (x : Item) : same x x = true := by simp [same, CellP.same]
theorem right_none (x : Item) (h0 : x.state = 0) (hr : right x = true) : x = none := by
  unfold right at hr
  rw [if_pos h0] at hr
  exact same_eq hr
/-- numbers that may be -/
def In (x : Item) : Prop := In64 x.state ∧ In64 x.cell.kind ∧ In64 x.cell.lo ∧ In64 x.cell.hi ∧ In64 x.cell.val
theorem bytes_full (x : Item) (h0 : x.state ≠ 0) (hr : right x = true) : bytes x = UInt8.ofNat x.state.toNat :: UInt8.ofNat x.key.size :: (x.key.data.toList ++ (CellP.bytes x.cell ++ zeros (64 - (body x).length))) := by
  unfold bytes
  rw [if_pos ⟨h0, hr⟩]
  simp [body]
theorem seem_bytes (x : Item) (h0 : x.state ≠ 0) (hr : right x = true) (hi : In64 x.cell.lo ∧ In64 x.cell.hi ∧ In64 x.cell.val) :
    seem (bytes x) = x ∧ ((bytes x).getD 1 0).toNat = x.key.size ∧ (CellP.get ((bytes x).drop (2 + x.key.size))).2.2 = 0 := by
  have hk := right_key x h0 hr
  have h12 := right_state x h0 hr
  have hc := right_cell x h0 hr
  have hl : x.key.data.toList.length = x.key.size := Array.length_toList
  have hb := bytes_full x h0 hr
  have hn : (UInt8.ofNat x.key.size).toNat = x.key.size := by simp; omega
  have h1 : ((bytes x).getD 1 0).toNat = x.key.size := by rw [hb]; exact hn
  have hd : (bytes x).drop (2 + x.key.size) = CellP.bytes x.cell ++ zeros (64 - (body x).length) := by
    rw [hb, Nat.add_comm 2, List.drop_succ_cons, List.drop_succ_cons, ← hl, List.drop_left]
  have hg := CellP.get_bytes x.cell (zeros (64 - (body x).length)) hc hi
  refine ⟨?_, h1, by rw [hd, hg]⟩
  unfold seem
  rw [h1, hd, hg]
  have h2 : ((bytes x).drop 2).take x.key.size = x.key.data.toList := by
    rw [hb, List.drop_succ_cons, List.drop_succ_cons, List.drop_zero, ← hl, List.take_left]
  rw [h2, text_of]
  have h3 : (((bytes x).getD 0 0).toNat : Int) = x.state := by
    rw [hb]
    rcases h12 with e | e <;> rw [e] <;> rfl
  rw [h3]
theorem body_len (x : Item) (h0 : x.state ≠ 0) (hr : right x = true) : (body x).length ≤ 64 := by
  have hk := right_key x h0 hr
  have hc := cell_le x.cell
  have hl : x.key.data.toList.length = x.key.size := Array.length_toList
  simp only [body, List.length_append, List.length_cons, List.length_nil, hl]
  omega
theorem zeros_ne (x : Item) (h0 : x.state ≠ 0) (hr : right x = true) : bytes x ≠ zeros 64 := by
  intro h
  have hb := bytes_full x h0 hr
  rw [h] at hb
  have h1 := congrArg (fun l => l.getD 0 0) hb
  rcases right_state x h0 hr with e | e
  · rw [e] at h1
    have h2 : (0 : UInt8) = UInt8.ofNat (Int.toNat 1) := h1
    exact absurd h2 (by decide)
  · rw [e] at h1
    have h2 : (0 : UInt8) = UInt8.ofNat (Int.toNat 2) := h1
    exact absurd h2 (by decide)
theorem get_zeros : get (zeros 64) = (none, 0) := by unfold get; rw [if_pos rfl]
/-- an item that may be is got out of its bytes -/
theorem get_bytes (x : Item) (hr : right x = true) (hi : In x) : get (bytes x) = (x, 0) := by
  by_cases h0 : x.state = 0
  · have hx := right_none x h0 hr
    have hb : bytes x = zeros 64 := by
      unfold bytes
      rw [if_neg (by simp [h0])]
    rw [hb, get_zeros, hx]
  · obtain ⟨h1, h2, h3⟩ := seem_bytes x h0 hr hi.2.2
    have hk := right_key x h0 hr
    have hg : good (bytes x) = true := by
      unfold good
      rw [h1, h2, h3, hr]
      simp [hk]
    unfold get
    rw [if_neg (zeros_ne x h0 hr), if_pos hg, h1]
theorem get_not (x : Item) (hr : right x = false) : get (bytes x) = (none, 0) := by
  have hb : bytes x = zeros 64 := by
    unfold bytes
    rw [if_neg (by simp [hr])]
  rw [hb, get_zeros]
/-- items that may be are the same just if their bytes are -/
theorem same_bytes (x y : Item) (hx : right x = true) (hy : right y = true) (ix : In x) (iy : In y) : same x y = (bytes x == bytes y) := by
  rw [Bool.eq_iff_iff, beq_iff_eq]
  constructor
  · intro h
    rw [same_eq h]
  · intro h
    have h1 := get_bytes x hx ix
    rw [h, get_bytes y hy iy] at h1
    have h2 : y = x := congrArg Prod.fst h1
    rw [h2]
    exact same_self x
end Go.Proofs.Ytghgccgpgonlmaa.SlotP
namespace Go.Proofs.Ytghgccgpgonlmaa
open Go.ChangeShapes Go.WideShapes Go.ChangeAt Go.RowKit
set_option linter.unusedVariables false
set_option maxRecDepth 100000

def RBytes (w : World) (B : Nat) (v : Value) (l : List UInt8) : Prop := ∃ A n c, v = .slice A n c ∧ Bytes w B A n c l
section
variable {H : Type} {enc : TypeId × Value → H} {W : World} {base : Nat} {v : Value} {d : DataW H} {p : List MemPlace}
theorem open_bytes (hv : Value.okWide Try.prog W .any base 22 v) (h : DataW.Trod enc Try.prog W 0 (fun _ => true) true 22 v d p) : ∃ l, RBytes W W.heap.size v l := by
  obtain ⟨a, len, cap, rfl⟩ := okWide_slice Try.underlying22 hv
  obtain ⟨fuel, hf⟩ := h
  obtain ⟨A, n, c, l, e, hb⟩ := bytes_of Try.underlying22 Try.underlying5 (by kernel_rfl) hf
  refine ⟨l, A, n, c, ?_, hb⟩
  simpa [Value.cells] using e
end
end Go.Proofs.Ytghgccgpgonlmaa
namespace Go.Proofs.Ytghgccgpgonlmaa
open Go.ChangeShapes Go.WideShapes Go.ChangeAt Go.RowKit
set_option linter.unusedVariables false
set_option maxRecDepth 100000

/-- an item as a value -/
def RItem (w : World) (B : Nat) (v : Value) (x : Item) : Prop :=
  ∃ A n cap, v = .agg #[.int .i64 x.state, .string x.key, .int .i64 x.cell.kind, .slice A n cap, .int .i64 x.cell.lo, .int .i64 x.cell.hi, .int .i64 x.cell.val] ∧ Bytes w B A n cap x.cell.data ∧ x.key.size ≤ maxLen ∧ SlotP.In x
/-- an undo as a value -/
def RUndo (w : World) (B : Nat) (v : Value) (u : Undo) : Prop :=
  ∃ A n cap, v = .agg #[.int .i64 u.act, .string u.key, .int .i64 u.item.state, .string u.item.key, .int .i64 u.item.cell.kind, .slice A n cap, .int .i64 u.item.cell.lo, .int .i64 u.item.cell.hi, .int .i64 u.item.cell.val, .int .i64 u.n] ∧
    Bytes w B A n cap u.item.cell.data ∧ u.key.size ≤ maxLen ∧ u.item.key.size ≤ maxLen ∧ SlotP.In u.item ∧ In64 u.act ∧ In64 u.n
def RArr (n : Nat) (v : Value) (l : List UInt8) : Prop := v = .agg (rowV l) ∧ l.length = n
section
variable {H : Type} {enc : TypeId × Value → H} {P : Program} {w : World}
def byteOfV (v : Value) : UInt8 := match v with | .int _ z => UInt8.ofNat z.toNat | _ => 0
theorem arr_of {fuel n : Nat} {t e : TypeId} {cs : List Value} {x : DataW H × List MemPlace} (ht : P.underlying t = some (.array n e)) (he : P.underlying e = some (.int .u8)) (hce : P.cellsOf e = 1) (hct : P.cellsOf t = n)
    (h : DataW.trod enc P w 0 (fun _ => true) true fuel t cs = some x) : ∃ l, RArr n (.agg ⟨cs⟩) l := by
  obtain ⟨xs, m, _, _, hl, hx, hf⟩ := DataW.trod_array ht h
  rw [hct] at hl
  refine ⟨cs.map byteOfV, ?_, by simpa using hl⟩
  have : cs = (cs.map byteOfV).map byteV := by
    refine List.ext_getElem? fun i => ?_
    by_cases hi : i < cs.length
    · have h1 := hf i (by omega)
      rw [hce, Nat.mul_one, List.getElem?_eq_getElem (by omega)] at h1
      have h2 : (cs.drop i).take 1 = [cs[i]] := by rw [List.drop_eq_getElem_cons hi]; rfl
      rw [h2] at h1
      obtain ⟨z, e1, _, q⟩ := DataW.trod_int he h1
      have e2 : cs[i] = .int .u8 z := by simpa using e1
      rw [List.getElem?_map, List.getElem?_map, List.getElem?_eq_getElem hi, e2]
      simp only [Option.map_some, byteOfV, byteV, u8_of q]
    · rw [List.getElem?_eq_none (by omega), List.getElem?_eq_none (by simp; omega)]
  show Value.agg ⟨cs⟩ = .agg (rowV _)
  unfold rowV
  rw [← this]
end
section
variable {H : Type} {enc : TypeId × Value → H} {W : World} {base : Nat} {v : Value} {d : DataW H} {p : List MemPlace}
theorem open_item (hv : Value.okWide Try.prog W .any base 54 v) (h : DataW.Trod enc Try.prog W 0 (fun _ => true) true 54 v d p) : ∃ x, RItem W W.heap.size v x := by
  obtain ⟨cs, rfl, hsz⟩ := okWide_struct Try.underlying54 hv
  obtain ⟨l⟩ := cs
  obtain ⟨fuel, hf⟩ := h
  obtain ⟨hl, n, hg⟩ := field_of Try.underlying54 hf
  have hl' : l.length = 7 := hl.trans (by kernel_rfl)
  match l, hl' with
  | [c0, c1, c2, c3, c4, c5, c6], _ =>
    obtain ⟨y0, h0⟩ := hg 0 3 0 1 rfl (by kernel_rfl)
    have h0' : DataW.trod enc Try.prog W 0 (fun _ => true) true n 3 [c0] = some y0 := h0
    obtain ⟨z0, e0, _, q0⟩ := DataW.trod_int Try.underlying3 h0'
    obtain ⟨y1, h1⟩ := hg 1 9 1 1 rfl (by kernel_rfl)
    have h1' : DataW.trod enc Try.prog W 0 (fun _ => true) true n 9 [c1] = some y1 := h1
    obtain ⟨z1, e1, _, q1⟩ := DataW.trod_string Try.underlying9 h1'
    obtain ⟨w2, g2⟩ := hg 2 37 2 5 rfl (by kernel_rfl)
    have g2' : DataW.trod enc Try.prog W 0 (fun _ => true) true n 37 [c2, c3, c4, c5, c6] = some w2 := g2
    obtain ⟨_, m2, hg2⟩ := field_of Try.underlying37 g2'
    obtain ⟨y2, h2⟩ := hg2 0 3 0 1 rfl (by kernel_rfl)
    have h2' : DataW.trod enc Try.prog W 0 (fun _ => true) true m2 3 [c2] = some y2 := h2
    obtain ⟨z2, e2, _, q2⟩ := DataW.trod_int Try.underlying3 h2'
    obtain ⟨y3, h3⟩ := hg2 1 22 1 1 rfl (by kernel_rfl)
    have h3' : DataW.trod enc Try.prog W 0 (fun _ => true) true m2 22 [c3] = some y3 := h3
    obtain ⟨A3, n3, k3, z3, e3, q3⟩ := bytes_of Try.underlying22 Try.underlying5 (by kernel_rfl) h3'
    obtain ⟨y4, h4⟩ := hg2 2 3 2 1 rfl (by kernel_rfl)
    have h4' : DataW.trod enc Try.prog W 0 (fun _ => true) true m2 3 [c4] = some y4 := h4
    obtain ⟨z4, e4, _, q4⟩ := DataW.trod_int Try.underlying3 h4'
    obtain ⟨y5, h5⟩ := hg2 3 3 3 1 rfl (by kernel_rfl)
    have h5' : DataW.trod enc Try.prog W 0 (fun _ => true) true m2 3 [c5] = some y5 := h5
    obtain ⟨z5, e5, _, q5⟩ := DataW.trod_int Try.underlying3 h5'
    obtain ⟨y6, h6⟩ := hg2 4 3 4 1 rfl (by kernel_rfl)
    have h6' : DataW.trod enc Try.prog W 0 (fun _ => true) true m2 3 [c6] = some y6 := h6
    obtain ⟨z6, e6, _, q6⟩ := DataW.trod_int Try.underlying3 h6'
    simp only [List.cons.injEq, and_true] at e0 e1 e2 e3 e4 e5 e6
    subst e0 e1 e2 e3 e4 e5 e6
    exact ⟨⟨z0, z1, ⟨z2, z3, z4, z5, z6⟩⟩, A3, n3, k3, rfl, q3, q1, in64 q0, in64 q2, in64 q4, in64 q5, in64 q6⟩
theorem open_undo (hv : Value.okWide Try.prog W .any base 62 v) (h : DataW.Trod enc Try.prog W 0 (fun _ => true) true 62 v d p) : ∃ x, RUndo W W.heap.size v x := by
  obtain ⟨cs, rfl, hsz⟩ := okWide_struct Try.underlying62 hv
  obtain ⟨l⟩ := cs
  obtain ⟨fuel, hf⟩ := h
  obtain ⟨hl, n, hg⟩ := field_of Try.underlying62 hf
  have hl' : l.length = 10 := hl.trans (by kernel_rfl)
  match l, hl' with
  | [c0, c1, c2, c3, c4, c5, c6, c7, c8, c9], _ =>
    obtain ⟨y0, h0⟩ := hg 0 3 0 1 rfl (by kernel_rfl)
    have h0' : DataW.trod enc Try.prog W 0 (fun _ => true) true n 3 [c0] = some y0 := h0
    obtain ⟨z0, e0, _, q0⟩ := DataW.trod_int Try.underlying3 h0'
    obtain ⟨y1, h1⟩ := hg 1 9 1 1 rfl (by kernel_rfl)
    have h1' : DataW.trod enc Try.prog W 0 (fun _ => true) true n 9 [c1] = some y1 := h1
    obtain ⟨z1, e1, _, q1⟩ := DataW.trod_string Try.underlying9 h1'
    obtain ⟨w2, g2⟩ := hg 2 54 2 7 rfl (by kernel_rfl)
    have g2' : DataW.trod enc Try.prog W 0 (fun _ => true) true n 54 [c2, c3, c4, c5, c6, c7, c8] = some w2 := g2
    obtain ⟨_, m2, hg2⟩ := field_of Try.underlying54 g2'
    obtain ⟨y2, h2⟩ := hg2 0 3 0 1 rfl (by kernel_rfl)
    have h2' : DataW.trod enc Try.prog W 0 (fun _ => true) true m2 3 [c2] = some y2 := h2
    obtain ⟨z2, e2, _, q2⟩ := DataW.trod_int Try.underlying3 h2'
    obtain ⟨y3, h3⟩ := hg2 1 9 1 1 rfl (by kernel_rfl)
    have h3' : DataW.trod enc Try.prog W 0 (fun _ => true) true m2 9 [c3] = some y3 := h3
    obtain ⟨z3, e3, _, q3⟩ := DataW.trod_string Try.underlying9 h3'
    obtain ⟨w4, g4⟩ := hg2 2 37 2 5 rfl (by kernel_rfl)
    have g4' : DataW.trod enc Try.prog W 0 (fun _ => true) true m2 37 [c4, c5, c6, c7, c8] = some w4 := g4
    obtain ⟨_, m4, hg4⟩ := field_of Try.underlying37 g4'
    obtain ⟨y4, h4⟩ := hg4 0 3 0 1 rfl (by kernel_rfl)
    have h4' : DataW.trod enc Try.prog W 0 (fun _ => true) true m4 3 [c4] = some y4 := h4
    obtain ⟨z4, e4, _, q4⟩ := DataW.trod_int Try.underlying3 h4'
    obtain ⟨y5, h5⟩ := hg4 1 22 1 1 rfl (by kernel_rfl)
    have h5' : DataW.trod enc Try.prog W 0 (fun _ => true) true m4 22 [c5] = some y5 := h5
    obtain ⟨A5, n5, k5, z5, e5, q5⟩ := bytes_of Try.underlying22 Try.underlying5 (by kernel_rfl) h5'
    obtain ⟨y6, h6⟩ := hg4 2 3 2 1 rfl (by kernel_rfl)
    have h6' : DataW.trod enc Try.prog W 0 (fun _ => true) true m4 3 [c6] = some y6 := h6
    obtain ⟨z6, e6, _, q6⟩ := DataW.trod_int Try.underlying3 h6'
    obtain ⟨y7, h7⟩ := hg4 3 3 3 1 rfl (by kernel_rfl)
    have h7' : DataW.trod enc Try.prog W 0 (fun _ => true) true m4 3 [c7] = some y7 := h7
    obtain ⟨z7, e7, _, q7⟩ := DataW.trod_int Try.underlying3 h7'
    obtain ⟨y8, h8⟩ := hg4 4 3 4 1 rfl (by kernel_rfl)
    have h8' : DataW.trod enc Try.prog W 0 (fun _ => true) true m4 3 [c8] = some y8 := h8
    obtain ⟨z8, e8, _, q8⟩ := DataW.trod_int Try.underlying3 h8'
    obtain ⟨y9, h9⟩ := hg 3 3 9 1 rfl (by kernel_rfl)
    have h9' : DataW.trod enc Try.prog W 0 (fun _ => true) true n 3 [c9] = some y9 := h9
    obtain ⟨z9, e9, _, q9⟩ := DataW.trod_int Try.underlying3 h9'
    simp only [List.cons.injEq, and_true] at e0 e1 e2 e3 e4 e5 e6 e7 e8 e9
    subst e0 e1 e2 e3 e4 e5 e6 e7 e8 e9
    exact ⟨⟨z0, z1, ⟨z2, z3, ⟨z4, z5, z6, z7, z8⟩⟩, z9⟩, A5, n5, k5, rfl, q5, q1, q3, ⟨in64 q2, in64 q4, in64 q6, in64 q7, in64 q8⟩, in64 q0, in64 q9⟩
end
end Go.Proofs.Ytghgccgpgonlmaa
namespace Go.Proofs.Ytghgccgpgonlmaa.planBack
open Go.RowKit ModelW PlanW
set_option linter.unusedVariables false
set_option linter.unusedSimpArgs false
theorem muchL_one {x : OpX} (h : ModelP.muchL [x] = false) : x.data.length ≤ 300 := by
  unfold ModelP.muchL at h
  simp only [Bool.or_eq_false_iff, decide_eq_false_iff_not, List.any_eq_false] at h
  have := h.1 x (by simp)
  unfold ModelP.muchO at this
  simp at this
  omega
theorem bigI_no {x : Item} (h : bigI x = false) : x.cell.data.length ≤ 300 := by unfold bigI at h; simp at h; omega
theorem slot_not {x : OpX} {now : Item} (h : PlanP.writes x (PlanP.slot x now).2 = false) : (PlanP.slot x now).1 = now := by
  have e : (PlanP.slot x now).2 = (ModelP.step (PlanP.state now) x).2 := by unfold PlanP.slot; split; rfl; split <;> rfl
  unfold PlanP.writes at h
  rw [e] at h
  unfold PlanP.slot
  rw [if_pos]
  by_cases ha : x.act = 0
  · exact .inr ha
  · simp [ha] at h
    exact .inl h
theorem facts {x : OpX} {now : Item} (hr : SlotP.right now = true) (hk : now.state ≠ 0 → now.key = x.key) (hw : PlanP.writes x (PlanP.slot x now).2 = true) (hx : In64 x.lo ∧ In64 x.hi ∧ In64 x.n) (hn : ModelP.CellIn now.cell) (h1 : x.key.size ≤ maxLen) (h2 : now.key.size ≤ maxLen) (h6 : now.cell.data.length ≤ 300) :
    ((In64 (PlanP.slot x now).1.cell.val ∧ In64 (PlanP.slot x now).1.cell.lo ∧ In64 (PlanP.slot x now).1.cell.hi) ∧ (PlanP.slot x now).1.cell.data.length ≤ 300) ∧ (In64 (UndoP.of x now (PlanP.slot x now).1).n ∧ (UndoP.of x now (PlanP.slot x now).1).item.cell.data.length ≤ 300) ∧ (UndoP.of x now (PlanP.slot x now).1).item.key.size ≤ maxLen ∧ (UndoP.of x now (PlanP.slot x now).1).key.size ≤ maxLen := by
  obtain ⟨hg, ha, hru, hs⟩ := PlanP.slot_done hr hk hw
  have z : In64 0 := by unfold In64; omega
  have ze : (ByteArray.empty).size ≤ maxLen := by decide
  have hc : ((In64 (PlanP.slot x now).1.cell.val ∧ In64 (PlanP.slot x now).1.cell.lo ∧ In64 (PlanP.slot x now).1.cell.hi) ∧ (PlanP.slot x now).1.cell.data.length ≤ 300) ∧ (PlanP.slot x now).1.key.size ≤ maxLen := by
    rw [hs]
    split
    · exact ⟨⟨⟨hn.2.2.2, hn.2.1, hn.2.2.1⟩, h6⟩, h2⟩
    · cases hc : (ModelP.rule (if now.state = 1 then some now.cell else none) x).2.1 with
      | none => exact ⟨⟨⟨z, z, z⟩, by simp [CellP.none]⟩, h1⟩
      | some c =>
        have := ModelP.rule_in (x := x) (t := if now.state = 1 then some now.cell else none) (by intro c hc; split at hc; cases hc; exact hn; cases hc) hx.1 hx.2.1 hx.2.2 c hc
        have hrc := ModelP.rule_right hg (t := if now.state = 1 then some now.cell else none) (by intro c hc; split at hc; cases hc; exact SlotP.right_cell now (by omega) hr; cases hc) c hc
        have hl : c.data.length ≤ 300 := by
          unfold CellP.right at hrc
          split at hrc <;> simp only [Bool.and_eq_true, decide_eq_true_eq, beq_iff_eq] at hrc <;> omega
        exact ⟨⟨⟨this.2.2.2, this.2.1, this.2.2.1⟩, hl⟩, h1⟩
  refine ⟨hc.1, ?_⟩
  by_cases h4 : x.act = 4
  · rw [UndoP.of_inc _ _ _ h4]; exact ⟨⟨hx.2.2, by simp [SlotP.none, CellP.none]⟩, ze, h1⟩
  by_cases h5 : x.act = 5
  · rw [UndoP.of_dec _ _ _ h5]; exact ⟨⟨hx.2.2, by simp [SlotP.none, CellP.none]⟩, ze, h1⟩
  by_cases h3 : x.act = 1 ∨ x.act = 2 ∨ x.act = 3
  · by_cases hst : UndoP.stands now x.key
    · rw [UndoP.of_was _ _ _ h3 hst]; exact ⟨⟨z, h6⟩, h2, h1⟩
    · rw [UndoP.of_then _ _ _ h3 hst]; exact ⟨⟨z, hc.1.2⟩, hc.2, h1⟩
  · rw [UndoP.of_none _ _ _ (by omega)]; exact ⟨⟨z, by simp [UndoP.none, SlotP.none, CellP.none]⟩, ze, ze⟩
theorem slot_same_self (x : Item) : SlotP.same x x = true := by simp [SlotP.same, CellP.same]
set_option maxRecDepth 100000 in
set_option maxHeartbeats 4000000 in
theorem way_big (act : Int) (xk : ByteArray) (xdata : List UInt8) (xlo xhi xn : Int) (Ax : Option Addr) (nx cx : Nat) (pst : Int) (pk : ByteArray) (pkd : Int) (pda : List UInt8) (plo phi pva : Int) (Ap : Option Addr) (np cp : Nat) (w : World) (hx : Bytes w w.heap.size Ax nx cx xdata) (hxk : xk.size ≤ maxLen) (hi : In64 act ∧ In64 xlo ∧ In64 xhi ∧ In64 xn) (hp : Bytes w w.heap.size Ap np cp pda) (hpk : pk.size ≤ maxLen) (hj : In64 pst ∧ In64 pkd ∧ In64 plo ∧ In64 phi ∧ In64 pva) (h0 : bigI ⟨pst, pk, ⟨pkd, pda, plo, phi, pva⟩⟩ = true) :
    Calls Try.prog 8 #[.agg #[.int .i64 act, .string xk, .slice Ax nx cx, .int .i64 xlo, .int .i64 xhi, .int .i64 xn], .agg #[.int .i64 pst, .string pk, .int .i64 pkd, .slice Ap np cp, .int .i64 plo, .int .i64 phi, .int .i64 pva]] w fun e w' => e = .returned (.bool true) ∧ Below w.heap.size w w' := by
  have H0 := Lib.hid h0
  have HX := Lib.hid hx
  have HP := Lib.hid hp
  have HI := Lib.hid hi
  have HJ := Lib.hid hj
  have hnpm : np ≤ maxLen := Nat.le_trans hp.2.1 hp.2.2.1
  clear hx hi hp hj h0
  go_enter Try.func8, Try.ntmps8
  go_wp2_with fail
  generalize hW0 : ((w).alloc (.cells #[.int .i64 act, .string xk, .slice Ax nx cx, .int .i64 xlo, .int .i64 xhi, .int .i64 xn] 24)).alloc (.cells #[.int .i64 pst, .string pk, .int .i64 pkd, .slice Ap np cp, .int .i64 plo, .int .i64 phi, .int .i64 pva] 54) = W0
  obtain ⟨HS0_0, HS1_0, HB_0, hw_0, hz0⟩ := new2 hW0
  clear hW0 hz0
  have f0_0 := str6 HS0_0.out
  have hl0_0 := HS0_0.out.lt
  have hf0_0 := fun j => HS0_0.out.frozen j
  have f1_0 := str7 HS1_0.out
  have hl1_0 := HS1_0.out.lt
  have hf1_0 := fun j => HS1_0.out.frozen j
  refine (big_any Ap np cp ⟨pst, pk, ⟨pkd, pda, plo, phi, pva⟩⟩ _ hpk HP.out.len hnpm).mono ?_
  rintro e W1 ⟨rfl, hb1⟩
  rw [H0.out]
  have HS0_1 := Lib.hid (HS0_0.out.next hb1)
  have HS1_1 := Lib.hid (HS1_0.out.next hb1)
  have HB_1 := Lib.hid (bstep HB_0.out hb1)
  have hw_1 := HB_1.out.size
  have hws_1 := (hb1).size
  clear f0_0 HS0_0 hf0_0 f1_0 HS1_0 hf1_0
  clear hb1
  have f0_1 := str6 HS0_1.out
  have hl0_1 := HS0_1.out.lt
  have hf0_1 := fun j => HS0_1.out.frozen j
  have f1_1 := str7 HS1_1.out
  have hl1_1 := HS1_1.out.lt
  have hf1_1 := fun j => HS1_1.out.frozen j
  go_wp2_with fail
  refine (PlanW.live_any _).mono ?_
  rintro e W2 ⟨rfl, hb2⟩
  have HS0_2 := Lib.hid (HS0_1.out.next hb2)
  have HS1_2 := Lib.hid (HS1_1.out.next hb2)
  have HB_2 := Lib.hid (bstep HB_1.out hb2)
  have hw_2 := HB_2.out.size
  have hws_2 := (hb2).size
  clear f0_1 HS0_1 hf0_1 f1_1 HS1_1 hf1_1
  clear hb2
  have f0_2 := str6 HS0_2.out
  have hl0_2 := HS0_2.out.lt
  have hf0_2 := fun j => HS0_2.out.frozen j
  have f1_2 := str7 HS1_2.out
  have hl1_2 := HS1_2.out.lt
  have hf1_2 := fun j => HS1_2.out.frozen j
  go_wp2_with fail
  go_ret
  exact ⟨rfl, HB_2.out⟩
set_option maxRecDepth 100000 in
set_option maxHeartbeats 4000000 in
theorem way_much (act : Int) (xk : ByteArray) (xdata : List UInt8) (xlo xhi xn : Int) (Ax : Option Addr) (nx cx : Nat) (pst : Int) (pk : ByteArray) (pkd : Int) (pda : List UInt8) (plo phi pva : Int) (Ap : Option Addr) (np cp : Nat) (w : World) (hx : Bytes w w.heap.size Ax nx cx xdata) (hxk : xk.size ≤ maxLen) (hi : In64 act ∧ In64 xlo ∧ In64 xhi ∧ In64 xn) (hp : Bytes w w.heap.size Ap np cp pda) (hpk : pk.size ≤ maxLen) (hj : In64 pst ∧ In64 pkd ∧ In64 plo ∧ In64 phi ∧ In64 pva) (h0 : bigI ⟨pst, pk, ⟨pkd, pda, plo, phi, pva⟩⟩ = false) (h1 : ModelP.muchL [⟨act, xk, xdata, xlo, xhi, xn⟩] = true) :
    Calls Try.prog 8 #[.agg #[.int .i64 act, .string xk, .slice Ax nx cx, .int .i64 xlo, .int .i64 xhi, .int .i64 xn], .agg #[.int .i64 pst, .string pk, .int .i64 pkd, .slice Ap np cp, .int .i64 plo, .int .i64 phi, .int .i64 pva]] w fun e w' => e = .returned (.bool true) ∧ Below w.heap.size w w' := by
  have H0 := Lib.hid h0
  have H1 := Lib.hid h1
  have HX := Lib.hid hx
  have HP := Lib.hid hp
  have HI := Lib.hid hi
  have HJ := Lib.hid hj
  have hnpm : np ≤ maxLen := Nat.le_trans hp.2.1 hp.2.2.1
  have hnp : np ≤ 300 := by rw [← hp.len]; exact bigI_no h0
  clear hx hi hp hj h0 h1
  go_enter Try.func8, Try.ntmps8
  go_wp2_with fail
  generalize hW0 : ((w).alloc (.cells #[.int .i64 act, .string xk, .slice Ax nx cx, .int .i64 xlo, .int .i64 xhi, .int .i64 xn] 24)).alloc (.cells #[.int .i64 pst, .string pk, .int .i64 pkd, .slice Ap np cp, .int .i64 plo, .int .i64 phi, .int .i64 pva] 54) = W0
  obtain ⟨HS0_0, HS1_0, HB_0, hw_0, hz0⟩ := new2 hW0
  clear hW0 hz0
  have f0_0 := str6 HS0_0.out
  have hl0_0 := HS0_0.out.lt
  have hf0_0 := fun j => HS0_0.out.frozen j
  have f1_0 := str7 HS1_0.out
  have hl1_0 := HS1_0.out.lt
  have hf1_0 := fun j => HS1_0.out.frozen j
  refine (big_any Ap np cp ⟨pst, pk, ⟨pkd, pda, plo, phi, pva⟩⟩ _ hpk HP.out.len hnpm).mono ?_
  rintro e W1 ⟨rfl, hb1⟩
  rw [H0.out]
  have HS0_1 := Lib.hid (HS0_0.out.next hb1)
  have HS1_1 := Lib.hid (HS1_0.out.next hb1)
  have HB_1 := Lib.hid (bstep HB_0.out hb1)
  have hw_1 := HB_1.out.size
  have hws_1 := (hb1).size
  clear f0_0 HS0_0 hf0_0 f1_0 HS1_0 hf1_0
  clear hb1
  have f0_1 := str6 HS0_1.out
  have hl0_1 := HS0_1.out.lt
  have hf0_1 := fun j => HS0_1.out.frozen j
  have f1_1 := str7 HS1_1.out
  have hl1_1 := HS1_1.out.lt
  have hf1_1 := fun j => HS1_1.out.frozen j
  go_wp2_with fail
  generalize hW2 : W1.alloc (.cells #[.int .i64 act, .string xk, .slice Ax nx cx, .int .i64 xlo, .int .i64 xhi, .int .i64 xn] 24) = W2
  have HSO := Lib.hid (sEq hW2 (Str.new _ _ _)).out
  have hba2 : Below W1.heap.size W1 W2 := by rw [← hW2]; exact balloc (bsame _) _
  clear hW2
  have HS0_2 := Lib.hid (HS0_1.out.next hba2)
  have HS1_2 := Lib.hid (HS1_1.out.next hba2)
  have HB_2 := Lib.hid (bstep HB_1.out hba2)
  have hw_2 := HB_2.out.size
  have hws_2 := (hba2).size
  clear f0_1 HS0_1 hf0_1 f1_1 HS1_1 hf1_1
  have f0_2 := str6 HS0_2.out
  have hl0_2 := HS0_2.out.lt
  have hf0_2 := fun j => HS0_2.out.frozen j
  have f1_2 := str7 HS1_2.out
  have hl1_2 := HS1_2.out.lt
  have hf1_2 := fun j => HS1_2.out.frozen j
  refine (much_any (some ⟨W1.heap.size, 0, none⟩) 1 1 W2.heap.size [⟨act, xk, xdata, xlo, xhi, xn⟩] _ (opOne HSO.out ((HX.out.below HB_2.out).more HB_2.out.size) (Nat.le_refl _) hxk HI.out) (Nat.le_refl _)).mono ?_
  rintro e W3 ⟨rfl, hb3⟩
  rw [H1.out]
  have HS0_3 := Lib.hid (HS0_2.out.next hb3)
  have HS1_3 := Lib.hid (HS1_2.out.next hb3)
  have HB_3 := Lib.hid (bstep HB_2.out hb3)
  have hw_3 := HB_3.out.size
  have hws_3 := (hb3).size
  clear f0_2 HS0_2 hf0_2 f1_2 HS1_2 hf1_2
  clear hb3
  have f0_3 := str6 HS0_3.out
  have hl0_3 := HS0_3.out.lt
  have hf0_3 := fun j => HS0_3.out.frozen j
  have f1_3 := str7 HS1_3.out
  have hl1_3 := HS1_3.out.lt
  have hf1_3 := fun j => HS1_3.out.frozen j
  clear HSO
  go_wp2_with fail
  refine (PlanW.live_any _).mono ?_
  rintro e W4 ⟨rfl, hb4⟩
  have HS0_4 := Lib.hid (HS0_3.out.next hb4)
  have HS1_4 := Lib.hid (HS1_3.out.next hb4)
  have HB_4 := Lib.hid (bstep HB_3.out hb4)
  have hw_4 := HB_4.out.size
  have hws_4 := (hb4).size
  clear f0_3 HS0_3 hf0_3 f1_3 HS1_3 hf1_3
  clear hb4
  have f0_4 := str6 HS0_4.out
  have hl0_4 := HS0_4.out.lt
  have hf0_4 := fun j => HS0_4.out.frozen j
  have f1_4 := str7 HS1_4.out
  have hl1_4 := HS1_4.out.lt
  have hf1_4 := fun j => HS1_4.out.frozen j
  go_wp2_with fail
  go_ret
  exact ⟨rfl, HB_4.out⟩
set_option maxRecDepth 100000 in
set_option maxHeartbeats 4000000 in
theorem way_wrong (act : Int) (xk : ByteArray) (xdata : List UInt8) (xlo xhi xn : Int) (Ax : Option Addr) (nx cx : Nat) (pst : Int) (pk : ByteArray) (pkd : Int) (pda : List UInt8) (plo phi pva : Int) (Ap : Option Addr) (np cp : Nat) (w : World) (hx : Bytes w w.heap.size Ax nx cx xdata) (hxk : xk.size ≤ maxLen) (hi : In64 act ∧ In64 xlo ∧ In64 xhi ∧ In64 xn) (hp : Bytes w w.heap.size Ap np cp pda) (hpk : pk.size ≤ maxLen) (hj : In64 pst ∧ In64 pkd ∧ In64 plo ∧ In64 phi ∧ In64 pva) (h0 : bigI ⟨pst, pk, ⟨pkd, pda, plo, phi, pva⟩⟩ = false) (h1 : ModelP.muchL [⟨act, xk, xdata, xlo, xhi, xn⟩] = false) (h2 : SlotP.right ⟨pst, pk, ⟨pkd, pda, plo, phi, pva⟩⟩ = false) :
    Calls Try.prog 8 #[.agg #[.int .i64 act, .string xk, .slice Ax nx cx, .int .i64 xlo, .int .i64 xhi, .int .i64 xn], .agg #[.int .i64 pst, .string pk, .int .i64 pkd, .slice Ap np cp, .int .i64 plo, .int .i64 phi, .int .i64 pva]] w fun e w' => e = .returned (.bool true) ∧ Below w.heap.size w w' := by
  have H0 := Lib.hid h0
  have H1 := Lib.hid h1
  have H2 := Lib.hid h2
  have HX := Lib.hid hx
  have HP := Lib.hid hp
  have HI := Lib.hid hi
  have HJ := Lib.hid hj
  have hnpm : np ≤ maxLen := Nat.le_trans hp.2.1 hp.2.2.1
  have hnp : np ≤ 300 := by rw [← hp.len]; exact bigI_no h0
  have hnx : nx ≤ 300 := by rw [← hx.len]; exact muchL_one h1
  clear hx hi hp hj h0 h1 h2
  go_enter Try.func8, Try.ntmps8
  go_wp2_with fail
  generalize hW0 : ((w).alloc (.cells #[.int .i64 act, .string xk, .slice Ax nx cx, .int .i64 xlo, .int .i64 xhi, .int .i64 xn] 24)).alloc (.cells #[.int .i64 pst, .string pk, .int .i64 pkd, .slice Ap np cp, .int .i64 plo, .int .i64 phi, .int .i64 pva] 54) = W0
  obtain ⟨HS0_0, HS1_0, HB_0, hw_0, hz0⟩ := new2 hW0
  clear hW0 hz0
  have f0_0 := str6 HS0_0.out
  have hl0_0 := HS0_0.out.lt
  have hf0_0 := fun j => HS0_0.out.frozen j
  have f1_0 := str7 HS1_0.out
  have hl1_0 := HS1_0.out.lt
  have hf1_0 := fun j => HS1_0.out.frozen j
  refine (big_any Ap np cp ⟨pst, pk, ⟨pkd, pda, plo, phi, pva⟩⟩ _ hpk HP.out.len hnpm).mono ?_
  rintro e W1 ⟨rfl, hb1⟩
  rw [H0.out]
  have HS0_1 := Lib.hid (HS0_0.out.next hb1)
  have HS1_1 := Lib.hid (HS1_0.out.next hb1)
  have HB_1 := Lib.hid (bstep HB_0.out hb1)
  have hw_1 := HB_1.out.size
  have hws_1 := (hb1).size
  clear f0_0 HS0_0 hf0_0 f1_0 HS1_0 hf1_0
  clear hb1
  have f0_1 := str6 HS0_1.out
  have hl0_1 := HS0_1.out.lt
  have hf0_1 := fun j => HS0_1.out.frozen j
  have f1_1 := str7 HS1_1.out
  have hl1_1 := HS1_1.out.lt
  have hf1_1 := fun j => HS1_1.out.frozen j
  go_wp2_with fail
  generalize hW2 : W1.alloc (.cells #[.int .i64 act, .string xk, .slice Ax nx cx, .int .i64 xlo, .int .i64 xhi, .int .i64 xn] 24) = W2
  have HSO := Lib.hid (sEq hW2 (Str.new _ _ _)).out
  have hba2 : Below W1.heap.size W1 W2 := by rw [← hW2]; exact balloc (bsame _) _
  clear hW2
  have HS0_2 := Lib.hid (HS0_1.out.next hba2)
  have HS1_2 := Lib.hid (HS1_1.out.next hba2)
  have HB_2 := Lib.hid (bstep HB_1.out hba2)
  have hw_2 := HB_2.out.size
  have hws_2 := (hba2).size
  clear f0_1 HS0_1 hf0_1 f1_1 HS1_1 hf1_1
  have f0_2 := str6 HS0_2.out
  have hl0_2 := HS0_2.out.lt
  have hf0_2 := fun j => HS0_2.out.frozen j
  have f1_2 := str7 HS1_2.out
  have hl1_2 := HS1_2.out.lt
  have hf1_2 := fun j => HS1_2.out.frozen j
  refine (much_any (some ⟨W1.heap.size, 0, none⟩) 1 1 W2.heap.size [⟨act, xk, xdata, xlo, xhi, xn⟩] _ (opOne HSO.out ((HX.out.below HB_2.out).more HB_2.out.size) (Nat.le_refl _) hxk HI.out) (Nat.le_refl _)).mono ?_
  rintro e W3 ⟨rfl, hb3⟩
  rw [H1.out]
  have HS0_3 := Lib.hid (HS0_2.out.next hb3)
  have HS1_3 := Lib.hid (HS1_2.out.next hb3)
  have HB_3 := Lib.hid (bstep HB_2.out hb3)
  have hw_3 := HB_3.out.size
  have hws_3 := (hb3).size
  clear f0_2 HS0_2 hf0_2 f1_2 HS1_2 hf1_2
  clear hb3
  have f0_3 := str6 HS0_3.out
  have hl0_3 := HS0_3.out.lt
  have hf0_3 := fun j => HS0_3.out.frozen j
  have f1_3 := str7 HS1_3.out
  have hl1_3 := HS1_3.out.lt
  have hf1_3 := fun j => HS1_3.out.frozen j
  clear HSO
  go_wp2_with fail
  refine (SlotW.right_any Ap np cp w.heap.size ⟨pst, pk, ⟨pkd, pda, plo, phi, pva⟩⟩ _ (HP.out.below HB_3.out) HB_3.out.size hpk).mono ?_
  rintro e W4 ⟨rfl, hb4⟩
  rw [H2.out]
  have HS0_4 := Lib.hid (HS0_3.out.next hb4)
  have HS1_4 := Lib.hid (HS1_3.out.next hb4)
  have HB_4 := Lib.hid (bstep HB_3.out hb4)
  have hw_4 := HB_4.out.size
  have hws_4 := (hb4).size
  clear f0_3 HS0_3 hf0_3 f1_3 HS1_3 hf1_3
  clear hb4
  have f0_4 := str6 HS0_4.out
  have hl0_4 := HS0_4.out.lt
  have hf0_4 := fun j => HS0_4.out.frozen j
  have f1_4 := str7 HS1_4.out
  have hl1_4 := HS1_4.out.lt
  have hf1_4 := fun j => HS1_4.out.frozen j
  go_wp2_with fail
  refine (PlanW.live_any _).mono ?_
  rintro e W5 ⟨rfl, hb5⟩
  have HS0_5 := Lib.hid (HS0_4.out.next hb5)
  have HS1_5 := Lib.hid (HS1_4.out.next hb5)
  have HB_5 := Lib.hid (bstep HB_4.out hb5)
  have hw_5 := HB_5.out.size
  have hws_5 := (hb5).size
  clear f0_4 HS0_4 hf0_4 f1_4 HS1_4 hf1_4
  clear hb5
  have f0_5 := str6 HS0_5.out
  have hl0_5 := HS0_5.out.lt
  have hf0_5 := fun j => HS0_5.out.frozen j
  have f1_5 := str7 HS1_5.out
  have hl1_5 := HS1_5.out.lt
  have hf1_5 := fun j => HS1_5.out.frozen j
  go_wp2_with fail
  go_ret
  exact ⟨rfl, HB_5.out⟩
set_option maxRecDepth 100000 in
set_option maxHeartbeats 4000000 in
theorem way_key (act : Int) (xk : ByteArray) (xdata : List UInt8) (xlo xhi xn : Int) (Ax : Option Addr) (nx cx : Nat) (pst : Int) (pk : ByteArray) (pkd : Int) (pda : List UInt8) (plo phi pva : Int) (Ap : Option Addr) (np cp : Nat) (w : World) (hx : Bytes w w.heap.size Ax nx cx xdata) (hxk : xk.size ≤ maxLen) (hi : In64 act ∧ In64 xlo ∧ In64 xhi ∧ In64 xn) (hp : Bytes w w.heap.size Ap np cp pda) (hpk : pk.size ≤ maxLen) (hj : In64 pst ∧ In64 pkd ∧ In64 plo ∧ In64 phi ∧ In64 pva) (h0 : bigI ⟨pst, pk, ⟨pkd, pda, plo, phi, pva⟩⟩ = false) (h1 : ModelP.muchL [⟨act, xk, xdata, xlo, xhi, xn⟩] = false) (h2 : SlotP.right ⟨pst, pk, ⟨pkd, pda, plo, phi, pva⟩⟩ = true) (h3 : pst ≠ 0) (h4 : pk ≠ xk) :
    Calls Try.prog 8 #[.agg #[.int .i64 act, .string xk, .slice Ax nx cx, .int .i64 xlo, .int .i64 xhi, .int .i64 xn], .agg #[.int .i64 pst, .string pk, .int .i64 pkd, .slice Ap np cp, .int .i64 plo, .int .i64 phi, .int .i64 pva]] w fun e w' => e = .returned (.bool true) ∧ Below w.heap.size w w' := by
  have H0 := Lib.hid h0
  have H1 := Lib.hid h1
  have H2 := Lib.hid h2
  have HX := Lib.hid hx
  have HP := Lib.hid hp
  have HI := Lib.hid hi
  have HJ := Lib.hid hj
  have hnpm : np ≤ maxLen := Nat.le_trans hp.2.1 hp.2.2.1
  have hnp : np ≤ 300 := by rw [← hp.len]; exact bigI_no h0
  have hnx : nx ≤ 300 := by rw [← hx.len]; exact muchL_one h1
  have h3b : (pst != 0) = true := by simpa using h3
  have h4b : (pk.toList == xk.toList) = false := key_ne h4
  clear h3 h4
  clear hx hi hp hj h0 h1 h2
  go_enter Try.func8, Try.ntmps8
  go_wp2_with fail
  generalize hW0 : ((w).alloc (.cells #[.int .i64 act, .string xk, .slice Ax nx cx, .int .i64 xlo, .int .i64 xhi, .int .i64 xn] 24)).alloc (.cells #[.int .i64 pst, .string pk, .int .i64 pkd, .slice Ap np cp, .int .i64 plo, .int .i64 phi, .int .i64 pva] 54) = W0
  obtain ⟨HS0_0, HS1_0, HB_0, hw_0, hz0⟩ := new2 hW0
  clear hW0 hz0
  have f0_0 := str6 HS0_0.out
  have hl0_0 := HS0_0.out.lt
  have hf0_0 := fun j => HS0_0.out.frozen j
  have f1_0 := str7 HS1_0.out
  have hl1_0 := HS1_0.out.lt
  have hf1_0 := fun j => HS1_0.out.frozen j
  refine (big_any Ap np cp ⟨pst, pk, ⟨pkd, pda, plo, phi, pva⟩⟩ _ hpk HP.out.len hnpm).mono ?_
  rintro e W1 ⟨rfl, hb1⟩
  rw [H0.out]
  have HS0_1 := Lib.hid (HS0_0.out.next hb1)
  have HS1_1 := Lib.hid (HS1_0.out.next hb1)
  have HB_1 := Lib.hid (bstep HB_0.out hb1)
  have hw_1 := HB_1.out.size
  have hws_1 := (hb1).size
  clear f0_0 HS0_0 hf0_0 f1_0 HS1_0 hf1_0
  clear hb1
  have f0_1 := str6 HS0_1.out
  have hl0_1 := HS0_1.out.lt
  have hf0_1 := fun j => HS0_1.out.frozen j
  have f1_1 := str7 HS1_1.out
  have hl1_1 := HS1_1.out.lt
  have hf1_1 := fun j => HS1_1.out.frozen j
  go_wp2_with fail
  generalize hW2 : W1.alloc (.cells #[.int .i64 act, .string xk, .slice Ax nx cx, .int .i64 xlo, .int .i64 xhi, .int .i64 xn] 24) = W2
  have HSO := Lib.hid (sEq hW2 (Str.new _ _ _)).out
  have hba2 : Below W1.heap.size W1 W2 := by rw [← hW2]; exact balloc (bsame _) _
  clear hW2
  have HS0_2 := Lib.hid (HS0_1.out.next hba2)
  have HS1_2 := Lib.hid (HS1_1.out.next hba2)
  have HB_2 := Lib.hid (bstep HB_1.out hba2)
  have hw_2 := HB_2.out.size
  have hws_2 := (hba2).size
  clear f0_1 HS0_1 hf0_1 f1_1 HS1_1 hf1_1
  have f0_2 := str6 HS0_2.out
  have hl0_2 := HS0_2.out.lt
  have hf0_2 := fun j => HS0_2.out.frozen j
  have f1_2 := str7 HS1_2.out
  have hl1_2 := HS1_2.out.lt
  have hf1_2 := fun j => HS1_2.out.frozen j
  refine (much_any (some ⟨W1.heap.size, 0, none⟩) 1 1 W2.heap.size [⟨act, xk, xdata, xlo, xhi, xn⟩] _ (opOne HSO.out ((HX.out.below HB_2.out).more HB_2.out.size) (Nat.le_refl _) hxk HI.out) (Nat.le_refl _)).mono ?_
  rintro e W3 ⟨rfl, hb3⟩
  rw [H1.out]
  have HS0_3 := Lib.hid (HS0_2.out.next hb3)
  have HS1_3 := Lib.hid (HS1_2.out.next hb3)
  have HB_3 := Lib.hid (bstep HB_2.out hb3)
  have hw_3 := HB_3.out.size
  have hws_3 := (hb3).size
  clear f0_2 HS0_2 hf0_2 f1_2 HS1_2 hf1_2
  clear hb3
  have f0_3 := str6 HS0_3.out
  have hl0_3 := HS0_3.out.lt
  have hf0_3 := fun j => HS0_3.out.frozen j
  have f1_3 := str7 HS1_3.out
  have hl1_3 := HS1_3.out.lt
  have hf1_3 := fun j => HS1_3.out.frozen j
  clear HSO
  go_wp2_with fail
  refine (SlotW.right_any Ap np cp w.heap.size ⟨pst, pk, ⟨pkd, pda, plo, phi, pva⟩⟩ _ (HP.out.below HB_3.out) HB_3.out.size hpk).mono ?_
  rintro e W4 ⟨rfl, hb4⟩
  rw [H2.out]
  have HS0_4 := Lib.hid (HS0_3.out.next hb4)
  have HS1_4 := Lib.hid (HS1_3.out.next hb4)
  have HB_4 := Lib.hid (bstep HB_3.out hb4)
  have hw_4 := HB_4.out.size
  have hws_4 := (hb4).size
  clear f0_3 HS0_3 hf0_3 f1_3 HS1_3 hf1_3
  clear hb4
  have f0_4 := str6 HS0_4.out
  have hl0_4 := HS0_4.out.lt
  have hf0_4 := fun j => HS0_4.out.frozen j
  have f1_4 := str7 HS1_4.out
  have hl1_4 := HS1_4.out.lt
  have hf1_4 := fun j => HS1_4.out.frozen j
  go_wp2_with fail
  refine (PlanW.live_any _).mono ?_
  rintro e W5 ⟨rfl, hb5⟩
  have HS0_5 := Lib.hid (HS0_4.out.next hb5)
  have HS1_5 := Lib.hid (HS1_4.out.next hb5)
  have HB_5 := Lib.hid (bstep HB_4.out hb5)
  have hw_5 := HB_5.out.size
  have hws_5 := (hb5).size
  clear f0_4 HS0_4 hf0_4 f1_4 HS1_4 hf1_4
  clear hb5
  have f0_5 := str6 HS0_5.out
  have hl0_5 := HS0_5.out.lt
  have hf0_5 := fun j => HS0_5.out.frozen j
  have f1_5 := str7 HS1_5.out
  have hl1_5 := HS1_5.out.lt
  have hf1_5 := fun j => HS1_5.out.frozen j
  go_wp2_with fail
  go_ret
  exact ⟨rfl, HB_5.out⟩
set_option maxRecDepth 100000 in
set_option maxHeartbeats 4000000 in
theorem way_not (act : Int) (xk : ByteArray) (xdata : List UInt8) (xlo xhi xn : Int) (Ax : Option Addr) (nx cx : Nat) (pst : Int) (pk : ByteArray) (pkd : Int) (pda : List UInt8) (plo phi pva : Int) (Ap : Option Addr) (np cp : Nat) (w : World) (hx : Bytes w w.heap.size Ax nx cx xdata) (hxk : xk.size ≤ maxLen) (hi : In64 act ∧ In64 xlo ∧ In64 xhi ∧ In64 xn) (hp : Bytes w w.heap.size Ap np cp pda) (hpk : pk.size ≤ maxLen) (hj : In64 pst ∧ In64 pkd ∧ In64 plo ∧ In64 phi ∧ In64 pva) (h0 : bigI ⟨pst, pk, ⟨pkd, pda, plo, phi, pva⟩⟩ = false) (h1 : ModelP.muchL [⟨act, xk, xdata, xlo, xhi, xn⟩] = false) (h2 : SlotP.right ⟨pst, pk, ⟨pkd, pda, plo, phi, pva⟩⟩ = true) (h3 : pst ≠ 0 → pk = xk) (h4 : PlanP.writes ⟨act, xk, xdata, xlo, xhi, xn⟩ (PlanP.slot ⟨act, xk, xdata, xlo, xhi, xn⟩ ⟨pst, pk, ⟨pkd, pda, plo, phi, pva⟩⟩).2 = false) :
    Calls Try.prog 8 #[.agg #[.int .i64 act, .string xk, .slice Ax nx cx, .int .i64 xlo, .int .i64 xhi, .int .i64 xn], .agg #[.int .i64 pst, .string pk, .int .i64 pkd, .slice Ap np cp, .int .i64 plo, .int .i64 phi, .int .i64 pva]] w fun e w' => e = .returned (.bool true) ∧ Below w.heap.size w w' := by
  have H0 := Lib.hid h0
  have H1 := Lib.hid h1
  have H2 := Lib.hid h2
  have HX := Lib.hid hx
  have HP := Lib.hid hp
  have HI := Lib.hid hi
  have HJ := Lib.hid hj
  have hnpm : np ≤ maxLen := Nat.le_trans hp.2.1 hp.2.2.1
  have hnp : np ≤ 300 := by rw [← hp.len]; exact bigI_no h0
  have hnx : nx ≤ 300 := by rw [← hx.len]; exact muchL_one h1
  have hsl : ∀ r, PlanP.slot ⟨act, xk, xdata, xlo, xhi, xn⟩ ⟨pst, pk, ⟨pkd, pda, plo, phi, pva⟩⟩ = r → (act != 0 && r.2.err == 0) = false := by rintro r rfl; exact h4
  have HSL := Lib.hid hsl
  have HN : Hid (∀ r, PlanP.slot ⟨act, xk, xdata, xlo, xhi, xn⟩ ⟨pst, pk, ⟨pkd, pda, plo, phi, pva⟩⟩ = r → r.1 = ⟨pst, pk, ⟨pkd, pda, plo, phi, pva⟩⟩) := Lib.hid (by rintro r rfl; exact slot_not h4)
  have HZ : Hid ((pst != 0) = false ∨ ((pst != 0) = true ∧ (pk.toList == xk.toList) = true)) := Lib.hid (by by_cases hz : pst = 0; exact .inl (by simp [hz]); exact .inr ⟨by simpa using hz, by rw [h3 hz]; exact beq_self_eq_true _⟩)
  clear hsl h3 h4
  clear hx hi hp hj h0 h1 h2
  go_enter Try.func8, Try.ntmps8
  go_wp2_with fail
  generalize hW0 : ((w).alloc (.cells #[.int .i64 act, .string xk, .slice Ax nx cx, .int .i64 xlo, .int .i64 xhi, .int .i64 xn] 24)).alloc (.cells #[.int .i64 pst, .string pk, .int .i64 pkd, .slice Ap np cp, .int .i64 plo, .int .i64 phi, .int .i64 pva] 54) = W0
  obtain ⟨HS0_0, HS1_0, HB_0, hw_0, hz0⟩ := new2 hW0
  clear hW0 hz0
  have f0_0 := str6 HS0_0.out
  have hl0_0 := HS0_0.out.lt
  have hf0_0 := fun j => HS0_0.out.frozen j
  have f1_0 := str7 HS1_0.out
  have hl1_0 := HS1_0.out.lt
  have hf1_0 := fun j => HS1_0.out.frozen j
  refine (big_any Ap np cp ⟨pst, pk, ⟨pkd, pda, plo, phi, pva⟩⟩ _ hpk HP.out.len hnpm).mono ?_
  rintro e W1 ⟨rfl, hb1⟩
  rw [H0.out]
  have HS0_1 := Lib.hid (HS0_0.out.next hb1)
  have HS1_1 := Lib.hid (HS1_0.out.next hb1)
  have HB_1 := Lib.hid (bstep HB_0.out hb1)
  have hw_1 := HB_1.out.size
  have hws_1 := (hb1).size
  clear f0_0 HS0_0 hf0_0 f1_0 HS1_0 hf1_0
  clear hb1
  have f0_1 := str6 HS0_1.out
  have hl0_1 := HS0_1.out.lt
  have hf0_1 := fun j => HS0_1.out.frozen j
  have f1_1 := str7 HS1_1.out
  have hl1_1 := HS1_1.out.lt
  have hf1_1 := fun j => HS1_1.out.frozen j
  go_wp2_with fail
  generalize hW2 : W1.alloc (.cells #[.int .i64 act, .string xk, .slice Ax nx cx, .int .i64 xlo, .int .i64 xhi, .int .i64 xn] 24) = W2
  have HSO := Lib.hid (sEq hW2 (Str.new _ _ _)).out
  have hba2 : Below W1.heap.size W1 W2 := by rw [← hW2]; exact balloc (bsame _) _
  clear hW2
  have HS0_2 := Lib.hid (HS0_1.out.next hba2)
  have HS1_2 := Lib.hid (HS1_1.out.next hba2)
  have HB_2 := Lib.hid (bstep HB_1.out hba2)
  have hw_2 := HB_2.out.size
  have hws_2 := (hba2).size
  clear f0_1 HS0_1 hf0_1 f1_1 HS1_1 hf1_1
  have f0_2 := str6 HS0_2.out
  have hl0_2 := HS0_2.out.lt
  have hf0_2 := fun j => HS0_2.out.frozen j
  have f1_2 := str7 HS1_2.out
  have hl1_2 := HS1_2.out.lt
  have hf1_2 := fun j => HS1_2.out.frozen j
  refine (much_any (some ⟨W1.heap.size, 0, none⟩) 1 1 W2.heap.size [⟨act, xk, xdata, xlo, xhi, xn⟩] _ (opOne HSO.out ((HX.out.below HB_2.out).more HB_2.out.size) (Nat.le_refl _) hxk HI.out) (Nat.le_refl _)).mono ?_
  rintro e W3 ⟨rfl, hb3⟩
  rw [H1.out]
  have HS0_3 := Lib.hid (HS0_2.out.next hb3)
  have HS1_3 := Lib.hid (HS1_2.out.next hb3)
  have HB_3 := Lib.hid (bstep HB_2.out hb3)
  have hw_3 := HB_3.out.size
  have hws_3 := (hb3).size
  clear f0_2 HS0_2 hf0_2 f1_2 HS1_2 hf1_2
  clear hb3
  have f0_3 := str6 HS0_3.out
  have hl0_3 := HS0_3.out.lt
  have hf0_3 := fun j => HS0_3.out.frozen j
  have f1_3 := str7 HS1_3.out
  have hl1_3 := HS1_3.out.lt
  have hf1_3 := fun j => HS1_3.out.frozen j
  clear HSO
  go_wp2_with fail
  refine (SlotW.right_any Ap np cp w.heap.size ⟨pst, pk, ⟨pkd, pda, plo, phi, pva⟩⟩ _ (HP.out.below HB_3.out) HB_3.out.size hpk).mono ?_
  rintro e W4 ⟨rfl, hb4⟩
  rw [H2.out]
  have HS0_4 := Lib.hid (HS0_3.out.next hb4)
  have HS1_4 := Lib.hid (HS1_3.out.next hb4)
  have HB_4 := Lib.hid (bstep HB_3.out hb4)
  have hw_4 := HB_4.out.size
  have hws_4 := (hb4).size
  clear f0_3 HS0_3 hf0_3 f1_3 HS1_3 hf1_3
  clear hb4
  have f0_4 := str6 HS0_4.out
  have hl0_4 := HS0_4.out.lt
  have hf0_4 := fun j => HS0_4.out.frozen j
  have f1_4 := str7 HS1_4.out
  have hl1_4 := HS1_4.out.lt
  have hf1_4 := fun j => HS1_4.out.frozen j
  rcases HZ.out with hz1 | ⟨hz1, hz2⟩
  all_goals
    go_wp2_with fail
    obtain ⟨r, hr⟩ : ∃ r, PlanP.slot ⟨act, xk, xdata, xlo, xhi, xn⟩ ⟨pst, pk, ⟨pkd, pda, plo, phi, pva⟩⟩ = r := ⟨_, rfl⟩
    have HRR := Lib.hid hr
    have H4 := Lib.hid (HSL.out _ hr)
    clear hr
    refine (slot_any act xk xdata xlo xhi xn Ax nx cx W4.heap.size pst pk pkd pda plo phi pva Ap np cp W4.heap.size _ ((HX.out.below HB_4.out).more HB_4.out.size) (Nat.le_refl _) hxk HI.out.2 (by omega) ((HP.out.below HB_4.out).more HB_4.out.size) (Nat.le_refl _) hpk HJ.out.2 (by omega) H2.out).mono ?_
    rintro e W5 ⟨A1, n1, c1, A2, n2, c2, rfl, hy1, hy2, hb5⟩
    have HS0_5 := Lib.hid (HS0_4.out.next hb5)
    have HS1_5 := Lib.hid (HS1_4.out.next hb5)
    have HB_5 := Lib.hid (bstep HB_4.out hb5)
    have hw_5 := HB_5.out.size
    have hws_5 := (hb5).size
    clear f0_4 HS0_4 hf0_4 f1_4 HS1_4 hf1_4
    have f0_5 := str6 HS0_5.out
    have hl0_5 := HS0_5.out.lt
    have hf0_5 := fun j => HS0_5.out.frozen j
    have f1_5 := str7 HS1_5.out
    have hl1_5 := HS1_5.out.lt
    have hf1_5 := fun j => HS1_5.out.frozen j
    rw [HRR.out] at hy1 hy2
    rw [HRR.out]
    obtain ⟨⟨rs, rk, ⟨rkd, rda, rlo, rhi, rva⟩⟩, ⟨re, ⟨rekd, reda, relo, rehi, reva⟩⟩⟩ := r
    dsimp only [itV, ansV] at *
    have HYr_5 := Lib.hid (hy1)
    clear hy1 hy2 hb5
    go_wp2_with fail
    generalize hW6 : W5.alloc (.cells #[.int .i64 rs, .string rk, .int .i64 rkd, .slice A1 n1 c1, .int .i64 rlo, .int .i64 rhi, .int .i64 rva] 54) = W6
    have HS0_6 := sEq hW6 (HS0_5.out.alloc _)
    have HS1_6 := sEq hW6 (HS1_5.out.alloc _)
    have HS2_6 := sEq hW6 (Str.new _ _ _)
    have hba6 : Below W5.heap.size W5 W6 := by rw [← hW6]; exact balloc (bsame _) _
    have HB_6 := Lib.hid (bstep HB_5.out hba6)
    have hw_6 := HB_6.out.size
    have hws_6 := hba6.size
    have HYr_6 := Lib.hid (HYr_5.out.next hba6)
    clear HYr_5
    have hz6 : W6.heap.size = W5.heap.size + 1 := by rw [← hW6]; simp
    clear hW6
    clear f0_5 HS0_5 hf0_5 f1_5 HS1_5 hf1_5
    have f0_6 := str6 HS0_6.out
    have hl0_6 := HS0_6.out.lt
    have hf0_6 := fun j => HS0_6.out.frozen j
    have f1_6 := str7 HS1_6.out
    have hl1_6 := HS1_6.out.lt
    have hf1_6 := fun j => HS1_6.out.frozen j
    have f2_6 := str7 HS2_6.out
    have hl2_6 := HS2_6.out.lt
    generalize hW7 : W6.alloc (.cells #[.int .i64 re, .int .i64 rekd, .slice A2 n2 c2, .int .i64 relo, .int .i64 rehi, .int .i64 reva] 39) = W7
    have HS0_7 := sEq hW7 (HS0_6.out.alloc _)
    have HS1_7 := sEq hW7 (HS1_6.out.alloc _)
    have HS2_7 := sEq hW7 (HS2_6.out.alloc _)
    have HS3_7 := sEq hW7 (Str.new _ _ _)
    have hba7 : Below W6.heap.size W6 W7 := by rw [← hW7]; exact balloc (bsame _) _
    have HB_7 := Lib.hid (bstep HB_6.out hba7)
    have hw_7 := HB_7.out.size
    have hws_7 := hba7.size
    have HYr_7 := Lib.hid (HYr_6.out.next hba7)
    clear HYr_6
    clear hW7
    clear f0_6 HS0_6 hf0_6 f1_6 HS1_6 hf1_6 f2_6 HS2_6
    have f0_7 := str6 HS0_7.out
    have hl0_7 := HS0_7.out.lt
    have hf0_7 := fun j => HS0_7.out.frozen j
    have f1_7 := str7 HS1_7.out
    have hl1_7 := HS1_7.out.lt
    have hf1_7 := fun j => HS1_7.out.frozen j
    have f2_7 := str7 HS2_7.out
    have hl2_7 := HS2_7.out.lt
    have f3_7 := str6 HS3_7.out
    have hl3_7 := HS3_7.out.lt
    rw [hz6] at HS3_7 hl3_7 f3_7
    refine (writes_any act xk Ax nx cx xlo xhi xn re rekd A2 n2 c2 relo rehi reva _).mono ?_
    rintro e W8 ⟨rfl, hb8⟩
    rw [H4.out]
    have HS0_8 := Lib.hid (HS0_7.out.next hb8)
    have HS1_8 := Lib.hid (HS1_7.out.next hb8)
    have HS2_8 := Lib.hid (HS2_7.out.next hb8)
    have HS3_8 := Lib.hid (HS3_7.out.next hb8)
    have HB_8 := Lib.hid (bstep HB_7.out hb8)
    have hw_8 := HB_8.out.size
    have hws_8 := (hb8).size
    have HYr_8 := Lib.hid (HYr_7.out.next hb8)
    clear HYr_7
    clear f0_7 HS0_7 hf0_7 f1_7 HS1_7 hf1_7 f2_7 HS2_7 f3_7 HS3_7
    clear hb8
    have f0_8 := str6 HS0_8.out
    have hl0_8 := HS0_8.out.lt
    have hf0_8 := fun j => HS0_8.out.frozen j
    have f1_8 := str7 HS1_8.out
    have hl1_8 := HS1_8.out.lt
    have hf1_8 := fun j => HS1_8.out.frozen j
    have f2_8 := str7 HS2_8.out
    have hl2_8 := HS2_8.out.lt
    have f3_8 := str6 HS3_8.out
    have hl3_8 := HS3_8.out.lt
    go_wp2_with fail
    refine (SlotW.refSame_any A1 Ap n1 c1 np cp W8.heap.size W8.heap.size ⟨rs, rk, ⟨rkd, rda, rlo, rhi, rva⟩⟩ ⟨pst, pk, ⟨pkd, pda, plo, phi, pva⟩⟩ _ HYr_8.out ((HP.out.below HB_8.out).more HB_8.out.size) (Nat.le_refl _) (Nat.le_refl _)).mono ?_
    rintro e W9 ⟨rfl, hb9⟩
    rw [show (⟨rs, rk, ⟨rkd, rda, rlo, rhi, rva⟩⟩ : Item) = ⟨pst, pk, ⟨pkd, pda, plo, phi, pva⟩⟩ from HN.out _ HRR.out, slot_same_self]
    have HS0_9 := Lib.hid (HS0_8.out.next hb9)
    have HS1_9 := Lib.hid (HS1_8.out.next hb9)
    have HS2_9 := Lib.hid (HS2_8.out.next hb9)
    have HS3_9 := Lib.hid (HS3_8.out.next hb9)
    have HB_9 := Lib.hid (bstep HB_8.out hb9)
    have hw_9 := HB_9.out.size
    have hws_9 := (hb9).size
    have HYr_9 := Lib.hid (HYr_8.out.next hb9)
    clear HYr_8
    clear f0_8 HS0_8 hf0_8 f1_8 HS1_8 hf1_8 f2_8 HS2_8 f3_8 HS3_8
    clear hb9
    have f0_9 := str6 HS0_9.out
    have hl0_9 := HS0_9.out.lt
    have hf0_9 := fun j => HS0_9.out.frozen j
    have f1_9 := str7 HS1_9.out
    have hl1_9 := HS1_9.out.lt
    have hf1_9 := fun j => HS1_9.out.frozen j
    have f2_9 := str7 HS2_9.out
    have hl2_9 := HS2_9.out.lt
    have f3_9 := str6 HS3_9.out
    have hl3_9 := HS3_9.out.lt
    go_wp2_with fail
    refine (PlanW.live_any _).mono ?_
    rintro e W10 ⟨rfl, hb10⟩
    have HS0_10 := Lib.hid (HS0_9.out.next hb10)
    have HS1_10 := Lib.hid (HS1_9.out.next hb10)
    have HS2_10 := Lib.hid (HS2_9.out.next hb10)
    have HS3_10 := Lib.hid (HS3_9.out.next hb10)
    have HB_10 := Lib.hid (bstep HB_9.out hb10)
    have hw_10 := HB_10.out.size
    have hws_10 := (hb10).size
    have HYr_10 := Lib.hid (HYr_9.out.next hb10)
    clear HYr_9
    clear f0_9 HS0_9 hf0_9 f1_9 HS1_9 hf1_9 f2_9 HS2_9 f3_9 HS3_9
    clear hb10
    have f0_10 := str6 HS0_10.out
    have hl0_10 := HS0_10.out.lt
    have hf0_10 := fun j => HS0_10.out.frozen j
    have f1_10 := str7 HS1_10.out
    have hl1_10 := HS1_10.out.lt
    have hf1_10 := fun j => HS1_10.out.frozen j
    have f2_10 := str7 HS2_10.out
    have hl2_10 := HS2_10.out.lt
    have f3_10 := str6 HS3_10.out
    have hl3_10 := HS3_10.out.lt
    go_wp2_with fail
    go_ret
    exact ⟨rfl, HB_10.out⟩
set_option maxRecDepth 100000 in
set_option maxHeartbeats 4000000 in
theorem way_zero (act : Int) (xk : ByteArray) (xdata : List UInt8) (xlo xhi xn : Int) (Ax : Option Addr) (nx cx : Nat) (pst : Int) (pk : ByteArray) (pkd : Int) (pda : List UInt8) (plo phi pva : Int) (Ap : Option Addr) (np cp : Nat) (w : World) (hx : Bytes w w.heap.size Ax nx cx xdata) (hxk : xk.size ≤ maxLen) (hi : In64 act ∧ In64 xlo ∧ In64 xhi ∧ In64 xn) (hp : Bytes w w.heap.size Ap np cp pda) (hpk : pk.size ≤ maxLen) (hj : In64 pst ∧ In64 pkd ∧ In64 plo ∧ In64 phi ∧ In64 pva) (h0 : bigI ⟨pst, pk, ⟨pkd, pda, plo, phi, pva⟩⟩ = false) (h1 : ModelP.muchL [⟨act, xk, xdata, xlo, xhi, xn⟩] = false) (h2 : SlotP.right ⟨pst, pk, ⟨pkd, pda, plo, phi, pva⟩⟩ = true) (h3 : pst ≠ 0 → pk = xk) (h4 : PlanP.writes ⟨act, xk, xdata, xlo, xhi, xn⟩ (PlanP.slot ⟨act, xk, xdata, xlo, xhi, xn⟩ ⟨pst, pk, ⟨pkd, pda, plo, phi, pva⟩⟩).2 = true) (h5 : pst = 0) :
    Calls Try.prog 8 #[.agg #[.int .i64 act, .string xk, .slice Ax nx cx, .int .i64 xlo, .int .i64 xhi, .int .i64 xn], .agg #[.int .i64 pst, .string pk, .int .i64 pkd, .slice Ap np cp, .int .i64 plo, .int .i64 phi, .int .i64 pva]] w fun e w' => e = .returned (.bool true) ∧ Below w.heap.size w w' := by
  have H0 := Lib.hid h0
  have H1 := Lib.hid h1
  have H2 := Lib.hid h2
  have HX := Lib.hid hx
  have HP := Lib.hid hp
  have HI := Lib.hid hi
  have HJ := Lib.hid hj
  have hnpm : np ≤ maxLen := Nat.le_trans hp.2.1 hp.2.2.1
  have hnp : np ≤ 300 := by rw [← hp.len]; exact bigI_no h0
  have hnx : nx ≤ 300 := by rw [← hx.len]; exact muchL_one h1
  have hsl : ∀ r, PlanP.slot ⟨act, xk, xdata, xlo, xhi, xn⟩ ⟨pst, pk, ⟨pkd, pda, plo, phi, pva⟩⟩ = r → (act != 0 && r.2.err == 0) = true := by rintro r rfl; exact h4
  have HSL := Lib.hid hsl
  have HBK : Hid (∀ r, PlanP.slot ⟨act, xk, xdata, xlo, xhi, xn⟩ ⟨pst, pk, ⟨pkd, pda, plo, phi, pva⟩⟩ = r → (UndoP.apply (UndoP.of ⟨act, xk, xdata, xlo, xhi, xn⟩ ⟨pst, pk, ⟨pkd, pda, plo, phi, pva⟩⟩ r.1) r.1).2 = 0 ∧ UndoP.right (UndoP.of ⟨act, xk, xdata, xlo, xhi, xn⟩ ⟨pst, pk, ⟨pkd, pda, plo, phi, pva⟩⟩ r.1) = true ∧ (UndoP.apply (UndoP.of ⟨act, xk, xdata, xlo, xhi, xn⟩ ⟨pst, pk, ⟨pkd, pda, plo, phi, pva⟩⟩ r.1) r.1).1.key = xk ∧ ((UndoP.apply (UndoP.of ⟨act, xk, xdata, xlo, xhi, xn⟩ ⟨pst, pk, ⟨pkd, pda, plo, phi, pva⟩⟩ r.1) r.1).1.state = 1 ↔ pst = 1) ∧ (pst ≠ 0 → (UndoP.apply (UndoP.of ⟨act, xk, xdata, xlo, xhi, xn⟩ ⟨pst, pk, ⟨pkd, pda, plo, phi, pva⟩⟩ r.1) r.1).1 = ⟨pst, pk, ⟨pkd, pda, plo, phi, pva⟩⟩)) := Lib.hid (by rintro r rfl; exact PlanP.back (x := ⟨act, xk, xdata, xlo, xhi, xn⟩) (now := ⟨pst, pk, ⟨pkd, pda, plo, phi, pva⟩⟩) h2 h3 h4)
  have HFA : Hid (∀ r, PlanP.slot ⟨act, xk, xdata, xlo, xhi, xn⟩ ⟨pst, pk, ⟨pkd, pda, plo, phi, pva⟩⟩ = r → ((In64 r.1.cell.val ∧ In64 r.1.cell.lo ∧ In64 r.1.cell.hi) ∧ r.1.cell.data.length ≤ 300) ∧ (In64 (UndoP.of ⟨act, xk, xdata, xlo, xhi, xn⟩ ⟨pst, pk, ⟨pkd, pda, plo, phi, pva⟩⟩ r.1).n ∧ (UndoP.of ⟨act, xk, xdata, xlo, xhi, xn⟩ ⟨pst, pk, ⟨pkd, pda, plo, phi, pva⟩⟩ r.1).item.cell.data.length ≤ 300) ∧ (UndoP.of ⟨act, xk, xdata, xlo, xhi, xn⟩ ⟨pst, pk, ⟨pkd, pda, plo, phi, pva⟩⟩ r.1).item.key.size ≤ maxLen ∧ (UndoP.of ⟨act, xk, xdata, xlo, xhi, xn⟩ ⟨pst, pk, ⟨pkd, pda, plo, phi, pva⟩⟩ r.1).key.size ≤ maxLen) := Lib.hid (by rintro r rfl; exact facts (x := ⟨act, xk, xdata, xlo, xhi, xn⟩) (now := ⟨pst, pk, ⟨pkd, pda, plo, phi, pva⟩⟩) h2 h3 h4 hi.2 hj.2 hxk hpk (bigI_no h0))
  have hz1 : (pst != 0) = false := by simp [h5]
  have hz3 : (pst == 0) = true := by simp [h5]
  have HZ0 := Lib.hid h5
  clear hsl h3 h4 h5
  clear hx hi hp hj h0 h1 h2
  go_enter Try.func8, Try.ntmps8
  go_wp2_with fail
  generalize hW0 : ((w).alloc (.cells #[.int .i64 act, .string xk, .slice Ax nx cx, .int .i64 xlo, .int .i64 xhi, .int .i64 xn] 24)).alloc (.cells #[.int .i64 pst, .string pk, .int .i64 pkd, .slice Ap np cp, .int .i64 plo, .int .i64 phi, .int .i64 pva] 54) = W0
  obtain ⟨HS0_0, HS1_0, HB_0, hw_0, hz0⟩ := new2 hW0
  clear hW0 hz0
  have f0_0 := str6 HS0_0.out
  have hl0_0 := HS0_0.out.lt
  have hf0_0 := fun j => HS0_0.out.frozen j
  have f1_0 := str7 HS1_0.out
  have hl1_0 := HS1_0.out.lt
  have hf1_0 := fun j => HS1_0.out.frozen j
  refine (big_any Ap np cp ⟨pst, pk, ⟨pkd, pda, plo, phi, pva⟩⟩ _ hpk HP.out.len hnpm).mono ?_
  rintro e W1 ⟨rfl, hb1⟩
  rw [H0.out]
  have HS0_1 := Lib.hid (HS0_0.out.next hb1)
  have HS1_1 := Lib.hid (HS1_0.out.next hb1)
  have HB_1 := Lib.hid (bstep HB_0.out hb1)
  have hw_1 := HB_1.out.size
  have hws_1 := (hb1).size
  clear f0_0 HS0_0 hf0_0 f1_0 HS1_0 hf1_0
  clear hb1
  have f0_1 := str6 HS0_1.out
  have hl0_1 := HS0_1.out.lt
  have hf0_1 := fun j => HS0_1.out.frozen j
  have f1_1 := str7 HS1_1.out
  have hl1_1 := HS1_1.out.lt
  have hf1_1 := fun j => HS1_1.out.frozen j
  go_wp2_with fail
  generalize hW2 : W1.alloc (.cells #[.int .i64 act, .string xk, .slice Ax nx cx, .int .i64 xlo, .int .i64 xhi, .int .i64 xn] 24) = W2
  have HSO := Lib.hid (sEq hW2 (Str.new _ _ _)).out
  have hba2 : Below W1.heap.size W1 W2 := by rw [← hW2]; exact balloc (bsame _) _
  clear hW2
  have HS0_2 := Lib.hid (HS0_1.out.next hba2)
  have HS1_2 := Lib.hid (HS1_1.out.next hba2)
  have HB_2 := Lib.hid (bstep HB_1.out hba2)
  have hw_2 := HB_2.out.size
  have hws_2 := (hba2).size
  clear f0_1 HS0_1 hf0_1 f1_1 HS1_1 hf1_1
  have f0_2 := str6 HS0_2.out
  have hl0_2 := HS0_2.out.lt
  have hf0_2 := fun j => HS0_2.out.frozen j
  have f1_2 := str7 HS1_2.out
  have hl1_2 := HS1_2.out.lt
  have hf1_2 := fun j => HS1_2.out.frozen j
  refine (much_any (some ⟨W1.heap.size, 0, none⟩) 1 1 W2.heap.size [⟨act, xk, xdata, xlo, xhi, xn⟩] _ (opOne HSO.out ((HX.out.below HB_2.out).more HB_2.out.size) (Nat.le_refl _) hxk HI.out) (Nat.le_refl _)).mono ?_
  rintro e W3 ⟨rfl, hb3⟩
  rw [H1.out]
  have HS0_3 := Lib.hid (HS0_2.out.next hb3)
  have HS1_3 := Lib.hid (HS1_2.out.next hb3)
  have HB_3 := Lib.hid (bstep HB_2.out hb3)
  have hw_3 := HB_3.out.size
  have hws_3 := (hb3).size
  clear f0_2 HS0_2 hf0_2 f1_2 HS1_2 hf1_2
  clear hb3
  have f0_3 := str6 HS0_3.out
  have hl0_3 := HS0_3.out.lt
  have hf0_3 := fun j => HS0_3.out.frozen j
  have f1_3 := str7 HS1_3.out
  have hl1_3 := HS1_3.out.lt
  have hf1_3 := fun j => HS1_3.out.frozen j
  clear HSO
  go_wp2_with fail
  refine (SlotW.right_any Ap np cp w.heap.size ⟨pst, pk, ⟨pkd, pda, plo, phi, pva⟩⟩ _ (HP.out.below HB_3.out) HB_3.out.size hpk).mono ?_
  rintro e W4 ⟨rfl, hb4⟩
  rw [H2.out]
  have HS0_4 := Lib.hid (HS0_3.out.next hb4)
  have HS1_4 := Lib.hid (HS1_3.out.next hb4)
  have HB_4 := Lib.hid (bstep HB_3.out hb4)
  have hw_4 := HB_4.out.size
  have hws_4 := (hb4).size
  clear f0_3 HS0_3 hf0_3 f1_3 HS1_3 hf1_3
  clear hb4
  have f0_4 := str6 HS0_4.out
  have hl0_4 := HS0_4.out.lt
  have hf0_4 := fun j => HS0_4.out.frozen j
  have f1_4 := str7 HS1_4.out
  have hl1_4 := HS1_4.out.lt
  have hf1_4 := fun j => HS1_4.out.frozen j
  go_wp2_with fail
  obtain ⟨r, hr⟩ : ∃ r, PlanP.slot ⟨act, xk, xdata, xlo, xhi, xn⟩ ⟨pst, pk, ⟨pkd, pda, plo, phi, pva⟩⟩ = r := ⟨_, rfl⟩
  have HRR := Lib.hid hr
  have H4 := Lib.hid (HSL.out _ hr)
  clear hr
  refine (slot_any act xk xdata xlo xhi xn Ax nx cx W4.heap.size pst pk pkd pda plo phi pva Ap np cp W4.heap.size _ ((HX.out.below HB_4.out).more HB_4.out.size) (Nat.le_refl _) hxk HI.out.2 (by omega) ((HP.out.below HB_4.out).more HB_4.out.size) (Nat.le_refl _) hpk HJ.out.2 (by omega) H2.out).mono ?_
  rintro e W5 ⟨A1, n1, c1, A2, n2, c2, rfl, hy1, hy2, hb5⟩
  have HS0_5 := Lib.hid (HS0_4.out.next hb5)
  have HS1_5 := Lib.hid (HS1_4.out.next hb5)
  have HB_5 := Lib.hid (bstep HB_4.out hb5)
  have hw_5 := HB_5.out.size
  have hws_5 := (hb5).size
  clear f0_4 HS0_4 hf0_4 f1_4 HS1_4 hf1_4
  have f0_5 := str6 HS0_5.out
  have hl0_5 := HS0_5.out.lt
  have hf0_5 := fun j => HS0_5.out.frozen j
  have f1_5 := str7 HS1_5.out
  have hl1_5 := HS1_5.out.lt
  have hf1_5 := fun j => HS1_5.out.frozen j
  rw [HRR.out] at hy1 hy2
  rw [HRR.out]
  obtain ⟨⟨rs, rk, ⟨rkd, rda, rlo, rhi, rva⟩⟩, ⟨re, ⟨rekd, reda, relo, rehi, reva⟩⟩⟩ := r
  dsimp only [itV, ansV] at *
  have HYr_5 := Lib.hid (hy1)
  clear hy1 hy2 hb5
  go_wp2_with fail
  generalize hW6 : W5.alloc (.cells #[.int .i64 rs, .string rk, .int .i64 rkd, .slice A1 n1 c1, .int .i64 rlo, .int .i64 rhi, .int .i64 rva] 54) = W6
  have HS0_6 := sEq hW6 (HS0_5.out.alloc _)
  have HS1_6 := sEq hW6 (HS1_5.out.alloc _)
  have HS2_6 := sEq hW6 (Str.new _ _ _)
  have hba6 : Below W5.heap.size W5 W6 := by rw [← hW6]; exact balloc (bsame _) _
  have HB_6 := Lib.hid (bstep HB_5.out hba6)
  have hw_6 := HB_6.out.size
  have hws_6 := hba6.size
  have HYr_6 := Lib.hid (HYr_5.out.next hba6)
  clear HYr_5
  have hz6 : W6.heap.size = W5.heap.size + 1 := by rw [← hW6]; simp
  clear hW6
  clear f0_5 HS0_5 hf0_5 f1_5 HS1_5 hf1_5
  have f0_6 := str6 HS0_6.out
  have hl0_6 := HS0_6.out.lt
  have hf0_6 := fun j => HS0_6.out.frozen j
  have f1_6 := str7 HS1_6.out
  have hl1_6 := HS1_6.out.lt
  have hf1_6 := fun j => HS1_6.out.frozen j
  have f2_6 := str7 HS2_6.out
  have hl2_6 := HS2_6.out.lt
  generalize hW7 : W6.alloc (.cells #[.int .i64 re, .int .i64 rekd, .slice A2 n2 c2, .int .i64 relo, .int .i64 rehi, .int .i64 reva] 39) = W7
  have HS0_7 := sEq hW7 (HS0_6.out.alloc _)
  have HS1_7 := sEq hW7 (HS1_6.out.alloc _)
  have HS2_7 := sEq hW7 (HS2_6.out.alloc _)
  have HS3_7 := sEq hW7 (Str.new _ _ _)
  have hba7 : Below W6.heap.size W6 W7 := by rw [← hW7]; exact balloc (bsame _) _
  have HB_7 := Lib.hid (bstep HB_6.out hba7)
  have hw_7 := HB_7.out.size
  have hws_7 := hba7.size
  have HYr_7 := Lib.hid (HYr_6.out.next hba7)
  clear HYr_6
  clear hW7
  clear f0_6 HS0_6 hf0_6 f1_6 HS1_6 hf1_6 f2_6 HS2_6
  have f0_7 := str6 HS0_7.out
  have hl0_7 := HS0_7.out.lt
  have hf0_7 := fun j => HS0_7.out.frozen j
  have f1_7 := str7 HS1_7.out
  have hl1_7 := HS1_7.out.lt
  have hf1_7 := fun j => HS1_7.out.frozen j
  have f2_7 := str7 HS2_7.out
  have hl2_7 := HS2_7.out.lt
  have f3_7 := str6 HS3_7.out
  have hl3_7 := HS3_7.out.lt
  rw [hz6] at HS3_7 hl3_7 f3_7
  refine (writes_any act xk Ax nx cx xlo xhi xn re rekd A2 n2 c2 relo rehi reva _).mono ?_
  rintro e W8 ⟨rfl, hb8⟩
  rw [H4.out]
  have HS0_8 := Lib.hid (HS0_7.out.next hb8)
  have HS1_8 := Lib.hid (HS1_7.out.next hb8)
  have HS2_8 := Lib.hid (HS2_7.out.next hb8)
  have HS3_8 := Lib.hid (HS3_7.out.next hb8)
  have HB_8 := Lib.hid (bstep HB_7.out hb8)
  have hw_8 := HB_8.out.size
  have hws_8 := (hb8).size
  have HYr_8 := Lib.hid (HYr_7.out.next hb8)
  clear HYr_7
  clear f0_7 HS0_7 hf0_7 f1_7 HS1_7 hf1_7 f2_7 HS2_7 f3_7 HS3_7
  clear hb8
  have f0_8 := str6 HS0_8.out
  have hl0_8 := HS0_8.out.lt
  have hf0_8 := fun j => HS0_8.out.frozen j
  have f1_8 := str7 HS1_8.out
  have hl1_8 := HS1_8.out.lt
  have hf1_8 := fun j => HS1_8.out.frozen j
  have f2_8 := str7 HS2_8.out
  have hl2_8 := HS2_8.out.lt
  have f3_8 := str6 HS3_8.out
  have hl3_8 := HS3_8.out.lt
  go_wp2_with fail
  obtain ⟨u, hu⟩ : ∃ u, UndoP.of ⟨act, xk, xdata, xlo, xhi, xn⟩ ⟨pst, pk, ⟨pkd, pda, plo, phi, pva⟩⟩ ⟨rs, rk, ⟨rkd, rda, rlo, rhi, rva⟩⟩ = u := ⟨_, rfl⟩
  obtain ⟨hq1, hq2, hq3, hq4, hq5⟩ := HBK.out _ HRR.out
  obtain ⟨hf1, hf2, hf3⟩ := HFA.out _ HRR.out
  dsimp only at hq1 hq2 hq3 hq4 hq5 hf1 hf2 hf3
  rw [hu] at hq1 hq2 hq3 hq4 hq5 hf2 hf3
  have HRV := Lib.hid hf1
  obtain ⟨ap, hap⟩ : ∃ a, UndoP.apply u ⟨rs, rk, ⟨rkd, rda, rlo, rhi, rva⟩⟩ = a := ⟨_, rfl⟩
  rw [hap] at hq1 hq3 hq4 hq5
  have HU := Lib.hid hu
  have HAP := Lib.hid hap
  have HQ2 := Lib.hid hq2
  have HUN := Lib.hid hf2
  have HSZ := Lib.hid hf3
  have HQ1 := Lib.hid hq1
  have HQ3 := Lib.hid hq3
  have HQ4 := Lib.hid hq4
  have HQ5 := Lib.hid hq5
  clear hu hap hq1 hq2 hq3 hq4 hq5 hf1 hf2 hf3
  refine (UndoW.of_any Ax nx cx act xk xdata xlo xhi xn Ap np cp W8.heap.size pst pk pkd pda plo phi pva A1 n1 c1 W8.heap.size rs rk rkd rda rlo rhi rva _ ((HP.out.below HB_8.out).more HB_8.out.size) (Nat.le_refl _) (by omega) HYr_8.out (Nat.le_refl _) (by have h1 := HYr_8.out.len; have h2 := HRV.out.2; omega)).mono ?_
  rintro e W9 ⟨Au, nu, cu, rfl, hyu, hb9⟩
  have HS0_9 := Lib.hid (HS0_8.out.next hb9)
  have HS1_9 := Lib.hid (HS1_8.out.next hb9)
  have HS2_9 := Lib.hid (HS2_8.out.next hb9)
  have HS3_9 := Lib.hid (HS3_8.out.next hb9)
  have HB_9 := Lib.hid (bstep HB_8.out hb9)
  have hw_9 := HB_9.out.size
  have hws_9 := (hb9).size
  have HYr_9 := Lib.hid (HYr_8.out.next hb9)
  clear HYr_8
  clear f0_8 HS0_8 hf0_8 f1_8 HS1_8 hf1_8 f2_8 HS2_8 f3_8 HS3_8
  have f0_9 := str6 HS0_9.out
  have hl0_9 := HS0_9.out.lt
  have hf0_9 := fun j => HS0_9.out.frozen j
  have f1_9 := str7 HS1_9.out
  have hl1_9 := HS1_9.out.lt
  have hf1_9 := fun j => HS1_9.out.frozen j
  have f2_9 := str7 HS2_9.out
  have hl2_9 := HS2_9.out.lt
  have f3_9 := str6 HS3_9.out
  have hl3_9 := HS3_9.out.lt
  rw [HU.out] at hyu
  rw [HU.out]
  obtain ⟨ua, uk, ⟨us, uik, ⟨ukd, uda, ulo, uhi, uva⟩⟩, un⟩ := u
  dsimp only at *
  have HYu_9 := Lib.hid (hyu)
  clear hyu hb9
  go_wp2_with fail
  generalize hW10 : W9.alloc (.cells #[.int .i64 ua, .string uk, .int .i64 us, .string uik, .int .i64 ukd, .slice Au nu cu, .int .i64 ulo, .int .i64 uhi, .int .i64 uva, .int .i64 un] 62) = W10
  have HS0_10 := sEq hW10 (HS0_9.out.alloc _)
  have HS1_10 := sEq hW10 (HS1_9.out.alloc _)
  have HS2_10 := sEq hW10 (HS2_9.out.alloc _)
  have HS3_10 := sEq hW10 (HS3_9.out.alloc _)
  have HS4_10 := sEq hW10 (Str.new _ _ _)
  have hba10 : Below W9.heap.size W9 W10 := by rw [← hW10]; exact balloc (bsame _) _
  have HB_10 := Lib.hid (bstep HB_9.out hba10)
  have hw_10 := HB_10.out.size
  have hws_10 := hba10.size
  have HYr_10 := Lib.hid (HYr_9.out.next hba10)
  have HYu_10 := Lib.hid (HYu_9.out.next hba10)
  clear HYr_9 HYu_9
  clear hW10
  clear f0_9 HS0_9 hf0_9 f1_9 HS1_9 hf1_9 f2_9 HS2_9 f3_9 HS3_9
  have f0_10 := str6 HS0_10.out
  have hl0_10 := HS0_10.out.lt
  have hf0_10 := fun j => HS0_10.out.frozen j
  have f1_10 := str7 HS1_10.out
  have hl1_10 := HS1_10.out.lt
  have hf1_10 := fun j => HS1_10.out.frozen j
  have f2_10 := str7 HS2_10.out
  have hl2_10 := HS2_10.out.lt
  have f3_10 := str6 HS3_10.out
  have hl3_10 := HS3_10.out.lt
  have f4_10 := str10 HS4_10.out
  have hl4_10 := HS4_10.out.lt
  refine (UndoW.apply_any ua uk un Au nu cu W10.heap.size us uik ukd uda ulo uhi uva A1 n1 c1 W10.heap.size rs rk rkd rda rlo rhi rva _ HYu_10.out (Nat.le_refl _) (by have h1 := HYu_10.out.len; have h2 := HUN.out.2; omega) HYr_10.out (Nat.le_refl _) (by have h1 := HYr_10.out.len; have h2 := HRV.out.2; omega) HUN.out.1 HRV.out.1.1 HRV.out.1.2.1 HRV.out.1.2.2).mono ?_
  rintro e W11 ⟨Ab, nb, cb, rfl, hyb, hb11⟩
  have HS0_11 := Lib.hid (HS0_10.out.next hb11)
  have HS1_11 := Lib.hid (HS1_10.out.next hb11)
  have HS2_11 := Lib.hid (HS2_10.out.next hb11)
  have HS3_11 := Lib.hid (HS3_10.out.next hb11)
  have HS4_11 := Lib.hid (HS4_10.out.next hb11)
  have HB_11 := Lib.hid (bstep HB_10.out hb11)
  have hw_11 := HB_11.out.size
  have hws_11 := (hb11).size
  have HYr_11 := Lib.hid (HYr_10.out.next hb11)
  have HYu_11 := Lib.hid (HYu_10.out.next hb11)
  clear HYr_10 HYu_10
  clear f0_10 HS0_10 hf0_10 f1_10 HS1_10 hf1_10 f2_10 HS2_10 f3_10 HS3_10 f4_10 HS4_10
  have f0_11 := str6 HS0_11.out
  have hl0_11 := HS0_11.out.lt
  have hf0_11 := fun j => HS0_11.out.frozen j
  have f1_11 := str7 HS1_11.out
  have hl1_11 := HS1_11.out.lt
  have hf1_11 := fun j => HS1_11.out.frozen j
  have f2_11 := str7 HS2_11.out
  have hl2_11 := HS2_11.out.lt
  have f3_11 := str6 HS3_11.out
  have hl3_11 := HS3_11.out.lt
  have f4_11 := str10 HS4_11.out
  have hl4_11 := HS4_11.out.lt
  rw [HAP.out] at hyb
  rw [HAP.out]
  obtain ⟨⟨bs, bk, ⟨bkd, bda, blo, bhi, bva⟩⟩, be⟩ := ap
  dsimp only at hyb
  obtain rfl : be = 0 := HQ1.out
  obtain rfl : bk = xk := HQ3.out
  have HYb_11 := Lib.hid (hyb)
  clear hyb hb11 HQ1 HQ3
  go_wp2_with fail
  generalize hW12 : W11.alloc (.cells #[.int .i64 bs, .string bk, .int .i64 bkd, .slice Ab nb cb, .int .i64 blo, .int .i64 bhi, .int .i64 bva] 54) = W12
  have HS0_12 := sEq hW12 (HS0_11.out.alloc _)
  have HS1_12 := sEq hW12 (HS1_11.out.alloc _)
  have HS2_12 := sEq hW12 (HS2_11.out.alloc _)
  have HS3_12 := sEq hW12 (HS3_11.out.alloc _)
  have HS4_12 := sEq hW12 (HS4_11.out.alloc _)
  have HS5_12 := sEq hW12 (Str.new _ _ _)
  have hba12 : Below W11.heap.size W11 W12 := by rw [← hW12]; exact balloc (bsame _) _
  have HB_12 := Lib.hid (bstep HB_11.out hba12)
  have hw_12 := HB_12.out.size
  have hws_12 := hba12.size
  have HYr_12 := Lib.hid (HYr_11.out.next hba12)
  have HYu_12 := Lib.hid (HYu_11.out.next hba12)
  have HYb_12 := Lib.hid (HYb_11.out.next hba12)
  clear HYr_11 HYu_11 HYb_11
  clear hW12
  clear f0_11 HS0_11 hf0_11 f1_11 HS1_11 hf1_11 f2_11 HS2_11 f3_11 HS3_11 f4_11 HS4_11
  have f0_12 := str6 HS0_12.out
  have hl0_12 := HS0_12.out.lt
  have hf0_12 := fun j => HS0_12.out.frozen j
  have f1_12 := str7 HS1_12.out
  have hl1_12 := HS1_12.out.lt
  have hf1_12 := fun j => HS1_12.out.frozen j
  have f2_12 := str7 HS2_12.out
  have hl2_12 := HS2_12.out.lt
  have f3_12 := str6 HS3_12.out
  have hl3_12 := HS3_12.out.lt
  have f4_12 := str10 HS4_12.out
  have hl4_12 := HS4_12.out.lt
  have f5_12 := str7 HS5_12.out
  have hl5_12 := HS5_12.out.lt
  refine (PlanW.code_any 0 _).mono ?_
  rintro e W12_ ⟨rfl, rfl⟩
  go_wp2_with fail
  refine (UndoW.right_any ua uk Au nu cu W12.heap.size us uik ukd uda ulo uhi uva un _ HYu_12.out (Nat.le_refl _) HSZ.out.1 HSZ.out.2).mono ?_
  rintro e W13 ⟨rfl, hb13⟩
  rw [HQ2.out]
  have HS0_13 := Lib.hid (HS0_12.out.next hb13)
  have HS1_13 := Lib.hid (HS1_12.out.next hb13)
  have HS2_13 := Lib.hid (HS2_12.out.next hb13)
  have HS3_13 := Lib.hid (HS3_12.out.next hb13)
  have HS4_13 := Lib.hid (HS4_12.out.next hb13)
  have HS5_13 := Lib.hid (HS5_12.out.next hb13)
  have HB_13 := Lib.hid (bstep HB_12.out hb13)
  have hw_13 := HB_13.out.size
  have hws_13 := (hb13).size
  have HYr_13 := Lib.hid (HYr_12.out.next hb13)
  have HYu_13 := Lib.hid (HYu_12.out.next hb13)
  have HYb_13 := Lib.hid (HYb_12.out.next hb13)
  clear HYr_12 HYu_12 HYb_12
  clear f0_12 HS0_12 hf0_12 f1_12 HS1_12 hf1_12 f2_12 HS2_12 f3_12 HS3_12 f4_12 HS4_12 f5_12 HS5_12
  clear hb13
  have f0_13 := str6 HS0_13.out
  have hl0_13 := HS0_13.out.lt
  have hf0_13 := fun j => HS0_13.out.frozen j
  have f1_13 := str7 HS1_13.out
  have hl1_13 := HS1_13.out.lt
  have hf1_13 := fun j => HS1_13.out.frozen j
  have f2_13 := str7 HS2_13.out
  have hl2_13 := HS2_13.out.lt
  have f3_13 := str6 HS3_13.out
  have hl3_13 := HS3_13.out.lt
  have f4_13 := str10 HS4_13.out
  have hl4_13 := HS4_13.out.lt
  have f5_13 := str7 HS5_13.out
  have hl5_13 := HS5_13.out.lt
  have HQ4b : Hid ((bs = 1) ↔ (pst = 1)) := HQ4
  have hs1 : (pst == 1) = false := by rw [HZ0.out]; rfl
  have hs2 : (bs == 1) = false := by have h2 := HQ4b.out; have h1 := HZ0.out; simp; omega
  go_wp2_with fail
  refine (PlanW.live_any _).mono ?_
  rintro e W14 ⟨rfl, hb14⟩
  have HS0_14 := Lib.hid (HS0_13.out.next hb14)
  have HS1_14 := Lib.hid (HS1_13.out.next hb14)
  have HS2_14 := Lib.hid (HS2_13.out.next hb14)
  have HS3_14 := Lib.hid (HS3_13.out.next hb14)
  have HS4_14 := Lib.hid (HS4_13.out.next hb14)
  have HS5_14 := Lib.hid (HS5_13.out.next hb14)
  have HB_14 := Lib.hid (bstep HB_13.out hb14)
  have hw_14 := HB_14.out.size
  have hws_14 := (hb14).size
  have HYr_14 := Lib.hid (HYr_13.out.next hb14)
  have HYu_14 := Lib.hid (HYu_13.out.next hb14)
  have HYb_14 := Lib.hid (HYb_13.out.next hb14)
  clear HYr_13 HYu_13 HYb_13
  clear f0_13 HS0_13 hf0_13 f1_13 HS1_13 hf1_13 f2_13 HS2_13 f3_13 HS3_13 f4_13 HS4_13 f5_13 HS5_13
  clear hb14
  have f0_14 := str6 HS0_14.out
  have hl0_14 := HS0_14.out.lt
  have hf0_14 := fun j => HS0_14.out.frozen j
  have f1_14 := str7 HS1_14.out
  have hl1_14 := HS1_14.out.lt
  have hf1_14 := fun j => HS1_14.out.frozen j
  have f2_14 := str7 HS2_14.out
  have hl2_14 := HS2_14.out.lt
  have f3_14 := str6 HS3_14.out
  have hl3_14 := HS3_14.out.lt
  have f4_14 := str10 HS4_14.out
  have hl4_14 := HS4_14.out.lt
  have f5_14 := str7 HS5_14.out
  have hl5_14 := HS5_14.out.lt
  go_wp2_with fail
  go_ret
  exact ⟨rfl, HB_14.out⟩
set_option maxRecDepth 100000 in
set_option maxHeartbeats 4000000 in
theorem way_full (act : Int) (xk : ByteArray) (xdata : List UInt8) (xlo xhi xn : Int) (Ax : Option Addr) (nx cx : Nat) (pst : Int) (pk : ByteArray) (pkd : Int) (pda : List UInt8) (plo phi pva : Int) (Ap : Option Addr) (np cp : Nat) (w : World) (hx : Bytes w w.heap.size Ax nx cx xdata) (hxk : xk.size ≤ maxLen) (hi : In64 act ∧ In64 xlo ∧ In64 xhi ∧ In64 xn) (hp : Bytes w w.heap.size Ap np cp pda) (hpk : pk.size ≤ maxLen) (hj : In64 pst ∧ In64 pkd ∧ In64 plo ∧ In64 phi ∧ In64 pva) (h0 : bigI ⟨pst, pk, ⟨pkd, pda, plo, phi, pva⟩⟩ = false) (h1 : ModelP.muchL [⟨act, xk, xdata, xlo, xhi, xn⟩] = false) (h2 : SlotP.right ⟨pst, pk, ⟨pkd, pda, plo, phi, pva⟩⟩ = true) (h3 : pst ≠ 0 → pk = xk) (h4 : PlanP.writes ⟨act, xk, xdata, xlo, xhi, xn⟩ (PlanP.slot ⟨act, xk, xdata, xlo, xhi, xn⟩ ⟨pst, pk, ⟨pkd, pda, plo, phi, pva⟩⟩).2 = true) (h5 : ¬ pst = 0) :
    Calls Try.prog 8 #[.agg #[.int .i64 act, .string xk, .slice Ax nx cx, .int .i64 xlo, .int .i64 xhi, .int .i64 xn], .agg #[.int .i64 pst, .string pk, .int .i64 pkd, .slice Ap np cp, .int .i64 plo, .int .i64 phi, .int .i64 pva]] w fun e w' => e = .returned (.bool true) ∧ Below w.heap.size w w' := by
  have H0 := Lib.hid h0
  have H1 := Lib.hid h1
  have H2 := Lib.hid h2
  have HX := Lib.hid hx
  have HP := Lib.hid hp
  have HI := Lib.hid hi
  have HJ := Lib.hid hj
  have hnpm : np ≤ maxLen := Nat.le_trans hp.2.1 hp.2.2.1
  have hnp : np ≤ 300 := by rw [← hp.len]; exact bigI_no h0
  have hnx : nx ≤ 300 := by rw [← hx.len]; exact muchL_one h1
  have hsl : ∀ r, PlanP.slot ⟨act, xk, xdata, xlo, xhi, xn⟩ ⟨pst, pk, ⟨pkd, pda, plo, phi, pva⟩⟩ = r → (act != 0 && r.2.err == 0) = true := by rintro r rfl; exact h4
  have HSL := Lib.hid hsl
  have HBK : Hid (∀ r, PlanP.slot ⟨act, xk, xdata, xlo, xhi, xn⟩ ⟨pst, pk, ⟨pkd, pda, plo, phi, pva⟩⟩ = r → (UndoP.apply (UndoP.of ⟨act, xk, xdata, xlo, xhi, xn⟩ ⟨pst, pk, ⟨pkd, pda, plo, phi, pva⟩⟩ r.1) r.1).2 = 0 ∧ UndoP.right (UndoP.of ⟨act, xk, xdata, xlo, xhi, xn⟩ ⟨pst, pk, ⟨pkd, pda, plo, phi, pva⟩⟩ r.1) = true ∧ (UndoP.apply (UndoP.of ⟨act, xk, xdata, xlo, xhi, xn⟩ ⟨pst, pk, ⟨pkd, pda, plo, phi, pva⟩⟩ r.1) r.1).1.key = xk ∧ ((UndoP.apply (UndoP.of ⟨act, xk, xdata, xlo, xhi, xn⟩ ⟨pst, pk, ⟨pkd, pda, plo, phi, pva⟩⟩ r.1) r.1).1.state = 1 ↔ pst = 1) ∧ (pst ≠ 0 → (UndoP.apply (UndoP.of ⟨act, xk, xdata, xlo, xhi, xn⟩ ⟨pst, pk, ⟨pkd, pda, plo, phi, pva⟩⟩ r.1) r.1).1 = ⟨pst, pk, ⟨pkd, pda, plo, phi, pva⟩⟩)) := Lib.hid (by rintro r rfl; exact PlanP.back (x := ⟨act, xk, xdata, xlo, xhi, xn⟩) (now := ⟨pst, pk, ⟨pkd, pda, plo, phi, pva⟩⟩) h2 h3 h4)
  have HFA : Hid (∀ r, PlanP.slot ⟨act, xk, xdata, xlo, xhi, xn⟩ ⟨pst, pk, ⟨pkd, pda, plo, phi, pva⟩⟩ = r → ((In64 r.1.cell.val ∧ In64 r.1.cell.lo ∧ In64 r.1.cell.hi) ∧ r.1.cell.data.length ≤ 300) ∧ (In64 (UndoP.of ⟨act, xk, xdata, xlo, xhi, xn⟩ ⟨pst, pk, ⟨pkd, pda, plo, phi, pva⟩⟩ r.1).n ∧ (UndoP.of ⟨act, xk, xdata, xlo, xhi, xn⟩ ⟨pst, pk, ⟨pkd, pda, plo, phi, pva⟩⟩ r.1).item.cell.data.length ≤ 300) ∧ (UndoP.of ⟨act, xk, xdata, xlo, xhi, xn⟩ ⟨pst, pk, ⟨pkd, pda, plo, phi, pva⟩⟩ r.1).item.key.size ≤ maxLen ∧ (UndoP.of ⟨act, xk, xdata, xlo, xhi, xn⟩ ⟨pst, pk, ⟨pkd, pda, plo, phi, pva⟩⟩ r.1).key.size ≤ maxLen) := Lib.hid (by rintro r rfl; exact facts (x := ⟨act, xk, xdata, xlo, xhi, xn⟩) (now := ⟨pst, pk, ⟨pkd, pda, plo, phi, pva⟩⟩) h2 h3 h4 hi.2 hj.2 hxk hpk (bigI_no h0))
  have hz1 : (pst != 0) = true := by simpa using h5
  have hz2 : (pk.toList == xk.toList) = true := by rw [h3 h5]; exact beq_self_eq_true _
  have hz3 : (pst == 0) = false := by simpa using h5
  have HN0 := Lib.hid h5
  clear hsl h3 h4 h5
  clear hx hi hp hj h0 h1 h2
  go_enter Try.func8, Try.ntmps8
  go_wp2_with fail
  generalize hW0 : ((w).alloc (.cells #[.int .i64 act, .string xk, .slice Ax nx cx, .int .i64 xlo, .int .i64 xhi, .int .i64 xn] 24)).alloc (.cells #[.int .i64 pst, .string pk, .int .i64 pkd, .slice Ap np cp, .int .i64 plo, .int .i64 phi, .int .i64 pva] 54) = W0
  obtain ⟨HS0_0, HS1_0, HB_0, hw_0, hz0⟩ := new2 hW0
  clear hW0 hz0
  have f0_0 := str6 HS0_0.out
  have hl0_0 := HS0_0.out.lt
  have hf0_0 := fun j => HS0_0.out.frozen j
  have f1_0 := str7 HS1_0.out
  have hl1_0 := HS1_0.out.lt
  have hf1_0 := fun j => HS1_0.out.frozen j
  refine (big_any Ap np cp ⟨pst, pk, ⟨pkd, pda, plo, phi, pva⟩⟩ _ hpk HP.out.len hnpm).mono ?_
  rintro e W1 ⟨rfl, hb1⟩
  rw [H0.out]
  have HS0_1 := Lib.hid (HS0_0.out.next hb1)
  have HS1_1 := Lib.hid (HS1_0.out.next hb1)
  have HB_1 := Lib.hid (bstep HB_0.out hb1)
  have hw_1 := HB_1.out.size
  have hws_1 := (hb1).size
  clear f0_0 HS0_0 hf0_0 f1_0 HS1_0 hf1_0
  clear hb1
  have f0_1 := str6 HS0_1.out
  have hl0_1 := HS0_1.out.lt
  have hf0_1 := fun j => HS0_1.out.frozen j
  have f1_1 := str7 HS1_1.out
  have hl1_1 := HS1_1.out.lt
  have hf1_1 := fun j => HS1_1.out.frozen j
  go_wp2_with fail
  generalize hW2 : W1.alloc (.cells #[.int .i64 act, .string xk, .slice Ax nx cx, .int .i64 xlo, .int .i64 xhi, .int .i64 xn] 24) = W2
  have HSO := Lib.hid (sEq hW2 (Str.new _ _ _)).out
  have hba2 : Below W1.heap.size W1 W2 := by rw [← hW2]; exact balloc (bsame _) _
  clear hW2
  have HS0_2 := Lib.hid (HS0_1.out.next hba2)
  have HS1_2 := Lib.hid (HS1_1.out.next hba2)
  have HB_2 := Lib.hid (bstep HB_1.out hba2)
  have hw_2 := HB_2.out.size
  have hws_2 := (hba2).size
  clear f0_1 HS0_1 hf0_1 f1_1 HS1_1 hf1_1
  have f0_2 := str6 HS0_2.out
  have hl0_2 := HS0_2.out.lt
  have hf0_2 := fun j => HS0_2.out.frozen j
  have f1_2 := str7 HS1_2.out
  have hl1_2 := HS1_2.out.lt
  have hf1_2 := fun j => HS1_2.out.frozen j
  refine (much_any (some ⟨W1.heap.size, 0, none⟩) 1 1 W2.heap.size [⟨act, xk, xdata, xlo, xhi, xn⟩] _ (opOne HSO.out ((HX.out.below HB_2.out).more HB_2.out.size) (Nat.le_refl _) hxk HI.out) (Nat.le_refl _)).mono ?_
  rintro e W3 ⟨rfl, hb3⟩
  rw [H1.out]
  have HS0_3 := Lib.hid (HS0_2.out.next hb3)
  have HS1_3 := Lib.hid (HS1_2.out.next hb3)
  have HB_3 := Lib.hid (bstep HB_2.out hb3)
  have hw_3 := HB_3.out.size
  have hws_3 := (hb3).size
  clear f0_2 HS0_2 hf0_2 f1_2 HS1_2 hf1_2
  clear hb3
  have f0_3 := str6 HS0_3.out
  have hl0_3 := HS0_3.out.lt
  have hf0_3 := fun j => HS0_3.out.frozen j
  have f1_3 := str7 HS1_3.out
  have hl1_3 := HS1_3.out.lt
  have hf1_3 := fun j => HS1_3.out.frozen j
  clear HSO
  go_wp2_with fail
  refine (SlotW.right_any Ap np cp w.heap.size ⟨pst, pk, ⟨pkd, pda, plo, phi, pva⟩⟩ _ (HP.out.below HB_3.out) HB_3.out.size hpk).mono ?_
  rintro e W4 ⟨rfl, hb4⟩
  rw [H2.out]
  have HS0_4 := Lib.hid (HS0_3.out.next hb4)
  have HS1_4 := Lib.hid (HS1_3.out.next hb4)
  have HB_4 := Lib.hid (bstep HB_3.out hb4)
  have hw_4 := HB_4.out.size
  have hws_4 := (hb4).size
  clear f0_3 HS0_3 hf0_3 f1_3 HS1_3 hf1_3
  clear hb4
  have f0_4 := str6 HS0_4.out
  have hl0_4 := HS0_4.out.lt
  have hf0_4 := fun j => HS0_4.out.frozen j
  have f1_4 := str7 HS1_4.out
  have hl1_4 := HS1_4.out.lt
  have hf1_4 := fun j => HS1_4.out.frozen j
  go_wp2_with fail
  obtain ⟨r, hr⟩ : ∃ r, PlanP.slot ⟨act, xk, xdata, xlo, xhi, xn⟩ ⟨pst, pk, ⟨pkd, pda, plo, phi, pva⟩⟩ = r := ⟨_, rfl⟩
  have HRR := Lib.hid hr
  have H4 := Lib.hid (HSL.out _ hr)
  clear hr
  refine (slot_any act xk xdata xlo xhi xn Ax nx cx W4.heap.size pst pk pkd pda plo phi pva Ap np cp W4.heap.size _ ((HX.out.below HB_4.out).more HB_4.out.size) (Nat.le_refl _) hxk HI.out.2 (by omega) ((HP.out.below HB_4.out).more HB_4.out.size) (Nat.le_refl _) hpk HJ.out.2 (by omega) H2.out).mono ?_
  rintro e W5 ⟨A1, n1, c1, A2, n2, c2, rfl, hy1, hy2, hb5⟩
  have HS0_5 := Lib.hid (HS0_4.out.next hb5)
  have HS1_5 := Lib.hid (HS1_4.out.next hb5)
  have HB_5 := Lib.hid (bstep HB_4.out hb5)
  have hw_5 := HB_5.out.size
  have hws_5 := (hb5).size
  clear f0_4 HS0_4 hf0_4 f1_4 HS1_4 hf1_4
  have f0_5 := str6 HS0_5.out
  have hl0_5 := HS0_5.out.lt
  have hf0_5 := fun j => HS0_5.out.frozen j
  have f1_5 := str7 HS1_5.out
  have hl1_5 := HS1_5.out.lt
  have hf1_5 := fun j => HS1_5.out.frozen j
  rw [HRR.out] at hy1 hy2
  rw [HRR.out]
  obtain ⟨⟨rs, rk, ⟨rkd, rda, rlo, rhi, rva⟩⟩, ⟨re, ⟨rekd, reda, relo, rehi, reva⟩⟩⟩ := r
  dsimp only [itV, ansV] at *
  have HYr_5 := Lib.hid (hy1)
  clear hy1 hy2 hb5
  go_wp2_with fail
  generalize hW6 : W5.alloc (.cells #[.int .i64 rs, .string rk, .int .i64 rkd, .slice A1 n1 c1, .int .i64 rlo, .int .i64 rhi, .int .i64 rva] 54) = W6
  have HS0_6 := sEq hW6 (HS0_5.out.alloc _)
  have HS1_6 := sEq hW6 (HS1_5.out.alloc _)
  have HS2_6 := sEq hW6 (Str.new _ _ _)
  have hba6 : Below W5.heap.size W5 W6 := by rw [← hW6]; exact balloc (bsame _) _
  have HB_6 := Lib.hid (bstep HB_5.out hba6)
  have hw_6 := HB_6.out.size
  have hws_6 := hba6.size
  have HYr_6 := Lib.hid (HYr_5.out.next hba6)
  clear HYr_5
  have hz6 : W6.heap.size = W5.heap.size + 1 := by rw [← hW6]; simp
  clear hW6
  clear f0_5 HS0_5 hf0_5 f1_5 HS1_5 hf1_5
  have f0_6 := str6 HS0_6.out
  have hl0_6 := HS0_6.out.lt
  have hf0_6 := fun j => HS0_6.out.frozen j
  have f1_6 := str7 HS1_6.out
  have hl1_6 := HS1_6.out.lt
  have hf1_6 := fun j => HS1_6.out.frozen j
  have f2_6 := str7 HS2_6.out
  have hl2_6 := HS2_6.out.lt
  generalize hW7 : W6.alloc (.cells #[.int .i64 re, .int .i64 rekd, .slice A2 n2 c2, .int .i64 relo, .int .i64 rehi, .int .i64 reva] 39) = W7
  have HS0_7 := sEq hW7 (HS0_6.out.alloc _)
  have HS1_7 := sEq hW7 (HS1_6.out.alloc _)
  have HS2_7 := sEq hW7 (HS2_6.out.alloc _)
  have HS3_7 := sEq hW7 (Str.new _ _ _)
  have hba7 : Below W6.heap.size W6 W7 := by rw [← hW7]; exact balloc (bsame _) _
  have HB_7 := Lib.hid (bstep HB_6.out hba7)
  have hw_7 := HB_7.out.size
  have hws_7 := hba7.size
  have HYr_7 := Lib.hid (HYr_6.out.next hba7)
  clear HYr_6
  clear hW7
  clear f0_6 HS0_6 hf0_6 f1_6 HS1_6 hf1_6 f2_6 HS2_6
  have f0_7 := str6 HS0_7.out
  have hl0_7 := HS0_7.out.lt
  have hf0_7 := fun j => HS0_7.out.frozen j
  have f1_7 := str7 HS1_7.out
  have hl1_7 := HS1_7.out.lt
  have hf1_7 := fun j => HS1_7.out.frozen j
  have f2_7 := str7 HS2_7.out
  have hl2_7 := HS2_7.out.lt
  have f3_7 := str6 HS3_7.out
  have hl3_7 := HS3_7.out.lt
  rw [hz6] at HS3_7 hl3_7 f3_7
  refine (writes_any act xk Ax nx cx xlo xhi xn re rekd A2 n2 c2 relo rehi reva _).mono ?_
  rintro e W8 ⟨rfl, hb8⟩
  rw [H4.out]
  have HS0_8 := Lib.hid (HS0_7.out.next hb8)
  have HS1_8 := Lib.hid (HS1_7.out.next hb8)
  have HS2_8 := Lib.hid (HS2_7.out.next hb8)
  have HS3_8 := Lib.hid (HS3_7.out.next hb8)
  have HB_8 := Lib.hid (bstep HB_7.out hb8)
  have hw_8 := HB_8.out.size
  have hws_8 := (hb8).size
  have HYr_8 := Lib.hid (HYr_7.out.next hb8)
  clear HYr_7
  clear f0_7 HS0_7 hf0_7 f1_7 HS1_7 hf1_7 f2_7 HS2_7 f3_7 HS3_7
  clear hb8
  have f0_8 := str6 HS0_8.out
  have hl0_8 := HS0_8.out.lt
  have hf0_8 := fun j => HS0_8.out.frozen j
  have f1_8 := str7 HS1_8.out
  have hl1_8 := HS1_8.out.lt
  have hf1_8 := fun j => HS1_8.out.frozen j
  have f2_8 := str7 HS2_8.out
  have hl2_8 := HS2_8.out.lt
  have f3_8 := str6 HS3_8.out
  have hl3_8 := HS3_8.out.lt
  go_wp2_with fail
  obtain ⟨u, hu⟩ : ∃ u, UndoP.of ⟨act, xk, xdata, xlo, xhi, xn⟩ ⟨pst, pk, ⟨pkd, pda, plo, phi, pva⟩⟩ ⟨rs, rk, ⟨rkd, rda, rlo, rhi, rva⟩⟩ = u := ⟨_, rfl⟩
  obtain ⟨hq1, hq2, hq3, hq4, hq5⟩ := HBK.out _ HRR.out
  obtain ⟨hf1, hf2, hf3⟩ := HFA.out _ HRR.out
  dsimp only at hq1 hq2 hq3 hq4 hq5 hf1 hf2 hf3
  rw [hu] at hq1 hq2 hq3 hq4 hq5 hf2 hf3
  have HRV := Lib.hid hf1
  obtain ⟨ap, hap⟩ : ∃ a, UndoP.apply u ⟨rs, rk, ⟨rkd, rda, rlo, rhi, rva⟩⟩ = a := ⟨_, rfl⟩
  rw [hap] at hq1 hq3 hq4 hq5
  have HU := Lib.hid hu
  have HAP := Lib.hid hap
  have HQ2 := Lib.hid hq2
  have HUN := Lib.hid hf2
  have HSZ := Lib.hid hf3
  have HQ1 := Lib.hid hq1
  have HQ3 := Lib.hid hq3
  have HQ4 := Lib.hid hq4
  have HQ5 := Lib.hid hq5
  clear hu hap hq1 hq2 hq3 hq4 hq5 hf1 hf2 hf3
  refine (UndoW.of_any Ax nx cx act xk xdata xlo xhi xn Ap np cp W8.heap.size pst pk pkd pda plo phi pva A1 n1 c1 W8.heap.size rs rk rkd rda rlo rhi rva _ ((HP.out.below HB_8.out).more HB_8.out.size) (Nat.le_refl _) (by omega) HYr_8.out (Nat.le_refl _) (by have h1 := HYr_8.out.len; have h2 := HRV.out.2; omega)).mono ?_
  rintro e W9 ⟨Au, nu, cu, rfl, hyu, hb9⟩
  have HS0_9 := Lib.hid (HS0_8.out.next hb9)
  have HS1_9 := Lib.hid (HS1_8.out.next hb9)
  have HS2_9 := Lib.hid (HS2_8.out.next hb9)
  have HS3_9 := Lib.hid (HS3_8.out.next hb9)
  have HB_9 := Lib.hid (bstep HB_8.out hb9)
  have hw_9 := HB_9.out.size
  have hws_9 := (hb9).size
  have HYr_9 := Lib.hid (HYr_8.out.next hb9)
  clear HYr_8
  clear f0_8 HS0_8 hf0_8 f1_8 HS1_8 hf1_8 f2_8 HS2_8 f3_8 HS3_8
  have f0_9 := str6 HS0_9.out
  have hl0_9 := HS0_9.out.lt
  have hf0_9 := fun j => HS0_9.out.frozen j
  have f1_9 := str7 HS1_9.out
  have hl1_9 := HS1_9.out.lt
  have hf1_9 := fun j => HS1_9.out.frozen j
  have f2_9 := str7 HS2_9.out
  have hl2_9 := HS2_9.out.lt
  have f3_9 := str6 HS3_9.out
  have hl3_9 := HS3_9.out.lt
  rw [HU.out] at hyu
  rw [HU.out]
  obtain ⟨ua, uk, ⟨us, uik, ⟨ukd, uda, ulo, uhi, uva⟩⟩, un⟩ := u
  dsimp only at *
  have HYu_9 := Lib.hid (hyu)
  clear hyu hb9
  go_wp2_with fail
  generalize hW10 : W9.alloc (.cells #[.int .i64 ua, .string uk, .int .i64 us, .string uik, .int .i64 ukd, .slice Au nu cu, .int .i64 ulo, .int .i64 uhi, .int .i64 uva, .int .i64 un] 62) = W10
  have HS0_10 := sEq hW10 (HS0_9.out.alloc _)
  have HS1_10 := sEq hW10 (HS1_9.out.alloc _)
  have HS2_10 := sEq hW10 (HS2_9.out.alloc _)
  have HS3_10 := sEq hW10 (HS3_9.out.alloc _)
  have HS4_10 := sEq hW10 (Str.new _ _ _)
  have hba10 : Below W9.heap.size W9 W10 := by rw [← hW10]; exact balloc (bsame _) _
  have HB_10 := Lib.hid (bstep HB_9.out hba10)
  have hw_10 := HB_10.out.size
  have hws_10 := hba10.size
  have HYr_10 := Lib.hid (HYr_9.out.next hba10)
  have HYu_10 := Lib.hid (HYu_9.out.next hba10)
  clear HYr_9 HYu_9
  clear hW10
  clear f0_9 HS0_9 hf0_9 f1_9 HS1_9 hf1_9 f2_9 HS2_9 f3_9 HS3_9
  have f0_10 := str6 HS0_10.out
  have hl0_10 := HS0_10.out.lt
  have hf0_10 := fun j => HS0_10.out.frozen j
  have f1_10 := str7 HS1_10.out
  have hl1_10 := HS1_10.out.lt
  have hf1_10 := fun j => HS1_10.out.frozen j
  have f2_10 := str7 HS2_10.out
  have hl2_10 := HS2_10.out.lt
  have f3_10 := str6 HS3_10.out
  have hl3_10 := HS3_10.out.lt
  have f4_10 := str10 HS4_10.out
  have hl4_10 := HS4_10.out.lt
  refine (UndoW.apply_any ua uk un Au nu cu W10.heap.size us uik ukd uda ulo uhi uva A1 n1 c1 W10.heap.size rs rk rkd rda rlo rhi rva _ HYu_10.out (Nat.le_refl _) (by have h1 := HYu_10.out.len; have h2 := HUN.out.2; omega) HYr_10.out (Nat.le_refl _) (by have h1 := HYr_10.out.len; have h2 := HRV.out.2; omega) HUN.out.1 HRV.out.1.1 HRV.out.1.2.1 HRV.out.1.2.2).mono ?_
  rintro e W11 ⟨Ab, nb, cb, rfl, hyb, hb11⟩
  have HS0_11 := Lib.hid (HS0_10.out.next hb11)
  have HS1_11 := Lib.hid (HS1_10.out.next hb11)
  have HS2_11 := Lib.hid (HS2_10.out.next hb11)
  have HS3_11 := Lib.hid (HS3_10.out.next hb11)
  have HS4_11 := Lib.hid (HS4_10.out.next hb11)
  have HB_11 := Lib.hid (bstep HB_10.out hb11)
  have hw_11 := HB_11.out.size
  have hws_11 := (hb11).size
  have HYr_11 := Lib.hid (HYr_10.out.next hb11)
  have HYu_11 := Lib.hid (HYu_10.out.next hb11)
  clear HYr_10 HYu_10
  clear f0_10 HS0_10 hf0_10 f1_10 HS1_10 hf1_10 f2_10 HS2_10 f3_10 HS3_10 f4_10 HS4_10
  have f0_11 := str6 HS0_11.out
  have hl0_11 := HS0_11.out.lt
  have hf0_11 := fun j => HS0_11.out.frozen j
  have f1_11 := str7 HS1_11.out
  have hl1_11 := HS1_11.out.lt
  have hf1_11 := fun j => HS1_11.out.frozen j
  have f2_11 := str7 HS2_11.out
  have hl2_11 := HS2_11.out.lt
  have f3_11 := str6 HS3_11.out
  have hl3_11 := HS3_11.out.lt
  have f4_11 := str10 HS4_11.out
  have hl4_11 := HS4_11.out.lt
  rw [HAP.out] at hyb
  rw [HAP.out]
  obtain ⟨⟨bs, bk, ⟨bkd, bda, blo, bhi, bva⟩⟩, be⟩ := ap
  dsimp only at hyb
  obtain rfl : be = 0 := HQ1.out
  obtain rfl : bk = xk := HQ3.out
  have HYb_11 := Lib.hid (hyb)
  clear hyb hb11 HQ1 HQ3
  go_wp2_with fail
  generalize hW12 : W11.alloc (.cells #[.int .i64 bs, .string bk, .int .i64 bkd, .slice Ab nb cb, .int .i64 blo, .int .i64 bhi, .int .i64 bva] 54) = W12
  have HS0_12 := sEq hW12 (HS0_11.out.alloc _)
  have HS1_12 := sEq hW12 (HS1_11.out.alloc _)
  have HS2_12 := sEq hW12 (HS2_11.out.alloc _)
  have HS3_12 := sEq hW12 (HS3_11.out.alloc _)
  have HS4_12 := sEq hW12 (HS4_11.out.alloc _)
  have HS5_12 := sEq hW12 (Str.new _ _ _)
  have hba12 : Below W11.heap.size W11 W12 := by rw [← hW12]; exact balloc (bsame _) _
  have HB_12 := Lib.hid (bstep HB_11.out hba12)
  have hw_12 := HB_12.out.size
  have hws_12 := hba12.size
  have HYr_12 := Lib.hid (HYr_11.out.next hba12)
  have HYu_12 := Lib.hid (HYu_11.out.next hba12)
  have HYb_12 := Lib.hid (HYb_11.out.next hba12)
  clear HYr_11 HYu_11 HYb_11
  clear hW12
  clear f0_11 HS0_11 hf0_11 f1_11 HS1_11 hf1_11 f2_11 HS2_11 f3_11 HS3_11 f4_11 HS4_11
  have f0_12 := str6 HS0_12.out
  have hl0_12 := HS0_12.out.lt
  have hf0_12 := fun j => HS0_12.out.frozen j
  have f1_12 := str7 HS1_12.out
  have hl1_12 := HS1_12.out.lt
  have hf1_12 := fun j => HS1_12.out.frozen j
  have f2_12 := str7 HS2_12.out
  have hl2_12 := HS2_12.out.lt
  have f3_12 := str6 HS3_12.out
  have hl3_12 := HS3_12.out.lt
  have f4_12 := str10 HS4_12.out
  have hl4_12 := HS4_12.out.lt
  have f5_12 := str7 HS5_12.out
  have hl5_12 := HS5_12.out.lt
  refine (PlanW.code_any 0 _).mono ?_
  rintro e W12_ ⟨rfl, rfl⟩
  go_wp2_with fail
  refine (UndoW.right_any ua uk Au nu cu W12.heap.size us uik ukd uda ulo uhi uva un _ HYu_12.out (Nat.le_refl _) HSZ.out.1 HSZ.out.2).mono ?_
  rintro e W13 ⟨rfl, hb13⟩
  rw [HQ2.out]
  have HS0_13 := Lib.hid (HS0_12.out.next hb13)
  have HS1_13 := Lib.hid (HS1_12.out.next hb13)
  have HS2_13 := Lib.hid (HS2_12.out.next hb13)
  have HS3_13 := Lib.hid (HS3_12.out.next hb13)
  have HS4_13 := Lib.hid (HS4_12.out.next hb13)
  have HS5_13 := Lib.hid (HS5_12.out.next hb13)
  have HB_13 := Lib.hid (bstep HB_12.out hb13)
  have hw_13 := HB_13.out.size
  have hws_13 := (hb13).size
  have HYr_13 := Lib.hid (HYr_12.out.next hb13)
  have HYu_13 := Lib.hid (HYu_12.out.next hb13)
  have HYb_13 := Lib.hid (HYb_12.out.next hb13)
  clear HYr_12 HYu_12 HYb_12
  clear f0_12 HS0_12 hf0_12 f1_12 HS1_12 hf1_12 f2_12 HS2_12 f3_12 HS3_12 f4_12 HS4_12 f5_12 HS5_12
  clear hb13
  have f0_13 := str6 HS0_13.out
  have hl0_13 := HS0_13.out.lt
  have hf0_13 := fun j => HS0_13.out.frozen j
  have f1_13 := str7 HS1_13.out
  have hl1_13 := HS1_13.out.lt
  have hf1_13 := fun j => HS1_13.out.frozen j
  have f2_13 := str7 HS2_13.out
  have hl2_13 := HS2_13.out.lt
  have f3_13 := str6 HS3_13.out
  have hl3_13 := HS3_13.out.lt
  have f4_13 := str10 HS4_13.out
  have hl4_13 := HS4_13.out.lt
  have f5_13 := str7 HS5_13.out
  have hl5_13 := HS5_13.out.lt
  have HQ4b : Hid ((bs = 1) ↔ (pst = 1)) := HQ4
  by_cases hp1 : pst = 1
  case' pos => have hs1 : (pst == 1) = true := by simpa using hp1
  case' pos => have hs2 : (bs == 1) = true := by simpa using HQ4b.out.2 hp1
  case' neg => have hs1 : (pst == 1) = false := by simpa using hp1
  case' neg => have hs2 : (bs == 1) = false := by simpa using (fun h => hp1 (HQ4b.out.1 h))
  all_goals
    clear hp1
    go_wp2_with fail
    refine (SlotW.refSame_any Ab Ap nb cb np cp W13.heap.size W13.heap.size ⟨bs, bk, ⟨bkd, bda, blo, bhi, bva⟩⟩ ⟨pst, pk, ⟨pkd, pda, plo, phi, pva⟩⟩ _ HYb_13.out ((HP.out.below HB_13.out).more HB_13.out.size) (Nat.le_refl _) (Nat.le_refl _)).mono ?_
    rintro e W14 ⟨rfl, hb14⟩
    rw [show (⟨bs, bk, ⟨bkd, bda, blo, bhi, bva⟩⟩ : Item) = ⟨pst, pk, ⟨pkd, pda, plo, phi, pva⟩⟩ from HQ5.out HN0.out, slot_same_self]
    have HS0_14 := Lib.hid (HS0_13.out.next hb14)
    have HS1_14 := Lib.hid (HS1_13.out.next hb14)
    have HS2_14 := Lib.hid (HS2_13.out.next hb14)
    have HS3_14 := Lib.hid (HS3_13.out.next hb14)
    have HS4_14 := Lib.hid (HS4_13.out.next hb14)
    have HS5_14 := Lib.hid (HS5_13.out.next hb14)
    have HB_14 := Lib.hid (bstep HB_13.out hb14)
    have hw_14 := HB_14.out.size
    have hws_14 := (hb14).size
    have HYr_14 := Lib.hid (HYr_13.out.next hb14)
    have HYu_14 := Lib.hid (HYu_13.out.next hb14)
    have HYb_14 := Lib.hid (HYb_13.out.next hb14)
    clear HYr_13 HYu_13 HYb_13
    clear f0_13 HS0_13 hf0_13 f1_13 HS1_13 hf1_13 f2_13 HS2_13 f3_13 HS3_13 f4_13 HS4_13 f5_13 HS5_13
    clear hb14
    have f0_14 := str6 HS0_14.out
    have hl0_14 := HS0_14.out.lt
    have hf0_14 := fun j => HS0_14.out.frozen j
    have f1_14 := str7 HS1_14.out
    have hl1_14 := HS1_14.out.lt
    have hf1_14 := fun j => HS1_14.out.frozen j
    have f2_14 := str7 HS2_14.out
    have hl2_14 := HS2_14.out.lt
    have f3_14 := str6 HS3_14.out
    have hl3_14 := HS3_14.out.lt
    have f4_14 := str10 HS4_14.out
    have hl4_14 := HS4_14.out.lt
    have f5_14 := str7 HS5_14.out
    have hl5_14 := HS5_14.out.lt
    go_wp2_with fail
    refine (PlanW.live_any _).mono ?_
    rintro e W15 ⟨rfl, hb15⟩
    have HS0_15 := Lib.hid (HS0_14.out.next hb15)
    have HS1_15 := Lib.hid (HS1_14.out.next hb15)
    have HS2_15 := Lib.hid (HS2_14.out.next hb15)
    have HS3_15 := Lib.hid (HS3_14.out.next hb15)
    have HS4_15 := Lib.hid (HS4_14.out.next hb15)
    have HS5_15 := Lib.hid (HS5_14.out.next hb15)
    have HB_15 := Lib.hid (bstep HB_14.out hb15)
    have hw_15 := HB_15.out.size
    have hws_15 := (hb15).size
    have HYr_15 := Lib.hid (HYr_14.out.next hb15)
    have HYu_15 := Lib.hid (HYu_14.out.next hb15)
    have HYb_15 := Lib.hid (HYb_14.out.next hb15)
    clear HYr_14 HYu_14 HYb_14
    clear f0_14 HS0_14 hf0_14 f1_14 HS1_14 hf1_14 f2_14 HS2_14 f3_14 HS3_14 f4_14 HS4_14 f5_14 HS5_14
    clear hb15
    have f0_15 := str6 HS0_15.out
    have hl0_15 := HS0_15.out.lt
    have hf0_15 := fun j => HS0_15.out.frozen j
    have f1_15 := str7 HS1_15.out
    have hl1_15 := HS1_15.out.lt
    have hf1_15 := fun j => HS1_15.out.frozen j
    have f2_15 := str7 HS2_15.out
    have hl2_15 := HS2_15.out.lt
    have f3_15 := str6 HS3_15.out
    have hl3_15 := HS3_15.out.lt
    have f4_15 := str10 HS4_15.out
    have hl4_15 := HS4_15.out.lt
    have f5_15 := str7 HS5_15.out
    have hl5_15 := HS5_15.out.lt
    go_wp2_with fail
    go_ret
    exact ⟨rfl, HB_15.out⟩
theorem walk (v0 v1 : Value) (a0 : OpX) (a1 : Item) (w : World) (g0 : ROp w w.heap.size v0 a0) (g1 : RItem w w.heap.size v1 a1) :
    Calls Try.prog 8 #[v0, v1] w fun e w' => e = .returned (.bool true) ∧ Below w.heap.size w w' := by
  obtain ⟨Ax, nx, cx, rfl, hx, hxk, hi⟩ := g0
  obtain ⟨Ap, np, cp, rfl, hp, hpk, hj⟩ := g1
  obtain ⟨act, xk, xdata, xlo, xhi, xn⟩ := a0
  obtain ⟨pst, pk, pkd, pda, plo, phi, pva⟩ := a1
  dsimp only at *
  have hj : In64 pst ∧ In64 pkd ∧ In64 plo ∧ In64 phi ∧ In64 pva := hj
  cases h0 : bigI ⟨pst, pk, ⟨pkd, pda, plo, phi, pva⟩⟩ with
  | true => exact way_big act xk xdata xlo xhi xn Ax nx cx pst pk pkd pda plo phi pva Ap np cp w hx hxk hi hp hpk hj h0
  | false =>
    cases h1 : ModelP.muchL [⟨act, xk, xdata, xlo, xhi, xn⟩] with
    | true => exact way_much act xk xdata xlo xhi xn Ax nx cx pst pk pkd pda plo phi pva Ap np cp w hx hxk hi hp hpk hj h0 h1
    | false =>
      cases h2 : SlotP.right ⟨pst, pk, ⟨pkd, pda, plo, phi, pva⟩⟩ with
      | false => exact way_wrong act xk xdata xlo xhi xn Ax nx cx pst pk pkd pda plo phi pva Ap np cp w hx hxk hi hp hpk hj h0 h1 h2
      | true =>
        by_cases h3 : pst ≠ 0 → pk = xk
        · cases h4 : PlanP.writes ⟨act, xk, xdata, xlo, xhi, xn⟩ (PlanP.slot ⟨act, xk, xdata, xlo, xhi, xn⟩ ⟨pst, pk, ⟨pkd, pda, plo, phi, pva⟩⟩).2 with
          | false => exact way_not act xk xdata xlo xhi xn Ax nx cx pst pk pkd pda plo phi pva Ap np cp w hx hxk hi hp hpk hj h0 h1 h2 h3 h4
          | true =>
            by_cases h5 : pst = 0
            · exact way_zero act xk xdata xlo xhi xn Ax nx cx pst pk pkd pda plo phi pva Ap np cp w hx hxk hi hp hpk hj h0 h1 h2 h3 h4 h5
            · exact way_full act xk xdata xlo xhi xn Ax nx cx pst pk pkd pda plo phi pva Ap np cp w hx hxk hi hp hpk hj h0 h1 h2 h3 h4 h5
        · exact way_key act xk xdata xlo xhi xn Ax nx cx pst pk pkd pda plo phi pva Ap np cp w hx hxk hi hp hpk hj h0 h1 h2 (fun h => h3 (fun h' => absurd h h')) (fun h => h3 (fun _ => h))
end Go.Proofs.Ytghgccgpgonlmaa.planBack
