/-
  The abstract machine in plain terms: a state is a list of pairs, rising by key. No program in sight.
-/
import Derived.Test.YtghgccgpgonlmaaPCell
import Derived.Test.YtghgccgpgonlmaaPKey
import Derived.Test.YtghgccgpgonlmaaPUndo
namespace Go.Proofs.Ytghgccgpgonlmaa
/-- a key, and what it has -/
structure Pair where
  key : ByteArray
  cell : Cell
/-- what an operation tells -/
structure Answer where
  err : Int
  cell : Cell
namespace ModelP
abbrev lt (a b : ByteArray) : Prop := a.data.toList < b.data.toList
/-- may an operation be? -/
def good (x : OpX) : Bool :=
  decide (0 ≤ x.act ∧ x.act ≤ 5) && (KeyP.right x.key.data.toList && (if x.act = 1 then decide (x.data.length ≤ 32) else if x.act = 2 then (decide (x.lo ≤ x.n) && decide (x.n ≤ x.hi)) else (decide (x.act < 4) || decide (0 ≤ x.n))))
def code (b : Bool) : Int := if b then 0 else 1
/-- what counts of an operation -/
def plain (x : OpX) : OpX :=
  ⟨x.act, x.key, if x.act = 1 then x.data else [], if x.act = 2 then x.lo else 0, if x.act = 2 then x.hi else 0, if x.act = 2 ∨ x.act = 4 ∨ x.act = 5 then x.n else 0⟩
def same (x y : OpX) : Bool := x.act == y.act && (x.key.toList == y.key.toList && (x.data == y.data && (x.lo == y.lo && (x.hi == y.hi && x.n == y.n))))
/-- how many keys lie ahead of k -/
def at_ (s : List Pair) (k : ByteArray) : Nat := match s with
  | [] => 0
  | p :: s => if p.key.data.toList < k.data.toList then at_ s k + 1 else 0
/-- what the key has -/
def find (s : List Pair) (k : ByteArray) : Option Cell := match s with
  | [] => none
  | p :: s => if p.key = k then some p.cell else find s k
/-- what an operation makes of a thing: the error, what is there then, what is told -/
def rule (t : Option Cell) (x : OpX) : Int × Option Cell × Cell :=
  if x.act = 0 then (match t with | none => (5, none, CellP.none) | some c => (0, some c, c))
  else if x.act = 1 then (if (t.getD CellP.none).kind = 2 then (6, none, CellP.none) else (0, some ⟨1, x.data, 0, 0, 0⟩, CellP.none))
  else if x.act = 2 then (match t with | some _ => (7, none, CellP.none) | none => (0, some ⟨2, [], x.lo, x.hi, x.n⟩, CellP.none))
  else if x.act = 3 then (match t with | none => (5, none, CellP.none) | some _ => (0, none, CellP.none))
  else match t with
    | none => (5, none, CellP.none)
    | some c => if c.kind ≠ 2 then (6, none, CellP.none) else
      if (if x.act = 4 then c.val + x.n else c.val - x.n) < c.lo ∨ c.hi < (if x.act = 4 then c.val + x.n else c.val - x.n) then (8, none, CellP.none)
      else (0, some ⟨2, [], c.lo, c.hi, if x.act = 4 then c.val + x.n else c.val - x.n⟩, CellP.none)
/-- a state in which a key has something, or nothing -/
def put (s : List Pair) (k : ByteArray) (c : Option Cell) : List Pair :=
  s.take (at_ s k) ++ ((match c with | some c => [⟨k, c⟩] | none => []) ++ (if (s[at_ s k]?).map (·.key) = some k then s.drop (at_ s k + 1) else s.drop (at_ s k)))
def step (s : List Pair) (x : OpX) : List Pair × Answer :=
  if good x = false then (s, ⟨1, CellP.none⟩)
  else if (rule (find s x.key) x).1 ≠ 0 then (s, ⟨(rule (find s x.key) x).1, CellP.none⟩)
  else (put s x.key (rule (find s x.key) x).2.1, ⟨0, (rule (find s x.key) x).2.2⟩)
def sameAll (s t : List Pair) : Bool := s.length == t.length && (s.zip t).all fun p => p.1.key.toList == p.2.key.toList && CellP.same p.1.cell p.2.cell
def sameAns (a b : Answer) : Bool := a.err == b.err && CellP.same a.cell b.cell
/-- rising -/
def Rises (s : List Pair) : Prop := s.Pairwise fun p q => lt p.key q.key
/-- is it a state? -/
def rightB : List Pair → Bool
  | [] => true
  | [p] => KeyP.right p.key.data.toList && CellP.right p.cell
  | p :: q :: s => KeyP.right p.key.data.toList && (CellP.right p.cell && (decide (p.key.data.toList < q.key.data.toList) && rightB (q :: s)))

theorem at_le (k : ByteArray) : ∀ s : List Pair, at_ s k ≤ s.length
  | [] => Nat.le_refl _
  | p :: s => by
    unfold at_
    split
    · have := at_le k s; simp; omega
    · omega
theorem at_lt (k : ByteArray) : ∀ (s : List Pair) (j : Nat) (p : Pair), j < at_ s k → s[j]? = some p → lt p.key k
  | [], j, p, h, _ => by simp [at_] at h
  | q :: s, 0, p, h, hp => by
    simp at hp; subst hp
    unfold at_ at h
    split at h
    · assumption
    · omega
  | q :: s, j + 1, p, h, hp => by
    unfold at_ at h
    split at h
    · exact at_lt k s j p (by omega) (by simpa using hp)
    · omega
theorem at_ge (k : ByteArray) : ∀ (s : List Pair) (p : Pair), s[at_ s k]? = some p → ¬ lt p.key k
  | [], p, hp => by simp at hp
  | q :: s, p, hp => by
    unfold at_ at hp
    split at hp
    · exact at_ge k s p (by simpa using hp)
    · rename_i h
      simp at hp; subst hp; exact h
/-- where all ahead are below and none behind is -/
theorem at_eq (k : ByteArray) : ∀ (s : List Pair) (i : Nat), i ≤ s.length → (∀ j p, j < i → s[j]? = some p → lt p.key k) → (∀ p, s[i]? = some p → ¬ lt p.key k) → at_ s k = i
  | [], i, hi, _, _ => by simp at hi; simp [at_, hi]
  | q :: s, 0, _, _, h2 => by
    have := h2 q rfl
    simp [at_]
    intro hh
    exact absurd hh this
  | q :: s, i + 1, hi, h1, h2 => by
    have hq := h1 0 q (by omega) rfl
    have := at_eq k s i (by simpa using hi) (fun j p hj hp => h1 (j + 1) p (by omega) (by simpa using hp)) (fun p hp => h2 p (by simpa using hp))
    unfold at_
    rw [if_pos hq, this]
theorem key_eq {a b : ByteArray} (h : a.data.toList = b.data.toList) : a = b := key_inj (by rw [Lib.toList_data, Lib.toList_data]; exact h)
theorem lt_irrefl (a : ByteArray) : ¬ lt a a := List.lt_irrefl _
theorem lt_trans {a b c : ByteArray} (h : lt a b) (h' : lt b c) : lt a c := List.lt_trans h h'
/-- what a key has in a state -/
theorem find_eq (k : ByteArray) : ∀ s : List Pair, Rises s → find s k = if (s[at_ s k]?).map (·.key) = some k then (s[at_ s k]?).map (·.cell) else none
  | [], _ => by simp [find, at_]
  | p :: s, h => by
    obtain ⟨hp, hs⟩ := List.pairwise_cons.1 h
    unfold find at_
    by_cases hk : p.key.data.toList < k.data.toList
    · have hne : ¬ p.key = k := by rintro rfl; exact List.lt_irrefl _ hk
      rw [if_neg hne, if_pos hk, find_eq k s hs]
      simp
    · rw [if_neg hk]
      by_cases he : p.key = k
      · simp [he]
      · rw [if_neg he]
        have : ¬ ((p :: s)[0]?).map (·.key) = some k := by simpa using he
        rw [if_neg this]
        have hge : k.data.toList < p.key.data.toList := by
          rcases List.le_iff_lt_or_eq.1 (List.not_lt.1 hk) with h1 | h1
          · exact h1
          · exact absurd (key_eq h1).symm he
        -- none further on
        have : ∀ t : List Pair, (∀ q ∈ t, lt p.key q.key) → find t k = none := by
          intro t
          induction t with
          | nil => intro _; rfl
          | cons q t ih =>
            intro hq
            have h1 := hq q (by simp)
            unfold find
            rw [if_neg (by rintro rfl; exact List.lt_irrefl _ (List.lt_trans hge h1))]
            exact ih fun r hr => hq r (by simp [hr])
        exact this s hp
end ModelP
end Go.Proofs.Ytghgccgpgonlmaa
