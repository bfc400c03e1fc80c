/-
  Parts of the proof of LocksSteps.
-/
import Derived.Test.YtkkfabnehhamdaaDoorLkS0
section
namespace Go.Proofs.YtkkfabnehhamdaaDoor
set_option linter.unusedVariables false
namespace LockP
open ModesP
abbrev Row := List (Int × Int)
/-- of a key who holds it, by which set; of one what it holds; of a key who waits; who waits for what -/
structure St where
  own : ByteArray → MapP.T Int Int
  mem : Int → MapP.T ByteArray Unit
  row : ByteArray → Row
  goal : MapP.T Int (ByteArray × Int)
def empty : St := ⟨fun _ => [], fun _ => [], fun _ => [], []⟩
def upd {α β : Type} [DecidableEq α] (f : α → β) (k : α) (v : β) : α → β := fun k' => if k' = k then v else f k'
theorem upd_same {α β : Type} [DecidableEq α] (f : α → β) (k : α) (v : β) : upd f k v k = v := by simp [upd]
theorem upd_other {α β : Type} [DecidableEq α] (f : α → β) {k k' : α} (v : β) (h : k' ≠ k) : upd f k v k' = f k' := by simp [upd, h]
section
variable (ltI : Int → Int → Bool) (ltS : ByteArray → ByteArray → Bool)
def set (s : St) (k : ByteArray) (t : Int) : Int := (MapP.get (s.own k) t).getD 0
def hold (s : St) (t : Int) (k : ByteArray) (m : Int) : St := { s with own := upd s.own k (MapP.put ltI (s.own k) t (withM (set s k t) m)), mem := upd s.mem t (MapP.put ltS (s.mem t) k ()) }
def drop (s : St) (t : Int) (k : ByteArray) : St := { s with own := upd s.own k (MapP.del (s.own k) t), mem := upd s.mem t (MapP.del (s.mem t) k) }
def others (s : St) (t : Int) (k : ByteArray) (m : Int) : Bool := (s.own k).all fun p => decide (p.1 = t) || fitsM p.2 m
def may (s : St) (t : Int) (k : ByteArray) (m ahead : Int) : Bool := (!(decide (set s k t = 0)) || fitsM ahead m) && others s t k m
def aheadOf (a : Int) (l : Row) : Int := l.foldl (fun a p => withM a p.2) a
def wait (s : St) (t : Int) (k : ByteArray) (m : Int) : St := { s with row := upd s.row k (s.row k ++ [(t, m)]), goal := MapP.put ltI s.goal t (k, m) }
/-- what is told, the error -/
def ask (s : St) (t : Int) (k : ByteArray) (m : Int) : St × Bool × Int :=
  if isM m = false then (s, false, 1) else
  if MapP.has s.goal t then (s, false, 15) else
  if hasM (set s k t) m then (s, true, 0) else
  if may s t k m (aheadOf 0 (s.row k)) then (hold ltI ltS s t k m, true, 0) else (wait ltI s t k m, false, 0)
def take (s : St) (t : Int) (k : ByteArray) (m : Int) : St := { hold ltI ltS s t k m with goal := MapP.del s.goal t }
/-- those that wait for a key, one behind the other -/
def pass (k : ByteArray) : Row → St → Int → St × List Int
  | [], s, _ => (s, [])
  | (t, m) :: r, s, a => if may s t k m a then ((pass k r (take ltI ltS s t k m) a).1, t :: (pass k r (take ltI ltS s t k m) a).2) else pass k r s (withM a m)
def cut (s : St) (k : ByteArray) : St := { s with row := upd s.row k ((s.row k).filter fun p => MapP.has s.goal p.1) }
def grant (s : St) (k : ByteArray) : St × List Int := (cut (pass ltI ltS k (s.row k) s 0).1 k, (pass ltI ltS k (s.row k) s 0).2)
def leave (s : St) (t : Int) : St × List ByteArray := match MapP.get s.goal t with
  | none => (s, [])
  | some (k, m) => ({ s with row := upd s.row k ((s.row k).filter fun p => !decide (p = (t, m))), goal := MapP.del s.goal t }, [k])
def grantAll : List ByteArray → St → St × List Int
  | [], s => (s, [])
  | k :: r, s => ((grantAll r (grant ltI ltS s k).1).1, (grant ltI ltS s k).2 ++ (grantAll r (grant ltI ltS s k).1).2)
def drops (s : St) (t : Int) (l : List ByteArray) : St := l.foldl (fun s k => drop s t k) s
end
/-! ### sets of modes -/
theorem fits_with {s x m : Int} (h0 : 0 ≤ s) (h1 : s < 16) (h2 : 0 ≤ x) (h3 : x < 4) (h4 : 0 ≤ m) (h5 : m < 4) : fitsM (withM s x) m = (fitsM s m && compat x m) := by
  have h : ∀ a : Fin 16, ∀ b c : Fin 4, fitsM (withM (a.val : Int) (b.val : Int)) (c.val : Int) = (fitsM (a.val : Int) (c.val : Int) && compat (b.val : Int) (c.val : Int)) := by decide +kernel
  have := h ⟨s.toNat, by omega⟩ ⟨x.toNat, by omega⟩ ⟨m.toNat, by omega⟩
  simpa only [Int.toNat_of_nonneg h0, Int.toNat_of_nonneg h2, Int.toNat_of_nonneg h4] using this
theorem has_with {s x m : Int} (h0 : 0 ≤ s) (h1 : s < 16) (h2 : 0 ≤ x) (h3 : x < 4) (h4 : 0 ≤ m) (h5 : m < 4) : hasM (withM s x) m = (hasM s m || decide (x = m)) := by
  have h : ∀ a : Fin 16, ∀ b c : Fin 4, hasM (withM (a.val : Int) (b.val : Int)) (c.val : Int) = (hasM (a.val : Int) (c.val : Int) || decide ((b.val : Int) = (c.val : Int))) := by decide +kernel
  have := h ⟨s.toNat, by omega⟩ ⟨x.toNat, by omega⟩ ⟨m.toNat, by omega⟩
  simpa only [Int.toNat_of_nonneg h0, Int.toNat_of_nonneg h2, Int.toNat_of_nonneg h4] using this
theorem with_pos {s x : Int} (h0 : 0 ≤ s) (h1 : s < 16) (h2 : 0 ≤ x) (h3 : x < 4) : 0 < withM s x ∧ withM s x < 16 := by
  have h : ∀ a : Fin 16, ∀ b : Fin 4, 0 < withM (a.val : Int) (b.val : Int) ∧ withM (a.val : Int) (b.val : Int) < 16 := by decide +kernel
  have := h ⟨s.toNat, by omega⟩ ⟨x.toNat, by omega⟩
  simpa only [Int.toNat_of_nonneg h0, Int.toNat_of_nonneg h2] using this
theorem fits_iff {s m : Int} (h0 : 0 ≤ s) (h1 : s < 16) (h4 : 0 ≤ m) (h5 : m < 4) : fitsM s m = true ↔ ∀ x, 0 ≤ x → x < 4 → hasM s x = true → compat x m = true := by
  have h : ∀ a : Fin 16, ∀ c : Fin 4, (fitsM (a.val : Int) (c.val : Int) = true ↔ ∀ b : Fin 4, hasM (a.val : Int) (b.val : Int) = true → compat (b.val : Int) (c.val : Int) = true) := by decide +kernel
  have := h ⟨s.toNat, by omega⟩ ⟨m.toNat, by omega⟩
  simp only [Int.toNat_of_nonneg h0, Int.toNat_of_nonneg h4] at this
  rw [this]
  constructor
  · intro hb x h2 h3
    have := hb ⟨x.toNat, by omega⟩
    simpa only [Int.toNat_of_nonneg h2] using this
  · intro hb b
    exact hb _ (by omega) (by have := b.isLt; omega)
theorem compat_comm (a b : Int) : compat a b = compat b a := by
  unfold compat
  rw [Bool.and_comm (a == 0), Bool.and_comm (a == 2 || a == 3)]
theorem fits_zero (m : Int) (h4 : 0 ≤ m) (h5 : m < 4) : fitsM 0 m = true := by
  have h : ∀ c : Fin 4, fitsM 0 (c.val : Int) = true := by decide +kernel
  have := h ⟨m.toNat, by omega⟩
  simpa only [Int.toNat_of_nonneg h4] using this
theorem has_zero (m : Int) (h4 : 0 ≤ m) (h5 : m < 4) : hasM 0 m = false := by
  have h : ∀ c : Fin 4, hasM 0 (c.val : Int) = false := by decide +kernel
  have := h ⟨m.toNat, by omega⟩
  simpa only [Int.toNat_of_nonneg h4] using this
theorem isM_iff {m : Int} : isM m = true ↔ 0 ≤ m ∧ m < 4 := by simp [isM]
/-! ### what stands -/
/-- all but what ties rows to goals -/
structure Ok0 (s : St) : Prop where
  vals : ∀ k p, p ∈ s.own k → 0 < p.2 ∧ p.2 < 16
  nd : ∀ k, MapP.Nd (s.own k)
  mems : ∀ t k, MapP.has (s.mem t) k = MapP.has (s.own k) t
  ndm : ∀ t, MapP.Nd (s.mem t)
  ndg : MapP.Nd s.goal
  comp : ∀ k p q, p ∈ s.own k → q ∈ s.own k → p.1 ≠ q.1 → ∀ m, 0 ≤ m → m < 4 → hasM q.2 m = true → fitsM p.2 m = true
structure Ok (s : St) : Prop extends Ok0 s where
  rows : ∀ k t m, (t, m) ∈ s.row k ↔ MapP.get s.goal t = some (k, m)
  ndr : ∀ k, ((s.row k).map (·.1)).Nodup
  modes : ∀ k p, p ∈ s.row k → 0 ≤ p.2 ∧ p.2 < 4
/-- nobody waits for a key that might have it -/
def Shut (s : St) (k : ByteArray) : Prop := ∀ pre t m post, s.row k = pre ++ (t, m) :: post → may s t k m (aheadOf 0 pre) = false
theorem ok_empty : Ok empty := ⟨⟨(by intro k p h; cases h), fun _ => List.nodup_nil, fun _ _ => rfl, fun _ => List.nodup_nil, List.nodup_nil, (by intro k p q h; cases h)⟩, (by intro k t m; constructor <;> intro h <;> cases h), fun _ => List.nodup_nil, (by intro k p h; cases h)⟩
section
variable {ltI : Int → Int → Bool} {ltS : ByteArray → ByteArray → Bool} {s : St} {t : Int} {k : ByteArray} {m a : Int}
theorem Ok0.set_bd (h : Ok0 s) : 0 ≤ set s k t ∧ set s k t < 16 := by
  unfold set
  cases hg : MapP.get (s.own k) t with
  | none => exact ⟨Int.le_refl _, by show (0 : Int) < 16; omega⟩
  | some v =>
    have := h.vals k (t, v) (MapP.get_mem hg)
    exact ⟨by show 0 ≤ v; have := this.1; exact Int.le_of_lt this, this.2⟩
theorem set_zero (h : Ok0 s) : set s k t = 0 ↔ MapP.get (s.own k) t = none := by
  unfold set
  cases hg : MapP.get (s.own k) t with
  | none => simp
  | some v =>
    have := (h.vals k (t, v) (MapP.get_mem hg)).1
    simp
    show ¬ v = 0
    have h0 : 0 < v := this
    omega
theorem set_hold (h : Ok0 s) (k' : ByteArray) (t' : Int) : set (hold ltI ltS s t k m) k' t' = if k' = k ∧ t' = t then withM (set s k t) m else set s k' t' := by
  unfold set hold
  by_cases e : k' = k
  · subst e
    simp only [upd_same, true_and]
    rw [MapP.get_put (h.nd k')]
    split
    · rfl
    · rfl
  · simp only [upd_other _ _ e, e, false_and, if_false]
theorem may_false (h : may s t k m a = false) : (set s k t = 0 ∧ fitsM a m = false) ∨ ∃ p ∈ s.own k, p.1 ≠ t ∧ fitsM p.2 m = false := by
  unfold may at h
  rw [Bool.and_eq_false_iff] at h
  rcases h with h | h
  · simp only [Bool.or_eq_false_iff, Bool.not_eq_false', decide_eq_true_eq] at h
    exact .inl h
  · right
    unfold others at h
    rw [List.all_eq_false] at h
    obtain ⟨p, hp, h⟩ := h
    simp only [Bool.or_eq_true, decide_eq_true_eq, not_or, Bool.not_eq_true] at h
    exact ⟨p, hp, h.1, h.2⟩
theorem may_of (h : (set s k t = 0 ∧ fitsM a m = false) ∨ ∃ p ∈ s.own k, p.1 ≠ t ∧ fitsM p.2 m = false) : may s t k m a = false := by
  unfold may
  rw [Bool.and_eq_false_iff]
  rcases h with h | ⟨p, hp, h1, h2⟩
  · left
    simp [h.1, h.2]
  · right
    unfold others
    rw [List.all_eq_false]
    exact ⟨p, hp, by simp [h1, h2]⟩
theorem may_true (h : may s t k m a = true) : (set s k t = 0 → fitsM a m = true) ∧ ∀ p ∈ s.own k, p.1 ≠ t → fitsM p.2 m = true := by
  refine ⟨fun h0 => ?_, fun p hp hne => ?_⟩
  · cases hf : fitsM a m with
    | true => rfl
    | false => rw [may_of (.inl ⟨h0, hf⟩)] at h; cases h
  · cases hf : fitsM p.2 m with
    | true => rfl
    | false => rw [may_of (.inr ⟨p, hp, hne, hf⟩)] at h; cases h
/-- one more holds a key -/
theorem Ok0.hold (h : Ok0 s) (h0 : 0 ≤ m) (h1 : m < 4) (hf : ∀ p ∈ s.own k, p.1 ≠ t → fitsM p.2 m = true) : Ok0 (hold ltI ltS s t k m) := by
  obtain ⟨b0, b1⟩ := h.set_bd (k := k) (t := t)
  obtain ⟨c0, c1⟩ := with_pos b0 b1 h0 h1
  have hown : ∀ k' p, p ∈ (LockP.hold ltI ltS s t k m).own k' → (k' = k ∧ p = (t, withM (set s k t) m)) ∨ (p ∈ s.own k' ∧ (k' = k → p.1 ≠ t)) := fun k' p hp => by
    unfold LockP.hold at hp
    by_cases e : k' = k
    · subst e
      simp only [upd_same] at hp
      rcases MapP.mem_put.1 hp with rfl | ⟨h2, h3⟩
      · exact .inl ⟨rfl, rfl⟩
      · exact .inr ⟨h2, fun _ => h3⟩
    · simp only [upd_other _ _ e] at hp
      exact .inr ⟨hp, fun h => absurd h e⟩
  have hset : ∀ v, (t, v) ∈ s.own k → set s k t = v := fun v hv => by unfold set; rw [MapP.get_of (h.nd k) hv]; rfl
  -- what the new one has goes with what others have, and back
  have hnew : ∀ q ∈ s.own k, q.1 ≠ t → ∀ x, 0 ≤ x → x < 4 → (hasM q.2 x = true → fitsM (withM (set s k t) m) x = true) ∧ (hasM (withM (set s k t) m) x = true → fitsM q.2 x = true) := fun q hq hne x x0 x1 => by
    have hv := h.vals k q hq
    have hq2 := hf q hq hne
    have hold' : ∀ v, MapP.get (s.own k) t = some v → (hasM q.2 x = true → fitsM v x = true) ∧ (hasM v x = true → fitsM q.2 x = true) := fun v hg =>
      ⟨fun hx => h.comp k (t, v) q (MapP.get_mem hg) hq (fun e => hne e.symm) x x0 x1 hx, fun hx => h.comp k q (t, v) hq (MapP.get_mem hg) hne x x0 x1 hx⟩
    have hcx : hasM q.2 x = true → compat m x = true := fun hx => by
      rw [compat_comm]
      exact (fits_iff (by omega) hv.2 h0 h1).1 hq2 x x0 x1 hx
    refine ⟨fun hx => ?_, fun hx => ?_⟩
    · rw [fits_with b0 b1 h0 h1 x0 x1, hcx hx, Bool.and_true]
      unfold set
      cases hg : MapP.get (s.own k) t with
      | none => exact fits_zero x x0 x1
      | some v => exact (hold' v hg).1 hx
    · rw [has_with b0 b1 h0 h1 x0 x1, Bool.or_eq_true] at hx
      rcases hx with hx | hx
      · unfold set at hx
        cases hg : MapP.get (s.own k) t with
        | none => rw [hg, show ((none : Option Int).getD 0) = 0 from rfl, has_zero x x0 x1] at hx; cases hx
        | some v => rw [hg] at hx; exact (hold' v hg).2 hx
      · obtain rfl : m = x := by simpa using hx
        exact hq2
  refine ⟨fun k' p hp => ?_, fun k' => ?_, fun t' k' => ?_, fun t' => ?_, h.ndg, fun k' p q hp hq hne x x0 x1 hx => ?_⟩
  · rcases hown k' p hp with ⟨rfl, rfl⟩ | ⟨h2, -⟩
    · exact ⟨c0, c1⟩
    · exact h.vals k' p h2
  · unfold LockP.hold
    by_cases e : k' = k
    · subst e; simp only [upd_same]; exact MapP.nd_put (h.nd k') _ _
    · simp only [upd_other _ _ e]; exact h.nd k'
  · have hm := h.mems t' k'
    rw [MapP.has_get, MapP.has_get] at hm ⊢
    unfold LockP.hold
    by_cases e : k' = k
    · subst e
      simp only [upd_same]
      rw [MapP.get_put (h.nd k')]
      by_cases e2 : t' = t
      · subst e2
        simp only [upd_same, if_true]
        rw [MapP.get_put (h.ndm t'), if_pos rfl]
        rfl
      · simp only [upd_other _ _ e2, e2, if_false]
        exact hm
    · simp only [upd_other _ _ e]
      by_cases e2 : t' = t
      · subst e2
        simp only [upd_same]
        rw [MapP.get_put (h.ndm t'), if_neg e]
        exact hm
      · simp only [upd_other _ _ e2]
        exact hm
  · unfold LockP.hold
    by_cases e : t' = t
    · subst e; simp only [upd_same]; exact MapP.nd_put (h.ndm t') _ _
    · simp only [upd_other _ _ e]; exact h.ndm t'
  · rcases hown k' p hp with ⟨rfl, rfl⟩ | ⟨h2, h2'⟩
    · rcases hown k' q hq with ⟨-, rfl⟩ | ⟨h3, h3'⟩
      · exact absurd rfl hne
      · exact (hnew q h3 (h3' rfl) x x0 x1).1 hx
    · rcases hown k' q hq with ⟨rfl, rfl⟩ | ⟨h3, h3'⟩
      · exact (hnew p h2 (h2' rfl) x x0 x1).2 hx
      · exact h.comp k' p q h2 h3 hne x x0 x1 hx
theorem Ok0.drop (h : Ok0 s) : Ok0 (drop s t k) := by
  have hown : ∀ k' p, p ∈ (LockP.drop s t k).own k' → p ∈ s.own k' := fun k' p hp => by
    unfold LockP.drop at hp
    by_cases e : k' = k
    · subst e; simp only [upd_same] at hp; exact (MapP.mem_del.1 hp).1
    · simpa only [upd_other _ _ e] using hp
  refine ⟨fun k' p hp => h.vals k' p (hown k' p hp), fun k' => ?_, fun t' k' => ?_, fun t' => ?_, h.ndg, fun k' p q hp hq hne x x0 x1 hx => h.comp k' p q (hown k' p hp) (hown k' q hq) hne x x0 x1 hx⟩
  · unfold LockP.drop
    by_cases e : k' = k
    · subst e; simp only [upd_same]; exact MapP.nd_del (h.nd k') _
    · simp only [upd_other _ _ e]; exact h.nd k'
  · have hm := h.mems t' k'
    rw [MapP.has_get, MapP.has_get] at hm ⊢
    unfold LockP.drop
    by_cases e : k' = k
    · subst e
      simp only [upd_same]
      rw [MapP.get_del]
      by_cases e2 : t' = t
      · subst e2
        simp only [upd_same, if_true]
        rw [MapP.get_del, if_pos rfl]
        rfl
      · simp only [upd_other _ _ e2, e2, if_false]
        exact hm
    · simp only [upd_other _ _ e]
      by_cases e2 : t' = t
      · subst e2
        simp only [upd_same]
        rw [MapP.get_del, if_neg e]
        exact hm
      · simp only [upd_other _ _ e2]
        exact hm
  · unfold LockP.drop
    by_cases e : t' = t
    · subst e; simp only [upd_same]; exact MapP.nd_del (h.ndm t') _
    · simp only [upd_other _ _ e]; exact h.ndm t'
end
end LockP
end Go.Proofs.YtkkfabnehhamdaaDoor
end
section
namespace Go.Proofs.YtkkfabnehhamdaaDoor
set_option linter.unusedVariables false
namespace LockP
open ModesP
section
variable {ltI : Int → Int → Bool} {ltS : ByteArray → ByteArray → Bool} {s : St} {t : Int} {k : ByteArray} {m a : Int}
theorem Ok0.goal (h : Ok0 s) {g : MapP.T Int (ByteArray × Int)} (hg : MapP.Nd g) : Ok0 { s with goal := g } := ⟨h.vals, h.nd, h.mems, h.ndm, hg, h.comp⟩
theorem Ok0.row (h : Ok0 s) {r : ByteArray → Row} : Ok0 { s with row := r } := ⟨h.vals, h.nd, h.mems, h.ndm, h.ndg, h.comp⟩
theorem ahead_bd (l : Row) : ∀ {a : Int}, (∀ p ∈ l, 0 ≤ p.2 ∧ p.2 < 4) → 0 ≤ a → a < 16 → 0 ≤ aheadOf a l ∧ aheadOf a l < 16 := by
  induction l with
  | nil => intro a _ h0 h1; exact ⟨h0, h1⟩
  | cons p r ih =>
    intro a hl h0 h1
    obtain ⟨b0, b1⟩ := hl p (by simp)
    obtain ⟨c0, c1⟩ := with_pos h0 h1 b0 b1
    exact ih (fun q hq => hl q (List.mem_cons_of_mem _ hq)) (Int.le_of_lt c0) c1
theorem own_take (s : St) (t : Int) (k : ByteArray) (m : Int) : (take ltI ltS s t k m).own k = MapP.put ltI (s.own k) t (withM (set s k t) m) := by
  unfold take hold
  simp only [upd_same]
theorem own_take_other (s : St) (t : Int) {k k' : ByteArray} (m : Int) (h : k' ≠ k) : (take ltI ltS s t k m).own k' = s.own k' := by
  unfold take hold
  simp only [upd_other _ _ h]
/-- who may not now may not when another has more -/
theorem may_mono (h : Ok0 s) (h0 : 0 ≤ m) (h1 : m < 4) {t' m' a' : Int} (h2 : 0 ≤ m') (h3 : m' < 4) (hne : t' ≠ t) (hm : may s t' k m' a' = false) : may (take ltI ltS s t k m) t' k m' a' = false := by
  obtain ⟨b0, b1⟩ := h.set_bd (k := k) (t := t)
  refine may_of ?_
  rcases may_false hm with ⟨e, f⟩ | ⟨p, hp, e, f⟩
  · left
    refine ⟨?_, f⟩
    unfold set at e ⊢
    rw [own_take, MapP.get_put (h.nd k), if_neg hne]
    exact e
  · right
    by_cases e2 : p.1 = t
    · refine ⟨(t, withM (set s k t) m), ?_, fun e3 => hne e3.symm, ?_⟩
      · rw [own_take]; exact MapP.mem_put.2 (.inl rfl)
      · have : set s k t = p.2 := by
          unfold set
          rw [MapP.get_of (h.nd k) (v := p.2) (by rw [← e2]; exact hp)]
          rfl
        show fitsM (withM (set s k t) m) m' = false
        rw [fits_with b0 b1 h0 h1 h2 h3, this, f]
        rfl
    · exact ⟨p, by rw [own_take]; exact MapP.mem_put.2 (.inr ⟨hp, e2⟩), e, f⟩
structure Passed (ltI : Int → Int → Bool) (ltS : ByteArray → ByteArray → Bool) (k : ByteArray) (l : Row) (s : St) (a : Int) (q : St × List Int) : Prop where
  ok : Ok0 q.1
  row : q.1.row = s.row
  oth : ∀ k', k' ≠ k → q.1.own k' = s.own k'
  goal : ∀ t, MapP.get q.1.goal t = if t ∈ q.2 then none else MapP.get s.goal t
  told : ∀ t, t ∈ q.2 → t ∈ l.map (·.1)
  mono : ∀ t m a, 0 ≤ m → m < 4 → t ∉ q.2 → may s t k m a = false → may q.1 t k m a = false
  shut : ∀ pre t m post, (l.filter fun p => !decide (p.1 ∈ q.2)) = pre ++ (t, m) :: post → may q.1 t k m (aheadOf a pre) = false
  mem : ∀ t k', t ∉ q.2 → MapP.get (q.1.own k') t = MapP.get (s.own k') t
theorem pass_ok (k : ByteArray) : ∀ (l : Row) (s : St) (a : Int), Ok0 s → (l.map (·.1)).Nodup → (∀ p ∈ l, 0 ≤ p.2 ∧ p.2 < 4) → Passed ltI ltS k l s a (pass ltI ltS k l s a)
  | [], s, a, h, _, _ => ⟨h, rfl, fun _ _ => rfl, fun t => by simp [pass], (fun t ht => by cases ht), fun _ _ _ _ _ _ h => h, fun pre t m post h => by simp at h, fun _ _ _ => rfl⟩
  | (t, m) :: r, s, a, h, hn, hl => by
    obtain ⟨m0, m1⟩ := hl (t, m) (by simp)
    have hn' := List.nodup_cons.1 hn
    have hl' : ∀ p ∈ r, 0 ≤ p.2 ∧ p.2 < 4 := fun p hp => hl p (List.mem_cons_of_mem _ hp)
    unfold pass
    by_cases hm : may s t k m a = true
    · rw [if_pos hm]
      have h1 : Ok0 (take ltI ltS s t k m) := (h.hold m0 m1 (may_true hm).2).goal (MapP.nd_del h.ndg t)
      have ih := pass_ok k r (take ltI ltS s t k m) a h1 hn'.2 hl'
      generalize pass ltI ltS k r (take ltI ltS s t k m) a = q at ih
      have htq : t ∉ q.2 := fun hq => hn'.1 (ih.told t hq)
      refine ⟨ih.ok, ih.row, fun k' hk => (ih.oth k' hk).trans (own_take_other s t m hk), fun t' => ?_, fun t' ht' => ?_, fun t' m' a' x0 x1 ht' hf => ?_, fun pre t' m' post he => ?_, fun t' k' ht' => ?_⟩
      · rw [ih.goal, show (take ltI ltS s t k m).goal = MapP.del s.goal t from rfl, MapP.get_del]
        by_cases e : t' = t
        · subst e; simp
        · simp [e]
      · rcases List.mem_cons.1 ht' with rfl | ht'
        · simp
        · exact List.mem_cons_of_mem _ (ih.told t' ht')
      · simp only [List.mem_cons, not_or] at ht'
        exact ih.mono t' m' a' x0 x1 ht'.2 (may_mono h m0 m1 x0 x1 ht'.1 hf)
      · have e : ((t, m) :: r).filter (fun p => !decide (p.1 ∈ t :: q.2)) = r.filter fun p => !decide (p.1 ∈ q.2) := by
          rw [List.filter_cons_of_neg (by simp)]
          refine List.filter_congr fun p hp => ?_
          have : p.1 ≠ t := fun e => hn'.1 (by rw [← e]; exact List.mem_map.2 ⟨p, hp, rfl⟩)
          simp [this]
        rw [e] at he
        exact ih.shut pre t' m' post he
      · simp only [List.mem_cons, not_or] at ht'
        rw [ih.mem t' k' ht'.2]
        by_cases e : k' = k
        · subst e; rw [own_take, MapP.get_put (h.nd k'), if_neg ht'.1]
        · rw [own_take_other s t m e]
    · rw [if_neg hm]
      have hm' : may s t k m a = false := by simpa using hm
      have ih := pass_ok k r s (withM a m) h hn'.2 hl'
      generalize pass ltI ltS k r s (withM a m) = q at ih
      have htq : t ∉ q.2 := fun hq => hn'.1 (ih.told t hq)
      refine ⟨ih.ok, ih.row, ih.oth, ih.goal, fun t' ht' => List.mem_cons_of_mem _ (ih.told t' ht'), ih.mono, fun pre t' m' post he => ?_, ih.mem⟩
      rw [List.filter_cons_of_pos (by simp [htq])] at he
      cases pre with
      | nil =>
        simp only [List.nil_append, List.cons.injEq, Prod.mk.injEq] at he
        obtain ⟨⟨rfl, rfl⟩, -⟩ := he
        exact ih.mono t m a m0 m1 htq hm'
      | cons y pre =>
        simp only [List.cons_append, List.cons.injEq] at he
        obtain ⟨rfl, he⟩ := he
        exact ih.shut pre t' m' post he
theorem may_own {s s' : St} (h : s'.own k = s.own k) : may s' t k m a = may s t k m a := by unfold may others set; rw [h]
/-- a key's turn -/
theorem grant_ok (h : Ok s) (k : ByteArray) : Ok (grant ltI ltS s k).1 ∧ Shut (grant ltI ltS s k).1 k ∧ (∀ k', k' ≠ k → Shut s k' → Shut (grant ltI ltS s k).1 k') ∧ (∀ t k', MapP.get s.goal t = none → MapP.get ((grant ltI ltS s k).1.own k') t = MapP.get (s.own k') t ∧ MapP.get (grant ltI ltS s k).1.goal t = none) := by
  have hp := pass_ok (ltI := ltI) (ltS := ltS) k (s.row k) s 0 h.toOk0 (h.ndr k) (h.modes k)
  unfold grant
  generalize pass ltI ltS k (s.row k) s 0 = q at hp
  have hgoal : ∀ t, t ∈ q.2 → ∃ m, MapP.get s.goal t = some (k, m) := fun t ht => by
    obtain ⟨p, hp1, rfl⟩ := List.mem_map.1 (hp.told t ht)
    exact ⟨p.2, (h.rows k p.1 p.2).1 hp1⟩
  have hrow : (cut q.1 k).row k = (s.row k).filter fun p => !decide (p.1 ∈ q.2) := by
    unfold cut
    simp only [upd_same]
    rw [hp.row]
    refine List.filter_congr fun p hp1 => ?_
    rw [MapP.has_get, hp.goal]
    have := (h.rows k p.1 p.2).1 hp1
    by_cases e : p.1 ∈ q.2
    · simp [e]
    · simp [e, this]
  have hrowo : ∀ k', k' ≠ k → (cut q.1 k).row k' = s.row k' := fun k' hk => by
    unfold cut
    simp only [upd_other _ _ hk]
    rw [hp.row]
  refine ⟨⟨hp.ok.row, fun k' t m => ?_, fun k' => ?_, fun k' p hp1 => ?_⟩, fun pre t m post he => ?_, fun k' hk hs pre t m post he => ?_, fun t k' ht => ?_⟩
  · show (t, m) ∈ (cut q.1 k).row k' ↔ MapP.get q.1.goal t = some (k', m)
    rw [hp.goal]
    by_cases e : k' = k
    · subst e
      rw [hrow, List.mem_filter, h.rows]
      by_cases e2 : t ∈ q.2
      · simp [e2]
      · simp [e2]
    · rw [hrowo k' e, h.rows]
      by_cases e2 : t ∈ q.2
      · obtain ⟨m', hm'⟩ := hgoal t e2
        simp only [e2, if_true, hm', Option.some.injEq, Prod.mk.injEq, reduceCtorEq, iff_false, not_and]
        intro e3
        exact absurd e3.symm e
      · simp [e2]
  · show (((cut q.1 k).row k').map (·.1)).Nodup
    by_cases e : k' = k
    · subst e
      rw [hrow]
      exact List.Sublist.nodup (List.Sublist.map _ List.filter_sublist) (h.ndr k')
    · rw [hrowo k' e]; exact h.ndr k'
  · have hp2 : p ∈ (cut q.1 k).row k' := hp1
    by_cases e : k' = k
    · subst e
      rw [hrow] at hp2
      exact h.modes k' p (List.mem_filter.1 hp2).1
    · rw [hrowo k' e] at hp2; exact h.modes k' p hp2
  · have he2 : (cut q.1 k).row k = pre ++ (t, m) :: post := he
    rw [hrow] at he2
    exact hp.shut pre t m post he2
  · have he2 : (cut q.1 k).row k' = pre ++ (t, m) :: post := he
    rw [hrowo k' hk] at he2
    rw [may_own (s := s) (show (cut q.1 k).own k' = s.own k' from hp.oth k' hk)]
    exact hs pre t m post he2
  · have ht2 : t ∉ q.2 := fun hq => by obtain ⟨m', hm'⟩ := hgoal t hq; rw [ht] at hm'; cases hm'
    refine ⟨hp.mem t k' ht2, ?_⟩
    show MapP.get q.1.goal t = none
    rw [hp.goal, ht]
    simp
/-- all whose turn might have come -/
theorem grantAll_ok : ∀ (l : List ByteArray) {s : St}, Ok s → (∀ k, k ∉ l → Shut s k) → Ok (grantAll ltI ltS l s).1 ∧ (∀ k, Shut (grantAll ltI ltS l s).1 k) ∧ (∀ t k', MapP.get s.goal t = none → MapP.get ((grantAll ltI ltS l s).1.own k') t = MapP.get (s.own k') t ∧ MapP.get (grantAll ltI ltS l s).1.goal t = none)
  | [], s, h, hs => ⟨h, fun k => hs k (by simp), fun _ _ h => ⟨rfl, h⟩⟩
  | k :: r, s, h, hs => by
    obtain ⟨g1, g2, g3, g4⟩ := grant_ok (ltI := ltI) (ltS := ltS) h k
    obtain ⟨r1, r2, r3⟩ := grantAll_ok r g1 (fun k' hk => by
      by_cases e : k' = k
      · subst e; exact g2
      · exact g3 k' e (hs k' (by simp [e, hk])))
    refine ⟨r1, r2, fun t k' ht => ?_⟩
    obtain ⟨a1, a2⟩ := g4 t k' ht
    obtain ⟨b1, b2⟩ := r3 t k' a2
    exact ⟨b1.trans a1, b2⟩
/-- one waits no more -/
theorem leave_ok (h : Ok s) (t : Int) : Ok (leave s t).1 ∧ (∀ k, k ∉ (leave s t).2 → Shut s k → Shut (leave s t).1 k) ∧ (leave s t).1.own = s.own ∧ (leave s t).1.mem = s.mem ∧ (∀ t', MapP.get (leave s t).1.goal t' = if t' = t then none else MapP.get s.goal t') := by
  unfold leave
  cases hg : MapP.get s.goal t with
  | none => exact ⟨h, fun _ _ h => h, rfl, rfl, fun t' => by
      by_cases e : t' = t
      · subst e; simp [hg]
      · simp [e]⟩
  | some km =>
    obtain ⟨k, m⟩ := km
    have hgd : ∀ t', MapP.get (MapP.del s.goal t) t' = if t' = t then none else MapP.get s.goal t' := fun t' => MapP.get_del t t'
    have hrow : ∀ k' p, p ∈ (upd s.row k ((s.row k).filter fun p => !decide (p = (t, m)))) k' ↔ p ∈ s.row k' ∧ (k' = k → p ≠ (t, m)) := fun k' p => by
      by_cases e : k' = k
      · subst e; rw [upd_same, List.mem_filter]; simp
      · rw [upd_other _ _ e]; simp [e]
    refine ⟨⟨(h.toOk0.goal (MapP.nd_del h.ndg t)).row, fun k' t' m' => ?_, fun k' => ?_, fun k' p hp => h.modes k' p ((hrow k' p).1 hp).1⟩, fun k' hk hs pre t' m' post he => ?_, rfl, rfl, hgd⟩
    · show (t', m') ∈ (upd s.row k _) k' ↔ MapP.get (MapP.del s.goal t) t' = some (k', m')
      rw [hrow, hgd, h.rows]
      by_cases e : t' = t
      · subst e
        rw [hg]
        simp only [if_true, Option.some.injEq, Prod.mk.injEq, reduceCtorEq, iff_false, not_and]
        rintro ⟨rfl, rfl⟩ h2
        exact absurd rfl (h2 rfl)
      · simp only [e, if_false, ne_eq, Prod.mk.injEq, false_and, not_false_eq_true, implies_true, and_true]
    · show (((upd s.row k _) k').map (·.1)).Nodup
      by_cases e : k' = k
      · subst e; rw [upd_same]; exact List.Sublist.nodup (List.Sublist.map _ List.filter_sublist) (h.ndr k')
      · rw [upd_other _ _ e]; exact h.ndr k'
    · have hne : k' ≠ k := fun e => hk (by simp [e])
      have he2 : (upd s.row k ((s.row k).filter fun p => !decide (p = (t, m)))) k' = pre ++ (t', m') :: post := he
      rw [upd_other _ _ hne] at he2
      exact hs pre t' m' post he2
/-- keys are let go of -/
theorem drop_ok (h : Ok s) (t : Int) (k : ByteArray) : Ok (drop s t k) ∧ (∀ k', k' ≠ k → Shut s k' → Shut (drop s t k) k') ∧ (drop s t k).goal = s.goal ∧ (∀ t' k', MapP.get ((drop s t k).own k') t' = if k' = k ∧ t' = t then none else MapP.get (s.own k') t') := by
  refine ⟨⟨h.toOk0.drop, h.rows, h.ndr, h.modes⟩, fun k' hk hs pre t' m' post he => ?_, rfl, fun t' k' => ?_⟩
  · rw [may_own (s := s) (show (drop s t k).own k' = s.own k' from by unfold drop; simp only [upd_other _ _ hk])]
    exact hs pre t' m' post he
  · unfold drop
    by_cases e : k' = k
    · subst e
      simp only [upd_same, true_and]
      rw [MapP.get_del]
    · simp only [upd_other _ _ e, e, false_and, if_false]
theorem drops_ok (t : Int) : ∀ (l : List ByteArray) {s : St}, Ok s → Ok (drops s t l) ∧ (∀ k', k' ∉ l → Shut s k' → Shut (drops s t l) k') ∧ (drops s t l).goal = s.goal ∧ (∀ t' k', (k' ∈ l ∧ t' = t → MapP.get ((drops s t l).own k') t' = none) ∧ (¬ (k' ∈ l ∧ t' = t) → MapP.get ((drops s t l).own k') t' = MapP.get (s.own k') t'))
  | [], s, h => ⟨h, fun _ _ h => h, rfl, fun _ _ => ⟨(fun h => by cases h.1), fun _ => rfl⟩⟩
  | k :: r, s, h => by
    obtain ⟨d1, d2, d3, d4⟩ := drop_ok h t k
    obtain ⟨r1, r2, r3, r4⟩ := drops_ok t r d1
    refine ⟨r1, fun k' hk hs => ?_, r3.trans d3, fun t' k' => ?_⟩
    · simp only [List.mem_cons, not_or] at hk
      exact r2 k' hk.2 (d2 k' hk.1 hs)
    · obtain ⟨x1, x2⟩ := r4 t' k'
      have hd : drops s t (k :: r) = drops (drop s t k) t r := rfl
      rw [hd]
      refine ⟨fun hm => ?_, fun hm => ?_⟩
      · by_cases e : k' ∈ r
        · exact x1 ⟨e, hm.2⟩
        · rw [x2 (fun h => e h.1), d4, if_pos ⟨(List.mem_cons.1 hm.1).resolve_right e, hm.2⟩]
      · rw [x2 (fun h => hm ⟨List.mem_cons_of_mem _ h.1, h.2⟩), d4, if_neg (fun h => hm ⟨by rw [h.1]; simp, h.2⟩)]
end
end LockP
end Go.Proofs.YtkkfabnehhamdaaDoor
end
section
namespace Go.Proofs.YtkkfabnehhamdaaDoor
set_option linter.unusedVariables false
namespace LockP
open ModesP
def Good (s : St) : Prop := Ok s ∧ ∀ k, Shut s k
/-- holds something, or waits -/
def On (s : St) (t : Int) : Prop := (∃ k, MapP.get (s.own k) t ≠ none) ∨ MapP.get s.goal t ≠ none
section
variable {ltI : Int → Int → Bool} {ltS : ByteArray → ByteArray → Bool} {s : St} {t : Int} {k : ByteArray} {m a : Int}
theorem good_empty : Good empty := ⟨ok_empty, fun k pre t m post h => by cases pre <;> cases h⟩
theorem off_iff : ¬ On s t ↔ (∀ k, MapP.get (s.own k) t = none) ∧ MapP.get s.goal t = none := by
  unfold On
  simp
/-- a step in which one waits no more -/
def cancel (ltI : Int → Int → Bool) (ltS : ByteArray → ByteArray → Bool) (s : St) (t : Int) (l : List ByteArray) : St × List Int := grantAll ltI ltS l (leave s t).1
theorem cancel_ok (h : Good s) (t : Int) {l : List ByteArray} (hl : ∀ k ∈ (leave s t).2, k ∈ l) : Good (cancel ltI ltS s t l).1 ∧ ∀ t', ¬ On s t' → ¬ On (cancel ltI ltS s t l).1 t' := by
  unfold cancel
  obtain ⟨l1, l2, l3, l4, l5⟩ := leave_ok h.1 t
  obtain ⟨g1, g2, g3⟩ := grantAll_ok (ltI := ltI) (ltS := ltS) l l1 (fun k hk => l2 k (fun hm => hk (hl k hm)) (h.2 k))
  refine ⟨⟨g1, g2⟩, fun t' ho => ?_⟩
  rw [off_iff] at ho ⊢
  have hg : MapP.get (leave s t).1.goal t' = none := by
    rw [l5]
    split
    · rfl
    · exact ho.2
  exact ⟨fun k => by rw [(g3 t' k hg).1, l3]; exact ho.1 k, (g3 t' ByteArray.empty hg).2⟩
/-- a step in which one lets go of all: the keys that it lets go of, in some order; those whose turn might have come -/
def ends (ltI : Int → Int → Bool) (ltS : ByteArray → ByteArray → Bool) (s : St) (t : Int) (fl l : List ByteArray) : St × List Int := grantAll ltI ltS l (drops (leave s t).1 t fl)
theorem ends_ok (h : Good s) (t : Int) {fl l : List ByteArray} (h1 : ∀ k ∈ (leave s t).2, k ∈ fl) (h2 : ∀ k, MapP.has (s.mem t) k = true → k ∈ fl) (hl : ∀ k ∈ fl, k ∈ l) :
    Good (ends ltI ltS s t fl l).1 ∧ (∀ t', ¬ On s t' → ¬ On (ends ltI ltS s t fl l).1 t') ∧ ¬ On (ends ltI ltS s t fl l).1 t := by
  unfold ends
  obtain ⟨l1, l2, l3, l4, l5⟩ := leave_ok h.1 t
  obtain ⟨d1, d2, d3, d4⟩ := drops_ok t fl l1
  obtain ⟨g1, g2, g3⟩ := grantAll_ok (ltI := ltI) (ltS := ltS) l d1 (fun k hk => d2 k (fun hm => hk (hl k hm)) (l2 k (fun hm => hk (hl k (h1 k hm))) (h.2 k)))
  have hgo : ∀ t', MapP.get s.goal t' = none ∨ t' = t → MapP.get (drops (leave s t).1 t fl).goal t' = none := fun t' ho => by
    rw [d3, l5]
    split
    · rfl
    · exact ho.resolve_right (by assumption)
  refine ⟨⟨g1, g2⟩, fun t' ho => ?_, ?_⟩
  · rw [off_iff] at ho ⊢
    have hg := hgo t' (.inl ho.2)
    refine ⟨fun k => ?_, (g3 t' ByteArray.empty hg).2⟩
    rw [(g3 t' k hg).1]
    by_cases e : k ∈ fl ∧ t' = t
    · exact (d4 t' k).1 e
    · rw [(d4 t' k).2 e, l3]; exact ho.1 k
  · rw [off_iff]
    have hg := hgo t (.inr rfl)
    refine ⟨fun k => ?_, (g3 t ByteArray.empty hg).2⟩
    rw [(g3 t k hg).1]
    by_cases e : k ∈ fl
    · exact (d4 t k).1 ⟨e, rfl⟩
    · rw [(d4 t k).2 (fun h => e h.1), l3]
      have hm : MapP.has (s.mem t) k = false := by
        cases hh : MapP.has (s.mem t) k with
        | false => rfl
        | true => exact absurd (h2 k hh) e
      rw [h.1.mems, MapP.has_get] at hm
      simpa using hm
theorem ask_ok (h : Good s) (t : Int) (k : ByteArray) (m : Int) : Good (ask ltI ltS s t k m).1 ∧ ∀ t', t' ≠ t → ¬ On s t' → ¬ On (ask ltI ltS s t k m).1 t' := by
  unfold ask
  split
  · exact ⟨h, fun _ _ h => h⟩
  rename_i hm
  have hm' : isM m = true := by simpa using hm
  obtain ⟨m0, m1⟩ := isM_iff.1 hm'
  split
  · exact ⟨h, fun _ _ h => h⟩
  rename_i hg
  have hg' : MapP.get s.goal t = none := by
    rw [Bool.not_eq_true, MapP.has_get] at hg
    simpa using hg
  split
  · exact ⟨h, fun _ _ h => h⟩
  split
  · rename_i hy
    have hmt := may_true hy
    have hto : ∀ k' m', (t, m') ∉ s.row k' := fun k' m' hin => by rw [h.1.rows, hg'] at hin; cases hin
    refine ⟨⟨⟨h.1.toOk0.hold m0 m1 hmt.2, h.1.rows, h.1.ndr, h.1.modes⟩, fun k' pre t' m' post he => ?_⟩, fun t' hne ho => ?_⟩
    · have he' : s.row k' = pre ++ (t', m') :: post := he
      have hs := h.2 k' pre t' m' post he'
      have hin : (t', m') ∈ s.row k' := by rw [he']; simp
      obtain ⟨x0, x1⟩ := h.1.modes k' _ hin
      by_cases e : k' = k
      · subst e
        rw [← may_own (s := hold ltI ltS s t k' m) (s' := take ltI ltS s t k' m) rfl]
        exact may_mono h.1.toOk0 m0 m1 x0 x1 (fun e => hto k' m' (by rw [← e]; exact hin)) hs
      · rw [may_own (s := s) (show (hold ltI ltS s t k m).own k' = s.own k' from by unfold hold; simp only [upd_other _ _ e])]
        exact hs
    · rw [off_iff] at ho ⊢
      refine ⟨fun k' => ?_, ho.2⟩
      unfold hold
      by_cases e : k' = k
      · subst e
        simp only [upd_same]
        rw [MapP.get_put (h.1.nd k'), if_neg hne]
        exact ho.1 k'
      · simp only [upd_other _ _ e]
        exact ho.1 k'
  · rename_i hy
    have hy' : may s t k m (aheadOf 0 (s.row k)) = false := by simpa using hy
    have hgp : ∀ t', MapP.get (MapP.put ltI s.goal t (k, m)) t' = if t' = t then some (k, m) else MapP.get s.goal t' := fun t' => MapP.get_put h.1.ndg t (k, m) t'
    have hto : ∀ k' m', (t, m') ∉ s.row k' := fun k' m' hin => by rw [h.1.rows, hg'] at hin; cases hin
    refine ⟨⟨⟨(h.1.toOk0.goal (MapP.nd_put h.1.ndg t (k, m))).row, fun k' t' m' => ?_, fun k' => ?_, fun k' p hp => ?_⟩, fun k' pre t' m' post he => ?_⟩, fun t' hne ho => ?_⟩
    · show (t', m') ∈ upd s.row k (s.row k ++ [(t, m)]) k' ↔ MapP.get (MapP.put ltI s.goal t (k, m)) t' = some (k', m')
      rw [hgp]
      by_cases e : k' = k
      · subst e
        rw [upd_same, List.mem_append, h.1.rows]
        by_cases e2 : t' = t
        · subst e2
          simp only [hg', reduceCtorEq, List.mem_singleton, Prod.mk.injEq, true_and, false_or, if_true, Option.some.injEq]
          exact ⟨fun h => h.symm, fun h => h.symm⟩
        · simp [e2]
      · rw [upd_other _ _ e, h.1.rows]
        by_cases e2 : t' = t
        · subst e2
          simp only [hg', reduceCtorEq, if_true, Option.some.injEq, Prod.mk.injEq, false_iff, not_and]
          intro e3
          exact absurd e3.symm e
        · simp [e2]
    · show ((upd s.row k (s.row k ++ [(t, m)]) k').map (·.1)).Nodup
      by_cases e : k' = k
      · subst e
        rw [upd_same, List.map_append, List.nodup_append]
        refine ⟨h.1.ndr k', by simp, fun x hx y hy e => ?_⟩
        obtain ⟨p, hp, rfl⟩ := List.mem_map.1 hx
        simp only [List.map_cons, List.map_nil, List.mem_singleton] at hy
        exact hto k' p.2 (by rw [← hy, ← e]; exact hp)
      · rw [upd_other _ _ e]; exact h.1.ndr k'
    · have hp' : p ∈ upd s.row k (s.row k ++ [(t, m)]) k' := hp
      by_cases e : k' = k
      · subst e
        rw [upd_same, List.mem_append] at hp'
        rcases hp' with hp' | hp'
        · exact h.1.modes k' p hp'
        · rw [List.mem_singleton.1 hp']; exact ⟨m0, m1⟩
      · rw [upd_other _ _ e] at hp'; exact h.1.modes k' p hp'
    · have he' : upd s.row k (s.row k ++ [(t, m)]) k' = pre ++ (t', m') :: post := he
      rw [may_own (s := s) (s' := wait ltI s t k m) rfl]
      by_cases e : k' = k
      · subst e
        rw [upd_same] at he'
        rcases List.append_eq_append_iff.1 he' with ⟨r, h1, h2⟩ | ⟨r, h1, h2⟩
        · cases r with
          | nil =>
            simp only [List.append_nil, List.nil_append, List.cons.injEq, Prod.mk.injEq] at h1 h2
            obtain ⟨⟨rfl, rfl⟩, -⟩ := h2
            rw [h1]
            exact hy'
          | cons y r =>
            have h3 := congrArg List.length h2
            simp at h3
        · cases r with
          | nil =>
            simp only [List.append_nil, List.nil_append, List.cons.injEq, Prod.mk.injEq] at h1 h2
            obtain ⟨⟨rfl, rfl⟩, -⟩ := h2
            rw [← h1]
            exact hy'
          | cons y r =>
            simp only [List.cons_append, List.cons.injEq] at h2
            obtain ⟨rfl, -⟩ := h2
            exact h.2 k' pre t' m' r h1
      · rw [upd_other _ _ e] at he'
        exact h.2 k' pre t' m' post he'
    · rw [off_iff] at ho ⊢
      exact ⟨ho.1, by show MapP.get (MapP.put ltI s.goal t (k, m)) t' = none; rw [hgp, if_neg hne]; exact ho.2⟩
/-- two that hold one key: their modes go together -/
theorem apart (h : Good s) {x y : Int} (hne : x ≠ y) (h0 : 0 ≤ m) (h1 : m < 4) (hm : hasM (set s k y) m = true) : fitsM (set s k x) m = true := by
  unfold set at hm ⊢
  cases hy : MapP.get (s.own k) y with
  | none => rw [hy, show ((none : Option Int).getD 0) = 0 from rfl, has_zero m h0 h1] at hm; cases hm
  | some v =>
    rw [hy] at hm
    cases hx : MapP.get (s.own k) x with
    | none => exact fits_zero m h0 h1
    | some u => exact h.1.comp k (x, u) (y, v) (MapP.get_mem hx) (MapP.get_mem hy) hne m h0 h1 hm
/-- for whom one waits, as they are come upon -/
def outs1 (s : St) (t : Int) (k : ByteArray) (m : Int) : List Int := ((s.own k).filter fun p => !decide (p.1 = t) && !fitsM p.2 m).map (·.1)
def outs2 (s : St) (t : Int) (k : ByteArray) (m : Int) : List Int := if set s k t = 0 then (((s.row k).takeWhile fun p => !decide (p.1 = t)).filter fun p => !compat p.2 m).map (·.1) else []
theorem ahead_fits : ∀ (l : Row) {a : Int}, 0 ≤ a → a < 16 → (∀ p ∈ l, 0 ≤ p.2 ∧ p.2 < 4) → 0 ≤ m → m < 4 → fitsM (aheadOf a l) m = (fitsM a m && l.all fun p => compat p.2 m)
  | [], a, _, _, _, _, _ => by simp [aheadOf]
  | p :: r, a, h0, h1, hl, h2, h3 => by
    obtain ⟨b0, b1⟩ := hl p (by simp)
    obtain ⟨c0, c1⟩ := with_pos h0 h1 b0 b1
    show fitsM (aheadOf (withM a p.2) r) m = _
    rw [ahead_fits r (Int.le_of_lt c0) c1 (fun q hq => hl q (List.mem_cons_of_mem _ hq)) h2 h3, fits_with h0 h1 b0 b1 h2 h3, List.all_cons, Bool.and_assoc]
theorem take_to : ∀ (pre post : Row) {m : Int}, (∀ p ∈ pre, p.1 ≠ t) → (pre ++ (t, m) :: post).takeWhile (fun p => !decide (p.1 = t)) = pre
  | [], post, m, _ => by rw [List.nil_append, List.takeWhile_cons]; simp
  | p :: pre, post, m, h => by
    rw [List.cons_append, List.takeWhile_cons, if_pos (by simpa using h p (by simp)), take_to pre post fun q hq => h q (List.mem_cons_of_mem _ hq)]
end
end LockP
end Go.Proofs.YtkkfabnehhamdaaDoor
end
