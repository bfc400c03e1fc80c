/-
  Parts of the proof of LocksSteps.
-/
import Derived.Test.YtkkfabnehhamdaaDoorLkS16
import Derived.Test.YtkkfabnehhamdaaDoorLkS17
section
namespace Go.Proofs.YtkkfabnehhamdaaDoor.Law13
open Go.RowKit Go.Maps LockP ModesP LockW
set_option linter.unusedVariables false
set_option linter.unusedSimpArgs false
section
variable {w0 w w' : World} {t M : Nat} {X : St}
theorem waits_ls (h : LS w0 t M X w) {u : Int} (hu : In64 u) : Calls Tryd.prog 10 #[.pointer (some ⟨t, 0, none⟩), .int .i64 u] w fun e w' => e = .returned (.tuple #[.string ((MapP.get X.goal u).getD (⟨#[]⟩, 0)).1, .int .i64 ((MapP.get X.goal u).getD (⟨#[]⟩, 0)).2, .bool (MapP.has X.goal u)]) ∧ Below w.heap.size w w' := by
  obtain ⟨N, bs, h1, h2, h3⟩ := h.lk
  exact waits_any t N bs X u w h1 hu
theorem blocks_ls (h : LS w0 t M X w) (hT : Modes.Tab w0) {u : Int} (hu : In64 u) (hM : M + 8 ≤ 1000000) : Calls Tryd.prog 11 #[.pointer (some ⟨t, 0, none⟩), .int .i64 u] w fun e w' => ∃ A n c, e = .returned (.slice A n c) ∧ Elems IntE w' w'.heap.size A n c (blocksP X u) ∧ Below w.heap.size w w' := by
  obtain ⟨N, bs, h1, h2, h3⟩ := h.lk
  refine (blocks_any t N bs X u w h1 h.good h.fit (h.tab hT) hu (by omega)).mono ?_
  rintro e w' ⟨A, n, c, rfl, hO, hb⟩
  exact ⟨A, n, c, rfl, hO.elems, hb⟩
theorem holds_ls (h : LS w0 t M X w) {u : Int} {k : ByteArray} (hu : In64 u) (hk : k.size ≤ 100) : Calls Tryd.prog 13 #[.pointer (some ⟨t, 0, none⟩), .int .i64 u, .string k] w fun e w' => e = .returned (.int .i64 (LockP.set X k u)) ∧ w = w' := by
  obtain ⟨N, bs, h1, h2, h3⟩ := h.lk
  exact holds_any t N bs X u k w h1 hu hk
end
end Go.Proofs.YtkkfabnehhamdaaDoor.Law13
end
section
namespace Go.Proofs.YtkkfabnehhamdaaDoor.LockP
open ModesP
set_option linter.unusedVariables false
set_option linter.unusedSectionVars false
/-- one that holds, or waits -/
structure H3 where
  txn : Int
  key : ByteArray
  mode : Int
structure RT where
  h : List H3
  w : List H3
def at3 (u : Int) (k : ByteArray) (e : H3) : Bool := decide (e.txn = u) && decide (e.key = k)
def on3 (k : ByteArray) (e : H3) : Bool := decide (e.key = k)
def pair3 (e : H3) : Int × Int := (e.txn, e.mode)
def setR (h : List H3) (u : Int) (k : ByteArray) : Int := h.foldl (fun s e => if at3 u k e then withM s e.mode else s) 0
/-- for whom a request waits, as they are come upon -/
def blkR (h w : List H3) (e : H3) : List Int :=
  (h.filter fun p => on3 e.key p && !decide (p.txn = e.txn) && !compat p.mode e.mode).map (·.txn) ++
    if setR h e.txn e.key = 0 then (w.filter fun p => on3 e.key p && !compat p.mode e.mode).map (·.txn) else []
def againstR (x : RT) (e : H3) (n : Nat) : List Int := SortI.sort (blkR x.h (x.w.take n) e)
def placeR (w : List H3) (u : Int) : Option Nat := w.findIdx? fun e => decide (e.txn = u)
def askR (x : RT) (e : H3) : RT × Bool × Int :=
  if isM e.mode = false then (x, false, 1) else
  if (placeR x.w e.txn).isSome then (x, false, 15) else
  if hasM (setR x.h e.txn e.key) e.mode then (x, true, 0) else
  if blkR x.h x.w e = [] then (⟨x.h ++ [e], x.w⟩, true, 0) else (⟨x.h, x.w ++ [e]⟩, false, 0)
def gR (k : ByteArray) : List H3 → List H3 → List H3 → RT × List Int
  | [], done, h => (⟨h, done⟩, [])
  | e :: r, done, h => if on3 k e && decide (blkR h done e = []) then ((gR k r done (h ++ [e])).1, e.txn :: (gR k r done (h ++ [e])).2) else gR k r (done ++ [e]) h
def grantR (x : RT) (k : ByteArray) : RT × List Int := gR k x.w [] x.h
def grantsR : List ByteArray → RT → RT × List Int
  | [], x => (x, [])
  | k :: r, x => ((grantsR r (grantR x k).1).1, (grantR x k).2 ++ (grantsR r (grantR x k).1).2)
def without (l : List H3) (u : Int) : List H3 := l.filter fun e => !decide (e.txn = u)
def cancelR (x : RT) (u : Int) : RT × List Int := grantsR (srt (x.w.map (·.key))) ⟨x.h, without x.w u⟩
def endR (x : RT) (u : Int) : RT × List Int := cancelR ⟨without x.h u, x.w⟩ u
def blocksR (x : RT) (u : Int) : List Int := match placeR x.w u with
  | none => []
  | some i => match x.w[i]? with
    | none => []
    | some e => againstR x e i
def waitingR (x : RT) : List Int := SortI.sort (x.w.map (·.txn))
def heldR (x : RT) (k : ByteArray) (m : Int) : Bool := x.h.any fun e => on3 k e && decide (e.mode = m)
/-! ### sets, as lists -/
theorem setR_ahead (u : Int) (k : ByteArray) : ∀ (h : List H3) (a : Int), h.foldl (fun s e => if at3 u k e then withM s e.mode else s) a = aheadOf a ((h.filter (at3 u k)).map pair3)
  | [], a => rfl
  | e :: r, a => by
    rw [List.foldl_cons, setR_ahead u k r, List.filter_cons]
    split
    · rfl
    · rfl
theorem setR_eq (h : List H3) (u : Int) (k : ByteArray) : setR h u k = aheadOf 0 ((h.filter (at3 u k)).map pair3) := setR_ahead u k h 0
theorem setR_snoc (h : List H3) (e : H3) (u : Int) (k : ByteArray) : setR (h ++ [e]) u k = if at3 u k e then withM (setR h u k) e.mode else setR h u k := by
  unfold setR
  rw [List.foldl_append]
  rfl
def Modes3 (h : List H3) : Prop := ∀ e ∈ h, 0 ≤ e.mode ∧ e.mode < 4
theorem modes_map {h : List H3} (hm : Modes3 h) (f : H3 → Bool) : ∀ p ∈ (h.filter f).map pair3, 0 ≤ p.2 ∧ p.2 < 4 := fun p hp => by
  obtain ⟨e, he, rfl⟩ := List.mem_map.1 hp
  exact hm e (List.mem_filter.1 he).1
theorem setR_bd {h : List H3} (hm : Modes3 h) (u : Int) (k : ByteArray) : 0 ≤ setR h u k ∧ setR h u k < 16 := by
  rw [setR_eq]
  exact ahead_bd _ (modes_map hm _) (Int.le_refl _) (by omega)
theorem setR_fits {h : List H3} (hm : Modes3 h) (u : Int) (k : ByteArray) {m : Int} (h0 : 0 ≤ m) (h1 : m < 4) : fitsM (setR h u k) m = true ↔ ∀ e ∈ h, at3 u k e = true → compat e.mode m = true := by
  rw [setR_eq, ahead_fits _ (Int.le_refl _) (by omega) (modes_map hm _) h0 h1, fits_zero m h0 h1, Bool.true_and, List.all_eq_true]
  constructor
  · intro h e he ha
    exact h (pair3 e) (List.mem_map.2 ⟨e, List.mem_filter.2 ⟨he, ha⟩, rfl⟩)
  · intro h p hp
    obtain ⟨e, he, rfl⟩ := List.mem_map.1 hp
    exact h e (List.mem_filter.1 he).1 (List.mem_filter.1 he).2
theorem aheadOf_pos : ∀ (l : Row) {a : Int}, (∀ p ∈ l, 0 ≤ p.2 ∧ p.2 < 4) → 0 ≤ a → a < 16 → l ≠ [] → 0 < aheadOf a l
  | [], a, _, _, _, h => absurd rfl h
  | [p], a, hl, h0, h1, _ => (with_pos h0 h1 (hl p (by simp)).1 (hl p (by simp)).2).1
  | p :: q :: r, a, hl, h0, h1, _ => by
    have hp := with_pos h0 h1 (hl p (by simp)).1 (hl p (by simp)).2
    exact aheadOf_pos (q :: r) (fun x hx => hl x (List.mem_cons_of_mem _ hx)) (Int.le_of_lt hp.1) hp.2 (by simp)
theorem setR_zero {h : List H3} (hm : Modes3 h) (u : Int) (k : ByteArray) : setR h u k = 0 ↔ ∀ e ∈ h, at3 u k e = false := by
  rw [setR_eq]
  constructor
  · intro h0 e he
    cases ha : at3 u k e with
    | false => rfl
    | true =>
      have := aheadOf_pos ((h.filter (at3 u k)).map pair3) (modes_map hm _) (Int.le_refl _) (by omega) (fun e0 => by
        have h1 : pair3 e ∈ (h.filter (at3 u k)).map pair3 := List.mem_map.2 ⟨e, List.mem_filter.2 ⟨he, ha⟩, rfl⟩
        rw [e0] at h1; cases h1)
      omega
  · intro hn
    have : h.filter (at3 u k) = [] := List.filter_eq_nil_iff.2 (fun e he => by rw [hn e he]; decide)
    rw [this]; rfl
theorem setR_has {h : List H3} (hm : Modes3 h) (u : Int) (k : ByteArray) {m : Int} (h0 : 0 ≤ m) (h1 : m < 4) : hasM (setR h u k) m = true ↔ ∃ e ∈ h, at3 u k e = true ∧ e.mode = m := by
  rw [setR_eq]
  have key : ∀ (l : Row) (a : Int), 0 ≤ a → a < 16 → (∀ p ∈ l, 0 ≤ p.2 ∧ p.2 < 4) → (hasM (aheadOf a l) m = true ↔ hasM a m = true ∨ ∃ p ∈ l, p.2 = m) := by
    intro l
    induction l with
    | nil => intro a _ _ _; simp [aheadOf]
    | cons p r ih =>
      intro a a0 a1 hl
      have hp := hl p (by simp)
      have hw := with_pos a0 a1 hp.1 hp.2
      show hasM (aheadOf (withM a p.2) r) m = true ↔ _
      rw [ih _ (Int.le_of_lt hw.1) hw.2 (fun q hq => hl q (List.mem_cons_of_mem _ hq)), has_with a0 a1 hp.1 hp.2 h0 h1, Bool.or_eq_true, decide_eq_true_eq]
      simp only [List.mem_cons, exists_eq_or_imp]
      constructor
      · rintro ((h | h) | h)
        · exact .inl h
        · exact .inr (.inl h)
        · exact .inr (.inr h)
      · rintro (h | h | h)
        · exact .inl (.inl h)
        · exact .inl (.inr h)
        · exact .inr h
  rw [key _ 0 (Int.le_refl _) (by omega) (modes_map hm _), has_zero m h0 h1]
  constructor
  · rintro (h | ⟨p, hp, e⟩)
    · cases h
    · obtain ⟨y, hy, rfl⟩ := List.mem_map.1 hp
      exact ⟨y, (List.mem_filter.1 hy).1, (List.mem_filter.1 hy).2, e⟩
  · rintro ⟨y, hy, ha, e⟩
    exact .inr ⟨pair3 y, List.mem_map.2 ⟨y, List.mem_filter.2 ⟨hy, ha⟩, rfl⟩, e⟩
/-! ### the likeness -/
structure SimH (s : St) (h : List H3) : Prop where
  set : ∀ k u, LockP.set s k u = setR h u k
  hm : Modes3 h
structure Sim (s : St) (x : RT) : Prop extends SimH s x.h where
  row : ∀ k, s.row k = (x.w.filter (on3 k)).map pair3
  nd : (x.w.map (·.txn)).Nodup
theorem sim_empty : Sim empty ⟨[], []⟩ := ⟨⟨fun _ _ => rfl, (fun e he => by cases he)⟩, fun _ => rfl, List.nodup_nil⟩
theorem on3_iff {k : ByteArray} {e : H3} : on3 k e = true ↔ e.key = k := by simp [on3]
theorem at3_iff {u : Int} {k : ByteArray} {e : H3} : at3 u k e = true ↔ e.txn = u ∧ e.key = k := by simp [at3]
section
variable {s : St} {hh : List H3} {u : Int} {k : ByteArray} {m : Int}
theorem own_get (h : Ok0 s) (hs : SimH s hh) : (∃ v, MapP.get (s.own k) u = some v) ↔ ∃ e ∈ hh, at3 u k e = true := by
  have h1 := set_zero h (k := k) (t := u)
  rw [hs.set k u, setR_zero hs.hm] at h1
  constructor
  · rintro ⟨v, hv⟩
    apply Classical.byContradiction
    intro hn
    have : MapP.get (s.own k) u = none := h1.1 fun e he => by
      cases ha : at3 u k e with
      | false => rfl
      | true => exact absurd ⟨e, he, ha⟩ hn
    rw [hv] at this; cases this
  · rintro ⟨e, he, ha⟩
    cases hg : MapP.get (s.own k) u with
    | some v => exact ⟨v, rfl⟩
    | none =>
      have := h1.2 hg e he
      rw [ha] at this; cases this
theorem own_val (h : Ok0 s) (hs : SimH s hh) {v : Int} (hg : MapP.get (s.own k) u = some v) : v = setR hh u k := by
  rw [← hs.set k u]
  unfold LockP.set
  rw [hg]; rfl
theorem others_iff (h : Ok0 s) (hs : SimH s hh) (h0 : 0 ≤ m) (h1 : m < 4) : others s u k m = true ↔ ∀ e ∈ hh, on3 k e = true → e.txn ≠ u → compat e.mode m = true := by
  unfold others
  rw [List.all_eq_true]
  constructor
  · intro ha e he hk hu
    obtain ⟨v, hv⟩ := (own_get h hs (k := k) (u := e.txn)).2 ⟨e, he, at3_iff.2 ⟨rfl, on3_iff.1 hk⟩⟩
    have h2 := ha (e.txn, v) (MapP.get_mem hv)
    simp only [Bool.or_eq_true, decide_eq_true_eq] at h2
    rcases h2 with h2 | h2
    · exact absurd h2 hu
    · rw [own_val h hs hv] at h2
      exact (setR_fits hs.hm _ _ h0 h1).1 h2 e he (at3_iff.2 ⟨rfl, on3_iff.1 hk⟩)
  · intro ha p hp
    simp only [Bool.or_eq_true, decide_eq_true_eq]
    by_cases e : p.1 = u
    · exact .inl e
    · right
      have hv := MapP.get_of (h.nd k) (k := p.1) (v := p.2) hp
      rw [own_val h hs hv]
      exact (setR_fits hs.hm _ _ h0 h1).2 fun y hy hat => ha y hy (on3_iff.2 (at3_iff.1 hat).2) (by rw [(at3_iff.1 hat).1]; exact e)
theorem mem_blk1 {h : List H3} {e : H3} {v : Int} : v ∈ (h.filter fun p => on3 e.key p && !decide (p.txn = e.txn) && !compat p.mode e.mode).map (·.txn) ↔ ∃ p ∈ h, p.key = e.key ∧ p.txn ≠ e.txn ∧ compat p.mode e.mode = false ∧ p.txn = v := by
  rw [List.mem_map]
  constructor
  · rintro ⟨p, hp, e1⟩
    obtain ⟨h1, h2⟩ := List.mem_filter.1 hp
    simp [on3] at h2
    exact ⟨p, h1, h2.1.1, h2.1.2, h2.2, e1⟩
  · rintro ⟨p, hp, h1, h2, h3, e1⟩
    exact ⟨p, List.mem_filter.2 ⟨hp, by simp [on3, h1, h2, h3]⟩, e1⟩
/-- may, against the lists -/
theorem may_iff (h : Ok0 s) (hs : SimH s hh) (h0 : 0 ≤ m) (h1 : m < 4) {done : List H3} (hd : Modes3 done) : may s u k m (aheadOf 0 ((done.filter (on3 k)).map pair3)) = true ↔ blkR hh done ⟨u, k, m⟩ = [] := by
  unfold may blkR
  rw [Bool.and_eq_true, others_iff h hs h0 h1, Bool.or_eq_true, Bool.not_eq_true', decide_eq_false_iff_not, hs.set k u, ahead_fits _ (Int.le_refl _) (by omega) (modes_map hd _) h0 h1, fits_zero m h0 h1, Bool.true_and, List.append_eq_nil_iff, List.map_eq_nil_iff, List.filter_eq_nil_iff, List.all_eq_true]
  constructor
  · rintro ⟨h2, h3⟩
    refine ⟨fun p hp hc => ?_, ?_⟩
    · simp only [Bool.and_eq_true, Bool.not_eq_true', decide_eq_false_iff_not] at hc
      have := h3 p hp hc.1.1 hc.1.2
      rw [hc.2] at this; cases this
    · split
      · rename_i hz
        rw [List.map_eq_nil_iff, List.filter_eq_nil_iff]
        intro p hp hc
        simp only [Bool.and_eq_true, Bool.not_eq_true'] at hc
        have := (h2.resolve_left (fun hn => hn hz)) (pair3 p) (List.mem_map.2 ⟨p, List.mem_filter.2 ⟨hp, hc.1⟩, rfl⟩)
        rw [show (pair3 p).2 = p.mode from rfl, hc.2] at this; cases this
      · rfl
  · rintro ⟨h2, h3⟩
    refine ⟨?_, fun e he hk hu => ?_⟩
    · by_cases hz : setR hh u k = 0
      · right
        rw [if_pos hz, List.map_eq_nil_iff, List.filter_eq_nil_iff] at h3
        intro p hp
        obtain ⟨e, he, rfl⟩ := List.mem_map.1 hp
        obtain ⟨h4, h5⟩ := List.mem_filter.1 he
        have := h3 e h4
        simp only [Bool.and_eq_true, Bool.not_eq_true', not_and, Bool.not_eq_false] at this
        exact this h5
      · exact .inl hz
    · have := h2 e he
      simp only [Bool.and_eq_true, Bool.not_eq_true', decide_eq_false_iff_not, not_and, Bool.not_eq_false] at this
      exact this ⟨hk, hu⟩
end
end Go.Proofs.YtkkfabnehhamdaaDoor.LockP
end
section
namespace Go.Proofs.YtkkfabnehhamdaaDoor.LockP
open ModesP
set_option linter.unusedVariables false
set_option linter.unusedSectionVars false
section
variable {ltI : Int → Int → Bool} {ltS : ByteArray → ByteArray → Bool} {s : St} {x : RT} {u : Int} {k : ByteArray} {m : Int}
theorem simH_hold (h : Ok0 s) {hh : List H3} (hs : SimH s hh) {e : H3} (hm : 0 ≤ e.mode ∧ e.mode < 4) : SimH (hold ltI ltS s e.txn e.key e.mode) (hh ++ [e]) := by
  refine ⟨fun k u => ?_, fun y hy => ?_⟩
  · rw [set_hold h, setR_snoc, ← hs.set k u]
    by_cases hc : k = e.key ∧ u = e.txn
    · rw [if_pos hc, if_pos (at3_iff.2 ⟨hc.2.symm, hc.1.symm⟩), hc.1, hc.2]
    · rw [if_neg hc, if_neg (fun h => hc ⟨(at3_iff.1 h).2.symm, (at3_iff.1 h).1.symm⟩)]
  · rcases List.mem_append.1 hy with hy | hy
    · exact hs.hm y hy
    · rw [List.mem_singleton] at hy; rw [hy]; exact hm
theorem simH_own {s' : St} {hh : List H3} (hs : SimH s hh) (ho : s'.own = s.own) : SimH s' hh := ⟨fun k u => by rw [← hs.set k u]; unfold LockP.set; rw [ho], hs.hm⟩
theorem told_sub (k : ByteArray) : ∀ (rest done h : List H3), ∀ t ∈ (gR k rest done h).2, t ∈ rest.map (·.txn)
  | [], _, _, t, ht => by cases ht
  | e :: r, done, h, t, ht => by
    unfold gR at ht
    split at ht
    · rcases List.mem_cons.1 ht with rfl | ht
      · simp
      · exact List.mem_cons_of_mem _ (told_sub k r done (h ++ [e]) t ht)
    · exact List.mem_cons_of_mem _ (told_sub k r (done ++ [e]) h t ht)
theorem on_snoc {k : ByteArray} {done : List H3} {e : H3} (ho : on3 k e = true) : ((done ++ [e]).filter (on3 k)).map pair3 = (done.filter (on3 k)).map pair3 ++ [(e.txn, e.mode)] := by
  rw [List.filter_append, List.map_append, List.filter_cons, if_pos ho]; rfl
theorem off_snoc {k : ByteArray} {done : List H3} {e : H3} (ho : ¬ on3 k e = true) : (done ++ [e]).filter (on3 k) = done.filter (on3 k) := by
  rw [List.filter_append, List.filter_cons, if_neg ho]; simp
/-- those that wait for a key, gone through: told alike, held alike -/
theorem pass_gR (k : ByteArray) : ∀ (rest done hh : List H3) (s : St), Ok0 s → SimH s hh → Modes3 done → Modes3 rest →
    (pass ltI ltS k ((rest.filter (on3 k)).map pair3) s (aheadOf 0 ((done.filter (on3 k)).map pair3))).2 = (gR k rest done hh).2 ∧ SimH (pass ltI ltS k ((rest.filter (on3 k)).map pair3) s (aheadOf 0 ((done.filter (on3 k)).map pair3))).1 (gR k rest done hh).1.h
  | [], done, hh, s, h, hs, _, _ => ⟨rfl, hs⟩
  | e :: r, done, hh, s, h, hs, hd, hr => by
    have hem := hr e (by simp)
    have hr' : Modes3 r := fun y hy => hr y (List.mem_cons_of_mem _ hy)
    have hd' : Modes3 (done ++ [e]) := fun y hy => by
      rcases List.mem_append.1 hy with hy | hy
      · exact hd y hy
      · rw [List.mem_singleton] at hy; rw [hy]; exact hem
    unfold gR
    by_cases ho : on3 k e = true
    · have hk := on3_iff.1 ho
      rw [List.filter_cons, if_pos ho, List.map_cons, ho, Bool.true_and]
      have hmay := may_iff h hs (u := e.txn) (k := k) hem.1 hem.2 hd
      have hb : blkR hh done e = blkR hh done ⟨e.txn, k, e.mode⟩ := by rw [← hk]
      rw [← hb] at hmay
      unfold pass
      show (if may s e.txn k e.mode _ = true then _ else _ : St × List Int).2 = _ ∧ _
      by_cases hm : may s e.txn k e.mode (aheadOf 0 ((done.filter (on3 k)).map pair3)) = true
      · have h1 : Ok0 (take ltI ltS s e.txn k e.mode) := (h.hold hem.1 hem.2 (may_true hm).2).goal (MapP.nd_del h.ndg _)
        have hs1 : SimH (take ltI ltS s e.txn k e.mode) (hh ++ [e]) := by
          have h2 := simH_hold (ltI := ltI) (ltS := ltS) h hs (e := e) hem
          rw [hk] at h2
          exact simH_own h2 rfl
        obtain ⟨i1, i2⟩ := pass_gR k r done (hh ++ [e]) _ h1 hs1 hd hr'
        rw [if_pos hm, if_pos (by simpa using hmay.1 hm)]
        exact ⟨congrArg (List.cons e.txn) i1, by
          show SimH (if may s e.txn k e.mode _ = true then _ else _ : St × List Int).1 _
          rw [if_pos hm]
          exact i2⟩
      · obtain ⟨i1, i2⟩ := pass_gR k r (done ++ [e]) hh s h hs hd' hr'
        have ha : aheadOf 0 (((done ++ [e]).filter (on3 k)).map pair3) = withM (aheadOf 0 ((done.filter (on3 k)).map pair3)) e.mode := by
          rw [on_snoc ho]; simp [aheadOf]
        rw [ha] at i1 i2
        rw [if_neg hm, if_neg (fun hc => hm (hmay.2 (by simpa using hc)))]
        exact ⟨i1, by
          show SimH (if may s e.txn k e.mode _ = true then _ else _ : St × List Int).1 _
          rw [if_neg hm]
          exact i2⟩
    · have hof : on3 k e = false := by simpa using ho
      obtain ⟨i1, i2⟩ := pass_gR k r (done ++ [e]) hh s h hs hd' hr'
      rw [off_snoc ho] at i1 i2
      rw [List.filter_cons, if_neg ho, hof, Bool.false_and, if_neg (by decide)]
      exact ⟨i1, i2⟩
/-- who waits then -/
theorem gR_w (k : ByteArray) : ∀ (rest done hh : List H3), (rest.map (·.txn)).Nodup → (gR k rest done hh).1.w = done ++ rest.filter fun e => !(on3 k e && decide (e.txn ∈ (gR k rest done hh).2))
  | [], done, hh, _ => by simp [gR]
  | e :: r, done, hh, hn => by
    have hn' := List.nodup_cons.1 hn
    unfold gR
    by_cases hc : (on3 k e && decide (blkR hh done e = [])) = true
    · rw [if_pos hc]
      have ho : on3 k e = true := by rw [Bool.and_eq_true] at hc; exact hc.1
      have ih := gR_w k r done (hh ++ [e]) hn'.2
      show (gR k r done (hh ++ [e])).1.w = _
      rw [ih, List.filter_cons, if_neg (by simp [ho])]
      congr 1
      apply List.filter_congr
      intro y hy
      have hne : y.txn ≠ e.txn := fun e1 => hn'.1 (by show e.txn ∈ r.map (·.txn); rw [← e1]; exact List.mem_map.2 ⟨y, hy, rfl⟩)
      simp [hne]
    · rw [if_neg hc]
      have ih := gR_w k r (done ++ [e]) hh hn'.2
      have hnt : e.txn ∉ (gR k r (done ++ [e]) hh).2 := fun ht => hn'.1 (told_sub k r _ _ _ ht)
      rw [ih, List.filter_cons, if_pos (by simp [hnt]), List.append_assoc]
      rfl
theorem grant_sim (h : Ok s) (hs : Sim s x) (k : ByteArray) : (grant ltI ltS s k).2 = (grantR x k).2 ∧ Sim (grant ltI ltS s k).1 (grantR x k).1 := by
  have hmw : Modes3 x.w := fun e he => by
    have h1 : pair3 e ∈ s.row e.key := by rw [hs.row]; exact List.mem_map.2 ⟨e, List.mem_filter.2 ⟨he, on3_iff.2 rfl⟩, rfl⟩
    exact h.modes e.key _ h1
  obtain ⟨p1, p2⟩ := pass_gR (ltI := ltI) (ltS := ltS) k x.w [] x.h s h.toOk0 hs.toSimH (fun e he => by cases he) hmw
  have hp := pass_ok (ltI := ltI) (ltS := ltS) k (s.row k) s 0 h.toOk0 (h.ndr k) (h.modes k)
  have hw := gR_w k x.w [] x.h hs.nd
  have hr : (x.w.filter (on3 k)).map pair3 = s.row k := (hs.row k).symm
  rw [hr] at p1 p2
  change (pass ltI ltS k (s.row k) s 0).2 = _ at p1
  change SimH (pass ltI ltS k (s.row k) s 0).1 _ at p2
  unfold grant cut grantR
  generalize pass ltI ltS k (s.row k) s 0 = q at p1 p2 hp ⊢
  refine ⟨p1, ⟨simH_own p2 rfl, fun k' => ?_, ?_⟩⟩
  · show upd q.1.row k ((q.1.row k).filter fun p => MapP.has q.1.goal p.1) k' = _
    rw [hp.row]
    rw [hw, List.nil_append, List.filter_filter]
    by_cases e : k' = k
    · subst e
      rw [upd_same, hs.row k', List.filter_map, List.filter_filter]
      congr 1
      apply List.filter_congr
      intro y hy
      by_cases ho : on3 k' y = true
      · have hin : pair3 y ∈ s.row k' := by rw [hs.row]; exact List.mem_map.2 ⟨y, List.mem_filter.2 ⟨hy, ho⟩, rfl⟩
        have hgo := (h.rows k' y.txn y.mode).1 hin
        have : MapP.has q.1.goal y.txn = !decide (y.txn ∈ (gR k' x.w [] x.h).2) := by
          rw [MapP.has_get, hp.goal, p1]
          by_cases ht : y.txn ∈ (gR k' x.w [] x.h).2
          · rw [if_pos ht]; simp [ht]
          · rw [if_neg ht, hgo]; simp [ht]
        simp only [Function.comp, pair3, ho, Bool.true_and, Bool.and_true]
        rw [this]
      · have ho' : on3 k' y = false := by simpa using ho
        simp [ho']
    · rw [upd_other _ _ e, hs.row k']
      congr 1
      apply List.filter_congr
      intro y hy
      by_cases ho : on3 k' y = true
      · have : on3 k y = false := by
          cases hk : on3 k y with
          | false => rfl
          | true => exact absurd ((on3_iff.1 ho).symm.trans (on3_iff.1 hk)) e
        simp [ho, this]
      · have ho' : on3 k' y = false := by simpa using ho
        simp [ho']
  · rw [hw, List.nil_append]
    exact List.Sublist.nodup (List.Sublist.map _ List.filter_sublist) hs.nd
theorem grants_sim : ∀ (l : List ByteArray) {s : St} {x : RT}, Ok s → Sim s x → (grantAll ltI ltS l s).2 = (grantsR l x).2 ∧ Sim (grantAll ltI ltS l s).1 (grantsR l x).1
  | [], s, x, h, hs => ⟨rfl, hs⟩
  | k :: r, s, x, h, hs => by
    obtain ⟨g1, g2⟩ := grant_sim (ltI := ltI) (ltS := ltS) h hs k
    obtain ⟨i1, i2⟩ := grants_sim r (grant_ok (ltI := ltI) (ltS := ltS) h k).1 g2
    exact ⟨by show _ ++ _ = _ ++ _; rw [g1, i1], i2⟩
/-- where nobody's turn has come -/
theorem pass_shut (k : ByteArray) : ∀ (l : Row) (s : St) (a : Int), (∀ pre t m post, l = pre ++ (t, m) :: post → may s t k m (aheadOf a pre) = false) → pass ltI ltS k l s a = (s, [])
  | [], s, a, _ => rfl
  | (t, m) :: r, s, a, h => by
    unfold pass
    have h0 := h [] t m r rfl
    rw [if_neg (by rw [show may s t k m a = false from h0]; decide)]
    exact pass_shut k r s (withM a m) fun pre t' m' post he => h ((t, m) :: pre) t' m' post (by rw [he]; rfl)
theorem grant_shut (h : Ok s) (k : ByteArray) (hsh : Shut s k) : grant ltI ltS s k = (s, []) := by
  unfold grant
  rw [pass_shut k (s.row k) s 0 hsh]
  have : cut s k = s := by
    unfold cut
    have h1 : (s.row k).filter (fun p => MapP.has s.goal p.1) = s.row k := List.filter_eq_self.2 (h.has k)
    rw [h1]
    obtain ⟨o, m, r, g⟩ := s
    dsimp only
    congr 1
    funext k'
    by_cases e : k' = k
    · subst e; rw [upd_same]
    · rw [upd_other _ _ e]
  rw [this]
/-- keys where nobody's turn has come may be left out -/
theorem grantAll_filter (f : ByteArray → Bool) : ∀ (l : List ByteArray) {s : St}, Ok s → l.Nodup → (∀ k ∈ l, f k = false → Shut s k) → grantAll ltI ltS l s = grantAll ltI ltS (l.filter f) s
  | [], s, _, _, _ => rfl
  | k :: r, s, h, hn, hf => by
    have hn' := List.nodup_cons.1 hn
    obtain ⟨g1, g2, g3, -⟩ := grant_ok (ltI := ltI) (ltS := ltS) h k
    have ih := grantAll_filter f r g1 hn'.2 (fun k' hk' hf' => g3 k' (fun e => hn'.1 (by rw [← e]; exact hk')) (hf k' (List.mem_cons_of_mem _ hk') hf'))
    by_cases hk : f k = true
    · rw [List.filter_cons, if_pos hk]
      unfold grantAll
      rw [ih]
    · have hk' : f k = false := by simpa using hk
      have hg := grant_shut (ltI := ltI) (ltS := ltS) h k (hf k (by simp) hk')
      rw [hg] at ih
      rw [List.filter_cons, if_neg hk, ← ih]
      show ((grantAll ltI ltS r (grant ltI ltS s k).1).1, (grant ltI ltS s k).2 ++ (grantAll ltI ltS r (grant ltI ltS s k).1).2) = _
      rw [hg]
      rfl
theorem srt_nodup (l : List ByteArray) : (srt l).Nodup := by
  unfold srt txts
  refine List.Pairwise.map _ (fun a b h e => ?_) (SortP.sort_spec (raw l)).1
  have h1 : (txt a).data.toList = (txt b).data.toList := by rw [e]
  have : a = b := by simpa [txt] using h1
  exact SortP.lt_ne h this
/-- in order, and filtered: one list -/
theorem srt_filter (f : ByteArray → Bool) (l : List ByteArray) : (srt l).filter f = srt (l.filter f) := by
  unfold srt txts
  rw [List.filter_map]
  congr 1
  refine SortP.ext ((SortP.sort_spec (raw l)).1.sublist List.filter_sublist) (SortP.sort_spec _).1 fun y => ?_
  rw [List.mem_filter, (SortP.sort_spec _).2, (SortP.sort_spec _).2]
  unfold raw
  rw [List.mem_map, List.mem_map]
  constructor
  · rintro ⟨⟨z, hz, e⟩, hf⟩
    refine ⟨z, List.mem_filter.2 ⟨hz, ?_⟩, e⟩
    have : txt y = z := by rw [← e]; simp [txt]
    rw [← this]; exact hf
  · rintro ⟨z, hz, e⟩
    obtain ⟨hz, hf⟩ := List.mem_filter.1 hz
    refine ⟨⟨z, hz, e⟩, ?_⟩
    have : txt y = z := by rw [← e]; simp [txt]
    show f (txt y) = true
    rw [this]; exact hf
theorem grantAll_srt (h : Ok s) {l1 l2 : List ByteArray} (h1 : ∀ k ∈ l1, k ∉ l2 → Shut s k) (h2 : ∀ k ∈ l2, k ∉ l1 → Shut s k) : grantAll ltI ltS (srt l1) s = grantAll ltI ltS (srt l2) s := by
  rw [grantAll_filter (inL l2) (srt l1) h (srt_nodup l1) (fun k hk hf => h1 k (mem_srt.1 hk) (fun hm => by rw [inL_iff.2 hm] at hf; cases hf)),
    grantAll_filter (inL l1) (srt l2) h (srt_nodup l2) (fun k hk hf => h2 k (mem_srt.1 hk) (fun hm => by rw [inL_iff.2 hm] at hf; cases hf)), srt_filter, srt_filter]
  rw [srt_congr (fun k => ?_)]
  rw [List.mem_filter, List.mem_filter, inL_iff, inL_iff]
  exact And.comm
end
end Go.Proofs.YtkkfabnehhamdaaDoor.LockP
end
section
namespace Go.Proofs.YtkkfabnehhamdaaDoor.LockP
open ModesP
set_option linter.unusedVariables false
set_option linter.unusedSectionVars false
section
variable {ltI : Int → Int → Bool} {ltS : ByteArray → ByteArray → Bool} {s : St} {x : RT} {u : Int} {k : ByteArray} {m : Int}
theorem w_iff (h : Ok s) (hs : Sim s x) : MapP.get s.goal u = some (k, m) ↔ ∃ e ∈ x.w, e.txn = u ∧ e.key = k ∧ e.mode = m := by
  rw [← h.rows k u m, hs.row, List.mem_map]
  constructor
  · rintro ⟨e, he, hp⟩
    obtain ⟨h1, h2⟩ := List.mem_filter.1 he
    unfold pair3 at hp
    injection hp with h3 h4
    exact ⟨e, h1, h3, on3_iff.1 h2, h4⟩
  · rintro ⟨e, he, h1, h2, h3⟩
    exact ⟨e, List.mem_filter.2 ⟨he, on3_iff.2 h2⟩, by unfold pair3; rw [h1, h3]⟩
theorem place_none {w : List H3} : placeR w u = none ↔ ∀ e ∈ w, e.txn ≠ u := by
  unfold placeR
  rw [List.findIdx?_eq_none_iff]
  constructor
  · intro h e he
    simpa using h e he
  · intro h e he
    simpa using h e he
theorem place_has (h : Ok s) (hs : Sim s x) : (placeR x.w u).isSome = MapP.has s.goal u := by
  rw [MapP.has_get]
  cases hg : MapP.get s.goal u with
  | none =>
    have : placeR x.w u = none := place_none.2 fun e he e1 => by
      have := (w_iff h hs).2 ⟨e, he, e1, rfl, rfl⟩
      rw [hg] at this; cases this
    rw [this]; rfl
  | some g =>
    obtain ⟨k, m⟩ := g
    obtain ⟨e, he, e1, -, -⟩ := (w_iff h hs).1 hg
    cases hp : placeR x.w u with
    | none => exact absurd e1 (place_none.1 hp e he)
    | some i => rfl
theorem w_modes (h : Ok s) (hs : Sim s x) : Modes3 x.w := fun e he => by
  have h1 : pair3 e ∈ s.row e.key := by rw [hs.row]; exact List.mem_map.2 ⟨e, List.mem_filter.2 ⟨he, on3_iff.2 rfl⟩, rfl⟩
  exact h.modes e.key _ h1
theorem ask_sim (h : Ok s) (hs : Sim s x) (e : H3) : (ask ltI ltS s e.txn e.key e.mode).2 = (askR x e).2 ∧ Sim (ask ltI ltS s e.txn e.key e.mode).1 (askR x e).1 := by
  unfold ask askR
  cases hm : isM e.mode with
  | false =>
    simp only [if_true]
    exact ⟨trivial, hs⟩
  | true =>
    simp only [Bool.true_eq_false, if_false]
    obtain ⟨m0, m1⟩ := isM_iff.1 hm
    rw [place_has h hs]
    cases hp : MapP.has s.goal e.txn with
    | true =>
      simp only [if_true]
      exact ⟨trivial, hs⟩
    | false =>
      simp only [Bool.false_eq_true, if_false]
      rw [hs.set]
      cases hh : hasM (setR x.h e.txn e.key) e.mode with
      | true =>
        simp only [if_true]
        exact ⟨trivial, hs⟩
      | false =>
        simp only [Bool.false_eq_true, if_false]
        have hmay := may_iff h.toOk0 hs.toSimH (u := e.txn) (k := e.key) m0 m1 (w_modes h hs)
        rw [← hs.row e.key] at hmay
        by_cases hc : blkR x.h x.w e = []
        · rw [if_pos (hmay.2 hc), if_pos hc]
          exact ⟨rfl, ⟨simH_hold h.toOk0 hs.toSimH ⟨m0, m1⟩, hs.row, hs.nd⟩⟩
        · rw [if_neg (fun hy => hc (hmay.1 hy)), if_neg hc]
          refine ⟨rfl, ⟨simH_own hs.toSimH rfl, fun k' => ?_, ?_⟩⟩
          · show upd s.row e.key (s.row e.key ++ [(e.txn, e.mode)]) k' = ((x.w ++ [e]).filter (on3 k')).map pair3
            by_cases ek : k' = e.key
            · subst ek
              rw [upd_same, on_snoc (on3_iff.2 rfl), hs.row]
            · rw [upd_other _ _ ek, off_snoc (fun h1 => ek (on3_iff.1 h1).symm), hs.row]
          · show ((x.w ++ [e]).map (·.txn)).Nodup
            rw [List.map_append, List.nodup_append]
            refine ⟨hs.nd, by simp, fun a ha b hb => ?_⟩
            simp only [List.map_cons, List.map_nil, List.mem_singleton] at hb
            subst hb
            rintro rfl
            obtain ⟨y, hy, e1⟩ := List.mem_map.1 ha
            have hpn : placeR x.w e.txn = none := by
              have := place_has h hs (u := e.txn)
              rw [hp] at this
              cases hq : placeR x.w e.txn with
              | none => rfl
              | some i => rw [hq] at this; cases this
            exact place_none.1 hpn y hy e1
theorem without_none {l : List H3} (h : ∀ e ∈ l, e.txn ≠ u) : without l u = l := List.filter_eq_self.2 fun e he => by simpa using h e he
theorem leave_sim (h : Ok s) (hs : Sim s x) (u : Int) : Sim (leave s u).1 ⟨x.h, without x.w u⟩ := by
  have hnd : ((without x.w u).map (·.txn)).Nodup := List.Sublist.nodup (List.Sublist.map _ List.filter_sublist) hs.nd
  unfold leave
  cases hg : MapP.get s.goal u with
  | none =>
    have hw : without x.w u = x.w := without_none fun e he e1 => by
      have := (w_iff h hs).2 ⟨e, he, e1, rfl, rfl⟩
      rw [hg] at this; cases this
    rw [hw]
    exact hs
  | some g =>
    obtain ⟨k, m⟩ := g
    refine ⟨simH_own hs.toSimH rfl, fun k' => ?_, hnd⟩
    show upd s.row k ((s.row k).filter fun p => !decide (p = (u, m))) k' = ((without x.w u).filter (on3 k')).map pair3
    unfold without
    rw [List.filter_filter]
    have huniq : ∀ e ∈ x.w, e.txn = u → e.key = k ∧ e.mode = m := fun e he e1 => by
      have := (w_iff h hs).2 ⟨e, he, e1, rfl, rfl⟩
      rw [hg] at this
      injection this with this
      injection this with h1 h2
      exact ⟨h1.symm, h2.symm⟩
    by_cases ek : k' = k
    · subst ek
      rw [upd_same, hs.row, List.filter_map, List.filter_filter]
      congr 1
      apply List.filter_congr
      intro y hy
      by_cases ey : y.txn = u
      · have := huniq y hy ey
        simp [pair3, ey, this.2]
      · simp [pair3, ey]
    · rw [upd_other _ _ ek, hs.row]
      congr 1
      apply List.filter_congr
      intro y hy
      by_cases ey : y.txn = u
      · have := (huniq y hy ey).1
        have : on3 k' y = false := by simp [on3, this]; exact fun e => ek e.symm
        simp [this]
      · simp [ey]
theorem leave_keys (h : Ok s) (hs : Sim s x) (u : Int) : ∀ k ∈ (leave s u).2, k ∈ x.w.map (·.key) := by
  unfold leave
  cases hg : MapP.get s.goal u with
  | none => intro k hk; cases hk
  | some g =>
    obtain ⟨k, m⟩ := g
    intro k' hk
    rw [List.mem_singleton.1 hk]
    obtain ⟨e, he, -, h2, -⟩ := (w_iff h hs).1 hg
    exact List.mem_map.2 ⟨e, he, h2⟩
theorem cancel_sim (h : Good s) (hs : Sim s x) (u : Int) : (cancelP ltI ltS s u).2 = (cancelR x u).2 ∧ Sim (cancelP ltI ltS s u).1 (cancelR x u).1 := by
  obtain ⟨l1, l2, -⟩ := leave_ok h.1 u
  have hl := leave_sim h.1 hs u
  have he : cancelP ltI ltS s u = grantAll ltI ltS (srt (x.w.map (·.key))) (leave s u).1 := by
    unfold cancelP cancel
    exact grantAll_srt l1 (fun k hk hn => absurd (leave_keys h.1 hs u k hk) hn) (fun k _ hn => l2 k hn (h.2 k))
  rw [he]
  exact grants_sim _ l1 hl
theorem setR_without (h : List H3) (u v : Int) (k : ByteArray) : setR (without h u) v k = if v = u then 0 else setR h v k := by
  rw [setR_eq, setR_eq]
  unfold without
  rw [List.filter_filter]
  by_cases e : v = u
  · rw [if_pos e]
    have : h.filter (fun a => at3 v k a && !decide (a.txn = u)) = [] := List.filter_eq_nil_iff.2 fun y _ hc => by
      simp [at3] at hc
      exact hc.2 (hc.1.1.trans e)
    rw [this]; rfl
  · rw [if_neg e]
    congr 2
    apply List.filter_congr
    intro y _
    by_cases ey : y.txn = v
    · simp [at3, ey, e]
    · simp [at3, ey]
theorem end_sim (h : Good s) (hs : Sim s x) (u : Int) : (endP ltI ltS s u).2 = (endR x u).2 ∧ Sim (endP ltI ltS s u).1 (endR x u).1 := by
  obtain ⟨l1, l2, l3, l4, -⟩ := leave_ok h.1 u
  obtain ⟨d1, d2, d3, d4⟩ := drops_ok u (freeOf s u) l1
  have hl := leave_sim h.1 hs u
  have hrow : (drops (leave s u).1 u (freeOf s u)).row = (leave s u).1.row := by rw [drops_eq]
  have hfree : ∀ k, MapP.get (s.own k) u ≠ none → k ∈ freeOf s u := fun k hn => by
    refine List.mem_append_right _ (mem_keys.2 ?_)
    rw [h.1.mems, MapP.has_get]
    cases hq : MapP.get (s.own k) u with
    | none => exact absurd hq hn
    | some v => rfl
  have hd : Sim (drops (leave s u).1 u (freeOf s u)) ⟨without x.h u, without x.w u⟩ := by
    refine ⟨⟨fun k v => ?_, fun e he => hs.hm e (List.mem_filter.1 he).1⟩, fun k => by rw [hrow]; exact hl.row k, hl.nd⟩
    rw [setR_without]
    have hv := hs.set k v
    unfold LockP.set at hv ⊢
    by_cases e : v = u
    · subst e
      rw [if_pos rfl]
      by_cases hk : k ∈ freeOf s v
      · rw [(d4 v k).1 ⟨hk, rfl⟩]; rfl
      · rw [(d4 v k).2 (fun hc => hk hc.1), l3]
        cases hq : MapP.get (s.own k) v with
        | none => rfl
        | some z => exact absurd (hfree k (by rw [hq]; simp)) hk
    · rw [if_neg e, (d4 v k).2 (fun hc => e hc.2), l3]
      exact hv
  have he : endP ltI ltS s u = grantAll ltI ltS (srt (x.w.map (·.key))) (drops (leave s u).1 u (freeOf s u)) := by
    unfold endP ends
    refine grantAll_srt d1 (fun k hk hn => ?_) (fun k hk hn => d2 k hn (l2 k (fun hm => hn (List.mem_append_left _ hm)) (h.2 k)))
    intro pre t m post hr
    rw [hd.row k] at hr
    have : (without x.w u).filter (on3 k) = [] := List.filter_eq_nil_iff.2 fun y hy hc => hn (List.mem_map.2 ⟨y, (List.mem_filter.1 hy).1, on3_iff.1 hc⟩)
    rw [this] at hr
    cases pre <;> cases hr
  rw [he]
  exact grants_sim _ d1 hd
/-! ### what is looked at -/
theorem waiting_sim (h : Ok s) (hs : Sim s x) : (s.goal.map (·.1)).mergeSort (fun x y => decide (x ≤ y)) = waitingR x := by
  have tr : ∀ a b c : Int, decide (a ≤ b) = true → decide (b ≤ c) = true → decide (a ≤ c) = true := fun a b c h1 h2 => by simp only [decide_eq_true_eq] at *; omega
  have to : ∀ a b : Int, (decide (a ≤ b) || decide (b ≤ a)) = true := fun a b => by simp only [Bool.or_eq_true, decide_eq_true_eq]; omega
  have hnd : ((s.goal.map (·.1)).mergeSort (fun x y => decide (x ≤ y))).Nodup := ((List.mergeSort_perm _ _).nodup_iff).2 h.ndg
  refine SortI.ext ?_ (SortI.sort_spec _).1 fun v => ?_
  · have hp := List.pairwise_mergeSort tr to (s.goal.map (·.1))
    refine (hp.and hnd).imp fun ⟨h1, h2⟩ => ?_
    simp only [decide_eq_true_eq] at h1
    show (_ : Int) < _
    omega
  · unfold waitingR
    rw [List.mem_mergeSort, (SortI.sort_spec _).2, List.mem_map, List.mem_map]
    constructor
    · rintro ⟨p, hp, rfl⟩
      obtain ⟨e, he, e1, -, -⟩ := (w_iff h hs).1 (MapP.get_of h.ndg (k := p.1) (v := p.2) hp)
      exact ⟨e, he, e1⟩
    · rintro ⟨e, he, rfl⟩
      exact ⟨_, MapP.get_mem ((w_iff h hs).2 ⟨e, he, rfl, rfl, rfl⟩), rfl⟩
theorem held_sim (h : Ok s) (hs : Sim s x) (k : ByteArray) (m : Int) (h0 : 0 ≤ m) (h1 : m < 4) : ((s.own k).any fun p => hasM p.2 m) = heldR x k m := by
  unfold heldR
  rw [Bool.eq_iff_iff, List.any_eq_true, List.any_eq_true]
  constructor
  · rintro ⟨p, hp, hh⟩
    have hv := MapP.get_of (h.nd k) (k := p.1) (v := p.2) hp
    rw [own_val h.toOk0 hs.toSimH hv, setR_has hs.hm _ _ h0 h1] at hh
    obtain ⟨e, he, ha, hm⟩ := hh
    exact ⟨e, he, by simp [on3, (at3_iff.1 ha).2, hm]⟩
  · rintro ⟨e, he, hc⟩
    simp [on3] at hc
    obtain ⟨v, hv⟩ := (own_get h.toOk0 hs.toSimH (k := k) (u := e.txn)).2 ⟨e, he, at3_iff.2 ⟨rfl, hc.1⟩⟩
    refine ⟨(e.txn, v), MapP.get_mem hv, ?_⟩
    show hasM v m = true
    rw [own_val h.toOk0 hs.toSimH hv, setR_has hs.hm _ _ h0 h1]
    exact ⟨e, he, at3_iff.2 ⟨rfl, hc.1⟩, hc.2⟩
theorem place_some {w : List H3} {i : Nat} (hp : placeR w u = some i) : ∃ e post, w = w.take i ++ e :: post ∧ w[i]? = some e ∧ e.txn = u ∧ ∀ y ∈ w.take i, y.txn ≠ u := by
  unfold placeR at hp
  obtain ⟨hi, h1, h2⟩ := List.findIdx?_eq_some_iff_getElem.1 hp
  refine ⟨w[i], w.drop (i + 1), ?_, List.getElem?_eq_getElem hi, by simpa using h1, fun y hy => ?_⟩
  · rw [← List.drop_eq_getElem_cons hi, List.take_append_drop]
  · obtain ⟨j, hj, rfl⟩ := List.getElem_of_mem hy
    rw [List.getElem_take]
    rw [List.length_take] at hj
    have := h2 j (by omega)
    simpa using this
theorem blocks_sim (h : Ok s) (hs : Sim s x) (u : Int) : blocksP s u = blocksR x u := by
  unfold blocksP blocksR
  cases hg : MapP.get s.goal u with
  | none =>
    have hp : placeR x.w u = none := place_none.2 fun e he e1 => by
      have := (w_iff h hs).2 ⟨e, he, e1, rfl, rfl⟩
      rw [hg] at this; cases this
    rw [hp]
  | some g =>
    obtain ⟨k, m⟩ := g
    obtain ⟨e0, he0, h01, h02, h03⟩ := (w_iff h hs).1 hg
    cases hp : placeR x.w u with
    | none => exact absurd h01 (place_none.1 hp e0 he0)
    | some i =>
      obtain ⟨e, post, hw, hi, he, hpre⟩ := place_some hp
      dsimp only
      rw [hi]
      dsimp only
      have hem : e ∈ x.w := List.mem_of_getElem? hi
      have hgk := (w_iff h hs).2 ⟨e, hem, he, rfl, rfl⟩
      rw [hg] at hgk
      injection hgk with hgk
      injection hgk with hk hm
      subst hk
      subst hm
      have hmm := w_modes h hs e hem
      unfold againstR
      refine SortI.sort_congr fun v => ?_
      unfold blkR
      rw [List.mem_append, List.mem_append]
      have h1 : v ∈ outs1 s u e.key e.mode ↔ v ∈ (x.h.filter fun p => on3 e.key p && !decide (p.txn = e.txn) && !compat p.mode e.mode).map (·.txn) := by
        rw [mem_blk1, he]
        unfold outs1
        rw [List.mem_map]
        constructor
        · rintro ⟨p, hp, rfl⟩
          obtain ⟨hp1, hp2⟩ := List.mem_filter.1 hp
          simp only [Bool.and_eq_true, Bool.not_eq_true', decide_eq_false_iff_not] at hp2
          have hv := MapP.get_of (h.nd e.key) (k := p.1) (v := p.2) hp1
          have hnf : ¬ (∀ y ∈ x.h, at3 p.1 e.key y = true → compat y.mode e.mode = true) := fun hall => by
            have := (setR_fits hs.hm p.1 e.key hmm.1 hmm.2).2 hall
            rw [← own_val h.toOk0 hs.toSimH hv, hp2.2] at this
            cases this
          obtain ⟨y, hy⟩ := Classical.not_forall.1 hnf
          obtain ⟨hy1, hy⟩ := Classical.not_imp.1 hy
          obtain ⟨hy2, hy3⟩ := Classical.not_imp.1 hy
          exact ⟨y, hy1, (at3_iff.1 hy2).2, by rw [(at3_iff.1 hy2).1]; exact hp2.1, by simpa using hy3, (at3_iff.1 hy2).1⟩
        · rintro ⟨y, hy, hk, hu, hc, rfl⟩
          obtain ⟨z, hz⟩ := (own_get h.toOk0 hs.toSimH (k := e.key) (u := y.txn)).2 ⟨y, hy, at3_iff.2 ⟨rfl, hk⟩⟩
          refine ⟨(y.txn, z), List.mem_filter.2 ⟨MapP.get_mem hz, ?_⟩, rfl⟩
          simp only [Bool.and_eq_true, Bool.not_eq_true', decide_eq_false_iff_not]
          refine ⟨hu, ?_⟩
          cases hf : fitsM z e.mode with
          | false => rfl
          | true =>
            rw [own_val h.toOk0 hs.toSimH hz, setR_fits hs.hm _ _ hmm.1 hmm.2] at hf
            rw [hf y hy (at3_iff.2 ⟨rfl, hk⟩)] at hc
            cases hc
      have h2 : outs2 s u e.key e.mode = if setR x.h e.txn e.key = 0 then ((x.w.take i).filter fun p => on3 e.key p && !compat p.mode e.mode).map (·.txn) else [] := by
        unfold outs2
        rw [hs.set, he]
        split
        · have hr : s.row e.key = ((x.w.take i).filter (on3 e.key)).map pair3 ++ (u, e.mode) :: (post.filter (on3 e.key)).map pair3 := by
            rw [hs.row]
            conv => lhs; rw [hw]
            rw [List.filter_append, List.filter_cons, if_pos (on3_iff.2 rfl), List.map_append, List.map_cons]
            unfold pair3
            rw [he]
          rw [hr, take_to _ _ (fun p hp => by
            obtain ⟨y, hy, rfl⟩ := List.mem_map.1 hp
            exact hpre y (List.mem_filter.1 hy).1), List.filter_map, List.filter_filter, List.map_map]
          congr 1
          apply List.filter_congr
          intro y _
          simp only [Function.comp, pair3]
          exact Bool.and_comm _ _
        · rfl
      rw [h1, h2]
theorem waits_sim (h : Ok s) (hs : Sim s x) (u : Int) : (∀ i e, placeR x.w u = some i → x.w[i]? = some e → MapP.get s.goal u = some (e.key, e.mode)) ∧ (placeR x.w u = none → MapP.get s.goal u = none) := by
  constructor
  · intro i e hp hi
    obtain ⟨e', post, hw, hi', he, -⟩ := place_some hp
    rw [hi] at hi'
    cases hi'
    exact (w_iff h hs).2 ⟨e, List.mem_of_getElem? hi, he, rfl, rfl⟩
  · intro hp
    have := place_has h hs (u := u)
    rw [hp, MapP.has_get] at this
    cases hg : MapP.get s.goal u with
    | none => rfl
    | some g => rw [hg] at this; cases this
end
end Go.Proofs.YtkkfabnehhamdaaDoor.LockP
end
