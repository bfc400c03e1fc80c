/-
  The walk of the law, with the texts that it alone needs: PModes, Modes, Live10, Tab, PTight, ModesLit, PSwap, RefTwo, RefSwap, ModesSwap, ModesSwapsW.
-/
import Derived.Test.YtghgccgpgonlmaaDoorModesSwapsRef
import Derived.Laws.BitsAllLaws
import Derived.Laws.BitsLemmas
import Derived.Test.YtghgccgpgonlmaaDoorProg
import Derived.Test.YtghgccgpgonlmaaDoorMem
import Derived.Test.YtghgccgpgonlmaaDoorRows
import Derived.OpenShut
import Derived.LaidLaws
import Derived.ChangeArms
import Derived.Test.YtghgccgpgonlmaaDoorPModel
import Derived.Test.YtghgccgpgonlmaaDoorModelR
import Derived.Test.YtghgccgpgonlmaaDoorPModel2
import Derived.Test.YtghgccgpgonlmaaDoorModelI
import Derived.Test.YtghgccgpgonlmaaDoorOpenM
namespace Go.Proofs.YtghgccgpgonlmaaDoor.ModesP

def isM (m : Int) : Bool := decide (0 ≤ m) && decide (m < 4)
def compat (a b : Int) : Bool := (a == 0 && b == 0) || ((a == 2 || a == 3) && (b == 2 || b == 3))
def ofDo (d : Int) : Int := if d = 0 then 0 else if d = 1 then 1 else if d = 2 then 1 else if d = 3 then 1 else if d = 4 then 2 else if d = 5 then 3 else -1
def commuteM (d1 : Int) (k1 : ByteArray) (d2 : Int) (k2 : ByteArray) : Bool := isM (ofDo d1) && (isM (ofDo d2) && (!(k1.toList == k2.toList) || compat (ofDo d1) (ofDo d2)))
def bitOf (m : Int) : Nat := 2 ^ m.toNat
def withM (s m : Int) : Int := ((s.toNat ||| bitOf m : Nat) : Int)
def hasM (s m : Int) : Bool := (s.toNat &&& bitOf m) != 0
def fitsUpto (s m : Int) : Nat → Bool
  | 0 => true
  | k + 1 => fitsUpto s m k && (!hasM s k || compat k m)
def fitsM (s m : Int) : Bool := fitsUpto s m 4

theorem or_i64 (a b : Nat) (ha : a < 16) (hb : b < 16) : bits .or .i64 (a : Int) (b : Int) = ((a ||| b : Nat) : Int) := by
  have h : ∀ x : Fin 16, ∀ y : Fin 16, bits .or .i64 (x.val : Int) (y.val : Int) = ((x.val ||| y.val : Nat) : Int) := by decide +kernel
  exact h ⟨a, ha⟩ ⟨b, hb⟩
theorem and_i64 (a b : Nat) (ha : a < 16) (hb : b < 16) : bits .and .i64 (a : Int) (b : Int) = ((a &&& b : Nat) : Int) := by
  have h : ∀ x : Fin 16, ∀ y : Fin 16, bits .and .i64 (x.val : Int) (y.val : Int) = ((x.val &&& y.val : Nat) : Int) := by decide +kernel
  exact h ⟨a, ha⟩ ⟨b, hb⟩

theorem four (m : Int) (h0 : 0 ≤ m) (h1 : m < 4) : m = 0 ∨ m = 1 ∨ m = 2 ∨ m = 3 := by omega

theorem withM_bd (s m : Int) (h0 : 0 ≤ s) (h1 : s < 16) (h2 : 0 ≤ m) (h3 : m < 4) : 0 ≤ withM s m ∧ withM s m < 16 := by
  have h : ∀ x : Fin 16, ∀ y : Fin 4, 0 ≤ withM (x.val : Int) (y.val : Int) ∧ withM (x.val : Int) (y.val : Int) < 16 := by decide +kernel
  have := h ⟨s.toNat, by omega⟩ ⟨m.toNat, by omega⟩
  simpa [Int.toNat_of_nonneg h0, Int.toNat_of_nonneg h2] using this

/-- what the statement ModesOrder asks of three modes -/
theorem order_all (x y z : Int) (hx0 : 0 ≤ x) (hx1 : x < 4) (hy0 : 0 ≤ y) (hy1 : y < 4) (hz0 : 0 ≤ z) (hz1 : z < 4) :
    compat y x = compat x y ∧ withM (withM 0 y) x = withM (withM 0 x) y ∧ hasM (withM (withM 0 x) y) x = true ∧ hasM (withM (withM 0 x) y) y = true ∧
    fitsM (withM (withM 0 x) y) z = (compat x z && compat y z) ∧ fitsM (withM 0 x) z = compat x z := by
  have h : ∀ a b c : Fin 4, (compat (b.val : Int) (a.val : Int) = compat (a.val : Int) (b.val : Int) ∧ withM (withM 0 (b.val : Int)) (a.val : Int) = withM (withM 0 (a.val : Int)) (b.val : Int) ∧ hasM (withM (withM 0 (a.val : Int)) (b.val : Int)) (a.val : Int) = true ∧ hasM (withM (withM 0 (a.val : Int)) (b.val : Int)) (b.val : Int) = true ∧
    fitsM (withM (withM 0 (a.val : Int)) (b.val : Int)) (c.val : Int) = (compat (a.val : Int) (c.val : Int) && compat (b.val : Int) (c.val : Int)) ∧ fitsM (withM 0 (a.val : Int)) (c.val : Int) = compat (a.val : Int) (c.val : Int)) := by decide +kernel
  have := h ⟨x.toNat, by omega⟩ ⟨y.toNat, by omega⟩ ⟨z.toNat, by omega⟩
  simpa only [Int.toNat_of_nonneg hx0, Int.toNat_of_nonneg hy0, Int.toNat_of_nonneg hz0] using this
end Go.Proofs.YtghgccgpgonlmaaDoor.ModesP
namespace Go.Proofs.YtghgccgpgonlmaaDoor.Modes
open Go.RowKit

/-- the table of package modes lies as its initialiser lays it -/
def Tab (w : World) : Prop := ∀ a b : Nat, a < 4 → b < 4 → w.cell? ⟨0, a * 4 + b, none⟩ = some (.bool (ModesP.compat a b))
theorem Tab.lt {w : World} (h : Tab w) : 0 < w.heap.size := lt_of_cell (h 0 0 (by decide) (by decide))
theorem Tab.below {B : Nat} {w w' : World} (h : Tab w) (hb : Below B w w') (hB : 0 < B) : Tab w' := fun a b ha hb' => (hb.cell (p := ⟨0, a * 4 + b, none⟩) hB).trans (h a b ha hb')

set_option maxHeartbeats 400000 in
theorem is_any (m : Int) (w : World) :
    Calls Tryd.prog 24 #[.int .i64 m] w fun e w' => e = .returned (.bool (ModesP.isM m)) ∧ w = w' := by
  unfold ModesP.isM
  go_enter Tryd.func24, Tryd.ntmps24
  go_wp2
  all_goals go_ret
  all_goals simp_all
  all_goals omega

theorem isM_yes (m : Int) (h0 : 0 ≤ m) (h1 : m < 4) : ModesP.isM m = true := by simp [ModesP.isM, h0, h1]
theorem isM_no (m : Int) (h : m < 0 ∨ 4 ≤ m) : ModesP.isM m = false := by
  unfold ModesP.isM
  rcases h with h | h
  · rw [decide_eq_false (by omega : ¬ 0 ≤ m)]; rfl
  · rw [decide_eq_false (by omega : ¬ m < 4), Bool.and_false]
theorem compat_no (a b : Int) (h : a < 0 ∨ 4 ≤ a ∨ b < 0 ∨ 4 ≤ b) : ModesP.compat a b = false := by
  cases hc : ModesP.compat a b
  · rfl
  · simp [ModesP.compat] at hc
    omega

set_option maxHeartbeats 400000 in
theorem compat_any (a b : Int) (w : World) (hT : Tab w) :
    Calls Tryd.prog 13 #[.int .i64 a, .int .i64 b] w fun e w' => e = .returned (.bool (ModesP.compat a b)) ∧ w = w' := by
  have HT := Lib.hid hT
  clear hT
  by_cases ha : 0 ≤ a ∧ a < 4
  · have ia := isM_yes a ha.1 ha.2
    by_cases hb : 0 ≤ b ∧ b < 4
    · have ib := isM_yes b hb.1 hb.2
      obtain ⟨n, rfl⟩ := Int.eq_ofNat_of_zero_le ha.1
      obtain ⟨m, rfl⟩ := Int.eq_ofNat_of_zero_le hb.1
      have hn : n < 4 := by omega
      have hm : m < 4 := by omega
      have hc := HT.out n m hn hm
      clear ha hb
      go_enter Tryd.func13, Tryd.ntmps13
      go_wp2_with (go_at_call 24; refine (is_any _ _).mono ?_; rintro e w' ⟨rfl, rfl⟩)
      go_ret
      exact ⟨rfl, rfl⟩
    · have ib := isM_no b (by omega)
      have HC := Lib.hid (compat_no a b (by omega))
      go_enter Tryd.func13, Tryd.ntmps13
      go_wp2_with (go_at_call 24; refine (is_any _ _).mono ?_; rintro e w' ⟨rfl, rfl⟩)
      go_ret
      rw [HC.out]
      exact ⟨rfl, rfl⟩
  · have ia := isM_no a (by omega)
    have HC := Lib.hid (compat_no a b (by omega))
    go_enter Tryd.func13, Tryd.ntmps13
    go_wp2_with (go_at_call 24; refine (is_any _ _).mono ?_; rintro e w' ⟨rfl, rfl⟩)
    go_ret
    rw [HC.out]
    exact ⟨rfl, rfl⟩

theorem or_at (s m : Int) (k : Nat) (h0 : 0 ≤ s) (h1 : s < 16) (hk : k < 16) (hm : ModesP.bitOf m = k) : bits .or .i64 s (k : Int) = ModesP.withM s m := by
  obtain ⟨n, rfl⟩ := Int.eq_ofNat_of_zero_le h0
  rw [ModesP.or_i64 n k (by omega) hk, ModesP.withM, hm, Int.toNat_natCast]
theorem and_at (s m : Int) (k : Nat) (h0 : 0 ≤ s) (h1 : s < 16) (hk : k < 16) (hm : ModesP.bitOf m = k) : (bits .and .i64 s (k : Int) != 0) = ModesP.hasM s m := by
  obtain ⟨n, rfl⟩ := Int.eq_ofNat_of_zero_le h0
  rw [ModesP.and_i64 n k (by omega) hk, ModesP.hasM, hm, Int.toNat_natCast, Bool.eq_iff_iff]
  simp

theorem fits_stop (s m : Int) (k j : Nat) (h : ModesP.hasM s k = true) (hc : ModesP.compat k m = false) (hk : k < j) : ModesP.fitsUpto s m j = false := by
  induction j with
  | zero => omega
  | succ j ih =>
    rcases Nat.lt_or_eq_of_le (Nat.le_of_lt_succ hk) with hl | rfl
    · simp [ModesP.fitsUpto, ih hl]
    · simp [ModesP.fitsUpto, h, hc]

set_option maxHeartbeats 400000 in
theorem of_any (d : Int) (w : World) :
    Calls Tryd.prog 23 #[.int .i64 d] w fun e w' => e = .returned (.int .i64 (ModesP.ofDo d)) ∧ w = w' := by
  unfold ModesP.ofDo
  by_cases h0 : d = 0
  · subst h0
    go_enter Tryd.func23, Tryd.ntmps23
    go_wp2
    go_ret
    exact ⟨rfl, rfl⟩
  by_cases h1 : d = 1
  · subst h1
    go_enter Tryd.func23, Tryd.ntmps23
    go_wp2
    go_ret
    exact ⟨rfl, rfl⟩
  by_cases h2 : d = 2
  · subst h2
    go_enter Tryd.func23, Tryd.ntmps23
    go_wp2
    go_ret
    exact ⟨rfl, rfl⟩
  by_cases h3 : d = 3
  · subst h3
    go_enter Tryd.func23, Tryd.ntmps23
    go_wp2
    go_ret
    exact ⟨rfl, rfl⟩
  by_cases h4 : d = 4
  · subst h4
    go_enter Tryd.func23, Tryd.ntmps23
    go_wp2
    go_ret
    exact ⟨rfl, rfl⟩
  by_cases h5 : d = 5
  · subst h5
    go_enter Tryd.func23, Tryd.ntmps23
    go_wp2
    go_ret
    exact ⟨rfl, rfl⟩
  rw [if_neg h0, if_neg h1, if_neg h2, if_neg h3, if_neg h4, if_neg h5]
  go_enter Tryd.func23, Tryd.ntmps23
  go_wp2
  go_ret
  exact ⟨rfl, rfl⟩

set_option maxHeartbeats 400000 in
theorem commute_any (d1 d2 : Int) (k1 k2 : ByteArray) (s1 lo1 hi1 n1 s2 lo2 hi2 n2 : Value) (w : World) (hT : Tab w) (hg : 0 < w.heap.size) :
    Calls Tryd.prog 11 #[.agg #[.int .i64 d1, .string k1, s1, lo1, hi1, n1], .agg #[.int .i64 d2, .string k2, s2, lo2, hi2, n2]] w
      fun e w' => e = .returned (.bool (ModesP.commuteM d1 k1 d2 k2)) ∧ Below w.heap.size w w' := by
  have HT := Lib.hid hT
  clear hT
  go_enter Tryd.func11, Tryd.ntmps11
  go_wp2
  go_quiet ((go_at_call 23; exact quietL (of_any _ _)))
  have hT2 : Hid (∀ n, Tab (((w.alloc (.cells #[.int .i64 d1, .string k1, s1, lo1, hi1, n1] 25)).alloc (.cells #[.int .i64 d2, .string k2, s2, lo2, hi2, n2] 25)).drewN n)) :=
    Lib.hid fun n => Tab.below HT.out (bdrewN (balloc (balloc (bsame w) _) _) n) hg
  go_wp2_with (first
    | (go_at_call 24; refine (is_any _ _).mono ?_; rintro e w' ⟨rfl, rfl⟩)
    | (go_at_call 13; refine (compat_any _ _ _ (hT2.out _)).mono ?_; rintro e w' ⟨rfl, rfl⟩))
  all_goals go_ret
  all_goals refine ⟨congrArg (fun b => Ending.returned (.bool b)) ?_, bdrewN (balloc (balloc (bsame w) _) _) _⟩
  all_goals simp_all [ModesP.commuteM]
end Go.Proofs.YtghgccgpgonlmaaDoor.Modes
namespace Go.Proofs.YtghgccgpgonlmaaDoor.Live10
open Go.RowKit

theorem c1 : ModesP.commuteM 4 ⟨#[97]⟩ 5 ⟨#[97]⟩ = true := by decide +kernel
theorem c2 : ModesP.commuteM 0 ⟨#[97]⟩ 4 ⟨#[97]⟩ = false := by decide +kernel

set_option maxHeartbeats 400000 in
theorem live_any (w : World) (hT : Modes.Tab w) (hg : 0 < w.heap.size) : Calls Tryd.prog 8 #[] w fun e w' => e = .returned (.bool true) ∧ Below w.heap.size w w' := by
  have HT := Lib.hid hT
  clear hT
  have h1 := c1
  have h2 := c2
  go_enter Tryd.func8, Tryd.ntmps8
  go_wp2_with fail
  refine (Modes.commute_any _ _ _ _ _ _ _ _ _ _ _ _ _ HT.out hg).mono ?_
  rintro e w1 ⟨rfl, hb⟩
  go_wp2_with fail
  refine (Modes.commute_any _ _ _ _ _ _ _ _ _ _ _ _ _ (HT.out.below hb hg) (Nat.lt_of_lt_of_le hg hb.size)).mono ?_
  rintro e w2 ⟨rfl, hb2⟩
  go_wp2_with fail
  go_ret
  exact ⟨rfl, bstep hb hb2⟩
end Go.Proofs.YtghgccgpgonlmaaDoor.Live10
namespace Go.Proofs.YtghgccgpgonlmaaDoor.Tab
open Go.RowKit

section
variable {H : Type} {enc : TypeId × Value → H} {P : Program} {w : World} {base : Nat} {sp : Nat → Bool} {held : Bool}
/-- an array of bools, read -/
theorem row_bools {fuel n : Nat} {t e : TypeId} {cs : List Value} {r : List Bool} {p : List MemPlace} (ht : P.underlying t = some (.array n e)) (he : P.underlying e = some .bool) (hce : P.cellsOf e = 1)
    (h : DataW.trod enc P w base sp held fuel t cs = some (.agg (r.map fun b => .lit (.bool b)), p)) (j : Nat) (hj : j < n) (b : Bool) (hb : r[j]? = some b) : cs[j]? = some (.bool b) := by
  obtain ⟨xs, m, _, hx, _, hl, hi⟩ := DataW.trod_array ht h
  have hj' := hi j hj
  have hxj : xs[j]? = some (xs[j]'(by omega)) := List.getElem?_eq_getElem (by omega)
  rw [hxj, hce] at hj'
  obtain ⟨b', hc, hx'⟩ := DataW.trod_bool he hj'
  have h1 : xs.map (·.1) = r.map fun b => (DataW.lit (.bool b) : DataW H) := by
    have := congrArg Prod.fst hx
    simpa using this.symm
  have h2 := congrArg (·[j]?) h1
  simp only [List.getElem?_map, hxj, hb, Option.map_some, Option.some.injEq, hx'] at h2
  have h3 : b' = b := by simpa using h2
  subst h3
  have := congrArg (·[0]?) hc
  simpa [List.getElem?_take, List.getElem?_drop] using this
/-- an array of arrays of bools, read -/
theorem rows_bools {fuel n k : Nat} {t t1 e : TypeId} {cs : List Value} {rs : List (List Bool)} {p : List MemPlace} (ht : P.underlying t = some (.array n t1)) (ht1 : P.underlying t1 = some (.array k e)) (he : P.underlying e = some .bool) (hce : P.cellsOf e = 1) (hc1 : P.cellsOf t1 = k)
    (h : DataW.trod enc P w base sp held fuel t cs = some (.agg (rs.map fun r => .agg (r.map fun b => .lit (.bool b))), p)) (i j : Nat) (hi : i < n) (hj : j < k) (r : List Bool) (b : Bool) (hr : rs[i]? = some r) (hb : r[j]? = some b) :
    cs[i * k + j]? = some (.bool b) := by
  obtain ⟨xs, m, _, hx, _, hl, hrow⟩ := DataW.trod_array ht h
  have hi' := hrow i hi
  have hxi : xs[i]? = some (xs[i]'(by omega)) := List.getElem?_eq_getElem (by omega)
  rw [hxi, hc1] at hi'
  have h1 : xs.map (·.1) = rs.map fun r => (DataW.agg (r.map fun b => .lit (.bool b)) : DataW H) := by
    have := congrArg Prod.fst hx
    simpa using this.symm
  have h2 := congrArg (·[i]?) h1
  simp only [List.getElem?_map, hxi, hr, Option.map_some, Option.some.injEq] at h2
  have h3 : xs[i]'(by omega) = (.agg (r.map fun b => .lit (.bool b)), (xs[i]'(by omega)).2) := by rw [← h2]
  rw [h3] at hi'
  have := row_bools ht1 he hce hi' j hj b hb
  rw [List.getElem?_take, if_pos hj, List.getElem?_drop] at this
  exact this
end

theorem gTab : Tryd.prog.globalNamed "moneyer/modes.together" = some 0 := by kernel_rfl
theorem gTabType : (Tryd.prog.globals[0]?).map (·.type) = some 54 := by kernel_rfl
theorem cellsRow : Tryd.prog.cellsOf 53 = 4 := by kernel_rfl
theorem cellsBool : Tryd.prog.cellsOf 4 = 1 := by kernel_rfl
def rows : List (List Bool) := [[true, false, false, false], [false, false, false, false], [false, false, true, true], [false, false, true, true]]

/-- what the row lists gives the walks -/
theorem tab_of {W : World} {rest : List (String × DataW Unit)} (h : laidMet Tryd.prog (("moneyer/modes.together", Rows.laid_moneyer_modes_together) :: rest) W) : Modes.Tab W := by
  obtain ⟨ps, ⟨g', t', cs, fuel, p, q, hg', ht', hvar, hd, _, _⟩, _⟩ := h
  obtain rfl := Option.some.inj (gTab.symm.trans hg')
  obtain rfl := Option.some.inj (gTabType.symm.trans ht')
  intro a b ha hb
  rw [World.var?_cell gTab hvar]
  have hr : ∀ a' b' : Fin 4, ∃ r, rows[a'.val]? = some r ∧ r[b'.val]? = some (ModesP.compat (a'.val : Int) (b'.val : Int)) := by
    intro a' b'
    match a', b' with
    | 0, 0 => exact ⟨_, rfl, rfl⟩
    | 0, 1 => exact ⟨_, rfl, rfl⟩
    | 0, 2 => exact ⟨_, rfl, rfl⟩
    | 0, 3 => exact ⟨_, rfl, rfl⟩
    | 1, 0 => exact ⟨_, rfl, rfl⟩
    | 1, 1 => exact ⟨_, rfl, rfl⟩
    | 1, 2 => exact ⟨_, rfl, rfl⟩
    | 1, 3 => exact ⟨_, rfl, rfl⟩
    | 2, 0 => exact ⟨_, rfl, rfl⟩
    | 2, 1 => exact ⟨_, rfl, rfl⟩
    | 2, 2 => exact ⟨_, rfl, rfl⟩
    | 2, 3 => exact ⟨_, rfl, rfl⟩
    | 3, 0 => exact ⟨_, rfl, rfl⟩
    | 3, 1 => exact ⟨_, rfl, rfl⟩
    | 3, 2 => exact ⟨_, rfl, rfl⟩
    | 3, 3 => exact ⟨_, rfl, rfl⟩
  obtain ⟨r, hr1, hr2⟩ := hr ⟨a, ha⟩ ⟨b, hb⟩
  have := rows_bools (rs := rows) Tryd.underlying54 Tryd.underlying53 Tryd.underlying4 cellsBool cellsRow hd a b ha hb r _ hr1 hr2
  simpa using this
end Go.Proofs.YtghgccgpgonlmaaDoor.Tab
namespace Go.Proofs.YtghgccgpgonlmaaDoor
open Go.RowKit
set_option linter.unusedVariables false
namespace ModelP
/-- do two operations do and tell the same from s on, whichever is the first? -/
def swapM (s : List Pair) (a b : OpX) : Bool :=
  (sameAns (step s a).2 (step (step s b).1 a).2 && sameAns (step (step s a).1 b).2 (step s b).2) && sameAll (step (step s a).1 b).1 (step (step s b).1 a).1
/-- an operation of a mode, on the key a -/
def oneP (m : Int) (n : Nat) : OpX := if m = 1 then ⟨1, ⟨#[97]⟩, [UInt8.ofNat n], 0, 0, 0⟩ else ⟨if m = 0 then 0 else if m = 2 then 4 else 5, ⟨#[97]⟩, [], 0, 0, 1⟩
def counterP : List Pair := [⟨⟨#[97]⟩, ⟨2, [], 0, 9, 3⟩⟩]
def dropP : OpX := ⟨3, ⟨#[97]⟩, [], 0, 0, 0⟩
theorem tight_both : swapM [] (oneP 1 1) (oneP 1 2) = false := by decide +kernel
theorem tight_a (b : Fin 4) (h : b.val ≠ 1) : swapM counterP dropP (oneP b.val 2) = false := by
  revert b
  decide +kernel
theorem tight_b (a : Fin 4) (h : a.val ≠ 1) : swapM counterP (oneP a.val 1) dropP = false := by
  revert a
  decide +kernel
theorem tight_no (a b : Fin 4) (ha : a.val ≠ 1) (hb : b.val ≠ 1) (hc : ModesP.compat a.val b.val = false) : swapM counterP (oneP a.val 1) (oneP b.val 2) = false := by
  revert a b
  decide +kernel
end ModelP
end Go.Proofs.YtghgccgpgonlmaaDoor
namespace Go.Proofs.YtghgccgpgonlmaaDoor
open Go.RowKit
set_option linter.unusedVariables false
theorem str12 {w : World} {b : Nat} {c0 c1 c2 c3 c4 c5 c6 c7 c8 c9 c10 c11 : Value} (h : Str w b #[c0, c1, c2, c3, c4, c5, c6, c7, c8, c9, c10, c11]) :
    w.cell? ⟨b, 0, none⟩ = some c0 ∧ w.cell? ⟨b, 1, none⟩ = some c1 ∧ w.cell? ⟨b, 2, none⟩ = some c2 ∧ w.cell? ⟨b, 3, none⟩ = some c3 ∧ w.cell? ⟨b, 4, none⟩ = some c4 ∧ w.cell? ⟨b, 5, none⟩ = some c5 ∧ w.cell? ⟨b, 6, none⟩ = some c6 ∧ w.cell? ⟨b, 7, none⟩ = some c7 ∧ w.cell? ⟨b, 8, none⟩ = some c8 ∧ w.cell? ⟨b, 9, none⟩ = some c9 ∧ w.cell? ⟨b, 10, none⟩ = some c10 ∧ w.cell? ⟨b, 11, none⟩ = some c11 :=
  ⟨h.cell 0, h.cell 1, h.cell 2, h.cell 3, h.cell 4, h.cell 5, h.cell 6, h.cell 7, h.cell 8, h.cell 9, h.cell 10, h.cell 11⟩
/-- operations typed out -/
theorem op_one {w : World} {B n c : Nat} {A : Option Addr} {x : OpX} (hy : Bytes w B A n c x.data) (hB : B ≤ w.heap.size) (hk : x.key.size ≤ maxLen) (hin : In64 x.act ∧ In64 x.lo ∧ In64 x.hi ∧ In64 x.n) : OpE.rel w w.heap.size (opV x A n c) x :=
  ⟨A, n, c, rfl, hy.more hB, hk, hin.1, hin.2.1, hin.2.2.1, hin.2.2.2⟩
theorem op_lit2 {w : World} {b na ca nb cb : Nat} {Aa Ab : Option Addr} {x y : OpX} (hs : Str w b (opV x Aa na ca ++ opV y Ab nb cb).toArray) (hx : OpE.rel w w.heap.size (opV x Aa na ca) x) (hy : OpE.rel w w.heap.size (opV y Ab nb cb) y) : OpsL w w.heap.size (some ⟨b, 0, none⟩) 2 2 [x, y] := by
  refine ⟨[opV x Aa na ca, opV y Ab nb cb], ⟨hx, hy, trivial⟩, rfl, Nat.le_refl _, by unfold maxLen; omega, fun _ => ⟨b, 0, rfl, hs.lt, fun j v hv => ?_⟩⟩
  simp only [List.flatten_cons, List.flatten_nil, List.append_nil] at hv
  rw [hs.cell, Nat.zero_add]
  simpa using hv
/-- a pair typed out -/
theorem pair_one {w : World} {b : Nat} {p : Pair} {vs : List Value} (hs : Str w b vs.toArray) (hp : PairE.rel w w.heap.size vs p) : Pairs w w.heap.size (some ⟨b, 0, none⟩) 1 1 [p] := by
  refine ⟨[vs], ⟨hp, trivial⟩, rfl, Nat.le_refl _, by unfold maxLen; omega, fun _ => ⟨b, 0, rfl, hs.lt, fun j v hv => ?_⟩⟩
  rw [List.flatten_singleton] at hv
  rw [hs.cell, Nat.zero_add]
  simpa using hv
/-- two answers of a row: their cells -/
theorem ans2_at {w : World} {B c : Nat} {A : Option Addr} {x y : Answer} (h : Elems AnsE w B A 2 c [x, y]) : ∃ b o Ax nx cx Ay ny cy, A = some ⟨b, o, none⟩ ∧ b < B ∧ Bytes w B Ax nx cx x.cell.data ∧ Bytes w B Ay ny cy y.cell.data ∧
    (w.cell? ⟨b, o, none⟩ = some (.int .i64 x.err) ∧ w.cell? ⟨b, o + 1, none⟩ = some (.int .i64 x.cell.kind) ∧ w.cell? ⟨b, o + 2, none⟩ = some (.slice Ax nx cx) ∧ w.cell? ⟨b, o + 3, none⟩ = some (.int .i64 x.cell.lo) ∧ w.cell? ⟨b, o + 4, none⟩ = some (.int .i64 x.cell.hi) ∧ w.cell? ⟨b, o + 5, none⟩ = some (.int .i64 x.cell.val)) ∧
    (w.cell? ⟨b, o + 6, none⟩ = some (.int .i64 y.err) ∧ w.cell? ⟨b, o + 7, none⟩ = some (.int .i64 y.cell.kind) ∧ w.cell? ⟨b, o + 8, none⟩ = some (.slice Ay ny cy) ∧ w.cell? ⟨b, o + 9, none⟩ = some (.int .i64 y.cell.lo) ∧ w.cell? ⟨b, o + 10, none⟩ = some (.int .i64 y.cell.hi) ∧ w.cell? ⟨b, o + 11, none⟩ = some (.int .i64 y.cell.val)) := by
  obtain ⟨b, o, vs, rfl, hb, ⟨Ax, nx, cx, rfl, hx⟩, h0⟩ := h.at_ (k := 0) (by omega)
  obtain ⟨b', o', vs, e, -, ⟨Ay, ny, cy, rfl, hy⟩, h1⟩ := h.at_ (k := 1) (by omega)
  cases e
  exact ⟨b, o, Ax, nx, cx, Ay, ny, cy, rfl, hb, hx, hy, ⟨h0 0 _ rfl, h0 1 _ rfl, h0 2 _ rfl, h0 3 _ rfl, h0 4 _ rfl, h0 5 _ rfl⟩, ⟨h1 0 _ rfl, h1 1 _ rfl, h1 2 _ rfl, h1 3 _ rfl, h1 4 _ rfl, h1 5 _ rfl⟩⟩
namespace Reg
/-- an operation -/
def opW (x : OpX) : SP ext := ⟨fun v w => ∃ A n c, v = .agg (opV x A n c).toArray ∧ Bytes w w.heap.size A n c x.data, fun _ _ _ hb ⟨A, n, c, e, h⟩ => ⟨A, n, c, e, h.next hb⟩⟩
end Reg
end Go.Proofs.YtghgccgpgonlmaaDoor
namespace Go.Proofs.YtghgccgpgonlmaaDoor
open Go.RowKit
set_option linter.unusedVariables false
namespace ModelP
theorem rises_ext : ∀ {s t : List Pair}, Rises s → Rises t → (∀ p, p ∈ s ↔ p ∈ t) → s = t
  | [], [], _, _, _ => rfl
  | [], q :: t, _, _, h => absurd ((h q).2 (by simp)) (by simp)
  | p :: s, [], _, _, h => absurd ((h p).1 (by simp)) (by simp)
  | p :: s, q :: t, hs, ht, h => by
    have hs' := List.pairwise_cons.1 hs
    have ht' := List.pairwise_cons.1 ht
    by_cases e : p = q
    · subst e
      rw [rises_ext hs'.2 ht'.2 fun r => ?_]
      constructor
      · intro hr
        rcases List.mem_cons.1 ((h r).1 (List.mem_cons_of_mem _ hr)) with rfl | h1
        · exact absurd (hs'.1 _ hr) (lt_irrefl _)
        · exact h1
      · intro hr
        rcases List.mem_cons.1 ((h r).2 (List.mem_cons_of_mem _ hr)) with rfl | h1
        · exact absurd (ht'.1 _ hr) (lt_irrefl _)
        · exact h1
    · have h1 : p ∈ t := by
        rcases List.mem_cons.1 ((h p).1 (by simp)) with h1 | h1
        · exact absurd h1 e
        · exact h1
      have h2 : q ∈ s := by
        rcases List.mem_cons.1 ((h q).2 (by simp)) with h2 | h2
        · exact absurd h2.symm e
        · exact h2
      exact absurd (lt_trans (hs'.1 _ h2) (ht'.1 _ h1)) (lt_irrefl _)
theorem find_mem {s : List Pair} {k : ByteArray} (hr : Rises s) (c : Cell) : find s k = some c ↔ (⟨k, c⟩ : Pair) ∈ s := by
  induction s with
  | nil => simp [find]
  | cons p s ih =>
    have hp := List.pairwise_cons.1 hr
    unfold find
    by_cases e : p.key = k
    · rw [if_pos e]
      constructor
      · intro h
        cases h
        subst e
        exact List.mem_cons_self
      · intro h
        rcases List.mem_cons.1 h with h | h
        · rw [← h]
        · exact absurd (by have := hp.1 _ h; rw [e] at this; exact this) (lt_irrefl k)
    · rw [if_neg e, ih hp.2]
      constructor
      · exact List.mem_cons_of_mem _
      · intro h
        rcases List.mem_cons.1 h with h | h
        · exact absurd (by rw [← h]) e
        · exact h
theorem mem_put_iff {s : List Pair} {k : ByteArray} {c : Option Cell} (hr : Rises s) (p : Pair) : p ∈ put s k c ↔ (p ∈ s ∧ p.key ≠ k) ∨ ∃ x, c = some x ∧ p = ⟨k, x⟩ := by
  obtain ⟨h1, h2⟩ := split_at s k hr
  have hsplit : ∀ q ∈ s, q.key ≠ k → q ∈ s.take (at_ s k) ∨ q ∈ (if (s[at_ s k]?).map (·.key) = some k then s.drop (at_ s k + 1) else s.drop (at_ s k)) := by
    intro q hq hk
    obtain ⟨i, hi, rfl⟩ := List.mem_iff_getElem.1 hq
    by_cases hlt : i < at_ s k
    · exact .inl (List.mem_take_iff_getElem.2 ⟨i, by omega, rfl⟩)
    · right
      split
      · rename_i hm
        by_cases he : i = at_ s k
        · rw [← he, List.getElem?_eq_getElem hi] at hm
          exact absurd (by simpa using hm) hk
        · exact List.mem_drop_iff_getElem.2 ⟨i - (at_ s k + 1), by omega, by congr 1; omega⟩
      · exact List.mem_drop_iff_getElem.2 ⟨i - at_ s k, by omega, by congr 1; omega⟩
  unfold put
  rw [List.mem_append, List.mem_append]
  constructor
  · rintro (h | h | h)
    · exact .inl ⟨List.mem_of_mem_take h, fun e => by have := h1 _ h; rw [e] at this; exact lt_irrefl _ this⟩
    · cases c with
      | none => cases h
      | some x => exact .inr ⟨x, rfl, by simpa using h⟩
    · refine .inl ⟨?_, fun e => by have := h2 _ h; rw [e] at this; exact lt_irrefl _ this⟩
      split at h <;> exact List.mem_of_mem_drop h
  · rintro (⟨h, hk⟩ | ⟨x, rfl, rfl⟩)
    · rcases hsplit p h hk with h | h
      · exact .inl h
      · exact .inr (.inr h)
    · exact .inr (.inl (by simp))
theorem find_put_other {s : List Pair} {k k' : ByteArray} (hr : Rises s) (h : k' ≠ k) (c : Option Cell) : find (put s k c) k' = find s k' := by
  refine Option.ext fun x => ?_
  rw [find_mem (put_rises s k c hr), find_mem hr, mem_put_iff hr]
  constructor
  · rintro (⟨h1, -⟩ | ⟨y, -, e⟩)
    · exact h1
    · exact absurd (congrArg Pair.key e) h
  · intro h1
    exact .inl ⟨h1, h⟩
theorem find_put_self {s : List Pair} {k : ByteArray} (hr : Rises s) (c : Option Cell) : find (put s k c) k = c := by
  refine Option.ext fun x => ?_
  rw [find_mem (put_rises s k c hr), mem_put_iff hr]
  constructor
  · rintro (⟨-, h⟩ | ⟨y, rfl, e⟩)
    · exact absurd rfl h
    · cases e; rfl
  · rintro rfl
    exact .inr ⟨x, rfl, rfl⟩
theorem put_comm {s : List Pair} {k k' : ByteArray} (hr : Rises s) (h : k ≠ k') (c c' : Option Cell) : put (put s k c) k' c' = put (put s k' c') k c := by
  refine rises_ext (put_rises _ _ _ (put_rises s k c hr)) (put_rises _ _ _ (put_rises s k' c' hr)) fun p => ?_
  rw [mem_put_iff (put_rises s k c hr), mem_put_iff hr, mem_put_iff (put_rises s k' c' hr), mem_put_iff hr]
  constructor
  · rintro (⟨⟨h1, h2⟩ | ⟨x, rfl, rfl⟩, h3⟩ | ⟨x, rfl, rfl⟩)
    · exact .inl ⟨.inl ⟨h1, h3⟩, h2⟩
    · exact .inr ⟨x, rfl, rfl⟩
    · exact .inl ⟨.inr ⟨x, rfl, rfl⟩, fun e => h e.symm⟩
  · rintro (⟨⟨h1, h2⟩ | ⟨x, rfl, rfl⟩, h3⟩ | ⟨x, rfl, rfl⟩)
    · exact .inl ⟨.inl ⟨h1, h3⟩, h2⟩
    · exact .inr ⟨x, rfl, rfl⟩
    · exact .inl ⟨.inr ⟨x, rfl, rfl⟩, h⟩
theorem put_put {s : List Pair} {k : ByteArray} (hr : Rises s) (c c' : Option Cell) : put (put s k c) k c' = put s k c' := by
  refine rises_ext (put_rises _ _ _ (put_rises s k c hr)) (put_rises s k c' hr) fun p => ?_
  rw [mem_put_iff (put_rises s k c hr), mem_put_iff hr, mem_put_iff hr]
  constructor
  · rintro (⟨⟨h1, h2⟩ | ⟨x, rfl, rfl⟩, h3⟩ | h1)
    · exact .inl ⟨h1, h3⟩
    · exact absurd rfl h3
    · exact .inr h1
  · rintro (⟨h1, h2⟩ | h1)
    · exact .inl ⟨.inl ⟨h1, h2⟩, h2⟩
    · exact .inr h1
/-- what an operation does to its key, and tells -/
def eff (t : Option Cell) (x : OpX) : Option (Option Cell) × Answer :=
  if good x = false then (none, ⟨1, CellP.none⟩)
  else if (rule t x).1 ≠ 0 then (none, ⟨(rule t x).1, CellP.none⟩)
  else (some (rule t x).2.1, ⟨0, (rule t x).2.2⟩)
def app (s : List Pair) (k : ByteArray) : Option (Option Cell) → List Pair
  | none => s
  | some c => put s k c
theorem step_eff (s : List Pair) (x : OpX) : step s x = (app s x.key (eff (find s x.key) x).1, (eff (find s x.key) x).2) := by
  unfold step eff
  split
  · rfl
  · split <;> rfl
theorem app_rises {s : List Pair} (hr : Rises s) (k : ByteArray) (e : Option (Option Cell)) : Rises (app s k e) := by
  cases e with
  | none => exact hr
  | some c => exact put_rises s k c hr
theorem find_app {s : List Pair} {k k' : ByteArray} (hr : Rises s) (h : k' ≠ k) (e : Option (Option Cell)) : find (app s k e) k' = find s k' := by
  cases e with
  | none => rfl
  | some c => exact find_put_other hr h c
theorem app_comm {s : List Pair} {k k' : ByteArray} (hr : Rises s) (h : k ≠ k') (e e' : Option (Option Cell)) : app (app s k e) k' e' = app (app s k' e') k e := by
  cases e with
  | none => rfl
  | some c =>
    cases e' with
    | none => rfl
    | some c' => exact put_comm hr h c c'
theorem swap_self {s : List Pair} {a b : OpX} (h1 : (step (step s b).1 a).2 = (step s a).2) (h2 : (step (step s a).1 b).2 = (step s b).2) (h3 : (step (step s a).1 b).1 = (step (step s b).1 a).1) : swapM s a b = true := by
  unfold swapM
  rw [h1, h2, h3, ans_self, ans_self, same_self]
  rfl
/-- operations on two keys can be swapped -/
theorem swap_keys {s : List Pair} {a b : OpX} (hr : Rises s) (h : a.key ≠ b.key) : swapM s a b = true := by
  refine swap_self ?_ ?_ ?_
  · simp only [step_eff, find_app hr h]
  · simp only [step_eff, find_app hr (Ne.symm h)]
  · simp only [step_eff, find_app hr h, find_app hr (Ne.symm h)]
    exact app_comm hr h _ _
/-- an operation that leaves the state, whatever came ahead -/
theorem swap_idle {s : List Pair} {a b : OpX} (h1 : (step s a).1 = s) (h2 : (step (step s b).1 a).1 = (step s b).1) (h3 : (step (step s b).1 a).2 = (step s a).2) : swapM s a b = true := by
  refine swap_self h3 ?_ ?_
  · rw [h1]
  · rw [h1, h2]
theorem step_bad {s : List Pair} {a : OpX} (h : good a = false) : step s a = (s, ⟨1, CellP.none⟩) := by
  unfold step
  rw [if_pos h]
theorem swap_bad {s : List Pair} {a b : OpX} (h : good a = false) : swapM s a b = true := by
  refine swap_idle ?_ ?_ ?_ <;> simp only [step_bad h]
theorem swap_sym {s : List Pair} {a b : OpX} (h : (step (step s b).1 a).2 = (step s a).2 ∧ (step (step s a).1 b).2 = (step s b).2 ∧ (step (step s a).1 b).1 = (step (step s b).1 a).1) : swapM s a b = true := swap_self h.1 h.2.1 h.2.2
theorem read_state {s : List Pair} {a : OpX} (hr : Rises s) (h : a.act = 0) : (step s a).1 = s := by
  unfold step
  split
  · rfl
  · split
    · rfl
    · rename_i h1 h2
      unfold rule at h2 ⊢
      rw [if_pos h] at h2 ⊢
      cases hf : find s a.key with
      | none => rw [hf] at h2; simp at h2
      | some c => exact put_same s a.key hr c hf
theorem swap_reads {s : List Pair} {a b : OpX} (hr : Rises s) (ha : a.act = 0) (hb : b.act = 0) : swapM s a b = true := by
  have h1 := read_state hr ha
  have h2 := read_state hr hb
  refine swap_idle h1 ?_ ?_
  · rw [h2, h1]
  · rw [h2]
/-- neither tells ErrBounds, in either order -/
def tightM (s : List Pair) (a b : OpX) : Bool :=
  ((decide ((step s a).2.err ≠ 8) && decide ((step (step s a).1 b).2.err ≠ 8)) && decide ((step s b).2.err ≠ 8)) && decide ((step (step s b).1 a).2.err ≠ 8)
def add (x : OpX) : Int := if x.act = 4 then x.n else -x.n
theorem rule_add {c : Cell} {x : OpX} (h : x.act = 4 ∨ x.act = 5) : rule (some c) x = if c.kind ≠ 2 then (6, none, CellP.none) else if c.val + add x < c.lo ∨ c.hi < c.val + add x then (8, none, CellP.none) else (0, some ⟨2, [], c.lo, c.hi, c.val + add x⟩, CellP.none) := by
  have e : (if x.act = 4 then c.val + x.n else c.val - x.n) = c.val + add x := by
    unfold add
    split <;> omega
  unfold rule
  rw [if_neg (by omega), if_neg (by omega), if_neg (by omega), if_neg (by omega)]
  simp only [e]
theorem rule_add_none {x : OpX} (h : x.act = 4 ∨ x.act = 5) : rule none x = (5, none, CellP.none) := by
  unfold rule
  rw [if_neg (by omega), if_neg (by omega), if_neg (by omega), if_neg (by omega)]
theorem step_none {s : List Pair} {x : OpX} {e : Int} (hg : good x = true) (h : rule (find s x.key) x = (e, none, CellP.none)) (he : e ≠ 0) : step s x = (s, ⟨e, CellP.none⟩) := by
  unfold step
  rw [if_neg (by simp [hg]), h, if_pos he]
theorem step_some {s : List Pair} {x : OpX} {c : Cell} (hg : good x = true) (h : rule (find s x.key) x = (0, some c, CellP.none)) : step s x = (put s x.key (some c), ⟨0, CellP.none⟩) := by
  unfold step
  rw [if_neg (by simp [hg]), h, if_neg (by simp)]
/-- two that count, on one key, can be swapped, if no bound is in the way -/
theorem swap_adds {s : List Pair} {a b : OpX} (hr : Rises s) (ha : a.act = 4 ∨ a.act = 5) (hb : b.act = 4 ∨ b.act = 5) (hk : a.key = b.key) (ht : tightM s a b = true) : swapM s a b = true := by
  cases hga : good a with
  | false => exact swap_bad hga
  | true =>
    cases hgb : good b with
    | false =>
      refine swap_self ?_ ?_ ?_ <;> simp only [step_bad hgb]
    | true =>
      have hfb : find s b.key = find s a.key := by rw [hk]
      cases hf : find s a.key with
      | none =>
        have e1 : step s a = (s, ⟨5, CellP.none⟩) := step_none hga (by rw [hf]; exact rule_add_none ha) (by decide)
        have e2 : step s b = (s, ⟨5, CellP.none⟩) := step_none hgb (by rw [hfb, hf]; exact rule_add_none hb) (by decide)
        refine swap_self ?_ ?_ ?_ <;> simp only [e1, e2]
      | some c =>
        by_cases hkd : c.kind = 2
        · by_cases h1 : c.val + add a < c.lo ∨ c.hi < c.val + add a
          · have e1 : step s a = (s, ⟨8, CellP.none⟩) := step_none hga (by rw [hf, rule_add ha, if_neg (by simp [hkd]), if_pos h1]) (by decide)
            simp [tightM, e1] at ht
          · by_cases h2 : c.val + add b < c.lo ∨ c.hi < c.val + add b
            · have e2 : step s b = (s, ⟨8, CellP.none⟩) := step_none hgb (by rw [hfb, hf, rule_add hb, if_neg (by simp [hkd]), if_pos h2]) (by decide)
              simp [tightM, e2] at ht
            · have e1 : step s a = (put s a.key (some ⟨2, [], c.lo, c.hi, c.val + add a⟩), ⟨0, CellP.none⟩) := step_some hga (by rw [hf, rule_add ha, if_neg (by simp [hkd]), if_neg h1])
              have e2 : step s b = (put s b.key (some ⟨2, [], c.lo, c.hi, c.val + add b⟩), ⟨0, CellP.none⟩) := step_some hgb (by rw [hfb, hf, rule_add hb, if_neg (by simp [hkd]), if_neg h2])
              have f1 : find (put s a.key (some ⟨2, [], c.lo, c.hi, c.val + add a⟩)) b.key = some ⟨2, [], c.lo, c.hi, c.val + add a⟩ := by rw [← hk]; exact find_put_self hr _
              have f2 : find (put s b.key (some ⟨2, [], c.lo, c.hi, c.val + add b⟩)) a.key = some ⟨2, [], c.lo, c.hi, c.val + add b⟩ := by rw [hk]; exact find_put_self hr _
              by_cases h3 : (c.val + add a) + add b < c.lo ∨ c.hi < (c.val + add a) + add b
              · have e3 : step (put s a.key (some ⟨2, [], c.lo, c.hi, c.val + add a⟩)) b = (put s a.key (some ⟨2, [], c.lo, c.hi, c.val + add a⟩), ⟨8, CellP.none⟩) := step_none hgb (by rw [f1, rule_add hb]; dsimp only; rw [if_neg (by simp), if_pos h3]) (by decide)
                simp [tightM, e1, e3] at ht
              · have h4 : ¬ ((c.val + add b) + add a < c.lo ∨ c.hi < (c.val + add b) + add a) := by omega
                have e3 : step (put s a.key (some ⟨2, [], c.lo, c.hi, c.val + add a⟩)) b = (put (put s a.key (some ⟨2, [], c.lo, c.hi, c.val + add a⟩)) b.key (some ⟨2, [], c.lo, c.hi, (c.val + add a) + add b⟩), ⟨0, CellP.none⟩) := step_some hgb (by rw [f1, rule_add hb]; dsimp only; rw [if_neg (by simp), if_neg h3])
                have e4 : step (put s b.key (some ⟨2, [], c.lo, c.hi, c.val + add b⟩)) a = (put (put s b.key (some ⟨2, [], c.lo, c.hi, c.val + add b⟩)) a.key (some ⟨2, [], c.lo, c.hi, (c.val + add b) + add a⟩), ⟨0, CellP.none⟩) := step_some hga (by rw [f2, rule_add ha]; dsimp only; rw [if_neg (by simp), if_neg h4])
                refine swap_self ?_ ?_ ?_ <;> simp only [e1, e2, e3, e4]
                rw [hk, put_put hr, put_put hr, show c.val + add a + add b = c.val + add b + add a by omega]
        · have e1 : step s a = (s, ⟨6, CellP.none⟩) := step_none hga (by rw [hf, rule_add ha, if_pos hkd]) (by decide)
          have e2 : step s b = (s, ⟨6, CellP.none⟩) := step_none hgb (by rw [hfb, hf, rule_add hb, if_pos hkd]) (by decide)
          refine swap_self ?_ ?_ ?_ <;> simp only [e1, e2]
/-- P10.3: those that commute can be swapped, if no bound is in the way -/
theorem commute_swap {s : List Pair} {a b : OpX} (hr : Rises s) (hc : ModesP.commuteM a.act a.key b.act b.key = true) (ht : tightM s a b = true) : swapM s a b = true := by
  by_cases hk : a.key = b.key
  · unfold ModesP.commuteM at hc
    simp only [hk, beq_self_eq_true, Bool.not_true, Bool.false_or, Bool.and_eq_true] at hc
    obtain ⟨-, -, hc⟩ := hc
    have hd : (a.act = 0 ∧ b.act = 0) ∨ ((a.act = 4 ∨ a.act = 5) ∧ (b.act = 4 ∨ b.act = 5)) := by
      unfold ModesP.compat at hc
      simp only [Bool.or_eq_true, Bool.and_eq_true, beq_iff_eq] at hc
      unfold ModesP.ofDo at hc
      have : ∀ d : Int, ((if d = 0 then (0 : Int) else if d = 1 then 1 else if d = 2 then 1 else if d = 3 then 1 else if d = 4 then 2 else if d = 5 then 3 else -1) = 0 → d = 0) ∧ (((if d = 0 then (0 : Int) else if d = 1 then 1 else if d = 2 then 1 else if d = 3 then 1 else if d = 4 then 2 else if d = 5 then 3 else -1) = 2 ∨ (if d = 0 then (0 : Int) else if d = 1 then 1 else if d = 2 then 1 else if d = 3 then 1 else if d = 4 then 2 else if d = 5 then 3 else -1) = 3) → d = 4 ∨ d = 5) := by
        intro d
        repeat' split
        all_goals omega
      rcases hc with ⟨h1, h2⟩ | ⟨h1, h2⟩
      · exact .inl ⟨(this _).1 h1, (this _).1 h2⟩
      · exact .inr ⟨(this _).2 h1, (this _).2 h2⟩
    rcases hd with ⟨h1, h2⟩ | ⟨h1, h2⟩
    · exact swap_reads hr h1 h2
    · exact swap_adds hr h1 h2 hk ht
  · exact swap_keys hr hk
end ModelP
end Go.Proofs.YtghgccgpgonlmaaDoor
namespace Go.Proofs.YtghgccgpgonlmaaDoor.RefModes
open Go.RowKit ModelW
set_option linter.unusedVariables false
/-- the call hands back a state and two answers -/
def GivesTwo (w : World) (s : List Pair) (x y : Answer) (e : Ending) (w' : World) : Prop :=
  ∃ A n c A2 n2 c2 A3 n3 c3, e = .returned (.tuple #[.slice A n c, .agg (ansV A2 n2 c2 x), .agg (ansV A3 n3 c3 y)]) ∧ Pairs w' w'.heap.size A n c s ∧ Bytes w' w'.heap.size A2 n2 c2 x.cell.data ∧ Bytes w' w'.heap.size A3 n3 c3 y.cell.data ∧ Below w.heap.size w w'
set_option maxRecDepth 100000 in
set_option maxHeartbeats 2000000 in
theorem Two_any (A : Option Addr) (n c B : Nat) (s : List Pair) (aa : Int) (ak : ByteArray) (ad : List UInt8) (alo ahi an : Int) (Aa : Option Addr) (na ca Ba : Nat) (ba : Int) (bk : ByteArray) (bd : List UInt8) (blo bhi bn : Int) (Ab : Option Addr) (nb cb Bb : Nat) (w : World) (h : Pairs w B A n c s) (hB : B ≤ w.heap.size) (hr : ModelP.Right s) (hs : s.length ≤ 500 ∧ ∀ p ∈ s, p.cell.data.length ≤ 100000) (hya : Bytes w Ba Aa na ca ad) (hBa : Ba ≤ w.heap.size) (hka : ak.size ≤ maxLen) (hia : In64 alo ∧ In64 ahi ∧ In64 an) (hna : na ≤ 100000) (hyb : Bytes w Bb Ab nb cb bd) (hBb : Bb ≤ w.heap.size) (hkb : bk.size ≤ maxLen) (hib : In64 blo ∧ In64 bhi ∧ In64 bn) (hnb : nb ≤ 100000) :
    Calls Tryd.prog 20 #[.slice A n c, .agg #[.int .i64 aa, .string ak, .slice Aa na ca, .int .i64 alo, .int .i64 ahi, .int .i64 an], .agg #[.int .i64 ba, .string bk, .slice Ab nb cb, .int .i64 blo, .int .i64 bhi, .int .i64 bn]] w (GivesTwo w (ModelP.step (ModelP.step s ⟨aa, ak, ad, alo, ahi, an⟩).1 ⟨ba, bk, bd, blo, bhi, bn⟩).1 (ModelP.step s ⟨aa, ak, ad, alo, ahi, an⟩).2 (ModelP.step (ModelP.step s ⟨aa, ak, ad, alo, ahi, an⟩).1 ⟨ba, bk, bd, blo, bhi, bn⟩).2) := by
  have H := Lib.hid (h.more hB)
  have HA := Lib.hid (hya.more hBa)
  have HBB := Lib.hid (hyb.more hBb)
  have HSM := Lib.hid (Small.mk (by have := hs.1; omega) hs.2)
  have HIA := Lib.hid hia
  have HIB := Lib.hid hib
  have HR0 := Lib.hid hr
  have hda : ad.length ≤ 100000 := by rw [hya.len]; exact hna
  have HR1 := Lib.hid (ModelP.step_right hr ⟨aa, ak, ad, alo, ahi, an⟩)
  have HS1 : Hid (Small (ModelP.step s ⟨aa, ak, ad, alo, ahi, an⟩).1) := Lib.hid (Small.mk (by have := ModelP.step_length s ⟨aa, ak, ad, alo, ahi, an⟩; have := hs.1; omega) (ModelP.step_data hs.2 hda hr.2))
  obtain ⟨r1, hr1⟩ : ∃ r, ModelP.step s ⟨aa, ak, ad, alo, ahi, an⟩ = r := ⟨_, rfl⟩
  rw [hr1] at HR1 HS1 ⊢
  obtain ⟨r2, hr2⟩ : ∃ r, ModelP.step r1.1 ⟨ba, bk, bd, blo, bhi, bn⟩ = r := ⟨_, rfl⟩
  rw [hr2]
  have HE1 := Lib.hid hr1
  have HE2 := Lib.hid hr2
  clear h hya hyb hr hs hia hib hr1 hr2 hda
  go_enter Tryd.func20, Tryd.ntmps20
  go_wp2_with fail
  generalize hW0 : ((((w).alloc (.cells #[.int .i64 aa, .string ak, .slice Aa na ca, .int .i64 alo, .int .i64 ahi, .int .i64 an] 25)).alloc (.cells #[.int .i64 ba, .string bk, .slice Ab nb cb, .int .i64 blo, .int .i64 bhi, .int .i64 bn] 25)).alloc (.cells #[.int .i64 0, .int .i64 0, .slice none 0 0, .int .i64 0, .int .i64 0, .int .i64 0] 47)).alloc (.cells #[.int .i64 0, .int .i64 0, .slice none 0 0, .int .i64 0, .int .i64 0, .int .i64 0] 47) = W0
  obtain ⟨HS0_0, HS1_0, HS2_0, HS3_0, HB_0, hw_0, hz0⟩ := new4 hW0
  clear hW0 hz0
  have f0_0 := str6 HS0_0.out
  have hl0_0 := HS0_0.out.lt
  have hf0_0 := fun j => HS0_0.out.frozen j
  have f1_0 := str6 HS1_0.out
  have hl1_0 := HS1_0.out.lt
  have hf1_0 := fun j => HS1_0.out.frozen j
  have f2_0 := str6 HS2_0.out
  have hl2_0 := HS2_0.out.lt
  have hf2_0 := fun j => HS2_0.out.frozen j
  have f3_0 := str6 HS3_0.out
  have hl3_0 := HS3_0.out.lt
  have hf3_0 := fun j => HS3_0.out.frozen j
  have HYa_0 := Lib.hid (HA.out.next HB_0.out)
  have HYb_0 := Lib.hid (HBB.out.next HB_0.out)
  refine (RStep_any A n c W0.heap.size s ak ad Aa na ca W0.heap.size alo ahi an _ (H.out.next HB_0.out) (Nat.le_refl _) HSM.out HYa_0.out (Nat.le_refl _) hka HIA.out.1 HIA.out.2.1 HIA.out.2.2 HR0.out aa).mono ?_
  rintro e W1 ⟨A1, n1, c1, Ax, nx, cx, rfl, hp1, hy1, hb1⟩
  have HS0_1 := Lib.hid (HS0_0.out.next hb1)
  have HS1_1 := Lib.hid (HS1_0.out.next hb1)
  have HS2_1 := Lib.hid (HS2_0.out.next hb1)
  have HS3_1 := Lib.hid (HS3_0.out.next hb1)
  have HB_1 := Lib.hid (bstep HB_0.out hb1)
  have hw_1 := HB_1.out.size
  have hws_1 := (hb1).size
  have HYa_1 := Lib.hid (HYa_0.out.next hb1)
  have HYb_1 := Lib.hid (HYb_0.out.next hb1)
  clear HYa_0 HYb_0
  clear f0_0 HS0_0 hf0_0 f1_0 HS1_0 hf1_0 f2_0 HS2_0 hf2_0 f3_0 HS3_0 hf3_0
  have f0_1 := str6 HS0_1.out
  have hl0_1 := HS0_1.out.lt
  have hf0_1 := fun j => HS0_1.out.frozen j
  have f1_1 := str6 HS1_1.out
  have hl1_1 := HS1_1.out.lt
  have hf1_1 := fun j => HS1_1.out.frozen j
  have f2_1 := str6 HS2_1.out
  have hl2_1 := HS2_1.out.lt
  have hf2_1 := fun j => HS2_1.out.frozen j
  have f3_1 := str6 HS3_1.out
  have hl3_1 := HS3_1.out.lt
  have hf3_1 := fun j => HS3_1.out.frozen j
  rw [HE1.out] at hp1 hy1
  rw [HE1.out]
  simp only [ansV]
  have HP1_1 := Lib.hid hp1
  have HYx_1 := Lib.hid (hy1)
  clear hp1 hy1 hb1
  go_wp2_with fail
  generalize hW2 : W1.alloc (.cells #[.int .i64 r1.2.err, .int .i64 r1.2.cell.kind, .slice Ax nx cx, .int .i64 r1.2.cell.lo, .int .i64 r1.2.cell.hi, .int .i64 r1.2.cell.val] 47) = W2
  have HS0_2 := sEq hW2 (HS0_1.out.alloc _)
  have HS1_2 := sEq hW2 (HS1_1.out.alloc _)
  have HS2_2 := sEq hW2 (HS2_1.out.alloc _)
  have HS3_2 := sEq hW2 (HS3_1.out.alloc _)
  have HS4_2 := sEq hW2 (Str.new _ _ _)
  have hba2 : Below W1.heap.size W1 W2 := by rw [← hW2]; exact balloc (bsame _) _
  have HB_2 := Lib.hid (bstep HB_1.out hba2)
  have hw_2 := HB_2.out.size
  have hws_2 := hba2.size
  have HYa_2 := Lib.hid (HYa_1.out.next hba2)
  have HYb_2 := Lib.hid (HYb_1.out.next hba2)
  have HYx_2 := Lib.hid (HYx_1.out.next hba2)
  clear HYa_1 HYb_1 HYx_1
  clear hW2
  clear f0_1 HS0_1 hf0_1 f1_1 HS1_1 hf1_1 f2_1 HS2_1 hf2_1 f3_1 HS3_1 hf3_1
  have f0_2 := str6 HS0_2.out
  have hl0_2 := HS0_2.out.lt
  have hf0_2 := fun j => HS0_2.out.frozen j
  have f1_2 := str6 HS1_2.out
  have hl1_2 := HS1_2.out.lt
  have hf1_2 := fun j => HS1_2.out.frozen j
  have f2_2 := str6 HS2_2.out
  have hl2_2 := HS2_2.out.lt
  have hf2_2 := fun j => HS2_2.out.frozen j
  have f3_2 := str6 HS3_2.out
  have hl3_2 := HS3_2.out.lt
  have hf3_2 := fun j => HS3_2.out.frozen j
  have f4_2 := str6 HS4_2.out
  have hl4_2 := HS4_2.out.lt
  have HP1_2 := Lib.hid (HP1_1.out.next hba2)
  clear HP1_1
  refine (RStep_any A1 n1 c1 W2.heap.size r1.1 bk bd Ab nb cb W2.heap.size blo bhi bn _ HP1_2.out (Nat.le_refl _) HS1.out HYb_2.out (Nat.le_refl _) hkb HIB.out.1 HIB.out.2.1 HIB.out.2.2 HR1.out ba).mono ?_
  rintro e W3 ⟨A2, n2, c2, Ay, ny, cy, rfl, hp2, hy2, hb3⟩
  have HS0_3 := Lib.hid (HS0_2.out.next hb3)
  have HS1_3 := Lib.hid (HS1_2.out.next hb3)
  have HS2_3 := Lib.hid (HS2_2.out.next hb3)
  have HS3_3 := Lib.hid (HS3_2.out.next hb3)
  have HS4_3 := Lib.hid (HS4_2.out.next hb3)
  have HB_3 := Lib.hid (bstep HB_2.out hb3)
  have hw_3 := HB_3.out.size
  have hws_3 := (hb3).size
  have HYa_3 := Lib.hid (HYa_2.out.next hb3)
  have HYb_3 := Lib.hid (HYb_2.out.next hb3)
  have HYx_3 := Lib.hid (HYx_2.out.next hb3)
  clear HYa_2 HYb_2 HYx_2
  clear f0_2 HS0_2 hf0_2 f1_2 HS1_2 hf1_2 f2_2 HS2_2 hf2_2 f3_2 HS3_2 hf3_2 f4_2 HS4_2
  have f0_3 := str6 HS0_3.out
  have hl0_3 := HS0_3.out.lt
  have hf0_3 := fun j => HS0_3.out.frozen j
  have f1_3 := str6 HS1_3.out
  have hl1_3 := HS1_3.out.lt
  have hf1_3 := fun j => HS1_3.out.frozen j
  have f2_3 := str6 HS2_3.out
  have hl2_3 := HS2_3.out.lt
  have hf2_3 := fun j => HS2_3.out.frozen j
  have f3_3 := str6 HS3_3.out
  have hl3_3 := HS3_3.out.lt
  have hf3_3 := fun j => HS3_3.out.frozen j
  have f4_3 := str6 HS4_3.out
  have hl4_3 := HS4_3.out.lt
  rw [HE2.out] at hp2 hy2
  rw [HE2.out]
  simp only [ansV]
  have HP2_3 := Lib.hid hp2
  have HYy_3 := Lib.hid (hy2)
  clear hp2 hy2 hb3
  go_wp2_with fail
  generalize hW4 : W3.alloc (.cells #[.int .i64 r2.2.err, .int .i64 r2.2.cell.kind, .slice Ay ny cy, .int .i64 r2.2.cell.lo, .int .i64 r2.2.cell.hi, .int .i64 r2.2.cell.val] 47) = W4
  have HS0_4 := sEq hW4 (HS0_3.out.alloc _)
  have HS1_4 := sEq hW4 (HS1_3.out.alloc _)
  have HS2_4 := sEq hW4 (HS2_3.out.alloc _)
  have HS3_4 := sEq hW4 (HS3_3.out.alloc _)
  have HS4_4 := sEq hW4 (HS4_3.out.alloc _)
  have HS5_4 := sEq hW4 (Str.new _ _ _)
  have hba4 : Below W3.heap.size W3 W4 := by rw [← hW4]; exact balloc (bsame _) _
  have HB_4 := Lib.hid (bstep HB_3.out hba4)
  have hw_4 := HB_4.out.size
  have hws_4 := hba4.size
  have HYa_4 := Lib.hid (HYa_3.out.next hba4)
  have HYb_4 := Lib.hid (HYb_3.out.next hba4)
  have HYx_4 := Lib.hid (HYx_3.out.next hba4)
  have HYy_4 := Lib.hid (HYy_3.out.next hba4)
  clear HYa_3 HYb_3 HYx_3 HYy_3
  clear hW4
  clear f0_3 HS0_3 hf0_3 f1_3 HS1_3 hf1_3 f2_3 HS2_3 hf2_3 f3_3 HS3_3 hf3_3 f4_3 HS4_3
  have f0_4 := str6 HS0_4.out
  have hl0_4 := HS0_4.out.lt
  have hf0_4 := fun j => HS0_4.out.frozen j
  have f1_4 := str6 HS1_4.out
  have hl1_4 := HS1_4.out.lt
  have hf1_4 := fun j => HS1_4.out.frozen j
  have f2_4 := str6 HS2_4.out
  have hl2_4 := HS2_4.out.lt
  have hf2_4 := fun j => HS2_4.out.frozen j
  have f3_4 := str6 HS3_4.out
  have hl3_4 := HS3_4.out.lt
  have hf3_4 := fun j => HS3_4.out.frozen j
  have f4_4 := str6 HS4_4.out
  have hl4_4 := HS4_4.out.lt
  have f5_4 := str6 HS5_4.out
  have hl5_4 := HS5_4.out.lt
  have HP2_4 := Lib.hid (HP2_3.out.next hba4)
  clear HP2_3
  go_region
  go_wp2
  generalize hW5 : ((((((W4).setCell ⟨w.heap.size + 1 + 1, 0, none⟩ (.int .i64 r1.2.err)).setCell ⟨w.heap.size + 1 + 1, 1, none⟩ (.int .i64 r1.2.cell.kind)).setCell ⟨w.heap.size + 1 + 1, 2, none⟩ (.slice Ax nx cx)).setCell ⟨w.heap.size + 1 + 1, 3, none⟩ (.int .i64 r1.2.cell.lo)).setCell ⟨w.heap.size + 1 + 1, 4, none⟩ (.int .i64 r1.2.cell.hi)).setCell ⟨w.heap.size + 1 + 1, 5, none⟩ (.int .i64 r1.2.cell.val) = W5
  have HS2_5 : Hid (Str W5 (w.heap.size + 1 + 1) #[.int .i64 r1.2.err, .int .i64 r1.2.cell.kind, .slice Ax nx cx, .int .i64 r1.2.cell.lo, .int .i64 r1.2.cell.hi, .int .i64 r1.2.cell.val]) := Lib.hid (by rw [← hW5]; have := ((((((HS2_4.out).set 0 (.int .i64 r1.2.err)).set 1 (.int .i64 r1.2.cell.kind)).set 2 (.slice Ax nx cx)).set 3 (.int .i64 r1.2.cell.lo)).set 4 (.int .i64 r1.2.cell.hi)).set 5 (.int .i64 r1.2.cell.val); simpa using this)
  have hgr5 : W4.grownBy W5 (some (w.heap.size + 1 + 1)) := by rw [← hW5]; exact grown_set (grown_set (grown_set (grown_set (grown_set (grown_set (grown_refl W4 (w.heap.size + 1 + 1)) 0 (_)) 1 (_)) 2 (_)) 3 (_)) 4 (_)) 5 (_)
  have HS0_5 := Lib.hid (HS0_4.out.grown hgr5 (by omega))
  have HS1_5 := Lib.hid (HS1_4.out.grown hgr5 (by omega))
  have HS3_5 := Lib.hid (HS3_4.out.grown hgr5 (by omega))
  have HS4_5 := Lib.hid (HS4_4.out.grown hgr5 (by omega))
  have HS5_5 := Lib.hid (HS5_4.out.grown hgr5 (by omega))
  have HB_5 := Lib.hid (below_grown HB_4.out hgr5 (by omega))
  have hw_5 := HB_5.out.size
  have hws_5 := hgr5.size
  have HYa_5 := Lib.hid ((Bytes.grown HYa_4.out (Nat.le_refl _) HS2_4.out rfl hgr5).more hws_5)
  have HYb_5 := Lib.hid ((Bytes.grown HYb_4.out (Nat.le_refl _) HS2_4.out rfl hgr5).more hws_5)
  have HYx_5 := Lib.hid ((Bytes.grown HYx_4.out (Nat.le_refl _) HS2_4.out rfl hgr5).more hws_5)
  have HYy_5 := Lib.hid ((Bytes.grown HYy_4.out (Nat.le_refl _) HS2_4.out rfl hgr5).more hws_5)
  clear HYa_4 HYb_4 HYx_4 HYy_4
  have HP2_5 : Hid (Pairs W5 W5.heap.size A2 n2 c2 r2.1) := Lib.hid (Pairs.grown HP2_4.out HS2_4.out rfl rfl hgr5)
  clear hW5
  clear f0_4 HS0_4 hf0_4 f1_4 HS1_4 hf1_4 f2_4 HS2_4 hf2_4 f3_4 HS3_4 hf3_4 f4_4 HS4_4 f5_4 HS5_4
  clear hgr5
  have f0_5 := str6 HS0_5.out
  have hl0_5 := HS0_5.out.lt
  have hf0_5 := fun j => HS0_5.out.frozen j
  have f1_5 := str6 HS1_5.out
  have hl1_5 := HS1_5.out.lt
  have hf1_5 := fun j => HS1_5.out.frozen j
  have f2_5 := str6 HS2_5.out
  have hl2_5 := HS2_5.out.lt
  have hf2_5 := fun j => HS2_5.out.frozen j
  have f3_5 := str6 HS3_5.out
  have hl3_5 := HS3_5.out.lt
  have hf3_5 := fun j => HS3_5.out.frozen j
  have f4_5 := str6 HS4_5.out
  have hl4_5 := HS4_5.out.lt
  have f5_5 := str6 HS5_5.out
  have hl5_5 := HS5_5.out.lt
  generalize hW6 : ((((((W5).setCell ⟨w.heap.size + 1 + 1 + 1, 0, none⟩ (.int .i64 r2.2.err)).setCell ⟨w.heap.size + 1 + 1 + 1, 1, none⟩ (.int .i64 r2.2.cell.kind)).setCell ⟨w.heap.size + 1 + 1 + 1, 2, none⟩ (.slice Ay ny cy)).setCell ⟨w.heap.size + 1 + 1 + 1, 3, none⟩ (.int .i64 r2.2.cell.lo)).setCell ⟨w.heap.size + 1 + 1 + 1, 4, none⟩ (.int .i64 r2.2.cell.hi)).setCell ⟨w.heap.size + 1 + 1 + 1, 5, none⟩ (.int .i64 r2.2.cell.val) = W6
  have HS3_6 : Hid (Str W6 (w.heap.size + 1 + 1 + 1) #[.int .i64 r2.2.err, .int .i64 r2.2.cell.kind, .slice Ay ny cy, .int .i64 r2.2.cell.lo, .int .i64 r2.2.cell.hi, .int .i64 r2.2.cell.val]) := Lib.hid (by rw [← hW6]; have := ((((((HS3_5.out).set 0 (.int .i64 r2.2.err)).set 1 (.int .i64 r2.2.cell.kind)).set 2 (.slice Ay ny cy)).set 3 (.int .i64 r2.2.cell.lo)).set 4 (.int .i64 r2.2.cell.hi)).set 5 (.int .i64 r2.2.cell.val); simpa using this)
  have hgr6 : W5.grownBy W6 (some (w.heap.size + 1 + 1 + 1)) := by rw [← hW6]; exact grown_set (grown_set (grown_set (grown_set (grown_set (grown_set (grown_refl W5 (w.heap.size + 1 + 1 + 1)) 0 (_)) 1 (_)) 2 (_)) 3 (_)) 4 (_)) 5 (_)
  have HS0_6 := Lib.hid (HS0_5.out.grown hgr6 (by omega))
  have HS1_6 := Lib.hid (HS1_5.out.grown hgr6 (by omega))
  have HS2_6 := Lib.hid (HS2_5.out.grown hgr6 (by omega))
  have HS4_6 := Lib.hid (HS4_5.out.grown hgr6 (by omega))
  have HS5_6 := Lib.hid (HS5_5.out.grown hgr6 (by omega))
  have HB_6 := Lib.hid (below_grown HB_5.out hgr6 (by omega))
  have hw_6 := HB_6.out.size
  have hws_6 := hgr6.size
  have HYa_6 := Lib.hid ((Bytes.grown HYa_5.out (Nat.le_refl _) HS3_5.out rfl hgr6).more hws_6)
  have HYb_6 := Lib.hid ((Bytes.grown HYb_5.out (Nat.le_refl _) HS3_5.out rfl hgr6).more hws_6)
  have HYx_6 := Lib.hid ((Bytes.grown HYx_5.out (Nat.le_refl _) HS3_5.out rfl hgr6).more hws_6)
  have HYy_6 := Lib.hid ((Bytes.grown HYy_5.out (Nat.le_refl _) HS3_5.out rfl hgr6).more hws_6)
  clear HYa_5 HYb_5 HYx_5 HYy_5
  have HP2_6 : Hid (Pairs W6 W6.heap.size A2 n2 c2 r2.1) := Lib.hid (Pairs.grown HP2_5.out HS3_5.out rfl rfl hgr6)
  clear hW6
  clear f0_5 HS0_5 hf0_5 f1_5 HS1_5 hf1_5 f2_5 HS2_5 hf2_5 f3_5 HS3_5 hf3_5 f4_5 HS4_5 f5_5 HS5_5
  clear hgr6
  have f0_6 := str6 HS0_6.out
  have hl0_6 := HS0_6.out.lt
  have hf0_6 := fun j => HS0_6.out.frozen j
  have f1_6 := str6 HS1_6.out
  have hl1_6 := HS1_6.out.lt
  have hf1_6 := fun j => HS1_6.out.frozen j
  have f2_6 := str6 HS2_6.out
  have hl2_6 := HS2_6.out.lt
  have hf2_6 := fun j => HS2_6.out.frozen j
  have f3_6 := str6 HS3_6.out
  have hl3_6 := HS3_6.out.lt
  have hf3_6 := fun j => HS3_6.out.frozen j
  have f4_6 := str6 HS4_6.out
  have hl4_6 := HS4_6.out.lt
  have f5_6 := str6 HS5_6.out
  have hl5_6 := HS5_6.out.lt
  have hbd : Below W6.heap.size W6 W6.drew := (bsame _).drew
  have HP2_7 := Lib.hid (HP2_6.out.next hbd)
  obtain ⟨W7, hW7⟩ : ∃ W7, W6.drew = W7 := ⟨_, rfl⟩
  rw [hW7] at hbd
  rw [hW7]
  have HS0_7 := Lib.hid (HS0_6.out.next hbd)
  have HS1_7 := Lib.hid (HS1_6.out.next hbd)
  have HS2_7 := Lib.hid (HS2_6.out.next hbd)
  have HS3_7 := Lib.hid (HS3_6.out.next hbd)
  have HS4_7 := Lib.hid (HS4_6.out.next hbd)
  have HS5_7 := Lib.hid (HS5_6.out.next hbd)
  have HB_7 := Lib.hid (bstep HB_6.out hbd)
  have hw_7 := HB_7.out.size
  have hws_7 := (hbd).size
  have HYa_7 := Lib.hid (HYa_6.out.next hbd)
  have HYb_7 := Lib.hid (HYb_6.out.next hbd)
  have HYx_7 := Lib.hid (HYx_6.out.next hbd)
  have HYy_7 := Lib.hid (HYy_6.out.next hbd)
  clear HYa_6 HYb_6 HYx_6 HYy_6
  clear f0_6 HS0_6 hf0_6 f1_6 HS1_6 hf1_6 f2_6 HS2_6 hf2_6 f3_6 HS3_6 hf3_6 f4_6 HS4_6 f5_6 HS5_6
  clear hbd
  have f0_7 := str6 HS0_7.out
  have hl0_7 := HS0_7.out.lt
  have hf0_7 := fun j => HS0_7.out.frozen j
  have f1_7 := str6 HS1_7.out
  have hl1_7 := HS1_7.out.lt
  have hf1_7 := fun j => HS1_7.out.frozen j
  have f2_7 := str6 HS2_7.out
  have hl2_7 := HS2_7.out.lt
  have hf2_7 := fun j => HS2_7.out.frozen j
  have f3_7 := str6 HS3_7.out
  have hl3_7 := HS3_7.out.lt
  have hf3_7 := fun j => HS3_7.out.frozen j
  have f4_7 := str6 HS4_7.out
  have hl4_7 := HS4_7.out.lt
  have f5_7 := str6 HS5_7.out
  have hl5_7 := HS5_7.out.lt
  rw [hW7] at HP2_7
  exact bodyPost_ret (v := .tuple #[.slice A2 n2 c2, .agg #[.int .i64 r1.2.err, .int .i64 r1.2.cell.kind, .slice Ax nx cx, .int .i64 r1.2.cell.lo, .int .i64 r1.2.cell.hi, .int .i64 r1.2.cell.val], .agg #[.int .i64 r2.2.err, .int .i64 r2.2.cell.kind, .slice Ay ny cy, .int .i64 r2.2.cell.lo, .int .i64 r2.2.cell.hi, .int .i64 r2.2.cell.val]]) (by simp [results, Tryd.results20, go_sem, *]) rfl ⟨A2, n2, c2, Ax, nx, cx, Ay, ny, cy, rfl, HP2_7.out, HYx_7.out, HYy_7.out, HB_7.out⟩
end Go.Proofs.YtghgccgpgonlmaaDoor.RefModes
namespace Go.Proofs.YtghgccgpgonlmaaDoor.RefModes
open Go.RowKit ModelW
set_option linter.unusedVariables false
set_option linter.unusedSimpArgs false
set_option maxRecDepth 100000 in
set_option maxHeartbeats 2000000 in
theorem swap_c (A : Option Addr) (n c B : Nat) (s : List Pair) (aa : Int) (ak : ByteArray) (ad : List UInt8) (alo ahi an : Int) (Aa : Option Addr) (na ca Ba : Nat) (ba : Int) (bk : ByteArray) (bd : List UInt8) (blo bhi bn : Int) (Ab : Option Addr) (nb cb Bb : Nat) (w : World) (h : Pairs w B A n c s) (hB : B ≤ w.heap.size) (hr : ModelP.Right s) (hs : s.length ≤ 500 ∧ ∀ p ∈ s, p.cell.data.length ≤ 100000) (hya : Bytes w Ba Aa na ca ad) (hBa : Ba ≤ w.heap.size) (hka : ak.size ≤ maxLen) (hia : In64 alo ∧ In64 ahi ∧ In64 an) (hna : na ≤ 100000) (hyb : Bytes w Bb Ab nb cb bd) (hBb : Bb ≤ w.heap.size) (hkb : bk.size ≤ maxLen) (hib : In64 blo ∧ In64 bhi ∧ In64 bn) (hnb : nb ≤ 100000) (v : Bool) (h3 : ModelP.sameAll (ModelP.step (ModelP.step s ⟨aa, ak, ad, alo, ahi, an⟩).1 ⟨ba, bk, bd, blo, bhi, bn⟩).1 (ModelP.step (ModelP.step s ⟨ba, bk, bd, blo, bhi, bn⟩).1 ⟨aa, ak, ad, alo, ahi, an⟩).1 = false) :
    Calls Tryd.prog 10 #[.slice A n c, .agg #[.int .i64 aa, .string ak, .slice Aa na ca, .int .i64 alo, .int .i64 ahi, .int .i64 an], .agg #[.int .i64 ba, .string bk, .slice Ab nb cb, .int .i64 blo, .int .i64 bhi, .int .i64 bn]] w fun e w' => e = .returned (.bool false) ∧ Below w.heap.size w w' := by
  have H := Lib.hid (h.more hB)
  have HA := Lib.hid (hya.more hBa)
  have HBB := Lib.hid (hyb.more hBb)
  have HSM := Lib.hid hs
  have HIA := Lib.hid hia
  have HIB := Lib.hid hib
  have HR0 := Lib.hid hr
  obtain ⟨r1, hr1⟩ : ∃ r, ModelP.step s ⟨aa, ak, ad, alo, ahi, an⟩ = r := ⟨_, rfl⟩
  obtain ⟨r2, hr2⟩ : ∃ r, ModelP.step r1.1 ⟨ba, bk, bd, blo, bhi, bn⟩ = r := ⟨_, rfl⟩
  obtain ⟨q1, hq1⟩ : ∃ r, ModelP.step s ⟨ba, bk, bd, blo, bhi, bn⟩ = r := ⟨_, rfl⟩
  obtain ⟨q2, hq2⟩ : ∃ r, ModelP.step q1.1 ⟨aa, ak, ad, alo, ahi, an⟩ = r := ⟨_, rfl⟩
  have HE1 := Lib.hid hr1
  have HE2 := Lib.hid hr2
  have HG1 := Lib.hid hq1
  have HG2 := Lib.hid hq2
  have HRL : Hid (r2.1.length ≤ 100000) := Lib.hid (by have h1 := ModelP.step_length s ⟨aa, ak, ad, alo, ahi, an⟩; have h2 := ModelP.step_length r1.1 ⟨ba, bk, bd, blo, bhi, bn⟩; rw [hr1] at h1; rw [hr2] at h2; have := hs.1; omega)
  simp only [hr1, hr2, hq1, hq2] at h3
  have H3 := Lib.hid h3
  clear h3
  clear h hya hyb hr hs hia hib hr1 hr2 hq1 hq2
  go_enter Tryd.func10, Tryd.ntmps10
  go_wp2_with fail
  generalize hW0 : ((w).alloc (.cells #[.int .i64 aa, .string ak, .slice Aa na ca, .int .i64 alo, .int .i64 ahi, .int .i64 an] 25)).alloc (.cells #[.int .i64 ba, .string bk, .slice Ab nb cb, .int .i64 blo, .int .i64 bhi, .int .i64 bn] 25) = W0
  obtain ⟨HS0_0, HS1_0, HB_0, hw_0, hz0⟩ := new2 hW0
  clear hW0 hz0
  have f0_0 := str6 HS0_0.out
  have hl0_0 := HS0_0.out.lt
  have hf0_0 := fun j => HS0_0.out.frozen j
  have f1_0 := str6 HS1_0.out
  have hl1_0 := HS1_0.out.lt
  have hf1_0 := fun j => HS1_0.out.frozen j
  have HYa_0 := Lib.hid (HA.out.next HB_0.out)
  have HYb_0 := Lib.hid (HBB.out.next HB_0.out)
  refine (Two_any A n c W0.heap.size s aa ak ad alo ahi an Aa na ca W0.heap.size ba bk bd blo bhi bn Ab nb cb W0.heap.size _ (H.out.next HB_0.out) (Nat.le_refl _) HR0.out HSM.out HYa_0.out (Nat.le_refl _) hka HIA.out hna HYb_0.out (Nat.le_refl _) hkb HIB.out hnb).mono ?_
  rintro e W1 ⟨As1, ns1, cs1, Ax1, nx1, cx1, Ay1, ny1, cy1, rfl, hp, hx, hy, hb1⟩
  have HS0_1 := Lib.hid (HS0_0.out.next hb1)
  have HS1_1 := Lib.hid (HS1_0.out.next hb1)
  have HB_1 := Lib.hid (bstep HB_0.out hb1)
  have hw_1 := HB_1.out.size
  have hws_1 := (hb1).size
  have HYa_1 := Lib.hid (HYa_0.out.next hb1)
  have HYb_1 := Lib.hid (HYb_0.out.next hb1)
  clear HYa_0 HYb_0
  clear f0_0 HS0_0 hf0_0 f1_0 HS1_0 hf1_0
  have f0_1 := str6 HS0_1.out
  have hl0_1 := HS0_1.out.lt
  have hf0_1 := fun j => HS0_1.out.frozen j
  have f1_1 := str6 HS1_1.out
  have hl1_1 := HS1_1.out.lt
  have hf1_1 := fun j => HS1_1.out.frozen j
  simp only [HE1.out, HE2.out] at hp hx hy
  simp only [HE1.out, HE2.out, ansV]
  have HP1_1 := Lib.hid hp
  have HYx1_1 := Lib.hid (hx)
  have HYy1_1 := Lib.hid (hy)
  clear hp hx hy hb1
  go_wp2_with fail
  generalize hW2 : W1.alloc (.cells #[.int .i64 r1.2.err, .int .i64 r1.2.cell.kind, .slice Ax1 nx1 cx1, .int .i64 r1.2.cell.lo, .int .i64 r1.2.cell.hi, .int .i64 r1.2.cell.val] 47) = W2
  have HS0_2 := sEq hW2 (HS0_1.out.alloc _)
  have HS1_2 := sEq hW2 (HS1_1.out.alloc _)
  have HS2_2 := sEq hW2 (Str.new _ _ _)
  have hba2 : Below W1.heap.size W1 W2 := by rw [← hW2]; exact balloc (bsame _) _
  have HB_2 := Lib.hid (bstep HB_1.out hba2)
  have hw_2 := HB_2.out.size
  have hws_2 := hba2.size
  have HYa_2 := Lib.hid (HYa_1.out.next hba2)
  have HYb_2 := Lib.hid (HYb_1.out.next hba2)
  have HYx1_2 := Lib.hid (HYx1_1.out.next hba2)
  have HYy1_2 := Lib.hid (HYy1_1.out.next hba2)
  clear HYa_1 HYb_1 HYx1_1 HYy1_1
  have hz2 : W2.heap.size = W1.heap.size + 1 := by rw [← hW2]; simp
  clear hW2
  clear f0_1 HS0_1 hf0_1 f1_1 HS1_1 hf1_1
  have f0_2 := str6 HS0_2.out
  have hl0_2 := HS0_2.out.lt
  have hf0_2 := fun j => HS0_2.out.frozen j
  have f1_2 := str6 HS1_2.out
  have hl1_2 := HS1_2.out.lt
  have hf1_2 := fun j => HS1_2.out.frozen j
  have f2_2 := str6 HS2_2.out
  have hl2_2 := HS2_2.out.lt
  generalize hW3 : W2.alloc (.cells #[.int .i64 r2.2.err, .int .i64 r2.2.cell.kind, .slice Ay1 ny1 cy1, .int .i64 r2.2.cell.lo, .int .i64 r2.2.cell.hi, .int .i64 r2.2.cell.val] 47) = W3
  have HS0_3 := sEq hW3 (HS0_2.out.alloc _)
  have HS1_3 := sEq hW3 (HS1_2.out.alloc _)
  have HS2_3 := sEq hW3 (HS2_2.out.alloc _)
  have HS3_3 := sEq hW3 (Str.new _ _ _)
  have hba3 : Below W2.heap.size W2 W3 := by rw [← hW3]; exact balloc (bsame _) _
  have HB_3 := Lib.hid (bstep HB_2.out hba3)
  have hw_3 := HB_3.out.size
  have hws_3 := hba3.size
  have HYa_3 := Lib.hid (HYa_2.out.next hba3)
  have HYb_3 := Lib.hid (HYb_2.out.next hba3)
  have HYx1_3 := Lib.hid (HYx1_2.out.next hba3)
  have HYy1_3 := Lib.hid (HYy1_2.out.next hba3)
  clear HYa_2 HYb_2 HYx1_2 HYy1_2
  clear hW3
  clear f0_2 HS0_2 hf0_2 f1_2 HS1_2 hf1_2 f2_2 HS2_2
  have f0_3 := str6 HS0_3.out
  have hl0_3 := HS0_3.out.lt
  have hf0_3 := fun j => HS0_3.out.frozen j
  have f1_3 := str6 HS1_3.out
  have hl1_3 := HS1_3.out.lt
  have hf1_3 := fun j => HS1_3.out.frozen j
  have f2_3 := str6 HS2_3.out
  have hl2_3 := HS2_3.out.lt
  have f3_3 := str6 HS3_3.out
  have hl3_3 := HS3_3.out.lt
  rw [hz2] at HS3_3 hl3_3 f3_3
  have HP1_3 := Lib.hid ((HP1_1.out.next hba2).next hba3)
  clear HP1_1
  go_wp2_with fail
  refine (Two_any A n c W3.heap.size s ba bk bd blo bhi bn Ab nb cb W3.heap.size aa ak ad alo ahi an Aa na ca W3.heap.size _ (H.out.next HB_3.out) (Nat.le_refl _) HR0.out HSM.out HYb_3.out (Nat.le_refl _) hkb HIB.out hnb HYa_3.out (Nat.le_refl _) hka HIA.out hna).mono ?_
  rintro e W4 ⟨As2, ns2, cs2, Ax2, nx2, cx2, Ay2, ny2, cy2, rfl, hp, hx, hy, hb4⟩
  have HS0_4 := Lib.hid (HS0_3.out.next hb4)
  have HS1_4 := Lib.hid (HS1_3.out.next hb4)
  have HS2_4 := Lib.hid (HS2_3.out.next hb4)
  have HS3_4 := Lib.hid (HS3_3.out.next hb4)
  have HB_4 := Lib.hid (bstep HB_3.out hb4)
  have hw_4 := HB_4.out.size
  have hws_4 := (hb4).size
  have HYa_4 := Lib.hid (HYa_3.out.next hb4)
  have HYb_4 := Lib.hid (HYb_3.out.next hb4)
  have HYx1_4 := Lib.hid (HYx1_3.out.next hb4)
  have HYy1_4 := Lib.hid (HYy1_3.out.next hb4)
  clear HYa_3 HYb_3 HYx1_3 HYy1_3
  clear f0_3 HS0_3 hf0_3 f1_3 HS1_3 hf1_3 f2_3 HS2_3 f3_3 HS3_3
  have f0_4 := str6 HS0_4.out
  have hl0_4 := HS0_4.out.lt
  have hf0_4 := fun j => HS0_4.out.frozen j
  have f1_4 := str6 HS1_4.out
  have hl1_4 := HS1_4.out.lt
  have hf1_4 := fun j => HS1_4.out.frozen j
  have f2_4 := str6 HS2_4.out
  have hl2_4 := HS2_4.out.lt
  have f3_4 := str6 HS3_4.out
  have hl3_4 := HS3_4.out.lt
  simp only [HG1.out, HG2.out] at hp hx hy
  simp only [HG1.out, HG2.out, ansV]
  have HP2_4 := Lib.hid hp
  have HP1_4 := Lib.hid (HP1_3.out.next hb4)
  clear HP1_3
  have HYx2_4 := Lib.hid (hx)
  have HYy2_4 := Lib.hid (hy)
  clear hp hx hy hb4
  go_wp2_with fail
  generalize hW5 : W4.alloc (.cells #[.int .i64 q1.2.err, .int .i64 q1.2.cell.kind, .slice Ax2 nx2 cx2, .int .i64 q1.2.cell.lo, .int .i64 q1.2.cell.hi, .int .i64 q1.2.cell.val] 47) = W5
  have HS0_5 := sEq hW5 (HS0_4.out.alloc _)
  have HS1_5 := sEq hW5 (HS1_4.out.alloc _)
  have HS2_5 := sEq hW5 (HS2_4.out.alloc _)
  have HS3_5 := sEq hW5 (HS3_4.out.alloc _)
  have HS4_5 := sEq hW5 (Str.new _ _ _)
  have hba5 : Below W4.heap.size W4 W5 := by rw [← hW5]; exact balloc (bsame _) _
  have HB_5 := Lib.hid (bstep HB_4.out hba5)
  have hw_5 := HB_5.out.size
  have hws_5 := hba5.size
  have HYa_5 := Lib.hid (HYa_4.out.next hba5)
  have HYb_5 := Lib.hid (HYb_4.out.next hba5)
  have HYx1_5 := Lib.hid (HYx1_4.out.next hba5)
  have HYy1_5 := Lib.hid (HYy1_4.out.next hba5)
  have HYx2_5 := Lib.hid (HYx2_4.out.next hba5)
  have HYy2_5 := Lib.hid (HYy2_4.out.next hba5)
  clear HYa_4 HYb_4 HYx1_4 HYy1_4 HYx2_4 HYy2_4
  have hz5 : W5.heap.size = W4.heap.size + 1 := by rw [← hW5]; simp
  clear hW5
  clear f0_4 HS0_4 hf0_4 f1_4 HS1_4 hf1_4 f2_4 HS2_4 f3_4 HS3_4
  have f0_5 := str6 HS0_5.out
  have hl0_5 := HS0_5.out.lt
  have hf0_5 := fun j => HS0_5.out.frozen j
  have f1_5 := str6 HS1_5.out
  have hl1_5 := HS1_5.out.lt
  have hf1_5 := fun j => HS1_5.out.frozen j
  have f2_5 := str6 HS2_5.out
  have hl2_5 := HS2_5.out.lt
  have f3_5 := str6 HS3_5.out
  have hl3_5 := HS3_5.out.lt
  have f4_5 := str6 HS4_5.out
  have hl4_5 := HS4_5.out.lt
  generalize hW6 : W5.alloc (.cells #[.int .i64 q2.2.err, .int .i64 q2.2.cell.kind, .slice Ay2 ny2 cy2, .int .i64 q2.2.cell.lo, .int .i64 q2.2.cell.hi, .int .i64 q2.2.cell.val] 47) = W6
  have HS0_6 := sEq hW6 (HS0_5.out.alloc _)
  have HS1_6 := sEq hW6 (HS1_5.out.alloc _)
  have HS2_6 := sEq hW6 (HS2_5.out.alloc _)
  have HS3_6 := sEq hW6 (HS3_5.out.alloc _)
  have HS4_6 := sEq hW6 (HS4_5.out.alloc _)
  have HS5_6 := sEq hW6 (Str.new _ _ _)
  have hba6 : Below W5.heap.size W5 W6 := by rw [← hW6]; exact balloc (bsame _) _
  have HB_6 := Lib.hid (bstep HB_5.out hba6)
  have hw_6 := HB_6.out.size
  have hws_6 := hba6.size
  have HYa_6 := Lib.hid (HYa_5.out.next hba6)
  have HYb_6 := Lib.hid (HYb_5.out.next hba6)
  have HYx1_6 := Lib.hid (HYx1_5.out.next hba6)
  have HYy1_6 := Lib.hid (HYy1_5.out.next hba6)
  have HYx2_6 := Lib.hid (HYx2_5.out.next hba6)
  have HYy2_6 := Lib.hid (HYy2_5.out.next hba6)
  clear HYa_5 HYb_5 HYx1_5 HYy1_5 HYx2_5 HYy2_5
  clear hW6
  clear f0_5 HS0_5 hf0_5 f1_5 HS1_5 hf1_5 f2_5 HS2_5 f3_5 HS3_5 f4_5 HS4_5
  have f0_6 := str6 HS0_6.out
  have hl0_6 := HS0_6.out.lt
  have hf0_6 := fun j => HS0_6.out.frozen j
  have f1_6 := str6 HS1_6.out
  have hl1_6 := HS1_6.out.lt
  have hf1_6 := fun j => HS1_6.out.frozen j
  have f2_6 := str6 HS2_6.out
  have hl2_6 := HS2_6.out.lt
  have f3_6 := str6 HS3_6.out
  have hl3_6 := HS3_6.out.lt
  have f4_6 := str6 HS4_6.out
  have hl4_6 := HS4_6.out.lt
  have f5_6 := str6 HS5_6.out
  have hl5_6 := HS5_6.out.lt
  rw [hz5] at HS5_6 hl5_6 f5_6
  have HP1_6 := Lib.hid ((HP1_4.out.next hba5).next hba6)
  clear HP1_4
  have HP2_6 := Lib.hid ((HP2_4.out.next hba5).next hba6)
  clear HP2_4
  go_wp2_with fail
  refine (refSameS_any As1 As2 ns1 cs1 ns2 cs2 W6.heap.size W6.heap.size r2.1 q2.1 _ HP1_6.out (Nat.le_refl _) HP2_6.out (Nat.le_refl _) (by rw [← HP1_6.out.len]; exact HRL.out)).mono ?_
  rintro e W7 ⟨rfl, hb7⟩
  rw [H3.out]
  have HS0_7 := Lib.hid (HS0_6.out.next hb7)
  have HS1_7 := Lib.hid (HS1_6.out.next hb7)
  have HS2_7 := Lib.hid (HS2_6.out.next hb7)
  have HS3_7 := Lib.hid (HS3_6.out.next hb7)
  have HS4_7 := Lib.hid (HS4_6.out.next hb7)
  have HS5_7 := Lib.hid (HS5_6.out.next hb7)
  have HB_7 := Lib.hid (bstep HB_6.out hb7)
  have hw_7 := HB_7.out.size
  have hws_7 := (hb7).size
  have HYa_7 := Lib.hid (HYa_6.out.next hb7)
  have HYb_7 := Lib.hid (HYb_6.out.next hb7)
  have HYx1_7 := Lib.hid (HYx1_6.out.next hb7)
  have HYy1_7 := Lib.hid (HYy1_6.out.next hb7)
  have HYx2_7 := Lib.hid (HYx2_6.out.next hb7)
  have HYy2_7 := Lib.hid (HYy2_6.out.next hb7)
  clear HYa_6 HYb_6 HYx1_6 HYy1_6 HYx2_6 HYy2_6
  clear f0_6 HS0_6 hf0_6 f1_6 HS1_6 hf1_6 f2_6 HS2_6 f3_6 HS3_6 f4_6 HS4_6 f5_6 HS5_6
  clear hb7
  have f0_7 := str6 HS0_7.out
  have hl0_7 := HS0_7.out.lt
  have hf0_7 := fun j => HS0_7.out.frozen j
  have f1_7 := str6 HS1_7.out
  have hl1_7 := HS1_7.out.lt
  have hf1_7 := fun j => HS1_7.out.frozen j
  have f2_7 := str6 HS2_7.out
  have hl2_7 := HS2_7.out.lt
  have f3_7 := str6 HS3_7.out
  have hl3_7 := HS3_7.out.lt
  have f4_7 := str6 HS4_7.out
  have hl4_7 := HS4_7.out.lt
  have f5_7 := str6 HS5_7.out
  have hl5_7 := HS5_7.out.lt
  go_wp2_with fail
  go_ret
  exact ⟨rfl, HB_7.out⟩
set_option maxRecDepth 100000 in
set_option maxHeartbeats 2000000 in
theorem swap_a (A : Option Addr) (n c B : Nat) (s : List Pair) (aa : Int) (ak : ByteArray) (ad : List UInt8) (alo ahi an : Int) (Aa : Option Addr) (na ca Ba : Nat) (ba : Int) (bk : ByteArray) (bd : List UInt8) (blo bhi bn : Int) (Ab : Option Addr) (nb cb Bb : Nat) (w : World) (h : Pairs w B A n c s) (hB : B ≤ w.heap.size) (hr : ModelP.Right s) (hs : s.length ≤ 500 ∧ ∀ p ∈ s, p.cell.data.length ≤ 100000) (hya : Bytes w Ba Aa na ca ad) (hBa : Ba ≤ w.heap.size) (hka : ak.size ≤ maxLen) (hia : In64 alo ∧ In64 ahi ∧ In64 an) (hna : na ≤ 100000) (hyb : Bytes w Bb Ab nb cb bd) (hBb : Bb ≤ w.heap.size) (hkb : bk.size ≤ maxLen) (hib : In64 blo ∧ In64 bhi ∧ In64 bn) (hnb : nb ≤ 100000) (v : Bool) (h3 : ModelP.sameAll (ModelP.step (ModelP.step s ⟨aa, ak, ad, alo, ahi, an⟩).1 ⟨ba, bk, bd, blo, bhi, bn⟩).1 (ModelP.step (ModelP.step s ⟨ba, bk, bd, blo, bhi, bn⟩).1 ⟨aa, ak, ad, alo, ahi, an⟩).1 = true) (h1 : ModelP.sameAns (ModelP.step s ⟨aa, ak, ad, alo, ahi, an⟩).2 (ModelP.step (ModelP.step s ⟨ba, bk, bd, blo, bhi, bn⟩).1 ⟨aa, ak, ad, alo, ahi, an⟩).2 = false) :
    Calls Tryd.prog 10 #[.slice A n c, .agg #[.int .i64 aa, .string ak, .slice Aa na ca, .int .i64 alo, .int .i64 ahi, .int .i64 an], .agg #[.int .i64 ba, .string bk, .slice Ab nb cb, .int .i64 blo, .int .i64 bhi, .int .i64 bn]] w fun e w' => e = .returned (.bool false) ∧ Below w.heap.size w w' := by
  have H := Lib.hid (h.more hB)
  have HA := Lib.hid (hya.more hBa)
  have HBB := Lib.hid (hyb.more hBb)
  have HSM := Lib.hid hs
  have HIA := Lib.hid hia
  have HIB := Lib.hid hib
  have HR0 := Lib.hid hr
  obtain ⟨r1, hr1⟩ : ∃ r, ModelP.step s ⟨aa, ak, ad, alo, ahi, an⟩ = r := ⟨_, rfl⟩
  obtain ⟨r2, hr2⟩ : ∃ r, ModelP.step r1.1 ⟨ba, bk, bd, blo, bhi, bn⟩ = r := ⟨_, rfl⟩
  obtain ⟨q1, hq1⟩ : ∃ r, ModelP.step s ⟨ba, bk, bd, blo, bhi, bn⟩ = r := ⟨_, rfl⟩
  obtain ⟨q2, hq2⟩ : ∃ r, ModelP.step q1.1 ⟨aa, ak, ad, alo, ahi, an⟩ = r := ⟨_, rfl⟩
  have HE1 := Lib.hid hr1
  have HE2 := Lib.hid hr2
  have HG1 := Lib.hid hq1
  have HG2 := Lib.hid hq2
  have HRL : Hid (r2.1.length ≤ 100000) := Lib.hid (by have h1 := ModelP.step_length s ⟨aa, ak, ad, alo, ahi, an⟩; have h2 := ModelP.step_length r1.1 ⟨ba, bk, bd, blo, bhi, bn⟩; rw [hr1] at h1; rw [hr2] at h2; have := hs.1; omega)
  simp only [hr1, hr2, hq1, hq2] at h3 h1
  have H3 := Lib.hid h3
  have H1 := Lib.hid h1
  clear h3 h1
  clear h hya hyb hr hs hia hib hr1 hr2 hq1 hq2
  go_enter Tryd.func10, Tryd.ntmps10
  go_wp2_with fail
  generalize hW0 : ((w).alloc (.cells #[.int .i64 aa, .string ak, .slice Aa na ca, .int .i64 alo, .int .i64 ahi, .int .i64 an] 25)).alloc (.cells #[.int .i64 ba, .string bk, .slice Ab nb cb, .int .i64 blo, .int .i64 bhi, .int .i64 bn] 25) = W0
  obtain ⟨HS0_0, HS1_0, HB_0, hw_0, hz0⟩ := new2 hW0
  clear hW0 hz0
  have f0_0 := str6 HS0_0.out
  have hl0_0 := HS0_0.out.lt
  have hf0_0 := fun j => HS0_0.out.frozen j
  have f1_0 := str6 HS1_0.out
  have hl1_0 := HS1_0.out.lt
  have hf1_0 := fun j => HS1_0.out.frozen j
  have HYa_0 := Lib.hid (HA.out.next HB_0.out)
  have HYb_0 := Lib.hid (HBB.out.next HB_0.out)
  refine (Two_any A n c W0.heap.size s aa ak ad alo ahi an Aa na ca W0.heap.size ba bk bd blo bhi bn Ab nb cb W0.heap.size _ (H.out.next HB_0.out) (Nat.le_refl _) HR0.out HSM.out HYa_0.out (Nat.le_refl _) hka HIA.out hna HYb_0.out (Nat.le_refl _) hkb HIB.out hnb).mono ?_
  rintro e W1 ⟨As1, ns1, cs1, Ax1, nx1, cx1, Ay1, ny1, cy1, rfl, hp, hx, hy, hb1⟩
  have HS0_1 := Lib.hid (HS0_0.out.next hb1)
  have HS1_1 := Lib.hid (HS1_0.out.next hb1)
  have HB_1 := Lib.hid (bstep HB_0.out hb1)
  have hw_1 := HB_1.out.size
  have hws_1 := (hb1).size
  have HYa_1 := Lib.hid (HYa_0.out.next hb1)
  have HYb_1 := Lib.hid (HYb_0.out.next hb1)
  clear HYa_0 HYb_0
  clear f0_0 HS0_0 hf0_0 f1_0 HS1_0 hf1_0
  have f0_1 := str6 HS0_1.out
  have hl0_1 := HS0_1.out.lt
  have hf0_1 := fun j => HS0_1.out.frozen j
  have f1_1 := str6 HS1_1.out
  have hl1_1 := HS1_1.out.lt
  have hf1_1 := fun j => HS1_1.out.frozen j
  simp only [HE1.out, HE2.out] at hp hx hy
  simp only [HE1.out, HE2.out, ansV]
  have HP1_1 := Lib.hid hp
  have HYx1_1 := Lib.hid (hx)
  have HYy1_1 := Lib.hid (hy)
  clear hp hx hy hb1
  go_wp2_with fail
  generalize hW2 : W1.alloc (.cells #[.int .i64 r1.2.err, .int .i64 r1.2.cell.kind, .slice Ax1 nx1 cx1, .int .i64 r1.2.cell.lo, .int .i64 r1.2.cell.hi, .int .i64 r1.2.cell.val] 47) = W2
  have HS0_2 := sEq hW2 (HS0_1.out.alloc _)
  have HS1_2 := sEq hW2 (HS1_1.out.alloc _)
  have HS2_2 := sEq hW2 (Str.new _ _ _)
  have hba2 : Below W1.heap.size W1 W2 := by rw [← hW2]; exact balloc (bsame _) _
  have HB_2 := Lib.hid (bstep HB_1.out hba2)
  have hw_2 := HB_2.out.size
  have hws_2 := hba2.size
  have HYa_2 := Lib.hid (HYa_1.out.next hba2)
  have HYb_2 := Lib.hid (HYb_1.out.next hba2)
  have HYx1_2 := Lib.hid (HYx1_1.out.next hba2)
  have HYy1_2 := Lib.hid (HYy1_1.out.next hba2)
  clear HYa_1 HYb_1 HYx1_1 HYy1_1
  have hz2 : W2.heap.size = W1.heap.size + 1 := by rw [← hW2]; simp
  clear hW2
  clear f0_1 HS0_1 hf0_1 f1_1 HS1_1 hf1_1
  have f0_2 := str6 HS0_2.out
  have hl0_2 := HS0_2.out.lt
  have hf0_2 := fun j => HS0_2.out.frozen j
  have f1_2 := str6 HS1_2.out
  have hl1_2 := HS1_2.out.lt
  have hf1_2 := fun j => HS1_2.out.frozen j
  have f2_2 := str6 HS2_2.out
  have hl2_2 := HS2_2.out.lt
  generalize hW3 : W2.alloc (.cells #[.int .i64 r2.2.err, .int .i64 r2.2.cell.kind, .slice Ay1 ny1 cy1, .int .i64 r2.2.cell.lo, .int .i64 r2.2.cell.hi, .int .i64 r2.2.cell.val] 47) = W3
  have HS0_3 := sEq hW3 (HS0_2.out.alloc _)
  have HS1_3 := sEq hW3 (HS1_2.out.alloc _)
  have HS2_3 := sEq hW3 (HS2_2.out.alloc _)
  have HS3_3 := sEq hW3 (Str.new _ _ _)
  have hba3 : Below W2.heap.size W2 W3 := by rw [← hW3]; exact balloc (bsame _) _
  have HB_3 := Lib.hid (bstep HB_2.out hba3)
  have hw_3 := HB_3.out.size
  have hws_3 := hba3.size
  have HYa_3 := Lib.hid (HYa_2.out.next hba3)
  have HYb_3 := Lib.hid (HYb_2.out.next hba3)
  have HYx1_3 := Lib.hid (HYx1_2.out.next hba3)
  have HYy1_3 := Lib.hid (HYy1_2.out.next hba3)
  clear HYa_2 HYb_2 HYx1_2 HYy1_2
  clear hW3
  clear f0_2 HS0_2 hf0_2 f1_2 HS1_2 hf1_2 f2_2 HS2_2
  have f0_3 := str6 HS0_3.out
  have hl0_3 := HS0_3.out.lt
  have hf0_3 := fun j => HS0_3.out.frozen j
  have f1_3 := str6 HS1_3.out
  have hl1_3 := HS1_3.out.lt
  have hf1_3 := fun j => HS1_3.out.frozen j
  have f2_3 := str6 HS2_3.out
  have hl2_3 := HS2_3.out.lt
  have f3_3 := str6 HS3_3.out
  have hl3_3 := HS3_3.out.lt
  rw [hz2] at HS3_3 hl3_3 f3_3
  have HP1_3 := Lib.hid ((HP1_1.out.next hba2).next hba3)
  clear HP1_1
  go_wp2_with fail
  refine (Two_any A n c W3.heap.size s ba bk bd blo bhi bn Ab nb cb W3.heap.size aa ak ad alo ahi an Aa na ca W3.heap.size _ (H.out.next HB_3.out) (Nat.le_refl _) HR0.out HSM.out HYb_3.out (Nat.le_refl _) hkb HIB.out hnb HYa_3.out (Nat.le_refl _) hka HIA.out hna).mono ?_
  rintro e W4 ⟨As2, ns2, cs2, Ax2, nx2, cx2, Ay2, ny2, cy2, rfl, hp, hx, hy, hb4⟩
  have HS0_4 := Lib.hid (HS0_3.out.next hb4)
  have HS1_4 := Lib.hid (HS1_3.out.next hb4)
  have HS2_4 := Lib.hid (HS2_3.out.next hb4)
  have HS3_4 := Lib.hid (HS3_3.out.next hb4)
  have HB_4 := Lib.hid (bstep HB_3.out hb4)
  have hw_4 := HB_4.out.size
  have hws_4 := (hb4).size
  have HYa_4 := Lib.hid (HYa_3.out.next hb4)
  have HYb_4 := Lib.hid (HYb_3.out.next hb4)
  have HYx1_4 := Lib.hid (HYx1_3.out.next hb4)
  have HYy1_4 := Lib.hid (HYy1_3.out.next hb4)
  clear HYa_3 HYb_3 HYx1_3 HYy1_3
  clear f0_3 HS0_3 hf0_3 f1_3 HS1_3 hf1_3 f2_3 HS2_3 f3_3 HS3_3
  have f0_4 := str6 HS0_4.out
  have hl0_4 := HS0_4.out.lt
  have hf0_4 := fun j => HS0_4.out.frozen j
  have f1_4 := str6 HS1_4.out
  have hl1_4 := HS1_4.out.lt
  have hf1_4 := fun j => HS1_4.out.frozen j
  have f2_4 := str6 HS2_4.out
  have hl2_4 := HS2_4.out.lt
  have f3_4 := str6 HS3_4.out
  have hl3_4 := HS3_4.out.lt
  simp only [HG1.out, HG2.out] at hp hx hy
  simp only [HG1.out, HG2.out, ansV]
  have HP2_4 := Lib.hid hp
  have HP1_4 := Lib.hid (HP1_3.out.next hb4)
  clear HP1_3
  have HYx2_4 := Lib.hid (hx)
  have HYy2_4 := Lib.hid (hy)
  clear hp hx hy hb4
  go_wp2_with fail
  generalize hW5 : W4.alloc (.cells #[.int .i64 q1.2.err, .int .i64 q1.2.cell.kind, .slice Ax2 nx2 cx2, .int .i64 q1.2.cell.lo, .int .i64 q1.2.cell.hi, .int .i64 q1.2.cell.val] 47) = W5
  have HS0_5 := sEq hW5 (HS0_4.out.alloc _)
  have HS1_5 := sEq hW5 (HS1_4.out.alloc _)
  have HS2_5 := sEq hW5 (HS2_4.out.alloc _)
  have HS3_5 := sEq hW5 (HS3_4.out.alloc _)
  have HS4_5 := sEq hW5 (Str.new _ _ _)
  have hba5 : Below W4.heap.size W4 W5 := by rw [← hW5]; exact balloc (bsame _) _
  have HB_5 := Lib.hid (bstep HB_4.out hba5)
  have hw_5 := HB_5.out.size
  have hws_5 := hba5.size
  have HYa_5 := Lib.hid (HYa_4.out.next hba5)
  have HYb_5 := Lib.hid (HYb_4.out.next hba5)
  have HYx1_5 := Lib.hid (HYx1_4.out.next hba5)
  have HYy1_5 := Lib.hid (HYy1_4.out.next hba5)
  have HYx2_5 := Lib.hid (HYx2_4.out.next hba5)
  have HYy2_5 := Lib.hid (HYy2_4.out.next hba5)
  clear HYa_4 HYb_4 HYx1_4 HYy1_4 HYx2_4 HYy2_4
  have hz5 : W5.heap.size = W4.heap.size + 1 := by rw [← hW5]; simp
  clear hW5
  clear f0_4 HS0_4 hf0_4 f1_4 HS1_4 hf1_4 f2_4 HS2_4 f3_4 HS3_4
  have f0_5 := str6 HS0_5.out
  have hl0_5 := HS0_5.out.lt
  have hf0_5 := fun j => HS0_5.out.frozen j
  have f1_5 := str6 HS1_5.out
  have hl1_5 := HS1_5.out.lt
  have hf1_5 := fun j => HS1_5.out.frozen j
  have f2_5 := str6 HS2_5.out
  have hl2_5 := HS2_5.out.lt
  have f3_5 := str6 HS3_5.out
  have hl3_5 := HS3_5.out.lt
  have f4_5 := str6 HS4_5.out
  have hl4_5 := HS4_5.out.lt
  generalize hW6 : W5.alloc (.cells #[.int .i64 q2.2.err, .int .i64 q2.2.cell.kind, .slice Ay2 ny2 cy2, .int .i64 q2.2.cell.lo, .int .i64 q2.2.cell.hi, .int .i64 q2.2.cell.val] 47) = W6
  have HS0_6 := sEq hW6 (HS0_5.out.alloc _)
  have HS1_6 := sEq hW6 (HS1_5.out.alloc _)
  have HS2_6 := sEq hW6 (HS2_5.out.alloc _)
  have HS3_6 := sEq hW6 (HS3_5.out.alloc _)
  have HS4_6 := sEq hW6 (HS4_5.out.alloc _)
  have HS5_6 := sEq hW6 (Str.new _ _ _)
  have hba6 : Below W5.heap.size W5 W6 := by rw [← hW6]; exact balloc (bsame _) _
  have HB_6 := Lib.hid (bstep HB_5.out hba6)
  have hw_6 := HB_6.out.size
  have hws_6 := hba6.size
  have HYa_6 := Lib.hid (HYa_5.out.next hba6)
  have HYb_6 := Lib.hid (HYb_5.out.next hba6)
  have HYx1_6 := Lib.hid (HYx1_5.out.next hba6)
  have HYy1_6 := Lib.hid (HYy1_5.out.next hba6)
  have HYx2_6 := Lib.hid (HYx2_5.out.next hba6)
  have HYy2_6 := Lib.hid (HYy2_5.out.next hba6)
  clear HYa_5 HYb_5 HYx1_5 HYy1_5 HYx2_5 HYy2_5
  clear hW6
  clear f0_5 HS0_5 hf0_5 f1_5 HS1_5 hf1_5 f2_5 HS2_5 f3_5 HS3_5 f4_5 HS4_5
  have f0_6 := str6 HS0_6.out
  have hl0_6 := HS0_6.out.lt
  have hf0_6 := fun j => HS0_6.out.frozen j
  have f1_6 := str6 HS1_6.out
  have hl1_6 := HS1_6.out.lt
  have hf1_6 := fun j => HS1_6.out.frozen j
  have f2_6 := str6 HS2_6.out
  have hl2_6 := HS2_6.out.lt
  have f3_6 := str6 HS3_6.out
  have hl3_6 := HS3_6.out.lt
  have f4_6 := str6 HS4_6.out
  have hl4_6 := HS4_6.out.lt
  have f5_6 := str6 HS5_6.out
  have hl5_6 := HS5_6.out.lt
  rw [hz5] at HS5_6 hl5_6 f5_6
  have HP1_6 := Lib.hid ((HP1_4.out.next hba5).next hba6)
  clear HP1_4
  have HP2_6 := Lib.hid ((HP2_4.out.next hba5).next hba6)
  clear HP2_4
  go_wp2_with fail
  refine (refSameS_any As1 As2 ns1 cs1 ns2 cs2 W6.heap.size W6.heap.size r2.1 q2.1 _ HP1_6.out (Nat.le_refl _) HP2_6.out (Nat.le_refl _) (by rw [← HP1_6.out.len]; exact HRL.out)).mono ?_
  rintro e W7 ⟨rfl, hb7⟩
  rw [H3.out]
  have HS0_7 := Lib.hid (HS0_6.out.next hb7)
  have HS1_7 := Lib.hid (HS1_6.out.next hb7)
  have HS2_7 := Lib.hid (HS2_6.out.next hb7)
  have HS3_7 := Lib.hid (HS3_6.out.next hb7)
  have HS4_7 := Lib.hid (HS4_6.out.next hb7)
  have HS5_7 := Lib.hid (HS5_6.out.next hb7)
  have HB_7 := Lib.hid (bstep HB_6.out hb7)
  have hw_7 := HB_7.out.size
  have hws_7 := (hb7).size
  have HYa_7 := Lib.hid (HYa_6.out.next hb7)
  have HYb_7 := Lib.hid (HYb_6.out.next hb7)
  have HYx1_7 := Lib.hid (HYx1_6.out.next hb7)
  have HYy1_7 := Lib.hid (HYy1_6.out.next hb7)
  have HYx2_7 := Lib.hid (HYx2_6.out.next hb7)
  have HYy2_7 := Lib.hid (HYy2_6.out.next hb7)
  clear HYa_6 HYb_6 HYx1_6 HYy1_6 HYx2_6 HYy2_6
  clear f0_6 HS0_6 hf0_6 f1_6 HS1_6 hf1_6 f2_6 HS2_6 f3_6 HS3_6 f4_6 HS4_6 f5_6 HS5_6
  clear hb7
  have f0_7 := str6 HS0_7.out
  have hl0_7 := HS0_7.out.lt
  have hf0_7 := fun j => HS0_7.out.frozen j
  have f1_7 := str6 HS1_7.out
  have hl1_7 := HS1_7.out.lt
  have hf1_7 := fun j => HS1_7.out.frozen j
  have f2_7 := str6 HS2_7.out
  have hl2_7 := HS2_7.out.lt
  have f3_7 := str6 HS3_7.out
  have hl3_7 := HS3_7.out.lt
  have f4_7 := str6 HS4_7.out
  have hl4_7 := HS4_7.out.lt
  have f5_7 := str6 HS5_7.out
  have hl5_7 := HS5_7.out.lt
  go_wp2_with fail
  refine (refSameAnswer_any r1.2 q2.2 Ax1 Ay2 nx1 cx1 ny2 cy2 W7.heap.size W7.heap.size _ HYx1_7.out (Nat.le_refl _) HYy2_7.out (Nat.le_refl _)).mono ?_
  rintro e W8 ⟨rfl, hb8⟩
  rw [H1.out]
  have HS0_8 := Lib.hid (HS0_7.out.next hb8)
  have HS1_8 := Lib.hid (HS1_7.out.next hb8)
  have HS2_8 := Lib.hid (HS2_7.out.next hb8)
  have HS3_8 := Lib.hid (HS3_7.out.next hb8)
  have HS4_8 := Lib.hid (HS4_7.out.next hb8)
  have HS5_8 := Lib.hid (HS5_7.out.next hb8)
  have HB_8 := Lib.hid (bstep HB_7.out hb8)
  have hw_8 := HB_8.out.size
  have hws_8 := (hb8).size
  have HYa_8 := Lib.hid (HYa_7.out.next hb8)
  have HYb_8 := Lib.hid (HYb_7.out.next hb8)
  have HYx1_8 := Lib.hid (HYx1_7.out.next hb8)
  have HYy1_8 := Lib.hid (HYy1_7.out.next hb8)
  have HYx2_8 := Lib.hid (HYx2_7.out.next hb8)
  have HYy2_8 := Lib.hid (HYy2_7.out.next hb8)
  clear HYa_7 HYb_7 HYx1_7 HYy1_7 HYx2_7 HYy2_7
  clear f0_7 HS0_7 hf0_7 f1_7 HS1_7 hf1_7 f2_7 HS2_7 f3_7 HS3_7 f4_7 HS4_7 f5_7 HS5_7
  clear hb8
  have f0_8 := str6 HS0_8.out
  have hl0_8 := HS0_8.out.lt
  have hf0_8 := fun j => HS0_8.out.frozen j
  have f1_8 := str6 HS1_8.out
  have hl1_8 := HS1_8.out.lt
  have hf1_8 := fun j => HS1_8.out.frozen j
  have f2_8 := str6 HS2_8.out
  have hl2_8 := HS2_8.out.lt
  have f3_8 := str6 HS3_8.out
  have hl3_8 := HS3_8.out.lt
  have f4_8 := str6 HS4_8.out
  have hl4_8 := HS4_8.out.lt
  have f5_8 := str6 HS5_8.out
  have hl5_8 := HS5_8.out.lt
  go_wp2_with fail
  go_ret
  exact ⟨rfl, HB_8.out⟩
set_option maxRecDepth 100000 in
set_option maxHeartbeats 2000000 in
theorem swap_b (A : Option Addr) (n c B : Nat) (s : List Pair) (aa : Int) (ak : ByteArray) (ad : List UInt8) (alo ahi an : Int) (Aa : Option Addr) (na ca Ba : Nat) (ba : Int) (bk : ByteArray) (bd : List UInt8) (blo bhi bn : Int) (Ab : Option Addr) (nb cb Bb : Nat) (w : World) (h : Pairs w B A n c s) (hB : B ≤ w.heap.size) (hr : ModelP.Right s) (hs : s.length ≤ 500 ∧ ∀ p ∈ s, p.cell.data.length ≤ 100000) (hya : Bytes w Ba Aa na ca ad) (hBa : Ba ≤ w.heap.size) (hka : ak.size ≤ maxLen) (hia : In64 alo ∧ In64 ahi ∧ In64 an) (hna : na ≤ 100000) (hyb : Bytes w Bb Ab nb cb bd) (hBb : Bb ≤ w.heap.size) (hkb : bk.size ≤ maxLen) (hib : In64 blo ∧ In64 bhi ∧ In64 bn) (hnb : nb ≤ 100000) (v : Bool) (h3 : ModelP.sameAll (ModelP.step (ModelP.step s ⟨aa, ak, ad, alo, ahi, an⟩).1 ⟨ba, bk, bd, blo, bhi, bn⟩).1 (ModelP.step (ModelP.step s ⟨ba, bk, bd, blo, bhi, bn⟩).1 ⟨aa, ak, ad, alo, ahi, an⟩).1 = true) (h1 : ModelP.sameAns (ModelP.step s ⟨aa, ak, ad, alo, ahi, an⟩).2 (ModelP.step (ModelP.step s ⟨ba, bk, bd, blo, bhi, bn⟩).1 ⟨aa, ak, ad, alo, ahi, an⟩).2 = true) (h2 : ModelP.sameAns (ModelP.step (ModelP.step s ⟨aa, ak, ad, alo, ahi, an⟩).1 ⟨ba, bk, bd, blo, bhi, bn⟩).2 (ModelP.step s ⟨ba, bk, bd, blo, bhi, bn⟩).2 = v) :
    Calls Tryd.prog 10 #[.slice A n c, .agg #[.int .i64 aa, .string ak, .slice Aa na ca, .int .i64 alo, .int .i64 ahi, .int .i64 an], .agg #[.int .i64 ba, .string bk, .slice Ab nb cb, .int .i64 blo, .int .i64 bhi, .int .i64 bn]] w fun e w' => e = .returned (.bool v) ∧ Below w.heap.size w w' := by
  have H := Lib.hid (h.more hB)
  have HA := Lib.hid (hya.more hBa)
  have HBB := Lib.hid (hyb.more hBb)
  have HSM := Lib.hid hs
  have HIA := Lib.hid hia
  have HIB := Lib.hid hib
  have HR0 := Lib.hid hr
  obtain ⟨r1, hr1⟩ : ∃ r, ModelP.step s ⟨aa, ak, ad, alo, ahi, an⟩ = r := ⟨_, rfl⟩
  obtain ⟨r2, hr2⟩ : ∃ r, ModelP.step r1.1 ⟨ba, bk, bd, blo, bhi, bn⟩ = r := ⟨_, rfl⟩
  obtain ⟨q1, hq1⟩ : ∃ r, ModelP.step s ⟨ba, bk, bd, blo, bhi, bn⟩ = r := ⟨_, rfl⟩
  obtain ⟨q2, hq2⟩ : ∃ r, ModelP.step q1.1 ⟨aa, ak, ad, alo, ahi, an⟩ = r := ⟨_, rfl⟩
  have HE1 := Lib.hid hr1
  have HE2 := Lib.hid hr2
  have HG1 := Lib.hid hq1
  have HG2 := Lib.hid hq2
  have HRL : Hid (r2.1.length ≤ 100000) := Lib.hid (by have h1 := ModelP.step_length s ⟨aa, ak, ad, alo, ahi, an⟩; have h2 := ModelP.step_length r1.1 ⟨ba, bk, bd, blo, bhi, bn⟩; rw [hr1] at h1; rw [hr2] at h2; have := hs.1; omega)
  simp only [hr1, hr2, hq1, hq2] at h3 h1 h2
  have H3 := Lib.hid h3
  have H1 := Lib.hid h1
  have H2 := Lib.hid h2
  clear h3 h1 h2
  clear h hya hyb hr hs hia hib hr1 hr2 hq1 hq2
  go_enter Tryd.func10, Tryd.ntmps10
  go_wp2_with fail
  generalize hW0 : ((w).alloc (.cells #[.int .i64 aa, .string ak, .slice Aa na ca, .int .i64 alo, .int .i64 ahi, .int .i64 an] 25)).alloc (.cells #[.int .i64 ba, .string bk, .slice Ab nb cb, .int .i64 blo, .int .i64 bhi, .int .i64 bn] 25) = W0
  obtain ⟨HS0_0, HS1_0, HB_0, hw_0, hz0⟩ := new2 hW0
  clear hW0 hz0
  have f0_0 := str6 HS0_0.out
  have hl0_0 := HS0_0.out.lt
  have hf0_0 := fun j => HS0_0.out.frozen j
  have f1_0 := str6 HS1_0.out
  have hl1_0 := HS1_0.out.lt
  have hf1_0 := fun j => HS1_0.out.frozen j
  have HYa_0 := Lib.hid (HA.out.next HB_0.out)
  have HYb_0 := Lib.hid (HBB.out.next HB_0.out)
  refine (Two_any A n c W0.heap.size s aa ak ad alo ahi an Aa na ca W0.heap.size ba bk bd blo bhi bn Ab nb cb W0.heap.size _ (H.out.next HB_0.out) (Nat.le_refl _) HR0.out HSM.out HYa_0.out (Nat.le_refl _) hka HIA.out hna HYb_0.out (Nat.le_refl _) hkb HIB.out hnb).mono ?_
  rintro e W1 ⟨As1, ns1, cs1, Ax1, nx1, cx1, Ay1, ny1, cy1, rfl, hp, hx, hy, hb1⟩
  have HS0_1 := Lib.hid (HS0_0.out.next hb1)
  have HS1_1 := Lib.hid (HS1_0.out.next hb1)
  have HB_1 := Lib.hid (bstep HB_0.out hb1)
  have hw_1 := HB_1.out.size
  have hws_1 := (hb1).size
  have HYa_1 := Lib.hid (HYa_0.out.next hb1)
  have HYb_1 := Lib.hid (HYb_0.out.next hb1)
  clear HYa_0 HYb_0
  clear f0_0 HS0_0 hf0_0 f1_0 HS1_0 hf1_0
  have f0_1 := str6 HS0_1.out
  have hl0_1 := HS0_1.out.lt
  have hf0_1 := fun j => HS0_1.out.frozen j
  have f1_1 := str6 HS1_1.out
  have hl1_1 := HS1_1.out.lt
  have hf1_1 := fun j => HS1_1.out.frozen j
  simp only [HE1.out, HE2.out] at hp hx hy
  simp only [HE1.out, HE2.out, ansV]
  have HP1_1 := Lib.hid hp
  have HYx1_1 := Lib.hid (hx)
  have HYy1_1 := Lib.hid (hy)
  clear hp hx hy hb1
  go_wp2_with fail
  generalize hW2 : W1.alloc (.cells #[.int .i64 r1.2.err, .int .i64 r1.2.cell.kind, .slice Ax1 nx1 cx1, .int .i64 r1.2.cell.lo, .int .i64 r1.2.cell.hi, .int .i64 r1.2.cell.val] 47) = W2
  have HS0_2 := sEq hW2 (HS0_1.out.alloc _)
  have HS1_2 := sEq hW2 (HS1_1.out.alloc _)
  have HS2_2 := sEq hW2 (Str.new _ _ _)
  have hba2 : Below W1.heap.size W1 W2 := by rw [← hW2]; exact balloc (bsame _) _
  have HB_2 := Lib.hid (bstep HB_1.out hba2)
  have hw_2 := HB_2.out.size
  have hws_2 := hba2.size
  have HYa_2 := Lib.hid (HYa_1.out.next hba2)
  have HYb_2 := Lib.hid (HYb_1.out.next hba2)
  have HYx1_2 := Lib.hid (HYx1_1.out.next hba2)
  have HYy1_2 := Lib.hid (HYy1_1.out.next hba2)
  clear HYa_1 HYb_1 HYx1_1 HYy1_1
  have hz2 : W2.heap.size = W1.heap.size + 1 := by rw [← hW2]; simp
  clear hW2
  clear f0_1 HS0_1 hf0_1 f1_1 HS1_1 hf1_1
  have f0_2 := str6 HS0_2.out
  have hl0_2 := HS0_2.out.lt
  have hf0_2 := fun j => HS0_2.out.frozen j
  have f1_2 := str6 HS1_2.out
  have hl1_2 := HS1_2.out.lt
  have hf1_2 := fun j => HS1_2.out.frozen j
  have f2_2 := str6 HS2_2.out
  have hl2_2 := HS2_2.out.lt
  generalize hW3 : W2.alloc (.cells #[.int .i64 r2.2.err, .int .i64 r2.2.cell.kind, .slice Ay1 ny1 cy1, .int .i64 r2.2.cell.lo, .int .i64 r2.2.cell.hi, .int .i64 r2.2.cell.val] 47) = W3
  have HS0_3 := sEq hW3 (HS0_2.out.alloc _)
  have HS1_3 := sEq hW3 (HS1_2.out.alloc _)
  have HS2_3 := sEq hW3 (HS2_2.out.alloc _)
  have HS3_3 := sEq hW3 (Str.new _ _ _)
  have hba3 : Below W2.heap.size W2 W3 := by rw [← hW3]; exact balloc (bsame _) _
  have HB_3 := Lib.hid (bstep HB_2.out hba3)
  have hw_3 := HB_3.out.size
  have hws_3 := hba3.size
  have HYa_3 := Lib.hid (HYa_2.out.next hba3)
  have HYb_3 := Lib.hid (HYb_2.out.next hba3)
  have HYx1_3 := Lib.hid (HYx1_2.out.next hba3)
  have HYy1_3 := Lib.hid (HYy1_2.out.next hba3)
  clear HYa_2 HYb_2 HYx1_2 HYy1_2
  clear hW3
  clear f0_2 HS0_2 hf0_2 f1_2 HS1_2 hf1_2 f2_2 HS2_2
  have f0_3 := str6 HS0_3.out
  have hl0_3 := HS0_3.out.lt
  have hf0_3 := fun j => HS0_3.out.frozen j
  have f1_3 := str6 HS1_3.out
  have hl1_3 := HS1_3.out.lt
  have hf1_3 := fun j => HS1_3.out.frozen j
  have f2_3 := str6 HS2_3.out
  have hl2_3 := HS2_3.out.lt
  have f3_3 := str6 HS3_3.out
  have hl3_3 := HS3_3.out.lt
  rw [hz2] at HS3_3 hl3_3 f3_3
  have HP1_3 := Lib.hid ((HP1_1.out.next hba2).next hba3)
  clear HP1_1
  go_wp2_with fail
  refine (Two_any A n c W3.heap.size s ba bk bd blo bhi bn Ab nb cb W3.heap.size aa ak ad alo ahi an Aa na ca W3.heap.size _ (H.out.next HB_3.out) (Nat.le_refl _) HR0.out HSM.out HYb_3.out (Nat.le_refl _) hkb HIB.out hnb HYa_3.out (Nat.le_refl _) hka HIA.out hna).mono ?_
  rintro e W4 ⟨As2, ns2, cs2, Ax2, nx2, cx2, Ay2, ny2, cy2, rfl, hp, hx, hy, hb4⟩
  have HS0_4 := Lib.hid (HS0_3.out.next hb4)
  have HS1_4 := Lib.hid (HS1_3.out.next hb4)
  have HS2_4 := Lib.hid (HS2_3.out.next hb4)
  have HS3_4 := Lib.hid (HS3_3.out.next hb4)
  have HB_4 := Lib.hid (bstep HB_3.out hb4)
  have hw_4 := HB_4.out.size
  have hws_4 := (hb4).size
  have HYa_4 := Lib.hid (HYa_3.out.next hb4)
  have HYb_4 := Lib.hid (HYb_3.out.next hb4)
  have HYx1_4 := Lib.hid (HYx1_3.out.next hb4)
  have HYy1_4 := Lib.hid (HYy1_3.out.next hb4)
  clear HYa_3 HYb_3 HYx1_3 HYy1_3
  clear f0_3 HS0_3 hf0_3 f1_3 HS1_3 hf1_3 f2_3 HS2_3 f3_3 HS3_3
  have f0_4 := str6 HS0_4.out
  have hl0_4 := HS0_4.out.lt
  have hf0_4 := fun j => HS0_4.out.frozen j
  have f1_4 := str6 HS1_4.out
  have hl1_4 := HS1_4.out.lt
  have hf1_4 := fun j => HS1_4.out.frozen j
  have f2_4 := str6 HS2_4.out
  have hl2_4 := HS2_4.out.lt
  have f3_4 := str6 HS3_4.out
  have hl3_4 := HS3_4.out.lt
  simp only [HG1.out, HG2.out] at hp hx hy
  simp only [HG1.out, HG2.out, ansV]
  have HP2_4 := Lib.hid hp
  have HP1_4 := Lib.hid (HP1_3.out.next hb4)
  clear HP1_3
  have HYx2_4 := Lib.hid (hx)
  have HYy2_4 := Lib.hid (hy)
  clear hp hx hy hb4
  go_wp2_with fail
  generalize hW5 : W4.alloc (.cells #[.int .i64 q1.2.err, .int .i64 q1.2.cell.kind, .slice Ax2 nx2 cx2, .int .i64 q1.2.cell.lo, .int .i64 q1.2.cell.hi, .int .i64 q1.2.cell.val] 47) = W5
  have HS0_5 := sEq hW5 (HS0_4.out.alloc _)
  have HS1_5 := sEq hW5 (HS1_4.out.alloc _)
  have HS2_5 := sEq hW5 (HS2_4.out.alloc _)
  have HS3_5 := sEq hW5 (HS3_4.out.alloc _)
  have HS4_5 := sEq hW5 (Str.new _ _ _)
  have hba5 : Below W4.heap.size W4 W5 := by rw [← hW5]; exact balloc (bsame _) _
  have HB_5 := Lib.hid (bstep HB_4.out hba5)
  have hw_5 := HB_5.out.size
  have hws_5 := hba5.size
  have HYa_5 := Lib.hid (HYa_4.out.next hba5)
  have HYb_5 := Lib.hid (HYb_4.out.next hba5)
  have HYx1_5 := Lib.hid (HYx1_4.out.next hba5)
  have HYy1_5 := Lib.hid (HYy1_4.out.next hba5)
  have HYx2_5 := Lib.hid (HYx2_4.out.next hba5)
  have HYy2_5 := Lib.hid (HYy2_4.out.next hba5)
  clear HYa_4 HYb_4 HYx1_4 HYy1_4 HYx2_4 HYy2_4
  have hz5 : W5.heap.size = W4.heap.size + 1 := by rw [← hW5]; simp
  clear hW5
  clear f0_4 HS0_4 hf0_4 f1_4 HS1_4 hf1_4 f2_4 HS2_4 f3_4 HS3_4
  have f0_5 := str6 HS0_5.out
  have hl0_5 := HS0_5.out.lt
  have hf0_5 := fun j => HS0_5.out.frozen j
  have f1_5 := str6 HS1_5.out
  have hl1_5 := HS1_5.out.lt
  have hf1_5 := fun j => HS1_5.out.frozen j
  have f2_5 := str6 HS2_5.out
  have hl2_5 := HS2_5.out.lt
  have f3_5 := str6 HS3_5.out
  have hl3_5 := HS3_5.out.lt
  have f4_5 := str6 HS4_5.out
  have hl4_5 := HS4_5.out.lt
  generalize hW6 : W5.alloc (.cells #[.int .i64 q2.2.err, .int .i64 q2.2.cell.kind, .slice Ay2 ny2 cy2, .int .i64 q2.2.cell.lo, .int .i64 q2.2.cell.hi, .int .i64 q2.2.cell.val] 47) = W6
  have HS0_6 := sEq hW6 (HS0_5.out.alloc _)
  have HS1_6 := sEq hW6 (HS1_5.out.alloc _)
  have HS2_6 := sEq hW6 (HS2_5.out.alloc _)
  have HS3_6 := sEq hW6 (HS3_5.out.alloc _)
  have HS4_6 := sEq hW6 (HS4_5.out.alloc _)
  have HS5_6 := sEq hW6 (Str.new _ _ _)
  have hba6 : Below W5.heap.size W5 W6 := by rw [← hW6]; exact balloc (bsame _) _
  have HB_6 := Lib.hid (bstep HB_5.out hba6)
  have hw_6 := HB_6.out.size
  have hws_6 := hba6.size
  have HYa_6 := Lib.hid (HYa_5.out.next hba6)
  have HYb_6 := Lib.hid (HYb_5.out.next hba6)
  have HYx1_6 := Lib.hid (HYx1_5.out.next hba6)
  have HYy1_6 := Lib.hid (HYy1_5.out.next hba6)
  have HYx2_6 := Lib.hid (HYx2_5.out.next hba6)
  have HYy2_6 := Lib.hid (HYy2_5.out.next hba6)
  clear HYa_5 HYb_5 HYx1_5 HYy1_5 HYx2_5 HYy2_5
  clear hW6
  clear f0_5 HS0_5 hf0_5 f1_5 HS1_5 hf1_5 f2_5 HS2_5 f3_5 HS3_5 f4_5 HS4_5
  have f0_6 := str6 HS0_6.out
  have hl0_6 := HS0_6.out.lt
  have hf0_6 := fun j => HS0_6.out.frozen j
  have f1_6 := str6 HS1_6.out
  have hl1_6 := HS1_6.out.lt
  have hf1_6 := fun j => HS1_6.out.frozen j
  have f2_6 := str6 HS2_6.out
  have hl2_6 := HS2_6.out.lt
  have f3_6 := str6 HS3_6.out
  have hl3_6 := HS3_6.out.lt
  have f4_6 := str6 HS4_6.out
  have hl4_6 := HS4_6.out.lt
  have f5_6 := str6 HS5_6.out
  have hl5_6 := HS5_6.out.lt
  rw [hz5] at HS5_6 hl5_6 f5_6
  have HP1_6 := Lib.hid ((HP1_4.out.next hba5).next hba6)
  clear HP1_4
  have HP2_6 := Lib.hid ((HP2_4.out.next hba5).next hba6)
  clear HP2_4
  go_wp2_with fail
  refine (refSameS_any As1 As2 ns1 cs1 ns2 cs2 W6.heap.size W6.heap.size r2.1 q2.1 _ HP1_6.out (Nat.le_refl _) HP2_6.out (Nat.le_refl _) (by rw [← HP1_6.out.len]; exact HRL.out)).mono ?_
  rintro e W7 ⟨rfl, hb7⟩
  rw [H3.out]
  have HS0_7 := Lib.hid (HS0_6.out.next hb7)
  have HS1_7 := Lib.hid (HS1_6.out.next hb7)
  have HS2_7 := Lib.hid (HS2_6.out.next hb7)
  have HS3_7 := Lib.hid (HS3_6.out.next hb7)
  have HS4_7 := Lib.hid (HS4_6.out.next hb7)
  have HS5_7 := Lib.hid (HS5_6.out.next hb7)
  have HB_7 := Lib.hid (bstep HB_6.out hb7)
  have hw_7 := HB_7.out.size
  have hws_7 := (hb7).size
  have HYa_7 := Lib.hid (HYa_6.out.next hb7)
  have HYb_7 := Lib.hid (HYb_6.out.next hb7)
  have HYx1_7 := Lib.hid (HYx1_6.out.next hb7)
  have HYy1_7 := Lib.hid (HYy1_6.out.next hb7)
  have HYx2_7 := Lib.hid (HYx2_6.out.next hb7)
  have HYy2_7 := Lib.hid (HYy2_6.out.next hb7)
  clear HYa_6 HYb_6 HYx1_6 HYy1_6 HYx2_6 HYy2_6
  clear f0_6 HS0_6 hf0_6 f1_6 HS1_6 hf1_6 f2_6 HS2_6 f3_6 HS3_6 f4_6 HS4_6 f5_6 HS5_6
  clear hb7
  have f0_7 := str6 HS0_7.out
  have hl0_7 := HS0_7.out.lt
  have hf0_7 := fun j => HS0_7.out.frozen j
  have f1_7 := str6 HS1_7.out
  have hl1_7 := HS1_7.out.lt
  have hf1_7 := fun j => HS1_7.out.frozen j
  have f2_7 := str6 HS2_7.out
  have hl2_7 := HS2_7.out.lt
  have f3_7 := str6 HS3_7.out
  have hl3_7 := HS3_7.out.lt
  have f4_7 := str6 HS4_7.out
  have hl4_7 := HS4_7.out.lt
  have f5_7 := str6 HS5_7.out
  have hl5_7 := HS5_7.out.lt
  go_wp2_with fail
  refine (refSameAnswer_any r1.2 q2.2 Ax1 Ay2 nx1 cx1 ny2 cy2 W7.heap.size W7.heap.size _ HYx1_7.out (Nat.le_refl _) HYy2_7.out (Nat.le_refl _)).mono ?_
  rintro e W8 ⟨rfl, hb8⟩
  rw [H1.out]
  have HS0_8 := Lib.hid (HS0_7.out.next hb8)
  have HS1_8 := Lib.hid (HS1_7.out.next hb8)
  have HS2_8 := Lib.hid (HS2_7.out.next hb8)
  have HS3_8 := Lib.hid (HS3_7.out.next hb8)
  have HS4_8 := Lib.hid (HS4_7.out.next hb8)
  have HS5_8 := Lib.hid (HS5_7.out.next hb8)
  have HB_8 := Lib.hid (bstep HB_7.out hb8)
  have hw_8 := HB_8.out.size
  have hws_8 := (hb8).size
  have HYa_8 := Lib.hid (HYa_7.out.next hb8)
  have HYb_8 := Lib.hid (HYb_7.out.next hb8)
  have HYx1_8 := Lib.hid (HYx1_7.out.next hb8)
  have HYy1_8 := Lib.hid (HYy1_7.out.next hb8)
  have HYx2_8 := Lib.hid (HYx2_7.out.next hb8)
  have HYy2_8 := Lib.hid (HYy2_7.out.next hb8)
  clear HYa_7 HYb_7 HYx1_7 HYy1_7 HYx2_7 HYy2_7
  clear f0_7 HS0_7 hf0_7 f1_7 HS1_7 hf1_7 f2_7 HS2_7 f3_7 HS3_7 f4_7 HS4_7 f5_7 HS5_7
  clear hb8
  have f0_8 := str6 HS0_8.out
  have hl0_8 := HS0_8.out.lt
  have hf0_8 := fun j => HS0_8.out.frozen j
  have f1_8 := str6 HS1_8.out
  have hl1_8 := HS1_8.out.lt
  have hf1_8 := fun j => HS1_8.out.frozen j
  have f2_8 := str6 HS2_8.out
  have hl2_8 := HS2_8.out.lt
  have f3_8 := str6 HS3_8.out
  have hl3_8 := HS3_8.out.lt
  have f4_8 := str6 HS4_8.out
  have hl4_8 := HS4_8.out.lt
  have f5_8 := str6 HS5_8.out
  have hl5_8 := HS5_8.out.lt
  go_wp2_with fail
  refine (refSameAnswer_any r2.2 q1.2 Ay1 Ax2 ny1 cy1 nx2 cx2 W8.heap.size W8.heap.size _ HYy1_8.out (Nat.le_refl _) HYx2_8.out (Nat.le_refl _)).mono ?_
  rintro e W9 ⟨rfl, hb9⟩
  rw [H2.out]
  have HS0_9 := Lib.hid (HS0_8.out.next hb9)
  have HS1_9 := Lib.hid (HS1_8.out.next hb9)
  have HS2_9 := Lib.hid (HS2_8.out.next hb9)
  have HS3_9 := Lib.hid (HS3_8.out.next hb9)
  have HS4_9 := Lib.hid (HS4_8.out.next hb9)
  have HS5_9 := Lib.hid (HS5_8.out.next hb9)
  have HB_9 := Lib.hid (bstep HB_8.out hb9)
  have hw_9 := HB_9.out.size
  have hws_9 := (hb9).size
  have HYa_9 := Lib.hid (HYa_8.out.next hb9)
  have HYb_9 := Lib.hid (HYb_8.out.next hb9)
  have HYx1_9 := Lib.hid (HYx1_8.out.next hb9)
  have HYy1_9 := Lib.hid (HYy1_8.out.next hb9)
  have HYx2_9 := Lib.hid (HYx2_8.out.next hb9)
  have HYy2_9 := Lib.hid (HYy2_8.out.next hb9)
  clear HYa_8 HYb_8 HYx1_8 HYy1_8 HYx2_8 HYy2_8
  clear f0_8 HS0_8 hf0_8 f1_8 HS1_8 hf1_8 f2_8 HS2_8 f3_8 HS3_8 f4_8 HS4_8 f5_8 HS5_8
  clear hb9
  have f0_9 := str6 HS0_9.out
  have hl0_9 := HS0_9.out.lt
  have hf0_9 := fun j => HS0_9.out.frozen j
  have f1_9 := str6 HS1_9.out
  have hl1_9 := HS1_9.out.lt
  have hf1_9 := fun j => HS1_9.out.frozen j
  have f2_9 := str6 HS2_9.out
  have hl2_9 := HS2_9.out.lt
  have f3_9 := str6 HS3_9.out
  have hl3_9 := HS3_9.out.lt
  have f4_9 := str6 HS4_9.out
  have hl4_9 := HS4_9.out.lt
  have f5_9 := str6 HS5_9.out
  have hl5_9 := HS5_9.out.lt
  go_wp2_with fail
  go_ret
  exact ⟨rfl, HB_9.out⟩
theorem Swap_any (A : Option Addr) (n c B : Nat) (s : List Pair) (aa : Int) (ak : ByteArray) (ad : List UInt8) (alo ahi an : Int) (Aa : Option Addr) (na ca Ba : Nat) (ba : Int) (bk : ByteArray) (bd : List UInt8) (blo bhi bn : Int) (Ab : Option Addr) (nb cb Bb : Nat) (w : World) (h : Pairs w B A n c s) (hB : B ≤ w.heap.size) (hr : ModelP.Right s) (hs : s.length ≤ 500 ∧ ∀ p ∈ s, p.cell.data.length ≤ 100000) (hya : Bytes w Ba Aa na ca ad) (hBa : Ba ≤ w.heap.size) (hka : ak.size ≤ maxLen) (hia : In64 alo ∧ In64 ahi ∧ In64 an) (hna : na ≤ 100000) (hyb : Bytes w Bb Ab nb cb bd) (hBb : Bb ≤ w.heap.size) (hkb : bk.size ≤ maxLen) (hib : In64 blo ∧ In64 bhi ∧ In64 bn) (hnb : nb ≤ 100000) :
    Calls Tryd.prog 10 #[.slice A n c, .agg #[.int .i64 aa, .string ak, .slice Aa na ca, .int .i64 alo, .int .i64 ahi, .int .i64 an], .agg #[.int .i64 ba, .string bk, .slice Ab nb cb, .int .i64 blo, .int .i64 bhi, .int .i64 bn]] w fun e w' => e = .returned (.bool (ModelP.swapM s ⟨aa, ak, ad, alo, ahi, an⟩ ⟨ba, bk, bd, blo, bhi, bn⟩)) ∧ Below w.heap.size w w' := by
  unfold ModelP.swapM
  cases h3 : ModelP.sameAll (ModelP.step (ModelP.step s ⟨aa, ak, ad, alo, ahi, an⟩).1 ⟨ba, bk, bd, blo, bhi, bn⟩).1 (ModelP.step (ModelP.step s ⟨ba, bk, bd, blo, bhi, bn⟩).1 ⟨aa, ak, ad, alo, ahi, an⟩).1 with
  | false => rw [Bool.and_false]; exact swap_c A n c B s aa ak ad alo ahi an Aa na ca Ba ba bk bd blo bhi bn Ab nb cb Bb w h hB hr hs hya hBa hka hia hna hyb hBb hkb hib hnb false h3
  | true =>
    rw [Bool.and_true]
    cases h1 : ModelP.sameAns (ModelP.step s ⟨aa, ak, ad, alo, ahi, an⟩).2 (ModelP.step (ModelP.step s ⟨ba, bk, bd, blo, bhi, bn⟩).1 ⟨aa, ak, ad, alo, ahi, an⟩).2 with
    | false => rw [Bool.false_and]; exact swap_a A n c B s aa ak ad alo ahi an Aa na ca Ba ba bk bd blo bhi bn Ab nb cb Bb w h hB hr hs hya hBa hka hia hna hyb hBb hkb hib hnb false h3 h1
    | true => rw [Bool.true_and]; exact swap_b A n c B s aa ak ad alo ahi an Aa na ca Ba ba bk bd blo bhi bn Ab nb cb Bb w h hB hr hs hya hBa hka hia hna hyb hBb hkb hib hnb _ h3 h1 rfl
set_option maxRecDepth 100000 in
set_option maxHeartbeats 2000000 in
theorem tight_0 (A : Option Addr) (n c B : Nat) (s : List Pair) (aa : Int) (ak : ByteArray) (ad : List UInt8) (alo ahi an : Int) (Aa : Option Addr) (na ca Ba : Nat) (ba : Int) (bk : ByteArray) (bd : List UInt8) (blo bhi bn : Int) (Ab : Option Addr) (nb cb Bb : Nat) (w : World) (h : Pairs w B A n c s) (hB : B ≤ w.heap.size) (hr : ModelP.Right s) (hs : s.length ≤ 500 ∧ ∀ p ∈ s, p.cell.data.length ≤ 100000) (hya : Bytes w Ba Aa na ca ad) (hBa : Ba ≤ w.heap.size) (hka : ak.size ≤ maxLen) (hia : In64 alo ∧ In64 ahi ∧ In64 an) (hna : na ≤ 100000) (hyb : Bytes w Bb Ab nb cb bd) (hBb : Bb ≤ w.heap.size) (hkb : bk.size ≤ maxLen) (hib : In64 blo ∧ In64 bhi ∧ In64 bn) (hnb : nb ≤ 100000) (h0 : ((ModelP.step s ⟨aa, ak, ad, alo, ahi, an⟩).2.err != 8) = false) :
    Calls Tryd.prog 12 #[.slice A n c, .agg #[.int .i64 aa, .string ak, .slice Aa na ca, .int .i64 alo, .int .i64 ahi, .int .i64 an], .agg #[.int .i64 ba, .string bk, .slice Ab nb cb, .int .i64 blo, .int .i64 bhi, .int .i64 bn]] w fun e w' => e = .returned (.bool false) ∧ Below w.heap.size w w' := by
  have H := Lib.hid (h.more hB)
  have HA := Lib.hid (hya.more hBa)
  have HBB := Lib.hid (hyb.more hBb)
  have HSM := Lib.hid hs
  have HIA := Lib.hid hia
  have HIB := Lib.hid hib
  have HR0 := Lib.hid hr
  obtain ⟨r1, hr1⟩ : ∃ r, ModelP.step s ⟨aa, ak, ad, alo, ahi, an⟩ = r := ⟨_, rfl⟩
  obtain ⟨r2, hr2⟩ : ∃ r, ModelP.step r1.1 ⟨ba, bk, bd, blo, bhi, bn⟩ = r := ⟨_, rfl⟩
  obtain ⟨q1, hq1⟩ : ∃ r, ModelP.step s ⟨ba, bk, bd, blo, bhi, bn⟩ = r := ⟨_, rfl⟩
  obtain ⟨q2, hq2⟩ : ∃ r, ModelP.step q1.1 ⟨aa, ak, ad, alo, ahi, an⟩ = r := ⟨_, rfl⟩
  have HE1 := Lib.hid hr1
  have HE2 := Lib.hid hr2
  have HG1 := Lib.hid hq1
  have HG2 := Lib.hid hq2
  have HRL : Hid (r2.1.length ≤ 100000) := Lib.hid (by have h1 := ModelP.step_length s ⟨aa, ak, ad, alo, ahi, an⟩; have h2 := ModelP.step_length r1.1 ⟨ba, bk, bd, blo, bhi, bn⟩; rw [hr1] at h1; rw [hr2] at h2; have := hs.1; omega)
  simp only [hr1, hr2, hq1, hq2] at h0
  clear h hya hyb hr hs hia hib hr1 hr2 hq1 hq2
  go_enter Tryd.func12, Tryd.ntmps12
  go_wp2_with fail
  generalize hW0 : ((w).alloc (.cells #[.int .i64 aa, .string ak, .slice Aa na ca, .int .i64 alo, .int .i64 ahi, .int .i64 an] 25)).alloc (.cells #[.int .i64 ba, .string bk, .slice Ab nb cb, .int .i64 blo, .int .i64 bhi, .int .i64 bn] 25) = W0
  obtain ⟨HS0_0, HS1_0, HB_0, hw_0, hz0⟩ := new2 hW0
  clear hW0 hz0
  have f0_0 := str6 HS0_0.out
  have hl0_0 := HS0_0.out.lt
  have hf0_0 := fun j => HS0_0.out.frozen j
  have f1_0 := str6 HS1_0.out
  have hl1_0 := HS1_0.out.lt
  have hf1_0 := fun j => HS1_0.out.frozen j
  have HYa_0 := Lib.hid (HA.out.next HB_0.out)
  have HYb_0 := Lib.hid (HBB.out.next HB_0.out)
  refine (Two_any A n c W0.heap.size s aa ak ad alo ahi an Aa na ca W0.heap.size ba bk bd blo bhi bn Ab nb cb W0.heap.size _ (H.out.next HB_0.out) (Nat.le_refl _) HR0.out HSM.out HYa_0.out (Nat.le_refl _) hka HIA.out hna HYb_0.out (Nat.le_refl _) hkb HIB.out hnb).mono ?_
  rintro e W1 ⟨As1, ns1, cs1, Ax1, nx1, cx1, Ay1, ny1, cy1, rfl, hp, hx, hy, hb1⟩
  have HS0_1 := Lib.hid (HS0_0.out.next hb1)
  have HS1_1 := Lib.hid (HS1_0.out.next hb1)
  have HB_1 := Lib.hid (bstep HB_0.out hb1)
  have hw_1 := HB_1.out.size
  have hws_1 := (hb1).size
  have HYa_1 := Lib.hid (HYa_0.out.next hb1)
  have HYb_1 := Lib.hid (HYb_0.out.next hb1)
  clear HYa_0 HYb_0
  clear f0_0 HS0_0 hf0_0 f1_0 HS1_0 hf1_0
  have f0_1 := str6 HS0_1.out
  have hl0_1 := HS0_1.out.lt
  have hf0_1 := fun j => HS0_1.out.frozen j
  have f1_1 := str6 HS1_1.out
  have hl1_1 := HS1_1.out.lt
  have hf1_1 := fun j => HS1_1.out.frozen j
  simp only [HE1.out, HE2.out] at hp hx hy
  simp only [HE1.out, HE2.out, ansV]
  have HP1_1 := Lib.hid hp
  have HYx1_1 := Lib.hid (hx)
  have HYy1_1 := Lib.hid (hy)
  clear hp hx hy hb1
  go_wp2_with fail
  generalize hW2 : W1.alloc (.cells #[.int .i64 r1.2.err, .int .i64 r1.2.cell.kind, .slice Ax1 nx1 cx1, .int .i64 r1.2.cell.lo, .int .i64 r1.2.cell.hi, .int .i64 r1.2.cell.val] 47) = W2
  have HS0_2 := sEq hW2 (HS0_1.out.alloc _)
  have HS1_2 := sEq hW2 (HS1_1.out.alloc _)
  have HS2_2 := sEq hW2 (Str.new _ _ _)
  have hba2 : Below W1.heap.size W1 W2 := by rw [← hW2]; exact balloc (bsame _) _
  have HB_2 := Lib.hid (bstep HB_1.out hba2)
  have hw_2 := HB_2.out.size
  have hws_2 := hba2.size
  have HYa_2 := Lib.hid (HYa_1.out.next hba2)
  have HYb_2 := Lib.hid (HYb_1.out.next hba2)
  have HYx1_2 := Lib.hid (HYx1_1.out.next hba2)
  have HYy1_2 := Lib.hid (HYy1_1.out.next hba2)
  clear HYa_1 HYb_1 HYx1_1 HYy1_1
  have hz2 : W2.heap.size = W1.heap.size + 1 := by rw [← hW2]; simp
  clear hW2
  clear f0_1 HS0_1 hf0_1 f1_1 HS1_1 hf1_1
  have f0_2 := str6 HS0_2.out
  have hl0_2 := HS0_2.out.lt
  have hf0_2 := fun j => HS0_2.out.frozen j
  have f1_2 := str6 HS1_2.out
  have hl1_2 := HS1_2.out.lt
  have hf1_2 := fun j => HS1_2.out.frozen j
  have f2_2 := str6 HS2_2.out
  have hl2_2 := HS2_2.out.lt
  generalize hW3 : W2.alloc (.cells #[.int .i64 r2.2.err, .int .i64 r2.2.cell.kind, .slice Ay1 ny1 cy1, .int .i64 r2.2.cell.lo, .int .i64 r2.2.cell.hi, .int .i64 r2.2.cell.val] 47) = W3
  have HS0_3 := sEq hW3 (HS0_2.out.alloc _)
  have HS1_3 := sEq hW3 (HS1_2.out.alloc _)
  have HS2_3 := sEq hW3 (HS2_2.out.alloc _)
  have HS3_3 := sEq hW3 (Str.new _ _ _)
  have hba3 : Below W2.heap.size W2 W3 := by rw [← hW3]; exact balloc (bsame _) _
  have HB_3 := Lib.hid (bstep HB_2.out hba3)
  have hw_3 := HB_3.out.size
  have hws_3 := hba3.size
  have HYa_3 := Lib.hid (HYa_2.out.next hba3)
  have HYb_3 := Lib.hid (HYb_2.out.next hba3)
  have HYx1_3 := Lib.hid (HYx1_2.out.next hba3)
  have HYy1_3 := Lib.hid (HYy1_2.out.next hba3)
  clear HYa_2 HYb_2 HYx1_2 HYy1_2
  clear hW3
  clear f0_2 HS0_2 hf0_2 f1_2 HS1_2 hf1_2 f2_2 HS2_2
  have f0_3 := str6 HS0_3.out
  have hl0_3 := HS0_3.out.lt
  have hf0_3 := fun j => HS0_3.out.frozen j
  have f1_3 := str6 HS1_3.out
  have hl1_3 := HS1_3.out.lt
  have hf1_3 := fun j => HS1_3.out.frozen j
  have f2_3 := str6 HS2_3.out
  have hl2_3 := HS2_3.out.lt
  have f3_3 := str6 HS3_3.out
  have hl3_3 := HS3_3.out.lt
  rw [hz2] at HS3_3 hl3_3 f3_3
  have HP1_3 := Lib.hid ((HP1_1.out.next hba2).next hba3)
  clear HP1_1
  go_wp2_with fail
  refine (Two_any A n c W3.heap.size s ba bk bd blo bhi bn Ab nb cb W3.heap.size aa ak ad alo ahi an Aa na ca W3.heap.size _ (H.out.next HB_3.out) (Nat.le_refl _) HR0.out HSM.out HYb_3.out (Nat.le_refl _) hkb HIB.out hnb HYa_3.out (Nat.le_refl _) hka HIA.out hna).mono ?_
  rintro e W4 ⟨As2, ns2, cs2, Ax2, nx2, cx2, Ay2, ny2, cy2, rfl, hp, hx, hy, hb4⟩
  have HS0_4 := Lib.hid (HS0_3.out.next hb4)
  have HS1_4 := Lib.hid (HS1_3.out.next hb4)
  have HS2_4 := Lib.hid (HS2_3.out.next hb4)
  have HS3_4 := Lib.hid (HS3_3.out.next hb4)
  have HB_4 := Lib.hid (bstep HB_3.out hb4)
  have hw_4 := HB_4.out.size
  have hws_4 := (hb4).size
  have HYa_4 := Lib.hid (HYa_3.out.next hb4)
  have HYb_4 := Lib.hid (HYb_3.out.next hb4)
  have HYx1_4 := Lib.hid (HYx1_3.out.next hb4)
  have HYy1_4 := Lib.hid (HYy1_3.out.next hb4)
  clear HYa_3 HYb_3 HYx1_3 HYy1_3
  clear f0_3 HS0_3 hf0_3 f1_3 HS1_3 hf1_3 f2_3 HS2_3 f3_3 HS3_3
  have f0_4 := str6 HS0_4.out
  have hl0_4 := HS0_4.out.lt
  have hf0_4 := fun j => HS0_4.out.frozen j
  have f1_4 := str6 HS1_4.out
  have hl1_4 := HS1_4.out.lt
  have hf1_4 := fun j => HS1_4.out.frozen j
  have f2_4 := str6 HS2_4.out
  have hl2_4 := HS2_4.out.lt
  have f3_4 := str6 HS3_4.out
  have hl3_4 := HS3_4.out.lt
  simp only [HG1.out, HG2.out] at hp hx hy
  simp only [HG1.out, HG2.out, ansV]
  have HP2_4 := Lib.hid hp
  have HP1_4 := Lib.hid (HP1_3.out.next hb4)
  clear HP1_3
  have HYx2_4 := Lib.hid (hx)
  have HYy2_4 := Lib.hid (hy)
  clear hp hx hy hb4
  go_wp2_with fail
  generalize hW5 : W4.alloc (.cells #[.int .i64 q1.2.err, .int .i64 q1.2.cell.kind, .slice Ax2 nx2 cx2, .int .i64 q1.2.cell.lo, .int .i64 q1.2.cell.hi, .int .i64 q1.2.cell.val] 47) = W5
  have HS0_5 := sEq hW5 (HS0_4.out.alloc _)
  have HS1_5 := sEq hW5 (HS1_4.out.alloc _)
  have HS2_5 := sEq hW5 (HS2_4.out.alloc _)
  have HS3_5 := sEq hW5 (HS3_4.out.alloc _)
  have HS4_5 := sEq hW5 (Str.new _ _ _)
  have hba5 : Below W4.heap.size W4 W5 := by rw [← hW5]; exact balloc (bsame _) _
  have HB_5 := Lib.hid (bstep HB_4.out hba5)
  have hw_5 := HB_5.out.size
  have hws_5 := hba5.size
  have HYa_5 := Lib.hid (HYa_4.out.next hba5)
  have HYb_5 := Lib.hid (HYb_4.out.next hba5)
  have HYx1_5 := Lib.hid (HYx1_4.out.next hba5)
  have HYy1_5 := Lib.hid (HYy1_4.out.next hba5)
  have HYx2_5 := Lib.hid (HYx2_4.out.next hba5)
  have HYy2_5 := Lib.hid (HYy2_4.out.next hba5)
  clear HYa_4 HYb_4 HYx1_4 HYy1_4 HYx2_4 HYy2_4
  have hz5 : W5.heap.size = W4.heap.size + 1 := by rw [← hW5]; simp
  clear hW5
  clear f0_4 HS0_4 hf0_4 f1_4 HS1_4 hf1_4 f2_4 HS2_4 f3_4 HS3_4
  have f0_5 := str6 HS0_5.out
  have hl0_5 := HS0_5.out.lt
  have hf0_5 := fun j => HS0_5.out.frozen j
  have f1_5 := str6 HS1_5.out
  have hl1_5 := HS1_5.out.lt
  have hf1_5 := fun j => HS1_5.out.frozen j
  have f2_5 := str6 HS2_5.out
  have hl2_5 := HS2_5.out.lt
  have f3_5 := str6 HS3_5.out
  have hl3_5 := HS3_5.out.lt
  have f4_5 := str6 HS4_5.out
  have hl4_5 := HS4_5.out.lt
  generalize hW6 : W5.alloc (.cells #[.int .i64 q2.2.err, .int .i64 q2.2.cell.kind, .slice Ay2 ny2 cy2, .int .i64 q2.2.cell.lo, .int .i64 q2.2.cell.hi, .int .i64 q2.2.cell.val] 47) = W6
  have HS0_6 := sEq hW6 (HS0_5.out.alloc _)
  have HS1_6 := sEq hW6 (HS1_5.out.alloc _)
  have HS2_6 := sEq hW6 (HS2_5.out.alloc _)
  have HS3_6 := sEq hW6 (HS3_5.out.alloc _)
  have HS4_6 := sEq hW6 (HS4_5.out.alloc _)
  have HS5_6 := sEq hW6 (Str.new _ _ _)
  have hba6 : Below W5.heap.size W5 W6 := by rw [← hW6]; exact balloc (bsame _) _
  have HB_6 := Lib.hid (bstep HB_5.out hba6)
  have hw_6 := HB_6.out.size
  have hws_6 := hba6.size
  have HYa_6 := Lib.hid (HYa_5.out.next hba6)
  have HYb_6 := Lib.hid (HYb_5.out.next hba6)
  have HYx1_6 := Lib.hid (HYx1_5.out.next hba6)
  have HYy1_6 := Lib.hid (HYy1_5.out.next hba6)
  have HYx2_6 := Lib.hid (HYx2_5.out.next hba6)
  have HYy2_6 := Lib.hid (HYy2_5.out.next hba6)
  clear HYa_5 HYb_5 HYx1_5 HYy1_5 HYx2_5 HYy2_5
  clear hW6
  clear f0_5 HS0_5 hf0_5 f1_5 HS1_5 hf1_5 f2_5 HS2_5 f3_5 HS3_5 f4_5 HS4_5
  have f0_6 := str6 HS0_6.out
  have hl0_6 := HS0_6.out.lt
  have hf0_6 := fun j => HS0_6.out.frozen j
  have f1_6 := str6 HS1_6.out
  have hl1_6 := HS1_6.out.lt
  have hf1_6 := fun j => HS1_6.out.frozen j
  have f2_6 := str6 HS2_6.out
  have hl2_6 := HS2_6.out.lt
  have f3_6 := str6 HS3_6.out
  have hl3_6 := HS3_6.out.lt
  have f4_6 := str6 HS4_6.out
  have hl4_6 := HS4_6.out.lt
  have f5_6 := str6 HS5_6.out
  have hl5_6 := HS5_6.out.lt
  rw [hz5] at HS5_6 hl5_6 f5_6
  have HP1_6 := Lib.hid ((HP1_4.out.next hba5).next hba6)
  clear HP1_4
  have HP2_6 := Lib.hid ((HP2_4.out.next hba5).next hba6)
  clear HP2_4
  go_wp2_with fail
  go_ret
  exact ⟨rfl, HB_6.out⟩
set_option maxRecDepth 100000 in
set_option maxHeartbeats 2000000 in
theorem tight_1 (A : Option Addr) (n c B : Nat) (s : List Pair) (aa : Int) (ak : ByteArray) (ad : List UInt8) (alo ahi an : Int) (Aa : Option Addr) (na ca Ba : Nat) (ba : Int) (bk : ByteArray) (bd : List UInt8) (blo bhi bn : Int) (Ab : Option Addr) (nb cb Bb : Nat) (w : World) (h : Pairs w B A n c s) (hB : B ≤ w.heap.size) (hr : ModelP.Right s) (hs : s.length ≤ 500 ∧ ∀ p ∈ s, p.cell.data.length ≤ 100000) (hya : Bytes w Ba Aa na ca ad) (hBa : Ba ≤ w.heap.size) (hka : ak.size ≤ maxLen) (hia : In64 alo ∧ In64 ahi ∧ In64 an) (hna : na ≤ 100000) (hyb : Bytes w Bb Ab nb cb bd) (hBb : Bb ≤ w.heap.size) (hkb : bk.size ≤ maxLen) (hib : In64 blo ∧ In64 bhi ∧ In64 bn) (hnb : nb ≤ 100000) (h0 : ((ModelP.step s ⟨aa, ak, ad, alo, ahi, an⟩).2.err != 8) = true) (h1 : ((ModelP.step (ModelP.step s ⟨aa, ak, ad, alo, ahi, an⟩).1 ⟨ba, bk, bd, blo, bhi, bn⟩).2.err != 8) = false) :
    Calls Tryd.prog 12 #[.slice A n c, .agg #[.int .i64 aa, .string ak, .slice Aa na ca, .int .i64 alo, .int .i64 ahi, .int .i64 an], .agg #[.int .i64 ba, .string bk, .slice Ab nb cb, .int .i64 blo, .int .i64 bhi, .int .i64 bn]] w fun e w' => e = .returned (.bool false) ∧ Below w.heap.size w w' := by
  have H := Lib.hid (h.more hB)
  have HA := Lib.hid (hya.more hBa)
  have HBB := Lib.hid (hyb.more hBb)
  have HSM := Lib.hid hs
  have HIA := Lib.hid hia
  have HIB := Lib.hid hib
  have HR0 := Lib.hid hr
  obtain ⟨r1, hr1⟩ : ∃ r, ModelP.step s ⟨aa, ak, ad, alo, ahi, an⟩ = r := ⟨_, rfl⟩
  obtain ⟨r2, hr2⟩ : ∃ r, ModelP.step r1.1 ⟨ba, bk, bd, blo, bhi, bn⟩ = r := ⟨_, rfl⟩
  obtain ⟨q1, hq1⟩ : ∃ r, ModelP.step s ⟨ba, bk, bd, blo, bhi, bn⟩ = r := ⟨_, rfl⟩
  obtain ⟨q2, hq2⟩ : ∃ r, ModelP.step q1.1 ⟨aa, ak, ad, alo, ahi, an⟩ = r := ⟨_, rfl⟩
  have HE1 := Lib.hid hr1
  have HE2 := Lib.hid hr2
  have HG1 := Lib.hid hq1
  have HG2 := Lib.hid hq2
  have HRL : Hid (r2.1.length ≤ 100000) := Lib.hid (by have h1 := ModelP.step_length s ⟨aa, ak, ad, alo, ahi, an⟩; have h2 := ModelP.step_length r1.1 ⟨ba, bk, bd, blo, bhi, bn⟩; rw [hr1] at h1; rw [hr2] at h2; have := hs.1; omega)
  simp only [hr1, hr2, hq1, hq2] at h0 h1
  clear h hya hyb hr hs hia hib hr1 hr2 hq1 hq2
  go_enter Tryd.func12, Tryd.ntmps12
  go_wp2_with fail
  generalize hW0 : ((w).alloc (.cells #[.int .i64 aa, .string ak, .slice Aa na ca, .int .i64 alo, .int .i64 ahi, .int .i64 an] 25)).alloc (.cells #[.int .i64 ba, .string bk, .slice Ab nb cb, .int .i64 blo, .int .i64 bhi, .int .i64 bn] 25) = W0
  obtain ⟨HS0_0, HS1_0, HB_0, hw_0, hz0⟩ := new2 hW0
  clear hW0 hz0
  have f0_0 := str6 HS0_0.out
  have hl0_0 := HS0_0.out.lt
  have hf0_0 := fun j => HS0_0.out.frozen j
  have f1_0 := str6 HS1_0.out
  have hl1_0 := HS1_0.out.lt
  have hf1_0 := fun j => HS1_0.out.frozen j
  have HYa_0 := Lib.hid (HA.out.next HB_0.out)
  have HYb_0 := Lib.hid (HBB.out.next HB_0.out)
  refine (Two_any A n c W0.heap.size s aa ak ad alo ahi an Aa na ca W0.heap.size ba bk bd blo bhi bn Ab nb cb W0.heap.size _ (H.out.next HB_0.out) (Nat.le_refl _) HR0.out HSM.out HYa_0.out (Nat.le_refl _) hka HIA.out hna HYb_0.out (Nat.le_refl _) hkb HIB.out hnb).mono ?_
  rintro e W1 ⟨As1, ns1, cs1, Ax1, nx1, cx1, Ay1, ny1, cy1, rfl, hp, hx, hy, hb1⟩
  have HS0_1 := Lib.hid (HS0_0.out.next hb1)
  have HS1_1 := Lib.hid (HS1_0.out.next hb1)
  have HB_1 := Lib.hid (bstep HB_0.out hb1)
  have hw_1 := HB_1.out.size
  have hws_1 := (hb1).size
  have HYa_1 := Lib.hid (HYa_0.out.next hb1)
  have HYb_1 := Lib.hid (HYb_0.out.next hb1)
  clear HYa_0 HYb_0
  clear f0_0 HS0_0 hf0_0 f1_0 HS1_0 hf1_0
  have f0_1 := str6 HS0_1.out
  have hl0_1 := HS0_1.out.lt
  have hf0_1 := fun j => HS0_1.out.frozen j
  have f1_1 := str6 HS1_1.out
  have hl1_1 := HS1_1.out.lt
  have hf1_1 := fun j => HS1_1.out.frozen j
  simp only [HE1.out, HE2.out] at hp hx hy
  simp only [HE1.out, HE2.out, ansV]
  have HP1_1 := Lib.hid hp
  have HYx1_1 := Lib.hid (hx)
  have HYy1_1 := Lib.hid (hy)
  clear hp hx hy hb1
  go_wp2_with fail
  generalize hW2 : W1.alloc (.cells #[.int .i64 r1.2.err, .int .i64 r1.2.cell.kind, .slice Ax1 nx1 cx1, .int .i64 r1.2.cell.lo, .int .i64 r1.2.cell.hi, .int .i64 r1.2.cell.val] 47) = W2
  have HS0_2 := sEq hW2 (HS0_1.out.alloc _)
  have HS1_2 := sEq hW2 (HS1_1.out.alloc _)
  have HS2_2 := sEq hW2 (Str.new _ _ _)
  have hba2 : Below W1.heap.size W1 W2 := by rw [← hW2]; exact balloc (bsame _) _
  have HB_2 := Lib.hid (bstep HB_1.out hba2)
  have hw_2 := HB_2.out.size
  have hws_2 := hba2.size
  have HYa_2 := Lib.hid (HYa_1.out.next hba2)
  have HYb_2 := Lib.hid (HYb_1.out.next hba2)
  have HYx1_2 := Lib.hid (HYx1_1.out.next hba2)
  have HYy1_2 := Lib.hid (HYy1_1.out.next hba2)
  clear HYa_1 HYb_1 HYx1_1 HYy1_1
  have hz2 : W2.heap.size = W1.heap.size + 1 := by rw [← hW2]; simp
  clear hW2
  clear f0_1 HS0_1 hf0_1 f1_1 HS1_1 hf1_1
  have f0_2 := str6 HS0_2.out
  have hl0_2 := HS0_2.out.lt
  have hf0_2 := fun j => HS0_2.out.frozen j
  have f1_2 := str6 HS1_2.out
  have hl1_2 := HS1_2.out.lt
  have hf1_2 := fun j => HS1_2.out.frozen j
  have f2_2 := str6 HS2_2.out
  have hl2_2 := HS2_2.out.lt
  generalize hW3 : W2.alloc (.cells #[.int .i64 r2.2.err, .int .i64 r2.2.cell.kind, .slice Ay1 ny1 cy1, .int .i64 r2.2.cell.lo, .int .i64 r2.2.cell.hi, .int .i64 r2.2.cell.val] 47) = W3
  have HS0_3 := sEq hW3 (HS0_2.out.alloc _)
  have HS1_3 := sEq hW3 (HS1_2.out.alloc _)
  have HS2_3 := sEq hW3 (HS2_2.out.alloc _)
  have HS3_3 := sEq hW3 (Str.new _ _ _)
  have hba3 : Below W2.heap.size W2 W3 := by rw [← hW3]; exact balloc (bsame _) _
  have HB_3 := Lib.hid (bstep HB_2.out hba3)
  have hw_3 := HB_3.out.size
  have hws_3 := hba3.size
  have HYa_3 := Lib.hid (HYa_2.out.next hba3)
  have HYb_3 := Lib.hid (HYb_2.out.next hba3)
  have HYx1_3 := Lib.hid (HYx1_2.out.next hba3)
  have HYy1_3 := Lib.hid (HYy1_2.out.next hba3)
  clear HYa_2 HYb_2 HYx1_2 HYy1_2
  clear hW3
  clear f0_2 HS0_2 hf0_2 f1_2 HS1_2 hf1_2 f2_2 HS2_2
  have f0_3 := str6 HS0_3.out
  have hl0_3 := HS0_3.out.lt
  have hf0_3 := fun j => HS0_3.out.frozen j
  have f1_3 := str6 HS1_3.out
  have hl1_3 := HS1_3.out.lt
  have hf1_3 := fun j => HS1_3.out.frozen j
  have f2_3 := str6 HS2_3.out
  have hl2_3 := HS2_3.out.lt
  have f3_3 := str6 HS3_3.out
  have hl3_3 := HS3_3.out.lt
  rw [hz2] at HS3_3 hl3_3 f3_3
  have HP1_3 := Lib.hid ((HP1_1.out.next hba2).next hba3)
  clear HP1_1
  go_wp2_with fail
  refine (Two_any A n c W3.heap.size s ba bk bd blo bhi bn Ab nb cb W3.heap.size aa ak ad alo ahi an Aa na ca W3.heap.size _ (H.out.next HB_3.out) (Nat.le_refl _) HR0.out HSM.out HYb_3.out (Nat.le_refl _) hkb HIB.out hnb HYa_3.out (Nat.le_refl _) hka HIA.out hna).mono ?_
  rintro e W4 ⟨As2, ns2, cs2, Ax2, nx2, cx2, Ay2, ny2, cy2, rfl, hp, hx, hy, hb4⟩
  have HS0_4 := Lib.hid (HS0_3.out.next hb4)
  have HS1_4 := Lib.hid (HS1_3.out.next hb4)
  have HS2_4 := Lib.hid (HS2_3.out.next hb4)
  have HS3_4 := Lib.hid (HS3_3.out.next hb4)
  have HB_4 := Lib.hid (bstep HB_3.out hb4)
  have hw_4 := HB_4.out.size
  have hws_4 := (hb4).size
  have HYa_4 := Lib.hid (HYa_3.out.next hb4)
  have HYb_4 := Lib.hid (HYb_3.out.next hb4)
  have HYx1_4 := Lib.hid (HYx1_3.out.next hb4)
  have HYy1_4 := Lib.hid (HYy1_3.out.next hb4)
  clear HYa_3 HYb_3 HYx1_3 HYy1_3
  clear f0_3 HS0_3 hf0_3 f1_3 HS1_3 hf1_3 f2_3 HS2_3 f3_3 HS3_3
  have f0_4 := str6 HS0_4.out
  have hl0_4 := HS0_4.out.lt
  have hf0_4 := fun j => HS0_4.out.frozen j
  have f1_4 := str6 HS1_4.out
  have hl1_4 := HS1_4.out.lt
  have hf1_4 := fun j => HS1_4.out.frozen j
  have f2_4 := str6 HS2_4.out
  have hl2_4 := HS2_4.out.lt
  have f3_4 := str6 HS3_4.out
  have hl3_4 := HS3_4.out.lt
  simp only [HG1.out, HG2.out] at hp hx hy
  simp only [HG1.out, HG2.out, ansV]
  have HP2_4 := Lib.hid hp
  have HP1_4 := Lib.hid (HP1_3.out.next hb4)
  clear HP1_3
  have HYx2_4 := Lib.hid (hx)
  have HYy2_4 := Lib.hid (hy)
  clear hp hx hy hb4
  go_wp2_with fail
  generalize hW5 : W4.alloc (.cells #[.int .i64 q1.2.err, .int .i64 q1.2.cell.kind, .slice Ax2 nx2 cx2, .int .i64 q1.2.cell.lo, .int .i64 q1.2.cell.hi, .int .i64 q1.2.cell.val] 47) = W5
  have HS0_5 := sEq hW5 (HS0_4.out.alloc _)
  have HS1_5 := sEq hW5 (HS1_4.out.alloc _)
  have HS2_5 := sEq hW5 (HS2_4.out.alloc _)
  have HS3_5 := sEq hW5 (HS3_4.out.alloc _)
  have HS4_5 := sEq hW5 (Str.new _ _ _)
  have hba5 : Below W4.heap.size W4 W5 := by rw [← hW5]; exact balloc (bsame _) _
  have HB_5 := Lib.hid (bstep HB_4.out hba5)
  have hw_5 := HB_5.out.size
  have hws_5 := hba5.size
  have HYa_5 := Lib.hid (HYa_4.out.next hba5)
  have HYb_5 := Lib.hid (HYb_4.out.next hba5)
  have HYx1_5 := Lib.hid (HYx1_4.out.next hba5)
  have HYy1_5 := Lib.hid (HYy1_4.out.next hba5)
  have HYx2_5 := Lib.hid (HYx2_4.out.next hba5)
  have HYy2_5 := Lib.hid (HYy2_4.out.next hba5)
  clear HYa_4 HYb_4 HYx1_4 HYy1_4 HYx2_4 HYy2_4
  have hz5 : W5.heap.size = W4.heap.size + 1 := by rw [← hW5]; simp
  clear hW5
  clear f0_4 HS0_4 hf0_4 f1_4 HS1_4 hf1_4 f2_4 HS2_4 f3_4 HS3_4
  have f0_5 := str6 HS0_5.out
  have hl0_5 := HS0_5.out.lt
  have hf0_5 := fun j => HS0_5.out.frozen j
  have f1_5 := str6 HS1_5.out
  have hl1_5 := HS1_5.out.lt
  have hf1_5 := fun j => HS1_5.out.frozen j
  have f2_5 := str6 HS2_5.out
  have hl2_5 := HS2_5.out.lt
  have f3_5 := str6 HS3_5.out
  have hl3_5 := HS3_5.out.lt
  have f4_5 := str6 HS4_5.out
  have hl4_5 := HS4_5.out.lt
  generalize hW6 : W5.alloc (.cells #[.int .i64 q2.2.err, .int .i64 q2.2.cell.kind, .slice Ay2 ny2 cy2, .int .i64 q2.2.cell.lo, .int .i64 q2.2.cell.hi, .int .i64 q2.2.cell.val] 47) = W6
  have HS0_6 := sEq hW6 (HS0_5.out.alloc _)
  have HS1_6 := sEq hW6 (HS1_5.out.alloc _)
  have HS2_6 := sEq hW6 (HS2_5.out.alloc _)
  have HS3_6 := sEq hW6 (HS3_5.out.alloc _)
  have HS4_6 := sEq hW6 (HS4_5.out.alloc _)
  have HS5_6 := sEq hW6 (Str.new _ _ _)
  have hba6 : Below W5.heap.size W5 W6 := by rw [← hW6]; exact balloc (bsame _) _
  have HB_6 := Lib.hid (bstep HB_5.out hba6)
  have hw_6 := HB_6.out.size
  have hws_6 := hba6.size
  have HYa_6 := Lib.hid (HYa_5.out.next hba6)
  have HYb_6 := Lib.hid (HYb_5.out.next hba6)
  have HYx1_6 := Lib.hid (HYx1_5.out.next hba6)
  have HYy1_6 := Lib.hid (HYy1_5.out.next hba6)
  have HYx2_6 := Lib.hid (HYx2_5.out.next hba6)
  have HYy2_6 := Lib.hid (HYy2_5.out.next hba6)
  clear HYa_5 HYb_5 HYx1_5 HYy1_5 HYx2_5 HYy2_5
  clear hW6
  clear f0_5 HS0_5 hf0_5 f1_5 HS1_5 hf1_5 f2_5 HS2_5 f3_5 HS3_5 f4_5 HS4_5
  have f0_6 := str6 HS0_6.out
  have hl0_6 := HS0_6.out.lt
  have hf0_6 := fun j => HS0_6.out.frozen j
  have f1_6 := str6 HS1_6.out
  have hl1_6 := HS1_6.out.lt
  have hf1_6 := fun j => HS1_6.out.frozen j
  have f2_6 := str6 HS2_6.out
  have hl2_6 := HS2_6.out.lt
  have f3_6 := str6 HS3_6.out
  have hl3_6 := HS3_6.out.lt
  have f4_6 := str6 HS4_6.out
  have hl4_6 := HS4_6.out.lt
  have f5_6 := str6 HS5_6.out
  have hl5_6 := HS5_6.out.lt
  rw [hz5] at HS5_6 hl5_6 f5_6
  have HP1_6 := Lib.hid ((HP1_4.out.next hba5).next hba6)
  clear HP1_4
  have HP2_6 := Lib.hid ((HP2_4.out.next hba5).next hba6)
  clear HP2_4
  go_wp2_with fail
  go_ret
  exact ⟨rfl, HB_6.out⟩
set_option maxRecDepth 100000 in
set_option maxHeartbeats 2000000 in
theorem tight_2 (A : Option Addr) (n c B : Nat) (s : List Pair) (aa : Int) (ak : ByteArray) (ad : List UInt8) (alo ahi an : Int) (Aa : Option Addr) (na ca Ba : Nat) (ba : Int) (bk : ByteArray) (bd : List UInt8) (blo bhi bn : Int) (Ab : Option Addr) (nb cb Bb : Nat) (w : World) (h : Pairs w B A n c s) (hB : B ≤ w.heap.size) (hr : ModelP.Right s) (hs : s.length ≤ 500 ∧ ∀ p ∈ s, p.cell.data.length ≤ 100000) (hya : Bytes w Ba Aa na ca ad) (hBa : Ba ≤ w.heap.size) (hka : ak.size ≤ maxLen) (hia : In64 alo ∧ In64 ahi ∧ In64 an) (hna : na ≤ 100000) (hyb : Bytes w Bb Ab nb cb bd) (hBb : Bb ≤ w.heap.size) (hkb : bk.size ≤ maxLen) (hib : In64 blo ∧ In64 bhi ∧ In64 bn) (hnb : nb ≤ 100000) (h0 : ((ModelP.step s ⟨aa, ak, ad, alo, ahi, an⟩).2.err != 8) = true) (h1 : ((ModelP.step (ModelP.step s ⟨aa, ak, ad, alo, ahi, an⟩).1 ⟨ba, bk, bd, blo, bhi, bn⟩).2.err != 8) = true) (h2 : ((ModelP.step s ⟨ba, bk, bd, blo, bhi, bn⟩).2.err != 8) = false) :
    Calls Tryd.prog 12 #[.slice A n c, .agg #[.int .i64 aa, .string ak, .slice Aa na ca, .int .i64 alo, .int .i64 ahi, .int .i64 an], .agg #[.int .i64 ba, .string bk, .slice Ab nb cb, .int .i64 blo, .int .i64 bhi, .int .i64 bn]] w fun e w' => e = .returned (.bool false) ∧ Below w.heap.size w w' := by
  have H := Lib.hid (h.more hB)
  have HA := Lib.hid (hya.more hBa)
  have HBB := Lib.hid (hyb.more hBb)
  have HSM := Lib.hid hs
  have HIA := Lib.hid hia
  have HIB := Lib.hid hib
  have HR0 := Lib.hid hr
  obtain ⟨r1, hr1⟩ : ∃ r, ModelP.step s ⟨aa, ak, ad, alo, ahi, an⟩ = r := ⟨_, rfl⟩
  obtain ⟨r2, hr2⟩ : ∃ r, ModelP.step r1.1 ⟨ba, bk, bd, blo, bhi, bn⟩ = r := ⟨_, rfl⟩
  obtain ⟨q1, hq1⟩ : ∃ r, ModelP.step s ⟨ba, bk, bd, blo, bhi, bn⟩ = r := ⟨_, rfl⟩
  obtain ⟨q2, hq2⟩ : ∃ r, ModelP.step q1.1 ⟨aa, ak, ad, alo, ahi, an⟩ = r := ⟨_, rfl⟩
  have HE1 := Lib.hid hr1
  have HE2 := Lib.hid hr2
  have HG1 := Lib.hid hq1
  have HG2 := Lib.hid hq2
  have HRL : Hid (r2.1.length ≤ 100000) := Lib.hid (by have h1 := ModelP.step_length s ⟨aa, ak, ad, alo, ahi, an⟩; have h2 := ModelP.step_length r1.1 ⟨ba, bk, bd, blo, bhi, bn⟩; rw [hr1] at h1; rw [hr2] at h2; have := hs.1; omega)
  simp only [hr1, hr2, hq1, hq2] at h0 h1 h2
  clear h hya hyb hr hs hia hib hr1 hr2 hq1 hq2
  go_enter Tryd.func12, Tryd.ntmps12
  go_wp2_with fail
  generalize hW0 : ((w).alloc (.cells #[.int .i64 aa, .string ak, .slice Aa na ca, .int .i64 alo, .int .i64 ahi, .int .i64 an] 25)).alloc (.cells #[.int .i64 ba, .string bk, .slice Ab nb cb, .int .i64 blo, .int .i64 bhi, .int .i64 bn] 25) = W0
  obtain ⟨HS0_0, HS1_0, HB_0, hw_0, hz0⟩ := new2 hW0
  clear hW0 hz0
  have f0_0 := str6 HS0_0.out
  have hl0_0 := HS0_0.out.lt
  have hf0_0 := fun j => HS0_0.out.frozen j
  have f1_0 := str6 HS1_0.out
  have hl1_0 := HS1_0.out.lt
  have hf1_0 := fun j => HS1_0.out.frozen j
  have HYa_0 := Lib.hid (HA.out.next HB_0.out)
  have HYb_0 := Lib.hid (HBB.out.next HB_0.out)
  refine (Two_any A n c W0.heap.size s aa ak ad alo ahi an Aa na ca W0.heap.size ba bk bd blo bhi bn Ab nb cb W0.heap.size _ (H.out.next HB_0.out) (Nat.le_refl _) HR0.out HSM.out HYa_0.out (Nat.le_refl _) hka HIA.out hna HYb_0.out (Nat.le_refl _) hkb HIB.out hnb).mono ?_
  rintro e W1 ⟨As1, ns1, cs1, Ax1, nx1, cx1, Ay1, ny1, cy1, rfl, hp, hx, hy, hb1⟩
  have HS0_1 := Lib.hid (HS0_0.out.next hb1)
  have HS1_1 := Lib.hid (HS1_0.out.next hb1)
  have HB_1 := Lib.hid (bstep HB_0.out hb1)
  have hw_1 := HB_1.out.size
  have hws_1 := (hb1).size
  have HYa_1 := Lib.hid (HYa_0.out.next hb1)
  have HYb_1 := Lib.hid (HYb_0.out.next hb1)
  clear HYa_0 HYb_0
  clear f0_0 HS0_0 hf0_0 f1_0 HS1_0 hf1_0
  have f0_1 := str6 HS0_1.out
  have hl0_1 := HS0_1.out.lt
  have hf0_1 := fun j => HS0_1.out.frozen j
  have f1_1 := str6 HS1_1.out
  have hl1_1 := HS1_1.out.lt
  have hf1_1 := fun j => HS1_1.out.frozen j
  simp only [HE1.out, HE2.out] at hp hx hy
  simp only [HE1.out, HE2.out, ansV]
  have HP1_1 := Lib.hid hp
  have HYx1_1 := Lib.hid (hx)
  have HYy1_1 := Lib.hid (hy)
  clear hp hx hy hb1
  go_wp2_with fail
  generalize hW2 : W1.alloc (.cells #[.int .i64 r1.2.err, .int .i64 r1.2.cell.kind, .slice Ax1 nx1 cx1, .int .i64 r1.2.cell.lo, .int .i64 r1.2.cell.hi, .int .i64 r1.2.cell.val] 47) = W2
  have HS0_2 := sEq hW2 (HS0_1.out.alloc _)
  have HS1_2 := sEq hW2 (HS1_1.out.alloc _)
  have HS2_2 := sEq hW2 (Str.new _ _ _)
  have hba2 : Below W1.heap.size W1 W2 := by rw [← hW2]; exact balloc (bsame _) _
  have HB_2 := Lib.hid (bstep HB_1.out hba2)
  have hw_2 := HB_2.out.size
  have hws_2 := hba2.size
  have HYa_2 := Lib.hid (HYa_1.out.next hba2)
  have HYb_2 := Lib.hid (HYb_1.out.next hba2)
  have HYx1_2 := Lib.hid (HYx1_1.out.next hba2)
  have HYy1_2 := Lib.hid (HYy1_1.out.next hba2)
  clear HYa_1 HYb_1 HYx1_1 HYy1_1
  have hz2 : W2.heap.size = W1.heap.size + 1 := by rw [← hW2]; simp
  clear hW2
  clear f0_1 HS0_1 hf0_1 f1_1 HS1_1 hf1_1
  have f0_2 := str6 HS0_2.out
  have hl0_2 := HS0_2.out.lt
  have hf0_2 := fun j => HS0_2.out.frozen j
  have f1_2 := str6 HS1_2.out
  have hl1_2 := HS1_2.out.lt
  have hf1_2 := fun j => HS1_2.out.frozen j
  have f2_2 := str6 HS2_2.out
  have hl2_2 := HS2_2.out.lt
  generalize hW3 : W2.alloc (.cells #[.int .i64 r2.2.err, .int .i64 r2.2.cell.kind, .slice Ay1 ny1 cy1, .int .i64 r2.2.cell.lo, .int .i64 r2.2.cell.hi, .int .i64 r2.2.cell.val] 47) = W3
  have HS0_3 := sEq hW3 (HS0_2.out.alloc _)
  have HS1_3 := sEq hW3 (HS1_2.out.alloc _)
  have HS2_3 := sEq hW3 (HS2_2.out.alloc _)
  have HS3_3 := sEq hW3 (Str.new _ _ _)
  have hba3 : Below W2.heap.size W2 W3 := by rw [← hW3]; exact balloc (bsame _) _
  have HB_3 := Lib.hid (bstep HB_2.out hba3)
  have hw_3 := HB_3.out.size
  have hws_3 := hba3.size
  have HYa_3 := Lib.hid (HYa_2.out.next hba3)
  have HYb_3 := Lib.hid (HYb_2.out.next hba3)
  have HYx1_3 := Lib.hid (HYx1_2.out.next hba3)
  have HYy1_3 := Lib.hid (HYy1_2.out.next hba3)
  clear HYa_2 HYb_2 HYx1_2 HYy1_2
  clear hW3
  clear f0_2 HS0_2 hf0_2 f1_2 HS1_2 hf1_2 f2_2 HS2_2
  have f0_3 := str6 HS0_3.out
  have hl0_3 := HS0_3.out.lt
  have hf0_3 := fun j => HS0_3.out.frozen j
  have f1_3 := str6 HS1_3.out
  have hl1_3 := HS1_3.out.lt
  have hf1_3 := fun j => HS1_3.out.frozen j
  have f2_3 := str6 HS2_3.out
  have hl2_3 := HS2_3.out.lt
  have f3_3 := str6 HS3_3.out
  have hl3_3 := HS3_3.out.lt
  rw [hz2] at HS3_3 hl3_3 f3_3
  have HP1_3 := Lib.hid ((HP1_1.out.next hba2).next hba3)
  clear HP1_1
  go_wp2_with fail
  refine (Two_any A n c W3.heap.size s ba bk bd blo bhi bn Ab nb cb W3.heap.size aa ak ad alo ahi an Aa na ca W3.heap.size _ (H.out.next HB_3.out) (Nat.le_refl _) HR0.out HSM.out HYb_3.out (Nat.le_refl _) hkb HIB.out hnb HYa_3.out (Nat.le_refl _) hka HIA.out hna).mono ?_
  rintro e W4 ⟨As2, ns2, cs2, Ax2, nx2, cx2, Ay2, ny2, cy2, rfl, hp, hx, hy, hb4⟩
  have HS0_4 := Lib.hid (HS0_3.out.next hb4)
  have HS1_4 := Lib.hid (HS1_3.out.next hb4)
  have HS2_4 := Lib.hid (HS2_3.out.next hb4)
  have HS3_4 := Lib.hid (HS3_3.out.next hb4)
  have HB_4 := Lib.hid (bstep HB_3.out hb4)
  have hw_4 := HB_4.out.size
  have hws_4 := (hb4).size
  have HYa_4 := Lib.hid (HYa_3.out.next hb4)
  have HYb_4 := Lib.hid (HYb_3.out.next hb4)
  have HYx1_4 := Lib.hid (HYx1_3.out.next hb4)
  have HYy1_4 := Lib.hid (HYy1_3.out.next hb4)
  clear HYa_3 HYb_3 HYx1_3 HYy1_3
  clear f0_3 HS0_3 hf0_3 f1_3 HS1_3 hf1_3 f2_3 HS2_3 f3_3 HS3_3
  have f0_4 := str6 HS0_4.out
  have hl0_4 := HS0_4.out.lt
  have hf0_4 := fun j => HS0_4.out.frozen j
  have f1_4 := str6 HS1_4.out
  have hl1_4 := HS1_4.out.lt
  have hf1_4 := fun j => HS1_4.out.frozen j
  have f2_4 := str6 HS2_4.out
  have hl2_4 := HS2_4.out.lt
  have f3_4 := str6 HS3_4.out
  have hl3_4 := HS3_4.out.lt
  simp only [HG1.out, HG2.out] at hp hx hy
  simp only [HG1.out, HG2.out, ansV]
  have HP2_4 := Lib.hid hp
  have HP1_4 := Lib.hid (HP1_3.out.next hb4)
  clear HP1_3
  have HYx2_4 := Lib.hid (hx)
  have HYy2_4 := Lib.hid (hy)
  clear hp hx hy hb4
  go_wp2_with fail
  generalize hW5 : W4.alloc (.cells #[.int .i64 q1.2.err, .int .i64 q1.2.cell.kind, .slice Ax2 nx2 cx2, .int .i64 q1.2.cell.lo, .int .i64 q1.2.cell.hi, .int .i64 q1.2.cell.val] 47) = W5
  have HS0_5 := sEq hW5 (HS0_4.out.alloc _)
  have HS1_5 := sEq hW5 (HS1_4.out.alloc _)
  have HS2_5 := sEq hW5 (HS2_4.out.alloc _)
  have HS3_5 := sEq hW5 (HS3_4.out.alloc _)
  have HS4_5 := sEq hW5 (Str.new _ _ _)
  have hba5 : Below W4.heap.size W4 W5 := by rw [← hW5]; exact balloc (bsame _) _
  have HB_5 := Lib.hid (bstep HB_4.out hba5)
  have hw_5 := HB_5.out.size
  have hws_5 := hba5.size
  have HYa_5 := Lib.hid (HYa_4.out.next hba5)
  have HYb_5 := Lib.hid (HYb_4.out.next hba5)
  have HYx1_5 := Lib.hid (HYx1_4.out.next hba5)
  have HYy1_5 := Lib.hid (HYy1_4.out.next hba5)
  have HYx2_5 := Lib.hid (HYx2_4.out.next hba5)
  have HYy2_5 := Lib.hid (HYy2_4.out.next hba5)
  clear HYa_4 HYb_4 HYx1_4 HYy1_4 HYx2_4 HYy2_4
  have hz5 : W5.heap.size = W4.heap.size + 1 := by rw [← hW5]; simp
  clear hW5
  clear f0_4 HS0_4 hf0_4 f1_4 HS1_4 hf1_4 f2_4 HS2_4 f3_4 HS3_4
  have f0_5 := str6 HS0_5.out
  have hl0_5 := HS0_5.out.lt
  have hf0_5 := fun j => HS0_5.out.frozen j
  have f1_5 := str6 HS1_5.out
  have hl1_5 := HS1_5.out.lt
  have hf1_5 := fun j => HS1_5.out.frozen j
  have f2_5 := str6 HS2_5.out
  have hl2_5 := HS2_5.out.lt
  have f3_5 := str6 HS3_5.out
  have hl3_5 := HS3_5.out.lt
  have f4_5 := str6 HS4_5.out
  have hl4_5 := HS4_5.out.lt
  generalize hW6 : W5.alloc (.cells #[.int .i64 q2.2.err, .int .i64 q2.2.cell.kind, .slice Ay2 ny2 cy2, .int .i64 q2.2.cell.lo, .int .i64 q2.2.cell.hi, .int .i64 q2.2.cell.val] 47) = W6
  have HS0_6 := sEq hW6 (HS0_5.out.alloc _)
  have HS1_6 := sEq hW6 (HS1_5.out.alloc _)
  have HS2_6 := sEq hW6 (HS2_5.out.alloc _)
  have HS3_6 := sEq hW6 (HS3_5.out.alloc _)
  have HS4_6 := sEq hW6 (HS4_5.out.alloc _)
  have HS5_6 := sEq hW6 (Str.new _ _ _)
  have hba6 : Below W5.heap.size W5 W6 := by rw [← hW6]; exact balloc (bsame _) _
  have HB_6 := Lib.hid (bstep HB_5.out hba6)
  have hw_6 := HB_6.out.size
  have hws_6 := hba6.size
  have HYa_6 := Lib.hid (HYa_5.out.next hba6)
  have HYb_6 := Lib.hid (HYb_5.out.next hba6)
  have HYx1_6 := Lib.hid (HYx1_5.out.next hba6)
  have HYy1_6 := Lib.hid (HYy1_5.out.next hba6)
  have HYx2_6 := Lib.hid (HYx2_5.out.next hba6)
  have HYy2_6 := Lib.hid (HYy2_5.out.next hba6)
  clear HYa_5 HYb_5 HYx1_5 HYy1_5 HYx2_5 HYy2_5
  clear hW6
  clear f0_5 HS0_5 hf0_5 f1_5 HS1_5 hf1_5 f2_5 HS2_5 f3_5 HS3_5 f4_5 HS4_5
  have f0_6 := str6 HS0_6.out
  have hl0_6 := HS0_6.out.lt
  have hf0_6 := fun j => HS0_6.out.frozen j
  have f1_6 := str6 HS1_6.out
  have hl1_6 := HS1_6.out.lt
  have hf1_6 := fun j => HS1_6.out.frozen j
  have f2_6 := str6 HS2_6.out
  have hl2_6 := HS2_6.out.lt
  have f3_6 := str6 HS3_6.out
  have hl3_6 := HS3_6.out.lt
  have f4_6 := str6 HS4_6.out
  have hl4_6 := HS4_6.out.lt
  have f5_6 := str6 HS5_6.out
  have hl5_6 := HS5_6.out.lt
  rw [hz5] at HS5_6 hl5_6 f5_6
  have HP1_6 := Lib.hid ((HP1_4.out.next hba5).next hba6)
  clear HP1_4
  have HP2_6 := Lib.hid ((HP2_4.out.next hba5).next hba6)
  clear HP2_4
  go_wp2_with fail
  go_ret
  exact ⟨rfl, HB_6.out⟩
set_option maxRecDepth 100000 in
set_option maxHeartbeats 2000000 in
theorem tight_3 (A : Option Addr) (n c B : Nat) (s : List Pair) (aa : Int) (ak : ByteArray) (ad : List UInt8) (alo ahi an : Int) (Aa : Option Addr) (na ca Ba : Nat) (ba : Int) (bk : ByteArray) (bd : List UInt8) (blo bhi bn : Int) (Ab : Option Addr) (nb cb Bb : Nat) (w : World) (h : Pairs w B A n c s) (hB : B ≤ w.heap.size) (hr : ModelP.Right s) (hs : s.length ≤ 500 ∧ ∀ p ∈ s, p.cell.data.length ≤ 100000) (hya : Bytes w Ba Aa na ca ad) (hBa : Ba ≤ w.heap.size) (hka : ak.size ≤ maxLen) (hia : In64 alo ∧ In64 ahi ∧ In64 an) (hna : na ≤ 100000) (hyb : Bytes w Bb Ab nb cb bd) (hBb : Bb ≤ w.heap.size) (hkb : bk.size ≤ maxLen) (hib : In64 blo ∧ In64 bhi ∧ In64 bn) (hnb : nb ≤ 100000) (h0 : ((ModelP.step s ⟨aa, ak, ad, alo, ahi, an⟩).2.err != 8) = true) (h1 : ((ModelP.step (ModelP.step s ⟨aa, ak, ad, alo, ahi, an⟩).1 ⟨ba, bk, bd, blo, bhi, bn⟩).2.err != 8) = true) (h2 : ((ModelP.step s ⟨ba, bk, bd, blo, bhi, bn⟩).2.err != 8) = true) (v : Bool) (h3 : ((ModelP.step (ModelP.step s ⟨ba, bk, bd, blo, bhi, bn⟩).1 ⟨aa, ak, ad, alo, ahi, an⟩).2.err != 8) = v) :
    Calls Tryd.prog 12 #[.slice A n c, .agg #[.int .i64 aa, .string ak, .slice Aa na ca, .int .i64 alo, .int .i64 ahi, .int .i64 an], .agg #[.int .i64 ba, .string bk, .slice Ab nb cb, .int .i64 blo, .int .i64 bhi, .int .i64 bn]] w fun e w' => e = .returned (.bool v) ∧ Below w.heap.size w w' := by
  have H := Lib.hid (h.more hB)
  have HA := Lib.hid (hya.more hBa)
  have HBB := Lib.hid (hyb.more hBb)
  have HSM := Lib.hid hs
  have HIA := Lib.hid hia
  have HIB := Lib.hid hib
  have HR0 := Lib.hid hr
  obtain ⟨r1, hr1⟩ : ∃ r, ModelP.step s ⟨aa, ak, ad, alo, ahi, an⟩ = r := ⟨_, rfl⟩
  obtain ⟨r2, hr2⟩ : ∃ r, ModelP.step r1.1 ⟨ba, bk, bd, blo, bhi, bn⟩ = r := ⟨_, rfl⟩
  obtain ⟨q1, hq1⟩ : ∃ r, ModelP.step s ⟨ba, bk, bd, blo, bhi, bn⟩ = r := ⟨_, rfl⟩
  obtain ⟨q2, hq2⟩ : ∃ r, ModelP.step q1.1 ⟨aa, ak, ad, alo, ahi, an⟩ = r := ⟨_, rfl⟩
  have HE1 := Lib.hid hr1
  have HE2 := Lib.hid hr2
  have HG1 := Lib.hid hq1
  have HG2 := Lib.hid hq2
  have HRL : Hid (r2.1.length ≤ 100000) := Lib.hid (by have h1 := ModelP.step_length s ⟨aa, ak, ad, alo, ahi, an⟩; have h2 := ModelP.step_length r1.1 ⟨ba, bk, bd, blo, bhi, bn⟩; rw [hr1] at h1; rw [hr2] at h2; have := hs.1; omega)
  simp only [hr1, hr2, hq1, hq2] at h0 h1 h2 h3
  clear h hya hyb hr hs hia hib hr1 hr2 hq1 hq2
  go_enter Tryd.func12, Tryd.ntmps12
  go_wp2_with fail
  generalize hW0 : ((w).alloc (.cells #[.int .i64 aa, .string ak, .slice Aa na ca, .int .i64 alo, .int .i64 ahi, .int .i64 an] 25)).alloc (.cells #[.int .i64 ba, .string bk, .slice Ab nb cb, .int .i64 blo, .int .i64 bhi, .int .i64 bn] 25) = W0
  obtain ⟨HS0_0, HS1_0, HB_0, hw_0, hz0⟩ := new2 hW0
  clear hW0 hz0
  have f0_0 := str6 HS0_0.out
  have hl0_0 := HS0_0.out.lt
  have hf0_0 := fun j => HS0_0.out.frozen j
  have f1_0 := str6 HS1_0.out
  have hl1_0 := HS1_0.out.lt
  have hf1_0 := fun j => HS1_0.out.frozen j
  have HYa_0 := Lib.hid (HA.out.next HB_0.out)
  have HYb_0 := Lib.hid (HBB.out.next HB_0.out)
  refine (Two_any A n c W0.heap.size s aa ak ad alo ahi an Aa na ca W0.heap.size ba bk bd blo bhi bn Ab nb cb W0.heap.size _ (H.out.next HB_0.out) (Nat.le_refl _) HR0.out HSM.out HYa_0.out (Nat.le_refl _) hka HIA.out hna HYb_0.out (Nat.le_refl _) hkb HIB.out hnb).mono ?_
  rintro e W1 ⟨As1, ns1, cs1, Ax1, nx1, cx1, Ay1, ny1, cy1, rfl, hp, hx, hy, hb1⟩
  have HS0_1 := Lib.hid (HS0_0.out.next hb1)
  have HS1_1 := Lib.hid (HS1_0.out.next hb1)
  have HB_1 := Lib.hid (bstep HB_0.out hb1)
  have hw_1 := HB_1.out.size
  have hws_1 := (hb1).size
  have HYa_1 := Lib.hid (HYa_0.out.next hb1)
  have HYb_1 := Lib.hid (HYb_0.out.next hb1)
  clear HYa_0 HYb_0
  clear f0_0 HS0_0 hf0_0 f1_0 HS1_0 hf1_0
  have f0_1 := str6 HS0_1.out
  have hl0_1 := HS0_1.out.lt
  have hf0_1 := fun j => HS0_1.out.frozen j
  have f1_1 := str6 HS1_1.out
  have hl1_1 := HS1_1.out.lt
  have hf1_1 := fun j => HS1_1.out.frozen j
  simp only [HE1.out, HE2.out] at hp hx hy
  simp only [HE1.out, HE2.out, ansV]
  have HP1_1 := Lib.hid hp
  have HYx1_1 := Lib.hid (hx)
  have HYy1_1 := Lib.hid (hy)
  clear hp hx hy hb1
  go_wp2_with fail
  generalize hW2 : W1.alloc (.cells #[.int .i64 r1.2.err, .int .i64 r1.2.cell.kind, .slice Ax1 nx1 cx1, .int .i64 r1.2.cell.lo, .int .i64 r1.2.cell.hi, .int .i64 r1.2.cell.val] 47) = W2
  have HS0_2 := sEq hW2 (HS0_1.out.alloc _)
  have HS1_2 := sEq hW2 (HS1_1.out.alloc _)
  have HS2_2 := sEq hW2 (Str.new _ _ _)
  have hba2 : Below W1.heap.size W1 W2 := by rw [← hW2]; exact balloc (bsame _) _
  have HB_2 := Lib.hid (bstep HB_1.out hba2)
  have hw_2 := HB_2.out.size
  have hws_2 := hba2.size
  have HYa_2 := Lib.hid (HYa_1.out.next hba2)
  have HYb_2 := Lib.hid (HYb_1.out.next hba2)
  have HYx1_2 := Lib.hid (HYx1_1.out.next hba2)
  have HYy1_2 := Lib.hid (HYy1_1.out.next hba2)
  clear HYa_1 HYb_1 HYx1_1 HYy1_1
  have hz2 : W2.heap.size = W1.heap.size + 1 := by rw [← hW2]; simp
  clear hW2
  clear f0_1 HS0_1 hf0_1 f1_1 HS1_1 hf1_1
  have f0_2 := str6 HS0_2.out
  have hl0_2 := HS0_2.out.lt
  have hf0_2 := fun j => HS0_2.out.frozen j
  have f1_2 := str6 HS1_2.out
  have hl1_2 := HS1_2.out.lt
  have hf1_2 := fun j => HS1_2.out.frozen j
  have f2_2 := str6 HS2_2.out
  have hl2_2 := HS2_2.out.lt
  generalize hW3 : W2.alloc (.cells #[.int .i64 r2.2.err, .int .i64 r2.2.cell.kind, .slice Ay1 ny1 cy1, .int .i64 r2.2.cell.lo, .int .i64 r2.2.cell.hi, .int .i64 r2.2.cell.val] 47) = W3
  have HS0_3 := sEq hW3 (HS0_2.out.alloc _)
  have HS1_3 := sEq hW3 (HS1_2.out.alloc _)
  have HS2_3 := sEq hW3 (HS2_2.out.alloc _)
  have HS3_3 := sEq hW3 (Str.new _ _ _)
  have hba3 : Below W2.heap.size W2 W3 := by rw [← hW3]; exact balloc (bsame _) _
  have HB_3 := Lib.hid (bstep HB_2.out hba3)
  have hw_3 := HB_3.out.size
  have hws_3 := hba3.size
  have HYa_3 := Lib.hid (HYa_2.out.next hba3)
  have HYb_3 := Lib.hid (HYb_2.out.next hba3)
  have HYx1_3 := Lib.hid (HYx1_2.out.next hba3)
  have HYy1_3 := Lib.hid (HYy1_2.out.next hba3)
  clear HYa_2 HYb_2 HYx1_2 HYy1_2
  clear hW3
  clear f0_2 HS0_2 hf0_2 f1_2 HS1_2 hf1_2 f2_2 HS2_2
  have f0_3 := str6 HS0_3.out
  have hl0_3 := HS0_3.out.lt
  have hf0_3 := fun j => HS0_3.out.frozen j
  have f1_3 := str6 HS1_3.out
  have hl1_3 := HS1_3.out.lt
  have hf1_3 := fun j => HS1_3.out.frozen j
  have f2_3 := str6 HS2_3.out
  have hl2_3 := HS2_3.out.lt
  have f3_3 := str6 HS3_3.out
  have hl3_3 := HS3_3.out.lt
  rw [hz2] at HS3_3 hl3_3 f3_3
  have HP1_3 := Lib.hid ((HP1_1.out.next hba2).next hba3)
  clear HP1_1
  go_wp2_with fail
  refine (Two_any A n c W3.heap.size s ba bk bd blo bhi bn Ab nb cb W3.heap.size aa ak ad alo ahi an Aa na ca W3.heap.size _ (H.out.next HB_3.out) (Nat.le_refl _) HR0.out HSM.out HYb_3.out (Nat.le_refl _) hkb HIB.out hnb HYa_3.out (Nat.le_refl _) hka HIA.out hna).mono ?_
  rintro e W4 ⟨As2, ns2, cs2, Ax2, nx2, cx2, Ay2, ny2, cy2, rfl, hp, hx, hy, hb4⟩
  have HS0_4 := Lib.hid (HS0_3.out.next hb4)
  have HS1_4 := Lib.hid (HS1_3.out.next hb4)
  have HS2_4 := Lib.hid (HS2_3.out.next hb4)
  have HS3_4 := Lib.hid (HS3_3.out.next hb4)
  have HB_4 := Lib.hid (bstep HB_3.out hb4)
  have hw_4 := HB_4.out.size
  have hws_4 := (hb4).size
  have HYa_4 := Lib.hid (HYa_3.out.next hb4)
  have HYb_4 := Lib.hid (HYb_3.out.next hb4)
  have HYx1_4 := Lib.hid (HYx1_3.out.next hb4)
  have HYy1_4 := Lib.hid (HYy1_3.out.next hb4)
  clear HYa_3 HYb_3 HYx1_3 HYy1_3
  clear f0_3 HS0_3 hf0_3 f1_3 HS1_3 hf1_3 f2_3 HS2_3 f3_3 HS3_3
  have f0_4 := str6 HS0_4.out
  have hl0_4 := HS0_4.out.lt
  have hf0_4 := fun j => HS0_4.out.frozen j
  have f1_4 := str6 HS1_4.out
  have hl1_4 := HS1_4.out.lt
  have hf1_4 := fun j => HS1_4.out.frozen j
  have f2_4 := str6 HS2_4.out
  have hl2_4 := HS2_4.out.lt
  have f3_4 := str6 HS3_4.out
  have hl3_4 := HS3_4.out.lt
  simp only [HG1.out, HG2.out] at hp hx hy
  simp only [HG1.out, HG2.out, ansV]
  have HP2_4 := Lib.hid hp
  have HP1_4 := Lib.hid (HP1_3.out.next hb4)
  clear HP1_3
  have HYx2_4 := Lib.hid (hx)
  have HYy2_4 := Lib.hid (hy)
  clear hp hx hy hb4
  go_wp2_with fail
  generalize hW5 : W4.alloc (.cells #[.int .i64 q1.2.err, .int .i64 q1.2.cell.kind, .slice Ax2 nx2 cx2, .int .i64 q1.2.cell.lo, .int .i64 q1.2.cell.hi, .int .i64 q1.2.cell.val] 47) = W5
  have HS0_5 := sEq hW5 (HS0_4.out.alloc _)
  have HS1_5 := sEq hW5 (HS1_4.out.alloc _)
  have HS2_5 := sEq hW5 (HS2_4.out.alloc _)
  have HS3_5 := sEq hW5 (HS3_4.out.alloc _)
  have HS4_5 := sEq hW5 (Str.new _ _ _)
  have hba5 : Below W4.heap.size W4 W5 := by rw [← hW5]; exact balloc (bsame _) _
  have HB_5 := Lib.hid (bstep HB_4.out hba5)
  have hw_5 := HB_5.out.size
  have hws_5 := hba5.size
  have HYa_5 := Lib.hid (HYa_4.out.next hba5)
  have HYb_5 := Lib.hid (HYb_4.out.next hba5)
  have HYx1_5 := Lib.hid (HYx1_4.out.next hba5)
  have HYy1_5 := Lib.hid (HYy1_4.out.next hba5)
  have HYx2_5 := Lib.hid (HYx2_4.out.next hba5)
  have HYy2_5 := Lib.hid (HYy2_4.out.next hba5)
  clear HYa_4 HYb_4 HYx1_4 HYy1_4 HYx2_4 HYy2_4
  have hz5 : W5.heap.size = W4.heap.size + 1 := by rw [← hW5]; simp
  clear hW5
  clear f0_4 HS0_4 hf0_4 f1_4 HS1_4 hf1_4 f2_4 HS2_4 f3_4 HS3_4
  have f0_5 := str6 HS0_5.out
  have hl0_5 := HS0_5.out.lt
  have hf0_5 := fun j => HS0_5.out.frozen j
  have f1_5 := str6 HS1_5.out
  have hl1_5 := HS1_5.out.lt
  have hf1_5 := fun j => HS1_5.out.frozen j
  have f2_5 := str6 HS2_5.out
  have hl2_5 := HS2_5.out.lt
  have f3_5 := str6 HS3_5.out
  have hl3_5 := HS3_5.out.lt
  have f4_5 := str6 HS4_5.out
  have hl4_5 := HS4_5.out.lt
  generalize hW6 : W5.alloc (.cells #[.int .i64 q2.2.err, .int .i64 q2.2.cell.kind, .slice Ay2 ny2 cy2, .int .i64 q2.2.cell.lo, .int .i64 q2.2.cell.hi, .int .i64 q2.2.cell.val] 47) = W6
  have HS0_6 := sEq hW6 (HS0_5.out.alloc _)
  have HS1_6 := sEq hW6 (HS1_5.out.alloc _)
  have HS2_6 := sEq hW6 (HS2_5.out.alloc _)
  have HS3_6 := sEq hW6 (HS3_5.out.alloc _)
  have HS4_6 := sEq hW6 (HS4_5.out.alloc _)
  have HS5_6 := sEq hW6 (Str.new _ _ _)
  have hba6 : Below W5.heap.size W5 W6 := by rw [← hW6]; exact balloc (bsame _) _
  have HB_6 := Lib.hid (bstep HB_5.out hba6)
  have hw_6 := HB_6.out.size
  have hws_6 := hba6.size
  have HYa_6 := Lib.hid (HYa_5.out.next hba6)
  have HYb_6 := Lib.hid (HYb_5.out.next hba6)
  have HYx1_6 := Lib.hid (HYx1_5.out.next hba6)
  have HYy1_6 := Lib.hid (HYy1_5.out.next hba6)
  have HYx2_6 := Lib.hid (HYx2_5.out.next hba6)
  have HYy2_6 := Lib.hid (HYy2_5.out.next hba6)
  clear HYa_5 HYb_5 HYx1_5 HYy1_5 HYx2_5 HYy2_5
  clear hW6
  clear f0_5 HS0_5 hf0_5 f1_5 HS1_5 hf1_5 f2_5 HS2_5 f3_5 HS3_5 f4_5 HS4_5
  have f0_6 := str6 HS0_6.out
  have hl0_6 := HS0_6.out.lt
  have hf0_6 := fun j => HS0_6.out.frozen j
  have f1_6 := str6 HS1_6.out
  have hl1_6 := HS1_6.out.lt
  have hf1_6 := fun j => HS1_6.out.frozen j
  have f2_6 := str6 HS2_6.out
  have hl2_6 := HS2_6.out.lt
  have f3_6 := str6 HS3_6.out
  have hl3_6 := HS3_6.out.lt
  have f4_6 := str6 HS4_6.out
  have hl4_6 := HS4_6.out.lt
  have f5_6 := str6 HS5_6.out
  have hl5_6 := HS5_6.out.lt
  rw [hz5] at HS5_6 hl5_6 f5_6
  have HP1_6 := Lib.hid ((HP1_4.out.next hba5).next hba6)
  clear HP1_4
  have HP2_6 := Lib.hid ((HP2_4.out.next hba5).next hba6)
  clear HP2_4
  go_wp2_with fail
  go_ret
  exact ⟨rfl, HB_6.out⟩
theorem Tight_any (A : Option Addr) (n c B : Nat) (s : List Pair) (aa : Int) (ak : ByteArray) (ad : List UInt8) (alo ahi an : Int) (Aa : Option Addr) (na ca Ba : Nat) (ba : Int) (bk : ByteArray) (bd : List UInt8) (blo bhi bn : Int) (Ab : Option Addr) (nb cb Bb : Nat) (w : World) (h : Pairs w B A n c s) (hB : B ≤ w.heap.size) (hr : ModelP.Right s) (hs : s.length ≤ 500 ∧ ∀ p ∈ s, p.cell.data.length ≤ 100000) (hya : Bytes w Ba Aa na ca ad) (hBa : Ba ≤ w.heap.size) (hka : ak.size ≤ maxLen) (hia : In64 alo ∧ In64 ahi ∧ In64 an) (hna : na ≤ 100000) (hyb : Bytes w Bb Ab nb cb bd) (hBb : Bb ≤ w.heap.size) (hkb : bk.size ≤ maxLen) (hib : In64 blo ∧ In64 bhi ∧ In64 bn) (hnb : nb ≤ 100000) :
    Calls Tryd.prog 12 #[.slice A n c, .agg #[.int .i64 aa, .string ak, .slice Aa na ca, .int .i64 alo, .int .i64 ahi, .int .i64 an], .agg #[.int .i64 ba, .string bk, .slice Ab nb cb, .int .i64 blo, .int .i64 bhi, .int .i64 bn]] w fun e w' => e = .returned (.bool (ModelP.tightM s ⟨aa, ak, ad, alo, ahi, an⟩ ⟨ba, bk, bd, blo, bhi, bn⟩)) ∧ Below w.heap.size w w' := by
  have ed : ∀ x : Int, decide (x ≠ 8) = (x != 8) := fun x => by by_cases h : x = 8 <;> simp [h]
  unfold ModelP.tightM
  simp only [ed]
  cases h0 : ((ModelP.step s ⟨aa, ak, ad, alo, ahi, an⟩).2.err != 8) with
  | false => simp only [Bool.false_and]; exact tight_0 A n c B s aa ak ad alo ahi an Aa na ca Ba ba bk bd blo bhi bn Ab nb cb Bb w h hB hr hs hya hBa hka hia hna hyb hBb hkb hib hnb h0
  | true =>
    cases h1 : ((ModelP.step (ModelP.step s ⟨aa, ak, ad, alo, ahi, an⟩).1 ⟨ba, bk, bd, blo, bhi, bn⟩).2.err != 8) with
    | false => simp only [Bool.false_and, Bool.and_false, Bool.true_and]; exact tight_1 A n c B s aa ak ad alo ahi an Aa na ca Ba ba bk bd blo bhi bn Ab nb cb Bb w h hB hr hs hya hBa hka hia hna hyb hBb hkb hib hnb h0 h1
    | true =>
      cases h2 : ((ModelP.step s ⟨ba, bk, bd, blo, bhi, bn⟩).2.err != 8) with
      | false => simp only [Bool.false_and, Bool.and_false, Bool.true_and]; exact tight_2 A n c B s aa ak ad alo ahi an Aa na ca Ba ba bk bd blo bhi bn Ab nb cb Bb w h hB hr hs hya hBa hka hia hna hyb hBb hkb hib hnb h0 h1 h2
      | true => simp only [Bool.true_and]; exact tight_3 A n c B s aa ak ad alo ahi an Aa na ca Ba ba bk bd blo bhi bn Ab nb cb Bb w h hB hr hs hya hBa hka hia hna hyb hBb hkb hib hnb h0 h1 h2 _ rfl
end Go.Proofs.YtghgccgpgonlmaaDoor.RefModes
namespace Go.Proofs.YtghgccgpgonlmaaDoor.Modes
open Go.RowKit ModelW
set_option linter.unusedVariables false
set_option maxRecDepth 100000 in
set_option maxHeartbeats 2000000 in
theorem Swap_any (A : Option Addr) (n c B : Nat) (s : List Pair) (aa : Int) (ak : ByteArray) (ad : List UInt8) (alo ahi an : Int) (Aa : Option Addr) (na ca Ba : Nat) (ba : Int) (bk : ByteArray) (bd : List UInt8) (blo bhi bn : Int) (Ab : Option Addr) (nb cb Bb : Nat) (w : World) (h : Pairs w B A n c s) (hB : B ≤ w.heap.size) (hr : ModelP.Rises s) (hs : Small s) (hya : Bytes w Ba Aa na ca ad) (hBa : Ba ≤ w.heap.size) (hka : ak.size ≤ maxLen) (hia : In64 aa ∧ In64 alo ∧ In64 ahi ∧ In64 an) (hna : na ≤ 100000) (hyb : Bytes w Bb Ab nb cb bd) (hBb : Bb ≤ w.heap.size) (hkb : bk.size ≤ maxLen) (hib : In64 ba ∧ In64 blo ∧ In64 bhi ∧ In64 bn) (hnb : nb ≤ 100000) (hsl : s.length ≤ 500) :
    Calls Tryd.prog 9 #[.slice A n c, .agg #[.int .i64 aa, .string ak, .slice Aa na ca, .int .i64 alo, .int .i64 ahi, .int .i64 an], .agg #[.int .i64 ba, .string bk, .slice Ab nb cb, .int .i64 blo, .int .i64 bhi, .int .i64 bn]] w fun e w' => e = .returned (.bool (ModelP.swapM s ⟨aa, ak, ad, alo, ahi, an⟩ ⟨ba, bk, bd, blo, bhi, bn⟩)) ∧ Below w.heap.size w w' := by
  have H := Lib.hid (h.more hB)
  have HA := Lib.hid (hya.more hBa)
  have HBB := Lib.hid (hyb.more hBb)
  have HRI := Lib.hid hr
  have HSM : Hid (s.length ≤ 500 ∧ ∀ p ∈ s, p.cell.data.length ≤ 100000) := Lib.hid ⟨hsl, hs.data⟩
  have HIA := Lib.hid hia
  have HIB := Lib.hid hib
  have HDA : Hid (ad.length ≤ 100000) := Lib.hid (by rw [hya.len]; exact hna)
  have HDB : Hid (bd.length ≤ 100000) := Lib.hid (by rw [hyb.len]; exact hnb)
  obtain ⟨r1, hr1⟩ : ∃ r, ModelP.step s ⟨aa, ak, ad, alo, ahi, an⟩ = r := ⟨_, rfl⟩
  obtain ⟨r2, hr2⟩ : ∃ r, ModelP.step r1.1 ⟨ba, bk, bd, blo, bhi, bn⟩ = r := ⟨_, rfl⟩
  obtain ⟨q1, hq1⟩ : ∃ r, ModelP.step s ⟨ba, bk, bd, blo, bhi, bn⟩ = r := ⟨_, rfl⟩
  obtain ⟨q2, hq2⟩ : ∃ r, ModelP.step q1.1 ⟨aa, ak, ad, alo, ahi, an⟩ = r := ⟨_, rfl⟩
  have HRN : Hid (ModelP.run s [⟨aa, ak, ad, alo, ahi, an⟩, ⟨ba, bk, bd, blo, bhi, bn⟩] = (r2.1, [r1.2, r2.2])) := Lib.hid (by simp only [ModelP.run, hr1, hr2])
  have HQN : Hid (ModelP.run s [⟨ba, bk, bd, blo, bhi, bn⟩, ⟨aa, ak, ad, alo, ahi, an⟩] = (q2.1, [q1.2, q2.2])) := Lib.hid (by simp only [ModelP.run, hq1, hq2])
  obtain ⟨p1, hp1⟩ : ∃ p, ModelP.sameAns r1.2 q2.2 = p := ⟨_, rfl⟩
  obtain ⟨p2, hp2⟩ : ∃ p, ModelP.sameAns r2.2 q1.2 = p := ⟨_, rfl⟩
  obtain ⟨p3, hp3⟩ : ∃ p, ModelP.sameAll r2.1 q2.1 = p := ⟨_, rfl⟩
  have HSW : Hid (ModelP.swapM s ⟨aa, ak, ad, alo, ahi, an⟩ ⟨ba, bk, bd, blo, bhi, bn⟩ = ((p1 && p2) && p3)) := Lib.hid (by simp only [ModelP.swapM, hr1, hr2, hq1, hq2, hp1, hp2, hp3])
  have HRL : Hid (r2.1.length ≤ 100000) := Lib.hid (by have h1 := ModelP.step_length s ⟨aa, ak, ad, alo, ahi, an⟩; have h2 := ModelP.step_length r1.1 ⟨ba, bk, bd, blo, bhi, bn⟩; rw [hr1] at h1; rw [hr2] at h2; omega)
  have HP1 := Lib.hid hp1
  have HP2 := Lib.hid hp2
  have HP3 := Lib.hid hp3
  rw [HSW.out]
  clear h hya hyb hr hs hia hib hr1 hr2 hq1 hq2 hp1 hp2 hp3 HSW
  go_enter Tryd.func9, Tryd.ntmps9
  go_wp2_with fail
  generalize hW0 : (((w).alloc (.cells #[.int .i64 aa, .string ak, .slice Aa na ca, .int .i64 alo, .int .i64 ahi, .int .i64 an] 25)).alloc (.cells #[.int .i64 ba, .string bk, .slice Ab nb cb, .int .i64 blo, .int .i64 bhi, .int .i64 bn] 25)).alloc (.cells #[.int .i64 aa, .string ak, .slice Aa na ca, .int .i64 alo, .int .i64 ahi, .int .i64 an, .int .i64 ba, .string bk, .slice Ab nb cb, .int .i64 blo, .int .i64 bhi, .int .i64 bn] 25) = W0
  obtain ⟨HS0_0, HS1_0, HS2_0, HB_0, hw_0, hz0⟩ := new3 hW0
  clear hW0 hz0
  have f0_0 := str6 HS0_0.out
  have hl0_0 := HS0_0.out.lt
  have hf0_0 := fun j => HS0_0.out.frozen j
  have f1_0 := str6 HS1_0.out
  have hl1_0 := HS1_0.out.lt
  have hf1_0 := fun j => HS1_0.out.frozen j
  have f2_0 := str12 HS2_0.out
  have hl2_0 := HS2_0.out.lt
  have HYa_0 := Lib.hid (HA.out.next HB_0.out)
  have HYb_0 := Lib.hid (HBB.out.next HB_0.out)
  refine (Run_any A n c W0.heap.size s (some ⟨w.heap.size + 1 + 1, 0, none⟩) 2 2 W0.heap.size [⟨aa, ak, ad, alo, ahi, an⟩, ⟨ba, bk, bd, blo, bhi, bn⟩] _ (H.out.next HB_0.out) (Nat.le_refl _) HRI.out HSM.out (op_lit2 HS2_0.out (op_one HYa_0.out (Nat.le_refl _) hka HIA.out) (op_one HYb_0.out (Nat.le_refl _) hkb HIB.out)) (Nat.le_refl _) (by omega) (by intro z hz; simp only [List.mem_cons, List.not_mem_nil, or_false] at hz; rcases hz with rfl | rfl <;> first | exact HDA.out | exact HDB.out)).mono ?_
  rintro e W1 ⟨A1, n1, c1, A2, c2, rfl, hP1, hE1, hb1⟩
  have HS0_1 := Lib.hid (HS0_0.out.next hb1)
  have HS1_1 := Lib.hid (HS1_0.out.next hb1)
  have HS2_1 := Lib.hid (HS2_0.out.next hb1)
  have HB_1 := Lib.hid (bstep HB_0.out hb1)
  have hw_1 := HB_1.out.size
  have hws_1 := (hb1).size
  have HYa_1 := Lib.hid (HYa_0.out.next hb1)
  have HYb_1 := Lib.hid (HYb_0.out.next hb1)
  clear HYa_0 HYb_0
  clear f0_0 HS0_0 hf0_0 f1_0 HS1_0 hf1_0 f2_0 HS2_0
  have f0_1 := str6 HS0_1.out
  have hl0_1 := HS0_1.out.lt
  have hf0_1 := fun j => HS0_1.out.frozen j
  have f1_1 := str6 HS1_1.out
  have hl1_1 := HS1_1.out.lt
  have hf1_1 := fun j => HS1_1.out.frozen j
  have f2_1 := str12 HS2_1.out
  have hl2_1 := HS2_1.out.lt
  rw [HRN.out] at hP1 hE1
  dsimp only at hP1 hE1
  have HP1_1 := Lib.hid hP1
  have HE1_1 := Lib.hid hE1
  clear hP1 hE1 hb1
  go_wp2_with fail
  generalize hW2 : W1.alloc (.cells #[.int .i64 ba, .string bk, .slice Ab nb cb, .int .i64 blo, .int .i64 bhi, .int .i64 bn, .int .i64 aa, .string ak, .slice Aa na ca, .int .i64 alo, .int .i64 ahi, .int .i64 an] 25) = W2
  have HS0_2 := sEq hW2 (HS0_1.out.alloc _)
  have HS1_2 := sEq hW2 (HS1_1.out.alloc _)
  have HS2_2 := sEq hW2 (HS2_1.out.alloc _)
  have HS3_2 := sEq hW2 (Str.new _ _ _)
  have hba2 : Below W1.heap.size W1 W2 := by rw [← hW2]; exact balloc (bsame _) _
  have HB_2 := Lib.hid (bstep HB_1.out hba2)
  have hw_2 := HB_2.out.size
  have hws_2 := hba2.size
  have HYa_2 := Lib.hid (HYa_1.out.next hba2)
  have HYb_2 := Lib.hid (HYb_1.out.next hba2)
  clear HYa_1 HYb_1
  clear hW2
  clear f0_1 HS0_1 hf0_1 f1_1 HS1_1 hf1_1 f2_1 HS2_1
  have f0_2 := str6 HS0_2.out
  have hl0_2 := HS0_2.out.lt
  have hf0_2 := fun j => HS0_2.out.frozen j
  have f1_2 := str6 HS1_2.out
  have hl1_2 := HS1_2.out.lt
  have hf1_2 := fun j => HS1_2.out.frozen j
  have f2_2 := str12 HS2_2.out
  have hl2_2 := HS2_2.out.lt
  have f3_2 := str12 HS3_2.out
  have hl3_2 := HS3_2.out.lt
  have HP1_2 := Lib.hid (HP1_1.out.next hba2)
  have HE1_2 := Lib.hid (HE1_1.out.next hba2)
  clear HP1_1 HE1_1
  refine (Run_any A n c W2.heap.size s (some ⟨W1.heap.size, 0, none⟩) 2 2 W2.heap.size [⟨ba, bk, bd, blo, bhi, bn⟩, ⟨aa, ak, ad, alo, ahi, an⟩] _ (H.out.next HB_2.out) (Nat.le_refl _) HRI.out HSM.out (op_lit2 HS3_2.out (op_one HYb_2.out (Nat.le_refl _) hkb HIB.out) (op_one HYa_2.out (Nat.le_refl _) hka HIA.out)) (Nat.le_refl _) (by omega) (by intro z hz; simp only [List.mem_cons, List.not_mem_nil, or_false] at hz; rcases hz with rfl | rfl <;> first | exact HDB.out | exact HDA.out)).mono ?_
  rintro e W3 ⟨A3, n3, c3, A4, c4, rfl, hP2, hE2, hb3⟩
  have HS0_3 := Lib.hid (HS0_2.out.next hb3)
  have HS1_3 := Lib.hid (HS1_2.out.next hb3)
  have HS2_3 := Lib.hid (HS2_2.out.next hb3)
  have HS3_3 := Lib.hid (HS3_2.out.next hb3)
  have HB_3 := Lib.hid (bstep HB_2.out hb3)
  have hw_3 := HB_3.out.size
  have hws_3 := (hb3).size
  have HYa_3 := Lib.hid (HYa_2.out.next hb3)
  have HYb_3 := Lib.hid (HYb_2.out.next hb3)
  clear HYa_2 HYb_2
  clear f0_2 HS0_2 hf0_2 f1_2 HS1_2 hf1_2 f2_2 HS2_2 f3_2 HS3_2
  have f0_3 := str6 HS0_3.out
  have hl0_3 := HS0_3.out.lt
  have hf0_3 := fun j => HS0_3.out.frozen j
  have f1_3 := str6 HS1_3.out
  have hl1_3 := HS1_3.out.lt
  have hf1_3 := fun j => HS1_3.out.frozen j
  have f2_3 := str12 HS2_3.out
  have hl2_3 := HS2_3.out.lt
  have f3_3 := str12 HS3_3.out
  have hl3_3 := HS3_3.out.lt
  rw [HQN.out] at hP2 hE2
  dsimp only at hP2 hE2
  have HP1_3 := Lib.hid (HP1_2.out.next hb3)
  have hE1 := HE1_2.out.next hb3
  clear HP1_2 HE1_2
  have HP2_3 := Lib.hid hP2
  obtain ⟨e1, o1, Ax, nx, cx, Ay, ny, cy, rfl, he1, hx, hy, hf1, hf2⟩ := ans2_at hE1
  obtain ⟨e2, o2, Au, nu, cu, Av, nv, cv, rfl, he2, hu, hv, hf3, hf4⟩ := ans2_at hE2
  have HF1 := Lib.hid hf1
  have HF2 := Lib.hid hf2
  have HF3 := Lib.hid hf3
  have HF4 := Lib.hid hf4
  have HX := Lib.hid hx
  have HY := Lib.hid hy
  have HU := Lib.hid hu
  have HV := Lib.hid hv
  clear hP2 hE1 hE2 hb3 hx hy hu hv hf1 hf2 hf3 hf4
  go_wp2_with fail
  refine Reg.wp_region_vals (R := ext) (W := W3) [Reg.eqv (.slice (some ⟨e1, o1, none⟩) 2 c2), Reg.eqv (.pointer (some ⟨e1, o1, none⟩)), Reg.eqv (.agg #[.int .i64 r1.2.err, .int .i64 r1.2.cell.kind, .slice Ax nx cx, .int .i64 r1.2.cell.lo, .int .i64 r1.2.cell.hi, .int .i64 r1.2.cell.val]), Reg.eqv (.slice (some ⟨e2, o2, none⟩) 2 c4), Reg.eqv (.pointer (some ⟨e2, o2 + 6, none⟩)), Reg.eqv (.agg #[.int .i64 q2.2.err, .int .i64 q2.2.cell.kind, .slice Av nv cv, .int .i64 q2.2.cell.lo, .int .i64 q2.2.cell.hi, .int .i64 q2.2.cell.val]), Reg.eqv (.bool p1), Reg.eqv (.bool p1), Reg.when (p1 = true) (Reg.eqv (.slice (some ⟨e1, o1, none⟩) 2 c2)), Reg.when (p1 = true) (Reg.eqv (.pointer (some ⟨e1, o1 + 6, none⟩))), Reg.when (p1 = true) (Reg.eqv (.agg #[.int .i64 r2.2.err, .int .i64 r2.2.cell.kind, .slice Ay ny cy, .int .i64 r2.2.cell.lo, .int .i64 r2.2.cell.hi, .int .i64 r2.2.cell.val])), Reg.when (p1 = true) (Reg.eqv (.slice (some ⟨e2, o2, none⟩) 2 c4)), Reg.when (p1 = true) (Reg.eqv (.pointer (some ⟨e2, o2, none⟩))), Reg.when (p1 = true) (Reg.eqv (.agg #[.int .i64 q1.2.err, .int .i64 q1.2.cell.kind, .slice Au nu cu, .int .i64 q1.2.cell.lo, .int .i64 q1.2.cell.hi, .int .i64 q1.2.cell.val])), Reg.when (p1 = true) (Reg.eqv (.bool p2)), Reg.eqv (.bool (p1 && p2)), Reg.eqv (.bool (p1 && p2)), Reg.when (((p1 && p2)) = true) (Reg.eqv (.slice A1 n1 c1)), Reg.when (((p1 && p2)) = true) (Reg.eqv (.slice A3 n3 c3)), Reg.when (((p1 && p2)) = true) (Reg.eqv (.bool p3)), Reg.eqv (.bool (((p1 && p2)) && p3)), Reg.eqv (.bool (((p1 && p2)) && p3))] 48 [[(8, none)], [(27, some 0)], [(28, some 1)], [(10, none)], [(30, some 3)], [(31, some 4)], [(29, some 2), (32, some 5)], [(33, some 6)], [(8, none), (34, some 7)], [(35, some 8), (34, some 7)], [(36, some 9), (34, some 7)], [(10, none), (34, some 7)], [(38, some 11), (34, some 7)], [(39, some 12), (34, some 7)], [(37, some 10), (40, some 13), (34, some 7)], [(34, some 7), (41, some 14)], [(42, some 15)], [(7, none), (43, some 16)], [(9, none), (43, some 16)], [(44, some 17), (45, some 18), (43, some 16)], [(43, some 16), (46, some 19)], [(47, some 20)]] rfl (by kernel_rfl) (by kernel_rfl) (by kernel_rfl) ?_ [some 27, some 28, some 29, some 30, some 31, some 32, some 33, some 34, some 35, some 36, some 37, some 38, some 39, some 40, some 41, some 42, some 43, some 44, some 45, some 46, some 47, some 6] (by kernel_rfl) ?_
  · refine ⟨?_, ?_, ?_, ?_, ?_, ?_, ?_, ?_, ?_, ?_, ?_, ?_, ?_, ?_, ?_, ?_, ?_, ?_, ?_, ?_, ?_, ?_, trivial⟩
    · intro ax wx hx hs
      obtain ⟨e8, -⟩ := hs
      have g8 := Reg.ev (v := .slice (some ⟨e1, o1, none⟩) 2 c2) e8
      exact Reg.obl_free rfl (Reg.wp_eqv (Option.some_ne_none _) (by go_simp) rfl)
    · intro ax wx hx hs
      obtain ⟨e27, -⟩ := hs
      have g27 := Reg.ev (v := .slice (some ⟨e1, o1, none⟩) 2 c2) e27
      exact Reg.obl_free rfl (Reg.wp_eqv (Option.some_ne_none _) (by go_simp) rfl)
    · intro ax wx hx hs
      obtain ⟨e28, -⟩ := hs
      have g28 := Reg.ev (v := .pointer (some ⟨e1, o1, none⟩)) e28
      obtain ⟨u0_0, u0_1, u0_2, u0_3, u0_4, u0_5⟩ := HF1.out
      replace u0_0 := (hx.cell (p := ⟨e1, o1, none⟩) he1).trans u0_0
      replace u0_1 := (hx.cell (p := ⟨e1, o1 + 1, none⟩) he1).trans u0_1
      replace u0_2 := (hx.cell (p := ⟨e1, o1 + 2, none⟩) he1).trans u0_2
      replace u0_3 := (hx.cell (p := ⟨e1, o1 + 3, none⟩) he1).trans u0_3
      replace u0_4 := (hx.cell (p := ⟨e1, o1 + 4, none⟩) he1).trans u0_4
      replace u0_5 := (hx.cell (p := ⟨e1, o1 + 5, none⟩) he1).trans u0_5
      obtain ⟨u1_0, u1_1, u1_2, u1_3, u1_4, u1_5⟩ := HF2.out
      replace u1_0 := (hx.cell (p := ⟨e1, o1 + 6, none⟩) he1).trans u1_0
      replace u1_1 := (hx.cell (p := ⟨e1, o1 + 7, none⟩) he1).trans u1_1
      replace u1_2 := (hx.cell (p := ⟨e1, o1 + 8, none⟩) he1).trans u1_2
      replace u1_3 := (hx.cell (p := ⟨e1, o1 + 9, none⟩) he1).trans u1_3
      replace u1_4 := (hx.cell (p := ⟨e1, o1 + 10, none⟩) he1).trans u1_4
      replace u1_5 := (hx.cell (p := ⟨e1, o1 + 11, none⟩) he1).trans u1_5
      obtain ⟨u2_0, u2_1, u2_2, u2_3, u2_4, u2_5⟩ := HF3.out
      replace u2_0 := (hx.cell (p := ⟨e2, o2, none⟩) he2).trans u2_0
      replace u2_1 := (hx.cell (p := ⟨e2, o2 + 1, none⟩) he2).trans u2_1
      replace u2_2 := (hx.cell (p := ⟨e2, o2 + 2, none⟩) he2).trans u2_2
      replace u2_3 := (hx.cell (p := ⟨e2, o2 + 3, none⟩) he2).trans u2_3
      replace u2_4 := (hx.cell (p := ⟨e2, o2 + 4, none⟩) he2).trans u2_4
      replace u2_5 := (hx.cell (p := ⟨e2, o2 + 5, none⟩) he2).trans u2_5
      obtain ⟨u3_0, u3_1, u3_2, u3_3, u3_4, u3_5⟩ := HF4.out
      replace u3_0 := (hx.cell (p := ⟨e2, o2 + 6, none⟩) he2).trans u3_0
      replace u3_1 := (hx.cell (p := ⟨e2, o2 + 7, none⟩) he2).trans u3_1
      replace u3_2 := (hx.cell (p := ⟨e2, o2 + 8, none⟩) he2).trans u3_2
      replace u3_3 := (hx.cell (p := ⟨e2, o2 + 9, none⟩) he2).trans u3_3
      replace u3_4 := (hx.cell (p := ⟨e2, o2 + 10, none⟩) he2).trans u3_4
      replace u3_5 := (hx.cell (p := ⟨e2, o2 + 11, none⟩) he2).trans u3_5
      exact Reg.obl_free rfl (Reg.wp_eqv (Option.some_ne_none _) (by go_simp) rfl)
    · intro ax wx hx hs
      obtain ⟨e10, -⟩ := hs
      have g10 := Reg.ev (v := .slice (some ⟨e2, o2, none⟩) 2 c4) e10
      exact Reg.obl_free rfl (Reg.wp_eqv (Option.some_ne_none _) (by go_simp) rfl)
    · intro ax wx hx hs
      obtain ⟨e30, -⟩ := hs
      have g30 := Reg.ev (v := .slice (some ⟨e2, o2, none⟩) 2 c4) e30
      exact Reg.obl_free rfl (Reg.wp_eqv (Option.some_ne_none _) (by go_simp) rfl)
    · intro ax wx hx hs
      obtain ⟨e31, -⟩ := hs
      have g31 := Reg.ev (v := .pointer (some ⟨e2, o2 + 6, none⟩)) e31
      obtain ⟨u0_0, u0_1, u0_2, u0_3, u0_4, u0_5⟩ := HF1.out
      replace u0_0 := (hx.cell (p := ⟨e1, o1, none⟩) he1).trans u0_0
      replace u0_1 := (hx.cell (p := ⟨e1, o1 + 1, none⟩) he1).trans u0_1
      replace u0_2 := (hx.cell (p := ⟨e1, o1 + 2, none⟩) he1).trans u0_2
      replace u0_3 := (hx.cell (p := ⟨e1, o1 + 3, none⟩) he1).trans u0_3
      replace u0_4 := (hx.cell (p := ⟨e1, o1 + 4, none⟩) he1).trans u0_4
      replace u0_5 := (hx.cell (p := ⟨e1, o1 + 5, none⟩) he1).trans u0_5
      obtain ⟨u1_0, u1_1, u1_2, u1_3, u1_4, u1_5⟩ := HF2.out
      replace u1_0 := (hx.cell (p := ⟨e1, o1 + 6, none⟩) he1).trans u1_0
      replace u1_1 := (hx.cell (p := ⟨e1, o1 + 7, none⟩) he1).trans u1_1
      replace u1_2 := (hx.cell (p := ⟨e1, o1 + 8, none⟩) he1).trans u1_2
      replace u1_3 := (hx.cell (p := ⟨e1, o1 + 9, none⟩) he1).trans u1_3
      replace u1_4 := (hx.cell (p := ⟨e1, o1 + 10, none⟩) he1).trans u1_4
      replace u1_5 := (hx.cell (p := ⟨e1, o1 + 11, none⟩) he1).trans u1_5
      obtain ⟨u2_0, u2_1, u2_2, u2_3, u2_4, u2_5⟩ := HF3.out
      replace u2_0 := (hx.cell (p := ⟨e2, o2, none⟩) he2).trans u2_0
      replace u2_1 := (hx.cell (p := ⟨e2, o2 + 1, none⟩) he2).trans u2_1
      replace u2_2 := (hx.cell (p := ⟨e2, o2 + 2, none⟩) he2).trans u2_2
      replace u2_3 := (hx.cell (p := ⟨e2, o2 + 3, none⟩) he2).trans u2_3
      replace u2_4 := (hx.cell (p := ⟨e2, o2 + 4, none⟩) he2).trans u2_4
      replace u2_5 := (hx.cell (p := ⟨e2, o2 + 5, none⟩) he2).trans u2_5
      obtain ⟨u3_0, u3_1, u3_2, u3_3, u3_4, u3_5⟩ := HF4.out
      replace u3_0 := (hx.cell (p := ⟨e2, o2 + 6, none⟩) he2).trans u3_0
      replace u3_1 := (hx.cell (p := ⟨e2, o2 + 7, none⟩) he2).trans u3_1
      replace u3_2 := (hx.cell (p := ⟨e2, o2 + 8, none⟩) he2).trans u3_2
      replace u3_3 := (hx.cell (p := ⟨e2, o2 + 9, none⟩) he2).trans u3_3
      replace u3_4 := (hx.cell (p := ⟨e2, o2 + 10, none⟩) he2).trans u3_4
      replace u3_5 := (hx.cell (p := ⟨e2, o2 + 11, none⟩) he2).trans u3_5
      exact Reg.obl_free rfl (Reg.wp_eqv (Option.some_ne_none _) (by go_simp) rfl)
    · intro ax wx hx hs
      obtain ⟨e29, e32, -⟩ := hs
      have g29 := Reg.ev (v := .agg #[.int .i64 r1.2.err, .int .i64 r1.2.cell.kind, .slice Ax nx cx, .int .i64 r1.2.cell.lo, .int .i64 r1.2.cell.hi, .int .i64 r1.2.cell.val]) e29
      have g32 := Reg.ev (v := .agg #[.int .i64 q2.2.err, .int .i64 q2.2.cell.kind, .slice Av nv cv, .int .i64 q2.2.cell.lo, .int .i64 q2.2.cell.hi, .int .i64 q2.2.cell.val]) e32
      refine Reg.obl_free rfl ?_
      have hx' : Below W3.heap.size W3 wx := hx
      go_simp
      refine (SameAnswer_any r1.2 q2.2 Ax Av nx cx nv cv  W3.heap.size W3.heap.size _ (HX.out.below hx') hx'.size (HV.out.below hx') hx'.size).mono ?_
      rintro e wy ⟨rfl, hby⟩
      rw [HP1.out]
      exact Reg.done (Option.some_ne_none _) rfl hby
    · intro ax wx hx hs
      obtain ⟨e33, -⟩ := hs
      have g33 := Reg.ev (v := .bool p1) e33
      exact Reg.obl_free rfl (Reg.wp_eqv (Option.some_ne_none _) (by go_simp) rfl)
    · intro ax wx hx hs
      obtain ⟨e8, e34, -⟩ := hs
      refine Reg.obl_may rfl rfl e34 rfl ?_
      intro hC
      have g8 := Reg.ev (v := .slice (some ⟨e1, o1, none⟩) 2 c2) e8
      have g34 := Reg.ev (v := .bool p1) e34
      exact Reg.wp_eqv (Option.some_ne_none _) (by go_simp) rfl
    · intro ax wx hx hs
      obtain ⟨e35, e34, -⟩ := hs
      refine Reg.obl_may rfl rfl e34 rfl ?_
      intro hC
      have g35 := Reg.ev (v := .slice (some ⟨e1, o1, none⟩) 2 c2) (e35.1 (by first | exact hC | exact hC.1 | exact hC.1.1 | exact hC.1.1.1))
      have g34 := Reg.ev (v := .bool p1) e34
      exact Reg.wp_eqv (Option.some_ne_none _) (by go_simp) rfl
    · intro ax wx hx hs
      obtain ⟨e36, e34, -⟩ := hs
      refine Reg.obl_may rfl rfl e34 rfl ?_
      intro hC
      have g36 := Reg.ev (v := .pointer (some ⟨e1, o1 + 6, none⟩)) (e36.1 (by first | exact hC | exact hC.1 | exact hC.1.1 | exact hC.1.1.1))
      have g34 := Reg.ev (v := .bool p1) e34
      obtain ⟨u0_0, u0_1, u0_2, u0_3, u0_4, u0_5⟩ := HF1.out
      replace u0_0 := (hx.cell (p := ⟨e1, o1, none⟩) he1).trans u0_0
      replace u0_1 := (hx.cell (p := ⟨e1, o1 + 1, none⟩) he1).trans u0_1
      replace u0_2 := (hx.cell (p := ⟨e1, o1 + 2, none⟩) he1).trans u0_2
      replace u0_3 := (hx.cell (p := ⟨e1, o1 + 3, none⟩) he1).trans u0_3
      replace u0_4 := (hx.cell (p := ⟨e1, o1 + 4, none⟩) he1).trans u0_4
      replace u0_5 := (hx.cell (p := ⟨e1, o1 + 5, none⟩) he1).trans u0_5
      obtain ⟨u1_0, u1_1, u1_2, u1_3, u1_4, u1_5⟩ := HF2.out
      replace u1_0 := (hx.cell (p := ⟨e1, o1 + 6, none⟩) he1).trans u1_0
      replace u1_1 := (hx.cell (p := ⟨e1, o1 + 7, none⟩) he1).trans u1_1
      replace u1_2 := (hx.cell (p := ⟨e1, o1 + 8, none⟩) he1).trans u1_2
      replace u1_3 := (hx.cell (p := ⟨e1, o1 + 9, none⟩) he1).trans u1_3
      replace u1_4 := (hx.cell (p := ⟨e1, o1 + 10, none⟩) he1).trans u1_4
      replace u1_5 := (hx.cell (p := ⟨e1, o1 + 11, none⟩) he1).trans u1_5
      obtain ⟨u2_0, u2_1, u2_2, u2_3, u2_4, u2_5⟩ := HF3.out
      replace u2_0 := (hx.cell (p := ⟨e2, o2, none⟩) he2).trans u2_0
      replace u2_1 := (hx.cell (p := ⟨e2, o2 + 1, none⟩) he2).trans u2_1
      replace u2_2 := (hx.cell (p := ⟨e2, o2 + 2, none⟩) he2).trans u2_2
      replace u2_3 := (hx.cell (p := ⟨e2, o2 + 3, none⟩) he2).trans u2_3
      replace u2_4 := (hx.cell (p := ⟨e2, o2 + 4, none⟩) he2).trans u2_4
      replace u2_5 := (hx.cell (p := ⟨e2, o2 + 5, none⟩) he2).trans u2_5
      obtain ⟨u3_0, u3_1, u3_2, u3_3, u3_4, u3_5⟩ := HF4.out
      replace u3_0 := (hx.cell (p := ⟨e2, o2 + 6, none⟩) he2).trans u3_0
      replace u3_1 := (hx.cell (p := ⟨e2, o2 + 7, none⟩) he2).trans u3_1
      replace u3_2 := (hx.cell (p := ⟨e2, o2 + 8, none⟩) he2).trans u3_2
      replace u3_3 := (hx.cell (p := ⟨e2, o2 + 9, none⟩) he2).trans u3_3
      replace u3_4 := (hx.cell (p := ⟨e2, o2 + 10, none⟩) he2).trans u3_4
      replace u3_5 := (hx.cell (p := ⟨e2, o2 + 11, none⟩) he2).trans u3_5
      exact Reg.wp_eqv (Option.some_ne_none _) (by go_simp) rfl
    · intro ax wx hx hs
      obtain ⟨e10, e34, -⟩ := hs
      refine Reg.obl_may rfl rfl e34 rfl ?_
      intro hC
      have g10 := Reg.ev (v := .slice (some ⟨e2, o2, none⟩) 2 c4) e10
      have g34 := Reg.ev (v := .bool p1) e34
      exact Reg.wp_eqv (Option.some_ne_none _) (by go_simp) rfl
    · intro ax wx hx hs
      obtain ⟨e38, e34, -⟩ := hs
      refine Reg.obl_may rfl rfl e34 rfl ?_
      intro hC
      have g38 := Reg.ev (v := .slice (some ⟨e2, o2, none⟩) 2 c4) (e38.1 (by first | exact hC | exact hC.1 | exact hC.1.1 | exact hC.1.1.1))
      have g34 := Reg.ev (v := .bool p1) e34
      exact Reg.wp_eqv (Option.some_ne_none _) (by go_simp) rfl
    · intro ax wx hx hs
      obtain ⟨e39, e34, -⟩ := hs
      refine Reg.obl_may rfl rfl e34 rfl ?_
      intro hC
      have g39 := Reg.ev (v := .pointer (some ⟨e2, o2, none⟩)) (e39.1 (by first | exact hC | exact hC.1 | exact hC.1.1 | exact hC.1.1.1))
      have g34 := Reg.ev (v := .bool p1) e34
      obtain ⟨u0_0, u0_1, u0_2, u0_3, u0_4, u0_5⟩ := HF1.out
      replace u0_0 := (hx.cell (p := ⟨e1, o1, none⟩) he1).trans u0_0
      replace u0_1 := (hx.cell (p := ⟨e1, o1 + 1, none⟩) he1).trans u0_1
      replace u0_2 := (hx.cell (p := ⟨e1, o1 + 2, none⟩) he1).trans u0_2
      replace u0_3 := (hx.cell (p := ⟨e1, o1 + 3, none⟩) he1).trans u0_3
      replace u0_4 := (hx.cell (p := ⟨e1, o1 + 4, none⟩) he1).trans u0_4
      replace u0_5 := (hx.cell (p := ⟨e1, o1 + 5, none⟩) he1).trans u0_5
      obtain ⟨u1_0, u1_1, u1_2, u1_3, u1_4, u1_5⟩ := HF2.out
      replace u1_0 := (hx.cell (p := ⟨e1, o1 + 6, none⟩) he1).trans u1_0
      replace u1_1 := (hx.cell (p := ⟨e1, o1 + 7, none⟩) he1).trans u1_1
      replace u1_2 := (hx.cell (p := ⟨e1, o1 + 8, none⟩) he1).trans u1_2
      replace u1_3 := (hx.cell (p := ⟨e1, o1 + 9, none⟩) he1).trans u1_3
      replace u1_4 := (hx.cell (p := ⟨e1, o1 + 10, none⟩) he1).trans u1_4
      replace u1_5 := (hx.cell (p := ⟨e1, o1 + 11, none⟩) he1).trans u1_5
      obtain ⟨u2_0, u2_1, u2_2, u2_3, u2_4, u2_5⟩ := HF3.out
      replace u2_0 := (hx.cell (p := ⟨e2, o2, none⟩) he2).trans u2_0
      replace u2_1 := (hx.cell (p := ⟨e2, o2 + 1, none⟩) he2).trans u2_1
      replace u2_2 := (hx.cell (p := ⟨e2, o2 + 2, none⟩) he2).trans u2_2
      replace u2_3 := (hx.cell (p := ⟨e2, o2 + 3, none⟩) he2).trans u2_3
      replace u2_4 := (hx.cell (p := ⟨e2, o2 + 4, none⟩) he2).trans u2_4
      replace u2_5 := (hx.cell (p := ⟨e2, o2 + 5, none⟩) he2).trans u2_5
      obtain ⟨u3_0, u3_1, u3_2, u3_3, u3_4, u3_5⟩ := HF4.out
      replace u3_0 := (hx.cell (p := ⟨e2, o2 + 6, none⟩) he2).trans u3_0
      replace u3_1 := (hx.cell (p := ⟨e2, o2 + 7, none⟩) he2).trans u3_1
      replace u3_2 := (hx.cell (p := ⟨e2, o2 + 8, none⟩) he2).trans u3_2
      replace u3_3 := (hx.cell (p := ⟨e2, o2 + 9, none⟩) he2).trans u3_3
      replace u3_4 := (hx.cell (p := ⟨e2, o2 + 10, none⟩) he2).trans u3_4
      replace u3_5 := (hx.cell (p := ⟨e2, o2 + 11, none⟩) he2).trans u3_5
      exact Reg.wp_eqv (Option.some_ne_none _) (by go_simp) rfl
    · intro ax wx hx hs
      obtain ⟨e37, e40, e34, -⟩ := hs
      refine Reg.obl_may rfl rfl e34 rfl ?_
      intro hC
      have g37 := Reg.ev (v := .agg #[.int .i64 r2.2.err, .int .i64 r2.2.cell.kind, .slice Ay ny cy, .int .i64 r2.2.cell.lo, .int .i64 r2.2.cell.hi, .int .i64 r2.2.cell.val]) (e37.1 (by first | exact hC | exact hC.1 | exact hC.1.1 | exact hC.1.1.1))
      have g40 := Reg.ev (v := .agg #[.int .i64 q1.2.err, .int .i64 q1.2.cell.kind, .slice Au nu cu, .int .i64 q1.2.cell.lo, .int .i64 q1.2.cell.hi, .int .i64 q1.2.cell.val]) (e40.1 (by first | exact hC | exact hC.1 | exact hC.1.1 | exact hC.1.1.1))
      have g34 := Reg.ev (v := .bool p1) e34
      have hx' : Below W3.heap.size W3 wx := hx
      go_simp
      refine (SameAnswer_any r2.2 q1.2 Ay Au ny cy nu cu  W3.heap.size W3.heap.size _ (HY.out.below hx') hx'.size (HU.out.below hx') hx'.size).mono ?_
      rintro e wy ⟨rfl, hby⟩
      rw [HP2.out]
      exact Reg.done (Option.some_ne_none _) rfl hby
    · intro ax wx hx hs
      obtain ⟨e34, e41, -⟩ := hs
      have g34 := Reg.ev (v := .bool p1) e34
      refine Reg.obl_free rfl ?_
      rcases Bool.eq_false_or_eq_true p1 with hG | hG
      · rw [hG] at g34
        have g41 := Reg.ev (v := .bool p2) (e41.1 (by first | exact hG | exact ⟨hC, hG⟩))
        exact Reg.wp_eqv (c := .bool p2) (Option.some_ne_none _) (by go_simp) (by show _ = Value.bool _; rw [hG]; rfl)
      · rw [hG] at g34
        exact Reg.wp_eqv (c := .bool false) (Option.some_ne_none _) (by go_simp) (by show _ = Value.bool _; rw [hG]; rfl)
    · intro ax wx hx hs
      obtain ⟨e42, -⟩ := hs
      have g42 := Reg.ev (v := .bool (p1 && p2)) e42
      exact Reg.obl_free rfl (Reg.wp_eqv (Option.some_ne_none _) (by go_simp) rfl)
    · intro ax wx hx hs
      obtain ⟨e7, e43, -⟩ := hs
      refine Reg.obl_may rfl rfl e43 rfl ?_
      intro hC
      have g7 := Reg.ev (v := .slice A1 n1 c1) e7
      have g43 := Reg.ev (v := .bool (p1 && p2)) e43
      exact Reg.wp_eqv (Option.some_ne_none _) (by go_simp) rfl
    · intro ax wx hx hs
      obtain ⟨e9, e43, -⟩ := hs
      refine Reg.obl_may rfl rfl e43 rfl ?_
      intro hC
      have g9 := Reg.ev (v := .slice A3 n3 c3) e9
      have g43 := Reg.ev (v := .bool (p1 && p2)) e43
      exact Reg.wp_eqv (Option.some_ne_none _) (by go_simp) rfl
    · intro ax wx hx hs
      obtain ⟨e44, e45, e43, -⟩ := hs
      refine Reg.obl_may rfl rfl e43 rfl ?_
      intro hC
      have g44 := Reg.ev (v := .slice A1 n1 c1) (e44.1 (by first | exact hC | exact hC.1 | exact hC.1.1 | exact hC.1.1.1))
      have g45 := Reg.ev (v := .slice A3 n3 c3) (e45.1 (by first | exact hC | exact hC.1 | exact hC.1.1 | exact hC.1.1.1))
      have g43 := Reg.ev (v := .bool (p1 && p2)) e43
      have hx' : Below W3.heap.size W3 wx := hx
      go_simp
      refine (Same_any A1 A3 n1 c1 n3 c3 wx.heap.size wx.heap.size r2.1 q2.1 _ (HP1_3.out.next hx') (Nat.le_refl _) (HP2_3.out.next hx') (Nat.le_refl _) (by rw [← HP1_3.out.len]; exact HRL.out)).mono ?_
      rintro e wy ⟨rfl, hby⟩
      rw [HP3.out]
      exact Reg.done (Option.some_ne_none _) rfl hby
    · intro ax wx hx hs
      obtain ⟨e43, e46, -⟩ := hs
      have g43 := Reg.ev (v := .bool (p1 && p2)) e43
      refine Reg.obl_free rfl ?_
      rcases Bool.eq_false_or_eq_true ((p1 && p2)) with hG | hG
      · rw [hG] at g43
        have g46 := Reg.ev (v := .bool p3) (e46.1 (by first | exact hG | exact ⟨hC, hG⟩))
        exact Reg.wp_eqv (c := .bool p3) (Option.some_ne_none _) (by go_simp) (by show _ = Value.bool _; rw [hG]; rfl)
      · rw [hG] at g43
        exact Reg.wp_eqv (c := .bool false) (Option.some_ne_none _) (by go_simp) (by show _ = Value.bool _; rw [hG]; rfl)
    · intro ax wx hx hs
      obtain ⟨e47, -⟩ := hs
      have g47 := Reg.ev (v := .bool (((p1 && p2)) && p3)) e47
      exact Reg.obl_free rfl (Reg.wp_eqv (Option.some_ne_none _) (by go_simp) rfl)
  · intro W4 hwf
    simp only [Reg.Fin]
    rintro _ rfl _ rfl _ rfl _ rfl _ rfl _ rfl _ rfl _ rfl v35 h35 v36 h36 v37 h37 v38 h38 v39 h39 v40 h40 v41 h41 _ rfl _ rfl v44 h44 v45 h45 v46 h46 _ rfl _ rfl
    go_simp
    have hwf' : Below W3.heap.size W3 W4 := hwf
    have HBe := bstep HB_3.out hwf'
    clear hwf hwf'
    go_wp2_with fail
    go_ret
    exact ⟨rfl, HBe⟩
end Go.Proofs.YtghgccgpgonlmaaDoor.Modes
namespace Go.Proofs.YtghgccgpgonlmaaDoor.modesSwaps
open Go.RowKit ModelW
set_option linter.unusedVariables false
theorem muchS_no' {l : List Pair} (h : ModelP.muchS l = false) : l.length ≤ 60 ∧ ∀ p ∈ l, p.cell.data.length ≤ 100000 := by
  unfold ModelP.muchS at h
  simp only [Bool.or_eq_false_iff, decide_eq_false_iff_not, List.any_eq_false] at h
  refine ⟨by omega, fun p hp => ?_⟩
  have := h.1 p (by rw [List.take_of_length_le (by omega)]; exact hp)
  unfold ModelP.muchP at this
  simp at this
  omega
theorem muchL_no' {x y : OpX} (h : ModelP.muchL [x, y] = false) : x.data.length ≤ 300 ∧ y.data.length ≤ 300 := by
  have h' : ∀ p ∈ [x, y], p.data.length ≤ 300 := by
    unfold ModelP.muchL at h
    simp only [Bool.or_eq_false_iff, decide_eq_false_iff_not, List.any_eq_false] at h
    intro p hp
    have := h.1 p (by rw [List.take_of_length_le (by simp)]; exact hp)
    unfold ModelP.muchO at this
    simp at this
    omega
  exact ⟨h' x (by simp), h' y (by simp)⟩
set_option maxRecDepth 100000 in
set_option maxHeartbeats 2000000 in
theorem way_muchS (A : Option Addr) (n c : Nat) (s : List Pair) (aa : Int) (ak : ByteArray) (ad : List UInt8) (alo ahi an : Int) (Aa : Option Addr) (na ca : Nat) (ba : Int) (bk : ByteArray) (bd : List UInt8) (blo bhi bn : Int) (Ab : Option Addr) (nb cb : Nat) (w : World) (h : Pairs w w.heap.size A n c s) (hya : Bytes w w.heap.size Aa na ca ad) (hka : ak.size ≤ maxLen) (hia : In64 aa ∧ In64 alo ∧ In64 ahi ∧ In64 an) (hyb : Bytes w w.heap.size Ab nb cb bd) (hkb : bk.size ≤ maxLen) (hib : In64 ba ∧ In64 blo ∧ In64 bhi ∧ In64 bn) (hT : Modes.Tab w) (hg : 0 < w.heap.size) (hm : ModelP.muchS s = true) :
    Calls Tryd.prog 3 #[.slice A n c, .agg #[.int .i64 aa, .string ak, .slice Aa na ca, .int .i64 alo, .int .i64 ahi, .int .i64 an], .agg #[.int .i64 ba, .string bk, .slice Ab nb cb, .int .i64 blo, .int .i64 bhi, .int .i64 bn]] w fun e w' => e = .returned (.bool true) ∧ Below w.heap.size w w' := by
  have HT := Lib.hid hT
  have H := Lib.hid h
  have HA := Lib.hid hya
  have HBB := Lib.hid hyb
  have HM := Lib.hid hm
  have HIA := Lib.hid hia
  have HIB := Lib.hid hib
  clear hT h hya hyb hm hia hib
  go_enter Tryd.func3, Tryd.ntmps3
  go_wp2_with fail
  generalize hW0 : ((w).alloc (.cells #[.int .i64 aa, .string ak, .slice Aa na ca, .int .i64 alo, .int .i64 ahi, .int .i64 an] 25)).alloc (.cells #[.int .i64 ba, .string bk, .slice Ab nb cb, .int .i64 blo, .int .i64 bhi, .int .i64 bn] 25) = W0
  obtain ⟨HS0_0, HS1_0, HB_0, hw_0, hz0⟩ := new2 hW0
  clear hW0 hz0
  have f0_0 := str6 HS0_0.out
  have hl0_0 := HS0_0.out.lt
  have hf0_0 := fun j => HS0_0.out.frozen j
  have f1_0 := str6 HS1_0.out
  have hl1_0 := HS1_0.out.lt
  have hf1_0 := fun j => HS1_0.out.frozen j
  have HYa_0 := Lib.hid (HA.out.next HB_0.out)
  have HYb_0 := Lib.hid (HBB.out.next HB_0.out)
  refine (muchState_any A n c W0.heap.size s _ (H.out.next HB_0.out) (Nat.le_refl _)).mono ?_
  rintro e W1 ⟨rfl, hb1⟩
  rw [HM.out]
  have HS0_1 := Lib.hid (HS0_0.out.next hb1)
  have HS1_1 := Lib.hid (HS1_0.out.next hb1)
  have HB_1 := Lib.hid (bstep HB_0.out hb1)
  have hw_1 := HB_1.out.size
  have hws_1 := (hb1).size
  have HYa_1 := Lib.hid (HYa_0.out.next hb1)
  have HYb_1 := Lib.hid (HYb_0.out.next hb1)
  clear HYa_0 HYb_0
  clear f0_0 HS0_0 hf0_0 f1_0 HS1_0 hf1_0
  clear hb1
  have f0_1 := str6 HS0_1.out
  have hl0_1 := HS0_1.out.lt
  have hf0_1 := fun j => HS0_1.out.frozen j
  have f1_1 := str6 HS1_1.out
  have hl1_1 := HS1_1.out.lt
  have hf1_1 := fun j => HS1_1.out.frozen j
  go_wp2_with fail
  refine (Live10.live_any _ (HT.out.below HB_1.out hg) (Nat.lt_of_lt_of_le hg HB_1.out.size)).mono ?_
  rintro e W2 ⟨rfl, hb2⟩
  have HS0_2 := Lib.hid (HS0_1.out.next hb2)
  have HS1_2 := Lib.hid (HS1_1.out.next hb2)
  have HB_2 := Lib.hid (bstep HB_1.out hb2)
  have hw_2 := HB_2.out.size
  have hws_2 := (hb2).size
  have HYa_2 := Lib.hid (HYa_1.out.next hb2)
  have HYb_2 := Lib.hid (HYb_1.out.next hb2)
  clear HYa_1 HYb_1
  clear f0_1 HS0_1 hf0_1 f1_1 HS1_1 hf1_1
  clear hb2
  have f0_2 := str6 HS0_2.out
  have hl0_2 := HS0_2.out.lt
  have hf0_2 := fun j => HS0_2.out.frozen j
  have f1_2 := str6 HS1_2.out
  have hl1_2 := HS1_2.out.lt
  have hf1_2 := fun j => HS1_2.out.frozen j
  go_wp2_with fail
  go_ret
  exact ⟨rfl, HB_2.out⟩
set_option maxRecDepth 100000 in
set_option maxHeartbeats 2000000 in
theorem way_wrong (A : Option Addr) (n c : Nat) (s : List Pair) (aa : Int) (ak : ByteArray) (ad : List UInt8) (alo ahi an : Int) (Aa : Option Addr) (na ca : Nat) (ba : Int) (bk : ByteArray) (bd : List UInt8) (blo bhi bn : Int) (Ab : Option Addr) (nb cb : Nat) (w : World) (h : Pairs w w.heap.size A n c s) (hya : Bytes w w.heap.size Aa na ca ad) (hka : ak.size ≤ maxLen) (hia : In64 aa ∧ In64 alo ∧ In64 ahi ∧ In64 an) (hyb : Bytes w w.heap.size Ab nb cb bd) (hkb : bk.size ≤ maxLen) (hib : In64 ba ∧ In64 blo ∧ In64 bhi ∧ In64 bn) (hT : Modes.Tab w) (hg : 0 < w.heap.size) (hm : ModelP.muchS s = false) (hr : ModelP.rightB s = false) :
    Calls Tryd.prog 3 #[.slice A n c, .agg #[.int .i64 aa, .string ak, .slice Aa na ca, .int .i64 alo, .int .i64 ahi, .int .i64 an], .agg #[.int .i64 ba, .string bk, .slice Ab nb cb, .int .i64 blo, .int .i64 bhi, .int .i64 bn]] w fun e w' => e = .returned (.bool true) ∧ Below w.heap.size w w' := by
  have HT := Lib.hid hT
  have H := Lib.hid h
  have HA := Lib.hid hya
  have HBB := Lib.hid hyb
  have HM := Lib.hid hm
  have HIA := Lib.hid hia
  have HIB := Lib.hid hib
  have hnn := (muchS_no' hm).1
  have hln := h.len
  have hn : n ≤ 60 := by omega
  have HR := Lib.hid hr
  clear hT h hya hyb hm hia hib hnn hln hr
  go_enter Tryd.func3, Tryd.ntmps3
  go_wp2_with fail
  generalize hW0 : ((w).alloc (.cells #[.int .i64 aa, .string ak, .slice Aa na ca, .int .i64 alo, .int .i64 ahi, .int .i64 an] 25)).alloc (.cells #[.int .i64 ba, .string bk, .slice Ab nb cb, .int .i64 blo, .int .i64 bhi, .int .i64 bn] 25) = W0
  obtain ⟨HS0_0, HS1_0, HB_0, hw_0, hz0⟩ := new2 hW0
  clear hW0 hz0
  have f0_0 := str6 HS0_0.out
  have hl0_0 := HS0_0.out.lt
  have hf0_0 := fun j => HS0_0.out.frozen j
  have f1_0 := str6 HS1_0.out
  have hl1_0 := HS1_0.out.lt
  have hf1_0 := fun j => HS1_0.out.frozen j
  have HYa_0 := Lib.hid (HA.out.next HB_0.out)
  have HYb_0 := Lib.hid (HBB.out.next HB_0.out)
  refine (muchState_any A n c W0.heap.size s _ (H.out.next HB_0.out) (Nat.le_refl _)).mono ?_
  rintro e W1 ⟨rfl, hb1⟩
  rw [HM.out]
  have HS0_1 := Lib.hid (HS0_0.out.next hb1)
  have HS1_1 := Lib.hid (HS1_0.out.next hb1)
  have HB_1 := Lib.hid (bstep HB_0.out hb1)
  have hw_1 := HB_1.out.size
  have hws_1 := (hb1).size
  have HYa_1 := Lib.hid (HYa_0.out.next hb1)
  have HYb_1 := Lib.hid (HYb_0.out.next hb1)
  clear HYa_0 HYb_0
  clear f0_0 HS0_0 hf0_0 f1_0 HS1_0 hf1_0
  clear hb1
  have f0_1 := str6 HS0_1.out
  have hl0_1 := HS0_1.out.lt
  have hf0_1 := fun j => HS0_1.out.frozen j
  have f1_1 := str6 HS1_1.out
  have hl1_1 := HS1_1.out.lt
  have hf1_1 := fun j => HS1_1.out.frozen j
  go_wp2_with fail
  refine (refRight_any A n c W1.heap.size s _ (H.out.next HB_1.out) (Nat.le_refl _) (by omega)).mono ?_
  rintro e W2 ⟨rfl, hb2⟩
  rw [HR.out]
  have HS0_2 := Lib.hid (HS0_1.out.next hb2)
  have HS1_2 := Lib.hid (HS1_1.out.next hb2)
  have HB_2 := Lib.hid (bstep HB_1.out hb2)
  have hw_2 := HB_2.out.size
  have hws_2 := (hb2).size
  have HYa_2 := Lib.hid (HYa_1.out.next hb2)
  have HYb_2 := Lib.hid (HYb_1.out.next hb2)
  clear HYa_1 HYb_1
  clear f0_1 HS0_1 hf0_1 f1_1 HS1_1 hf1_1
  clear hb2
  have f0_2 := str6 HS0_2.out
  have hl0_2 := HS0_2.out.lt
  have hf0_2 := fun j => HS0_2.out.frozen j
  have f1_2 := str6 HS1_2.out
  have hl1_2 := HS1_2.out.lt
  have hf1_2 := fun j => HS1_2.out.frozen j
  go_wp2_with fail
  refine (Live10.live_any _ (HT.out.below HB_2.out hg) (Nat.lt_of_lt_of_le hg HB_2.out.size)).mono ?_
  rintro e W3 ⟨rfl, hb3⟩
  have HS0_3 := Lib.hid (HS0_2.out.next hb3)
  have HS1_3 := Lib.hid (HS1_2.out.next hb3)
  have HB_3 := Lib.hid (bstep HB_2.out hb3)
  have hw_3 := HB_3.out.size
  have hws_3 := (hb3).size
  have HYa_3 := Lib.hid (HYa_2.out.next hb3)
  have HYb_3 := Lib.hid (HYb_2.out.next hb3)
  clear HYa_2 HYb_2
  clear f0_2 HS0_2 hf0_2 f1_2 HS1_2 hf1_2
  clear hb3
  have f0_3 := str6 HS0_3.out
  have hl0_3 := HS0_3.out.lt
  have hf0_3 := fun j => HS0_3.out.frozen j
  have f1_3 := str6 HS1_3.out
  have hl1_3 := HS1_3.out.lt
  have hf1_3 := fun j => HS1_3.out.frozen j
  go_wp2_with fail
  go_ret
  exact ⟨rfl, HB_3.out⟩
set_option maxRecDepth 100000 in
set_option maxHeartbeats 2000000 in
theorem way_muchL (A : Option Addr) (n c : Nat) (s : List Pair) (aa : Int) (ak : ByteArray) (ad : List UInt8) (alo ahi an : Int) (Aa : Option Addr) (na ca : Nat) (ba : Int) (bk : ByteArray) (bd : List UInt8) (blo bhi bn : Int) (Ab : Option Addr) (nb cb : Nat) (w : World) (h : Pairs w w.heap.size A n c s) (hya : Bytes w w.heap.size Aa na ca ad) (hka : ak.size ≤ maxLen) (hia : In64 aa ∧ In64 alo ∧ In64 ahi ∧ In64 an) (hyb : Bytes w w.heap.size Ab nb cb bd) (hkb : bk.size ≤ maxLen) (hib : In64 ba ∧ In64 blo ∧ In64 bhi ∧ In64 bn) (hT : Modes.Tab w) (hg : 0 < w.heap.size) (hm : ModelP.muchS s = false) (hr : ModelP.rightB s = true) (hl : ModelP.muchL [⟨aa, ak, ad, alo, ahi, an⟩, ⟨ba, bk, bd, blo, bhi, bn⟩] = true) :
    Calls Tryd.prog 3 #[.slice A n c, .agg #[.int .i64 aa, .string ak, .slice Aa na ca, .int .i64 alo, .int .i64 ahi, .int .i64 an], .agg #[.int .i64 ba, .string bk, .slice Ab nb cb, .int .i64 blo, .int .i64 bhi, .int .i64 bn]] w fun e w' => e = .returned (.bool true) ∧ Below w.heap.size w w' := by
  have HT := Lib.hid hT
  have H := Lib.hid h
  have HA := Lib.hid hya
  have HBB := Lib.hid hyb
  have HM := Lib.hid hm
  have HIA := Lib.hid hia
  have HIB := Lib.hid hib
  have hnn := (muchS_no' hm).1
  have hln := h.len
  have hn : n ≤ 60 := by omega
  have HR := Lib.hid hr
  have HL := Lib.hid hl
  clear hT h hya hyb hm hia hib hnn hln hr hl
  go_enter Tryd.func3, Tryd.ntmps3
  go_wp2_with fail
  generalize hW0 : ((w).alloc (.cells #[.int .i64 aa, .string ak, .slice Aa na ca, .int .i64 alo, .int .i64 ahi, .int .i64 an] 25)).alloc (.cells #[.int .i64 ba, .string bk, .slice Ab nb cb, .int .i64 blo, .int .i64 bhi, .int .i64 bn] 25) = W0
  obtain ⟨HS0_0, HS1_0, HB_0, hw_0, hz0⟩ := new2 hW0
  clear hW0 hz0
  have f0_0 := str6 HS0_0.out
  have hl0_0 := HS0_0.out.lt
  have hf0_0 := fun j => HS0_0.out.frozen j
  have f1_0 := str6 HS1_0.out
  have hl1_0 := HS1_0.out.lt
  have hf1_0 := fun j => HS1_0.out.frozen j
  have HYa_0 := Lib.hid (HA.out.next HB_0.out)
  have HYb_0 := Lib.hid (HBB.out.next HB_0.out)
  refine (muchState_any A n c W0.heap.size s _ (H.out.next HB_0.out) (Nat.le_refl _)).mono ?_
  rintro e W1 ⟨rfl, hb1⟩
  rw [HM.out]
  have HS0_1 := Lib.hid (HS0_0.out.next hb1)
  have HS1_1 := Lib.hid (HS1_0.out.next hb1)
  have HB_1 := Lib.hid (bstep HB_0.out hb1)
  have hw_1 := HB_1.out.size
  have hws_1 := (hb1).size
  have HYa_1 := Lib.hid (HYa_0.out.next hb1)
  have HYb_1 := Lib.hid (HYb_0.out.next hb1)
  clear HYa_0 HYb_0
  clear f0_0 HS0_0 hf0_0 f1_0 HS1_0 hf1_0
  clear hb1
  have f0_1 := str6 HS0_1.out
  have hl0_1 := HS0_1.out.lt
  have hf0_1 := fun j => HS0_1.out.frozen j
  have f1_1 := str6 HS1_1.out
  have hl1_1 := HS1_1.out.lt
  have hf1_1 := fun j => HS1_1.out.frozen j
  go_wp2_with fail
  refine (refRight_any A n c W1.heap.size s _ (H.out.next HB_1.out) (Nat.le_refl _) (by omega)).mono ?_
  rintro e W2 ⟨rfl, hb2⟩
  rw [HR.out]
  have HS0_2 := Lib.hid (HS0_1.out.next hb2)
  have HS1_2 := Lib.hid (HS1_1.out.next hb2)
  have HB_2 := Lib.hid (bstep HB_1.out hb2)
  have hw_2 := HB_2.out.size
  have hws_2 := (hb2).size
  have HYa_2 := Lib.hid (HYa_1.out.next hb2)
  have HYb_2 := Lib.hid (HYb_1.out.next hb2)
  clear HYa_1 HYb_1
  clear f0_1 HS0_1 hf0_1 f1_1 HS1_1 hf1_1
  clear hb2
  have f0_2 := str6 HS0_2.out
  have hl0_2 := HS0_2.out.lt
  have hf0_2 := fun j => HS0_2.out.frozen j
  have f1_2 := str6 HS1_2.out
  have hl1_2 := HS1_2.out.lt
  have hf1_2 := fun j => HS1_2.out.frozen j
  go_wp2_with fail
  generalize hW3 : W2.alloc (.cells #[.int .i64 aa, .string ak, .slice Aa na ca, .int .i64 alo, .int .i64 ahi, .int .i64 an, .int .i64 ba, .string bk, .slice Ab nb cb, .int .i64 blo, .int .i64 bhi, .int .i64 bn] 25) = W3
  have HS0_3 := sEq hW3 (HS0_2.out.alloc _)
  have HS1_3 := sEq hW3 (HS1_2.out.alloc _)
  have HS2_3 := sEq hW3 (Str.new _ _ _)
  have hba3 : Below W2.heap.size W2 W3 := by rw [← hW3]; exact balloc (bsame _) _
  have HB_3 := Lib.hid (bstep HB_2.out hba3)
  have hw_3 := HB_3.out.size
  have hws_3 := hba3.size
  have HYa_3 := Lib.hid (HYa_2.out.next hba3)
  have HYb_3 := Lib.hid (HYb_2.out.next hba3)
  clear HYa_2 HYb_2
  clear hW3
  clear f0_2 HS0_2 hf0_2 f1_2 HS1_2 hf1_2
  have f0_3 := str6 HS0_3.out
  have hl0_3 := HS0_3.out.lt
  have hf0_3 := fun j => HS0_3.out.frozen j
  have f1_3 := str6 HS1_3.out
  have hl1_3 := HS1_3.out.lt
  have hf1_3 := fun j => HS1_3.out.frozen j
  have f2_3 := str12 HS2_3.out
  have hl2_3 := HS2_3.out.lt
  refine (much_any (some ⟨W2.heap.size, 0, none⟩) 2 2 W3.heap.size [⟨aa, ak, ad, alo, ahi, an⟩, ⟨ba, bk, bd, blo, bhi, bn⟩] _ (op_lit2 HS2_3.out (op_one HYa_3.out (Nat.le_refl _) hka HIA.out) (op_one HYb_3.out (Nat.le_refl _) hkb HIB.out)) (Nat.le_refl _)).mono ?_
  rintro e W4 ⟨rfl, hb4⟩
  rw [HL.out]
  have HS0_4 := Lib.hid (HS0_3.out.next hb4)
  have HS1_4 := Lib.hid (HS1_3.out.next hb4)
  have HS2_4 := Lib.hid (HS2_3.out.next hb4)
  have HB_4 := Lib.hid (bstep HB_3.out hb4)
  have hw_4 := HB_4.out.size
  have hws_4 := (hb4).size
  have HYa_4 := Lib.hid (HYa_3.out.next hb4)
  have HYb_4 := Lib.hid (HYb_3.out.next hb4)
  clear HYa_3 HYb_3
  clear f0_3 HS0_3 hf0_3 f1_3 HS1_3 hf1_3 f2_3 HS2_3
  clear hb4
  have f0_4 := str6 HS0_4.out
  have hl0_4 := HS0_4.out.lt
  have hf0_4 := fun j => HS0_4.out.frozen j
  have f1_4 := str6 HS1_4.out
  have hl1_4 := HS1_4.out.lt
  have hf1_4 := fun j => HS1_4.out.frozen j
  have f2_4 := str12 HS2_4.out
  have hl2_4 := HS2_4.out.lt
  go_wp2_with fail
  refine (Live10.live_any _ (HT.out.below HB_4.out hg) (Nat.lt_of_lt_of_le hg HB_4.out.size)).mono ?_
  rintro e W5 ⟨rfl, hb5⟩
  have HS0_5 := Lib.hid (HS0_4.out.next hb5)
  have HS1_5 := Lib.hid (HS1_4.out.next hb5)
  have HS2_5 := Lib.hid (HS2_4.out.next hb5)
  have HB_5 := Lib.hid (bstep HB_4.out hb5)
  have hw_5 := HB_5.out.size
  have hws_5 := (hb5).size
  have HYa_5 := Lib.hid (HYa_4.out.next hb5)
  have HYb_5 := Lib.hid (HYb_4.out.next hb5)
  clear HYa_4 HYb_4
  clear f0_4 HS0_4 hf0_4 f1_4 HS1_4 hf1_4 f2_4 HS2_4
  clear hb5
  have f0_5 := str6 HS0_5.out
  have hl0_5 := HS0_5.out.lt
  have hf0_5 := fun j => HS0_5.out.frozen j
  have f1_5 := str6 HS1_5.out
  have hl1_5 := HS1_5.out.lt
  have hf1_5 := fun j => HS1_5.out.frozen j
  have f2_5 := str12 HS2_5.out
  have hl2_5 := HS2_5.out.lt
  go_wp2_with fail
  go_ret
  exact ⟨rfl, HB_5.out⟩
set_option maxRecDepth 100000 in
set_option maxHeartbeats 2000000 in
theorem way_yes (A : Option Addr) (n c : Nat) (s : List Pair) (aa : Int) (ak : ByteArray) (ad : List UInt8) (alo ahi an : Int) (Aa : Option Addr) (na ca : Nat) (ba : Int) (bk : ByteArray) (bd : List UInt8) (blo bhi bn : Int) (Ab : Option Addr) (nb cb : Nat) (w : World) (h : Pairs w w.heap.size A n c s) (hya : Bytes w w.heap.size Aa na ca ad) (hka : ak.size ≤ maxLen) (hia : In64 aa ∧ In64 alo ∧ In64 ahi ∧ In64 an) (hyb : Bytes w w.heap.size Ab nb cb bd) (hkb : bk.size ≤ maxLen) (hib : In64 ba ∧ In64 blo ∧ In64 bhi ∧ In64 bn) (hT : Modes.Tab w) (hg : 0 < w.heap.size) (hm : ModelP.muchS s = false) (hr : ModelP.rightB s = true) (hl : ModelP.muchL [⟨aa, ak, ad, alo, ahi, an⟩, ⟨ba, bk, bd, blo, bhi, bn⟩] = false) (hs : ModelP.swapM s ⟨aa, ak, ad, alo, ahi, an⟩ ⟨ba, bk, bd, blo, bhi, bn⟩ = true) :
    Calls Tryd.prog 3 #[.slice A n c, .agg #[.int .i64 aa, .string ak, .slice Aa na ca, .int .i64 alo, .int .i64 ahi, .int .i64 an], .agg #[.int .i64 ba, .string bk, .slice Ab nb cb, .int .i64 blo, .int .i64 bhi, .int .i64 bn]] w fun e w' => e = .returned (.bool true) ∧ Below w.heap.size w w' := by
  have HT := Lib.hid hT
  have H := Lib.hid h
  have HA := Lib.hid hya
  have HBB := Lib.hid hyb
  have HM := Lib.hid hm
  have HIA := Lib.hid hia
  have HIB := Lib.hid hib
  have hnn := (muchS_no' hm).1
  have hln := h.len
  have hn : n ≤ 60 := by omega
  have HR := Lib.hid hr
  have HL := Lib.hid hl
  have hna : na ≤ 300 := by rw [← hya.len]; exact (muchL_no' hl).1
  have hnb : nb ≤ 300 := by rw [← hyb.len]; exact (muchL_no' hl).2
  have HRT := Lib.hid ((ModelP.rightB_iff s).1 hr)
  have HSM : Hid (s.length ≤ 500 ∧ ∀ p ∈ s, p.cell.data.length ≤ 100000) := Lib.hid ⟨by omega, (muchS_no' hm).2⟩
  have HS := Lib.hid hs
  clear hT h hya hyb hm hia hib hnn hln hr hl hs
  go_enter Tryd.func3, Tryd.ntmps3
  go_wp2_with fail
  generalize hW0 : ((w).alloc (.cells #[.int .i64 aa, .string ak, .slice Aa na ca, .int .i64 alo, .int .i64 ahi, .int .i64 an] 25)).alloc (.cells #[.int .i64 ba, .string bk, .slice Ab nb cb, .int .i64 blo, .int .i64 bhi, .int .i64 bn] 25) = W0
  obtain ⟨HS0_0, HS1_0, HB_0, hw_0, hz0⟩ := new2 hW0
  clear hW0 hz0
  have f0_0 := str6 HS0_0.out
  have hl0_0 := HS0_0.out.lt
  have hf0_0 := fun j => HS0_0.out.frozen j
  have f1_0 := str6 HS1_0.out
  have hl1_0 := HS1_0.out.lt
  have hf1_0 := fun j => HS1_0.out.frozen j
  have HYa_0 := Lib.hid (HA.out.next HB_0.out)
  have HYb_0 := Lib.hid (HBB.out.next HB_0.out)
  refine (muchState_any A n c W0.heap.size s _ (H.out.next HB_0.out) (Nat.le_refl _)).mono ?_
  rintro e W1 ⟨rfl, hb1⟩
  rw [HM.out]
  have HS0_1 := Lib.hid (HS0_0.out.next hb1)
  have HS1_1 := Lib.hid (HS1_0.out.next hb1)
  have HB_1 := Lib.hid (bstep HB_0.out hb1)
  have hw_1 := HB_1.out.size
  have hws_1 := (hb1).size
  have HYa_1 := Lib.hid (HYa_0.out.next hb1)
  have HYb_1 := Lib.hid (HYb_0.out.next hb1)
  clear HYa_0 HYb_0
  clear f0_0 HS0_0 hf0_0 f1_0 HS1_0 hf1_0
  clear hb1
  have f0_1 := str6 HS0_1.out
  have hl0_1 := HS0_1.out.lt
  have hf0_1 := fun j => HS0_1.out.frozen j
  have f1_1 := str6 HS1_1.out
  have hl1_1 := HS1_1.out.lt
  have hf1_1 := fun j => HS1_1.out.frozen j
  go_wp2_with fail
  refine (refRight_any A n c W1.heap.size s _ (H.out.next HB_1.out) (Nat.le_refl _) (by omega)).mono ?_
  rintro e W2 ⟨rfl, hb2⟩
  rw [HR.out]
  have HS0_2 := Lib.hid (HS0_1.out.next hb2)
  have HS1_2 := Lib.hid (HS1_1.out.next hb2)
  have HB_2 := Lib.hid (bstep HB_1.out hb2)
  have hw_2 := HB_2.out.size
  have hws_2 := (hb2).size
  have HYa_2 := Lib.hid (HYa_1.out.next hb2)
  have HYb_2 := Lib.hid (HYb_1.out.next hb2)
  clear HYa_1 HYb_1
  clear f0_1 HS0_1 hf0_1 f1_1 HS1_1 hf1_1
  clear hb2
  have f0_2 := str6 HS0_2.out
  have hl0_2 := HS0_2.out.lt
  have hf0_2 := fun j => HS0_2.out.frozen j
  have f1_2 := str6 HS1_2.out
  have hl1_2 := HS1_2.out.lt
  have hf1_2 := fun j => HS1_2.out.frozen j
  go_wp2_with fail
  generalize hW3 : W2.alloc (.cells #[.int .i64 aa, .string ak, .slice Aa na ca, .int .i64 alo, .int .i64 ahi, .int .i64 an, .int .i64 ba, .string bk, .slice Ab nb cb, .int .i64 blo, .int .i64 bhi, .int .i64 bn] 25) = W3
  have HS0_3 := sEq hW3 (HS0_2.out.alloc _)
  have HS1_3 := sEq hW3 (HS1_2.out.alloc _)
  have HS2_3 := sEq hW3 (Str.new _ _ _)
  have hba3 : Below W2.heap.size W2 W3 := by rw [← hW3]; exact balloc (bsame _) _
  have HB_3 := Lib.hid (bstep HB_2.out hba3)
  have hw_3 := HB_3.out.size
  have hws_3 := hba3.size
  have HYa_3 := Lib.hid (HYa_2.out.next hba3)
  have HYb_3 := Lib.hid (HYb_2.out.next hba3)
  clear HYa_2 HYb_2
  clear hW3
  clear f0_2 HS0_2 hf0_2 f1_2 HS1_2 hf1_2
  have f0_3 := str6 HS0_3.out
  have hl0_3 := HS0_3.out.lt
  have hf0_3 := fun j => HS0_3.out.frozen j
  have f1_3 := str6 HS1_3.out
  have hl1_3 := HS1_3.out.lt
  have hf1_3 := fun j => HS1_3.out.frozen j
  have f2_3 := str12 HS2_3.out
  have hl2_3 := HS2_3.out.lt
  refine (much_any (some ⟨W2.heap.size, 0, none⟩) 2 2 W3.heap.size [⟨aa, ak, ad, alo, ahi, an⟩, ⟨ba, bk, bd, blo, bhi, bn⟩] _ (op_lit2 HS2_3.out (op_one HYa_3.out (Nat.le_refl _) hka HIA.out) (op_one HYb_3.out (Nat.le_refl _) hkb HIB.out)) (Nat.le_refl _)).mono ?_
  rintro e W4 ⟨rfl, hb4⟩
  rw [HL.out]
  have HS0_4 := Lib.hid (HS0_3.out.next hb4)
  have HS1_4 := Lib.hid (HS1_3.out.next hb4)
  have HS2_4 := Lib.hid (HS2_3.out.next hb4)
  have HB_4 := Lib.hid (bstep HB_3.out hb4)
  have hw_4 := HB_4.out.size
  have hws_4 := (hb4).size
  have HYa_4 := Lib.hid (HYa_3.out.next hb4)
  have HYb_4 := Lib.hid (HYb_3.out.next hb4)
  clear HYa_3 HYb_3
  clear f0_3 HS0_3 hf0_3 f1_3 HS1_3 hf1_3 f2_3 HS2_3
  clear hb4
  have f0_4 := str6 HS0_4.out
  have hl0_4 := HS0_4.out.lt
  have hf0_4 := fun j => HS0_4.out.frozen j
  have f1_4 := str6 HS1_4.out
  have hl1_4 := HS1_4.out.lt
  have hf1_4 := fun j => HS1_4.out.frozen j
  have f2_4 := str12 HS2_4.out
  have hl2_4 := HS2_4.out.lt
  go_wp2_with fail
  refine (Modes.Swap_any A n c W4.heap.size s aa ak ad alo ahi an Aa na ca W4.heap.size ba bk bd blo bhi bn Ab nb cb W4.heap.size _ (H.out.next HB_4.out) (Nat.le_refl _) HRT.out.2 (Small.mk (by have := HSM.out.1; omega) HSM.out.2) HYa_4.out (Nat.le_refl _) hka HIA.out (by omega) HYb_4.out (Nat.le_refl _) hkb HIB.out (by omega) HSM.out.1).mono ?_
  rintro e W5 ⟨rfl, hb5⟩
  rw [HS.out]
  have HS0_5 := Lib.hid (HS0_4.out.next hb5)
  have HS1_5 := Lib.hid (HS1_4.out.next hb5)
  have HS2_5 := Lib.hid (HS2_4.out.next hb5)
  have HB_5 := Lib.hid (bstep HB_4.out hb5)
  have hw_5 := HB_5.out.size
  have hws_5 := (hb5).size
  have HYa_5 := Lib.hid (HYa_4.out.next hb5)
  have HYb_5 := Lib.hid (HYb_4.out.next hb5)
  clear HYa_4 HYb_4
  clear f0_4 HS0_4 hf0_4 f1_4 HS1_4 hf1_4 f2_4 HS2_4
  clear hb5
  have f0_5 := str6 HS0_5.out
  have hl0_5 := HS0_5.out.lt
  have hf0_5 := fun j => HS0_5.out.frozen j
  have f1_5 := str6 HS1_5.out
  have hl1_5 := HS1_5.out.lt
  have hf1_5 := fun j => HS1_5.out.frozen j
  have f2_5 := str12 HS2_5.out
  have hl2_5 := HS2_5.out.lt
  go_wp2_with fail
  refine (RefModes.Swap_any A n c W5.heap.size s aa ak ad alo ahi an Aa na ca W5.heap.size ba bk bd blo bhi bn Ab nb cb W5.heap.size _ (H.out.next HB_5.out) (Nat.le_refl _) HRT.out HSM.out HYa_5.out (Nat.le_refl _) hka HIA.out.2 (by omega) HYb_5.out (Nat.le_refl _) hkb HIB.out.2 (by omega)).mono ?_
  rintro e W6 ⟨rfl, hb6⟩
  rw [HS.out]
  have HS0_6 := Lib.hid (HS0_5.out.next hb6)
  have HS1_6 := Lib.hid (HS1_5.out.next hb6)
  have HS2_6 := Lib.hid (HS2_5.out.next hb6)
  have HB_6 := Lib.hid (bstep HB_5.out hb6)
  have hw_6 := HB_6.out.size
  have hws_6 := (hb6).size
  have HYa_6 := Lib.hid (HYa_5.out.next hb6)
  have HYb_6 := Lib.hid (HYb_5.out.next hb6)
  clear HYa_5 HYb_5
  clear f0_5 HS0_5 hf0_5 f1_5 HS1_5 hf1_5 f2_5 HS2_5
  clear hb6
  have f0_6 := str6 HS0_6.out
  have hl0_6 := HS0_6.out.lt
  have hf0_6 := fun j => HS0_6.out.frozen j
  have f1_6 := str6 HS1_6.out
  have hl1_6 := HS1_6.out.lt
  have hf1_6 := fun j => HS1_6.out.frozen j
  have f2_6 := str12 HS2_6.out
  have hl2_6 := HS2_6.out.lt
  go_wp2_with fail
  refine (Live10.live_any _ (HT.out.below HB_6.out hg) (Nat.lt_of_lt_of_le hg HB_6.out.size)).mono ?_
  rintro e W7 ⟨rfl, hb7⟩
  have HS0_7 := Lib.hid (HS0_6.out.next hb7)
  have HS1_7 := Lib.hid (HS1_6.out.next hb7)
  have HS2_7 := Lib.hid (HS2_6.out.next hb7)
  have HB_7 := Lib.hid (bstep HB_6.out hb7)
  have hw_7 := HB_7.out.size
  have hws_7 := (hb7).size
  have HYa_7 := Lib.hid (HYa_6.out.next hb7)
  have HYb_7 := Lib.hid (HYb_6.out.next hb7)
  clear HYa_6 HYb_6
  clear f0_6 HS0_6 hf0_6 f1_6 HS1_6 hf1_6 f2_6 HS2_6
  clear hb7
  have f0_7 := str6 HS0_7.out
  have hl0_7 := HS0_7.out.lt
  have hf0_7 := fun j => HS0_7.out.frozen j
  have f1_7 := str6 HS1_7.out
  have hl1_7 := HS1_7.out.lt
  have hf1_7 := fun j => HS1_7.out.frozen j
  have f2_7 := str12 HS2_7.out
  have hl2_7 := HS2_7.out.lt
  go_wp2_with fail
  go_ret
  exact ⟨rfl, HB_7.out⟩
set_option maxRecDepth 100000 in
set_option maxHeartbeats 2000000 in
theorem way_not (A : Option Addr) (n c : Nat) (s : List Pair) (aa : Int) (ak : ByteArray) (ad : List UInt8) (alo ahi an : Int) (Aa : Option Addr) (na ca : Nat) (ba : Int) (bk : ByteArray) (bd : List UInt8) (blo bhi bn : Int) (Ab : Option Addr) (nb cb : Nat) (w : World) (h : Pairs w w.heap.size A n c s) (hya : Bytes w w.heap.size Aa na ca ad) (hka : ak.size ≤ maxLen) (hia : In64 aa ∧ In64 alo ∧ In64 ahi ∧ In64 an) (hyb : Bytes w w.heap.size Ab nb cb bd) (hkb : bk.size ≤ maxLen) (hib : In64 ba ∧ In64 blo ∧ In64 bhi ∧ In64 bn) (hT : Modes.Tab w) (hg : 0 < w.heap.size) (hm : ModelP.muchS s = false) (hr : ModelP.rightB s = true) (hl : ModelP.muchL [⟨aa, ak, ad, alo, ahi, an⟩, ⟨ba, bk, bd, blo, bhi, bn⟩] = false) (hs : ModelP.swapM s ⟨aa, ak, ad, alo, ahi, an⟩ ⟨ba, bk, bd, blo, bhi, bn⟩ = false) (hc : ModesP.commuteM aa ak ba bk = false) :
    Calls Tryd.prog 3 #[.slice A n c, .agg #[.int .i64 aa, .string ak, .slice Aa na ca, .int .i64 alo, .int .i64 ahi, .int .i64 an], .agg #[.int .i64 ba, .string bk, .slice Ab nb cb, .int .i64 blo, .int .i64 bhi, .int .i64 bn]] w fun e w' => e = .returned (.bool true) ∧ Below w.heap.size w w' := by
  have HT := Lib.hid hT
  have H := Lib.hid h
  have HA := Lib.hid hya
  have HBB := Lib.hid hyb
  have HM := Lib.hid hm
  have HIA := Lib.hid hia
  have HIB := Lib.hid hib
  have hnn := (muchS_no' hm).1
  have hln := h.len
  have hn : n ≤ 60 := by omega
  have HR := Lib.hid hr
  have HL := Lib.hid hl
  have hna : na ≤ 300 := by rw [← hya.len]; exact (muchL_no' hl).1
  have hnb : nb ≤ 300 := by rw [← hyb.len]; exact (muchL_no' hl).2
  have HRT := Lib.hid ((ModelP.rightB_iff s).1 hr)
  have HSM : Hid (s.length ≤ 500 ∧ ∀ p ∈ s, p.cell.data.length ≤ 100000) := Lib.hid ⟨by omega, (muchS_no' hm).2⟩
  have HS := Lib.hid hs
  have HC := Lib.hid hc
  clear hT h hya hyb hm hia hib hnn hln hr hl hs hc
  go_enter Tryd.func3, Tryd.ntmps3
  go_wp2_with fail
  generalize hW0 : ((w).alloc (.cells #[.int .i64 aa, .string ak, .slice Aa na ca, .int .i64 alo, .int .i64 ahi, .int .i64 an] 25)).alloc (.cells #[.int .i64 ba, .string bk, .slice Ab nb cb, .int .i64 blo, .int .i64 bhi, .int .i64 bn] 25) = W0
  obtain ⟨HS0_0, HS1_0, HB_0, hw_0, hz0⟩ := new2 hW0
  clear hW0 hz0
  have f0_0 := str6 HS0_0.out
  have hl0_0 := HS0_0.out.lt
  have hf0_0 := fun j => HS0_0.out.frozen j
  have f1_0 := str6 HS1_0.out
  have hl1_0 := HS1_0.out.lt
  have hf1_0 := fun j => HS1_0.out.frozen j
  have HYa_0 := Lib.hid (HA.out.next HB_0.out)
  have HYb_0 := Lib.hid (HBB.out.next HB_0.out)
  refine (muchState_any A n c W0.heap.size s _ (H.out.next HB_0.out) (Nat.le_refl _)).mono ?_
  rintro e W1 ⟨rfl, hb1⟩
  rw [HM.out]
  have HS0_1 := Lib.hid (HS0_0.out.next hb1)
  have HS1_1 := Lib.hid (HS1_0.out.next hb1)
  have HB_1 := Lib.hid (bstep HB_0.out hb1)
  have hw_1 := HB_1.out.size
  have hws_1 := (hb1).size
  have HYa_1 := Lib.hid (HYa_0.out.next hb1)
  have HYb_1 := Lib.hid (HYb_0.out.next hb1)
  clear HYa_0 HYb_0
  clear f0_0 HS0_0 hf0_0 f1_0 HS1_0 hf1_0
  clear hb1
  have f0_1 := str6 HS0_1.out
  have hl0_1 := HS0_1.out.lt
  have hf0_1 := fun j => HS0_1.out.frozen j
  have f1_1 := str6 HS1_1.out
  have hl1_1 := HS1_1.out.lt
  have hf1_1 := fun j => HS1_1.out.frozen j
  go_wp2_with fail
  refine (refRight_any A n c W1.heap.size s _ (H.out.next HB_1.out) (Nat.le_refl _) (by omega)).mono ?_
  rintro e W2 ⟨rfl, hb2⟩
  rw [HR.out]
  have HS0_2 := Lib.hid (HS0_1.out.next hb2)
  have HS1_2 := Lib.hid (HS1_1.out.next hb2)
  have HB_2 := Lib.hid (bstep HB_1.out hb2)
  have hw_2 := HB_2.out.size
  have hws_2 := (hb2).size
  have HYa_2 := Lib.hid (HYa_1.out.next hb2)
  have HYb_2 := Lib.hid (HYb_1.out.next hb2)
  clear HYa_1 HYb_1
  clear f0_1 HS0_1 hf0_1 f1_1 HS1_1 hf1_1
  clear hb2
  have f0_2 := str6 HS0_2.out
  have hl0_2 := HS0_2.out.lt
  have hf0_2 := fun j => HS0_2.out.frozen j
  have f1_2 := str6 HS1_2.out
  have hl1_2 := HS1_2.out.lt
  have hf1_2 := fun j => HS1_2.out.frozen j
  go_wp2_with fail
  generalize hW3 : W2.alloc (.cells #[.int .i64 aa, .string ak, .slice Aa na ca, .int .i64 alo, .int .i64 ahi, .int .i64 an, .int .i64 ba, .string bk, .slice Ab nb cb, .int .i64 blo, .int .i64 bhi, .int .i64 bn] 25) = W3
  have HS0_3 := sEq hW3 (HS0_2.out.alloc _)
  have HS1_3 := sEq hW3 (HS1_2.out.alloc _)
  have HS2_3 := sEq hW3 (Str.new _ _ _)
  have hba3 : Below W2.heap.size W2 W3 := by rw [← hW3]; exact balloc (bsame _) _
  have HB_3 := Lib.hid (bstep HB_2.out hba3)
  have hw_3 := HB_3.out.size
  have hws_3 := hba3.size
  have HYa_3 := Lib.hid (HYa_2.out.next hba3)
  have HYb_3 := Lib.hid (HYb_2.out.next hba3)
  clear HYa_2 HYb_2
  clear hW3
  clear f0_2 HS0_2 hf0_2 f1_2 HS1_2 hf1_2
  have f0_3 := str6 HS0_3.out
  have hl0_3 := HS0_3.out.lt
  have hf0_3 := fun j => HS0_3.out.frozen j
  have f1_3 := str6 HS1_3.out
  have hl1_3 := HS1_3.out.lt
  have hf1_3 := fun j => HS1_3.out.frozen j
  have f2_3 := str12 HS2_3.out
  have hl2_3 := HS2_3.out.lt
  refine (much_any (some ⟨W2.heap.size, 0, none⟩) 2 2 W3.heap.size [⟨aa, ak, ad, alo, ahi, an⟩, ⟨ba, bk, bd, blo, bhi, bn⟩] _ (op_lit2 HS2_3.out (op_one HYa_3.out (Nat.le_refl _) hka HIA.out) (op_one HYb_3.out (Nat.le_refl _) hkb HIB.out)) (Nat.le_refl _)).mono ?_
  rintro e W4 ⟨rfl, hb4⟩
  rw [HL.out]
  have HS0_4 := Lib.hid (HS0_3.out.next hb4)
  have HS1_4 := Lib.hid (HS1_3.out.next hb4)
  have HS2_4 := Lib.hid (HS2_3.out.next hb4)
  have HB_4 := Lib.hid (bstep HB_3.out hb4)
  have hw_4 := HB_4.out.size
  have hws_4 := (hb4).size
  have HYa_4 := Lib.hid (HYa_3.out.next hb4)
  have HYb_4 := Lib.hid (HYb_3.out.next hb4)
  clear HYa_3 HYb_3
  clear f0_3 HS0_3 hf0_3 f1_3 HS1_3 hf1_3 f2_3 HS2_3
  clear hb4
  have f0_4 := str6 HS0_4.out
  have hl0_4 := HS0_4.out.lt
  have hf0_4 := fun j => HS0_4.out.frozen j
  have f1_4 := str6 HS1_4.out
  have hl1_4 := HS1_4.out.lt
  have hf1_4 := fun j => HS1_4.out.frozen j
  have f2_4 := str12 HS2_4.out
  have hl2_4 := HS2_4.out.lt
  go_wp2_with fail
  refine (Modes.Swap_any A n c W4.heap.size s aa ak ad alo ahi an Aa na ca W4.heap.size ba bk bd blo bhi bn Ab nb cb W4.heap.size _ (H.out.next HB_4.out) (Nat.le_refl _) HRT.out.2 (Small.mk (by have := HSM.out.1; omega) HSM.out.2) HYa_4.out (Nat.le_refl _) hka HIA.out (by omega) HYb_4.out (Nat.le_refl _) hkb HIB.out (by omega) HSM.out.1).mono ?_
  rintro e W5 ⟨rfl, hb5⟩
  rw [HS.out]
  have HS0_5 := Lib.hid (HS0_4.out.next hb5)
  have HS1_5 := Lib.hid (HS1_4.out.next hb5)
  have HS2_5 := Lib.hid (HS2_4.out.next hb5)
  have HB_5 := Lib.hid (bstep HB_4.out hb5)
  have hw_5 := HB_5.out.size
  have hws_5 := (hb5).size
  have HYa_5 := Lib.hid (HYa_4.out.next hb5)
  have HYb_5 := Lib.hid (HYb_4.out.next hb5)
  clear HYa_4 HYb_4
  clear f0_4 HS0_4 hf0_4 f1_4 HS1_4 hf1_4 f2_4 HS2_4
  clear hb5
  have f0_5 := str6 HS0_5.out
  have hl0_5 := HS0_5.out.lt
  have hf0_5 := fun j => HS0_5.out.frozen j
  have f1_5 := str6 HS1_5.out
  have hl1_5 := HS1_5.out.lt
  have hf1_5 := fun j => HS1_5.out.frozen j
  have f2_5 := str12 HS2_5.out
  have hl2_5 := HS2_5.out.lt
  go_wp2_with fail
  refine (RefModes.Swap_any A n c W5.heap.size s aa ak ad alo ahi an Aa na ca W5.heap.size ba bk bd blo bhi bn Ab nb cb W5.heap.size _ (H.out.next HB_5.out) (Nat.le_refl _) HRT.out HSM.out HYa_5.out (Nat.le_refl _) hka HIA.out.2 (by omega) HYb_5.out (Nat.le_refl _) hkb HIB.out.2 (by omega)).mono ?_
  rintro e W6 ⟨rfl, hb6⟩
  rw [HS.out]
  have HS0_6 := Lib.hid (HS0_5.out.next hb6)
  have HS1_6 := Lib.hid (HS1_5.out.next hb6)
  have HS2_6 := Lib.hid (HS2_5.out.next hb6)
  have HB_6 := Lib.hid (bstep HB_5.out hb6)
  have hw_6 := HB_6.out.size
  have hws_6 := (hb6).size
  have HYa_6 := Lib.hid (HYa_5.out.next hb6)
  have HYb_6 := Lib.hid (HYb_5.out.next hb6)
  clear HYa_5 HYb_5
  clear f0_5 HS0_5 hf0_5 f1_5 HS1_5 hf1_5 f2_5 HS2_5
  clear hb6
  have f0_6 := str6 HS0_6.out
  have hl0_6 := HS0_6.out.lt
  have hf0_6 := fun j => HS0_6.out.frozen j
  have f1_6 := str6 HS1_6.out
  have hl1_6 := HS1_6.out.lt
  have hf1_6 := fun j => HS1_6.out.frozen j
  have f2_6 := str12 HS2_6.out
  have hl2_6 := HS2_6.out.lt
  go_wp2_with fail
  refine (Modes.commute_any aa ba ak bk _ _ _ _ _ _ _ _ _ (HT.out.below HB_6.out hg) (Nat.lt_of_lt_of_le hg HB_6.out.size)).mono ?_
  rintro e W7 ⟨rfl, hb7⟩
  rw [HC.out]
  have HS0_7 := Lib.hid (HS0_6.out.next hb7)
  have HS1_7 := Lib.hid (HS1_6.out.next hb7)
  have HS2_7 := Lib.hid (HS2_6.out.next hb7)
  have HB_7 := Lib.hid (bstep HB_6.out hb7)
  have hw_7 := HB_7.out.size
  have hws_7 := (hb7).size
  have HYa_7 := Lib.hid (HYa_6.out.next hb7)
  have HYb_7 := Lib.hid (HYb_6.out.next hb7)
  clear HYa_6 HYb_6
  clear f0_6 HS0_6 hf0_6 f1_6 HS1_6 hf1_6 f2_6 HS2_6
  clear hb7
  have f0_7 := str6 HS0_7.out
  have hl0_7 := HS0_7.out.lt
  have hf0_7 := fun j => HS0_7.out.frozen j
  have f1_7 := str6 HS1_7.out
  have hl1_7 := HS1_7.out.lt
  have hf1_7 := fun j => HS1_7.out.frozen j
  have f2_7 := str12 HS2_7.out
  have hl2_7 := HS2_7.out.lt
  go_wp2_with fail
  refine (Live10.live_any _ (HT.out.below HB_7.out hg) (Nat.lt_of_lt_of_le hg HB_7.out.size)).mono ?_
  rintro e W8 ⟨rfl, hb8⟩
  have HS0_8 := Lib.hid (HS0_7.out.next hb8)
  have HS1_8 := Lib.hid (HS1_7.out.next hb8)
  have HS2_8 := Lib.hid (HS2_7.out.next hb8)
  have HB_8 := Lib.hid (bstep HB_7.out hb8)
  have hw_8 := HB_8.out.size
  have hws_8 := (hb8).size
  have HYa_8 := Lib.hid (HYa_7.out.next hb8)
  have HYb_8 := Lib.hid (HYb_7.out.next hb8)
  clear HYa_7 HYb_7
  clear f0_7 HS0_7 hf0_7 f1_7 HS1_7 hf1_7 f2_7 HS2_7
  clear hb8
  have f0_8 := str6 HS0_8.out
  have hl0_8 := HS0_8.out.lt
  have hf0_8 := fun j => HS0_8.out.frozen j
  have f1_8 := str6 HS1_8.out
  have hl1_8 := HS1_8.out.lt
  have hf1_8 := fun j => HS1_8.out.frozen j
  have f2_8 := str12 HS2_8.out
  have hl2_8 := HS2_8.out.lt
  go_wp2_with fail
  go_ret
  exact ⟨rfl, HB_8.out⟩
set_option maxRecDepth 100000 in
set_option maxHeartbeats 2000000 in
theorem way_tight (A : Option Addr) (n c : Nat) (s : List Pair) (aa : Int) (ak : ByteArray) (ad : List UInt8) (alo ahi an : Int) (Aa : Option Addr) (na ca : Nat) (ba : Int) (bk : ByteArray) (bd : List UInt8) (blo bhi bn : Int) (Ab : Option Addr) (nb cb : Nat) (w : World) (h : Pairs w w.heap.size A n c s) (hya : Bytes w w.heap.size Aa na ca ad) (hka : ak.size ≤ maxLen) (hia : In64 aa ∧ In64 alo ∧ In64 ahi ∧ In64 an) (hyb : Bytes w w.heap.size Ab nb cb bd) (hkb : bk.size ≤ maxLen) (hib : In64 ba ∧ In64 blo ∧ In64 bhi ∧ In64 bn) (hT : Modes.Tab w) (hg : 0 < w.heap.size) (hm : ModelP.muchS s = false) (hr : ModelP.rightB s = true) (hl : ModelP.muchL [⟨aa, ak, ad, alo, ahi, an⟩, ⟨ba, bk, bd, blo, bhi, bn⟩] = false) (hs : ModelP.swapM s ⟨aa, ak, ad, alo, ahi, an⟩ ⟨ba, bk, bd, blo, bhi, bn⟩ = false) (hc : ModesP.commuteM aa ak ba bk = true) (ht : ModelP.tightM s ⟨aa, ak, ad, alo, ahi, an⟩ ⟨ba, bk, bd, blo, bhi, bn⟩ = false) :
    Calls Tryd.prog 3 #[.slice A n c, .agg #[.int .i64 aa, .string ak, .slice Aa na ca, .int .i64 alo, .int .i64 ahi, .int .i64 an], .agg #[.int .i64 ba, .string bk, .slice Ab nb cb, .int .i64 blo, .int .i64 bhi, .int .i64 bn]] w fun e w' => e = .returned (.bool true) ∧ Below w.heap.size w w' := by
  have HT := Lib.hid hT
  have H := Lib.hid h
  have HA := Lib.hid hya
  have HBB := Lib.hid hyb
  have HM := Lib.hid hm
  have HIA := Lib.hid hia
  have HIB := Lib.hid hib
  have hnn := (muchS_no' hm).1
  have hln := h.len
  have hn : n ≤ 60 := by omega
  have HR := Lib.hid hr
  have HL := Lib.hid hl
  have hna : na ≤ 300 := by rw [← hya.len]; exact (muchL_no' hl).1
  have hnb : nb ≤ 300 := by rw [← hyb.len]; exact (muchL_no' hl).2
  have HRT := Lib.hid ((ModelP.rightB_iff s).1 hr)
  have HSM : Hid (s.length ≤ 500 ∧ ∀ p ∈ s, p.cell.data.length ≤ 100000) := Lib.hid ⟨by omega, (muchS_no' hm).2⟩
  have HS := Lib.hid hs
  have HC := Lib.hid hc
  have HTI := Lib.hid ht
  clear hT h hya hyb hm hia hib hnn hln hr hl hs hc ht
  go_enter Tryd.func3, Tryd.ntmps3
  go_wp2_with fail
  generalize hW0 : ((w).alloc (.cells #[.int .i64 aa, .string ak, .slice Aa na ca, .int .i64 alo, .int .i64 ahi, .int .i64 an] 25)).alloc (.cells #[.int .i64 ba, .string bk, .slice Ab nb cb, .int .i64 blo, .int .i64 bhi, .int .i64 bn] 25) = W0
  obtain ⟨HS0_0, HS1_0, HB_0, hw_0, hz0⟩ := new2 hW0
  clear hW0 hz0
  have f0_0 := str6 HS0_0.out
  have hl0_0 := HS0_0.out.lt
  have hf0_0 := fun j => HS0_0.out.frozen j
  have f1_0 := str6 HS1_0.out
  have hl1_0 := HS1_0.out.lt
  have hf1_0 := fun j => HS1_0.out.frozen j
  have HYa_0 := Lib.hid (HA.out.next HB_0.out)
  have HYb_0 := Lib.hid (HBB.out.next HB_0.out)
  refine (muchState_any A n c W0.heap.size s _ (H.out.next HB_0.out) (Nat.le_refl _)).mono ?_
  rintro e W1 ⟨rfl, hb1⟩
  rw [HM.out]
  have HS0_1 := Lib.hid (HS0_0.out.next hb1)
  have HS1_1 := Lib.hid (HS1_0.out.next hb1)
  have HB_1 := Lib.hid (bstep HB_0.out hb1)
  have hw_1 := HB_1.out.size
  have hws_1 := (hb1).size
  have HYa_1 := Lib.hid (HYa_0.out.next hb1)
  have HYb_1 := Lib.hid (HYb_0.out.next hb1)
  clear HYa_0 HYb_0
  clear f0_0 HS0_0 hf0_0 f1_0 HS1_0 hf1_0
  clear hb1
  have f0_1 := str6 HS0_1.out
  have hl0_1 := HS0_1.out.lt
  have hf0_1 := fun j => HS0_1.out.frozen j
  have f1_1 := str6 HS1_1.out
  have hl1_1 := HS1_1.out.lt
  have hf1_1 := fun j => HS1_1.out.frozen j
  go_wp2_with fail
  refine (refRight_any A n c W1.heap.size s _ (H.out.next HB_1.out) (Nat.le_refl _) (by omega)).mono ?_
  rintro e W2 ⟨rfl, hb2⟩
  rw [HR.out]
  have HS0_2 := Lib.hid (HS0_1.out.next hb2)
  have HS1_2 := Lib.hid (HS1_1.out.next hb2)
  have HB_2 := Lib.hid (bstep HB_1.out hb2)
  have hw_2 := HB_2.out.size
  have hws_2 := (hb2).size
  have HYa_2 := Lib.hid (HYa_1.out.next hb2)
  have HYb_2 := Lib.hid (HYb_1.out.next hb2)
  clear HYa_1 HYb_1
  clear f0_1 HS0_1 hf0_1 f1_1 HS1_1 hf1_1
  clear hb2
  have f0_2 := str6 HS0_2.out
  have hl0_2 := HS0_2.out.lt
  have hf0_2 := fun j => HS0_2.out.frozen j
  have f1_2 := str6 HS1_2.out
  have hl1_2 := HS1_2.out.lt
  have hf1_2 := fun j => HS1_2.out.frozen j
  go_wp2_with fail
  generalize hW3 : W2.alloc (.cells #[.int .i64 aa, .string ak, .slice Aa na ca, .int .i64 alo, .int .i64 ahi, .int .i64 an, .int .i64 ba, .string bk, .slice Ab nb cb, .int .i64 blo, .int .i64 bhi, .int .i64 bn] 25) = W3
  have HS0_3 := sEq hW3 (HS0_2.out.alloc _)
  have HS1_3 := sEq hW3 (HS1_2.out.alloc _)
  have HS2_3 := sEq hW3 (Str.new _ _ _)
  have hba3 : Below W2.heap.size W2 W3 := by rw [← hW3]; exact balloc (bsame _) _
  have HB_3 := Lib.hid (bstep HB_2.out hba3)
  have hw_3 := HB_3.out.size
  have hws_3 := hba3.size
  have HYa_3 := Lib.hid (HYa_2.out.next hba3)
  have HYb_3 := Lib.hid (HYb_2.out.next hba3)
  clear HYa_2 HYb_2
  clear hW3
  clear f0_2 HS0_2 hf0_2 f1_2 HS1_2 hf1_2
  have f0_3 := str6 HS0_3.out
  have hl0_3 := HS0_3.out.lt
  have hf0_3 := fun j => HS0_3.out.frozen j
  have f1_3 := str6 HS1_3.out
  have hl1_3 := HS1_3.out.lt
  have hf1_3 := fun j => HS1_3.out.frozen j
  have f2_3 := str12 HS2_3.out
  have hl2_3 := HS2_3.out.lt
  refine (much_any (some ⟨W2.heap.size, 0, none⟩) 2 2 W3.heap.size [⟨aa, ak, ad, alo, ahi, an⟩, ⟨ba, bk, bd, blo, bhi, bn⟩] _ (op_lit2 HS2_3.out (op_one HYa_3.out (Nat.le_refl _) hka HIA.out) (op_one HYb_3.out (Nat.le_refl _) hkb HIB.out)) (Nat.le_refl _)).mono ?_
  rintro e W4 ⟨rfl, hb4⟩
  rw [HL.out]
  have HS0_4 := Lib.hid (HS0_3.out.next hb4)
  have HS1_4 := Lib.hid (HS1_3.out.next hb4)
  have HS2_4 := Lib.hid (HS2_3.out.next hb4)
  have HB_4 := Lib.hid (bstep HB_3.out hb4)
  have hw_4 := HB_4.out.size
  have hws_4 := (hb4).size
  have HYa_4 := Lib.hid (HYa_3.out.next hb4)
  have HYb_4 := Lib.hid (HYb_3.out.next hb4)
  clear HYa_3 HYb_3
  clear f0_3 HS0_3 hf0_3 f1_3 HS1_3 hf1_3 f2_3 HS2_3
  clear hb4
  have f0_4 := str6 HS0_4.out
  have hl0_4 := HS0_4.out.lt
  have hf0_4 := fun j => HS0_4.out.frozen j
  have f1_4 := str6 HS1_4.out
  have hl1_4 := HS1_4.out.lt
  have hf1_4 := fun j => HS1_4.out.frozen j
  have f2_4 := str12 HS2_4.out
  have hl2_4 := HS2_4.out.lt
  go_wp2_with fail
  refine (Modes.Swap_any A n c W4.heap.size s aa ak ad alo ahi an Aa na ca W4.heap.size ba bk bd blo bhi bn Ab nb cb W4.heap.size _ (H.out.next HB_4.out) (Nat.le_refl _) HRT.out.2 (Small.mk (by have := HSM.out.1; omega) HSM.out.2) HYa_4.out (Nat.le_refl _) hka HIA.out (by omega) HYb_4.out (Nat.le_refl _) hkb HIB.out (by omega) HSM.out.1).mono ?_
  rintro e W5 ⟨rfl, hb5⟩
  rw [HS.out]
  have HS0_5 := Lib.hid (HS0_4.out.next hb5)
  have HS1_5 := Lib.hid (HS1_4.out.next hb5)
  have HS2_5 := Lib.hid (HS2_4.out.next hb5)
  have HB_5 := Lib.hid (bstep HB_4.out hb5)
  have hw_5 := HB_5.out.size
  have hws_5 := (hb5).size
  have HYa_5 := Lib.hid (HYa_4.out.next hb5)
  have HYb_5 := Lib.hid (HYb_4.out.next hb5)
  clear HYa_4 HYb_4
  clear f0_4 HS0_4 hf0_4 f1_4 HS1_4 hf1_4 f2_4 HS2_4
  clear hb5
  have f0_5 := str6 HS0_5.out
  have hl0_5 := HS0_5.out.lt
  have hf0_5 := fun j => HS0_5.out.frozen j
  have f1_5 := str6 HS1_5.out
  have hl1_5 := HS1_5.out.lt
  have hf1_5 := fun j => HS1_5.out.frozen j
  have f2_5 := str12 HS2_5.out
  have hl2_5 := HS2_5.out.lt
  go_wp2_with fail
  refine (RefModes.Swap_any A n c W5.heap.size s aa ak ad alo ahi an Aa na ca W5.heap.size ba bk bd blo bhi bn Ab nb cb W5.heap.size _ (H.out.next HB_5.out) (Nat.le_refl _) HRT.out HSM.out HYa_5.out (Nat.le_refl _) hka HIA.out.2 (by omega) HYb_5.out (Nat.le_refl _) hkb HIB.out.2 (by omega)).mono ?_
  rintro e W6 ⟨rfl, hb6⟩
  rw [HS.out]
  have HS0_6 := Lib.hid (HS0_5.out.next hb6)
  have HS1_6 := Lib.hid (HS1_5.out.next hb6)
  have HS2_6 := Lib.hid (HS2_5.out.next hb6)
  have HB_6 := Lib.hid (bstep HB_5.out hb6)
  have hw_6 := HB_6.out.size
  have hws_6 := (hb6).size
  have HYa_6 := Lib.hid (HYa_5.out.next hb6)
  have HYb_6 := Lib.hid (HYb_5.out.next hb6)
  clear HYa_5 HYb_5
  clear f0_5 HS0_5 hf0_5 f1_5 HS1_5 hf1_5 f2_5 HS2_5
  clear hb6
  have f0_6 := str6 HS0_6.out
  have hl0_6 := HS0_6.out.lt
  have hf0_6 := fun j => HS0_6.out.frozen j
  have f1_6 := str6 HS1_6.out
  have hl1_6 := HS1_6.out.lt
  have hf1_6 := fun j => HS1_6.out.frozen j
  have f2_6 := str12 HS2_6.out
  have hl2_6 := HS2_6.out.lt
  go_wp2_with fail
  refine (Modes.commute_any aa ba ak bk _ _ _ _ _ _ _ _ _ (HT.out.below HB_6.out hg) (Nat.lt_of_lt_of_le hg HB_6.out.size)).mono ?_
  rintro e W7 ⟨rfl, hb7⟩
  rw [HC.out]
  have HS0_7 := Lib.hid (HS0_6.out.next hb7)
  have HS1_7 := Lib.hid (HS1_6.out.next hb7)
  have HS2_7 := Lib.hid (HS2_6.out.next hb7)
  have HB_7 := Lib.hid (bstep HB_6.out hb7)
  have hw_7 := HB_7.out.size
  have hws_7 := (hb7).size
  have HYa_7 := Lib.hid (HYa_6.out.next hb7)
  have HYb_7 := Lib.hid (HYb_6.out.next hb7)
  clear HYa_6 HYb_6
  clear f0_6 HS0_6 hf0_6 f1_6 HS1_6 hf1_6 f2_6 HS2_6
  clear hb7
  have f0_7 := str6 HS0_7.out
  have hl0_7 := HS0_7.out.lt
  have hf0_7 := fun j => HS0_7.out.frozen j
  have f1_7 := str6 HS1_7.out
  have hl1_7 := HS1_7.out.lt
  have hf1_7 := fun j => HS1_7.out.frozen j
  have f2_7 := str12 HS2_7.out
  have hl2_7 := HS2_7.out.lt
  go_wp2_with fail
  refine (RefModes.Tight_any A n c W7.heap.size s aa ak ad alo ahi an Aa na ca W7.heap.size ba bk bd blo bhi bn Ab nb cb W7.heap.size _ (H.out.next HB_7.out) (Nat.le_refl _) HRT.out HSM.out HYa_7.out (Nat.le_refl _) hka HIA.out.2 (by omega) HYb_7.out (Nat.le_refl _) hkb HIB.out.2 (by omega)).mono ?_
  rintro e W8 ⟨rfl, hb8⟩
  rw [HTI.out]
  have HS0_8 := Lib.hid (HS0_7.out.next hb8)
  have HS1_8 := Lib.hid (HS1_7.out.next hb8)
  have HS2_8 := Lib.hid (HS2_7.out.next hb8)
  have HB_8 := Lib.hid (bstep HB_7.out hb8)
  have hw_8 := HB_8.out.size
  have hws_8 := (hb8).size
  have HYa_8 := Lib.hid (HYa_7.out.next hb8)
  have HYb_8 := Lib.hid (HYb_7.out.next hb8)
  clear HYa_7 HYb_7
  clear f0_7 HS0_7 hf0_7 f1_7 HS1_7 hf1_7 f2_7 HS2_7
  clear hb8
  have f0_8 := str6 HS0_8.out
  have hl0_8 := HS0_8.out.lt
  have hf0_8 := fun j => HS0_8.out.frozen j
  have f1_8 := str6 HS1_8.out
  have hl1_8 := HS1_8.out.lt
  have hf1_8 := fun j => HS1_8.out.frozen j
  have f2_8 := str12 HS2_8.out
  have hl2_8 := HS2_8.out.lt
  go_wp2_with fail
  refine (Live10.live_any _ (HT.out.below HB_8.out hg) (Nat.lt_of_lt_of_le hg HB_8.out.size)).mono ?_
  rintro e W9 ⟨rfl, hb9⟩
  have HS0_9 := Lib.hid (HS0_8.out.next hb9)
  have HS1_9 := Lib.hid (HS1_8.out.next hb9)
  have HS2_9 := Lib.hid (HS2_8.out.next hb9)
  have HB_9 := Lib.hid (bstep HB_8.out hb9)
  have hw_9 := HB_9.out.size
  have hws_9 := (hb9).size
  have HYa_9 := Lib.hid (HYa_8.out.next hb9)
  have HYb_9 := Lib.hid (HYb_8.out.next hb9)
  clear HYa_8 HYb_8
  clear f0_8 HS0_8 hf0_8 f1_8 HS1_8 hf1_8 f2_8 HS2_8
  clear hb9
  have f0_9 := str6 HS0_9.out
  have hl0_9 := HS0_9.out.lt
  have hf0_9 := fun j => HS0_9.out.frozen j
  have f1_9 := str6 HS1_9.out
  have hl1_9 := HS1_9.out.lt
  have hf1_9 := fun j => HS1_9.out.frozen j
  have f2_9 := str12 HS2_9.out
  have hl2_9 := HS2_9.out.lt
  go_wp2_with fail
  go_ret
  exact ⟨rfl, HB_9.out⟩
theorem walk (v0 v1 v2 : Value) (a0 : List Pair) (a1 a2 : OpX) (w : World) (g0 : RPairs w w.heap.size v0 a0) (g1 : ROp w w.heap.size v1 a1) (g2 : ROp w w.heap.size v2 a2) (hT : Modes.Tab w) (hg : 0 < w.heap.size) :
    Calls Tryd.prog 3 #[v0, v1, v2] w fun e w' => e = .returned (.bool true) ∧ Below w.heap.size w w' := by
  obtain ⟨A, n, c, rfl, h⟩ := g0
  obtain ⟨Aa, na, ca, rfl, hya, hka, h1, h2, h3, h4⟩ := g1
  obtain ⟨Ab, nb, cb, rfl, hyb, hkb, h5, h6, h7, h8⟩ := g2
  obtain ⟨aa, ak, ad, alo, ahi, an⟩ := a1
  obtain ⟨ba, bk, bd, blo, bhi, bn⟩ := a2
  have hia : In64 aa ∧ In64 alo ∧ In64 ahi ∧ In64 an := ⟨h1, h2, h3, h4⟩
  have hib : In64 ba ∧ In64 blo ∧ In64 bhi ∧ In64 bn := ⟨h5, h6, h7, h8⟩
  generalize a0 = s at *
  cases hm : ModelP.muchS s with
  | true => exact way_muchS A n c s aa ak ad alo ahi an Aa na ca ba bk bd blo bhi bn Ab nb cb w h hya hka hia hyb hkb hib hT hg hm
  | false =>
    cases hr : ModelP.rightB s with
    | false => exact way_wrong A n c s aa ak ad alo ahi an Aa na ca ba bk bd blo bhi bn Ab nb cb w h hya hka hia hyb hkb hib hT hg hm hr
    | true =>
      cases hl : ModelP.muchL [⟨aa, ak, ad, alo, ahi, an⟩, ⟨ba, bk, bd, blo, bhi, bn⟩] with
      | true => exact way_muchL A n c s aa ak ad alo ahi an Aa na ca ba bk bd blo bhi bn Ab nb cb w h hya hka hia hyb hkb hib hT hg hm hr hl
      | false =>
        cases hs : ModelP.swapM s ⟨aa, ak, ad, alo, ahi, an⟩ ⟨ba, bk, bd, blo, bhi, bn⟩ with
        | true => exact way_yes A n c s aa ak ad alo ahi an Aa na ca ba bk bd blo bhi bn Ab nb cb w h hya hka hia hyb hkb hib hT hg hm hr hl hs
        | false =>
          cases hc : ModesP.commuteM aa ak ba bk with
          | false => exact way_not A n c s aa ak ad alo ahi an Aa na ca ba bk bd blo bhi bn Ab nb cb w h hya hka hia hyb hkb hib hT hg hm hr hl hs hc
          | true =>
            refine way_tight A n c s aa ak ad alo ahi an Aa na ca ba bk bd blo bhi bn Ab nb cb w h hya hka hia hyb hkb hib hT hg hm hr hl hs hc ?_
            cases ht : ModelP.tightM s ⟨aa, ak, ad, alo, ahi, an⟩ ⟨ba, bk, bd, blo, bhi, bn⟩ with
            | false => rfl
            | true =>
              have h9 := ModelP.commute_swap (s := s) (a := ⟨aa, ak, ad, alo, ahi, an⟩) (b := ⟨ba, bk, bd, blo, bhi, bn⟩) ((ModelP.rightB_iff s).1 hr).2 hc ht
              rw [hs] at h9
              cases h9
end Go.Proofs.YtghgccgpgonlmaaDoor.modesSwaps
