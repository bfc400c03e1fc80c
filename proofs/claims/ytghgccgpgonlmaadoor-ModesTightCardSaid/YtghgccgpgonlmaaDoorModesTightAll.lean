/-
  The walk of the law, with the texts that it alone needs: Modes, Live10, Tab, PTight, ModesLit, ModesOne, ModesSwap, ModesTightW.
-/
import Derived.Test.YtghgccgpgonlmaaDoorProg
import Derived.Test.YtghgccgpgonlmaaDoorMem
import Derived.Test.YtghgccgpgonlmaaDoorPModes
import Derived.Test.YtghgccgpgonlmaaDoorRows
import Derived.OpenShut
import Derived.LaidLaws
import Derived.ChangeArms
import Derived.Test.YtghgccgpgonlmaaDoorPModel
import Derived.Test.YtghgccgpgonlmaaDoorModelR
import Derived.Test.YtghgccgpgonlmaaDoorOpenM
import Derived.Test.YtghgccgpgonlmaaDoorModelI
import Derived.Test.YtghgccgpgonlmaaDoorRegC
namespace Go.Proofs.YtghgccgpgonlmaaDoor.Modes
open Go.RowKit

/-- the table of package modes lies as its initialiser lays it -/
def Tab (w : World) : Prop := ∀ a b : Nat, a < 4 → b < 4 → w.cell? ⟨0, a * 4 + b, none⟩ = some (.bool (ModesP.compat a b))
theorem Tab.lt {w : World} (h : Tab w) : 0 < w.heap.size := lt_of_cell (h 0 0 (by decide) (by decide))
theorem Tab.below {B : Nat} {w w' : World} (h : Tab w) (hb : Below B w w') (hB : 0 < B) : Tab w' := fun a b ha hb' => (hb.cell (p := ⟨0, a * 4 + b, none⟩) hB).trans (h a b ha hb')

set_option maxHeartbeats 400000 in
theorem is_any (m : Int) (w : World) :
    Calls Tryd.prog 24 #[.int .i64 m] w fun e w' => e = .returned (.bool (ModesP.isM m)) ∧ w = w' := by
  unfold ModesP.isM
  go_enter Tryd.func24, Tryd.ntmps24
  go_wp2
  all_goals go_ret
  all_goals simp_all
  all_goals omega

theorem isM_yes (m : Int) (h0 : 0 ≤ m) (h1 : m < 4) : ModesP.isM m = true := by simp [ModesP.isM, h0, h1]
theorem isM_no (m : Int) (h : m < 0 ∨ 4 ≤ m) : ModesP.isM m = false := by
  unfold ModesP.isM
  rcases h with h | h
  · rw [decide_eq_false (by omega : ¬ 0 ≤ m)]; rfl
  · rw [decide_eq_false (by omega : ¬ m < 4), Bool.and_false]
theorem compat_no (a b : Int) (h : a < 0 ∨ 4 ≤ a ∨ b < 0 ∨ 4 ≤ b) : ModesP.compat a b = false := by
  cases hc : ModesP.compat a b
  · rfl
  · simp [ModesP.compat] at hc
    omega

set_option maxHeartbeats 400000 in
theorem compat_any (a b : Int) (w : World) (hT : Tab w) :
    Calls Tryd.prog 13 #[.int .i64 a, .int .i64 b] w fun e w' => e = .returned (.bool (ModesP.compat a b)) ∧ w = w' := by
  have HT := Lib.hid hT
  clear hT
  by_cases ha : 0 ≤ a ∧ a < 4
  · have ia := isM_yes a ha.1 ha.2
    by_cases hb : 0 ≤ b ∧ b < 4
    · have ib := isM_yes b hb.1 hb.2
      obtain ⟨n, rfl⟩ := Int.eq_ofNat_of_zero_le ha.1
      obtain ⟨m, rfl⟩ := Int.eq_ofNat_of_zero_le hb.1
      have hn : n < 4 := by omega
      have hm : m < 4 := by omega
      have hc := HT.out n m hn hm
      clear ha hb
      go_enter Tryd.func13, Tryd.ntmps13
      go_wp2_with (go_at_call 24; refine (is_any _ _).mono ?_; rintro e w' ⟨rfl, rfl⟩)
      go_ret
      exact ⟨rfl, rfl⟩
    · have ib := isM_no b (by omega)
      have HC := Lib.hid (compat_no a b (by omega))
      go_enter Tryd.func13, Tryd.ntmps13
      go_wp2_with (go_at_call 24; refine (is_any _ _).mono ?_; rintro e w' ⟨rfl, rfl⟩)
      go_ret
      rw [HC.out]
      exact ⟨rfl, rfl⟩
  · have ia := isM_no a (by omega)
    have HC := Lib.hid (compat_no a b (by omega))
    go_enter Tryd.func13, Tryd.ntmps13
    go_wp2_with (go_at_call 24; refine (is_any _ _).mono ?_; rintro e w' ⟨rfl, rfl⟩)
    go_ret
    rw [HC.out]
    exact ⟨rfl, rfl⟩

theorem or_at (s m : Int) (k : Nat) (h0 : 0 ≤ s) (h1 : s < 16) (hk : k < 16) (hm : ModesP.bitOf m = k) : bits .or .i64 s (k : Int) = ModesP.withM s m := by
  obtain ⟨n, rfl⟩ := Int.eq_ofNat_of_zero_le h0
  rw [ModesP.or_i64 n k (by omega) hk, ModesP.withM, hm, Int.toNat_natCast]
theorem and_at (s m : Int) (k : Nat) (h0 : 0 ≤ s) (h1 : s < 16) (hk : k < 16) (hm : ModesP.bitOf m = k) : (bits .and .i64 s (k : Int) != 0) = ModesP.hasM s m := by
  obtain ⟨n, rfl⟩ := Int.eq_ofNat_of_zero_le h0
  rw [ModesP.and_i64 n k (by omega) hk, ModesP.hasM, hm, Int.toNat_natCast, Bool.eq_iff_iff]
  simp

theorem fits_stop (s m : Int) (k j : Nat) (h : ModesP.hasM s k = true) (hc : ModesP.compat k m = false) (hk : k < j) : ModesP.fitsUpto s m j = false := by
  induction j with
  | zero => omega
  | succ j ih =>
    rcases Nat.lt_or_eq_of_le (Nat.le_of_lt_succ hk) with hl | rfl
    · simp [ModesP.fitsUpto, ih hl]
    · simp [ModesP.fitsUpto, h, hc]

set_option maxHeartbeats 400000 in
theorem of_any (d : Int) (w : World) :
    Calls Tryd.prog 23 #[.int .i64 d] w fun e w' => e = .returned (.int .i64 (ModesP.ofDo d)) ∧ w = w' := by
  unfold ModesP.ofDo
  by_cases h0 : d = 0
  · subst h0
    go_enter Tryd.func23, Tryd.ntmps23
    go_wp2
    go_ret
    exact ⟨rfl, rfl⟩
  by_cases h1 : d = 1
  · subst h1
    go_enter Tryd.func23, Tryd.ntmps23
    go_wp2
    go_ret
    exact ⟨rfl, rfl⟩
  by_cases h2 : d = 2
  · subst h2
    go_enter Tryd.func23, Tryd.ntmps23
    go_wp2
    go_ret
    exact ⟨rfl, rfl⟩
  by_cases h3 : d = 3
  · subst h3
    go_enter Tryd.func23, Tryd.ntmps23
    go_wp2
    go_ret
    exact ⟨rfl, rfl⟩
  by_cases h4 : d = 4
  · subst h4
    go_enter Tryd.func23, Tryd.ntmps23
    go_wp2
    go_ret
    exact ⟨rfl, rfl⟩
  by_cases h5 : d = 5
  · subst h5
    go_enter Tryd.func23, Tryd.ntmps23
    go_wp2
    go_ret
    exact ⟨rfl, rfl⟩
  rw [if_neg h0, if_neg h1, if_neg h2, if_neg h3, if_neg h4, if_neg h5]
  go_enter Tryd.func23, Tryd.ntmps23
  go_wp2
  go_ret
  exact ⟨rfl, rfl⟩

set_option maxHeartbeats 400000 in
theorem commute_any (d1 d2 : Int) (k1 k2 : ByteArray) (s1 lo1 hi1 n1 s2 lo2 hi2 n2 : Value) (w : World) (hT : Tab w) (hg : 0 < w.heap.size) :
    Calls Tryd.prog 11 #[.agg #[.int .i64 d1, .string k1, s1, lo1, hi1, n1], .agg #[.int .i64 d2, .string k2, s2, lo2, hi2, n2]] w
      fun e w' => e = .returned (.bool (ModesP.commuteM d1 k1 d2 k2)) ∧ Below w.heap.size w w' := by
  have HT := Lib.hid hT
  clear hT
  go_enter Tryd.func11, Tryd.ntmps11
  go_wp2
  go_quiet ((go_at_call 23; exact quietL (of_any _ _)))
  have hT2 : Hid (∀ n, Tab (((w.alloc (.cells #[.int .i64 d1, .string k1, s1, lo1, hi1, n1] 25)).alloc (.cells #[.int .i64 d2, .string k2, s2, lo2, hi2, n2] 25)).drewN n)) :=
    Lib.hid fun n => Tab.below HT.out (bdrewN (balloc (balloc (bsame w) _) _) n) hg
  go_wp2_with (first
    | (go_at_call 24; refine (is_any _ _).mono ?_; rintro e w' ⟨rfl, rfl⟩)
    | (go_at_call 13; refine (compat_any _ _ _ (hT2.out _)).mono ?_; rintro e w' ⟨rfl, rfl⟩))
  all_goals go_ret
  all_goals refine ⟨congrArg (fun b => Ending.returned (.bool b)) ?_, bdrewN (balloc (balloc (bsame w) _) _) _⟩
  all_goals simp_all [ModesP.commuteM]
end Go.Proofs.YtghgccgpgonlmaaDoor.Modes
namespace Go.Proofs.YtghgccgpgonlmaaDoor.Live10
open Go.RowKit

theorem c1 : ModesP.commuteM 4 ⟨#[97]⟩ 5 ⟨#[97]⟩ = true := by decide +kernel
theorem c2 : ModesP.commuteM 0 ⟨#[97]⟩ 4 ⟨#[97]⟩ = false := by decide +kernel

set_option maxHeartbeats 400000 in
theorem live_any (w : World) (hT : Modes.Tab w) (hg : 0 < w.heap.size) : Calls Tryd.prog 8 #[] w fun e w' => e = .returned (.bool true) ∧ Below w.heap.size w w' := by
  have HT := Lib.hid hT
  clear hT
  have h1 := c1
  have h2 := c2
  go_enter Tryd.func8, Tryd.ntmps8
  go_wp2_with fail
  refine (Modes.commute_any _ _ _ _ _ _ _ _ _ _ _ _ _ HT.out hg).mono ?_
  rintro e w1 ⟨rfl, hb⟩
  go_wp2_with fail
  refine (Modes.commute_any _ _ _ _ _ _ _ _ _ _ _ _ _ (HT.out.below hb hg) (Nat.lt_of_lt_of_le hg hb.size)).mono ?_
  rintro e w2 ⟨rfl, hb2⟩
  go_wp2_with fail
  go_ret
  exact ⟨rfl, bstep hb hb2⟩
end Go.Proofs.YtghgccgpgonlmaaDoor.Live10
namespace Go.Proofs.YtghgccgpgonlmaaDoor.Tab
open Go.RowKit

section
variable {H : Type} {enc : TypeId × Value → H} {P : Program} {w : World} {base : Nat} {sp : Nat → Bool} {held : Bool}
/-- an array of bools, read -/
theorem row_bools {fuel n : Nat} {t e : TypeId} {cs : List Value} {r : List Bool} {p : List MemPlace} (ht : P.underlying t = some (.array n e)) (he : P.underlying e = some .bool) (hce : P.cellsOf e = 1)
    (h : DataW.trod enc P w base sp held fuel t cs = some (.agg (r.map fun b => .lit (.bool b)), p)) (j : Nat) (hj : j < n) (b : Bool) (hb : r[j]? = some b) : cs[j]? = some (.bool b) := by
  obtain ⟨xs, m, _, hx, _, hl, hi⟩ := DataW.trod_array ht h
  have hj' := hi j hj
  have hxj : xs[j]? = some (xs[j]'(by omega)) := List.getElem?_eq_getElem (by omega)
  rw [hxj, hce] at hj'
  obtain ⟨b', hc, hx'⟩ := DataW.trod_bool he hj'
  have h1 : xs.map (·.1) = r.map fun b => (DataW.lit (.bool b) : DataW H) := by
    have := congrArg Prod.fst hx
    simpa using this.symm
  have h2 := congrArg (·[j]?) h1
  simp only [List.getElem?_map, hxj, hb, Option.map_some, Option.some.injEq, hx'] at h2
  have h3 : b' = b := by simpa using h2
  subst h3
  have := congrArg (·[0]?) hc
  simpa [List.getElem?_take, List.getElem?_drop] using this
/-- an array of arrays of bools, read -/
theorem rows_bools {fuel n k : Nat} {t t1 e : TypeId} {cs : List Value} {rs : List (List Bool)} {p : List MemPlace} (ht : P.underlying t = some (.array n t1)) (ht1 : P.underlying t1 = some (.array k e)) (he : P.underlying e = some .bool) (hce : P.cellsOf e = 1) (hc1 : P.cellsOf t1 = k)
    (h : DataW.trod enc P w base sp held fuel t cs = some (.agg (rs.map fun r => .agg (r.map fun b => .lit (.bool b))), p)) (i j : Nat) (hi : i < n) (hj : j < k) (r : List Bool) (b : Bool) (hr : rs[i]? = some r) (hb : r[j]? = some b) :
    cs[i * k + j]? = some (.bool b) := by
  obtain ⟨xs, m, _, hx, _, hl, hrow⟩ := DataW.trod_array ht h
  have hi' := hrow i hi
  have hxi : xs[i]? = some (xs[i]'(by omega)) := List.getElem?_eq_getElem (by omega)
  rw [hxi, hc1] at hi'
  have h1 : xs.map (·.1) = rs.map fun r => (DataW.agg (r.map fun b => .lit (.bool b)) : DataW H) := by
    have := congrArg Prod.fst hx
    simpa using this.symm
  have h2 := congrArg (·[i]?) h1
  simp only [List.getElem?_map, hxi, hr, Option.map_some, Option.some.injEq] at h2
  have h3 : xs[i]'(by omega) = (.agg (r.map fun b => .lit (.bool b)), (xs[i]'(by omega)).2) := by rw [← h2]
  rw [h3] at hi'
  have := row_bools ht1 he hce hi' j hj b hb
  rw [List.getElem?_take, if_pos hj, List.getElem?_drop] at this
  exact this
end

theorem gTab : Tryd.prog.globalNamed "moneyer/modes.together" = some 0 := by kernel_rfl
theorem gTabType : (Tryd.prog.globals[0]?).map (·.type) = some 54 := by kernel_rfl
theorem cellsRow : Tryd.prog.cellsOf 53 = 4 := by kernel_rfl
theorem cellsBool : Tryd.prog.cellsOf 4 = 1 := by kernel_rfl
def rows : List (List Bool) := [[true, false, false, false], [false, false, false, false], [false, false, true, true], [false, false, true, true]]

/-- what the row lists gives the walks -/
theorem tab_of {W : World} {rest : List (String × DataW Unit)} (h : laidMet Tryd.prog (("moneyer/modes.together", Rows.laid_moneyer_modes_together) :: rest) W) : Modes.Tab W := by
  obtain ⟨ps, ⟨g', t', cs, fuel, p, q, hg', ht', hvar, hd, _, _⟩, _⟩ := h
  obtain rfl := Option.some.inj (gTab.symm.trans hg')
  obtain rfl := Option.some.inj (gTabType.symm.trans ht')
  intro a b ha hb
  rw [World.var?_cell gTab hvar]
  have hr : ∀ a' b' : Fin 4, ∃ r, rows[a'.val]? = some r ∧ r[b'.val]? = some (ModesP.compat (a'.val : Int) (b'.val : Int)) := by
    intro a' b'
    match a', b' with
    | 0, 0 => exact ⟨_, rfl, rfl⟩
    | 0, 1 => exact ⟨_, rfl, rfl⟩
    | 0, 2 => exact ⟨_, rfl, rfl⟩
    | 0, 3 => exact ⟨_, rfl, rfl⟩
    | 1, 0 => exact ⟨_, rfl, rfl⟩
    | 1, 1 => exact ⟨_, rfl, rfl⟩
    | 1, 2 => exact ⟨_, rfl, rfl⟩
    | 1, 3 => exact ⟨_, rfl, rfl⟩
    | 2, 0 => exact ⟨_, rfl, rfl⟩
    | 2, 1 => exact ⟨_, rfl, rfl⟩
    | 2, 2 => exact ⟨_, rfl, rfl⟩
    | 2, 3 => exact ⟨_, rfl, rfl⟩
    | 3, 0 => exact ⟨_, rfl, rfl⟩
    | 3, 1 => exact ⟨_, rfl, rfl⟩
    | 3, 2 => exact ⟨_, rfl, rfl⟩
    | 3, 3 => exact ⟨_, rfl, rfl⟩
  obtain ⟨r, hr1, hr2⟩ := hr ⟨a, ha⟩ ⟨b, hb⟩
  have := rows_bools (rs := rows) Tryd.underlying54 Tryd.underlying53 Tryd.underlying4 cellsBool cellsRow hd a b ha hb r _ hr1 hr2
  simpa using this
end Go.Proofs.YtghgccgpgonlmaaDoor.Tab
namespace Go.Proofs.YtghgccgpgonlmaaDoor
open Go.RowKit
set_option linter.unusedVariables false
namespace ModelP
/-- do two operations do and tell the same from s on, whichever is the first? -/
def swapM (s : List Pair) (a b : OpX) : Bool :=
  (sameAns (step s a).2 (step (step s b).1 a).2 && sameAns (step (step s a).1 b).2 (step s b).2) && sameAll (step (step s a).1 b).1 (step (step s b).1 a).1
/-- an operation of a mode, on the key a -/
def oneP (m : Int) (n : Nat) : OpX := if m = 1 then ⟨1, ⟨#[97]⟩, [UInt8.ofNat n], 0, 0, 0⟩ else ⟨if m = 0 then 0 else if m = 2 then 4 else 5, ⟨#[97]⟩, [], 0, 0, 1⟩
def counterP : List Pair := [⟨⟨#[97]⟩, ⟨2, [], 0, 9, 3⟩⟩]
def dropP : OpX := ⟨3, ⟨#[97]⟩, [], 0, 0, 0⟩
theorem tight_both : swapM [] (oneP 1 1) (oneP 1 2) = false := by decide +kernel
theorem tight_a (b : Fin 4) (h : b.val ≠ 1) : swapM counterP dropP (oneP b.val 2) = false := by
  revert b
  decide +kernel
theorem tight_b (a : Fin 4) (h : a.val ≠ 1) : swapM counterP (oneP a.val 1) dropP = false := by
  revert a
  decide +kernel
theorem tight_no (a b : Fin 4) (ha : a.val ≠ 1) (hb : b.val ≠ 1) (hc : ModesP.compat a.val b.val = false) : swapM counterP (oneP a.val 1) (oneP b.val 2) = false := by
  revert a b
  decide +kernel
end ModelP
end Go.Proofs.YtghgccgpgonlmaaDoor
namespace Go.Proofs.YtghgccgpgonlmaaDoor
open Go.RowKit
set_option linter.unusedVariables false
theorem str12 {w : World} {b : Nat} {c0 c1 c2 c3 c4 c5 c6 c7 c8 c9 c10 c11 : Value} (h : Str w b #[c0, c1, c2, c3, c4, c5, c6, c7, c8, c9, c10, c11]) :
    w.cell? ⟨b, 0, none⟩ = some c0 ∧ w.cell? ⟨b, 1, none⟩ = some c1 ∧ w.cell? ⟨b, 2, none⟩ = some c2 ∧ w.cell? ⟨b, 3, none⟩ = some c3 ∧ w.cell? ⟨b, 4, none⟩ = some c4 ∧ w.cell? ⟨b, 5, none⟩ = some c5 ∧ w.cell? ⟨b, 6, none⟩ = some c6 ∧ w.cell? ⟨b, 7, none⟩ = some c7 ∧ w.cell? ⟨b, 8, none⟩ = some c8 ∧ w.cell? ⟨b, 9, none⟩ = some c9 ∧ w.cell? ⟨b, 10, none⟩ = some c10 ∧ w.cell? ⟨b, 11, none⟩ = some c11 :=
  ⟨h.cell 0, h.cell 1, h.cell 2, h.cell 3, h.cell 4, h.cell 5, h.cell 6, h.cell 7, h.cell 8, h.cell 9, h.cell 10, h.cell 11⟩
/-- operations typed out -/
theorem op_one {w : World} {B n c : Nat} {A : Option Addr} {x : OpX} (hy : Bytes w B A n c x.data) (hB : B ≤ w.heap.size) (hk : x.key.size ≤ maxLen) (hin : In64 x.act ∧ In64 x.lo ∧ In64 x.hi ∧ In64 x.n) : OpE.rel w w.heap.size (opV x A n c) x :=
  ⟨A, n, c, rfl, hy.more hB, hk, hin.1, hin.2.1, hin.2.2.1, hin.2.2.2⟩
theorem op_lit2 {w : World} {b na ca nb cb : Nat} {Aa Ab : Option Addr} {x y : OpX} (hs : Str w b (opV x Aa na ca ++ opV y Ab nb cb).toArray) (hx : OpE.rel w w.heap.size (opV x Aa na ca) x) (hy : OpE.rel w w.heap.size (opV y Ab nb cb) y) : OpsL w w.heap.size (some ⟨b, 0, none⟩) 2 2 [x, y] := by
  refine ⟨[opV x Aa na ca, opV y Ab nb cb], ⟨hx, hy, trivial⟩, rfl, Nat.le_refl _, by unfold maxLen; omega, fun _ => ⟨b, 0, rfl, hs.lt, fun j v hv => ?_⟩⟩
  simp only [List.flatten_cons, List.flatten_nil, List.append_nil] at hv
  rw [hs.cell, Nat.zero_add]
  simpa using hv
/-- a pair typed out -/
theorem pair_one {w : World} {b : Nat} {p : Pair} {vs : List Value} (hs : Str w b vs.toArray) (hp : PairE.rel w w.heap.size vs p) : Pairs w w.heap.size (some ⟨b, 0, none⟩) 1 1 [p] := by
  refine ⟨[vs], ⟨hp, trivial⟩, rfl, Nat.le_refl _, by unfold maxLen; omega, fun _ => ⟨b, 0, rfl, hs.lt, fun j v hv => ?_⟩⟩
  rw [List.flatten_singleton] at hv
  rw [hs.cell, Nat.zero_add]
  simpa using hv
/-- two answers of a row: their cells -/
theorem ans2_at {w : World} {B c : Nat} {A : Option Addr} {x y : Answer} (h : Elems AnsE w B A 2 c [x, y]) : ∃ b o Ax nx cx Ay ny cy, A = some ⟨b, o, none⟩ ∧ b < B ∧ Bytes w B Ax nx cx x.cell.data ∧ Bytes w B Ay ny cy y.cell.data ∧
    (w.cell? ⟨b, o, none⟩ = some (.int .i64 x.err) ∧ w.cell? ⟨b, o + 1, none⟩ = some (.int .i64 x.cell.kind) ∧ w.cell? ⟨b, o + 2, none⟩ = some (.slice Ax nx cx) ∧ w.cell? ⟨b, o + 3, none⟩ = some (.int .i64 x.cell.lo) ∧ w.cell? ⟨b, o + 4, none⟩ = some (.int .i64 x.cell.hi) ∧ w.cell? ⟨b, o + 5, none⟩ = some (.int .i64 x.cell.val)) ∧
    (w.cell? ⟨b, o + 6, none⟩ = some (.int .i64 y.err) ∧ w.cell? ⟨b, o + 7, none⟩ = some (.int .i64 y.cell.kind) ∧ w.cell? ⟨b, o + 8, none⟩ = some (.slice Ay ny cy) ∧ w.cell? ⟨b, o + 9, none⟩ = some (.int .i64 y.cell.lo) ∧ w.cell? ⟨b, o + 10, none⟩ = some (.int .i64 y.cell.hi) ∧ w.cell? ⟨b, o + 11, none⟩ = some (.int .i64 y.cell.val)) := by
  obtain ⟨b, o, vs, rfl, hb, ⟨Ax, nx, cx, rfl, hx⟩, h0⟩ := h.at_ (k := 0) (by omega)
  obtain ⟨b', o', vs, e, -, ⟨Ay, ny, cy, rfl, hy⟩, h1⟩ := h.at_ (k := 1) (by omega)
  cases e
  exact ⟨b, o, Ax, nx, cx, Ay, ny, cy, rfl, hb, hx, hy, ⟨h0 0 _ rfl, h0 1 _ rfl, h0 2 _ rfl, h0 3 _ rfl, h0 4 _ rfl, h0 5 _ rfl⟩, ⟨h1 0 _ rfl, h1 1 _ rfl, h1 2 _ rfl, h1 3 _ rfl, h1 4 _ rfl, h1 5 _ rfl⟩⟩
namespace Reg
/-- an operation -/
def opW (x : OpX) : SP ext := ⟨fun v w => ∃ A n c, v = .agg (opV x A n c).toArray ∧ Bytes w w.heap.size A n c x.data, fun _ _ _ hb ⟨A, n, c, e, h⟩ => ⟨A, n, c, e, h.next hb⟩⟩
end Reg
end Go.Proofs.YtghgccgpgonlmaaDoor
namespace Go.Proofs.YtghgccgpgonlmaaDoor
open Go.RowKit
set_option linter.unusedVariables false
theorem bytes_one {w : World} {b : Nat} {x : UInt8} (hs : w.cell? ⟨b, 0, none⟩ = some (byteV x)) (hb : b < w.heap.size) : Bytes w w.heap.size (some ⟨b, 0, none⟩) 1 1 [x] :=
  ⟨rfl, Nat.le_refl _, by unfold maxLen; omega, fun _ => ⟨b, 0, rfl, hb, fun j u hu => by
    cases j with
    | zero => cases hu; simpa using hs
    | succ j => simp at hu⟩⟩
end Go.Proofs.YtghgccgpgonlmaaDoor
namespace Go.Proofs.YtghgccgpgonlmaaDoor.Modes
open Go.RowKit
set_option linter.unusedVariables false
set_option maxRecDepth 100000 in
set_option maxHeartbeats 1000000 in
theorem one_w (n : Nat) (w : World) (hn : n = 1 ∨ n = 2) :
    Calls Tryd.prog 14 #[.int .i64 1, .int .i64 n] w fun e w' => ∃ A k c, e = .returned (.agg (opV (ModelP.oneP 1 n) A k c).toArray) ∧ Bytes w' w'.heap.size A k c (ModelP.oneP 1 n).data ∧ Below w.heap.size w w' := by
  rcases hn with rfl | rfl
  · go_enter Tryd.func14, Tryd.ntmps14
    go_wp2
    exact bodyPost_ret (v := .agg #[.int .i64 1, .string ⟨#[97]⟩, .slice (some ⟨w.heap.size + 1, 0, none⟩) 1 1, .int .i64 0, .int .i64 0, .int .i64 0]) (by simp [results, Tryd.results14, go_sem, *]) rfl ⟨some ⟨w.heap.size + 1, 0, none⟩, 1, 1, rfl, bytes_one (by simp; rfl) (by simp), balloc (balloc (bsame _) _) _⟩
  · go_enter Tryd.func14, Tryd.ntmps14
    go_wp2
    exact bodyPost_ret (v := .agg #[.int .i64 1, .string ⟨#[97]⟩, .slice (some ⟨w.heap.size + 1, 0, none⟩) 1 1, .int .i64 0, .int .i64 0, .int .i64 0]) (by simp [results, Tryd.results14, go_sem, *]) rfl ⟨some ⟨w.heap.size + 1, 0, none⟩, 1, 1, rfl, bytes_one (by simp; rfl) (by simp), balloc (balloc (bsame _) _) _⟩
set_option maxRecDepth 100000 in
set_option maxHeartbeats 1000000 in
theorem one_o (m : Int) (n : Nat) (w : World) (hm : m = 0 ∨ m = 2 ∨ m = 3) :
    Calls Tryd.prog 14 #[.int .i64 m, .int .i64 n] w fun e w' => ∃ A k c, e = .returned (.agg (opV (ModelP.oneP m n) A k c).toArray) ∧ Bytes w' w'.heap.size A k c (ModelP.oneP m n).data ∧ Below w.heap.size w w' := by
  rcases hm with rfl | rfl | rfl
  · go_enter Tryd.func14, Tryd.ntmps14
    go_wp2
    exact bodyPost_ret (v := .agg #[.int .i64 0, .string ⟨#[97]⟩, .slice none 0 0, .int .i64 0, .int .i64 0, .int .i64 1]) (by simp [results, Tryd.results14, go_sem, *]) rfl ⟨none, 0, 0, rfl, Bytes.none_ _ _, balloc (balloc (bsame _) _) _⟩
  · go_enter Tryd.func14, Tryd.ntmps14
    go_wp2
    exact bodyPost_ret (v := .agg #[.int .i64 4, .string ⟨#[97]⟩, .slice none 0 0, .int .i64 0, .int .i64 0, .int .i64 1]) (by simp [results, Tryd.results14, go_sem, *]) rfl ⟨none, 0, 0, rfl, Bytes.none_ _ _, balloc (balloc (bsame _) _) _⟩
  · go_enter Tryd.func14, Tryd.ntmps14
    go_wp2
    exact bodyPost_ret (v := .agg #[.int .i64 5, .string ⟨#[97]⟩, .slice none 0 0, .int .i64 0, .int .i64 0, .int .i64 1]) (by simp [results, Tryd.results14, go_sem, *]) rfl ⟨none, 0, 0, rfl, Bytes.none_ _ _, balloc (balloc (bsame _) _) _⟩
theorem one_any (m : Int) (n : Nat) (w : World) (h0 : 0 ≤ m) (h1 : m < 4) (hn : n = 1 ∨ n = 2) :
    Calls Tryd.prog 14 #[.int .i64 m, .int .i64 n] w fun e w' => ∃ A k c, e = .returned (.agg (opV (ModelP.oneP m n) A k c).toArray) ∧ Bytes w' w'.heap.size A k c (ModelP.oneP m n).data ∧ Below w.heap.size w w' := by
  rcases ModesP.four m h0 h1 with rfl | rfl | rfl | rfl
  · exact one_o 0 n w (.inl rfl)
  · exact one_w n w hn
  · exact one_o 2 n w (.inr (.inl rfl))
  · exact one_o 3 n w (.inr (.inr rfl))
end Go.Proofs.YtghgccgpgonlmaaDoor.Modes
namespace Go.Proofs.YtghgccgpgonlmaaDoor.Modes
open Go.RowKit ModelW
set_option linter.unusedVariables false
set_option maxRecDepth 100000 in
set_option maxHeartbeats 2000000 in
theorem Swap_any (A : Option Addr) (n c B : Nat) (s : List Pair) (aa : Int) (ak : ByteArray) (ad : List UInt8) (alo ahi an : Int) (Aa : Option Addr) (na ca Ba : Nat) (ba : Int) (bk : ByteArray) (bd : List UInt8) (blo bhi bn : Int) (Ab : Option Addr) (nb cb Bb : Nat) (w : World) (h : Pairs w B A n c s) (hB : B ≤ w.heap.size) (hr : ModelP.Rises s) (hs : Small s) (hya : Bytes w Ba Aa na ca ad) (hBa : Ba ≤ w.heap.size) (hka : ak.size ≤ maxLen) (hia : In64 aa ∧ In64 alo ∧ In64 ahi ∧ In64 an) (hna : na ≤ 100000) (hyb : Bytes w Bb Ab nb cb bd) (hBb : Bb ≤ w.heap.size) (hkb : bk.size ≤ maxLen) (hib : In64 ba ∧ In64 blo ∧ In64 bhi ∧ In64 bn) (hnb : nb ≤ 100000) (hsl : s.length ≤ 500) :
    Calls Tryd.prog 9 #[.slice A n c, .agg #[.int .i64 aa, .string ak, .slice Aa na ca, .int .i64 alo, .int .i64 ahi, .int .i64 an], .agg #[.int .i64 ba, .string bk, .slice Ab nb cb, .int .i64 blo, .int .i64 bhi, .int .i64 bn]] w fun e w' => e = .returned (.bool (ModelP.swapM s ⟨aa, ak, ad, alo, ahi, an⟩ ⟨ba, bk, bd, blo, bhi, bn⟩)) ∧ Below w.heap.size w w' := by
  have H := Lib.hid (h.more hB)
  have HA := Lib.hid (hya.more hBa)
  have HBB := Lib.hid (hyb.more hBb)
  have HRI := Lib.hid hr
  have HSM : Hid (s.length ≤ 500 ∧ ∀ p ∈ s, p.cell.data.length ≤ 100000) := Lib.hid ⟨hsl, hs.data⟩
  have HIA := Lib.hid hia
  have HIB := Lib.hid hib
  have HDA : Hid (ad.length ≤ 100000) := Lib.hid (by rw [hya.len]; exact hna)
  have HDB : Hid (bd.length ≤ 100000) := Lib.hid (by rw [hyb.len]; exact hnb)
  obtain ⟨r1, hr1⟩ : ∃ r, ModelP.step s ⟨aa, ak, ad, alo, ahi, an⟩ = r := ⟨_, rfl⟩
  obtain ⟨r2, hr2⟩ : ∃ r, ModelP.step r1.1 ⟨ba, bk, bd, blo, bhi, bn⟩ = r := ⟨_, rfl⟩
  obtain ⟨q1, hq1⟩ : ∃ r, ModelP.step s ⟨ba, bk, bd, blo, bhi, bn⟩ = r := ⟨_, rfl⟩
  obtain ⟨q2, hq2⟩ : ∃ r, ModelP.step q1.1 ⟨aa, ak, ad, alo, ahi, an⟩ = r := ⟨_, rfl⟩
  have HRN : Hid (ModelP.run s [⟨aa, ak, ad, alo, ahi, an⟩, ⟨ba, bk, bd, blo, bhi, bn⟩] = (r2.1, [r1.2, r2.2])) := Lib.hid (by simp only [ModelP.run, hr1, hr2])
  have HQN : Hid (ModelP.run s [⟨ba, bk, bd, blo, bhi, bn⟩, ⟨aa, ak, ad, alo, ahi, an⟩] = (q2.1, [q1.2, q2.2])) := Lib.hid (by simp only [ModelP.run, hq1, hq2])
  obtain ⟨p1, hp1⟩ : ∃ p, ModelP.sameAns r1.2 q2.2 = p := ⟨_, rfl⟩
  obtain ⟨p2, hp2⟩ : ∃ p, ModelP.sameAns r2.2 q1.2 = p := ⟨_, rfl⟩
  obtain ⟨p3, hp3⟩ : ∃ p, ModelP.sameAll r2.1 q2.1 = p := ⟨_, rfl⟩
  have HSW : Hid (ModelP.swapM s ⟨aa, ak, ad, alo, ahi, an⟩ ⟨ba, bk, bd, blo, bhi, bn⟩ = ((p1 && p2) && p3)) := Lib.hid (by simp only [ModelP.swapM, hr1, hr2, hq1, hq2, hp1, hp2, hp3])
  have HRL : Hid (r2.1.length ≤ 100000) := Lib.hid (by have h1 := ModelP.step_length s ⟨aa, ak, ad, alo, ahi, an⟩; have h2 := ModelP.step_length r1.1 ⟨ba, bk, bd, blo, bhi, bn⟩; rw [hr1] at h1; rw [hr2] at h2; omega)
  have HP1 := Lib.hid hp1
  have HP2 := Lib.hid hp2
  have HP3 := Lib.hid hp3
  rw [HSW.out]
  clear h hya hyb hr hs hia hib hr1 hr2 hq1 hq2 hp1 hp2 hp3 HSW
  go_enter Tryd.func9, Tryd.ntmps9
  go_wp2_with fail
  generalize hW0 : (((w).alloc (.cells #[.int .i64 aa, .string ak, .slice Aa na ca, .int .i64 alo, .int .i64 ahi, .int .i64 an] 25)).alloc (.cells #[.int .i64 ba, .string bk, .slice Ab nb cb, .int .i64 blo, .int .i64 bhi, .int .i64 bn] 25)).alloc (.cells #[.int .i64 aa, .string ak, .slice Aa na ca, .int .i64 alo, .int .i64 ahi, .int .i64 an, .int .i64 ba, .string bk, .slice Ab nb cb, .int .i64 blo, .int .i64 bhi, .int .i64 bn] 25) = W0
  have HS0_0 : Hid (Str W0 (w.heap.size) #[.int .i64 aa, .string ak, .slice Aa na ca, .int .i64 alo, .int .i64 ahi, .int .i64 an]) := Lib.hid (by rw [← hW0]; have := ((Str.new (w) #[.int .i64 aa, .string ak, .slice Aa na ca, .int .i64 alo, .int .i64 ahi, .int .i64 an] 25).alloc (.cells #[.int .i64 ba, .string bk, .slice Ab nb cb, .int .i64 blo, .int .i64 bhi, .int .i64 bn] 25)).alloc (.cells #[.int .i64 aa, .string ak, .slice Aa na ca, .int .i64 alo, .int .i64 ahi, .int .i64 an, .int .i64 ba, .string bk, .slice Ab nb cb, .int .i64 blo, .int .i64 bhi, .int .i64 bn] 25); simpa using this)
  have HS1_0 : Hid (Str W0 (w.heap.size + 1) #[.int .i64 ba, .string bk, .slice Ab nb cb, .int .i64 blo, .int .i64 bhi, .int .i64 bn]) := Lib.hid (by rw [← hW0]; have := (Str.new ((w).alloc (.cells #[.int .i64 aa, .string ak, .slice Aa na ca, .int .i64 alo, .int .i64 ahi, .int .i64 an] 25)) #[.int .i64 ba, .string bk, .slice Ab nb cb, .int .i64 blo, .int .i64 bhi, .int .i64 bn] 25).alloc (.cells #[.int .i64 aa, .string ak, .slice Aa na ca, .int .i64 alo, .int .i64 ahi, .int .i64 an, .int .i64 ba, .string bk, .slice Ab nb cb, .int .i64 blo, .int .i64 bhi, .int .i64 bn] 25); simpa using this)
  have HS2_0 : Hid (Str W0 (w.heap.size + 1 + 1) #[.int .i64 aa, .string ak, .slice Aa na ca, .int .i64 alo, .int .i64 ahi, .int .i64 an, .int .i64 ba, .string bk, .slice Ab nb cb, .int .i64 blo, .int .i64 bhi, .int .i64 bn]) := Lib.hid (by rw [← hW0]; have := Str.new (((w).alloc (.cells #[.int .i64 aa, .string ak, .slice Aa na ca, .int .i64 alo, .int .i64 ahi, .int .i64 an] 25)).alloc (.cells #[.int .i64 ba, .string bk, .slice Ab nb cb, .int .i64 blo, .int .i64 bhi, .int .i64 bn] 25)) #[.int .i64 aa, .string ak, .slice Aa na ca, .int .i64 alo, .int .i64 ahi, .int .i64 an, .int .i64 ba, .string bk, .slice Ab nb cb, .int .i64 blo, .int .i64 bhi, .int .i64 bn] 25; simpa using this)
  have HB_0 : Hid (Below w.heap.size w W0) := Lib.hid (by rw [← hW0]; exact balloc (balloc (balloc (bsame w) _) _) _)
  have hw_0 := HB_0.out.size
  clear hW0
  obtain ⟨f0_0_0, f0_0_1, f0_0_2, f0_0_3, f0_0_4, f0_0_5⟩ := str6 HS0_0.out
  have hl0_0 := HS0_0.out.lt
  have hf0_0 := fun j => HS0_0.out.frozen j
  obtain ⟨f1_0_0, f1_0_1, f1_0_2, f1_0_3, f1_0_4, f1_0_5⟩ := str6 HS1_0.out
  have hl1_0 := HS1_0.out.lt
  have hf1_0 := fun j => HS1_0.out.frozen j
  obtain ⟨f2_0_0, f2_0_1, f2_0_2, f2_0_3, f2_0_4, f2_0_5, f2_0_6, f2_0_7, f2_0_8, f2_0_9, f2_0_10, f2_0_11⟩ := str12 HS2_0.out
  have hl2_0 := HS2_0.out.lt
  have HYa_0 := Lib.hid (HA.out.next HB_0.out)
  have HYb_0 := Lib.hid (HBB.out.next HB_0.out)
  refine (Run_any A n c W0.heap.size s (some ⟨w.heap.size + 1 + 1, 0, none⟩) 2 2 W0.heap.size [⟨aa, ak, ad, alo, ahi, an⟩, ⟨ba, bk, bd, blo, bhi, bn⟩] _ (H.out.next HB_0.out) (Nat.le_refl _) HRI.out HSM.out (op_lit2 HS2_0.out (op_one HYa_0.out (Nat.le_refl _) hka HIA.out) (op_one HYb_0.out (Nat.le_refl _) hkb HIB.out)) (Nat.le_refl _) (by omega) (by intro z hz; simp only [List.mem_cons, List.not_mem_nil, or_false] at hz; rcases hz with rfl | rfl <;> first | exact HDA.out | exact HDB.out)).mono ?_
  rintro e W1 ⟨A1, n1, c1, A2, c2, rfl, hP1, hE1, hb1⟩
  have HS0_1 := Lib.hid (HS0_0.out.next hb1)
  have HS1_1 := Lib.hid (HS1_0.out.next hb1)
  have HS2_1 := Lib.hid (HS2_0.out.next hb1)
  have HB_1 := Lib.hid (bstep HB_0.out hb1)
  have hw_1 := HB_1.out.size
  have hws_1 := (hb1).size
  have HYa_1 := Lib.hid (HYa_0.out.next hb1)
  have HYb_1 := Lib.hid (HYb_0.out.next hb1)
  clear HYa_0 HYb_0
  clear f0_0_0 f0_0_1 f0_0_2 f0_0_3 f0_0_4 f0_0_5 HS0_0 hf0_0 f1_0_0 f1_0_1 f1_0_2 f1_0_3 f1_0_4 f1_0_5 HS1_0 hf1_0 f2_0_0 f2_0_1 f2_0_2 f2_0_3 f2_0_4 f2_0_5 f2_0_6 f2_0_7 f2_0_8 f2_0_9 f2_0_10 f2_0_11 HS2_0
  obtain ⟨f0_1_0, f0_1_1, f0_1_2, f0_1_3, f0_1_4, f0_1_5⟩ := str6 HS0_1.out
  have hl0_1 := HS0_1.out.lt
  have hf0_1 := fun j => HS0_1.out.frozen j
  obtain ⟨f1_1_0, f1_1_1, f1_1_2, f1_1_3, f1_1_4, f1_1_5⟩ := str6 HS1_1.out
  have hl1_1 := HS1_1.out.lt
  have hf1_1 := fun j => HS1_1.out.frozen j
  obtain ⟨f2_1_0, f2_1_1, f2_1_2, f2_1_3, f2_1_4, f2_1_5, f2_1_6, f2_1_7, f2_1_8, f2_1_9, f2_1_10, f2_1_11⟩ := str12 HS2_1.out
  have hl2_1 := HS2_1.out.lt
  rw [HRN.out] at hP1 hE1
  dsimp only at hP1 hE1
  have HP1_1 := Lib.hid hP1
  have HE1_1 := Lib.hid hE1
  clear hP1 hE1 hb1
  go_wp2_with fail
  generalize hW2 : W1.alloc (.cells #[.int .i64 ba, .string bk, .slice Ab nb cb, .int .i64 blo, .int .i64 bhi, .int .i64 bn, .int .i64 aa, .string ak, .slice Aa na ca, .int .i64 alo, .int .i64 ahi, .int .i64 an] 25) = W2
  have HS0_2 : Hid (Str W2 (w.heap.size) #[.int .i64 aa, .string ak, .slice Aa na ca, .int .i64 alo, .int .i64 ahi, .int .i64 an]) := Lib.hid (by rw [← hW2]; exact HS0_1.out.alloc _)
  have HS1_2 : Hid (Str W2 (w.heap.size + 1) #[.int .i64 ba, .string bk, .slice Ab nb cb, .int .i64 blo, .int .i64 bhi, .int .i64 bn]) := Lib.hid (by rw [← hW2]; exact HS1_1.out.alloc _)
  have HS2_2 : Hid (Str W2 (w.heap.size + 1 + 1) #[.int .i64 aa, .string ak, .slice Aa na ca, .int .i64 alo, .int .i64 ahi, .int .i64 an, .int .i64 ba, .string bk, .slice Ab nb cb, .int .i64 blo, .int .i64 bhi, .int .i64 bn]) := Lib.hid (by rw [← hW2]; exact HS2_1.out.alloc _)
  have HS3_2 : Hid (Str W2 W1.heap.size #[.int .i64 ba, .string bk, .slice Ab nb cb, .int .i64 blo, .int .i64 bhi, .int .i64 bn, .int .i64 aa, .string ak, .slice Aa na ca, .int .i64 alo, .int .i64 ahi, .int .i64 an]) := Lib.hid (by rw [← hW2]; exact Str.new W1 #[.int .i64 ba, .string bk, .slice Ab nb cb, .int .i64 blo, .int .i64 bhi, .int .i64 bn, .int .i64 aa, .string ak, .slice Aa na ca, .int .i64 alo, .int .i64 ahi, .int .i64 an] 25)
  have hba2 : Below W1.heap.size W1 W2 := by rw [← hW2]; exact balloc (bsame _) _
  have HB_2 := Lib.hid (bstep HB_1.out hba2)
  have hw_2 := HB_2.out.size
  have hws_2 := hba2.size
  have HYa_2 := Lib.hid (HYa_1.out.next hba2)
  have HYb_2 := Lib.hid (HYb_1.out.next hba2)
  clear HYa_1 HYb_1
  clear hW2
  clear f0_1_0 f0_1_1 f0_1_2 f0_1_3 f0_1_4 f0_1_5 HS0_1 hf0_1 f1_1_0 f1_1_1 f1_1_2 f1_1_3 f1_1_4 f1_1_5 HS1_1 hf1_1 f2_1_0 f2_1_1 f2_1_2 f2_1_3 f2_1_4 f2_1_5 f2_1_6 f2_1_7 f2_1_8 f2_1_9 f2_1_10 f2_1_11 HS2_1
  obtain ⟨f0_2_0, f0_2_1, f0_2_2, f0_2_3, f0_2_4, f0_2_5⟩ := str6 HS0_2.out
  have hl0_2 := HS0_2.out.lt
  have hf0_2 := fun j => HS0_2.out.frozen j
  obtain ⟨f1_2_0, f1_2_1, f1_2_2, f1_2_3, f1_2_4, f1_2_5⟩ := str6 HS1_2.out
  have hl1_2 := HS1_2.out.lt
  have hf1_2 := fun j => HS1_2.out.frozen j
  obtain ⟨f2_2_0, f2_2_1, f2_2_2, f2_2_3, f2_2_4, f2_2_5, f2_2_6, f2_2_7, f2_2_8, f2_2_9, f2_2_10, f2_2_11⟩ := str12 HS2_2.out
  have hl2_2 := HS2_2.out.lt
  obtain ⟨f3_2_0, f3_2_1, f3_2_2, f3_2_3, f3_2_4, f3_2_5, f3_2_6, f3_2_7, f3_2_8, f3_2_9, f3_2_10, f3_2_11⟩ := str12 HS3_2.out
  have hl3_2 := HS3_2.out.lt
  have HP1_2 := Lib.hid (HP1_1.out.next hba2)
  have HE1_2 := Lib.hid (HE1_1.out.next hba2)
  clear HP1_1 HE1_1
  refine (Run_any A n c W2.heap.size s (some ⟨W1.heap.size, 0, none⟩) 2 2 W2.heap.size [⟨ba, bk, bd, blo, bhi, bn⟩, ⟨aa, ak, ad, alo, ahi, an⟩] _ (H.out.next HB_2.out) (Nat.le_refl _) HRI.out HSM.out (op_lit2 HS3_2.out (op_one HYb_2.out (Nat.le_refl _) hkb HIB.out) (op_one HYa_2.out (Nat.le_refl _) hka HIA.out)) (Nat.le_refl _) (by omega) (by intro z hz; simp only [List.mem_cons, List.not_mem_nil, or_false] at hz; rcases hz with rfl | rfl <;> first | exact HDB.out | exact HDA.out)).mono ?_
  rintro e W3 ⟨A3, n3, c3, A4, c4, rfl, hP2, hE2, hb3⟩
  have HS0_3 := Lib.hid (HS0_2.out.next hb3)
  have HS1_3 := Lib.hid (HS1_2.out.next hb3)
  have HS2_3 := Lib.hid (HS2_2.out.next hb3)
  have HS3_3 := Lib.hid (HS3_2.out.next hb3)
  have HB_3 := Lib.hid (bstep HB_2.out hb3)
  have hw_3 := HB_3.out.size
  have hws_3 := (hb3).size
  have HYa_3 := Lib.hid (HYa_2.out.next hb3)
  have HYb_3 := Lib.hid (HYb_2.out.next hb3)
  clear HYa_2 HYb_2
  clear f0_2_0 f0_2_1 f0_2_2 f0_2_3 f0_2_4 f0_2_5 HS0_2 hf0_2 f1_2_0 f1_2_1 f1_2_2 f1_2_3 f1_2_4 f1_2_5 HS1_2 hf1_2 f2_2_0 f2_2_1 f2_2_2 f2_2_3 f2_2_4 f2_2_5 f2_2_6 f2_2_7 f2_2_8 f2_2_9 f2_2_10 f2_2_11 HS2_2 f3_2_0 f3_2_1 f3_2_2 f3_2_3 f3_2_4 f3_2_5 f3_2_6 f3_2_7 f3_2_8 f3_2_9 f3_2_10 f3_2_11 HS3_2
  obtain ⟨f0_3_0, f0_3_1, f0_3_2, f0_3_3, f0_3_4, f0_3_5⟩ := str6 HS0_3.out
  have hl0_3 := HS0_3.out.lt
  have hf0_3 := fun j => HS0_3.out.frozen j
  obtain ⟨f1_3_0, f1_3_1, f1_3_2, f1_3_3, f1_3_4, f1_3_5⟩ := str6 HS1_3.out
  have hl1_3 := HS1_3.out.lt
  have hf1_3 := fun j => HS1_3.out.frozen j
  obtain ⟨f2_3_0, f2_3_1, f2_3_2, f2_3_3, f2_3_4, f2_3_5, f2_3_6, f2_3_7, f2_3_8, f2_3_9, f2_3_10, f2_3_11⟩ := str12 HS2_3.out
  have hl2_3 := HS2_3.out.lt
  obtain ⟨f3_3_0, f3_3_1, f3_3_2, f3_3_3, f3_3_4, f3_3_5, f3_3_6, f3_3_7, f3_3_8, f3_3_9, f3_3_10, f3_3_11⟩ := str12 HS3_3.out
  have hl3_3 := HS3_3.out.lt
  rw [HQN.out] at hP2 hE2
  dsimp only at hP2 hE2
  have HP1_3 := Lib.hid (HP1_2.out.next hb3)
  have hE1 := HE1_2.out.next hb3
  clear HP1_2 HE1_2
  have HP2_3 := Lib.hid hP2
  obtain ⟨e1, o1, Ax, nx, cx, Ay, ny, cy, rfl, he1, hx, hy, hf1, hf2⟩ := ans2_at hE1
  obtain ⟨e2, o2, Au, nu, cu, Av, nv, cv, rfl, he2, hu, hv, hf3, hf4⟩ := ans2_at hE2
  have HF1 := Lib.hid hf1
  have HF2 := Lib.hid hf2
  have HF3 := Lib.hid hf3
  have HF4 := Lib.hid hf4
  have HX := Lib.hid hx
  have HY := Lib.hid hy
  have HU := Lib.hid hu
  have HV := Lib.hid hv
  clear hP2 hE1 hE2 hb3 hx hy hu hv hf1 hf2 hf3 hf4
  go_wp2_with fail
  refine Reg.wp_region_vals (R := ext) (W := W3) [Reg.eqv (.slice (some ⟨e1, o1, none⟩) 2 c2), Reg.eqv (.pointer (some ⟨e1, o1, none⟩)), Reg.eqv (.agg #[.int .i64 r1.2.err, .int .i64 r1.2.cell.kind, .slice Ax nx cx, .int .i64 r1.2.cell.lo, .int .i64 r1.2.cell.hi, .int .i64 r1.2.cell.val]), Reg.eqv (.slice (some ⟨e2, o2, none⟩) 2 c4), Reg.eqv (.pointer (some ⟨e2, o2 + 6, none⟩)), Reg.eqv (.agg #[.int .i64 q2.2.err, .int .i64 q2.2.cell.kind, .slice Av nv cv, .int .i64 q2.2.cell.lo, .int .i64 q2.2.cell.hi, .int .i64 q2.2.cell.val]), Reg.eqv (.bool p1), Reg.eqv (.bool p1), Reg.when (p1 = true) (Reg.eqv (.slice (some ⟨e1, o1, none⟩) 2 c2)), Reg.when (p1 = true) (Reg.eqv (.pointer (some ⟨e1, o1 + 6, none⟩))), Reg.when (p1 = true) (Reg.eqv (.agg #[.int .i64 r2.2.err, .int .i64 r2.2.cell.kind, .slice Ay ny cy, .int .i64 r2.2.cell.lo, .int .i64 r2.2.cell.hi, .int .i64 r2.2.cell.val])), Reg.when (p1 = true) (Reg.eqv (.slice (some ⟨e2, o2, none⟩) 2 c4)), Reg.when (p1 = true) (Reg.eqv (.pointer (some ⟨e2, o2, none⟩))), Reg.when (p1 = true) (Reg.eqv (.agg #[.int .i64 q1.2.err, .int .i64 q1.2.cell.kind, .slice Au nu cu, .int .i64 q1.2.cell.lo, .int .i64 q1.2.cell.hi, .int .i64 q1.2.cell.val])), Reg.when (p1 = true) (Reg.eqv (.bool p2)), Reg.eqv (.bool (p1 && p2)), Reg.eqv (.bool (p1 && p2)), Reg.when (((p1 && p2)) = true) (Reg.eqv (.slice A1 n1 c1)), Reg.when (((p1 && p2)) = true) (Reg.eqv (.slice A3 n3 c3)), Reg.when (((p1 && p2)) = true) (Reg.eqv (.bool p3)), Reg.eqv (.bool (((p1 && p2)) && p3)), Reg.eqv (.bool (((p1 && p2)) && p3))] 48 [[(8, none)], [(27, some 0)], [(28, some 1)], [(10, none)], [(30, some 3)], [(31, some 4)], [(29, some 2), (32, some 5)], [(33, some 6)], [(8, none), (34, some 7)], [(35, some 8), (34, some 7)], [(36, some 9), (34, some 7)], [(10, none), (34, some 7)], [(38, some 11), (34, some 7)], [(39, some 12), (34, some 7)], [(37, some 10), (40, some 13), (34, some 7)], [(34, some 7), (41, some 14)], [(42, some 15)], [(7, none), (43, some 16)], [(9, none), (43, some 16)], [(44, some 17), (45, some 18), (43, some 16)], [(43, some 16), (46, some 19)], [(47, some 20)]] rfl (by kernel_rfl) (by kernel_rfl) (by kernel_rfl) ?_ [some 27, some 28, some 29, some 30, some 31, some 32, some 33, some 34, some 35, some 36, some 37, some 38, some 39, some 40, some 41, some 42, some 43, some 44, some 45, some 46, some 47, some 6] (by kernel_rfl) ?_
  · refine ⟨?_, ?_, ?_, ?_, ?_, ?_, ?_, ?_, ?_, ?_, ?_, ?_, ?_, ?_, ?_, ?_, ?_, ?_, ?_, ?_, ?_, ?_, trivial⟩
    · intro ax wx hx hs
      obtain ⟨e8, -⟩ := hs
      have g8 := Reg.ev (v := .slice (some ⟨e1, o1, none⟩) 2 c2) e8
      exact Reg.obl_free rfl (Reg.wp_eqv (Option.some_ne_none _) (by go_simp) rfl)
    · intro ax wx hx hs
      obtain ⟨e27, -⟩ := hs
      have g27 := Reg.ev (v := .slice (some ⟨e1, o1, none⟩) 2 c2) e27
      exact Reg.obl_free rfl (Reg.wp_eqv (Option.some_ne_none _) (by go_simp) rfl)
    · intro ax wx hx hs
      obtain ⟨e28, -⟩ := hs
      have g28 := Reg.ev (v := .pointer (some ⟨e1, o1, none⟩)) e28
      obtain ⟨u0_0, u0_1, u0_2, u0_3, u0_4, u0_5⟩ := HF1.out
      replace u0_0 := (hx.cell (p := ⟨e1, o1, none⟩) he1).trans u0_0
      replace u0_1 := (hx.cell (p := ⟨e1, o1 + 1, none⟩) he1).trans u0_1
      replace u0_2 := (hx.cell (p := ⟨e1, o1 + 2, none⟩) he1).trans u0_2
      replace u0_3 := (hx.cell (p := ⟨e1, o1 + 3, none⟩) he1).trans u0_3
      replace u0_4 := (hx.cell (p := ⟨e1, o1 + 4, none⟩) he1).trans u0_4
      replace u0_5 := (hx.cell (p := ⟨e1, o1 + 5, none⟩) he1).trans u0_5
      obtain ⟨u1_0, u1_1, u1_2, u1_3, u1_4, u1_5⟩ := HF2.out
      replace u1_0 := (hx.cell (p := ⟨e1, o1 + 6, none⟩) he1).trans u1_0
      replace u1_1 := (hx.cell (p := ⟨e1, o1 + 7, none⟩) he1).trans u1_1
      replace u1_2 := (hx.cell (p := ⟨e1, o1 + 8, none⟩) he1).trans u1_2
      replace u1_3 := (hx.cell (p := ⟨e1, o1 + 9, none⟩) he1).trans u1_3
      replace u1_4 := (hx.cell (p := ⟨e1, o1 + 10, none⟩) he1).trans u1_4
      replace u1_5 := (hx.cell (p := ⟨e1, o1 + 11, none⟩) he1).trans u1_5
      obtain ⟨u2_0, u2_1, u2_2, u2_3, u2_4, u2_5⟩ := HF3.out
      replace u2_0 := (hx.cell (p := ⟨e2, o2, none⟩) he2).trans u2_0
      replace u2_1 := (hx.cell (p := ⟨e2, o2 + 1, none⟩) he2).trans u2_1
      replace u2_2 := (hx.cell (p := ⟨e2, o2 + 2, none⟩) he2).trans u2_2
      replace u2_3 := (hx.cell (p := ⟨e2, o2 + 3, none⟩) he2).trans u2_3
      replace u2_4 := (hx.cell (p := ⟨e2, o2 + 4, none⟩) he2).trans u2_4
      replace u2_5 := (hx.cell (p := ⟨e2, o2 + 5, none⟩) he2).trans u2_5
      obtain ⟨u3_0, u3_1, u3_2, u3_3, u3_4, u3_5⟩ := HF4.out
      replace u3_0 := (hx.cell (p := ⟨e2, o2 + 6, none⟩) he2).trans u3_0
      replace u3_1 := (hx.cell (p := ⟨e2, o2 + 7, none⟩) he2).trans u3_1
      replace u3_2 := (hx.cell (p := ⟨e2, o2 + 8, none⟩) he2).trans u3_2
      replace u3_3 := (hx.cell (p := ⟨e2, o2 + 9, none⟩) he2).trans u3_3
      replace u3_4 := (hx.cell (p := ⟨e2, o2 + 10, none⟩) he2).trans u3_4
      replace u3_5 := (hx.cell (p := ⟨e2, o2 + 11, none⟩) he2).trans u3_5
      exact Reg.obl_free rfl (Reg.wp_eqv (Option.some_ne_none _) (by go_simp) rfl)
    · intro ax wx hx hs
      obtain ⟨e10, -⟩ := hs
      have g10 := Reg.ev (v := .slice (some ⟨e2, o2, none⟩) 2 c4) e10
      exact Reg.obl_free rfl (Reg.wp_eqv (Option.some_ne_none _) (by go_simp) rfl)
    · intro ax wx hx hs
      obtain ⟨e30, -⟩ := hs
      have g30 := Reg.ev (v := .slice (some ⟨e2, o2, none⟩) 2 c4) e30
      exact Reg.obl_free rfl (Reg.wp_eqv (Option.some_ne_none _) (by go_simp) rfl)
    · intro ax wx hx hs
      obtain ⟨e31, -⟩ := hs
      have g31 := Reg.ev (v := .pointer (some ⟨e2, o2 + 6, none⟩)) e31
      obtain ⟨u0_0, u0_1, u0_2, u0_3, u0_4, u0_5⟩ := HF1.out
      replace u0_0 := (hx.cell (p := ⟨e1, o1, none⟩) he1).trans u0_0
      replace u0_1 := (hx.cell (p := ⟨e1, o1 + 1, none⟩) he1).trans u0_1
      replace u0_2 := (hx.cell (p := ⟨e1, o1 + 2, none⟩) he1).trans u0_2
      replace u0_3 := (hx.cell (p := ⟨e1, o1 + 3, none⟩) he1).trans u0_3
      replace u0_4 := (hx.cell (p := ⟨e1, o1 + 4, none⟩) he1).trans u0_4
      replace u0_5 := (hx.cell (p := ⟨e1, o1 + 5, none⟩) he1).trans u0_5
      obtain ⟨u1_0, u1_1, u1_2, u1_3, u1_4, u1_5⟩ := HF2.out
      replace u1_0 := (hx.cell (p := ⟨e1, o1 + 6, none⟩) he1).trans u1_0
      replace u1_1 := (hx.cell (p := ⟨e1, o1 + 7, none⟩) he1).trans u1_1
      replace u1_2 := (hx.cell (p := ⟨e1, o1 + 8, none⟩) he1).trans u1_2
      replace u1_3 := (hx.cell (p := ⟨e1, o1 + 9, none⟩) he1).trans u1_3
      replace u1_4 := (hx.cell (p := ⟨e1, o1 + 10, none⟩) he1).trans u1_4
      replace u1_5 := (hx.cell (p := ⟨e1, o1 + 11, none⟩) he1).trans u1_5
      obtain ⟨u2_0, u2_1, u2_2, u2_3, u2_4, u2_5⟩ := HF3.out
      replace u2_0 := (hx.cell (p := ⟨e2, o2, none⟩) he2).trans u2_0
      replace u2_1 := (hx.cell (p := ⟨e2, o2 + 1, none⟩) he2).trans u2_1
      replace u2_2 := (hx.cell (p := ⟨e2, o2 + 2, none⟩) he2).trans u2_2
      replace u2_3 := (hx.cell (p := ⟨e2, o2 + 3, none⟩) he2).trans u2_3
      replace u2_4 := (hx.cell (p := ⟨e2, o2 + 4, none⟩) he2).trans u2_4
      replace u2_5 := (hx.cell (p := ⟨e2, o2 + 5, none⟩) he2).trans u2_5
      obtain ⟨u3_0, u3_1, u3_2, u3_3, u3_4, u3_5⟩ := HF4.out
      replace u3_0 := (hx.cell (p := ⟨e2, o2 + 6, none⟩) he2).trans u3_0
      replace u3_1 := (hx.cell (p := ⟨e2, o2 + 7, none⟩) he2).trans u3_1
      replace u3_2 := (hx.cell (p := ⟨e2, o2 + 8, none⟩) he2).trans u3_2
      replace u3_3 := (hx.cell (p := ⟨e2, o2 + 9, none⟩) he2).trans u3_3
      replace u3_4 := (hx.cell (p := ⟨e2, o2 + 10, none⟩) he2).trans u3_4
      replace u3_5 := (hx.cell (p := ⟨e2, o2 + 11, none⟩) he2).trans u3_5
      exact Reg.obl_free rfl (Reg.wp_eqv (Option.some_ne_none _) (by go_simp) rfl)
    · intro ax wx hx hs
      obtain ⟨e29, e32, -⟩ := hs
      have g29 := Reg.ev (v := .agg #[.int .i64 r1.2.err, .int .i64 r1.2.cell.kind, .slice Ax nx cx, .int .i64 r1.2.cell.lo, .int .i64 r1.2.cell.hi, .int .i64 r1.2.cell.val]) e29
      have g32 := Reg.ev (v := .agg #[.int .i64 q2.2.err, .int .i64 q2.2.cell.kind, .slice Av nv cv, .int .i64 q2.2.cell.lo, .int .i64 q2.2.cell.hi, .int .i64 q2.2.cell.val]) e32
      refine Reg.obl_free rfl ?_
      have hx' : Below W3.heap.size W3 wx := hx
      go_simp
      refine (SameAnswer_any r1.2 q2.2 Ax Av nx cx nv cv  W3.heap.size W3.heap.size _ (HX.out.below hx') hx'.size (HV.out.below hx') hx'.size).mono ?_
      rintro e wy ⟨rfl, hby⟩
      rw [HP1.out]
      exact Reg.done (Option.some_ne_none _) rfl hby
    · intro ax wx hx hs
      obtain ⟨e33, -⟩ := hs
      have g33 := Reg.ev (v := .bool p1) e33
      exact Reg.obl_free rfl (Reg.wp_eqv (Option.some_ne_none _) (by go_simp) rfl)
    · intro ax wx hx hs
      obtain ⟨e8, e34, -⟩ := hs
      refine Reg.obl_may rfl rfl e34 rfl ?_
      intro hC
      have g8 := Reg.ev (v := .slice (some ⟨e1, o1, none⟩) 2 c2) e8
      have g34 := Reg.ev (v := .bool p1) e34
      exact Reg.wp_eqv (Option.some_ne_none _) (by go_simp) rfl
    · intro ax wx hx hs
      obtain ⟨e35, e34, -⟩ := hs
      refine Reg.obl_may rfl rfl e34 rfl ?_
      intro hC
      have g35 := Reg.ev (v := .slice (some ⟨e1, o1, none⟩) 2 c2) (e35.1 (by first | exact hC | exact hC.1 | exact hC.1.1 | exact hC.1.1.1))
      have g34 := Reg.ev (v := .bool p1) e34
      exact Reg.wp_eqv (Option.some_ne_none _) (by go_simp) rfl
    · intro ax wx hx hs
      obtain ⟨e36, e34, -⟩ := hs
      refine Reg.obl_may rfl rfl e34 rfl ?_
      intro hC
      have g36 := Reg.ev (v := .pointer (some ⟨e1, o1 + 6, none⟩)) (e36.1 (by first | exact hC | exact hC.1 | exact hC.1.1 | exact hC.1.1.1))
      have g34 := Reg.ev (v := .bool p1) e34
      obtain ⟨u0_0, u0_1, u0_2, u0_3, u0_4, u0_5⟩ := HF1.out
      replace u0_0 := (hx.cell (p := ⟨e1, o1, none⟩) he1).trans u0_0
      replace u0_1 := (hx.cell (p := ⟨e1, o1 + 1, none⟩) he1).trans u0_1
      replace u0_2 := (hx.cell (p := ⟨e1, o1 + 2, none⟩) he1).trans u0_2
      replace u0_3 := (hx.cell (p := ⟨e1, o1 + 3, none⟩) he1).trans u0_3
      replace u0_4 := (hx.cell (p := ⟨e1, o1 + 4, none⟩) he1).trans u0_4
      replace u0_5 := (hx.cell (p := ⟨e1, o1 + 5, none⟩) he1).trans u0_5
      obtain ⟨u1_0, u1_1, u1_2, u1_3, u1_4, u1_5⟩ := HF2.out
      replace u1_0 := (hx.cell (p := ⟨e1, o1 + 6, none⟩) he1).trans u1_0
      replace u1_1 := (hx.cell (p := ⟨e1, o1 + 7, none⟩) he1).trans u1_1
      replace u1_2 := (hx.cell (p := ⟨e1, o1 + 8, none⟩) he1).trans u1_2
      replace u1_3 := (hx.cell (p := ⟨e1, o1 + 9, none⟩) he1).trans u1_3
      replace u1_4 := (hx.cell (p := ⟨e1, o1 + 10, none⟩) he1).trans u1_4
      replace u1_5 := (hx.cell (p := ⟨e1, o1 + 11, none⟩) he1).trans u1_5
      obtain ⟨u2_0, u2_1, u2_2, u2_3, u2_4, u2_5⟩ := HF3.out
      replace u2_0 := (hx.cell (p := ⟨e2, o2, none⟩) he2).trans u2_0
      replace u2_1 := (hx.cell (p := ⟨e2, o2 + 1, none⟩) he2).trans u2_1
      replace u2_2 := (hx.cell (p := ⟨e2, o2 + 2, none⟩) he2).trans u2_2
      replace u2_3 := (hx.cell (p := ⟨e2, o2 + 3, none⟩) he2).trans u2_3
      replace u2_4 := (hx.cell (p := ⟨e2, o2 + 4, none⟩) he2).trans u2_4
      replace u2_5 := (hx.cell (p := ⟨e2, o2 + 5, none⟩) he2).trans u2_5
      obtain ⟨u3_0, u3_1, u3_2, u3_3, u3_4, u3_5⟩ := HF4.out
      replace u3_0 := (hx.cell (p := ⟨e2, o2 + 6, none⟩) he2).trans u3_0
      replace u3_1 := (hx.cell (p := ⟨e2, o2 + 7, none⟩) he2).trans u3_1
      replace u3_2 := (hx.cell (p := ⟨e2, o2 + 8, none⟩) he2).trans u3_2
      replace u3_3 := (hx.cell (p := ⟨e2, o2 + 9, none⟩) he2).trans u3_3
      replace u3_4 := (hx.cell (p := ⟨e2, o2 + 10, none⟩) he2).trans u3_4
      replace u3_5 := (hx.cell (p := ⟨e2, o2 + 11, none⟩) he2).trans u3_5
      exact Reg.wp_eqv (Option.some_ne_none _) (by go_simp) rfl
    · intro ax wx hx hs
      obtain ⟨e10, e34, -⟩ := hs
      refine Reg.obl_may rfl rfl e34 rfl ?_
      intro hC
      have g10 := Reg.ev (v := .slice (some ⟨e2, o2, none⟩) 2 c4) e10
      have g34 := Reg.ev (v := .bool p1) e34
      exact Reg.wp_eqv (Option.some_ne_none _) (by go_simp) rfl
    · intro ax wx hx hs
      obtain ⟨e38, e34, -⟩ := hs
      refine Reg.obl_may rfl rfl e34 rfl ?_
      intro hC
      have g38 := Reg.ev (v := .slice (some ⟨e2, o2, none⟩) 2 c4) (e38.1 (by first | exact hC | exact hC.1 | exact hC.1.1 | exact hC.1.1.1))
      have g34 := Reg.ev (v := .bool p1) e34
      exact Reg.wp_eqv (Option.some_ne_none _) (by go_simp) rfl
    · intro ax wx hx hs
      obtain ⟨e39, e34, -⟩ := hs
      refine Reg.obl_may rfl rfl e34 rfl ?_
      intro hC
      have g39 := Reg.ev (v := .pointer (some ⟨e2, o2, none⟩)) (e39.1 (by first | exact hC | exact hC.1 | exact hC.1.1 | exact hC.1.1.1))
      have g34 := Reg.ev (v := .bool p1) e34
      obtain ⟨u0_0, u0_1, u0_2, u0_3, u0_4, u0_5⟩ := HF1.out
      replace u0_0 := (hx.cell (p := ⟨e1, o1, none⟩) he1).trans u0_0
      replace u0_1 := (hx.cell (p := ⟨e1, o1 + 1, none⟩) he1).trans u0_1
      replace u0_2 := (hx.cell (p := ⟨e1, o1 + 2, none⟩) he1).trans u0_2
      replace u0_3 := (hx.cell (p := ⟨e1, o1 + 3, none⟩) he1).trans u0_3
      replace u0_4 := (hx.cell (p := ⟨e1, o1 + 4, none⟩) he1).trans u0_4
      replace u0_5 := (hx.cell (p := ⟨e1, o1 + 5, none⟩) he1).trans u0_5
      obtain ⟨u1_0, u1_1, u1_2, u1_3, u1_4, u1_5⟩ := HF2.out
      replace u1_0 := (hx.cell (p := ⟨e1, o1 + 6, none⟩) he1).trans u1_0
      replace u1_1 := (hx.cell (p := ⟨e1, o1 + 7, none⟩) he1).trans u1_1
      replace u1_2 := (hx.cell (p := ⟨e1, o1 + 8, none⟩) he1).trans u1_2
      replace u1_3 := (hx.cell (p := ⟨e1, o1 + 9, none⟩) he1).trans u1_3
      replace u1_4 := (hx.cell (p := ⟨e1, o1 + 10, none⟩) he1).trans u1_4
      replace u1_5 := (hx.cell (p := ⟨e1, o1 + 11, none⟩) he1).trans u1_5
      obtain ⟨u2_0, u2_1, u2_2, u2_3, u2_4, u2_5⟩ := HF3.out
      replace u2_0 := (hx.cell (p := ⟨e2, o2, none⟩) he2).trans u2_0
      replace u2_1 := (hx.cell (p := ⟨e2, o2 + 1, none⟩) he2).trans u2_1
      replace u2_2 := (hx.cell (p := ⟨e2, o2 + 2, none⟩) he2).trans u2_2
      replace u2_3 := (hx.cell (p := ⟨e2, o2 + 3, none⟩) he2).trans u2_3
      replace u2_4 := (hx.cell (p := ⟨e2, o2 + 4, none⟩) he2).trans u2_4
      replace u2_5 := (hx.cell (p := ⟨e2, o2 + 5, none⟩) he2).trans u2_5
      obtain ⟨u3_0, u3_1, u3_2, u3_3, u3_4, u3_5⟩ := HF4.out
      replace u3_0 := (hx.cell (p := ⟨e2, o2 + 6, none⟩) he2).trans u3_0
      replace u3_1 := (hx.cell (p := ⟨e2, o2 + 7, none⟩) he2).trans u3_1
      replace u3_2 := (hx.cell (p := ⟨e2, o2 + 8, none⟩) he2).trans u3_2
      replace u3_3 := (hx.cell (p := ⟨e2, o2 + 9, none⟩) he2).trans u3_3
      replace u3_4 := (hx.cell (p := ⟨e2, o2 + 10, none⟩) he2).trans u3_4
      replace u3_5 := (hx.cell (p := ⟨e2, o2 + 11, none⟩) he2).trans u3_5
      exact Reg.wp_eqv (Option.some_ne_none _) (by go_simp) rfl
    · intro ax wx hx hs
      obtain ⟨e37, e40, e34, -⟩ := hs
      refine Reg.obl_may rfl rfl e34 rfl ?_
      intro hC
      have g37 := Reg.ev (v := .agg #[.int .i64 r2.2.err, .int .i64 r2.2.cell.kind, .slice Ay ny cy, .int .i64 r2.2.cell.lo, .int .i64 r2.2.cell.hi, .int .i64 r2.2.cell.val]) (e37.1 (by first | exact hC | exact hC.1 | exact hC.1.1 | exact hC.1.1.1))
      have g40 := Reg.ev (v := .agg #[.int .i64 q1.2.err, .int .i64 q1.2.cell.kind, .slice Au nu cu, .int .i64 q1.2.cell.lo, .int .i64 q1.2.cell.hi, .int .i64 q1.2.cell.val]) (e40.1 (by first | exact hC | exact hC.1 | exact hC.1.1 | exact hC.1.1.1))
      have g34 := Reg.ev (v := .bool p1) e34
      have hx' : Below W3.heap.size W3 wx := hx
      go_simp
      refine (SameAnswer_any r2.2 q1.2 Ay Au ny cy nu cu  W3.heap.size W3.heap.size _ (HY.out.below hx') hx'.size (HU.out.below hx') hx'.size).mono ?_
      rintro e wy ⟨rfl, hby⟩
      rw [HP2.out]
      exact Reg.done (Option.some_ne_none _) rfl hby
    · intro ax wx hx hs
      obtain ⟨e34, e41, -⟩ := hs
      have g34 := Reg.ev (v := .bool p1) e34
      refine Reg.obl_free rfl ?_
      rcases Bool.eq_false_or_eq_true p1 with hG | hG
      · rw [hG] at g34
        have g41 := Reg.ev (v := .bool p2) (e41.1 (by first | exact hG | exact ⟨hC, hG⟩))
        exact Reg.wp_eqv (c := .bool p2) (Option.some_ne_none _) (by go_simp) (by show _ = Value.bool _; rw [hG]; rfl)
      · rw [hG] at g34
        exact Reg.wp_eqv (c := .bool false) (Option.some_ne_none _) (by go_simp) (by show _ = Value.bool _; rw [hG]; rfl)
    · intro ax wx hx hs
      obtain ⟨e42, -⟩ := hs
      have g42 := Reg.ev (v := .bool (p1 && p2)) e42
      exact Reg.obl_free rfl (Reg.wp_eqv (Option.some_ne_none _) (by go_simp) rfl)
    · intro ax wx hx hs
      obtain ⟨e7, e43, -⟩ := hs
      refine Reg.obl_may rfl rfl e43 rfl ?_
      intro hC
      have g7 := Reg.ev (v := .slice A1 n1 c1) e7
      have g43 := Reg.ev (v := .bool (p1 && p2)) e43
      exact Reg.wp_eqv (Option.some_ne_none _) (by go_simp) rfl
    · intro ax wx hx hs
      obtain ⟨e9, e43, -⟩ := hs
      refine Reg.obl_may rfl rfl e43 rfl ?_
      intro hC
      have g9 := Reg.ev (v := .slice A3 n3 c3) e9
      have g43 := Reg.ev (v := .bool (p1 && p2)) e43
      exact Reg.wp_eqv (Option.some_ne_none _) (by go_simp) rfl
    · intro ax wx hx hs
      obtain ⟨e44, e45, e43, -⟩ := hs
      refine Reg.obl_may rfl rfl e43 rfl ?_
      intro hC
      have g44 := Reg.ev (v := .slice A1 n1 c1) (e44.1 (by first | exact hC | exact hC.1 | exact hC.1.1 | exact hC.1.1.1))
      have g45 := Reg.ev (v := .slice A3 n3 c3) (e45.1 (by first | exact hC | exact hC.1 | exact hC.1.1 | exact hC.1.1.1))
      have g43 := Reg.ev (v := .bool (p1 && p2)) e43
      have hx' : Below W3.heap.size W3 wx := hx
      go_simp
      refine (Same_any A1 A3 n1 c1 n3 c3 wx.heap.size wx.heap.size r2.1 q2.1 _ (HP1_3.out.next hx') (Nat.le_refl _) (HP2_3.out.next hx') (Nat.le_refl _) (by rw [← HP1_3.out.len]; exact HRL.out)).mono ?_
      rintro e wy ⟨rfl, hby⟩
      rw [HP3.out]
      exact Reg.done (Option.some_ne_none _) rfl hby
    · intro ax wx hx hs
      obtain ⟨e43, e46, -⟩ := hs
      have g43 := Reg.ev (v := .bool (p1 && p2)) e43
      refine Reg.obl_free rfl ?_
      rcases Bool.eq_false_or_eq_true ((p1 && p2)) with hG | hG
      · rw [hG] at g43
        have g46 := Reg.ev (v := .bool p3) (e46.1 (by first | exact hG | exact ⟨hC, hG⟩))
        exact Reg.wp_eqv (c := .bool p3) (Option.some_ne_none _) (by go_simp) (by show _ = Value.bool _; rw [hG]; rfl)
      · rw [hG] at g43
        exact Reg.wp_eqv (c := .bool false) (Option.some_ne_none _) (by go_simp) (by show _ = Value.bool _; rw [hG]; rfl)
    · intro ax wx hx hs
      obtain ⟨e47, -⟩ := hs
      have g47 := Reg.ev (v := .bool (((p1 && p2)) && p3)) e47
      exact Reg.obl_free rfl (Reg.wp_eqv (Option.some_ne_none _) (by go_simp) rfl)
  · intro W4 hwf
    simp only [Reg.Fin]
    rintro _ rfl _ rfl _ rfl _ rfl _ rfl _ rfl _ rfl _ rfl v35 h35 v36 h36 v37 h37 v38 h38 v39 h39 v40 h40 v41 h41 _ rfl _ rfl v44 h44 v45 h45 v46 h46 _ rfl _ rfl
    go_simp
    have hwf' : Below W3.heap.size W3 W4 := hwf
    have HBe := bstep HB_3.out hwf'
    clear hwf hwf'
    go_wp2_with fail
    go_ret
    exact ⟨rfl, HBe⟩
end Go.Proofs.YtghgccgpgonlmaaDoor.Modes
namespace Go.Proofs.YtghgccgpgonlmaaDoor.modesTight
open Go.RowKit ModelW
set_option linter.unusedVariables false
theorem one_ok (m : Int) (n : Nat) (h0 : 0 ≤ m) (h1 : m < 4) : (ModelP.oneP m n).key.size ≤ maxLen ∧ (ModelP.oneP m n).data.length ≤ 1 ∧ (In64 (ModelP.oneP m n).act ∧ In64 (ModelP.oneP m n).lo ∧ In64 (ModelP.oneP m n).hi ∧ In64 (ModelP.oneP m n).n) := by
  rcases ModesP.four m h0 h1 with rfl | rfl | rfl | rfl
  all_goals refine ⟨by show (1 : Nat) ≤ maxLen; unfold maxLen; omega, by simp [ModelP.oneP], ?_⟩
  all_goals simp only [ModelP.oneP, In64]
  all_goals simp
theorem counter_small : Small ModelP.counterP := ⟨by decide, by intro p hp; simp only [ModelP.counterP, List.mem_cons, List.not_mem_nil, or_false] at hp; subst hp; decide⟩
theorem counter_rel (w : World) (B : Nat) : PairE.rel w B [.string ⟨#[97]⟩, .int .i64 2, .slice none 0 0, .int .i64 0, .int .i64 9, .int .i64 3] ⟨⟨#[97]⟩, ⟨2, [], 0, 9, 3⟩⟩ := ⟨none, 0, 0, rfl, Bytes.none_ _ _, by show (1 : Nat) ≤ maxLen; unfold maxLen; omega, by simp only [In64]; omega⟩
theorem counter_rises : ModelP.Rises ModelP.counterP := List.pairwise_singleton _ _
set_option maxRecDepth 100000 in
set_option maxHeartbeats 2000000 in
theorem way_live (x y a b : Int) (w : World) (hxa : x % 4 = a) (hyb : y % 4 = b) (hx0 : 0 ≤ x) (hx1 : x < 256) (hy0 : 0 ≤ y) (hy1 : y < 256) (ha0 : 0 ≤ a) (ha1 : a < 4) (hb0 : 0 ≤ b) (hb1 : b < 4) (hT : Modes.Tab w) (hg : 0 < w.heap.size) (hc : ModesP.compat a b = true) :
    Calls Tryd.prog 4 #[.int .u8 x, .int .u8 y] w fun e w' => e = .returned (.bool true) ∧ Below w.heap.size w w' := by
  have HT := Lib.hid hT
  clear hT
  go_enter Tryd.func4, Tryd.ntmps4
  go_wp2_with (first | (go_at_call 13; refine (Modes.compat_any _ _ _ HT.out).mono ?_; rintro e w9 ⟨rfl, rfl⟩) | (go_at_call 8; refine (Live10.live_any _ HT.out hg).mono ?_; rintro e w9 ⟨rfl, hb⟩))
  go_ret
  exact ⟨rfl, hb⟩
set_option maxRecDepth 100000 in
set_option maxHeartbeats 2000000 in
theorem way_no (x y a b : Int) (w : World) (hxa : x % 4 = a) (hyb : y % 4 = b) (hx0 : 0 ≤ x) (hx1 : x < 256) (hy0 : 0 ≤ y) (hy1 : y < 256) (ha0 : 0 ≤ a) (ha1 : a < 4) (hb0 : 0 ≤ b) (hb1 : b < 4) (hT : Modes.Tab w) (hg : 0 < w.heap.size) (hc : ModesP.compat a b = false) (hfa : a ≠ 1) (hfb : b ≠ 1) (hf : ModelP.swapM ModelP.counterP (ModelP.oneP a 1) (ModelP.oneP b 2) = false) :
    Calls Tryd.prog 4 #[.int .u8 x, .int .u8 y] w fun e w' => e = .returned (.bool true) ∧ Below w.heap.size w w' := by
  have HT := Lib.hid hT
  have HOA := Lib.hid (one_ok a 1 (by omega) (by omega))
  have HOB := Lib.hid (one_ok b 2 (by omega) (by omega))
  obtain ⟨s1, hs1⟩ : ∃ s, ModelP.swapM ModelP.counterP ⟨(ModelP.oneP a 1).act, (ModelP.oneP a 1).key, (ModelP.oneP a 1).data, (ModelP.oneP a 1).lo, (ModelP.oneP a 1).hi, (ModelP.oneP a 1).n⟩ ⟨(ModelP.oneP b 2).act, (ModelP.oneP b 2).key, (ModelP.oneP b 2).data, (ModelP.oneP b 2).lo, (ModelP.oneP b 2).hi, (ModelP.oneP b 2).n⟩ = s := ⟨_, rfl⟩
  have HS1 := Lib.hid hs1
  have hs1f : s1 = false := by rw [← hs1]; exact hf
  subst hs1f
  have HF := Lib.hid hf
  have HCR := Lib.hid counter_rises
  have HCS := Lib.hid counter_small
  clear hT hs1 hf
  go_enter Tryd.func4, Tryd.ntmps4
  go_wp2_with (go_at_call 13; refine (Modes.compat_any _ _ _ HT.out).mono ?_; rintro e w9 ⟨rfl, rfl⟩)
  generalize hW0 : ((w).alloc (.cells #[.string ⟨#[97]⟩, .int .i64 2, .slice none 0 0, .int .i64 0, .int .i64 9, .int .i64 3] 36)).alloc (.cells #[.int .i64 3, .string ⟨#[97]⟩, .slice none 0 0, .int .i64 0, .int .i64 0, .int .i64 0] 25) = W0
  have HS0_0 : Hid (Str W0 (w.heap.size) #[.string ⟨#[97]⟩, .int .i64 2, .slice none 0 0, .int .i64 0, .int .i64 9, .int .i64 3]) := Lib.hid (by rw [← hW0]; have := (Str.new (w) #[.string ⟨#[97]⟩, .int .i64 2, .slice none 0 0, .int .i64 0, .int .i64 9, .int .i64 3] 36).alloc (.cells #[.int .i64 3, .string ⟨#[97]⟩, .slice none 0 0, .int .i64 0, .int .i64 0, .int .i64 0] 25); simpa using this)
  have HS1_0 : Hid (Str W0 (w.heap.size + 1) #[.int .i64 3, .string ⟨#[97]⟩, .slice none 0 0, .int .i64 0, .int .i64 0, .int .i64 0]) := Lib.hid (by rw [← hW0]; have := Str.new ((w).alloc (.cells #[.string ⟨#[97]⟩, .int .i64 2, .slice none 0 0, .int .i64 0, .int .i64 9, .int .i64 3] 36)) #[.int .i64 3, .string ⟨#[97]⟩, .slice none 0 0, .int .i64 0, .int .i64 0, .int .i64 0] 25; simpa using this)
  have HB_0 : Hid (Below w.heap.size w W0) := Lib.hid (by rw [← hW0]; exact balloc (balloc (bsame w) _) _)
  have hw_0 := HB_0.out.size
  have hz0 : W0.heap.size = w.heap.size + 1 + 1 := by rw [← hW0]; simp
  clear hW0
  obtain ⟨f0_0_0, f0_0_1, f0_0_2, f0_0_3, f0_0_4, f0_0_5⟩ := str6 HS0_0.out
  have hl0_0 := HS0_0.out.lt
  obtain ⟨f1_0_0, f1_0_1, f1_0_2, f1_0_3, f1_0_4, f1_0_5⟩ := str6 HS1_0.out
  have hl1_0 := HS1_0.out.lt
  refine (Modes.one_any a 1 _ (by omega) (by omega) (.inl rfl)).mono ?_
  rintro e W1 ⟨Aa, na, ca, rfl, hya, hb1⟩
  have HS0_1 := Lib.hid (HS0_0.out.next hb1)
  have HS1_1 := Lib.hid (HS1_0.out.next hb1)
  have HB_1 := Lib.hid (bstep HB_0.out hb1)
  have hw_1 := HB_1.out.size
  have hws_1 := (hb1).size
  clear f0_0_0 f0_0_1 f0_0_2 f0_0_3 f0_0_4 f0_0_5 HS0_0 f1_0_0 f1_0_1 f1_0_2 f1_0_3 f1_0_4 f1_0_5 HS1_0
  clear hb1
  obtain ⟨f0_1_0, f0_1_1, f0_1_2, f0_1_3, f0_1_4, f0_1_5⟩ := str6 HS0_1.out
  have hl0_1 := HS0_1.out.lt
  obtain ⟨f1_1_0, f1_1_1, f1_1_2, f1_1_3, f1_1_4, f1_1_5⟩ := str6 HS1_1.out
  have hl1_1 := HS1_1.out.lt
  have HYa_1 := Lib.hid (hya)
  clear hya
  simp only [opV]
  go_wp2_with fail
  refine (Modes.one_any b 2 _ (by omega) (by omega) (.inr rfl)).mono ?_
  rintro e W2 ⟨Ab, nb, cb, rfl, hyb, hb2⟩
  have HS0_2 := Lib.hid (HS0_1.out.next hb2)
  have HS1_2 := Lib.hid (HS1_1.out.next hb2)
  have HB_2 := Lib.hid (bstep HB_1.out hb2)
  have hw_2 := HB_2.out.size
  have hws_2 := (hb2).size
  have HYa_2 := Lib.hid (HYa_1.out.next hb2)
  clear HYa_1
  clear f0_1_0 f0_1_1 f0_1_2 f0_1_3 f0_1_4 f0_1_5 HS0_1 f1_1_0 f1_1_1 f1_1_2 f1_1_3 f1_1_4 f1_1_5 HS1_1
  clear hb2
  obtain ⟨f0_2_0, f0_2_1, f0_2_2, f0_2_3, f0_2_4, f0_2_5⟩ := str6 HS0_2.out
  have hl0_2 := HS0_2.out.lt
  obtain ⟨f1_2_0, f1_2_1, f1_2_2, f1_2_3, f1_2_4, f1_2_5⟩ := str6 HS1_2.out
  have hl1_2 := HS1_2.out.lt
  have HYb_2 := Lib.hid (hyb)
  clear hyb
  simp only [opV]
  go_wp2_with fail
  refine (Modes.Swap_any (some ⟨w.heap.size, 0, none⟩) 1 1 W2.heap.size ModelP.counterP (ModelP.oneP a 1).act (ModelP.oneP a 1).key (ModelP.oneP a 1).data (ModelP.oneP a 1).lo (ModelP.oneP a 1).hi (ModelP.oneP a 1).n Aa na ca W2.heap.size (ModelP.oneP b 2).act (ModelP.oneP b 2).key (ModelP.oneP b 2).data (ModelP.oneP b 2).lo (ModelP.oneP b 2).hi (ModelP.oneP b 2).n Ab nb cb W2.heap.size _ (pair_one HS0_2.out (counter_rel _ _)) (Nat.le_refl _) HCR.out HCS.out HYa_2.out (Nat.le_refl _) HOA.out.1 HOA.out.2.2 (by have h1 := HYa_2.out.len; have h2 := HOA.out.2.1; omega) HYb_2.out (Nat.le_refl _) HOB.out.1 HOB.out.2.2 (by have h1 := HYb_2.out.len; have h2 := HOB.out.2.1; omega) (by decide)).mono ?_
  rintro e W3 ⟨rfl, hb3⟩
  rw [HS1.out]
  have HS0_3 := Lib.hid (HS0_2.out.next hb3)
  have HS1_3 := Lib.hid (HS1_2.out.next hb3)
  have HB_3 := Lib.hid (bstep HB_2.out hb3)
  have hw_3 := HB_3.out.size
  have hws_3 := (hb3).size
  have HYa_3 := Lib.hid (HYa_2.out.next hb3)
  have HYb_3 := Lib.hid (HYb_2.out.next hb3)
  clear HYa_2 HYb_2
  clear f0_2_0 f0_2_1 f0_2_2 f0_2_3 f0_2_4 f0_2_5 HS0_2 f1_2_0 f1_2_1 f1_2_2 f1_2_3 f1_2_4 f1_2_5 HS1_2
  clear hb3
  obtain ⟨f0_3_0, f0_3_1, f0_3_2, f0_3_3, f0_3_4, f0_3_5⟩ := str6 HS0_3.out
  have hl0_3 := HS0_3.out.lt
  obtain ⟨f1_3_0, f1_3_1, f1_3_2, f1_3_3, f1_3_4, f1_3_5⟩ := str6 HS1_3.out
  have hl1_3 := HS1_3.out.lt
  go_wp2_with fail
  refine (Live10.live_any _ (HT.out.below HB_3.out hg) (Nat.lt_of_lt_of_le hg HB_3.out.size)).mono ?_
  rintro e W4 ⟨rfl, hb4⟩
  have HS0_4 := Lib.hid (HS0_3.out.next hb4)
  have HS1_4 := Lib.hid (HS1_3.out.next hb4)
  have HB_4 := Lib.hid (bstep HB_3.out hb4)
  have hw_4 := HB_4.out.size
  have hws_4 := (hb4).size
  have HYa_4 := Lib.hid (HYa_3.out.next hb4)
  have HYb_4 := Lib.hid (HYb_3.out.next hb4)
  clear HYa_3 HYb_3
  clear f0_3_0 f0_3_1 f0_3_2 f0_3_3 f0_3_4 f0_3_5 HS0_3 f1_3_0 f1_3_1 f1_3_2 f1_3_3 f1_3_4 f1_3_5 HS1_3
  clear hb4
  obtain ⟨f0_4_0, f0_4_1, f0_4_2, f0_4_3, f0_4_4, f0_4_5⟩ := str6 HS0_4.out
  have hl0_4 := HS0_4.out.lt
  obtain ⟨f1_4_0, f1_4_1, f1_4_2, f1_4_3, f1_4_4, f1_4_5⟩ := str6 HS1_4.out
  have hl1_4 := HS1_4.out.lt
  go_wp2_with fail
  go_ret
  exact ⟨rfl, HB_4.out⟩
set_option maxRecDepth 100000 in
set_option maxHeartbeats 2000000 in
theorem way_both (x y a b : Int) (w : World) (hxa : x % 4 = a) (hyb : y % 4 = b) (hx0 : 0 ≤ x) (hx1 : x < 256) (hy0 : 0 ≤ y) (hy1 : y < 256) (ha0 : 0 ≤ a) (ha1 : a < 4) (hb0 : 0 ≤ b) (hb1 : b < 4) (hT : Modes.Tab w) (hg : 0 < w.heap.size) (hc : ModesP.compat a b = false) (hfa : a = 1) (hfb : b = 1) (hf : ModelP.swapM [] (ModelP.oneP 1 1) (ModelP.oneP 1 2) = false) :
    Calls Tryd.prog 4 #[.int .u8 x, .int .u8 y] w fun e w' => e = .returned (.bool true) ∧ Below w.heap.size w w' := by
  subst hfa
  subst hfb
  have HT := Lib.hid hT
  have HOA := Lib.hid (one_ok 1 1 (by omega) (by omega))
  have HOB := Lib.hid (one_ok 1 2 (by omega) (by omega))
  obtain ⟨s1, hs1⟩ : ∃ s, ModelP.swapM ModelP.counterP ⟨(ModelP.oneP 1 1).act, (ModelP.oneP 1 1).key, (ModelP.oneP 1 1).data, (ModelP.oneP 1 1).lo, (ModelP.oneP 1 1).hi, (ModelP.oneP 1 1).n⟩ ⟨(ModelP.oneP 1 2).act, (ModelP.oneP 1 2).key, (ModelP.oneP 1 2).data, (ModelP.oneP 1 2).lo, (ModelP.oneP 1 2).hi, (ModelP.oneP 1 2).n⟩ = s := ⟨_, rfl⟩
  have HS1 := Lib.hid hs1
  have HF := Lib.hid hf
  have HCR := Lib.hid counter_rises
  have HCS := Lib.hid counter_small
  clear hT hs1 hf
  go_enter Tryd.func4, Tryd.ntmps4
  go_wp2_with (go_at_call 13; refine (Modes.compat_any _ _ _ HT.out).mono ?_; rintro e w9 ⟨rfl, rfl⟩)
  generalize hW0 : ((w).alloc (.cells #[.string ⟨#[97]⟩, .int .i64 2, .slice none 0 0, .int .i64 0, .int .i64 9, .int .i64 3] 36)).alloc (.cells #[.int .i64 3, .string ⟨#[97]⟩, .slice none 0 0, .int .i64 0, .int .i64 0, .int .i64 0] 25) = W0
  have HS0_0 : Hid (Str W0 (w.heap.size) #[.string ⟨#[97]⟩, .int .i64 2, .slice none 0 0, .int .i64 0, .int .i64 9, .int .i64 3]) := Lib.hid (by rw [← hW0]; have := (Str.new (w) #[.string ⟨#[97]⟩, .int .i64 2, .slice none 0 0, .int .i64 0, .int .i64 9, .int .i64 3] 36).alloc (.cells #[.int .i64 3, .string ⟨#[97]⟩, .slice none 0 0, .int .i64 0, .int .i64 0, .int .i64 0] 25); simpa using this)
  have HS1_0 : Hid (Str W0 (w.heap.size + 1) #[.int .i64 3, .string ⟨#[97]⟩, .slice none 0 0, .int .i64 0, .int .i64 0, .int .i64 0]) := Lib.hid (by rw [← hW0]; have := Str.new ((w).alloc (.cells #[.string ⟨#[97]⟩, .int .i64 2, .slice none 0 0, .int .i64 0, .int .i64 9, .int .i64 3] 36)) #[.int .i64 3, .string ⟨#[97]⟩, .slice none 0 0, .int .i64 0, .int .i64 0, .int .i64 0] 25; simpa using this)
  have HB_0 : Hid (Below w.heap.size w W0) := Lib.hid (by rw [← hW0]; exact balloc (balloc (bsame w) _) _)
  have hw_0 := HB_0.out.size
  have hz0 : W0.heap.size = w.heap.size + 1 + 1 := by rw [← hW0]; simp
  clear hW0
  obtain ⟨f0_0_0, f0_0_1, f0_0_2, f0_0_3, f0_0_4, f0_0_5⟩ := str6 HS0_0.out
  have hl0_0 := HS0_0.out.lt
  obtain ⟨f1_0_0, f1_0_1, f1_0_2, f1_0_3, f1_0_4, f1_0_5⟩ := str6 HS1_0.out
  have hl1_0 := HS1_0.out.lt
  refine (Modes.one_any 1 1 _ (by omega) (by omega) (.inl rfl)).mono ?_
  rintro e W1 ⟨Aa, na, ca, rfl, hya, hb1⟩
  have HS0_1 := Lib.hid (HS0_0.out.next hb1)
  have HS1_1 := Lib.hid (HS1_0.out.next hb1)
  have HB_1 := Lib.hid (bstep HB_0.out hb1)
  have hw_1 := HB_1.out.size
  have hws_1 := (hb1).size
  clear f0_0_0 f0_0_1 f0_0_2 f0_0_3 f0_0_4 f0_0_5 HS0_0 f1_0_0 f1_0_1 f1_0_2 f1_0_3 f1_0_4 f1_0_5 HS1_0
  clear hb1
  obtain ⟨f0_1_0, f0_1_1, f0_1_2, f0_1_3, f0_1_4, f0_1_5⟩ := str6 HS0_1.out
  have hl0_1 := HS0_1.out.lt
  obtain ⟨f1_1_0, f1_1_1, f1_1_2, f1_1_3, f1_1_4, f1_1_5⟩ := str6 HS1_1.out
  have hl1_1 := HS1_1.out.lt
  have HYa_1 := Lib.hid (hya)
  clear hya
  simp only [opV]
  go_wp2_with fail
  refine (Modes.one_any 1 2 _ (by omega) (by omega) (.inr rfl)).mono ?_
  rintro e W2 ⟨Ab, nb, cb, rfl, hyb, hb2⟩
  have HS0_2 := Lib.hid (HS0_1.out.next hb2)
  have HS1_2 := Lib.hid (HS1_1.out.next hb2)
  have HB_2 := Lib.hid (bstep HB_1.out hb2)
  have hw_2 := HB_2.out.size
  have hws_2 := (hb2).size
  have HYa_2 := Lib.hid (HYa_1.out.next hb2)
  clear HYa_1
  clear f0_1_0 f0_1_1 f0_1_2 f0_1_3 f0_1_4 f0_1_5 HS0_1 f1_1_0 f1_1_1 f1_1_2 f1_1_3 f1_1_4 f1_1_5 HS1_1
  clear hb2
  obtain ⟨f0_2_0, f0_2_1, f0_2_2, f0_2_3, f0_2_4, f0_2_5⟩ := str6 HS0_2.out
  have hl0_2 := HS0_2.out.lt
  obtain ⟨f1_2_0, f1_2_1, f1_2_2, f1_2_3, f1_2_4, f1_2_5⟩ := str6 HS1_2.out
  have hl1_2 := HS1_2.out.lt
  have HYb_2 := Lib.hid (hyb)
  clear hyb
  simp only [opV]
  go_wp2_with fail
  refine (Modes.Swap_any (some ⟨w.heap.size, 0, none⟩) 1 1 W2.heap.size ModelP.counterP (ModelP.oneP 1 1).act (ModelP.oneP 1 1).key (ModelP.oneP 1 1).data (ModelP.oneP 1 1).lo (ModelP.oneP 1 1).hi (ModelP.oneP 1 1).n Aa na ca W2.heap.size (ModelP.oneP 1 2).act (ModelP.oneP 1 2).key (ModelP.oneP 1 2).data (ModelP.oneP 1 2).lo (ModelP.oneP 1 2).hi (ModelP.oneP 1 2).n Ab nb cb W2.heap.size _ (pair_one HS0_2.out (counter_rel _ _)) (Nat.le_refl _) HCR.out HCS.out HYa_2.out (Nat.le_refl _) HOA.out.1 HOA.out.2.2 (by have h1 := HYa_2.out.len; have h2 := HOA.out.2.1; omega) HYb_2.out (Nat.le_refl _) HOB.out.1 HOB.out.2.2 (by have h1 := HYb_2.out.len; have h2 := HOB.out.2.1; omega) (by decide)).mono ?_
  rintro e W3 ⟨rfl, hb3⟩
  rw [HS1.out]
  have HS0_3 := Lib.hid (HS0_2.out.next hb3)
  have HS1_3 := Lib.hid (HS1_2.out.next hb3)
  have HB_3 := Lib.hid (bstep HB_2.out hb3)
  have hw_3 := HB_3.out.size
  have hws_3 := (hb3).size
  have HYa_3 := Lib.hid (HYa_2.out.next hb3)
  have HYb_3 := Lib.hid (HYb_2.out.next hb3)
  clear HYa_2 HYb_2
  clear f0_2_0 f0_2_1 f0_2_2 f0_2_3 f0_2_4 f0_2_5 HS0_2 f1_2_0 f1_2_1 f1_2_2 f1_2_3 f1_2_4 f1_2_5 HS1_2
  clear hb3
  obtain ⟨f0_3_0, f0_3_1, f0_3_2, f0_3_3, f0_3_4, f0_3_5⟩ := str6 HS0_3.out
  have hl0_3 := HS0_3.out.lt
  obtain ⟨f1_3_0, f1_3_1, f1_3_2, f1_3_3, f1_3_4, f1_3_5⟩ := str6 HS1_3.out
  have hl1_3 := HS1_3.out.lt
  go_wp2_with fail
  have HOC := Lib.hid (one_ok 1 1 (by omega) (by omega))
  have HOD := Lib.hid (one_ok 1 2 (by omega) (by omega))
  refine (Modes.one_any 1 1 _ (by omega) (by omega) (.inl rfl)).mono ?_
  rintro e W4 ⟨Ac, nc, cc, rfl, hyc, hb4⟩
  have HS0_4 := Lib.hid (HS0_3.out.next hb4)
  have HS1_4 := Lib.hid (HS1_3.out.next hb4)
  have HB_4 := Lib.hid (bstep HB_3.out hb4)
  have hw_4 := HB_4.out.size
  have hws_4 := (hb4).size
  have HYa_4 := Lib.hid (HYa_3.out.next hb4)
  have HYb_4 := Lib.hid (HYb_3.out.next hb4)
  clear HYa_3 HYb_3
  clear f0_3_0 f0_3_1 f0_3_2 f0_3_3 f0_3_4 f0_3_5 HS0_3 f1_3_0 f1_3_1 f1_3_2 f1_3_3 f1_3_4 f1_3_5 HS1_3
  clear hb4
  obtain ⟨f0_4_0, f0_4_1, f0_4_2, f0_4_3, f0_4_4, f0_4_5⟩ := str6 HS0_4.out
  have hl0_4 := HS0_4.out.lt
  obtain ⟨f1_4_0, f1_4_1, f1_4_2, f1_4_3, f1_4_4, f1_4_5⟩ := str6 HS1_4.out
  have hl1_4 := HS1_4.out.lt
  have HYc_4 := Lib.hid (hyc)
  clear hyc
  simp only [opV]
  go_wp2_with fail
  refine (Modes.one_any 1 2 _ (by omega) (by omega) (.inr rfl)).mono ?_
  rintro e W5 ⟨Ad, nd, cd, rfl, hyd, hb5⟩
  have HS0_5 := Lib.hid (HS0_4.out.next hb5)
  have HS1_5 := Lib.hid (HS1_4.out.next hb5)
  have HB_5 := Lib.hid (bstep HB_4.out hb5)
  have hw_5 := HB_5.out.size
  have hws_5 := (hb5).size
  have HYa_5 := Lib.hid (HYa_4.out.next hb5)
  have HYb_5 := Lib.hid (HYb_4.out.next hb5)
  have HYc_5 := Lib.hid (HYc_4.out.next hb5)
  clear HYa_4 HYb_4 HYc_4
  clear f0_4_0 f0_4_1 f0_4_2 f0_4_3 f0_4_4 f0_4_5 HS0_4 f1_4_0 f1_4_1 f1_4_2 f1_4_3 f1_4_4 f1_4_5 HS1_4
  clear hb5
  obtain ⟨f0_5_0, f0_5_1, f0_5_2, f0_5_3, f0_5_4, f0_5_5⟩ := str6 HS0_5.out
  have hl0_5 := HS0_5.out.lt
  obtain ⟨f1_5_0, f1_5_1, f1_5_2, f1_5_3, f1_5_4, f1_5_5⟩ := str6 HS1_5.out
  have hl1_5 := HS1_5.out.lt
  have HYd_5 := Lib.hid (hyd)
  clear hyd
  simp only [opV]
  go_wp2_with fail
  refine (Modes.Swap_any none 0 0 W5.heap.size [] (ModelP.oneP 1 1).act (ModelP.oneP 1 1).key (ModelP.oneP 1 1).data (ModelP.oneP 1 1).lo (ModelP.oneP 1 1).hi (ModelP.oneP 1 1).n Ac nc cc W5.heap.size (ModelP.oneP 1 2).act (ModelP.oneP 1 2).key (ModelP.oneP 1 2).data (ModelP.oneP 1 2).lo (ModelP.oneP 1 2).hi (ModelP.oneP 1 2).n Ad nd cd W5.heap.size _ (Elems.none_ _ _ _) (Nat.le_refl _) List.Pairwise.nil ⟨by decide, by intro p hp; cases hp⟩ HYc_5.out (Nat.le_refl _) HOC.out.1 HOC.out.2.2 (by have h1 := HYc_5.out.len; have h2 := HOC.out.2.1; omega) HYd_5.out (Nat.le_refl _) HOD.out.1 HOD.out.2.2 (by have h1 := HYd_5.out.len; have h2 := HOD.out.2.1; omega) (by decide)).mono ?_
  rintro e W6 ⟨rfl, hb6⟩
  rw [show ModelP.swapM [] ⟨(ModelP.oneP 1 1).act, (ModelP.oneP 1 1).key, (ModelP.oneP 1 1).data, (ModelP.oneP 1 1).lo, (ModelP.oneP 1 1).hi, (ModelP.oneP 1 1).n⟩ ⟨(ModelP.oneP 1 2).act, (ModelP.oneP 1 2).key, (ModelP.oneP 1 2).data, (ModelP.oneP 1 2).lo, (ModelP.oneP 1 2).hi, (ModelP.oneP 1 2).n⟩ = false from HF.out]
  have HS0_6 := Lib.hid (HS0_5.out.next hb6)
  have HS1_6 := Lib.hid (HS1_5.out.next hb6)
  have HB_6 := Lib.hid (bstep HB_5.out hb6)
  have hw_6 := HB_6.out.size
  have hws_6 := (hb6).size
  have HYa_6 := Lib.hid (HYa_5.out.next hb6)
  have HYb_6 := Lib.hid (HYb_5.out.next hb6)
  have HYc_6 := Lib.hid (HYc_5.out.next hb6)
  have HYd_6 := Lib.hid (HYd_5.out.next hb6)
  clear HYa_5 HYb_5 HYc_5 HYd_5
  clear f0_5_0 f0_5_1 f0_5_2 f0_5_3 f0_5_4 f0_5_5 HS0_5 f1_5_0 f1_5_1 f1_5_2 f1_5_3 f1_5_4 f1_5_5 HS1_5
  clear hb6
  obtain ⟨f0_6_0, f0_6_1, f0_6_2, f0_6_3, f0_6_4, f0_6_5⟩ := str6 HS0_6.out
  have hl0_6 := HS0_6.out.lt
  obtain ⟨f1_6_0, f1_6_1, f1_6_2, f1_6_3, f1_6_4, f1_6_5⟩ := str6 HS1_6.out
  have hl1_6 := HS1_6.out.lt
  go_wp2_with fail
  refine (Live10.live_any _ (HT.out.below HB_6.out hg) (Nat.lt_of_lt_of_le hg HB_6.out.size)).mono ?_
  rintro e W7 ⟨rfl, hb7⟩
  have HS0_7 := Lib.hid (HS0_6.out.next hb7)
  have HS1_7 := Lib.hid (HS1_6.out.next hb7)
  have HB_7 := Lib.hid (bstep HB_6.out hb7)
  have hw_7 := HB_7.out.size
  have hws_7 := (hb7).size
  have HYa_7 := Lib.hid (HYa_6.out.next hb7)
  have HYb_7 := Lib.hid (HYb_6.out.next hb7)
  have HYc_7 := Lib.hid (HYc_6.out.next hb7)
  have HYd_7 := Lib.hid (HYd_6.out.next hb7)
  clear HYa_6 HYb_6 HYc_6 HYd_6
  clear f0_6_0 f0_6_1 f0_6_2 f0_6_3 f0_6_4 f0_6_5 HS0_6 f1_6_0 f1_6_1 f1_6_2 f1_6_3 f1_6_4 f1_6_5 HS1_6
  clear hb7
  obtain ⟨f0_7_0, f0_7_1, f0_7_2, f0_7_3, f0_7_4, f0_7_5⟩ := str6 HS0_7.out
  have hl0_7 := HS0_7.out.lt
  obtain ⟨f1_7_0, f1_7_1, f1_7_2, f1_7_3, f1_7_4, f1_7_5⟩ := str6 HS1_7.out
  have hl1_7 := HS1_7.out.lt
  go_wp2_with fail
  go_ret
  exact ⟨rfl, HB_7.out⟩
set_option maxRecDepth 100000 in
set_option maxHeartbeats 2000000 in
theorem way_a (x y a b : Int) (w : World) (hxa : x % 4 = a) (hyb : y % 4 = b) (hx0 : 0 ≤ x) (hx1 : x < 256) (hy0 : 0 ≤ y) (hy1 : y < 256) (ha0 : 0 ≤ a) (ha1 : a < 4) (hb0 : 0 ≤ b) (hb1 : b < 4) (hT : Modes.Tab w) (hg : 0 < w.heap.size) (hc : ModesP.compat a b = false) (hfa : a = 1) (hfb : b ≠ 1) (hf : ModelP.swapM ModelP.counterP ModelP.dropP (ModelP.oneP b 2) = false) :
    Calls Tryd.prog 4 #[.int .u8 x, .int .u8 y] w fun e w' => e = .returned (.bool true) ∧ Below w.heap.size w w' := by
  subst hfa
  have HT := Lib.hid hT
  have HOA := Lib.hid (one_ok 1 1 (by omega) (by omega))
  have HOB := Lib.hid (one_ok b 2 (by omega) (by omega))
  obtain ⟨s1, hs1⟩ : ∃ s, ModelP.swapM ModelP.counterP ⟨(ModelP.oneP 1 1).act, (ModelP.oneP 1 1).key, (ModelP.oneP 1 1).data, (ModelP.oneP 1 1).lo, (ModelP.oneP 1 1).hi, (ModelP.oneP 1 1).n⟩ ⟨(ModelP.oneP b 2).act, (ModelP.oneP b 2).key, (ModelP.oneP b 2).data, (ModelP.oneP b 2).lo, (ModelP.oneP b 2).hi, (ModelP.oneP b 2).n⟩ = s := ⟨_, rfl⟩
  have HS1 := Lib.hid hs1
  have HF := Lib.hid hf
  have HCR := Lib.hid counter_rises
  have HCS := Lib.hid counter_small
  clear hT hs1 hf
  go_enter Tryd.func4, Tryd.ntmps4
  go_wp2_with (go_at_call 13; refine (Modes.compat_any _ _ _ HT.out).mono ?_; rintro e w9 ⟨rfl, rfl⟩)
  generalize hW0 : ((w).alloc (.cells #[.string ⟨#[97]⟩, .int .i64 2, .slice none 0 0, .int .i64 0, .int .i64 9, .int .i64 3] 36)).alloc (.cells #[.int .i64 3, .string ⟨#[97]⟩, .slice none 0 0, .int .i64 0, .int .i64 0, .int .i64 0] 25) = W0
  have HS0_0 : Hid (Str W0 (w.heap.size) #[.string ⟨#[97]⟩, .int .i64 2, .slice none 0 0, .int .i64 0, .int .i64 9, .int .i64 3]) := Lib.hid (by rw [← hW0]; have := (Str.new (w) #[.string ⟨#[97]⟩, .int .i64 2, .slice none 0 0, .int .i64 0, .int .i64 9, .int .i64 3] 36).alloc (.cells #[.int .i64 3, .string ⟨#[97]⟩, .slice none 0 0, .int .i64 0, .int .i64 0, .int .i64 0] 25); simpa using this)
  have HS1_0 : Hid (Str W0 (w.heap.size + 1) #[.int .i64 3, .string ⟨#[97]⟩, .slice none 0 0, .int .i64 0, .int .i64 0, .int .i64 0]) := Lib.hid (by rw [← hW0]; have := Str.new ((w).alloc (.cells #[.string ⟨#[97]⟩, .int .i64 2, .slice none 0 0, .int .i64 0, .int .i64 9, .int .i64 3] 36)) #[.int .i64 3, .string ⟨#[97]⟩, .slice none 0 0, .int .i64 0, .int .i64 0, .int .i64 0] 25; simpa using this)
  have HB_0 : Hid (Below w.heap.size w W0) := Lib.hid (by rw [← hW0]; exact balloc (balloc (bsame w) _) _)
  have hw_0 := HB_0.out.size
  have hz0 : W0.heap.size = w.heap.size + 1 + 1 := by rw [← hW0]; simp
  clear hW0
  obtain ⟨f0_0_0, f0_0_1, f0_0_2, f0_0_3, f0_0_4, f0_0_5⟩ := str6 HS0_0.out
  have hl0_0 := HS0_0.out.lt
  obtain ⟨f1_0_0, f1_0_1, f1_0_2, f1_0_3, f1_0_4, f1_0_5⟩ := str6 HS1_0.out
  have hl1_0 := HS1_0.out.lt
  refine (Modes.one_any 1 1 _ (by omega) (by omega) (.inl rfl)).mono ?_
  rintro e W1 ⟨Aa, na, ca, rfl, hya, hb1⟩
  have HS0_1 := Lib.hid (HS0_0.out.next hb1)
  have HS1_1 := Lib.hid (HS1_0.out.next hb1)
  have HB_1 := Lib.hid (bstep HB_0.out hb1)
  have hw_1 := HB_1.out.size
  have hws_1 := (hb1).size
  clear f0_0_0 f0_0_1 f0_0_2 f0_0_3 f0_0_4 f0_0_5 HS0_0 f1_0_0 f1_0_1 f1_0_2 f1_0_3 f1_0_4 f1_0_5 HS1_0
  clear hb1
  obtain ⟨f0_1_0, f0_1_1, f0_1_2, f0_1_3, f0_1_4, f0_1_5⟩ := str6 HS0_1.out
  have hl0_1 := HS0_1.out.lt
  obtain ⟨f1_1_0, f1_1_1, f1_1_2, f1_1_3, f1_1_4, f1_1_5⟩ := str6 HS1_1.out
  have hl1_1 := HS1_1.out.lt
  have HYa_1 := Lib.hid (hya)
  clear hya
  simp only [opV]
  go_wp2_with fail
  refine (Modes.one_any b 2 _ (by omega) (by omega) (.inr rfl)).mono ?_
  rintro e W2 ⟨Ab, nb, cb, rfl, hyb, hb2⟩
  have HS0_2 := Lib.hid (HS0_1.out.next hb2)
  have HS1_2 := Lib.hid (HS1_1.out.next hb2)
  have HB_2 := Lib.hid (bstep HB_1.out hb2)
  have hw_2 := HB_2.out.size
  have hws_2 := (hb2).size
  have HYa_2 := Lib.hid (HYa_1.out.next hb2)
  clear HYa_1
  clear f0_1_0 f0_1_1 f0_1_2 f0_1_3 f0_1_4 f0_1_5 HS0_1 f1_1_0 f1_1_1 f1_1_2 f1_1_3 f1_1_4 f1_1_5 HS1_1
  clear hb2
  obtain ⟨f0_2_0, f0_2_1, f0_2_2, f0_2_3, f0_2_4, f0_2_5⟩ := str6 HS0_2.out
  have hl0_2 := HS0_2.out.lt
  obtain ⟨f1_2_0, f1_2_1, f1_2_2, f1_2_3, f1_2_4, f1_2_5⟩ := str6 HS1_2.out
  have hl1_2 := HS1_2.out.lt
  have HYb_2 := Lib.hid (hyb)
  clear hyb
  simp only [opV]
  go_wp2_with fail
  refine (Modes.Swap_any (some ⟨w.heap.size, 0, none⟩) 1 1 W2.heap.size ModelP.counterP (ModelP.oneP 1 1).act (ModelP.oneP 1 1).key (ModelP.oneP 1 1).data (ModelP.oneP 1 1).lo (ModelP.oneP 1 1).hi (ModelP.oneP 1 1).n Aa na ca W2.heap.size (ModelP.oneP b 2).act (ModelP.oneP b 2).key (ModelP.oneP b 2).data (ModelP.oneP b 2).lo (ModelP.oneP b 2).hi (ModelP.oneP b 2).n Ab nb cb W2.heap.size _ (pair_one HS0_2.out (counter_rel _ _)) (Nat.le_refl _) HCR.out HCS.out HYa_2.out (Nat.le_refl _) HOA.out.1 HOA.out.2.2 (by have h1 := HYa_2.out.len; have h2 := HOA.out.2.1; omega) HYb_2.out (Nat.le_refl _) HOB.out.1 HOB.out.2.2 (by have h1 := HYb_2.out.len; have h2 := HOB.out.2.1; omega) (by decide)).mono ?_
  rintro e W3 ⟨rfl, hb3⟩
  rw [HS1.out]
  have HS0_3 := Lib.hid (HS0_2.out.next hb3)
  have HS1_3 := Lib.hid (HS1_2.out.next hb3)
  have HB_3 := Lib.hid (bstep HB_2.out hb3)
  have hw_3 := HB_3.out.size
  have hws_3 := (hb3).size
  have HYa_3 := Lib.hid (HYa_2.out.next hb3)
  have HYb_3 := Lib.hid (HYb_2.out.next hb3)
  clear HYa_2 HYb_2
  clear f0_2_0 f0_2_1 f0_2_2 f0_2_3 f0_2_4 f0_2_5 HS0_2 f1_2_0 f1_2_1 f1_2_2 f1_2_3 f1_2_4 f1_2_5 HS1_2
  clear hb3
  obtain ⟨f0_3_0, f0_3_1, f0_3_2, f0_3_3, f0_3_4, f0_3_5⟩ := str6 HS0_3.out
  have hl0_3 := HS0_3.out.lt
  obtain ⟨f1_3_0, f1_3_1, f1_3_2, f1_3_3, f1_3_4, f1_3_5⟩ := str6 HS1_3.out
  have hl1_3 := HS1_3.out.lt
  go_wp2_with fail
  refine Reg.wp_region_vals (R := ext) (W := W3) [Reg.eqv (.slice (some ⟨w.heap.size, 0, none⟩) 1 1), Reg.eqv (.agg #[.int .i64 3, .string ⟨#[97]⟩, .slice none 0 0, .int .i64 0, .int .i64 0, .int .i64 0]), Reg.eqv (.int .i64 b), Reg.opW (ModelP.oneP b 2), Reg.eqv (.bool false), Reg.eqv (.bool false)] 58 [[(7, none)], [(8, none)], [(6, none)], [(43, some 2)], [(41, some 0), (42, some 1), (44, some 3)], [(45, some 4)]] rfl (by kernel_rfl) (by kernel_rfl) (by kernel_rfl) ?_ [some 41, some 42, some 43, some 44, some 45, some 9] (by kernel_rfl) ?_
  · refine ⟨?_, ?_, ?_, ?_, ?_, ?_, trivial⟩
    · intro ax wx hx hs
      obtain ⟨e7, -⟩ := hs
      have g7 := Reg.ev (v := .slice (some ⟨w.heap.size, 0, none⟩) 1 1) e7
      exact Reg.obl_free rfl (Reg.wp_eqv (Option.some_ne_none _) (by go_simp) rfl)
    · intro ax wx hx hs
      obtain ⟨e8, -⟩ := hs
      have g8 := Reg.ev (v := .pointer (some ⟨w.heap.size + 1, 0, none⟩)) e8
      obtain ⟨l0, l1, l2, l3, l4, l5⟩ := str6 (HS1_3.out.next hx)
      exact Reg.obl_free rfl (Reg.wp_eqv (Option.some_ne_none _) (by go_simp) rfl)
    · intro ax wx hx hs
      obtain ⟨e6, -⟩ := hs
      have g6 := Reg.ev (v := .int .i64 b) e6
      exact Reg.obl_free rfl (Reg.wp_eqv (Option.some_ne_none _) (by go_simp) rfl)
    · intro ax wx hx hs
      obtain ⟨e43, -⟩ := hs
      have g43 := Reg.ev (v := .int .i64 b) e43
      refine Reg.obl_free rfl ?_
      go_simp
      refine (Modes.one_any b 2 _ (by omega) (by omega) (.inr rfl)).mono ?_
      rintro e wy ⟨A2, n2, c2, rfl, hy2, hby⟩
      exact Reg.done (Option.some_ne_none _) ⟨A2, n2, c2, rfl, hy2⟩ hby
    · intro ax wx hx hs
      obtain ⟨e41, e42, e44, -⟩ := hs
      have g41 := Reg.ev (v := .slice (some ⟨w.heap.size, 0, none⟩) 1 1) e41
      have g42 := Reg.ev (v := .agg #[.int .i64 3, .string ⟨#[97]⟩, .slice none 0 0, .int .i64 0, .int .i64 0, .int .i64 0]) e42
      refine Reg.obl_free rfl ?_
      obtain ⟨A2, n2, c2, e44, hy2⟩ := e44
      have g44 := Reg.ev e44
      simp only [opV] at g44
      have hx' : Below W3.heap.size W3 wx := hx
      go_simp
      refine (Modes.Swap_any (some ⟨w.heap.size, 0, none⟩) 1 1 wx.heap.size ModelP.counterP 3 ⟨#[97]⟩ [] 0 0 0 none 0 0 wx.heap.size (ModelP.oneP b 2).act (ModelP.oneP b 2).key (ModelP.oneP b 2).data (ModelP.oneP b 2).lo (ModelP.oneP b 2).hi (ModelP.oneP b 2).n A2 n2 c2 wx.heap.size _ (pair_one (HS0_3.out.next hx') (counter_rel _ _)) (Nat.le_refl _) HCR.out HCS.out (Bytes.none_ _ wx.heap.size) (Nat.le_refl _) (by unfold maxLen; decide) (by unfold In64; omega) (by omega) hy2 (Nat.le_refl _) HOB.out.1 HOB.out.2.2 (by have h1 := hy2.len; have h2 := HOB.out.2.1; omega) (by decide)).mono ?_
      rw [show ModelP.swapM ModelP.counterP ⟨3, ⟨#[97]⟩, [], 0, 0, 0⟩ ⟨(ModelP.oneP b 2).act, (ModelP.oneP b 2).key, (ModelP.oneP b 2).data, (ModelP.oneP b 2).lo, (ModelP.oneP b 2).hi, (ModelP.oneP b 2).n⟩ = false from HF.out]
      rintro e wy ⟨rfl, hby⟩
      exact Reg.done (Option.some_ne_none _) rfl hby
    · intro ax wx hx hs
      obtain ⟨e45, -⟩ := hs
      have g45 := Reg.ev (v := .bool false) e45
      exact Reg.obl_free rfl (Reg.wp_eqv (Option.some_ne_none _) (by go_simp) rfl)
  · intro W4 hwf
    simp only [Reg.Fin]
    rintro _ rfl _ rfl _ rfl v44 h44 _ rfl _ rfl
    go_simp
    have hwf' : Below W3.heap.size W3 W4 := hwf
    have HS0_4 := Lib.hid (HS0_3.out.next hwf')
    have HS1_4 := Lib.hid (HS1_3.out.next hwf')
    have HB_4 := Lib.hid (bstep HB_3.out hwf')
    have hw_4 := HB_4.out.size
    have hws_4 := (hwf').size
    have HYa_4 := Lib.hid (HYa_3.out.next hwf')
    have HYb_4 := Lib.hid (HYb_3.out.next hwf')
    clear HYa_3 HYb_3
    clear f0_3_0 f0_3_1 f0_3_2 f0_3_3 f0_3_4 f0_3_5 HS0_3 f1_3_0 f1_3_1 f1_3_2 f1_3_3 f1_3_4 f1_3_5 HS1_3
    clear hwf'
    obtain ⟨f0_4_0, f0_4_1, f0_4_2, f0_4_3, f0_4_4, f0_4_5⟩ := str6 HS0_4.out
    have hl0_4 := HS0_4.out.lt
    obtain ⟨f1_4_0, f1_4_1, f1_4_2, f1_4_3, f1_4_4, f1_4_5⟩ := str6 HS1_4.out
    have hl1_4 := HS1_4.out.lt
    clear hwf
    go_wp2_with fail
    refine (Live10.live_any _ (HT.out.below HB_4.out hg) (Nat.lt_of_lt_of_le hg HB_4.out.size)).mono ?_
    rintro e W5 ⟨rfl, hb5⟩
    have HS0_5 := Lib.hid (HS0_4.out.next hb5)
    have HS1_5 := Lib.hid (HS1_4.out.next hb5)
    have HB_5 := Lib.hid (bstep HB_4.out hb5)
    have hw_5 := HB_5.out.size
    have hws_5 := (hb5).size
    have HYa_5 := Lib.hid (HYa_4.out.next hb5)
    have HYb_5 := Lib.hid (HYb_4.out.next hb5)
    clear HYa_4 HYb_4
    clear f0_4_0 f0_4_1 f0_4_2 f0_4_3 f0_4_4 f0_4_5 HS0_4 f1_4_0 f1_4_1 f1_4_2 f1_4_3 f1_4_4 f1_4_5 HS1_4
    clear hb5
    obtain ⟨f0_5_0, f0_5_1, f0_5_2, f0_5_3, f0_5_4, f0_5_5⟩ := str6 HS0_5.out
    have hl0_5 := HS0_5.out.lt
    obtain ⟨f1_5_0, f1_5_1, f1_5_2, f1_5_3, f1_5_4, f1_5_5⟩ := str6 HS1_5.out
    have hl1_5 := HS1_5.out.lt
    go_wp2_with fail
    go_ret
    exact ⟨rfl, HB_5.out⟩
set_option maxRecDepth 100000 in
set_option maxHeartbeats 2000000 in
theorem way_b (x y a b : Int) (w : World) (hxa : x % 4 = a) (hyb : y % 4 = b) (hx0 : 0 ≤ x) (hx1 : x < 256) (hy0 : 0 ≤ y) (hy1 : y < 256) (ha0 : 0 ≤ a) (ha1 : a < 4) (hb0 : 0 ≤ b) (hb1 : b < 4) (hT : Modes.Tab w) (hg : 0 < w.heap.size) (hc : ModesP.compat a b = false) (hfa : a ≠ 1) (hfb : b = 1) (hf : ModelP.swapM ModelP.counterP (ModelP.oneP a 1) ModelP.dropP = false) :
    Calls Tryd.prog 4 #[.int .u8 x, .int .u8 y] w fun e w' => e = .returned (.bool true) ∧ Below w.heap.size w w' := by
  subst hfb
  have HT := Lib.hid hT
  have HOA := Lib.hid (one_ok a 1 (by omega) (by omega))
  have HOB := Lib.hid (one_ok 1 2 (by omega) (by omega))
  obtain ⟨s1, hs1⟩ : ∃ s, ModelP.swapM ModelP.counterP ⟨(ModelP.oneP a 1).act, (ModelP.oneP a 1).key, (ModelP.oneP a 1).data, (ModelP.oneP a 1).lo, (ModelP.oneP a 1).hi, (ModelP.oneP a 1).n⟩ ⟨(ModelP.oneP 1 2).act, (ModelP.oneP 1 2).key, (ModelP.oneP 1 2).data, (ModelP.oneP 1 2).lo, (ModelP.oneP 1 2).hi, (ModelP.oneP 1 2).n⟩ = s := ⟨_, rfl⟩
  have HS1 := Lib.hid hs1
  have HF := Lib.hid hf
  have HCR := Lib.hid counter_rises
  have HCS := Lib.hid counter_small
  clear hT hs1 hf
  go_enter Tryd.func4, Tryd.ntmps4
  go_wp2_with (go_at_call 13; refine (Modes.compat_any _ _ _ HT.out).mono ?_; rintro e w9 ⟨rfl, rfl⟩)
  generalize hW0 : ((w).alloc (.cells #[.string ⟨#[97]⟩, .int .i64 2, .slice none 0 0, .int .i64 0, .int .i64 9, .int .i64 3] 36)).alloc (.cells #[.int .i64 3, .string ⟨#[97]⟩, .slice none 0 0, .int .i64 0, .int .i64 0, .int .i64 0] 25) = W0
  have HS0_0 : Hid (Str W0 (w.heap.size) #[.string ⟨#[97]⟩, .int .i64 2, .slice none 0 0, .int .i64 0, .int .i64 9, .int .i64 3]) := Lib.hid (by rw [← hW0]; have := (Str.new (w) #[.string ⟨#[97]⟩, .int .i64 2, .slice none 0 0, .int .i64 0, .int .i64 9, .int .i64 3] 36).alloc (.cells #[.int .i64 3, .string ⟨#[97]⟩, .slice none 0 0, .int .i64 0, .int .i64 0, .int .i64 0] 25); simpa using this)
  have HS1_0 : Hid (Str W0 (w.heap.size + 1) #[.int .i64 3, .string ⟨#[97]⟩, .slice none 0 0, .int .i64 0, .int .i64 0, .int .i64 0]) := Lib.hid (by rw [← hW0]; have := Str.new ((w).alloc (.cells #[.string ⟨#[97]⟩, .int .i64 2, .slice none 0 0, .int .i64 0, .int .i64 9, .int .i64 3] 36)) #[.int .i64 3, .string ⟨#[97]⟩, .slice none 0 0, .int .i64 0, .int .i64 0, .int .i64 0] 25; simpa using this)
  have HB_0 : Hid (Below w.heap.size w W0) := Lib.hid (by rw [← hW0]; exact balloc (balloc (bsame w) _) _)
  have hw_0 := HB_0.out.size
  have hz0 : W0.heap.size = w.heap.size + 1 + 1 := by rw [← hW0]; simp
  clear hW0
  obtain ⟨f0_0_0, f0_0_1, f0_0_2, f0_0_3, f0_0_4, f0_0_5⟩ := str6 HS0_0.out
  have hl0_0 := HS0_0.out.lt
  obtain ⟨f1_0_0, f1_0_1, f1_0_2, f1_0_3, f1_0_4, f1_0_5⟩ := str6 HS1_0.out
  have hl1_0 := HS1_0.out.lt
  refine (Modes.one_any a 1 _ (by omega) (by omega) (.inl rfl)).mono ?_
  rintro e W1 ⟨Aa, na, ca, rfl, hya, hb1⟩
  have HS0_1 := Lib.hid (HS0_0.out.next hb1)
  have HS1_1 := Lib.hid (HS1_0.out.next hb1)
  have HB_1 := Lib.hid (bstep HB_0.out hb1)
  have hw_1 := HB_1.out.size
  have hws_1 := (hb1).size
  clear f0_0_0 f0_0_1 f0_0_2 f0_0_3 f0_0_4 f0_0_5 HS0_0 f1_0_0 f1_0_1 f1_0_2 f1_0_3 f1_0_4 f1_0_5 HS1_0
  clear hb1
  obtain ⟨f0_1_0, f0_1_1, f0_1_2, f0_1_3, f0_1_4, f0_1_5⟩ := str6 HS0_1.out
  have hl0_1 := HS0_1.out.lt
  obtain ⟨f1_1_0, f1_1_1, f1_1_2, f1_1_3, f1_1_4, f1_1_5⟩ := str6 HS1_1.out
  have hl1_1 := HS1_1.out.lt
  have HYa_1 := Lib.hid (hya)
  clear hya
  simp only [opV]
  go_wp2_with fail
  refine (Modes.one_any 1 2 _ (by omega) (by omega) (.inr rfl)).mono ?_
  rintro e W2 ⟨Ab, nb, cb, rfl, hyb, hb2⟩
  have HS0_2 := Lib.hid (HS0_1.out.next hb2)
  have HS1_2 := Lib.hid (HS1_1.out.next hb2)
  have HB_2 := Lib.hid (bstep HB_1.out hb2)
  have hw_2 := HB_2.out.size
  have hws_2 := (hb2).size
  have HYa_2 := Lib.hid (HYa_1.out.next hb2)
  clear HYa_1
  clear f0_1_0 f0_1_1 f0_1_2 f0_1_3 f0_1_4 f0_1_5 HS0_1 f1_1_0 f1_1_1 f1_1_2 f1_1_3 f1_1_4 f1_1_5 HS1_1
  clear hb2
  obtain ⟨f0_2_0, f0_2_1, f0_2_2, f0_2_3, f0_2_4, f0_2_5⟩ := str6 HS0_2.out
  have hl0_2 := HS0_2.out.lt
  obtain ⟨f1_2_0, f1_2_1, f1_2_2, f1_2_3, f1_2_4, f1_2_5⟩ := str6 HS1_2.out
  have hl1_2 := HS1_2.out.lt
  have HYb_2 := Lib.hid (hyb)
  clear hyb
  simp only [opV]
  go_wp2_with fail
  refine (Modes.Swap_any (some ⟨w.heap.size, 0, none⟩) 1 1 W2.heap.size ModelP.counterP (ModelP.oneP a 1).act (ModelP.oneP a 1).key (ModelP.oneP a 1).data (ModelP.oneP a 1).lo (ModelP.oneP a 1).hi (ModelP.oneP a 1).n Aa na ca W2.heap.size (ModelP.oneP 1 2).act (ModelP.oneP 1 2).key (ModelP.oneP 1 2).data (ModelP.oneP 1 2).lo (ModelP.oneP 1 2).hi (ModelP.oneP 1 2).n Ab nb cb W2.heap.size _ (pair_one HS0_2.out (counter_rel _ _)) (Nat.le_refl _) HCR.out HCS.out HYa_2.out (Nat.le_refl _) HOA.out.1 HOA.out.2.2 (by have h1 := HYa_2.out.len; have h2 := HOA.out.2.1; omega) HYb_2.out (Nat.le_refl _) HOB.out.1 HOB.out.2.2 (by have h1 := HYb_2.out.len; have h2 := HOB.out.2.1; omega) (by decide)).mono ?_
  rintro e W3 ⟨rfl, hb3⟩
  rw [HS1.out]
  have HS0_3 := Lib.hid (HS0_2.out.next hb3)
  have HS1_3 := Lib.hid (HS1_2.out.next hb3)
  have HB_3 := Lib.hid (bstep HB_2.out hb3)
  have hw_3 := HB_3.out.size
  have hws_3 := (hb3).size
  have HYa_3 := Lib.hid (HYa_2.out.next hb3)
  have HYb_3 := Lib.hid (HYb_2.out.next hb3)
  clear HYa_2 HYb_2
  clear f0_2_0 f0_2_1 f0_2_2 f0_2_3 f0_2_4 f0_2_5 HS0_2 f1_2_0 f1_2_1 f1_2_2 f1_2_3 f1_2_4 f1_2_5 HS1_2
  clear hb3
  obtain ⟨f0_3_0, f0_3_1, f0_3_2, f0_3_3, f0_3_4, f0_3_5⟩ := str6 HS0_3.out
  have hl0_3 := HS0_3.out.lt
  obtain ⟨f1_3_0, f1_3_1, f1_3_2, f1_3_3, f1_3_4, f1_3_5⟩ := str6 HS1_3.out
  have hl1_3 := HS1_3.out.lt
  go_wp2_with fail
  refine Reg.wp_region_vals (R := ext) (W := W3) [Reg.eqv (.slice (some ⟨w.heap.size, 0, none⟩) 1 1), Reg.eqv (.int .i64 a), Reg.opW (ModelP.oneP a 1), Reg.eqv (.agg #[.int .i64 3, .string ⟨#[97]⟩, .slice none 0 0, .int .i64 0, .int .i64 0, .int .i64 0]), Reg.eqv (.bool false), Reg.eqv (.bool false)] 58 [[(7, none)], [(5, none)], [(49, some 1)], [(8, none)], [(48, some 0), (50, some 2), (51, some 3)], [(52, some 4)]] rfl (by kernel_rfl) (by kernel_rfl) (by kernel_rfl) ?_ [some 48, some 49, some 50, some 51, some 52, some 9] (by kernel_rfl) ?_
  · refine ⟨?_, ?_, ?_, ?_, ?_, ?_, trivial⟩
    · intro ax wx hx hs
      obtain ⟨e7, -⟩ := hs
      have g7 := Reg.ev (v := .slice (some ⟨w.heap.size, 0, none⟩) 1 1) e7
      exact Reg.obl_free rfl (Reg.wp_eqv (Option.some_ne_none _) (by go_simp) rfl)
    · intro ax wx hx hs
      obtain ⟨e5, -⟩ := hs
      have g5 := Reg.ev (v := .int .i64 a) e5
      exact Reg.obl_free rfl (Reg.wp_eqv (Option.some_ne_none _) (by go_simp) rfl)
    · intro ax wx hx hs
      obtain ⟨e49, -⟩ := hs
      have g49 := Reg.ev (v := .int .i64 a) e49
      refine Reg.obl_free rfl ?_
      go_simp
      refine (Modes.one_any a 1 _ (by omega) (by omega) (.inl rfl)).mono ?_
      rintro e wy ⟨A2, n2, c2, rfl, hy2, hby⟩
      exact Reg.done (Option.some_ne_none _) ⟨A2, n2, c2, rfl, hy2⟩ hby
    · intro ax wx hx hs
      obtain ⟨e8, -⟩ := hs
      have g8 := Reg.ev (v := .pointer (some ⟨w.heap.size + 1, 0, none⟩)) e8
      obtain ⟨l0, l1, l2, l3, l4, l5⟩ := str6 (HS1_3.out.next hx)
      exact Reg.obl_free rfl (Reg.wp_eqv (Option.some_ne_none _) (by go_simp) rfl)
    · intro ax wx hx hs
      obtain ⟨e48, e50, e51, -⟩ := hs
      have g48 := Reg.ev (v := .slice (some ⟨w.heap.size, 0, none⟩) 1 1) e48
      have g51 := Reg.ev (v := .agg #[.int .i64 3, .string ⟨#[97]⟩, .slice none 0 0, .int .i64 0, .int .i64 0, .int .i64 0]) e51
      refine Reg.obl_free rfl ?_
      obtain ⟨A2, n2, c2, e50, hy2⟩ := e50
      have g50 := Reg.ev e50
      simp only [opV] at g50
      have hx' : Below W3.heap.size W3 wx := hx
      go_simp
      refine (Modes.Swap_any (some ⟨w.heap.size, 0, none⟩) 1 1 wx.heap.size ModelP.counterP (ModelP.oneP a 1).act (ModelP.oneP a 1).key (ModelP.oneP a 1).data (ModelP.oneP a 1).lo (ModelP.oneP a 1).hi (ModelP.oneP a 1).n A2 n2 c2 wx.heap.size 3 ⟨#[97]⟩ [] 0 0 0 none 0 0 wx.heap.size _ (pair_one (HS0_3.out.next hx') (counter_rel _ _)) (Nat.le_refl _) HCR.out HCS.out hy2 (Nat.le_refl _) HOA.out.1 HOA.out.2.2 (by have h1 := hy2.len; have h2 := HOA.out.2.1; omega) (Bytes.none_ _ wx.heap.size) (Nat.le_refl _) (by unfold maxLen; decide) (by unfold In64; omega) (by omega) (by decide)).mono ?_
      rw [show ModelP.swapM ModelP.counterP ⟨(ModelP.oneP a 1).act, (ModelP.oneP a 1).key, (ModelP.oneP a 1).data, (ModelP.oneP a 1).lo, (ModelP.oneP a 1).hi, (ModelP.oneP a 1).n⟩ ⟨3, ⟨#[97]⟩, [], 0, 0, 0⟩ = false from HF.out]
      rintro e wy ⟨rfl, hby⟩
      exact Reg.done (Option.some_ne_none _) rfl hby
    · intro ax wx hx hs
      obtain ⟨e52, -⟩ := hs
      have g52 := Reg.ev (v := .bool false) e52
      exact Reg.obl_free rfl (Reg.wp_eqv (Option.some_ne_none _) (by go_simp) rfl)
  · intro W4 hwf
    simp only [Reg.Fin]
    rintro _ rfl _ rfl v50 h50 _ rfl _ rfl _ rfl
    go_simp
    have hwf' : Below W3.heap.size W3 W4 := hwf
    have HS0_4 := Lib.hid (HS0_3.out.next hwf')
    have HS1_4 := Lib.hid (HS1_3.out.next hwf')
    have HB_4 := Lib.hid (bstep HB_3.out hwf')
    have hw_4 := HB_4.out.size
    have hws_4 := (hwf').size
    have HYa_4 := Lib.hid (HYa_3.out.next hwf')
    have HYb_4 := Lib.hid (HYb_3.out.next hwf')
    clear HYa_3 HYb_3
    clear f0_3_0 f0_3_1 f0_3_2 f0_3_3 f0_3_4 f0_3_5 HS0_3 f1_3_0 f1_3_1 f1_3_2 f1_3_3 f1_3_4 f1_3_5 HS1_3
    clear hwf'
    obtain ⟨f0_4_0, f0_4_1, f0_4_2, f0_4_3, f0_4_4, f0_4_5⟩ := str6 HS0_4.out
    have hl0_4 := HS0_4.out.lt
    obtain ⟨f1_4_0, f1_4_1, f1_4_2, f1_4_3, f1_4_4, f1_4_5⟩ := str6 HS1_4.out
    have hl1_4 := HS1_4.out.lt
    clear hwf
    go_wp2_with fail
    refine (Live10.live_any _ (HT.out.below HB_4.out hg) (Nat.lt_of_lt_of_le hg HB_4.out.size)).mono ?_
    rintro e W5 ⟨rfl, hb5⟩
    have HS0_5 := Lib.hid (HS0_4.out.next hb5)
    have HS1_5 := Lib.hid (HS1_4.out.next hb5)
    have HB_5 := Lib.hid (bstep HB_4.out hb5)
    have hw_5 := HB_5.out.size
    have hws_5 := (hb5).size
    have HYa_5 := Lib.hid (HYa_4.out.next hb5)
    have HYb_5 := Lib.hid (HYb_4.out.next hb5)
    clear HYa_4 HYb_4
    clear f0_4_0 f0_4_1 f0_4_2 f0_4_3 f0_4_4 f0_4_5 HS0_4 f1_4_0 f1_4_1 f1_4_2 f1_4_3 f1_4_4 f1_4_5 HS1_4
    clear hb5
    obtain ⟨f0_5_0, f0_5_1, f0_5_2, f0_5_3, f0_5_4, f0_5_5⟩ := str6 HS0_5.out
    have hl0_5 := HS0_5.out.lt
    obtain ⟨f1_5_0, f1_5_1, f1_5_2, f1_5_3, f1_5_4, f1_5_5⟩ := str6 HS1_5.out
    have hl1_5 := HS1_5.out.lt
    go_wp2_with fail
    go_ret
    exact ⟨rfl, HB_5.out⟩
theorem walk (v0 v1 : Value) (a0 a1 : Int) (w : World) (g0 : RU8 w v0 a0) (g1 : RU8 w v1 a1) (hT : Modes.Tab w) (hg : 0 < w.heap.size) :
    Calls Tryd.prog 4 #[v0, v1] w fun e w' => e = .returned (.bool true) ∧ Below w.heap.size w w' := by
  obtain ⟨rfl, x0, x1⟩ := g0
  obtain ⟨rfl, y0, y1⟩ := g1
  obtain ⟨a, ha⟩ : ∃ a, a0 % 4 = a := ⟨_, rfl⟩
  obtain ⟨b, hb⟩ : ∃ b, a1 % 4 = b := ⟨_, rfl⟩
  have ha0 : 0 ≤ a := by omega
  have ha1 : a < 4 := by omega
  have hb0 : 0 ≤ b := by omega
  have hb1 : b < 4 := by omega
  have ea : ((a.toNat : Nat) : Int) = a := Int.toNat_of_nonneg ha0
  have eb : ((b.toNat : Nat) : Int) = b := Int.toNat_of_nonneg hb0
  cases hc : ModesP.compat a b with
  | true => exact way_live a0 a1 a b w ha hb x0 (by omega) y0 (by omega) ha0 ha1 hb0 hb1 hT hg hc
  | false =>
    by_cases ha2 : a = 1
    · by_cases hb2 : b = 1
      · exact way_both a0 a1 a b w ha hb x0 (by omega) y0 (by omega) ha0 ha1 hb0 hb1 hT hg hc ha2 hb2 ModelP.tight_both
      · exact way_a a0 a1 a b w ha hb x0 (by omega) y0 (by omega) ha0 ha1 hb0 hb1 hT hg hc ha2 hb2 (by have := ModelP.tight_a ⟨b.toNat, by omega⟩ (by show b.toNat ≠ 1; omega); rw [← eb]; exact this)
    · by_cases hb2 : b = 1
      · exact way_b a0 a1 a b w ha hb x0 (by omega) y0 (by omega) ha0 ha1 hb0 hb1 hT hg hc ha2 hb2 (by have := ModelP.tight_b ⟨a.toNat, by omega⟩ (by show a.toNat ≠ 1; omega); rw [← ea]; exact this)
      · exact way_no a0 a1 a b w ha hb x0 (by omega) y0 (by omega) ha0 ha1 hb0 hb1 hT hg hc ha2 hb2 (by have := ModelP.tight_no ⟨a.toNat, by omega⟩ ⟨b.toNat, by omega⟩ (by show a.toNat ≠ 1; omega) (by show b.toNat ≠ 1; omega) (by show ModesP.compat (a.toNat : Int) (b.toNat : Int) = false; rw [ea, eb]; exact hc); rw [← ea, ← eb]; exact this)
end Go.Proofs.YtghgccgpgonlmaaDoor.modesTight
