/-
  The walks of package modes: what each function gives, said once.
-/
import Derived.Test.YtmjpdbogpeokkaaDoorProg
import Derived.Test.YtmjpdbogpeokkaaDoorMem
import Derived.Test.YtmjpdbogpeokkaaDoorPModes
namespace Go.Proofs.YtmjpdbogpeokkaaDoor.Modes
open Go.RowKit

/-- the table of package modes lies as its initialiser lays it -/
def Tab (w : World) : Prop := ∀ a b : Nat, a < 4 → b < 4 → w.cell? ⟨0, a * 4 + b, none⟩ = some (.bool (ModesP.compat a b))
theorem Tab.lt {w : World} (h : Tab w) : 0 < w.heap.size := lt_of_cell (h 0 0 (by decide) (by decide))
theorem Tab.below {B : Nat} {w w' : World} (h : Tab w) (hb : Below B w w') (hB : 0 < B) : Tab w' := fun a b ha hb' => (hb.cell (p := ⟨0, a * 4 + b, none⟩) hB).trans (h a b ha hb')

set_option maxHeartbeats 400000 in
theorem is_any (m : Int) (w : World) :
    Calls Tryd.prog 15 #[.int .i64 m] w fun e w' => e = .returned (.bool (ModesP.isM m)) ∧ w = w' := by
  unfold ModesP.isM
  go_enter Tryd.func15, Tryd.ntmps15
  go_wp2
  all_goals go_ret
  all_goals simp_all
  all_goals omega

theorem isM_yes (m : Int) (h0 : 0 ≤ m) (h1 : m < 4) : ModesP.isM m = true := by simp [ModesP.isM, h0, h1]
theorem isM_no (m : Int) (h : m < 0 ∨ 4 ≤ m) : ModesP.isM m = false := by
  unfold ModesP.isM
  rcases h with h | h
  · rw [decide_eq_false (by omega : ¬ 0 ≤ m)]; rfl
  · rw [decide_eq_false (by omega : ¬ m < 4), Bool.and_false]
theorem compat_no (a b : Int) (h : a < 0 ∨ 4 ≤ a ∨ b < 0 ∨ 4 ≤ b) : ModesP.compat a b = false := by
  cases hc : ModesP.compat a b
  · rfl
  · simp [ModesP.compat] at hc
    omega

set_option maxHeartbeats 400000 in
theorem compat_any (a b : Int) (w : World) (hT : Tab w) :
    Calls Tryd.prog 7 #[.int .i64 a, .int .i64 b] w fun e w' => e = .returned (.bool (ModesP.compat a b)) ∧ w = w' := by
  have HT := Lib.hid hT
  clear hT
  by_cases ha : 0 ≤ a ∧ a < 4
  · have ia := isM_yes a ha.1 ha.2
    by_cases hb : 0 ≤ b ∧ b < 4
    · have ib := isM_yes b hb.1 hb.2
      obtain ⟨n, rfl⟩ := Int.eq_ofNat_of_zero_le ha.1
      obtain ⟨m, rfl⟩ := Int.eq_ofNat_of_zero_le hb.1
      have hn : n < 4 := by omega
      have hm : m < 4 := by omega
      have hc := HT.out n m hn hm
      clear ha hb
      go_enter Tryd.func7, Tryd.ntmps7
      go_wp2_with (go_at_call 15; refine (is_any _ _).mono ?_; rintro e w' ⟨rfl, rfl⟩)
      go_ret
      exact ⟨rfl, rfl⟩
    · have ib := isM_no b (by omega)
      have HC := Lib.hid (compat_no a b (by omega))
      go_enter Tryd.func7, Tryd.ntmps7
      go_wp2_with (go_at_call 15; refine (is_any _ _).mono ?_; rintro e w' ⟨rfl, rfl⟩)
      go_ret
      rw [HC.out]
      exact ⟨rfl, rfl⟩
  · have ia := isM_no a (by omega)
    have HC := Lib.hid (compat_no a b (by omega))
    go_enter Tryd.func7, Tryd.ntmps7
    go_wp2_with (go_at_call 15; refine (is_any _ _).mono ?_; rintro e w' ⟨rfl, rfl⟩)
    go_ret
    rw [HC.out]
    exact ⟨rfl, rfl⟩

theorem or_at (s m : Int) (k : Nat) (h0 : 0 ≤ s) (h1 : s < 16) (hk : k < 16) (hm : ModesP.bitOf m = k) : bits .or .i64 s (k : Int) = ModesP.withM s m := by
  obtain ⟨n, rfl⟩ := Int.eq_ofNat_of_zero_le h0
  rw [ModesP.or_i64 n k (by omega) hk, ModesP.withM, hm, Int.toNat_natCast]
theorem and_at (s m : Int) (k : Nat) (h0 : 0 ≤ s) (h1 : s < 16) (hk : k < 16) (hm : ModesP.bitOf m = k) : (bits .and .i64 s (k : Int) != 0) = ModesP.hasM s m := by
  obtain ⟨n, rfl⟩ := Int.eq_ofNat_of_zero_le h0
  rw [ModesP.and_i64 n k (by omega) hk, ModesP.hasM, hm, Int.toNat_natCast, Bool.eq_iff_iff]
  simp

set_option maxHeartbeats 400000 in
theorem with_any (s m : Int) (w : World) (h0 : 0 ≤ s) (h1 : s < 16) (h2 : 0 ≤ m) (h3 : m < 4) :
    Calls Tryd.prog 12 #[.int .i64 s, .int .i64 m] w fun e w' => e = .returned (.int .i64 (ModesP.withM s m)) ∧ w = w' := by
  have ia := isM_yes m h2 h3
  rcases ModesP.four m h2 h3 with rfl | rfl | rfl | rfl
  · have HO := Lib.hid (or_at s 0 1 h0 h1 (by decide) rfl)
    go_enter Tryd.func12, Tryd.ntmps12
    go_wp2_with (go_at_call 15; refine (is_any _ _).mono ?_; rintro e w' ⟨rfl, rfl⟩)
    go_ret
    exact ⟨congrArg (fun n => Ending.returned (.int .i64 n)) HO.out, rfl⟩
  · have HO := Lib.hid (or_at s 1 2 h0 h1 (by decide) rfl)
    go_enter Tryd.func12, Tryd.ntmps12
    go_wp2_with (go_at_call 15; refine (is_any _ _).mono ?_; rintro e w' ⟨rfl, rfl⟩)
    go_ret
    exact ⟨congrArg (fun n => Ending.returned (.int .i64 n)) HO.out, rfl⟩
  · have HO := Lib.hid (or_at s 2 4 h0 h1 (by decide) rfl)
    go_enter Tryd.func12, Tryd.ntmps12
    go_wp2_with (go_at_call 15; refine (is_any _ _).mono ?_; rintro e w' ⟨rfl, rfl⟩)
    go_ret
    exact ⟨congrArg (fun n => Ending.returned (.int .i64 n)) HO.out, rfl⟩
  · have HO := Lib.hid (or_at s 3 8 h0 h1 (by decide) rfl)
    go_enter Tryd.func12, Tryd.ntmps12
    go_wp2_with (go_at_call 15; refine (is_any _ _).mono ?_; rintro e w' ⟨rfl, rfl⟩)
    go_ret
    exact ⟨congrArg (fun n => Ending.returned (.int .i64 n)) HO.out, rfl⟩

set_option maxHeartbeats 400000 in
theorem has_any (s m : Int) (w : World) (h0 : 0 ≤ s) (h1 : s < 16) (h2 : 0 ≤ m) (h3 : m < 4) :
    Calls Tryd.prog 13 #[.int .i64 s, .int .i64 m] w fun e w' => e = .returned (.bool (ModesP.hasM s m)) ∧ w = w' := by
  have ia := isM_yes m h2 h3
  rcases ModesP.four m h2 h3 with rfl | rfl | rfl | rfl
  · have HO := Lib.hid (and_at s 0 1 h0 h1 (by decide) rfl)
    go_enter Tryd.func13, Tryd.ntmps13
    go_wp2_with (go_at_call 15; refine (is_any _ _).mono ?_; rintro e w' ⟨rfl, rfl⟩)
    go_ret
    exact ⟨congrArg (fun n => Ending.returned (.bool n)) HO.out, rfl⟩
  · have HO := Lib.hid (and_at s 1 2 h0 h1 (by decide) rfl)
    go_enter Tryd.func13, Tryd.ntmps13
    go_wp2_with (go_at_call 15; refine (is_any _ _).mono ?_; rintro e w' ⟨rfl, rfl⟩)
    go_ret
    exact ⟨congrArg (fun n => Ending.returned (.bool n)) HO.out, rfl⟩
  · have HO := Lib.hid (and_at s 2 4 h0 h1 (by decide) rfl)
    go_enter Tryd.func13, Tryd.ntmps13
    go_wp2_with (go_at_call 15; refine (is_any _ _).mono ?_; rintro e w' ⟨rfl, rfl⟩)
    go_ret
    exact ⟨congrArg (fun n => Ending.returned (.bool n)) HO.out, rfl⟩
  · have HO := Lib.hid (and_at s 3 8 h0 h1 (by decide) rfl)
    go_enter Tryd.func13, Tryd.ntmps13
    go_wp2_with (go_at_call 15; refine (is_any _ _).mono ?_; rintro e w' ⟨rfl, rfl⟩)
    go_ret
    exact ⟨congrArg (fun n => Ending.returned (.bool n)) HO.out, rfl⟩

theorem fits_stop (s m : Int) (k j : Nat) (h : ModesP.hasM s k = true) (hc : ModesP.compat k m = false) (hk : k < j) : ModesP.fitsUpto s m j = false := by
  induction j with
  | zero => omega
  | succ j ih =>
    rcases Nat.lt_or_eq_of_le (Nat.le_of_lt_succ hk) with hl | rfl
    · simp [ModesP.fitsUpto, ih hl]
    · simp [ModesP.fitsUpto, h, hc]

set_option maxHeartbeats 400000 in
theorem fits_any (s m : Int) (w : World) (hT : Tab w) (h0 : 0 ≤ s) (h1 : s < 16) (h2 : 0 ≤ m) (h3 : m < 4) :
    Calls Tryd.prog 14 #[.int .i64 s, .int .i64 m] w fun e w' => e = .returned (.bool (ModesP.fitsM s m)) ∧ w = w' := by
  have HT := Lib.hid hT
  clear hT
  have ia := isM_yes m h2 h3
  go_enter Tryd.func14, Tryd.ntmps14
  go_wp2_with (go_at_call 15; refine (is_any _ _).mono ?_; rintro e w' ⟨rfl, rfl⟩)
  go_loop [9] (fun i => ∃ k : Nat, k ≤ 4 ∧ i = .int .i64 k ∧ ModesP.fitsUpto s m k = true) (fun i => 4 - (intOf i).toNat)
  case atStart => exact ⟨0, Nat.zero_le _, rfl, rfl⟩
  case round =>
    obtain ⟨k, hk, rfl, hf⟩ := hrel
    have HF := Lib.hid hf
    clear hf
    by_cases hlt : k < 4
    · cases hh : ModesP.hasM s k
      · go_wp2_with (first
          | (go_at_call 13; refine (has_any _ _ _ h0 h1 (by omega) (by omega)).mono ?_; rintro e w' ⟨rfl, rfl⟩)
          | (go_at_call 7; refine (compat_any _ _ _ HT.out).mono ?_; rintro e w' ⟨rfl, rfl⟩))
        go_round
        case rel => exact ⟨k + 1, by omega, by go_num, by simp [ModesP.fitsUpto, HF.out, hh]⟩
        case measure => simp [intOf]; omega
      · cases hc : ModesP.compat k m
        · have HS := Lib.hid (fits_stop s m k 4 hh hc hlt)
          go_wp2_with (first
            | (go_at_call 13; refine (has_any _ _ _ h0 h1 (by omega) (by omega)).mono ?_; rintro e w' ⟨rfl, rfl⟩)
            | (go_at_call 7; refine (compat_any _ _ _ HT.out).mono ?_; rintro e w' ⟨rfl, rfl⟩))
          go_ret
          rw [ModesP.fitsM, HS.out]
          exact ⟨rfl, rfl⟩
        · go_wp2_with (first
            | (go_at_call 13; refine (has_any _ _ _ h0 h1 (by omega) (by omega)).mono ?_; rintro e w' ⟨rfl, rfl⟩)
            | (go_at_call 7; refine (compat_any _ _ _ HT.out).mono ?_; rintro e w' ⟨rfl, rfl⟩))
          go_round
          case rel => exact ⟨k + 1, by omega, by go_num, by simp [ModesP.fitsUpto, HF.out, hc]⟩
          case measure => simp [intOf]; omega
    · obtain rfl : k = 4 := by omega
      go_wp2
      go_ret
      rw [ModesP.fitsM, HF.out]
      exact ⟨rfl, rfl⟩

set_option maxHeartbeats 400000 in
theorem of_any (d : Int) (w : World) :
    Calls Tryd.prog 5 #[.int .i64 d] w fun e w' => e = .returned (.int .i64 (ModesP.ofDo d)) ∧ w = w' := by
  unfold ModesP.ofDo
  by_cases h0 : d = 0
  · subst h0
    go_enter Tryd.func5, Tryd.ntmps5
    go_wp2
    go_ret
    exact ⟨rfl, rfl⟩
  by_cases h1 : d = 1
  · subst h1
    go_enter Tryd.func5, Tryd.ntmps5
    go_wp2
    go_ret
    exact ⟨rfl, rfl⟩
  by_cases h2 : d = 2
  · subst h2
    go_enter Tryd.func5, Tryd.ntmps5
    go_wp2
    go_ret
    exact ⟨rfl, rfl⟩
  by_cases h3 : d = 3
  · subst h3
    go_enter Tryd.func5, Tryd.ntmps5
    go_wp2
    go_ret
    exact ⟨rfl, rfl⟩
  by_cases h4 : d = 4
  · subst h4
    go_enter Tryd.func5, Tryd.ntmps5
    go_wp2
    go_ret
    exact ⟨rfl, rfl⟩
  by_cases h5 : d = 5
  · subst h5
    go_enter Tryd.func5, Tryd.ntmps5
    go_wp2
    go_ret
    exact ⟨rfl, rfl⟩
  rw [if_neg h0, if_neg h1, if_neg h2, if_neg h3, if_neg h4, if_neg h5]
  go_enter Tryd.func5, Tryd.ntmps5
  go_wp2
  go_ret
  exact ⟨rfl, rfl⟩

set_option maxHeartbeats 400000 in
theorem commute_any (d1 d2 : Int) (k1 k2 : ByteArray) (s1 lo1 hi1 n1 s2 lo2 hi2 n2 : Value) (w : World) (hT : Tab w) (hg : 0 < w.heap.size) :
    Calls Tryd.prog 9 #[.agg #[.int .i64 d1, .string k1, s1, lo1, hi1, n1], .agg #[.int .i64 d2, .string k2, s2, lo2, hi2, n2]] w
      fun e w' => e = .returned (.bool (ModesP.commuteM d1 k1 d2 k2)) ∧ Below w.heap.size w w' := by
  have HT := Lib.hid hT
  clear hT
  go_enter Tryd.func9, Tryd.ntmps9
  go_wp2
  go_quiet ((go_at_call 5; exact quietL (of_any _ _)))
  have hT2 : Hid (∀ n, Tab (((w.alloc (.cells #[.int .i64 d1, .string k1, s1, lo1, hi1, n1] 24)).alloc (.cells #[.int .i64 d2, .string k2, s2, lo2, hi2, n2] 24)).drewN n)) :=
    Lib.hid fun n => Tab.below HT.out (bdrewN (balloc (balloc (bsame w) _) _) n) hg
  go_wp2_with (first
    | (go_at_call 15; refine (is_any _ _).mono ?_; rintro e w' ⟨rfl, rfl⟩)
    | (go_at_call 7; refine (compat_any _ _ _ (hT2.out _)).mono ?_; rintro e w' ⟨rfl, rfl⟩))
  all_goals go_ret
  all_goals refine ⟨congrArg (fun b => Ending.returned (.bool b)) ?_, bdrewN (balloc (balloc (bsame w) _) _) _⟩
  all_goals simp_all [ModesP.commuteM]
end Go.Proofs.YtmjpdbogpeokkaaDoor.Modes
