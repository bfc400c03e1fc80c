/-
  The walks of the reference of package modes: Of, Compat, Commute.
-/
import Derived.Test.YtmjpdbogpeokkaaDoorModes
import Derived.Deep.RegionHeld3
import Derived.Deep.RegionWith
namespace Go.Proofs.YtmjpdbogpeokkaaDoor.RefModes
open Go.RowKit

set_option maxHeartbeats 400000 in
theorem compat_any (a b : Int) (w : World) :
    Calls Tryd.prog 8 #[.int .i64 a, .int .i64 b] w fun e w' => e = .returned (.bool (ModesP.compat a b)) ∧ w = w' := by
  go_enter Tryd.func8, Tryd.ntmps8
  go_wp2
  all_goals go_ret
  all_goals refine ⟨congrArg (fun b => Ending.returned (.bool b)) ?_, rfl⟩
  all_goals simp_all [ModesP.compat]

theorem of_lo (d : Int) (h : d < 0 ∨ 5 < d) : ModesP.ofDo d = -1 := by
  unfold ModesP.ofDo
  rw [if_neg (by omega), if_neg (by omega), if_neg (by omega), if_neg (by omega), if_neg (by omega), if_neg (by omega)]

set_option maxHeartbeats 400000 in
theorem of_any (d : Int) (w : World) :
    Calls Tryd.prog 6 #[.int .i64 d] w fun e w' => e = .returned (.int .i64 (ModesP.ofDo d)) ∧ Below w.heap.size w w' := by
  by_cases h : d < 0 ∨ 5 < d
  · have HC := Lib.hid (of_lo d h)
    rcases h with h | h
    · go_enter Tryd.func6, Tryd.ntmps6
      go_wp2
      go_ret
      rw [HC.out]
      exact ⟨rfl, bsame _⟩
    · have h' : ¬ d < 0 := by omega
      go_enter Tryd.func6, Tryd.ntmps6
      go_wp2
      go_ret
      rw [HC.out]
      exact ⟨rfl, bsame _⟩
  · have : d = 0 ∨ d = 1 ∨ d = 2 ∨ d = 3 ∨ d = 4 ∨ d = 5 := by omega
    clear h
    rcases this with rfl | rfl | rfl | rfl | rfl | rfl
    all_goals
      go_enter Tryd.func6, Tryd.ntmps6
      go_wp2
      go_ret
      exact ⟨rfl, balloc (bsame _) _⟩

theorem commute_bad (d1 d2 : Int) (k1 k2 : ByteArray) (h : (d1 < 0 ∨ 5 < d1) ∨ (d2 < 0 ∨ 5 < d2)) : ModesP.commuteM d1 k1 d2 k2 = false := by
  have hm : ModesP.isM (-1) = false := by decide
  rcases h with h | h
  · simp [ModesP.commuteM, of_lo _ h, hm]
  · simp [ModesP.commuteM, of_lo _ h, hm]
theorem isM_of (d : Int) (h : ¬ (d < 0 ∨ 5 < d)) : ModesP.isM (ModesP.ofDo d) = true := by
  have : d = 0 ∨ d = 1 ∨ d = 2 ∨ d = 3 ∨ d = 4 ∨ d = 5 := by omega
  rcases this with rfl | rfl | rfl | rfl | rfl | rfl <;> decide
theorem commute_good (d1 d2 : Int) (k1 k2 : ByteArray) (h1 : ¬ (d1 < 0 ∨ 5 < d1)) (h2 : ¬ (d2 < 0 ∨ 5 < d2)) :
    ModesP.commuteM d1 k1 d2 k2 = (!(k1.toList == k2.toList) || ModesP.compat (ModesP.ofDo d1) (ModesP.ofDo d2)) := by
  simp [ModesP.commuteM, isM_of d1 h1, isM_of d2 h2]

set_option maxHeartbeats 1000000 in
theorem commute_any (d1 d2 : Int) (k1 k2 : ByteArray) (s1 lo1 hi1 n1 s2 lo2 hi2 n2 : Value) (w : World) :
    Calls Tryd.prog 10 #[.agg #[.int .i64 d1, .string k1, s1, lo1, hi1, n1], .agg #[.int .i64 d2, .string k2, s2, lo2, hi2, n2]] w
      fun e w' => e = .returned (.bool (ModesP.commuteM d1 k1 d2 k2)) ∧ Below w.heap.size w w' := by
  by_cases hbad : (d1 < 0 ∨ 5 < d1) ∨ (d2 < 0 ∨ 5 < d2)
  · have HB := Lib.hid (commute_bad d1 d2 k1 k2 hbad)
    have fin : Below w.heap.size w ((w.alloc (.cells #[.int .i64 d1, .string k1, s1, lo1, hi1, n1] 24)).alloc (.cells #[.int .i64 d2, .string k2, s2, lo2, hi2, n2] 24)) := balloc (balloc (bsame _) _) _
    by_cases c1 : d1 < 0
    · go_enter Tryd.func10, Tryd.ntmps10
      go_wp2
      go_ret
      rw [HB.out]
      exact ⟨rfl, fin⟩
    by_cases c2 : 5 < d1
    · go_enter Tryd.func10, Tryd.ntmps10
      go_wp2
      go_ret
      rw [HB.out]
      exact ⟨rfl, fin⟩
    by_cases c3 : d2 < 0
    · go_enter Tryd.func10, Tryd.ntmps10
      go_wp2
      go_ret
      rw [HB.out]
      exact ⟨rfl, fin⟩
    have c4 : 5 < d2 := by omega
    go_enter Tryd.func10, Tryd.ntmps10
    go_wp2
    go_ret
    rw [HB.out]
    exact ⟨rfl, fin⟩
  · have HG := Lib.hid (commute_good d1 d2 k1 k2 (by omega) (by omega))
    have c1 : ¬ d1 < 0 := by omega
    have c2 : ¬ 5 < d1 := by omega
    have c3 : ¬ d2 < 0 := by omega
    have c4 : ¬ 5 < d2 := by omega
    clear hbad
    cases hk : (k1.toList == k2.toList)
    · have hk2 : ¬ k1.toList = k2.toList := by simpa using hk
      go_enter Tryd.func10, Tryd.ntmps10
      go_wp2
      go_quiet (fail)
      go_wp2
      go_ret
      rw [HG.out, hk]
      exact ⟨rfl, bdrewN (balloc (balloc (bsame _) _) _) _⟩
    · have hk2 : k1.toList = k2.toList := by simpa using hk
      go_enter Tryd.func10, Tryd.ntmps10
      go_wp2
      go_region_held3 (fun w' => w'.cell? ⟨w.heap.size, 0, none⟩ = some (.int .i64 d1) ∧ w'.cell? ⟨w.heap.size, 1, none⟩ = some (.string k1) ∧ w'.cell? ⟨w.heap.size + 1, 0, none⟩ = some (.int .i64 d2) ∧ w'.cell? ⟨w.heap.size + 1, 1, none⟩ = some (.string k2) ∧ w.heap.size + 1 < w'.heap.size ∧ Below w.heap.size w w')
        (first
          | (refine ⟨by simp, by simp, by simp, by simp, by simp, ?_⟩; exact (balloc (balloc (bsame _) _) _).drew)
          | assumption
          | (go_split_ands; refine ⟨?_, ?_, ?_, ?_, ?_, ?_⟩ <;> assumption)
          | (go_split_ands
             refine ⟨?_, ?_, ?_, ?_, ?_, ?_⟩
             · (rw [hb.cell (by simp <;> omega)]; first | assumption | simp)
             · (rw [hb.cell (by simp <;> omega)]; first | assumption | simp)
             · (rw [hb.cell (by simp <;> omega)]; first | assumption | simp)
             · (rw [hb.cell (by simp <;> omega)]; first | assumption | simp)
             · (have := hb.size; omega)
             · (rename_i hB; exact hB.trans (hb.mono hB.size))))
        (first | (go_at_call 6; refine (of_any _ _).mono ?_; rintro e w1 ⟨rfl, hb⟩) | (go_at_call 8; refine (compat_any _ _ _).mono ?_; rintro e w' ⟨rfl, rfl⟩))
      all_goals go_wp2
      all_goals go_ret
      all_goals rw [HG.out, hk]
      all_goals refine ⟨rfl, ?_⟩
      all_goals (rename_i hH; exact hH.2.2.2.2.2)
end Go.Proofs.YtmjpdbogpeokkaaDoor.RefModes
