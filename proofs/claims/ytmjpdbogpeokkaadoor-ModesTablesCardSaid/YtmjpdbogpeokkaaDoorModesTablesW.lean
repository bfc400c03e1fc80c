/-
  The walk of ModesTables: the Go text returns true for every three numbers and every two operations, and writes nothing that was there.
-/
import Derived.Test.YtmjpdbogpeokkaaDoorOpen
import Derived.Test.YtmjpdbogpeokkaaDoorLive10
import Derived.Test.YtmjpdbogpeokkaaDoorRefModes
import Derived.Deep.RegionHeld3
namespace Go.Proofs.YtmjpdbogpeokkaaDoor.modesTables
open Go.RowKit

theorem commute_comm (d1 d2 : Int) (k1 k2 : ByteArray) : ModesP.commuteM d2 k2 d1 k1 = ModesP.commuteM d1 k1 d2 k2 := by
  have hc : ModesP.compat (ModesP.ofDo d2) (ModesP.ofDo d1) = ModesP.compat (ModesP.ofDo d1) (ModesP.ofDo d2) := by
    unfold ModesP.compat
    generalize ModesP.ofDo d1 = p
    generalize ModesP.ofDo d2 = q
    cases (p == 0) <;> cases (q == 0) <;> cases (p == 2) <;> cases (q == 2) <;> cases (p == 3) <;> cases (q == 3) <;> rfl
  have hk : (k2.toList == k1.toList) = (k1.toList == k2.toList) := Bool.beq_comm
  unfold ModesP.commuteM
  rw [hc, hk]
  cases ModesP.isM (ModesP.ofDo d1) <;> cases ModesP.isM (ModesP.ofDo d2) <;> rfl

set_option maxHeartbeats 2000000 in
theorem walk (v0 v1 v2 v3 v4 : Value) (a0 a1 a2 : Int) (a3 a4 : OpX) (w : World) (g0 : RInt w v0 a0) (g1 : RInt w v1 a1) (g2 : RInt w v2 a2) (g3 : ROp w w.heap.size v3 a3) (g4 : ROp w w.heap.size v4 a4) (hT : Modes.Tab w) (hg : 0 < w.heap.size) :
    Calls Tryd.prog 3 #[v0, v1, v2, v3, v4] w fun e w' => e = .returned (.bool true) ∧ Below w.heap.size w w' := by
  obtain ⟨rfl, -, -⟩ := g0
  obtain ⟨rfl, -, -⟩ := g1
  obtain ⟨rfl, -, -⟩ := g2
  obtain ⟨A3, n3, c3, rfl, -⟩ := g3
  obtain ⟨A4, n4, c4, rfl, -⟩ := g4
  obtain ⟨d1, k1, s1, lo1, hi1, m1⟩ := a3
  obtain ⟨d2, k2, s2, lo2, hi2, m2⟩ := a4
  dsimp only
  have HT := Lib.hid hT
  clear hT
  have hcc := commute_comm d1 d2 k1 k2
  generalize hC : ModesP.commuteM d1 k1 d2 k2 = C at hcc
  go_enter Tryd.func3, Tryd.ntmps3
  go_wp2
  go_region_held3 (fun w' => w'.cell? ⟨w.heap.size, 0, none⟩ = some (.int .i64 d1) ∧ w'.cell? ⟨w.heap.size, 1, none⟩ = some (.string k1) ∧ w'.cell? ⟨w.heap.size, 2, none⟩ = some (.slice A3 n3 c3) ∧ w'.cell? ⟨w.heap.size, 3, none⟩ = some (.int .i64 lo1) ∧ w'.cell? ⟨w.heap.size, 4, none⟩ = some (.int .i64 hi1) ∧ w'.cell? ⟨w.heap.size, 5, none⟩ = some (.int .i64 m1) ∧ w'.cell? ⟨w.heap.size + 1, 0, none⟩ = some (.int .i64 d2) ∧ w'.cell? ⟨w.heap.size + 1, 1, none⟩ = some (.string k2) ∧ w'.cell? ⟨w.heap.size + 1, 2, none⟩ = some (.slice A4 n4 c4) ∧ w'.cell? ⟨w.heap.size + 1, 3, none⟩ = some (.int .i64 lo2) ∧ w'.cell? ⟨w.heap.size + 1, 4, none⟩ = some (.int .i64 hi2) ∧ w'.cell? ⟨w.heap.size + 1, 5, none⟩ = some (.int .i64 m2) ∧ w.heap.size + 1 < w'.heap.size ∧ Below w.heap.size w w')
    (first
      | assumption
      | (and_intros <;> (first | (simp; done) | exact (balloc (balloc (bsame _) _) _).drew))
      | (go_split_ands; and_intros <;> (first | assumption | (rw [hb.cell (by simp <;> omega)]; first | assumption | simp) | (have := hb.size; omega) | (rename_i hB; exact hB.trans (hb.mono hB.size)))))
    (first
      | (go_at_call 5; refine (Modes.of_any _ _).mono ?_; rintro e w' ⟨rfl, rfl⟩)
      | (go_at_call 6; refine (RefModes.of_any _ _).mono ?_; rintro e w1 ⟨rfl, hb⟩)
      | (go_at_call 7; refine (Modes.compat_any _ _ _ (by go_split_ands; exact HT.out.below (by assumption) hg)).mono ?_; rintro e w' ⟨rfl, rfl⟩)
      | (go_at_call 8; refine (RefModes.compat_any _ _ _).mono ?_; rintro e w' ⟨rfl, rfl⟩)
      | (go_at_call 9; refine (Modes.commute_any _ _ _ _ _ _ _ _ _ _ _ _ _ (by go_split_ands; exact HT.out.below (by assumption) hg) (by go_split_ands; omega)).mono ?_; rintro e w1 ⟨rfl, hb⟩)
      | (go_at_call 10; refine (RefModes.commute_any _ _ _ _ _ _ _ _ _ _ _ _ _).mono ?_; rintro e w1 ⟨rfl, hb⟩)
      | (go_at_call 11; refine (Live10.live_any _ (by go_split_ands; exact HT.out.below (by assumption) hg) (by go_split_ands; omega)).mono ?_; rintro e w1 ⟨rfl, hb⟩))
  go_wp2
  go_ret
  refine ⟨rfl, ?_⟩
  go_split_ands
  assumption
end Go.Proofs.YtmjpdbogpeokkaaDoor.modesTables
