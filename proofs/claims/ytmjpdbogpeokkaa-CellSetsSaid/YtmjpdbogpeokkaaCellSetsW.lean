/-
  The walk of CellSets: the Go text returns true for every two cells and every number, and writes nothing that was there.
-/
import Derived.Test.YtmjpdbogpeokkaaOpen
import Derived.Test.YtmjpdbogpeokkaaLive05
import Derived.Test.YtmjpdbogpeokkaaHeld
import Derived.Test.YtmjpdbogpeokkaaCellF
namespace Go.Proofs.Ytmjpdbogpeokkaa.cellSets
open Go.RowKit

set_option maxHeartbeats 2000000 in
theorem walk (v0 v1 v2 : Value) (a0 : Cell) (a1 : Int) (a2 : Cell) (w : World) (g0 : RCell w w.heap.size v0 a0) (g1 : RInt w v1 a1) (g2 : RCell w w.heap.size v2 a2) :
    Calls Try.prog 5 #[v0, v1, v2] w fun e w' => e = .returned (.bool true) ∧ Below w.heap.size w w' := by
  obtain ⟨A, n, cap, rfl, hA, -⟩ := g0
  obtain ⟨rfl, hx1, hx2⟩ := g1
  obtain ⟨A', n', cap', rfl, hA', -⟩ := g2
  have HA := Lib.hid hA
  have HA' := Lib.hid hA'
  have hn := Nat.le_trans hA.2.1 hA.2.2.1
  have hn' := Nat.le_trans hA'.2.1 hA'.2.2.1
  have hcap := hA.2.2.1
  clear hA hA'
  unfold maxLen at hn hn' hcap
  by_cases hbig : 300 < n
  · go_enter Try.func5, Try.ntmps5
    go_wp2_with (go_at_call 15; refine (Live05.live_any _).mono ?_; rintro e w' ⟨rfl, hb⟩)
    go_ret
    exact ⟨rfl, bstep (balloc (balloc (bsame w) _) _) hb⟩
  by_cases hbig' : 300 < n'
  · go_enter Try.func5, Try.ntmps5
    go_wp2_with (go_at_call 15; refine (Live05.live_any _).mono ?_; rintro e w' ⟨rfl, hb⟩)
    go_ret
    exact ⟨rfl, bstep (balloc (balloc (bsame w) _) _) hb⟩
  have hl := HA.out.len
  have HL := Lib.hid hl
  clear hl
  obtain ⟨k, d, lo, hi, v⟩ := a0
  obtain ⟨k', d', lo', hi', v'⟩ := a2
  dsimp only at *
  go_enter Try.func5, Try.ntmps5
  go_wp2_with fail
  refine (CellW.set_any A n cap ⟨k, d, lo, hi, v⟩ a1 _ HL.out (by unfold maxLen; omega)).mono ?_
  rintro e w1 ⟨A1, n1, c1, rfl, hy1, hb1⟩
  obtain ⟨hq1, hf1⟩ := bcell hb1
  have HY1 := Lib.hid hy1
  have HB1 := Lib.hid (bstep (balloc (balloc (bsame w) _) _) hb1)
  have HB1' := Lib.hid hb1
  have hs1 := hb1.size
  clear hy1 hb1
  simp only [World.size_alloc] at hs1
  have hs1a : w.heap.size < w1.heap.size := by omega
  have hs1b : w.heap.size + 1 < w1.heap.size := by omega
  go_wp2_with fail
  refine (CellW.refSet_any A n cap ⟨k, d, lo, hi, v⟩ a1 _ HL.out (by unfold maxLen; omega) (by unfold maxLen; omega)).mono ?_
  rintro e w2 ⟨A2, n2, c2, rfl, hy2, hb2⟩
  obtain ⟨hq2, hf2⟩ := bcell hb2
  have HY2 := Lib.hid hy2
  have HB2 := Lib.hid hb2
  have hs2 := hb2.size
  clear hy2 hb2
  simp only [World.size_alloc] at hs2
  have hs2a : w.heap.size < w2.heap.size := by omega
  have hs2b : w.heap.size + 1 < w2.heap.size := by omega
  have hs2c : w1.heap.size < w2.heap.size := by omega
  generalize hset : CellP.set ⟨k, d, lo, hi, v⟩ a1 = x at *
  obtain ⟨⟨kx, dx, lox, hix, vx⟩, ex⟩ := x
  dsimp only at *
  go_wp2_with fail
  obtain ⟨W5, hW5⟩ : ∃ W5, w2.alloc (.cells #[.int .i64 kx, .slice A2 n2 c2, .int .i64 lox, .int .i64 hix, .int .i64 vx] 35) = W5 := ⟨_, rfl⟩
  have SA : Str W5 w.heap.size #[.int .i64 k, .slice A n cap, .int .i64 lo, .int .i64 hi, .int .i64 v] := by rw [← hW5]; exact ((((Str.new w _ _).alloc _).next HB1'.out).alloc _).next HB2.out |>.alloc _
  have SB : Str W5 (w.heap.size + 1) #[.int .i64 k', .slice A' n' cap', .int .i64 lo', .int .i64 hi', .int .i64 v'] := by
    rw [← hW5]
    have := Str.new (w.alloc (.cells #[.int .i64 k, .slice A n cap, .int .i64 lo, .int .i64 hi, .int .i64 v] 35)) #[.int .i64 k', .slice A' n' cap', .int .i64 lo', .int .i64 hi', .int .i64 v'] 35
    rw [World.size_alloc] at this
    exact ((this.next HB1'.out).alloc _).next HB2.out |>.alloc _
  have SC : Str W5 w1.heap.size #[.int .i64 kx, .slice A1 n1 c1, .int .i64 lox, .int .i64 hix, .int .i64 vx] := by rw [← hW5]; exact (Str.new w1 _ _).next HB2.out |>.alloc _
  have SD : Str W5 w2.heap.size #[.int .i64 kx, .slice A2 n2 c2, .int .i64 lox, .int .i64 hix, .int .i64 vx] := by rw [← hW5]; exact Str.new w2 _ _
  obtain ⟨fa0, fa1, fa2, fa3, fa4⟩ := str5 SA
  obtain ⟨fb0, fb1, fb2, fb3, fb4⟩ := str5 SB
  obtain ⟨fc0, fc1, fc2, fc3, fc4⟩ := str5 SC
  obtain ⟨fd0, fd1, fd2, fd3, fd4⟩ := str5 SD
  clear SA SB SC SD
  have hz5 : W5.heap.size = w2.heap.size + 1 := by rw [← hW5]; simp
  have hB15 : Below w1.heap.size w1 W5 := by rw [← hW5]; exact ((Below.refl _ w1).alloc (Nat.le_refl _) _).trans ((HB2.out.mono (by simp)).trans ((Below.refl _ w2).alloc (by omega) _))
  have hBW : Below w.heap.size w W5 := bstep HB1.out hB15
  have YA := Lib.hid ((HA.out.below hBW).more (B' := W5.heap.size) (by omega))
  have YA' := Lib.hid ((HA'.out.below hBW).more (B' := W5.heap.size) (by omega))
  have Y1 := Lib.hid ((HY1.out.below hB15).more (B' := W5.heap.size) (by omega))
  have Y2 : Hid (Bytes W5 W5.heap.size A2 n2 c2 dx) := Lib.hid (by rw [← hW5]; exact (HY2.out.alloc (Nat.le_refl _) _).more (by simp))
  have HBW := Lib.hid hBW
  have hz0 : w.heap.size < W5.heap.size := by omega
  have hz1 : w.heap.size + 1 < W5.heap.size := by omega
  have hz2 : w1.heap.size < W5.heap.size := by omega
  have hz3 : w2.heap.size < W5.heap.size := by omega
  rw [hW5]
  clear hW5 hq1 hf1 hq2 hf2 HB2 HY1 HY2 HA HA' HB1 HB1' hBW hB15 hs1 hs1a hs1b hs2 hs2a hs2b hs2c hz5 hset hx1 hx2
  have hself := CellF.same_self
  go_region_held3 (fun w' => (∀ b o, b < W5.heap.size → w'.cell? ⟨b, o, none⟩ = W5.cell? ⟨b, o, none⟩) ∧ Below W5.heap.size W5 w')
    (first | assumption | exact held_draw _ | exact held_call (by assumption) hb)
    (first
      | (go_at_call 18; refine (CellF.refSame _ _ _ _ _ _ _ _ _ _ _ _ _ _ _ _ _ _ _ (by first | exact Y1.out.held (by assumption) | exact YA.out.held (by assumption)) (by first | exact Y2.out.held (by assumption) | exact YA'.out.held (by assumption)) (held_size (by assumption)) (held_size (by assumption))).mono ?_; rintro e w3 ⟨rfl, hb⟩)
      | (go_at_call 20; refine (CellF.same _ _ _ _ _ _ _ _ _ _ _ _ _ _ _ _ _ _ _ (YA.out.held (by assumption)) (by first | exact YA'.out.held (by assumption) | exact YA.out.held (by assumption)) (held_size (by assumption)) (held_size (by assumption))).mono ?_; rintro e w3 ⟨rfl, hb⟩)
      | (go_at_call 19; refine (Live05.code_any _ _).mono ?_; rintro e w' ⟨rfl, rfl⟩)
      | (go_at_call 15; refine (Live05.live_any _).mono ?_; rintro e w3 ⟨rfl, hb⟩))
  go_wp2
  go_ret
  exact ⟨rfl, bstep HBW.out (And.right (by assumption))⟩
end Go.Proofs.Ytmjpdbogpeokkaa.cellSets
