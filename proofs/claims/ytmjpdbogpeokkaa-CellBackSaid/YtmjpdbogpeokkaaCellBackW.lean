/-
  The walk of CellBack: the Go text returns true for every cell and every number, and writes nothing that was there.
-/
import Derived.Test.YtmjpdbogpeokkaaOpen
import Derived.Test.YtmjpdbogpeokkaaLive05
import Derived.Test.YtmjpdbogpeokkaaHeld
import Derived.Test.YtmjpdbogpeokkaaCellF
namespace Go.Proofs.Ytmjpdbogpeokkaa.cellBack
open Go.RowKit

theorem set_cases (k lo hi v x : Int) (d : List UInt8) :
    (∃ e : Int, (e != 0) = true ∧ CellP.set ⟨k, d, lo, hi, v⟩ x = (CellP.none, e)) ∨
    (k = 2 ∧ d = [] ∧ lo ≤ x ∧ x ≤ hi ∧ CellP.set ⟨2, [], lo, hi, v⟩ x = (⟨2, [], lo, hi, x⟩, 0) ∧ CellP.right ⟨2, [], lo, hi, x⟩ = true ∧ CellP.set ⟨2, [], lo, hi, x⟩ v = (⟨2, [], lo, hi, v⟩, 0)) := by
  by_cases h : k = 2 ∧ CellP.right ⟨k, d, lo, hi, v⟩ = true
  · obtain ⟨rfl, hr⟩ := h
    by_cases hx : x < lo ∨ hi < x
    · refine .inl ⟨8, by decide, ?_⟩
      simp only [CellP.set, hr]
      simp [hx]
    · have hr' := hr
      simp [CellP.right] at hr'
      obtain ⟨rfl, h1, h2⟩ := hr'
      have h3 : lo ≤ x := by omega
      have h4 : x ≤ hi := by omega
      have hrx : CellP.right ⟨2, [], lo, hi, x⟩ = true := by simp [CellP.right, h3, h4]
      have hv : ¬ (v < lo ∨ hi < v) := by omega
      refine .inr ⟨rfl, rfl, h3, h4, ?_, hrx, ?_⟩
      · simp only [CellP.set, hr]
        simp [hx]
      · simp only [CellP.set, hrx]
        simp [hv]
  · refine .inl ⟨6, by decide, ?_⟩
    simp only [CellP.set]
    rw [if_neg h]

set_option maxHeartbeats 2000000 in
theorem walk (v0 v1 : Value) (a0 : Cell) (a1 : Int) (w : World) (g0 : RCell w w.heap.size v0 a0) (g1 : RInt w v1 a1) :
    Calls Try.prog 6 #[v0, v1] w fun e w' => e = .returned (.bool true) ∧ Below w.heap.size w w' := by
  obtain ⟨A, n, cap, rfl, hA, -⟩ := g0
  obtain ⟨rfl, hx1, hx2⟩ := g1
  have HA := Lib.hid hA
  have hn := Nat.le_trans hA.2.1 hA.2.2.1
  have hcap := hA.2.2.1
  clear hA
  unfold maxLen at hn hcap
  by_cases hbig : 300 < n
  · go_enter Try.func6, Try.ntmps6
    go_wp2_with (go_at_call 15; refine (Live05.live_any _).mono ?_; rintro e w' ⟨rfl, hb⟩)
    go_ret
    exact ⟨rfl, bstep (balloc (bsame w) _) hb⟩
  have HL := Lib.hid HA.out.len
  obtain ⟨k, d, lo, hi, v⟩ := a0
  dsimp only at *
  rcases set_cases k lo hi v a1 d with ⟨e0, he0, hset⟩ | ⟨hk, hd, h1, h2, hset, hr, hback⟩
  · have hsame : CellP.same CellP.none CellP.none = true := rfl
    go_enter Try.func6, Try.ntmps6
    go_wp2_with fail
    refine (CellW.set_any A n cap ⟨k, d, lo, hi, v⟩ a1 _ HL.out (by unfold maxLen; omega)).mono ?_
    rw [hset]
    rintro e w1 ⟨A1, n1, c1, rfl, hy1, hb1⟩
    have HY1 := Lib.hid hy1
    have HB1 := Lib.hid (bstep (balloc (bsame w) _) hb1)
    clear hy1 hb1
    dsimp only [CellP.none] at *
    go_wp2_with fail
    refine (Live05.code_any _ _).mono ?_
    rintro e w2 ⟨rfl, rfl⟩
    go_wp2_with fail
    refine (CellF.refSame A1 none n1 c1 0 0 w1.heap.size 0 0 0 0 0 0 0 0 0 [] [] _ (HY1.out.alloc (Nat.le_refl _) _) (Bytes.none_ _ _) (by simp) (Nat.zero_le _)).mono ?_
    rintro e w3 ⟨rfl, hb3⟩
    go_wp2_with fail
    refine (Live05.live_any _).mono ?_
    rintro e w4 ⟨rfl, hb4⟩
    go_wp2_with fail
    go_ret
    exact ⟨rfl, bstep (bstep (balloc HB1.out _) hb3) hb4⟩
  · subst hk hd
    have hc0 : CellP.code true = 0 := rfl
    have hcell := CellF.same_self ⟨2, [], lo, hi, v⟩
    go_enter Try.func6, Try.ntmps6
    go_wp2_with fail
    refine (CellW.set_any A n cap ⟨2, [], lo, hi, v⟩ a1 _ HL.out (by unfold maxLen; omega)).mono ?_
    rw [hset]
    rintro e w1 ⟨A1, n1, c1, rfl, hy1, hb1⟩
    have HY1 := Lib.hid hy1
    have HB1 := Lib.hid (bstep (balloc (bsame w) _) hb1)
    have SA := (Str.new w #[.int .i64 2, .slice A n cap, .int .i64 lo, .int .i64 hi, .int .i64 v] 35).next hb1
    have hs1 := hb1.size
    obtain ⟨fa0, fa1, fa2, fa3, fa4⟩ := str5 SA
    have HSA := Lib.hid SA
    clear hy1 hb1 SA
    simp only [World.size_alloc] at hs1
    have hs1a : w.heap.size < w1.heap.size := by omega
    dsimp only at *
    go_wp2_with fail
    refine (Live05.code_any _ _).mono ?_
    rintro e w2 ⟨rfl, rfl⟩
    go_wp2_with fail
    refine (CellW.set_any A1 n1 c1 ⟨2, [], lo, hi, a1⟩ v _ HY1.out.len (Nat.le_trans HY1.out.2.1 HY1.out.2.2.1)).mono ?_
    rw [hback]
    rintro e w2 ⟨A2, n2, c2, rfl, hy2, hb2⟩
    have HY2 := Lib.hid hy2
    have HB2 := Lib.hid hb2
    have SA2 := (HSA.out.alloc (.cells #[.int .i64 2, .slice A1 n1 c1, .int .i64 lo, .int .i64 hi, .int .i64 a1] 35)).next hb2
    have SB2 := (Str.new w1 #[.int .i64 2, .slice A1 n1 c1, .int .i64 lo, .int .i64 hi, .int .i64 a1] 35).next hb2
    have hs2 := hb2.size
    obtain ⟨ga0, ga1, ga2, ga3, ga4⟩ := str5 SA2
    obtain ⟨gb0, gb1, gb2, gb3, gb4⟩ := str5 SB2
    have HSA2 := Lib.hid SA2
    clear hy2 hb2 SA2 SB2
    simp only [World.size_alloc] at hs2
    have hs2a : w.heap.size < w2.heap.size := by omega
    have hs2b : w1.heap.size < w2.heap.size := by omega
    dsimp only at *
    go_wp2_with fail
    refine (CellW.check_any A1 n1 c1 ⟨2, [], lo, hi, a1⟩ _ HY1.out.len (Nat.le_trans HY1.out.2.1 HY1.out.2.2.1)).mono ?_
    rw [hr]
    rintro e w3 ⟨rfl, hb3⟩
    have HB3 := Lib.hid hb3
    have hs3 := hb3.size
    have SA3 := (HSA2.out.alloc (.cells #[.int .i64 2, .slice A2 n2 c2, .int .i64 lo, .int .i64 hi, .int .i64 v] 35)).next hb3
    have SC3 := (Str.new w2 #[.int .i64 2, .slice A2 n2 c2, .int .i64 lo, .int .i64 hi, .int .i64 v] 35).next hb3
    obtain ⟨ha0, ha1, ha2, ha3, ha4⟩ := str5 SA3
    obtain ⟨hc1, hc2, hc3, hc4, hc5⟩ := str5 SC3
    clear hb3 SA3 SC3
    go_wp2_with fail
    refine (Live05.code_any _ _).mono ?_
    rintro e w4 ⟨rfl, rfl⟩
    go_wp2_with fail
    refine (Live05.code_any _ _).mono ?_
    rintro e w4 ⟨rfl, rfl⟩
    go_wp2_with fail
    have hW2 : Below w.heap.size w w2 := bstep (balloc HB1.out _) HB2.out
    have hW3 : Below w.heap.size w w3 := bstep (balloc hW2 _) HB3.out
    have hY23 : Below w2.heap.size w2 w3 := bstep (balloc (bsame w2) _) HB3.out
    refine (CellF.same A2 A n2 c2 n cap w2.heap.size w.heap.size 2 lo hi v 2 lo hi v [] [] w3 (HY2.out.below hY23) (HA.out.below hW3) hY23.size hW3.size).mono ?_
    rintro e w4 ⟨rfl, hb4⟩
    go_wp2_with fail
    refine (Live05.live_any _).mono ?_
    rintro e w5 ⟨rfl, hb5⟩
    go_wp2_with fail
    go_ret
    exact ⟨rfl, bstep (bstep hW3 hb4) hb5⟩
end Go.Proofs.Ytmjpdbogpeokkaa.cellBack
