/-
  The walk of CellPuts: the Go text returns true for all bytes and every cell, and writes nothing that was there.
-/
import Derived.Test.YtjengjbkdflapaaOpen2
import Derived.Test.YtjengjbkdflapaaLive05
import Derived.Test.YtjengjbkdflapaaCellF
import Derived.Test.YtjengjbkdflapaaCellPut
import Derived.Test.YtjengjbkdflapaaCellGet
import Derived.Test.YtjengjbkdflapaaRefCellBytes
import Derived.Deep.RegionHeld3
import Derived.Deep.RegionLaw
namespace Go.Proofs.Ytjengjbkdflapaa.cellPuts
open Go.RowKit
attribute [local go_sem ↓] cut_fold

theorem bytes_le (c : Cell) : (CellP.bytes c).length ≤ 34 := by
  unfold CellP.bytes
  cases hr : CellP.right c
  · simp
  · by_cases hk : c.kind = 1
    · unfold CellP.right at hr
      rw [if_pos hk] at hr
      simp at hr
      simp [hk]
      omega
    · simp [hk, BeP.parts_length]
theorem bool_ne (r : Bool) : ((CellP.code r == 0) != r) = false := by cases r <;> decide
theorem code_one (r : Bool) : (CellP.code r != 0 && CellP.code r != 1) = false := by cases r <;> decide

set_option maxRecDepth 100000 in
set_option maxHeartbeats 16000000 in
theorem walk (v0 v1 : Value) (a0 : List UInt8) (a1 : Cell) (w : World) (g0 : RBytes w w.heap.size v0 a0) (g1 : RCell w w.heap.size v1 a1) :
    Calls Try.prog 3 #[v0, v1] w fun e w' => e = .returned (.bool true) ∧ Below w.heap.size w w' := by
  obtain ⟨Ab, nb, cb, rfl, hY⟩ := g0
  obtain ⟨A, n, cap, rfl, hA, hin⟩ := g1
  have HA := Lib.hid hA
  have HY := Lib.hid hY
  have hn := Nat.le_trans hA.2.1 hA.2.2.1
  have hnb := Nat.le_trans hY.2.1 hY.2.2.1
  have HLA := Lib.hid hA.len
  have HLY := Lib.hid hY.len
  have HIN := Lib.hid hin
  clear hA hY hin
  unfold maxLen at hn hnb
  by_cases hbig : 300 < nb
  · go_enter Try.func3, Try.ntmps3
    go_wp2_with (go_at_call 15; refine (Live05.live_any _).mono ?_; rintro e w' ⟨rfl, hb⟩)
    go_ret
    exact ⟨rfl, bstep (balloc (bsame w) _) hb⟩
  by_cases hbig' : 300 < n
  · go_enter Try.func3, Try.ntmps3
    go_wp2_with (go_at_call 15; refine (Live05.live_any _).mono ?_; rintro e w' ⟨rfl, hb⟩)
    go_ret
    exact ⟨rfl, bstep (balloc (bsame w) _) hb⟩
  have hmx : n ≤ maxLen := by unfold maxLen; omega
  obtain ⟨k, d, lo, hi, v⟩ := a1
  dsimp only at *
  go_enter Try.func3, Try.ntmps3
  go_wp2_with fail
  refine (CellPut.put_any Ab A nb cb n cap w.heap.size w.heap.size a0 ⟨k, d, lo, hi, v⟩ _ (HY.out.alloc (Nat.le_refl _) _) (by simp) (HA.out.alloc (Nat.le_refl _) _) (by simp) (by omega)).mono ?_
  rintro e w1 ⟨A1, n1, c1, rfl, hy1, hb1⟩
  have hS1 := (Str.new w #[.int .i64 k, .slice A n cap, .int .i64 lo, .int .i64 hi, .int .i64 v] 24).next hb1
  have HS1 := Lib.hid hS1
  have HB1 := Lib.hid (bstep (balloc (bsame w) _) hb1)
  have HY1 := Lib.hid hy1
  have hs1 := hb1.size
  simp only [World.size_alloc] at hs1
  have hs1a : w.heap.size < w1.heap.size := by omega
  obtain ⟨p0, p1, p2, p3, p4⟩ := str5 hS1
  clear hy1 hb1 hS1
  go_wp2_with fail
  refine (CellW.check_any A n cap ⟨k, d, lo, hi, v⟩ _ HLA.out hmx).mono ?_
  rintro e w2 ⟨rfl, hb2⟩
  have hS2 := HS1.out.next hb2
  have hs2 := hb2.size
  have hs2a : w.heap.size < w2.heap.size := by omega
  have YX := Lib.hid (HY1.out.next hb2)
  have YB := Lib.hid ((HY.out.below (HB1.out.trans (hb2.mono (by omega)))).more (B' := w2.heap.size) (by omega))
  have YA := Lib.hid ((HA.out.below (HB1.out.trans (hb2.mono (by omega)))).more (B' := w2.heap.size) (by omega))
  have HBW := Lib.hid (HB1.out.trans (hb2.mono (by omega)))
  obtain ⟨q0, q1, q2, q3, q4⟩ := str5 hS2
  have HS2 := Lib.hid hS2
  clear hb2 hS2 HS1 HB1 HY1 p0 p1 p2 p3 p4 hs1 hs1a hs2 HA HY
  go_wp2_with (go_at_call 17; refine (Live05.code_any _ _).mono ?_; rintro e w' ⟨rfl, rfl⟩)
  have HEQ : Hid ((a0 ++ CellP.bytes ⟨k, d, lo, hi, v⟩ == a0 ++ CellP.bytes ⟨k, d, lo, hi, v⟩) = true) := Lib.hid (by simp)
  have HBL := Lib.hid (bytes_le ⟨k, d, lo, hi, v⟩)
  have HGB := Lib.hid (fun post => CellP.get_bytes ⟨k, d, lo, hi, v⟩ post)
  clear hs2a
  have hl2 := lt_of_cell q0
  dsimp only at hl2
  cases hr : CellP.right ⟨k, d, lo, hi, v⟩
  · have HR := Lib.hid hr
    clear hr
    rw [show CellP.code false = 1 from rfl]
    go_region_held3 (fun w' => (∀ b o, b < w2.heap.size → w'.cell? ⟨b, o, none⟩ = w2.cell? ⟨b, o, none⟩) ∧ Below w2.heap.size w2 w')
      (first | assumption | exact held_draw _ | exact held_alloc (by assumption) _ | exact held_app (by assumption) hba | exact held_call (by assumption) hbb | exact held_app (by assumption) hbc | exact held_call (by assumption) hbd)
      (first
        | (refine step_app (by rfl) _ _ (by rfl) (by rfl) (by rfl) (Own.empty _ w2.heap.size (Nat.le_refl _)) (by rfl) (YB.out.alloc (w := w2.drew) (Nat.le_refl _) _) ?_ ?_ ?_; (· omega); (· simp); intro A4 c4 wa hOa hba; simp only [Nat.zero_add, List.nil_append] at hOa ⊢)
        | (refine step_app (by rfl) _ _ (by rfl) (by rfl) (by rfl) (hOa.next hbb) (by rfl) hyb ?_ ?_ ?_; (· (have h1 := hyb.len; have h2 := HBL.out; omega)); (· (have h1 := hba.size; have h2 := hbb.size; simp at h1; omega)); intro A6 c6 wc hOc hbc)
        | (go_at_call 20; refine (RefCellBytes.bytes_any A n cap w2.heap.size ⟨k, d, lo, hi, v⟩ _ (YA.out.held (by assumption)) (held_size (by assumption))).mono ?_; rintro e wb ⟨A5, n5, c5, rfl, hyb, hbb⟩)
        | (go_at_call 19; refine (Same.same_any _ _ _ _ _ _ _ _ _ _ _ (YX.out.held (by assumption)) hOc.bytes).mono ?_; rintro e w' ⟨rfl, rfl⟩; rw [HEQ.out])
        | (go_at_call 21; refine (CellW.right_any A n cap ⟨k, d, lo, hi, v⟩ _ HLA.out hmx).mono ?_; rintro e wd ⟨rfl, hbd⟩; rw [HR.out]))
    go_wp2_with (go_at_call 15; refine (Live05.live_any _).mono ?_; rintro e w' ⟨rfl, hb⟩)
    go_ret
    have hS := (by assumption : (∀ b o, b < w2.heap.size → wd.cell? ⟨b, o, none⟩ = w2.cell? ⟨b, o, none⟩) ∧ Below w2.heap.size w2 wd)
    exact ⟨rfl, bstep (HBW.out.trans (hS.2.mono (by omega))) hb⟩
  · have HR := Lib.hid hr
    clear hr
    rw [show CellP.code true = 0 from rfl]
    first | (go_region_law (first
      | (refine step_app (by rfl) _ _ (by rfl) (by rfl) (by rfl) (Own.empty _ w2.heap.size (Nat.le_refl _)) (by rfl) (YB.out.alloc (w := w2.drew) (Nat.le_refl _) _) ?_ ?_ ?_; (· omega); (· simp); intro A4 c4 wa hOa hba; simp only [Nat.zero_add, List.nil_append] at hOa ⊢; obtain ⟨u0, u1, u2, u3, u4⟩ := str5 ((Str.alloc (w := w2.drew) HS2.out _).below hba hl2))
      | (refine step_app (by rfl) _ _ (by rfl) (by rfl) (by rfl) (hOa.next hbb) (by rfl) hyb ?_ ?_ ?_; (· (have h1 := hyb.len; have h2 := HBL.out; omega)); (· (have h1 := hba.size; have h2 := hbb.size; simp at h1; omega)); intro A6 c6 wc hOc hbc; obtain ⟨x0, x1, x2, x3, x4⟩ := str5 (((Str.alloc (w := w2.drew) HS2.out _).below hba hl2).next hbb |>.below hbc hl2))
      | (go_simp; go_at_call 20; refine (RefCellBytes.bytes_any A n cap w2.heap.size ⟨k, d, lo, hi, v⟩ _ ((YA.out.alloc (w := w2.drew) (Nat.le_refl _) _).below hba) ?_).mono ?_; (· (have h1 := hba.size; simp at h1; omega)); rintro e wb ⟨A5, n5, c5, rfl, hyb, hbb⟩)
      | (go_simp; go_at_call 19; refine (Same.same_any _ _ _ _ _ _ _ _ _ _ _ (((YX.out.alloc (w := w2.drew) (Nat.le_refl _) _).below hba).below (hbb.mono (by have h1 := hba.size; simp at h1; omega)) |>.below hbc) hOc.bytes).mono ?_; rintro e w' ⟨rfl, rfl⟩; rw [HEQ.out])
      | (go_simp; go_at_call 21; refine (CellW.right_any A n cap ⟨k, d, lo, hi, v⟩ _ HLA.out hmx).mono ?_; rintro e wd ⟨rfl, hbd⟩; rw [HR.out]))) | fail
    all_goals
      have hsA : (w2.alloc (.cells #[] 5)).heap.size ≤ wa.heap.size := hba.size
      simp only [World.size_alloc] at hsA
      have hsB := hbb.size
      have hsC := hbc.size
      have hsD := hbd.size
      have hBA : Below w2.heap.size w2 wa := by first | exact (((Below.refl _ w2).alloc (Nat.le_refl _) _).drew).trans hba | exact ((Below.refl _ w2).drew.alloc (Nat.le_refl _) _).trans hba
      have hBD : Below w2.heap.size w2 wd := (hBA.trans (hbb.mono (by omega))).trans (hbc.trans (hbd.mono (by omega)))
      have hS5 := HS2.out.next hBD
      obtain ⟨z0, z1, z2, z3, z4⟩ := str5 hS5
      have hX5 := YX.out.next hBD
      have hn1 : n1 = nb + (CellP.bytes ⟨k, d, lo, hi, v⟩).length := by
        have h1 := YX.out.len
        rw [List.length_append, HLY.out] at h1
        omega
      have hcut := hX5.cut nb n1 c1 (by omega) (Nat.le_refl _) hX5.2.1 (Nat.le_refl _)
      have hdrop : ((a0 ++ CellP.bytes ⟨k, d, lo, hi, v⟩).drop nb).take (n1 - nb) = CellP.bytes ⟨k, d, lo, hi, v⟩ ++ [] := by
        rw [← HLY.out, List.drop_left, List.append_nil]
        exact List.take_of_length_le (by rw [HLY.out]; omega)
      rw [hdrop] at hcut
      have hcl := HGB.out [] HR.out ⟨HIN.out.2.1, HIN.out.2.2.1, HIN.out.2.2.2⟩
      have hnle : (nb : Int) ≤ n1 := by omega
      have hc1 := hX5.2.1
      have hc2 := hX5.2.2.1
      unfold maxLen at hc2
      have HCUT := Lib.hid hcut
      have HS5 := Lib.hid hS5
      have HBD := Lib.hid hBD
      have HCL := Lib.hid hcl
      have HN1 := Lib.hid hn1
      have HLL := HBL.out
      have hl3 := hS5.lt
      have Y5 := Lib.hid (YA.out.next hBD)
      clear hn1 hcut hdrop hS5 hBD hcl hX5 hBA hba hbb hbc hbd hOa hOc hyb HS2 HEQ HGB
      go_wp2_with fail
      refine (CellGet.get_any _ _ _ wd.heap.size _ _ HCUT.out (Nat.le_refl _)).mono ?_
      rintro e wg ⟨A7, n7, c7, rfl, hy7, hbg⟩
      rw [HCL.out] at hy7 ⊢
      have hSg := HS5.out.next hbg
      obtain ⟨y0, y1, y2, y3, y4⟩ := str5 hSg
      have hsG := hbg.size
      have HYg := Lib.hid (Y5.out.next hbg)
      have HY7 := Lib.hid hy7
      have HBg := Lib.hid (HBD.out.trans (hbg.mono (by omega)))
      have hl4 := hSg.lt
      dsimp only at hy7 ⊢
      obtain ⟨L, hL⟩ : ∃ L, (CellP.bytes ⟨k, d, lo, hi, v⟩).length = L := ⟨_, rfl⟩
      have hLn : (L : Int) = (n1 : Int) - (nb : Int) := by
        have := HN1.out
        omega
      rw [hL]
      clear hL
      have hself := CellF.same_self ⟨k, d, lo, hi, v⟩
      clear hbg hSg hy7
      go_wp2_with (first
        | (go_at_call 17; refine (Live05.code_any _ _).mono ?_; rintro e w' ⟨rfl, rfl⟩)
        | (go_at_call 23; refine (CellF.refSame _ _ _ _ _ _ _ _ _ _ _ _ _ _ _ _ _ _ _ (HY7.out.alloc (Nat.le_refl _) _) (HYg.out.alloc (Nat.le_refl _) _) (by simp) (by simp)).mono ?_; rintro e wh ⟨rfl, hbh⟩; have HBH := Lib.hid hbh; clear hbh)
        | (go_at_call 15; refine (Live05.live_any _).mono ?_; rintro e wi ⟨rfl, hbi⟩; have HBI := Lib.hid hbi; clear hbi))
      go_ret
      exact ⟨rfl, HBW.out.trans (HBg.out.trans ((((Below.refl _ wg).alloc (by omega) _).trans (HBH.out.mono (by simp; omega))).trans (HBI.out.mono (by have := HBH.out.size; simp at this; omega))) |>.mono (by omega))⟩
end Go.Proofs.Ytjengjbkdflapaa.cellPuts
