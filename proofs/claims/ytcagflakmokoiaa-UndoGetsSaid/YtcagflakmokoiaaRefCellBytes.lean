/-
  The walk of the reference's Bytes: a cell as bytes.
-/
import Derived.Test.YtcagflakmokoiaaProg
import Derived.Test.YtcagflakmokoiaaCell
import Derived.Test.YtcagflakmokoiaaRefBytes
import Derived.Test.YtcagflakmokoiaaApp
namespace Go.Proofs.Ytcagflakmokoiaa.RefCellBytes
open Go.RowKit
attribute [local go_sem ↓] app_fold

theorem bytes_rec (c : Cell) (hr : CellP.right c = true) (hk : c.kind = 1) : CellP.bytes c = [1] ++ ([UInt8.ofNat c.data.length] ++ c.data) := by
  unfold CellP.bytes
  rw [if_pos hr, if_pos hk]
  rfl
theorem bytes_cnt (c : Cell) (hr : CellP.right c = true) (hk : c.kind = 2) : CellP.bytes c = [2] ++ (BeP.parts 8 c.lo ++ (BeP.parts 8 c.hi ++ BeP.parts 8 c.val)) := by
  unfold CellP.bytes
  rw [if_pos hr, if_neg (by omega)]
set_option maxRecDepth 100000 in
set_option maxHeartbeats 1000000 in
theorem bytes_any (A : Option Addr) (n cap B : Nat) (x : Cell) (w : World) (h : Bytes w B A n cap x.data) (hB : B ≤ w.heap.size) :
    Calls Try.prog 145 #[.agg #[.int .i64 x.kind, .slice A n cap, .int .i64 x.lo, .int .i64 x.hi, .int .i64 x.val]] w (GivesBytes w (CellP.bytes x)) := by
  obtain ⟨i0, hi, hz0, hz1, hz2⟩ := info_parts Be.infoU8
  have hln := h.len
  have hmx := Nat.le_trans h.2.1 h.2.2.1
  have HR := Lib.hid (fun W => CellW.right_any A n cap x W hln hmx)
  have H := Lib.hid h
  cases hr : CellP.right x
  · have HB : Hid (CellP.bytes x = []) := Lib.hid (by simp [CellP.bytes, hr])
    rw [HB.out]
    have HRR := Lib.hid hr
    obtain ⟨kind, data, lo, hi', val⟩ := x
    dsimp only at *
    clear hr
    go_enter Try.func145, Try.ntmps145
    go_wp2_with fail
    refine (HR.out _).mono ?_
    rintro e w1 ⟨rfl, hb⟩
    rw [HRR.out]
    go_wp2_with fail
    go_ret
    exact ⟨none, 0, 0, rfl, Bytes.none_ _ _, bstep (balloc (bsame _) _) hb⟩
  · have HRR := Lib.hid hr
    by_cases hk : x.kind = 1
    · have HBY := Lib.hid (bytes_rec x hr hk)
      rw [HBY.out]
      have h32 : n ≤ 32 := by
        unfold CellP.right at hr
        rw [if_pos hk] at hr
        simp at hr
        omega
      obtain ⟨ys, hys⟩ : ∃ ys, [1] ++ ([UInt8.ofNat x.data.length] ++ x.data) = ys := ⟨_, rfl⟩
      rw [hys]
      have HYS := Lib.hid hys
      clear hys
      obtain ⟨kind, data, lo, hi', val⟩ := x
      dsimp only at *
      subst hk
      have hcv : ((n : Int) % 256) = (n : Int) := by omega
      have hu : ((UInt8.ofNat data.length).toNat : Int) = (n : Int) := by
        simp
        omega
      clear hr h
      go_enter Try.func145, Try.ntmps145
      go_wp2_with fail
      refine (HR.out _).mono ?_
      rintro e w1 ⟨rfl, hb⟩
      rw [HRR.out]
      have hS := (Str.new w #[.int .i64 1, .slice A n cap, .int .i64 lo, .int .i64 hi', .int .i64 val] 25).next hb
      have hD := (H.out.alloc hB (.cells #[.int .i64 1, .slice A n cap, .int .i64 lo, .int .i64 hi', .int .i64 val] 25)).below (hb.mono (by simp; omega))
      have hs1 := hb.size
      simp only [World.size_alloc] at hs1
      have hO1 := (Own.one w1 (w.heap.size + 1) (by omega) 1).alloc (.cells #[.int .u8 ((UInt8.ofNat data.length).toNat : Int)] 5)
      have hO2 := Own.one (w1.alloc (.cells #[.int .u8 ((1 : UInt8).toNat : Int)] 5)) 0 (by omega) (UInt8.ofNat data.length)
      obtain ⟨A3, c3, w3, happ3, hO3, hb3⟩ := hO1.app hO2.bytes (by omega) (by simp; omega)
      have hD3 := ((hD.alloc (by omega) (.cells #[.int .u8 ((1 : UInt8).toNat : Int)] 5)).alloc (by simp; omega) (.cells #[.int .u8 ((UInt8.ofNat data.length).toNat : Int)] 5)).below (hb3.mono (by omega))
      have hs3 := hb3.size
      simp only [World.size_alloc] at hs3
      obtain ⟨A4, c4, w4, happ4, hO4, hb4⟩ := hO3.app hD3 (by omega) (by omega)
      have hS3 := (hS.alloc _).alloc (.cells #[.int .u8 ((UInt8.ofNat data.length).toNat : Int)] 5) |>.below hb3 (by omega)
      obtain ⟨k0, k1, k2, k3, k4⟩ := str5 hS
      obtain ⟨q0, q1, q2, q3, q4⟩ := str5 hS3
      have HB4 : Hid (Below w.heap.size w w4) := Lib.hid ((bstep (balloc (bsame _) _) hb).trans (((balloc (balloc (bsame w1) _) _).mono (by omega)).trans ((hb3.mono (by omega)).trans (hb4.mono (by omega)))))
      have HO4 := Lib.hid hO4
      have hu1 : ((1 : UInt8).toNat : Int) = 1 := rfl
      simp only [hu, hu1, World.size_alloc] at happ3
      have HO4' : Hid (Own w4 (w.heap.size + 1) A4 (1 + 1 + n) c4 ([1] ++ ([UInt8.ofNat data.length] ++ data))) := Lib.hid (by simpa using HO4.out)
      have hs1' : w.heap.size < w1.heap.size := by omega
      have hs3' : w.heap.size < w3.heap.size := by omega
      clear hS hD hO1 hO2 hO3 hb3 hD3 hO4 hb4 hS3 hb
      have HLN := Lib.hid hln
      clear hln
      go_wp2_with fail
      go_ret
      rw [← HYS.out]
      exact ⟨A4, _, c4, rfl, HO4'.out.bytes, HB4.out⟩
    · have hk2 : x.kind = 2 := by
        unfold CellP.right at hr
        rw [if_neg hk] at hr
        simp at hr
        exact hr.1
      have HBY := Lib.hid (bytes_cnt x hr hk2)
      rw [HBY.out]
      obtain ⟨ys, hys⟩ : ∃ ys, [2] ++ (BeP.parts 8 x.lo ++ (BeP.parts 8 x.hi ++ BeP.parts 8 x.val)) = ys := ⟨_, rfl⟩
      rw [hys]
      have HYS := Lib.hid hys
      clear hys
      obtain ⟨kind, data, lo, hi', val⟩ := x
      dsimp only at *
      subst hk2
      clear hr h hk
      have HLN := Lib.hid hln
      clear hln
      go_enter Try.func145, Try.ntmps145
      go_wp2_with fail
      refine (HR.out _).mono ?_
      rintro e w1 ⟨rfl, hb⟩
      rw [HRR.out]
      have hS := (Str.new w #[.int .i64 2, .slice A n cap, .int .i64 lo, .int .i64 hi', .int .i64 val] 25).next hb
      have hs1 := hb.size
      simp only [World.size_alloc] at hs1
      have hs1' : w.heap.size < w1.heap.size := by omega
      have HO1 := Lib.hid (Own.one w1 (w.heap.size + 1) (by omega) 2)
      have HS := Lib.hid hS
      have HB1 := Lib.hid (bstep (balloc (bsame _) _) hb)
      obtain ⟨k0, k1, k2, k3, k4⟩ := str5 hS
      clear hS hb
      go_wp2_with fail
      refine (RefBytes.bytes_any 8 lo _ (by omega)).mono ?_
      rintro e w2 ⟨A2, n2, c2, rfl, hY2, hb2⟩
      obtain rfl : n2 = 8 := by rw [← hY2.len, BeP.parts_length]
      have hs2 := hb2.size
      simp only [World.size_alloc] at hs2
      obtain ⟨A3, c3, w3, happ3, hO3, hb3⟩ := (HO1.out.next hb2).app hY2 (by omega) (by omega)
      have hs3 := hb3.size
      have HB3 : Hid (Below w.heap.size w w3) := Lib.hid (HB1.out.trans (((balloc (bsame w1) _).mono (by omega)).trans ((hb2.mono (by simp; omega)).trans (hb3.mono (by omega)))))
      have hS3 := ((HS.out.alloc _).next hb2).below hb3 (by omega)
      have HS3 := Lib.hid hS3
      have HO3 := Lib.hid hO3
      have hs3' : w.heap.size < w3.heap.size := by omega
      obtain ⟨p0, p1, p2, p3, p4⟩ := str5 hS3
      clear hS3 hO3 hb3 hb2 hY2
      go_wp2_with fail
      refine (RefBytes.bytes_any 8 hi' _ (by omega)).mono ?_
      rintro e w4 ⟨A4, n4, c4, rfl, hY4, hb4⟩
      obtain rfl : n4 = 8 := by rw [← hY4.len, BeP.parts_length]
      have hs4 := hb4.size
      obtain ⟨A5, c5, w5, happ5, hO5, hb5⟩ := (HO3.out.next hb4).app hY4 (by omega) (by omega)
      have hs5 := hb5.size
      have HB5 : Hid (Below w.heap.size w w5) := Lib.hid (HB3.out.trans ((hb4.mono (by omega)).trans (hb5.mono (by omega))))
      have hS5 := (HS3.out.next hb4).below hb5 (by omega)
      have HO5 := Lib.hid hO5
      have hs5' : w.heap.size < w5.heap.size := by omega
      obtain ⟨r0, r1, r2, r3, r4⟩ := str5 hS5
      clear hS5 hO5 hb5 hb4 hY4
      go_wp2_with fail
      refine (RefBytes.bytes_any 8 val _ (by omega)).mono ?_
      rintro e w6 ⟨A6, n6, c6, rfl, hY6, hb6⟩
      obtain rfl : n6 = 8 := by rw [← hY6.len, BeP.parts_length]
      have hs6 := hb6.size
      obtain ⟨A7, c7, w7, happ7, hO7, hb7⟩ := (HO5.out.next hb6).app hY6 (by omega) (by omega)
      have HB7 : Hid (Below w.heap.size w w7) := Lib.hid (HB5.out.trans ((hb6.mono (by omega)).trans (hb7.mono (by omega))))
      have HO7 := Lib.hid hO7
      clear hO7 hb7 hb6 hY6
      go_wp2_with fail
      go_ret
      rw [← HYS.out]
      have := HO7.out.bytes
      simp only [List.append_assoc] at this
      exact ⟨A7, _, c7, rfl, this, HB7.out⟩
end Go.Proofs.Ytcagflakmokoiaa.RefCellBytes
