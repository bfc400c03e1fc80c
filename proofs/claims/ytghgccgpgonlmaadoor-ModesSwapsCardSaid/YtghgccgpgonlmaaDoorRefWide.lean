/-
  The walks of the reference's numbers of two parts: norm, Of, Join, Take, Less, Int.
-/
import Derived.Test.YtghgccgpgonlmaaDoorWide
namespace Go.Proofs.YtghgccgpgonlmaaDoor.RefWide
open Go.RowKit

set_option maxHeartbeats 400000 in
theorem norm_any (h l : Int) (h1 : -1000000000000 ≤ h) (h2 : h ≤ 1000000000000) (l1 : -10000000000 ≤ l) (l2 : l ≤ 10000000000) (w : World) :
    Calls Tryd.prog 73 #[.int .i64 h, .int .i64 l] w fun e w' => e = .returned (.agg #[.int .i64 ((h * 4294967296 + l) / 4294967296), .int .i64 ((h * 4294967296 + l) % 4294967296)]) ∧ Below w.heap.size w w' := by
  generalize hx : h * 4294967296 + l = x
  go_enter Tryd.func73, Tryd.ntmps73
  go_wp2
  go_loopw [0, 1] (fun a b wr => ∃ H L : Int, a = .int .i64 H ∧ b = .int .i64 L ∧ H * 4294967296 + L = x ∧ -10000000000 ≤ L ∧ L ≤ 10000000000 ∧ wr = w.alloc (.cells #[.int .i64 0, .int .i64 0] 92)) (fun _ b _ => (- intOf b).toNat)
  case atStart => exact ⟨h, l, rfl, rfl, hx, by omega, by omega, rfl⟩
  case round =>
    obtain ⟨H, L, rfl, rfl, hX, hL1, hL2, rfl⟩ := hrel
    have hH1 : -2000000000000 ≤ H := by omega
    have hH2 : H ≤ 2000000000000 := by omega
    have HX := Lib.hid hX
    clear hX hx
    by_cases hlt : L < 0
    · go_wp2
      go_roundw
      case rel => exact ⟨H - 1, L + 4294967296, rfl, rfl, by have := HX.out; omega, by omega, by omega, by simp⟩
      case measure => simp [intOf]; omega
    · have hge : 0 ≤ L := by omega
      go_wp2
      have e1 : H + L / 4294967296 = x / 4294967296 := by have := HX.out; omega
      have e2 : L % 4294967296 = x % 4294967296 := by have := HX.out; omega
      rw [e1, e2]
      exact bodyPost_ret (v := .agg #[.int .i64 (x / 4294967296), .int .i64 (x % 4294967296)]) (by simp [results, Tryd.results73, go_sem]) rfl ⟨rfl, balloc (bsame w) _⟩

theorem tm (n : Int) : (0 ≤ n → n.tmod 4294967296 = n % 4294967296) ∧ (n < 0 → n.tmod 4294967296 = -((-n) % 4294967296)) := by
  refine ⟨fun h => Int.tmod_eq_emod_of_nonneg h, fun h => ?_⟩
  have := Int.neg_tmod (-n) 4294967296
  rw [Int.neg_neg] at this
  rw [this, Int.tmod_eq_emod_of_nonneg (by omega)]
theorem td (k : Int) : (k * 4294967296).tdiv 4294967296 = k := Int.mul_tdiv_cancel _ (by decide)
theorem nsplit (n : Int) : ∃ k t : Int, n.tmod 4294967296 = t ∧ (n - t).tdiv 4294967296 = k ∧ n = k * 4294967296 + t ∧ -4294967296 < t ∧ t < 4294967296 ∧ (0 ≤ n → 0 ≤ t) ∧ (n < 0 → t ≤ 0) := by
  have ⟨h1, h2⟩ := tm n
  refine ⟨_, _, rfl, rfl, ?_, ?_, ?_, ?_, ?_⟩
  · generalize n.tmod 4294967296 = t at *
    obtain ⟨k, hk⟩ : ∃ k, n - t = k * 4294967296 := by
      rcases Int.lt_or_le n 0 with h | h
      · exact ⟨-((-n) / 4294967296), by have := h2 h; omega⟩
      · exact ⟨n / 4294967296, by have := h1 h; omega⟩
    rw [hk, td]
    omega
  all_goals
    generalize n.tmod 4294967296 = t at *
    omega

set_option maxHeartbeats 400000 in
theorem of_any (n : Int) (h1 : -9223372036854775808 ≤ n) (h2 : n ≤ 9223372036854775807) (w : World) : Calls Tryd.prog 59 #[.int .i64 n] w fun e w' => e = .returned (.agg #[.int .i64 (n / 4294967296), .int .i64 (n % 4294967296)]) ∧ Below w.heap.size w w' := by
  obtain ⟨k, t, ht, hk, hn, ht1, ht2, ht3, ht4⟩ := nsplit n
  have HT : Hid (n.tmod 4294967296 = t) := Lib.hid ht
  have HK : Hid (wrap64 ((wrap64 (n - t)).tdiv 4294967296) = k) := Lib.hid (by rw [WideW.wrap_i64 (n - t) (by omega) (by omega), hk, WideW.wrap_i64 k (by omega) (by omega)])
  have HN := Lib.hid hn
  have hk1 : -10000000000 ≤ k := by omega
  have hk2 : k ≤ 10000000000 := by omega
  clear ht hk hn ht3 ht4
  go_enter Tryd.func59, Tryd.ntmps59
  go_wp2_with fail
  rw [HT.out, HK.out]
  generalize hW0 : (w).alloc (.cells #[.int .i64 0, .int .i64 0] 92) = W0
  have HS0_0 : Hid (Str W0 (w.heap.size) #[.int .i64 0, .int .i64 0]) := Lib.hid (by rw [← hW0]; have := Str.new (w) #[.int .i64 0, .int .i64 0] 92; simpa using this)
  have HB_0 : Hid (Below w.heap.size w W0) := Lib.hid (by rw [← hW0]; exact balloc (bsame w) _)
  have hw_0 := HB_0.out.size
  clear hW0
  obtain ⟨f0_0_0, f0_0_1⟩ := str2 HS0_0.out
  have hl0_0 := HS0_0.out.lt
  refine (norm_any k t (by omega) (by omega) (by omega) (by omega) _).mono ?_
  rintro e W1 ⟨rfl, hb1⟩
  rw [← HN.out]
  have HS0_1 := Lib.hid (HS0_0.out.next hb1)
  have HB_1 := Lib.hid (bstep HB_0.out hb1)
  have hw_1 := HB_1.out.size
  have hws_1 := (hb1).size
  clear f0_0_0 f0_0_1 HS0_0
  clear hb1
  obtain ⟨f0_1_0, f0_1_1⟩ := str2 HS0_1.out
  have hl0_1 := HS0_1.out.lt
  have hfz := fun j => HS0_1.out.frozen j
  go_wp2_with fail
  exact bodyPost_ret (v := .agg #[.int .i64 (n / 4294967296), .int .i64 (n % 4294967296)]) (by simp [results, Tryd.results59, go_sem, *]) rfl ⟨rfl, below_grown HB_1.out (grown_set (grown_set (grown_refl _ _) 0 _) 1 _) (by omega)⟩

set_option maxHeartbeats 400000 in
theorem join_any (x y : Int) (hx1 : -1000000000000000000000 ≤ x) (hx2 : x ≤ 1000000000000000000000) (hy1 : -1000000000000000000000 ≤ y) (hy2 : y ≤ 1000000000000000000000) (w : World) : Calls Tryd.prog 58 #[.agg #[.int .i64 (x / 4294967296), .int .i64 (x % 4294967296)], .agg #[.int .i64 (y / 4294967296), .int .i64 (y % 4294967296)]] w fun e w' => e = .returned (.agg #[.int .i64 ((x + y) / 4294967296), .int .i64 ((x + y) % 4294967296)]) ∧ Below w.heap.size w w' := by
  obtain ⟨xh, xl, ex, ey, hxx, b1, b2, b3, b4⟩ : ∃ a b : Int, x / 4294967296 = a ∧ x % 4294967296 = b ∧ x = a * 4294967296 + b ∧ -300000000000 ≤ a ∧ a ≤ 300000000000 ∧ 0 ≤ b ∧ b < 4294967296 := ⟨_, _, rfl, rfl, by omega, by omega, by omega, by omega, by omega⟩
  obtain ⟨yh, yl, ez, ew, hyy, c1, c2, c3, c4⟩ : ∃ a b : Int, y / 4294967296 = a ∧ y % 4294967296 = b ∧ y = a * 4294967296 + b ∧ -300000000000 ≤ a ∧ a ≤ 300000000000 ∧ 0 ≤ b ∧ b < 4294967296 := ⟨_, _, rfl, rfl, by omega, by omega, by omega, by omega, by omega⟩
  rw [ex, ey, ez, ew]
  have HN : Hid ((xh + yh) * 4294967296 + (xl + yl) = x + y) := Lib.hid (by omega)
  clear ex ey ez ew hxx hyy hx1 hx2 hy1 hy2
  go_enter Tryd.func58, Tryd.ntmps58
  go_wp2_with fail
  generalize hW0 : (((w).alloc (.cells #[.int .i64 xh, .int .i64 xl] 92)).alloc (.cells #[.int .i64 yh, .int .i64 yl] 92)).alloc (.cells #[.int .i64 0, .int .i64 0] 92) = W0
  have HS0_0 : Hid (Str W0 (w.heap.size) #[.int .i64 xh, .int .i64 xl]) := Lib.hid (by rw [← hW0]; have := ((Str.new (w) #[.int .i64 xh, .int .i64 xl] 92).alloc (.cells #[.int .i64 yh, .int .i64 yl] 92)).alloc (.cells #[.int .i64 0, .int .i64 0] 92); simpa using this)
  have HS1_0 : Hid (Str W0 (w.heap.size + 1) #[.int .i64 yh, .int .i64 yl]) := Lib.hid (by rw [← hW0]; have := (Str.new ((w).alloc (.cells #[.int .i64 xh, .int .i64 xl] 92)) #[.int .i64 yh, .int .i64 yl] 92).alloc (.cells #[.int .i64 0, .int .i64 0] 92); simpa using this)
  have HS2_0 : Hid (Str W0 (w.heap.size + 1 + 1) #[.int .i64 0, .int .i64 0]) := Lib.hid (by rw [← hW0]; have := Str.new (((w).alloc (.cells #[.int .i64 xh, .int .i64 xl] 92)).alloc (.cells #[.int .i64 yh, .int .i64 yl] 92)) #[.int .i64 0, .int .i64 0] 92; simpa using this)
  have HB_0 : Hid (Below w.heap.size w W0) := Lib.hid (by rw [← hW0]; exact balloc (balloc (balloc (bsame w) _) _) _)
  have hw_0 := HB_0.out.size
  clear hW0
  obtain ⟨f0_0_0, f0_0_1⟩ := str2 HS0_0.out
  have hl0_0 := HS0_0.out.lt
  obtain ⟨f1_0_0, f1_0_1⟩ := str2 HS1_0.out
  have hl1_0 := HS1_0.out.lt
  obtain ⟨f2_0_0, f2_0_1⟩ := str2 HS2_0.out
  have hl2_0 := HS2_0.out.lt
  refine (norm_any (xh + yh) (xl + yl) (by omega) (by omega) (by omega) (by omega) _).mono ?_
  rintro e W1 ⟨rfl, hb1⟩
  rw [HN.out]
  have HS0_1 := Lib.hid (HS0_0.out.next hb1)
  have HS1_1 := Lib.hid (HS1_0.out.next hb1)
  have HS2_1 := Lib.hid (HS2_0.out.next hb1)
  have HB_1 := Lib.hid (bstep HB_0.out hb1)
  have hw_1 := HB_1.out.size
  have hws_1 := (hb1).size
  clear f0_0_0 f0_0_1 HS0_0 f1_0_0 f1_0_1 HS1_0 f2_0_0 f2_0_1 HS2_0
  clear hb1
  obtain ⟨f0_1_0, f0_1_1⟩ := str2 HS0_1.out
  have hl0_1 := HS0_1.out.lt
  obtain ⟨f1_1_0, f1_1_1⟩ := str2 HS1_1.out
  have hl1_1 := HS1_1.out.lt
  obtain ⟨f2_1_0, f2_1_1⟩ := str2 HS2_1.out
  have hl2_1 := HS2_1.out.lt
  have hfz := fun j => HS2_1.out.frozen j
  go_wp2_with fail
  exact bodyPost_ret (v := .agg #[.int .i64 ((x + y) / 4294967296), .int .i64 ((x + y) % 4294967296)]) (by simp [results, Tryd.results58, go_sem, *]) rfl ⟨rfl, below_grown HB_1.out (grown_set (grown_set (grown_refl _ _) 0 _) 1 _) (by omega)⟩

set_option maxHeartbeats 400000 in
theorem take_any (x y : Int) (hx1 : -1000000000000000000000 ≤ x) (hx2 : x ≤ 1000000000000000000000) (hy1 : -1000000000000000000000 ≤ y) (hy2 : y ≤ 1000000000000000000000) (w : World) : Calls Tryd.prog 60 #[.agg #[.int .i64 (x / 4294967296), .int .i64 (x % 4294967296)], .agg #[.int .i64 (y / 4294967296), .int .i64 (y % 4294967296)]] w fun e w' => e = .returned (.agg #[.int .i64 ((x - y) / 4294967296), .int .i64 ((x - y) % 4294967296)]) ∧ Below w.heap.size w w' := by
  obtain ⟨xh, xl, ex, ey, hxx, b1, b2, b3, b4⟩ : ∃ a b : Int, x / 4294967296 = a ∧ x % 4294967296 = b ∧ x = a * 4294967296 + b ∧ -300000000000 ≤ a ∧ a ≤ 300000000000 ∧ 0 ≤ b ∧ b < 4294967296 := ⟨_, _, rfl, rfl, by omega, by omega, by omega, by omega, by omega⟩
  obtain ⟨yh, yl, ez, ew, hyy, c1, c2, c3, c4⟩ : ∃ a b : Int, y / 4294967296 = a ∧ y % 4294967296 = b ∧ y = a * 4294967296 + b ∧ -300000000000 ≤ a ∧ a ≤ 300000000000 ∧ 0 ≤ b ∧ b < 4294967296 := ⟨_, _, rfl, rfl, by omega, by omega, by omega, by omega, by omega⟩
  rw [ex, ey, ez, ew]
  have HN : Hid ((xh - yh) * 4294967296 + (xl - yl) = x - y) := Lib.hid (by omega)
  clear ex ey ez ew hxx hyy hx1 hx2 hy1 hy2
  go_enter Tryd.func60, Tryd.ntmps60
  go_wp2_with fail
  generalize hW0 : (((w).alloc (.cells #[.int .i64 xh, .int .i64 xl] 92)).alloc (.cells #[.int .i64 yh, .int .i64 yl] 92)).alloc (.cells #[.int .i64 0, .int .i64 0] 92) = W0
  have HS0_0 : Hid (Str W0 (w.heap.size) #[.int .i64 xh, .int .i64 xl]) := Lib.hid (by rw [← hW0]; have := ((Str.new (w) #[.int .i64 xh, .int .i64 xl] 92).alloc (.cells #[.int .i64 yh, .int .i64 yl] 92)).alloc (.cells #[.int .i64 0, .int .i64 0] 92); simpa using this)
  have HS1_0 : Hid (Str W0 (w.heap.size + 1) #[.int .i64 yh, .int .i64 yl]) := Lib.hid (by rw [← hW0]; have := (Str.new ((w).alloc (.cells #[.int .i64 xh, .int .i64 xl] 92)) #[.int .i64 yh, .int .i64 yl] 92).alloc (.cells #[.int .i64 0, .int .i64 0] 92); simpa using this)
  have HS2_0 : Hid (Str W0 (w.heap.size + 1 + 1) #[.int .i64 0, .int .i64 0]) := Lib.hid (by rw [← hW0]; have := Str.new (((w).alloc (.cells #[.int .i64 xh, .int .i64 xl] 92)).alloc (.cells #[.int .i64 yh, .int .i64 yl] 92)) #[.int .i64 0, .int .i64 0] 92; simpa using this)
  have HB_0 : Hid (Below w.heap.size w W0) := Lib.hid (by rw [← hW0]; exact balloc (balloc (balloc (bsame w) _) _) _)
  have hw_0 := HB_0.out.size
  clear hW0
  obtain ⟨f0_0_0, f0_0_1⟩ := str2 HS0_0.out
  have hl0_0 := HS0_0.out.lt
  obtain ⟨f1_0_0, f1_0_1⟩ := str2 HS1_0.out
  have hl1_0 := HS1_0.out.lt
  obtain ⟨f2_0_0, f2_0_1⟩ := str2 HS2_0.out
  have hl2_0 := HS2_0.out.lt
  refine (norm_any (xh - yh) (xl - yl) (by omega) (by omega) (by omega) (by omega) _).mono ?_
  rintro e W1 ⟨rfl, hb1⟩
  rw [HN.out]
  have HS0_1 := Lib.hid (HS0_0.out.next hb1)
  have HS1_1 := Lib.hid (HS1_0.out.next hb1)
  have HS2_1 := Lib.hid (HS2_0.out.next hb1)
  have HB_1 := Lib.hid (bstep HB_0.out hb1)
  have hw_1 := HB_1.out.size
  have hws_1 := (hb1).size
  clear f0_0_0 f0_0_1 HS0_0 f1_0_0 f1_0_1 HS1_0 f2_0_0 f2_0_1 HS2_0
  clear hb1
  obtain ⟨f0_1_0, f0_1_1⟩ := str2 HS0_1.out
  have hl0_1 := HS0_1.out.lt
  obtain ⟨f1_1_0, f1_1_1⟩ := str2 HS1_1.out
  have hl1_1 := HS1_1.out.lt
  obtain ⟨f2_1_0, f2_1_1⟩ := str2 HS2_1.out
  have hl2_1 := HS2_1.out.lt
  have hfz := fun j => HS2_1.out.frozen j
  go_wp2_with fail
  exact bodyPost_ret (v := .agg #[.int .i64 ((x - y) / 4294967296), .int .i64 ((x - y) % 4294967296)]) (by simp [results, Tryd.results60, go_sem, *]) rfl ⟨rfl, below_grown HB_1.out (grown_set (grown_set (grown_refl _ _) 0 _) 1 _) (by omega)⟩

set_option maxHeartbeats 400000 in
theorem less_any (x y : Int) (w : World) : Calls Tryd.prog 61 #[.agg #[.int .i64 (x / 4294967296), .int .i64 (x % 4294967296)], .agg #[.int .i64 (y / 4294967296), .int .i64 (y % 4294967296)]] w fun e w' => e = .returned (.bool (decide (x < y))) ∧ Below w.heap.size w w' := by
  have HD : Hid (decide (x < y) = (decide (x / 4294967296 < y / 4294967296) || (decide (x / 4294967296 = y / 4294967296) && decide (x % 4294967296 < y % 4294967296)))) := Lib.hid (by
    by_cases a : x / 4294967296 < y / 4294967296 <;> by_cases b : x / 4294967296 = y / 4294967296 <;> by_cases c : x % 4294967296 < y % 4294967296 <;> simp [a, b, c] <;> omega)
  rw [HD.out]
  generalize x / 4294967296 = xh
  generalize x % 4294967296 = xl
  generalize y / 4294967296 = yh
  generalize y % 4294967296 = yl
  clear HD
  by_cases a : xh < yh
  · go_enter Tryd.func61, Tryd.ntmps61
    go_wp2
    go_ret
    exact ⟨by simp [a], balloc (balloc (bsame w) _) _⟩
  by_cases b : xh = yh
  · subst b
    go_enter Tryd.func61, Tryd.ntmps61
    go_wp2
    go_ret
    exact ⟨by simp, balloc (balloc (bsame w) _) _⟩
  · go_enter Tryd.func61, Tryd.ntmps61
    go_wp2
    go_ret
    exact ⟨by simp [a], balloc (balloc (bsame w) _) _⟩

set_option maxHeartbeats 400000 in
theorem int_any (x : Int) (w : World) : Calls Tryd.prog 62 #[.agg #[.int .i64 (x / 4294967296), .int .i64 (x % 4294967296)]] w fun e w' => e = .returned (.tuple #[.int .i64 (WideP.num x), .bool (WideP.fits x)]) ∧ Below w.heap.size w w' := by
  obtain ⟨xh, xl, ex, ey, hxx, b3, b4⟩ : ∃ a b : Int, x / 4294967296 = a ∧ x % 4294967296 = b ∧ x = a * 4294967296 + b ∧ 0 ≤ b ∧ b < 4294967296 := ⟨_, _, rfl, rfl, by omega, by omega, by omega⟩
  rw [ex, ey]
  by_cases a : xh < -2147483648
  · have HF : Hid (WideP.fits x = false) := Lib.hid (by simp [WideP.fits]; omega)
    have HN : Hid (WideP.num x = 0) := Lib.hid (by simp [WideP.num, HF.out])
    clear ex ey hxx
    rw [HF.out, HN.out]
    go_enter Tryd.func62, Tryd.ntmps62
    go_wp2
    exact bodyPost_ret (v := .tuple #[.int .i64 0, .bool false]) (by simp [results, Tryd.results62, go_sem]) rfl ⟨rfl, balloc (bsame w) _⟩
  by_cases b : 2147483647 < xh
  · have HF : Hid (WideP.fits x = false) := Lib.hid (by simp [WideP.fits]; omega)
    have HN : Hid (WideP.num x = 0) := Lib.hid (by simp [WideP.num, HF.out])
    clear ex ey hxx
    rw [HF.out, HN.out]
    go_enter Tryd.func62, Tryd.ntmps62
    go_wp2
    exact bodyPost_ret (v := .tuple #[.int .i64 0, .bool false]) (by simp [results, Tryd.results62, go_sem]) rfl ⟨rfl, balloc (bsame w) _⟩
  · have HF : Hid (WideP.fits x = true) := Lib.hid (by simp [WideP.fits]; omega)
    have HN : Hid (WideP.num x = xh * 4294967296 + xl) := Lib.hid (by rw [← hxx]; simp [WideP.num, HF.out])
    clear ex ey hxx
    rw [HF.out, HN.out]
    go_enter Tryd.func62, Tryd.ntmps62
    go_wp2
    exact bodyPost_ret (v := .tuple #[.int .i64 (xh * 4294967296 + xl), .bool true]) (by simp [results, Tryd.results62, go_sem]) rfl ⟨rfl, balloc (bsame w) _⟩
end Go.Proofs.YtghgccgpgonlmaaDoor.RefWide
