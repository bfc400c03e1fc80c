/-
  Texts of one claim, joined: RefWide, RegC, RefModelD.
-/
import Derived.Test.YtghgccgpgonlmaaWide
import Derived.Test.YtghgccgpgonlmaaReg
import Derived.Test.YtghgccgpgonlmaaRegS
import Derived.Test.YtghgccgpgonlmaaModelA
namespace Go.Proofs.Ytghgccgpgonlmaa.RefWide
open Go.RowKit

set_option maxHeartbeats 400000 in
theorem norm_any (h l : Int) (h1 : -1000000000000 ≤ h) (h2 : h ≤ 1000000000000) (l1 : -10000000000 ≤ l) (l2 : l ≤ 10000000000) (w : World) :
    Calls Try.prog 109 #[.int .i64 h, .int .i64 l] w fun e w' => e = .returned (.agg #[.int .i64 ((h * 4294967296 + l) / 4294967296), .int .i64 ((h * 4294967296 + l) % 4294967296)]) ∧ Below w.heap.size w w' := by
  generalize hx : h * 4294967296 + l = x
  go_enter Try.func109, Try.ntmps109
  go_wp2
  go_loopw [0, 1] (fun a b wr => ∃ H L : Int, a = .int .i64 H ∧ b = .int .i64 L ∧ H * 4294967296 + L = x ∧ -10000000000 ≤ L ∧ L ≤ 10000000000 ∧ wr = w.alloc (.cells #[.int .i64 0, .int .i64 0] 137)) (fun _ b _ => (- intOf b).toNat)
  case atStart => exact ⟨h, l, rfl, rfl, hx, by omega, by omega, rfl⟩
  case round =>
    obtain ⟨H, L, rfl, rfl, hX, hL1, hL2, rfl⟩ := hrel
    have hH1 : -2000000000000 ≤ H := by omega
    have hH2 : H ≤ 2000000000000 := by omega
    have HX := Lib.hid hX
    clear hX hx
    by_cases hlt : L < 0
    · go_wp2
      go_roundw
      case rel => exact ⟨H - 1, L + 4294967296, rfl, rfl, by have := HX.out; omega, by omega, by omega, by simp⟩
      case measure => simp [intOf]; omega
    · have hge : 0 ≤ L := by omega
      go_wp2
      have e1 : H + L / 4294967296 = x / 4294967296 := by have := HX.out; omega
      have e2 : L % 4294967296 = x % 4294967296 := by have := HX.out; omega
      rw [e1, e2]
      exact bodyPost_ret (v := .agg #[.int .i64 (x / 4294967296), .int .i64 (x % 4294967296)]) (by simp [results, Try.results109, go_sem]) rfl ⟨rfl, balloc (bsame w) _⟩

theorem tm (n : Int) : (0 ≤ n → n.tmod 4294967296 = n % 4294967296) ∧ (n < 0 → n.tmod 4294967296 = -((-n) % 4294967296)) := by
  refine ⟨fun h => Int.tmod_eq_emod_of_nonneg h, fun h => ?_⟩
  have := Int.neg_tmod (-n) 4294967296
  rw [Int.neg_neg] at this
  rw [this, Int.tmod_eq_emod_of_nonneg (by omega)]
theorem td (k : Int) : (k * 4294967296).tdiv 4294967296 = k := Int.mul_tdiv_cancel _ (by decide)
theorem nsplit (n : Int) : ∃ k t : Int, n.tmod 4294967296 = t ∧ (n - t).tdiv 4294967296 = k ∧ n = k * 4294967296 + t ∧ -4294967296 < t ∧ t < 4294967296 ∧ (0 ≤ n → 0 ≤ t) ∧ (n < 0 → t ≤ 0) := by
  have ⟨h1, h2⟩ := tm n
  refine ⟨_, _, rfl, rfl, ?_, ?_, ?_, ?_, ?_⟩
  · generalize n.tmod 4294967296 = t at *
    obtain ⟨k, hk⟩ : ∃ k, n - t = k * 4294967296 := by
      rcases Int.lt_or_le n 0 with h | h
      · exact ⟨-((-n) / 4294967296), by have := h2 h; omega⟩
      · exact ⟨n / 4294967296, by have := h1 h; omega⟩
    rw [hk, td]
    omega
  all_goals
    generalize n.tmod 4294967296 = t at *
    omega

set_option maxHeartbeats 400000 in
theorem of_any (n : Int) (h1 : -9223372036854775808 ≤ n) (h2 : n ≤ 9223372036854775807) (w : World) : Calls Try.prog 88 #[.int .i64 n] w fun e w' => e = .returned (.agg #[.int .i64 (n / 4294967296), .int .i64 (n % 4294967296)]) ∧ Below w.heap.size w w' := by
  obtain ⟨k, t, ht, hk, hn, ht1, ht2, ht3, ht4⟩ := nsplit n
  have HT : Hid (n.tmod 4294967296 = t) := Lib.hid ht
  have HK : Hid (wrap64 ((wrap64 (n - t)).tdiv 4294967296) = k) := Lib.hid (by rw [WideW.wrap_i64 (n - t) (by omega) (by omega), hk, WideW.wrap_i64 k (by omega) (by omega)])
  have HN := Lib.hid hn
  have hk1 : -10000000000 ≤ k := by omega
  have hk2 : k ≤ 10000000000 := by omega
  clear ht hk hn ht3 ht4
  go_enter Try.func88, Try.ntmps88
  go_wp2_with fail
  rw [HT.out, HK.out]
  generalize hW0 : (w).alloc (.cells #[.int .i64 0, .int .i64 0] 137) = W0
  have HS0_0 : Hid (Str W0 (w.heap.size) #[.int .i64 0, .int .i64 0]) := Lib.hid (by rw [← hW0]; have := Str.new (w) #[.int .i64 0, .int .i64 0] 137; simpa using this)
  have HB_0 : Hid (Below w.heap.size w W0) := Lib.hid (by rw [← hW0]; exact balloc (bsame w) _)
  have hw_0 := HB_0.out.size
  clear hW0
  obtain ⟨f0_0_0, f0_0_1⟩ := str2 HS0_0.out
  have hl0_0 := HS0_0.out.lt
  refine (norm_any k t (by omega) (by omega) (by omega) (by omega) _).mono ?_
  rintro e W1 ⟨rfl, hb1⟩
  rw [← HN.out]
  have HS0_1 := Lib.hid (HS0_0.out.next hb1)
  have HB_1 := Lib.hid (bstep HB_0.out hb1)
  have hw_1 := HB_1.out.size
  have hws_1 := (hb1).size
  clear f0_0_0 f0_0_1 HS0_0
  clear hb1
  obtain ⟨f0_1_0, f0_1_1⟩ := str2 HS0_1.out
  have hl0_1 := HS0_1.out.lt
  have hfz := fun j => HS0_1.out.frozen j
  go_wp2_with fail
  exact bodyPost_ret (v := .agg #[.int .i64 (n / 4294967296), .int .i64 (n % 4294967296)]) (by simp [results, Try.results88, go_sem, *]) rfl ⟨rfl, below_grown HB_1.out (grown_set (grown_set (grown_refl _ _) 0 _) 1 _) (by omega)⟩

set_option maxHeartbeats 400000 in
theorem join_any (x y : Int) (hx1 : -1000000000000000000000 ≤ x) (hx2 : x ≤ 1000000000000000000000) (hy1 : -1000000000000000000000 ≤ y) (hy2 : y ≤ 1000000000000000000000) (w : World) : Calls Try.prog 87 #[.agg #[.int .i64 (x / 4294967296), .int .i64 (x % 4294967296)], .agg #[.int .i64 (y / 4294967296), .int .i64 (y % 4294967296)]] w fun e w' => e = .returned (.agg #[.int .i64 ((x + y) / 4294967296), .int .i64 ((x + y) % 4294967296)]) ∧ Below w.heap.size w w' := by
  obtain ⟨xh, xl, ex, ey, hxx, b1, b2, b3, b4⟩ : ∃ a b : Int, x / 4294967296 = a ∧ x % 4294967296 = b ∧ x = a * 4294967296 + b ∧ -300000000000 ≤ a ∧ a ≤ 300000000000 ∧ 0 ≤ b ∧ b < 4294967296 := ⟨_, _, rfl, rfl, by omega, by omega, by omega, by omega, by omega⟩
  obtain ⟨yh, yl, ez, ew, hyy, c1, c2, c3, c4⟩ : ∃ a b : Int, y / 4294967296 = a ∧ y % 4294967296 = b ∧ y = a * 4294967296 + b ∧ -300000000000 ≤ a ∧ a ≤ 300000000000 ∧ 0 ≤ b ∧ b < 4294967296 := ⟨_, _, rfl, rfl, by omega, by omega, by omega, by omega, by omega⟩
  rw [ex, ey, ez, ew]
  have HN : Hid ((xh + yh) * 4294967296 + (xl + yl) = x + y) := Lib.hid (by omega)
  clear ex ey ez ew hxx hyy hx1 hx2 hy1 hy2
  go_enter Try.func87, Try.ntmps87
  go_wp2_with fail
  generalize hW0 : (((w).alloc (.cells #[.int .i64 xh, .int .i64 xl] 137)).alloc (.cells #[.int .i64 yh, .int .i64 yl] 137)).alloc (.cells #[.int .i64 0, .int .i64 0] 137) = W0
  have HS0_0 : Hid (Str W0 (w.heap.size) #[.int .i64 xh, .int .i64 xl]) := Lib.hid (by rw [← hW0]; have := ((Str.new (w) #[.int .i64 xh, .int .i64 xl] 137).alloc (.cells #[.int .i64 yh, .int .i64 yl] 137)).alloc (.cells #[.int .i64 0, .int .i64 0] 137); simpa using this)
  have HS1_0 : Hid (Str W0 (w.heap.size + 1) #[.int .i64 yh, .int .i64 yl]) := Lib.hid (by rw [← hW0]; have := (Str.new ((w).alloc (.cells #[.int .i64 xh, .int .i64 xl] 137)) #[.int .i64 yh, .int .i64 yl] 137).alloc (.cells #[.int .i64 0, .int .i64 0] 137); simpa using this)
  have HS2_0 : Hid (Str W0 (w.heap.size + 1 + 1) #[.int .i64 0, .int .i64 0]) := Lib.hid (by rw [← hW0]; have := Str.new (((w).alloc (.cells #[.int .i64 xh, .int .i64 xl] 137)).alloc (.cells #[.int .i64 yh, .int .i64 yl] 137)) #[.int .i64 0, .int .i64 0] 137; simpa using this)
  have HB_0 : Hid (Below w.heap.size w W0) := Lib.hid (by rw [← hW0]; exact balloc (balloc (balloc (bsame w) _) _) _)
  have hw_0 := HB_0.out.size
  clear hW0
  obtain ⟨f0_0_0, f0_0_1⟩ := str2 HS0_0.out
  have hl0_0 := HS0_0.out.lt
  obtain ⟨f1_0_0, f1_0_1⟩ := str2 HS1_0.out
  have hl1_0 := HS1_0.out.lt
  obtain ⟨f2_0_0, f2_0_1⟩ := str2 HS2_0.out
  have hl2_0 := HS2_0.out.lt
  refine (norm_any (xh + yh) (xl + yl) (by omega) (by omega) (by omega) (by omega) _).mono ?_
  rintro e W1 ⟨rfl, hb1⟩
  rw [HN.out]
  have HS0_1 := Lib.hid (HS0_0.out.next hb1)
  have HS1_1 := Lib.hid (HS1_0.out.next hb1)
  have HS2_1 := Lib.hid (HS2_0.out.next hb1)
  have HB_1 := Lib.hid (bstep HB_0.out hb1)
  have hw_1 := HB_1.out.size
  have hws_1 := (hb1).size
  clear f0_0_0 f0_0_1 HS0_0 f1_0_0 f1_0_1 HS1_0 f2_0_0 f2_0_1 HS2_0
  clear hb1
  obtain ⟨f0_1_0, f0_1_1⟩ := str2 HS0_1.out
  have hl0_1 := HS0_1.out.lt
  obtain ⟨f1_1_0, f1_1_1⟩ := str2 HS1_1.out
  have hl1_1 := HS1_1.out.lt
  obtain ⟨f2_1_0, f2_1_1⟩ := str2 HS2_1.out
  have hl2_1 := HS2_1.out.lt
  have hfz := fun j => HS2_1.out.frozen j
  go_wp2_with fail
  exact bodyPost_ret (v := .agg #[.int .i64 ((x + y) / 4294967296), .int .i64 ((x + y) % 4294967296)]) (by simp [results, Try.results87, go_sem, *]) rfl ⟨rfl, below_grown HB_1.out (grown_set (grown_set (grown_refl _ _) 0 _) 1 _) (by omega)⟩

set_option maxHeartbeats 400000 in
theorem take_any (x y : Int) (hx1 : -1000000000000000000000 ≤ x) (hx2 : x ≤ 1000000000000000000000) (hy1 : -1000000000000000000000 ≤ y) (hy2 : y ≤ 1000000000000000000000) (w : World) : Calls Try.prog 89 #[.agg #[.int .i64 (x / 4294967296), .int .i64 (x % 4294967296)], .agg #[.int .i64 (y / 4294967296), .int .i64 (y % 4294967296)]] w fun e w' => e = .returned (.agg #[.int .i64 ((x - y) / 4294967296), .int .i64 ((x - y) % 4294967296)]) ∧ Below w.heap.size w w' := by
  obtain ⟨xh, xl, ex, ey, hxx, b1, b2, b3, b4⟩ : ∃ a b : Int, x / 4294967296 = a ∧ x % 4294967296 = b ∧ x = a * 4294967296 + b ∧ -300000000000 ≤ a ∧ a ≤ 300000000000 ∧ 0 ≤ b ∧ b < 4294967296 := ⟨_, _, rfl, rfl, by omega, by omega, by omega, by omega, by omega⟩
  obtain ⟨yh, yl, ez, ew, hyy, c1, c2, c3, c4⟩ : ∃ a b : Int, y / 4294967296 = a ∧ y % 4294967296 = b ∧ y = a * 4294967296 + b ∧ -300000000000 ≤ a ∧ a ≤ 300000000000 ∧ 0 ≤ b ∧ b < 4294967296 := ⟨_, _, rfl, rfl, by omega, by omega, by omega, by omega, by omega⟩
  rw [ex, ey, ez, ew]
  have HN : Hid ((xh - yh) * 4294967296 + (xl - yl) = x - y) := Lib.hid (by omega)
  clear ex ey ez ew hxx hyy hx1 hx2 hy1 hy2
  go_enter Try.func89, Try.ntmps89
  go_wp2_with fail
  generalize hW0 : (((w).alloc (.cells #[.int .i64 xh, .int .i64 xl] 137)).alloc (.cells #[.int .i64 yh, .int .i64 yl] 137)).alloc (.cells #[.int .i64 0, .int .i64 0] 137) = W0
  have HS0_0 : Hid (Str W0 (w.heap.size) #[.int .i64 xh, .int .i64 xl]) := Lib.hid (by rw [← hW0]; have := ((Str.new (w) #[.int .i64 xh, .int .i64 xl] 137).alloc (.cells #[.int .i64 yh, .int .i64 yl] 137)).alloc (.cells #[.int .i64 0, .int .i64 0] 137); simpa using this)
  have HS1_0 : Hid (Str W0 (w.heap.size + 1) #[.int .i64 yh, .int .i64 yl]) := Lib.hid (by rw [← hW0]; have := (Str.new ((w).alloc (.cells #[.int .i64 xh, .int .i64 xl] 137)) #[.int .i64 yh, .int .i64 yl] 137).alloc (.cells #[.int .i64 0, .int .i64 0] 137); simpa using this)
  have HS2_0 : Hid (Str W0 (w.heap.size + 1 + 1) #[.int .i64 0, .int .i64 0]) := Lib.hid (by rw [← hW0]; have := Str.new (((w).alloc (.cells #[.int .i64 xh, .int .i64 xl] 137)).alloc (.cells #[.int .i64 yh, .int .i64 yl] 137)) #[.int .i64 0, .int .i64 0] 137; simpa using this)
  have HB_0 : Hid (Below w.heap.size w W0) := Lib.hid (by rw [← hW0]; exact balloc (balloc (balloc (bsame w) _) _) _)
  have hw_0 := HB_0.out.size
  clear hW0
  obtain ⟨f0_0_0, f0_0_1⟩ := str2 HS0_0.out
  have hl0_0 := HS0_0.out.lt
  obtain ⟨f1_0_0, f1_0_1⟩ := str2 HS1_0.out
  have hl1_0 := HS1_0.out.lt
  obtain ⟨f2_0_0, f2_0_1⟩ := str2 HS2_0.out
  have hl2_0 := HS2_0.out.lt
  refine (norm_any (xh - yh) (xl - yl) (by omega) (by omega) (by omega) (by omega) _).mono ?_
  rintro e W1 ⟨rfl, hb1⟩
  rw [HN.out]
  have HS0_1 := Lib.hid (HS0_0.out.next hb1)
  have HS1_1 := Lib.hid (HS1_0.out.next hb1)
  have HS2_1 := Lib.hid (HS2_0.out.next hb1)
  have HB_1 := Lib.hid (bstep HB_0.out hb1)
  have hw_1 := HB_1.out.size
  have hws_1 := (hb1).size
  clear f0_0_0 f0_0_1 HS0_0 f1_0_0 f1_0_1 HS1_0 f2_0_0 f2_0_1 HS2_0
  clear hb1
  obtain ⟨f0_1_0, f0_1_1⟩ := str2 HS0_1.out
  have hl0_1 := HS0_1.out.lt
  obtain ⟨f1_1_0, f1_1_1⟩ := str2 HS1_1.out
  have hl1_1 := HS1_1.out.lt
  obtain ⟨f2_1_0, f2_1_1⟩ := str2 HS2_1.out
  have hl2_1 := HS2_1.out.lt
  have hfz := fun j => HS2_1.out.frozen j
  go_wp2_with fail
  exact bodyPost_ret (v := .agg #[.int .i64 ((x - y) / 4294967296), .int .i64 ((x - y) % 4294967296)]) (by simp [results, Try.results89, go_sem, *]) rfl ⟨rfl, below_grown HB_1.out (grown_set (grown_set (grown_refl _ _) 0 _) 1 _) (by omega)⟩

set_option maxHeartbeats 400000 in
theorem less_any (x y : Int) (w : World) : Calls Try.prog 90 #[.agg #[.int .i64 (x / 4294967296), .int .i64 (x % 4294967296)], .agg #[.int .i64 (y / 4294967296), .int .i64 (y % 4294967296)]] w fun e w' => e = .returned (.bool (decide (x < y))) ∧ Below w.heap.size w w' := by
  have HD : Hid (decide (x < y) = (decide (x / 4294967296 < y / 4294967296) || (decide (x / 4294967296 = y / 4294967296) && decide (x % 4294967296 < y % 4294967296)))) := Lib.hid (by
    by_cases a : x / 4294967296 < y / 4294967296 <;> by_cases b : x / 4294967296 = y / 4294967296 <;> by_cases c : x % 4294967296 < y % 4294967296 <;> simp [a, b, c] <;> omega)
  rw [HD.out]
  generalize x / 4294967296 = xh
  generalize x % 4294967296 = xl
  generalize y / 4294967296 = yh
  generalize y % 4294967296 = yl
  clear HD
  by_cases a : xh < yh
  · go_enter Try.func90, Try.ntmps90
    go_wp2
    go_ret
    exact ⟨by simp [a], balloc (balloc (bsame w) _) _⟩
  by_cases b : xh = yh
  · subst b
    go_enter Try.func90, Try.ntmps90
    go_wp2
    go_ret
    exact ⟨by simp, balloc (balloc (bsame w) _) _⟩
  · go_enter Try.func90, Try.ntmps90
    go_wp2
    go_ret
    exact ⟨by simp [a], balloc (balloc (bsame w) _) _⟩

set_option maxHeartbeats 400000 in
theorem int_any (x : Int) (w : World) : Calls Try.prog 91 #[.agg #[.int .i64 (x / 4294967296), .int .i64 (x % 4294967296)]] w fun e w' => e = .returned (.tuple #[.int .i64 (WideP.num x), .bool (WideP.fits x)]) ∧ Below w.heap.size w w' := by
  obtain ⟨xh, xl, ex, ey, hxx, b3, b4⟩ : ∃ a b : Int, x / 4294967296 = a ∧ x % 4294967296 = b ∧ x = a * 4294967296 + b ∧ 0 ≤ b ∧ b < 4294967296 := ⟨_, _, rfl, rfl, by omega, by omega, by omega⟩
  rw [ex, ey]
  by_cases a : xh < -2147483648
  · have HF : Hid (WideP.fits x = false) := Lib.hid (by simp [WideP.fits]; omega)
    have HN : Hid (WideP.num x = 0) := Lib.hid (by simp [WideP.num, HF.out])
    clear ex ey hxx
    rw [HF.out, HN.out]
    go_enter Try.func91, Try.ntmps91
    go_wp2
    exact bodyPost_ret (v := .tuple #[.int .i64 0, .bool false]) (by simp [results, Try.results91, go_sem]) rfl ⟨rfl, balloc (bsame w) _⟩
  by_cases b : 2147483647 < xh
  · have HF : Hid (WideP.fits x = false) := Lib.hid (by simp [WideP.fits]; omega)
    have HN : Hid (WideP.num x = 0) := Lib.hid (by simp [WideP.num, HF.out])
    clear ex ey hxx
    rw [HF.out, HN.out]
    go_enter Try.func91, Try.ntmps91
    go_wp2
    exact bodyPost_ret (v := .tuple #[.int .i64 0, .bool false]) (by simp [results, Try.results91, go_sem]) rfl ⟨rfl, balloc (bsame w) _⟩
  · have HF : Hid (WideP.fits x = true) := Lib.hid (by simp [WideP.fits]; omega)
    have HN : Hid (WideP.num x = xh * 4294967296 + xl) := Lib.hid (by rw [← hxx]; simp [WideP.num, HF.out])
    clear ex ey hxx
    rw [HF.out, HN.out]
    go_enter Try.func91, Try.ntmps91
    go_wp2
    exact bodyPost_ret (v := .tuple #[.int .i64 (xh * 4294967296 + xl), .bool true]) (by simp [results, Try.results91, go_sem]) rfl ⟨rfl, balloc (bsame w) _⟩
end Go.Proofs.Ytghgccgpgonlmaa.RefWide
namespace Go.Proofs.Ytghgccgpgonlmaa.Reg
open Go.RowKit

/-- a word under a condition; nothing else -/
def when {R : Way} (C : Prop) (p : SP R) : SP R := ⟨fun v w => (C → p.pred v w) ∧ (¬ C → v = undef), fun _ _ _ hb h => ⟨fun hC => p.st _ _ _ hb (h.1 hC), h.2⟩⟩
/-- one word, at place j -/
def only {R : Way} (j : Nat) (p : SP R) : List (SP R) := List.replicate j any ++ [p]
theorem predAt_only {R : Way} (j : Nat) (p : SP R) (v : Value) (w : World) : predAt (only j p) j v w = p.pred v w := by
  simp [predAt, only]
section
variable {R : Way} {P : Program} {ops : Array Oper} {Q : Exit → Act → World → Prop} {T : List (SP R)} {a0 a : Act} {W w : World} {j : Nat} {o : Oper}
theorem obl_when {C : Prop} {p : SP R} {g d : Nat} {b c : Bool} {D : Prop} (hg : o.guard = some (g, b)) (hd : (ops[g]?).bind (·.dst) = some d) (he : (D → a.eval (.tmp d) = .bool c) ∧ (¬ D → a.eval (.tmp d) = undef)) (hT : T[j]? = some (when C p)) (hC : C ↔ D ∧ c = b)
    (h : C → o.wp P a w (Done (only j p) j o a w) Q) :
    (Region.wanted o (yielded ops a.tmps) = true → o.wp P a w (Done T j o a w) Q) ∧ (Region.wanted o (yielded ops a.tmps) = false → predAt T j undef w) := by
  refine ⟨fun hw => ?_, fun hw => ?_⟩
  · have hCC : C := by
      rcases Classical.em D with hD | hD
      · refine hC.2 ⟨hD, ?_⟩
        simpa [Region.wanted, hg, yields_of hd (he.1 hD)] using hw
      · exfalso
        have hu := he.2 hD
        have hy : yielded ops a.tmps g = none := by
          unfold yielded
          rw [hd]
          simp only [Act.eval, Array.getD_eq_getD_getElem?] at hu
          simp only [Option.bind_some]
          cases hx : a.tmps[d]? with
          | none => rfl
          | some v =>
            rw [hx] at hu
            have h2 : v = undef := hu
            subst h2
            rfl
        simp [Region.wanted, hg, hy] at hw
    refine Oper.wp_mono (fun a' w' ⟨v, e, hz, hp, hb⟩ => ⟨v, e, hz, ?_, hb⟩) (h hCC)
    rw [predAt_only] at hp
    unfold predAt
    rw [hT]
    exact ⟨fun _ => hp, fun hn => absurd hCC hn⟩
  · unfold predAt
    rw [hT]
    refine ⟨fun hCC => ?_, fun _ => rfl⟩
    obtain ⟨hD, hcb⟩ := hC.1 hCC
    exfalso
    simp [Region.wanted, hg, yields_of hd (he.1 hD), hcb] at hw
theorem obl_may {p : SP R} {g d : Nat} {b c : Bool} (hg : o.guard = some (g, b)) (hd : (ops[g]?).bind (·.dst) = some d) (he : a.eval (.tmp d) = .bool c) (hT : T[j]? = some (when (c = b) p))
    (h : c = b → o.wp P a w (Done (only j p) j o a w) Q) :
    (Region.wanted o (yielded ops a.tmps) = true → o.wp P a w (Done T j o a w) Q) ∧ (Region.wanted o (yielded ops a.tmps) = false → predAt T j undef w) :=
  obl_when (D := True) hg hd ⟨fun _ => he, fun h => absurd trivial h⟩ hT ⟨fun h => ⟨trivial, h⟩, fun h => h.2⟩ h
theorem obl_deep {p : SP R} {D : Prop} {g d : Nat} {b c : Bool} (hg : o.guard = some (g, b)) (hd : (ops[g]?).bind (·.dst) = some d) (he : (D → a.eval (.tmp d) = .bool c) ∧ (¬ D → a.eval (.tmp d) = undef)) (hT : T[j]? = some (when (D ∧ c = b) p))
    (h : D ∧ c = b → o.wp P a w (Done (only j p) j o a w) Q) :
    (Region.wanted o (yielded ops a.tmps) = true → o.wp P a w (Done T j o a w) Q) ∧ (Region.wanted o (yielded ops a.tmps) = false → predAt T j undef w) :=
  obl_when (D := D) hg hd he hT Iff.rfl h
end
end Go.Proofs.Ytghgccgpgonlmaa.Reg
namespace Go.Proofs.Ytghgccgpgonlmaa.ModelW
open Go.RowKit
set_option linter.unusedVariables false
/-- the call hands back the cell with this value, and a number -/
def GivesMove (w : World) (kd : Int) (A : Option Addr) (n c : Nat) (lo hi va err : Int) (e : Ending) (w' : World) : Prop := e = .returned (.tuple #[.agg #[.int .i64 kd, .slice A n c, .int .i64 lo, .int .i64 hi, .int .i64 va], .int .i64 err]) ∧ Below w.heap.size w w'
set_option maxRecDepth 100000 in
set_option maxHeartbeats 1000000 in
theorem rmove_kind (act : Int) (xk : ByteArray) (Ax : Option Addr) (nx cx : Nat) (xlo xhi xn : Int) (ckd : Int) (Ac : Option Addr) (nc cc : Nat) (clo chi cva : Int) (w : World) (hk : ¬ ckd = 2) : Calls Try.prog 67 #[.agg #[.int .i64 act, .string xk, .slice Ax nx cx, .int .i64 xlo, .int .i64 xhi, .int .i64 xn], .agg #[.int .i64 ckd, .slice Ac nc cc, .int .i64 clo, .int .i64 chi, .int .i64 cva]] w (GivesMove w ckd Ac nc cc clo chi cva 6) := by
  have hk2 : (ckd != 2) = true := by simpa using hk
  go_enter Try.func67, Try.ntmps67
  go_wp2
  exact bodyPost_ret (v := .tuple #[.agg #[.int .i64 ckd, .slice Ac nc cc, .int .i64 clo, .int .i64 chi, .int .i64 cva], .int .i64 6]) (by simp [results, Try.results67, go_sem]) rfl ⟨rfl, balloc (balloc (balloc (bsame w) _) _) _⟩
set_option maxRecDepth 100000 in
set_option maxHeartbeats 1000000 in
theorem rmove4_low (xk : ByteArray) (Ax : Option Addr) (nx cx : Nat) (xlo xhi xn : Int) (Ac : Option Addr) (nc cc : Nat) (clo chi cva : Int) (w : World) (hi1 : In64 clo) (hi2 : In64 chi) (hi3 : In64 cva) (hi4 : In64 xn) (ho : (cva + xn) < clo) : Calls Try.prog 67 #[.agg #[.int .i64 4, .string xk, .slice Ax nx cx, .int .i64 xlo, .int .i64 xhi, .int .i64 xn], .agg #[.int .i64 2, .slice Ac nc cc, .int .i64 clo, .int .i64 chi, .int .i64 cva]] w (GivesMove w 2 Ac nc cc clo chi cva 8) := by
  obtain ⟨v1, v2⟩ := hi3
  obtain ⟨v3, v4⟩ := hi4
  obtain ⟨v5, v6⟩ := hi1
  obtain ⟨v7, v8⟩ := hi2
  have HLO : Hid (decide ((cva + xn) < clo) = true) := Lib.hid (by simpa using ho)
  clear ho
  go_enter Try.func67, Try.ntmps67
  go_wp2_with fail
  generalize hW0 : (((w).alloc (.cells #[.int .i64 4, .string xk, .slice Ax nx cx, .int .i64 xlo, .int .i64 xhi, .int .i64 xn] 24)).alloc (.cells #[.int .i64 2, .slice Ac nc cc, .int .i64 clo, .int .i64 chi, .int .i64 cva] 37)).alloc (.cells #[.int .i64 0, .slice none 0 0, .int .i64 0, .int .i64 0, .int .i64 0] 37) = W0
  obtain ⟨HS0_0, HS1_0, HS2_0, HB_0, hw_0, hz0⟩ := new3 hW0
  clear hW0 hz0
  have f0_0 := str6 HS0_0.out
  have hl0_0 := HS0_0.out.lt
  have hf0_0 := fun j => HS0_0.out.frozen j
  have f1_0 := str5 HS1_0.out
  have hl1_0 := HS1_0.out.lt
  have hf1_0 := fun j => HS1_0.out.frozen j
  have f2_0 := str5 HS2_0.out
  have hl2_0 := HS2_0.out.lt
  have hf2_0 := fun j => HS2_0.out.frozen j
  refine Reg.wp_region_tail (R := ext) (W := W0) [Reg.eqv (.pointer (some ⟨w.heap.size + 1, 4, none⟩)), Reg.eqv (.int .i64 cva), Reg.eqv (.agg #[.int .i64 (cva / 4294967296), .int .i64 (cva % 4294967296)]), Reg.eqv (.pointer (some ⟨w.heap.size, 5, none⟩)), Reg.eqv (.int .i64 xn), Reg.eqv (.agg #[.int .i64 (xn / 4294967296), .int .i64 (xn % 4294967296)]), Reg.eqv (.agg #[.int .i64 ((cva + xn) / 4294967296), .int .i64 ((cva + xn) % 4294967296)]), Reg.fresh W0.heap.size #[.int .i64 0, .int .i64 0]] 51 8 _ [[(3, none)], [(13, some 0)], [(14, some 1)], [(2, none)], [(16, some 3)], [(17, some 4)], [(15, some 2), (18, some 5)], []] rfl (by kernel_rfl) (by kernel_rfl) (by rfl) (by rfl) rfl (by kernel_rfl) ?_ [some 13, some 14, some 15, some 16, some 17, some 18, some 19, some 6] (by kernel_rfl) ?_
  · refine ⟨?_, ?_, ?_, ?_, ?_, ?_, ?_, ?_, trivial⟩
    · intro ax wx hx hs
      obtain ⟨e3, -⟩ := hs
      have g3 := Reg.ev (v := .pointer (some ⟨w.heap.size + 1, 0, none⟩)) e3
      exact Reg.obl_free rfl (Reg.wp_eqv (Option.some_ne_none _) (by go_simp) rfl)
    · intro ax wx hx hs
      obtain ⟨e13, -⟩ := hs
      have g13 := Reg.ev (v := .pointer (some ⟨w.heap.size + 1, 4, none⟩)) e13
      obtain ⟨hc, -⟩ := bcell hx
      exact Reg.obl_free rfl (Reg.wp_eqv (Option.some_ne_none _) (by go_simp) rfl)
    · intro ax wx hx hs
      obtain ⟨e14, -⟩ := hs
      have g14 := Reg.ev (v := .int .i64 cva) e14
      refine Reg.obl_free rfl ?_
      go_simp
      refine (RefWide.of_any cva v1 v2 _).mono ?_
      rintro e wy ⟨rfl, hby⟩
      exact Reg.done (Option.some_ne_none _) rfl hby
    · intro ax wx hx hs
      obtain ⟨e2, -⟩ := hs
      have g2 := Reg.ev (v := .pointer (some ⟨w.heap.size, 0, none⟩)) e2
      exact Reg.obl_free rfl (Reg.wp_eqv (Option.some_ne_none _) (by go_simp) rfl)
    · intro ax wx hx hs
      obtain ⟨e16, -⟩ := hs
      have g16 := Reg.ev (v := .pointer (some ⟨w.heap.size, 5, none⟩)) e16
      obtain ⟨hc, -⟩ := bcell hx
      exact Reg.obl_free rfl (Reg.wp_eqv (Option.some_ne_none _) (by go_simp) rfl)
    · intro ax wx hx hs
      obtain ⟨e17, -⟩ := hs
      have g17 := Reg.ev (v := .int .i64 xn) e17
      refine Reg.obl_free rfl ?_
      go_simp
      refine (RefWide.of_any xn v3 v4 _).mono ?_
      rintro e wy ⟨rfl, hby⟩
      exact Reg.done (Option.some_ne_none _) rfl hby
    · intro ax wx hx hs
      obtain ⟨e15, e18, -⟩ := hs
      have g15 := Reg.ev (v := .agg #[.int .i64 (cva / 4294967296), .int .i64 (cva % 4294967296)]) e15
      have g18 := Reg.ev (v := .agg #[.int .i64 (xn / 4294967296), .int .i64 (xn % 4294967296)]) e18
      refine Reg.obl_free rfl ?_
      go_simp
      refine (RefWide.join_any cva xn (by omega) (by omega) (by omega) (by omega) _).mono ?_
      rintro e wy ⟨rfl, hby⟩
      exact Reg.done (Option.some_ne_none _) rfl hby
    · intro ax wx hx hs
      refine Reg.obl_free rfl ?_
      have hx' : Below W0.heap.size W0 wx := hx
      go_simp
      exact Reg.done (Option.some_ne_none _) ⟨wx.heap.size, rfl, hx'.size, Str.new wx _ _⟩ (balloc (bsame wx) _)
  · intro W1 hwf
    simp only [Reg.Fin]
    rintro _ rfl _ rfl _ rfl _ rfl _ rfl _ rfl _ rfl v6 h6
    obtain ⟨g, rfl, hg, hSg⟩ := h6
    have hwf' : Below W0.heap.size W0 W1 := hwf
    clear hwf
    have HS0_1 := Lib.hid (HS0_0.out.next hwf')
    have HS1_1 := Lib.hid (HS1_0.out.next hwf')
    have HS2_1 := Lib.hid (HS2_0.out.next hwf')
    have HB_1 := Lib.hid (bstep HB_0.out hwf')
    have hw_1 := HB_1.out.size
    have hws_1 := (hwf').size
    clear f0_0 HS0_0 hf0_0 f1_0 HS1_0 hf1_0 f2_0 HS2_0 hf2_0
    clear hwf'
    have f0_1 := str6 HS0_1.out
    have hl0_1 := HS0_1.out.lt
    have hf0_1 := fun j => HS0_1.out.frozen j
    have f1_1 := str5 HS1_1.out
    have hl1_1 := HS1_1.out.lt
    have hf1_1 := fun j => HS1_1.out.frozen j
    have f2_1 := str5 HS2_1.out
    have hl2_1 := HS2_1.out.lt
    have hf2_1 := fun j => HS2_1.out.frozen j
    have HS3_1 := Lib.hid hSg
    clear hSg
    have f3_1 := str2 HS3_1.out
    have hl3_1 := HS3_1.out.lt
    have hf3_1 := fun j => HS3_1.out.frozen j
    refine Reg.Goal.mk ?_
    go_simp
    go_wp2_with fail
    generalize hW2 : ((W1).setCell ⟨g, 0, none⟩ (.int .i64 ((cva + xn) / 4294967296))).setCell ⟨g, 1, none⟩ (.int .i64 ((cva + xn) % 4294967296)) = W2
    have HS3_2 : Hid (Str W2 (g) #[.int .i64 ((cva + xn) / 4294967296), .int .i64 ((cva + xn) % 4294967296)]) := Lib.hid (by rw [← hW2]; have := ((HS3_1.out).set 0 (.int .i64 ((cva + xn) / 4294967296))).set 1 (.int .i64 ((cva + xn) % 4294967296)); simpa using this)
    have hgr2 : W1.grownBy W2 (some (g)) := by rw [← hW2]; exact grown_set (grown_set (grown_refl W1 (g)) 0 (_)) 1 (_)
    have HS0_2 := Lib.hid (HS0_1.out.grown hgr2 (by omega))
    have HS1_2 := Lib.hid (HS1_1.out.grown hgr2 (by omega))
    have HS2_2 := Lib.hid (HS2_1.out.grown hgr2 (by omega))
    have HB_2 := Lib.hid (below_grown HB_1.out hgr2 (by omega))
    have hw_2 := HB_2.out.size
    have hws_2 := hgr2.size
    clear hW2
    clear f0_1 HS0_1 hf0_1 f1_1 HS1_1 hf1_1 f2_1 HS2_1 hf2_1 f3_1 HS3_1 hf3_1
    clear hgr2
    have f0_2 := str6 HS0_2.out
    have hl0_2 := HS0_2.out.lt
    have hf0_2 := fun j => HS0_2.out.frozen j
    have f1_2 := str5 HS1_2.out
    have hl1_2 := HS1_2.out.lt
    have hf1_2 := fun j => HS1_2.out.frozen j
    have f2_2 := str5 HS2_2.out
    have hl2_2 := HS2_2.out.lt
    have hf2_2 := fun j => HS2_2.out.frozen j
    have f3_2 := str2 HS3_2.out
    have hl3_2 := HS3_2.out.lt
    have hf3_2 := fun j => HS3_2.out.frozen j
    refine Reg.wp_region_vals (R := ext) (W := W2) [Reg.eqv (.agg #[.int .i64 ((cva + xn) / 4294967296), .int .i64 ((cva + xn) % 4294967296)]), Reg.eqv (.pointer (some ⟨w.heap.size + 1, 2, none⟩)), Reg.eqv (.int .i64 clo), Reg.eqv (.agg #[.int .i64 (clo / 4294967296), .int .i64 (clo % 4294967296)]), Reg.eqv (.bool true), Reg.eqv (.bool true), Reg.eqv undef, Reg.eqv undef, Reg.eqv undef, Reg.eqv undef, Reg.eqv undef, Reg.eqv (.bool true)] 51 [[(6, none)], [(3, none)], [(31, some 1)], [(32, some 2)], [(30, some 0), (33, some 3)], [(34, some 4)], [(3, none), (35, some 5)], [(36, some 6), (35, some 5)], [(37, some 7), (35, some 5)], [(6, none), (35, some 5)], [(38, some 8), (39, some 9), (35, some 5)], [(35, some 5), (40, some 10)]] rfl (by kernel_rfl) (by kernel_rfl) (by kernel_rfl) ?_ [some 30, some 31, some 32, some 33, some 34, some 35, some 36, some 37, some 38, some 39, some 40, some 41] (by kernel_rfl) ?_
    · refine ⟨?_, ?_, ?_, ?_, ?_, ?_, ?_, ?_, ?_, ?_, ?_, ?_, trivial⟩
      · intro ax wx hx hs
        obtain ⟨e6, -⟩ := hs
        have g6 := Reg.ev (v := .pointer (some ⟨g, 0, none⟩)) e6
        obtain ⟨hc, -⟩ := bcell hx
        exact Reg.obl_free rfl (Reg.wp_eqv (Option.some_ne_none _) (by go_simp) rfl)
      · intro ax wx hx hs
        obtain ⟨e3, -⟩ := hs
        have g3 := Reg.ev (v := .pointer (some ⟨w.heap.size + 1, 0, none⟩)) e3
        exact Reg.obl_free rfl (Reg.wp_eqv (Option.some_ne_none _) (by go_simp) rfl)
      · intro ax wx hx hs
        obtain ⟨e31, -⟩ := hs
        have g31 := Reg.ev (v := .pointer (some ⟨w.heap.size + 1, 2, none⟩)) e31
        obtain ⟨hc, -⟩ := bcell hx
        exact Reg.obl_free rfl (Reg.wp_eqv (Option.some_ne_none _) (by go_simp) rfl)
      · intro ax wx hx hs
        obtain ⟨e32, -⟩ := hs
        have g32 := Reg.ev (v := .int .i64 clo) e32
        refine Reg.obl_free rfl ?_
        go_simp
        refine (RefWide.of_any clo v5 v6 _).mono ?_
        rintro e wy ⟨rfl, hby⟩
        exact Reg.done (Option.some_ne_none _) rfl hby
      · intro ax wx hx hs
        obtain ⟨e30, e33, -⟩ := hs
        have g30 := Reg.ev (v := .agg #[.int .i64 ((cva + xn) / 4294967296), .int .i64 ((cva + xn) % 4294967296)]) e30
        have g33 := Reg.ev (v := .agg #[.int .i64 (clo / 4294967296), .int .i64 (clo % 4294967296)]) e33
        refine Reg.obl_free rfl ?_
        go_simp
        refine (RefWide.less_any (cva + xn) clo _).mono ?_
        rintro e wy ⟨rfl, hby⟩
        rw [HLO.out]
        exact Reg.done (Option.some_ne_none _) rfl hby
      · intro ax wx hx hs
        obtain ⟨e34, -⟩ := hs
        have g34 := Reg.ev (v := .bool true) e34
        exact Reg.obl_free rfl (Reg.wp_eqv (Option.some_ne_none _) (by go_simp) rfl)
      · intro ax wx hx hs
        obtain ⟨e3, e35, -⟩ := hs
        have g3 := Reg.ev (v := .pointer (some ⟨w.heap.size + 1, 0, none⟩)) e3
        have g35 := Reg.ev (v := .bool true) e35
        exact Reg.obl_skip rfl rfl e35 rfl rfl
      · intro ax wx hx hs
        obtain ⟨e36, e35, -⟩ := hs
        have g36 := Reg.ev (v := undef) e36
        have g35 := Reg.ev (v := .bool true) e35
        exact Reg.obl_skip rfl rfl e35 rfl rfl
      · intro ax wx hx hs
        obtain ⟨e37, e35, -⟩ := hs
        have g37 := Reg.ev (v := undef) e37
        have g35 := Reg.ev (v := .bool true) e35
        exact Reg.obl_skip rfl rfl e35 rfl rfl
      · intro ax wx hx hs
        obtain ⟨e6, e35, -⟩ := hs
        have g6 := Reg.ev (v := .pointer (some ⟨g, 0, none⟩)) e6
        have g35 := Reg.ev (v := .bool true) e35
        exact Reg.obl_skip rfl rfl e35 rfl rfl
      · intro ax wx hx hs
        obtain ⟨e38, e39, e35, -⟩ := hs
        have g38 := Reg.ev (v := undef) e38
        have g39 := Reg.ev (v := undef) e39
        have g35 := Reg.ev (v := .bool true) e35
        exact Reg.obl_skip rfl rfl e35 rfl rfl
      · intro ax wx hx hs
        obtain ⟨e35, e40, -⟩ := hs
        have g35 := Reg.ev (v := .bool true) e35
        have g40 := Reg.ev (v := undef) e40
        exact Reg.obl_free rfl (Reg.wp_eqv (Option.some_ne_none _) (by go_simp) rfl)
    · intro W3 hwf
      simp only [Reg.Fin]
      rintro _ rfl _ rfl _ rfl _ rfl _ rfl _ rfl _ rfl _ rfl _ rfl _ rfl _ rfl _ rfl
      go_simp
      have HS0_3 := Lib.hid (HS0_2.out.next hwf)
      have HS1_3 := Lib.hid (HS1_2.out.next hwf)
      have HS2_3 := Lib.hid (HS2_2.out.next hwf)
      have HS3_3 := Lib.hid (HS3_2.out.next hwf)
      have HB_3 := Lib.hid (bstep HB_2.out hwf)
      have hw_3 := HB_3.out.size
      have hws_3 := (hwf).size
      clear f0_2 HS0_2 hf0_2 f1_2 HS1_2 hf1_2 f2_2 HS2_2 hf2_2 f3_2 HS3_2 hf3_2
      clear hwf
      have f0_3 := str6 HS0_3.out
      have hl0_3 := HS0_3.out.lt
      have hf0_3 := fun j => HS0_3.out.frozen j
      have f1_3 := str5 HS1_3.out
      have hl1_3 := HS1_3.out.lt
      have hf1_3 := fun j => HS1_3.out.frozen j
      have f2_3 := str5 HS2_3.out
      have hl2_3 := HS2_3.out.lt
      have hf2_3 := fun j => HS2_3.out.frozen j
      have f3_3 := str2 HS3_3.out
      have hl3_3 := HS3_3.out.lt
      have hf3_3 := fun j => HS3_3.out.frozen j
      go_wp2_with fail
      generalize hW4 : (((((W3).setCell ⟨w.heap.size + 1 + 1, 0, none⟩ (.int .i64 2)).setCell ⟨w.heap.size + 1 + 1, 1, none⟩ (.slice Ac nc cc)).setCell ⟨w.heap.size + 1 + 1, 2, none⟩ (.int .i64 clo)).setCell ⟨w.heap.size + 1 + 1, 3, none⟩ (.int .i64 chi)).setCell ⟨w.heap.size + 1 + 1, 4, none⟩ (.int .i64 cva) = W4
      have HS2_4 : Hid (Str W4 (w.heap.size + 1 + 1) #[.int .i64 2, .slice Ac nc cc, .int .i64 clo, .int .i64 chi, .int .i64 cva]) := Lib.hid (by rw [← hW4]; have := (((((HS2_3.out).set 0 (.int .i64 2)).set 1 (.slice Ac nc cc)).set 2 (.int .i64 clo)).set 3 (.int .i64 chi)).set 4 (.int .i64 cva); simpa using this)
      have hgr4 : W3.grownBy W4 (some (w.heap.size + 1 + 1)) := by rw [← hW4]; exact grown_set (grown_set (grown_set (grown_set (grown_set (grown_refl W3 (w.heap.size + 1 + 1)) 0 (_)) 1 (_)) 2 (_)) 3 (_)) 4 (_)
      have HS0_4 := Lib.hid (HS0_3.out.grown hgr4 (by omega))
      have HS1_4 := Lib.hid (HS1_3.out.grown hgr4 (by omega))
      have HS3_4 := Lib.hid (HS3_3.out.grown hgr4 (by omega))
      have HB_4 := Lib.hid (below_grown HB_3.out hgr4 (by omega))
      have hw_4 := HB_4.out.size
      have hws_4 := hgr4.size
      clear hW4
      clear f0_3 HS0_3 hf0_3 f1_3 HS1_3 hf1_3 f2_3 HS2_3 hf2_3 f3_3 HS3_3 hf3_3
      clear hgr4
      have f0_4 := str6 HS0_4.out
      have hl0_4 := HS0_4.out.lt
      have hf0_4 := fun j => HS0_4.out.frozen j
      have f1_4 := str5 HS1_4.out
      have hl1_4 := HS1_4.out.lt
      have hf1_4 := fun j => HS1_4.out.frozen j
      have f2_4 := str5 HS2_4.out
      have hl2_4 := HS2_4.out.lt
      have hf2_4 := fun j => HS2_4.out.frozen j
      have f3_4 := str2 HS3_4.out
      have hl3_4 := HS3_4.out.lt
      have hf3_4 := fun j => HS3_4.out.frozen j
      exact bodyPost_ret (v := .tuple #[.agg #[.int .i64 2, .slice Ac nc cc, .int .i64 clo, .int .i64 chi, .int .i64 cva], .int .i64 8]) (by simp [results, Try.results67, go_sem, *]) rfl ⟨rfl, HB_4.out⟩
set_option maxRecDepth 100000 in
set_option maxHeartbeats 1000000 in
theorem rmove4_high (xk : ByteArray) (Ax : Option Addr) (nx cx : Nat) (xlo xhi xn : Int) (Ac : Option Addr) (nc cc : Nat) (clo chi cva : Int) (w : World) (hi1 : In64 clo) (hi2 : In64 chi) (hi3 : In64 cva) (hi4 : In64 xn) (hl : ¬ (cva + xn) < clo) (ho : chi < (cva + xn)) : Calls Try.prog 67 #[.agg #[.int .i64 4, .string xk, .slice Ax nx cx, .int .i64 xlo, .int .i64 xhi, .int .i64 xn], .agg #[.int .i64 2, .slice Ac nc cc, .int .i64 clo, .int .i64 chi, .int .i64 cva]] w (GivesMove w 2 Ac nc cc clo chi cva 8) := by
  obtain ⟨v1, v2⟩ := hi3
  obtain ⟨v3, v4⟩ := hi4
  obtain ⟨v5, v6⟩ := hi1
  obtain ⟨v7, v8⟩ := hi2
  have HLO : Hid (decide ((cva + xn) < clo) = false) := Lib.hid (by simpa using hl)
  have HHI : Hid (decide (chi < (cva + xn)) = true) := Lib.hid (by simpa using ho)
  clear ho hl
  go_enter Try.func67, Try.ntmps67
  go_wp2_with fail
  generalize hW0 : (((w).alloc (.cells #[.int .i64 4, .string xk, .slice Ax nx cx, .int .i64 xlo, .int .i64 xhi, .int .i64 xn] 24)).alloc (.cells #[.int .i64 2, .slice Ac nc cc, .int .i64 clo, .int .i64 chi, .int .i64 cva] 37)).alloc (.cells #[.int .i64 0, .slice none 0 0, .int .i64 0, .int .i64 0, .int .i64 0] 37) = W0
  obtain ⟨HS0_0, HS1_0, HS2_0, HB_0, hw_0, hz0⟩ := new3 hW0
  clear hW0 hz0
  have f0_0 := str6 HS0_0.out
  have hl0_0 := HS0_0.out.lt
  have hf0_0 := fun j => HS0_0.out.frozen j
  have f1_0 := str5 HS1_0.out
  have hl1_0 := HS1_0.out.lt
  have hf1_0 := fun j => HS1_0.out.frozen j
  have f2_0 := str5 HS2_0.out
  have hl2_0 := HS2_0.out.lt
  have hf2_0 := fun j => HS2_0.out.frozen j
  refine Reg.wp_region_tail (R := ext) (W := W0) [Reg.eqv (.pointer (some ⟨w.heap.size + 1, 4, none⟩)), Reg.eqv (.int .i64 cva), Reg.eqv (.agg #[.int .i64 (cva / 4294967296), .int .i64 (cva % 4294967296)]), Reg.eqv (.pointer (some ⟨w.heap.size, 5, none⟩)), Reg.eqv (.int .i64 xn), Reg.eqv (.agg #[.int .i64 (xn / 4294967296), .int .i64 (xn % 4294967296)]), Reg.eqv (.agg #[.int .i64 ((cva + xn) / 4294967296), .int .i64 ((cva + xn) % 4294967296)]), Reg.fresh W0.heap.size #[.int .i64 0, .int .i64 0]] 51 8 _ [[(3, none)], [(13, some 0)], [(14, some 1)], [(2, none)], [(16, some 3)], [(17, some 4)], [(15, some 2), (18, some 5)], []] rfl (by kernel_rfl) (by kernel_rfl) (by rfl) (by rfl) rfl (by kernel_rfl) ?_ [some 13, some 14, some 15, some 16, some 17, some 18, some 19, some 6] (by kernel_rfl) ?_
  · refine ⟨?_, ?_, ?_, ?_, ?_, ?_, ?_, ?_, trivial⟩
    · intro ax wx hx hs
      obtain ⟨e3, -⟩ := hs
      have g3 := Reg.ev (v := .pointer (some ⟨w.heap.size + 1, 0, none⟩)) e3
      exact Reg.obl_free rfl (Reg.wp_eqv (Option.some_ne_none _) (by go_simp) rfl)
    · intro ax wx hx hs
      obtain ⟨e13, -⟩ := hs
      have g13 := Reg.ev (v := .pointer (some ⟨w.heap.size + 1, 4, none⟩)) e13
      obtain ⟨hc, -⟩ := bcell hx
      exact Reg.obl_free rfl (Reg.wp_eqv (Option.some_ne_none _) (by go_simp) rfl)
    · intro ax wx hx hs
      obtain ⟨e14, -⟩ := hs
      have g14 := Reg.ev (v := .int .i64 cva) e14
      refine Reg.obl_free rfl ?_
      go_simp
      refine (RefWide.of_any cva v1 v2 _).mono ?_
      rintro e wy ⟨rfl, hby⟩
      exact Reg.done (Option.some_ne_none _) rfl hby
    · intro ax wx hx hs
      obtain ⟨e2, -⟩ := hs
      have g2 := Reg.ev (v := .pointer (some ⟨w.heap.size, 0, none⟩)) e2
      exact Reg.obl_free rfl (Reg.wp_eqv (Option.some_ne_none _) (by go_simp) rfl)
    · intro ax wx hx hs
      obtain ⟨e16, -⟩ := hs
      have g16 := Reg.ev (v := .pointer (some ⟨w.heap.size, 5, none⟩)) e16
      obtain ⟨hc, -⟩ := bcell hx
      exact Reg.obl_free rfl (Reg.wp_eqv (Option.some_ne_none _) (by go_simp) rfl)
    · intro ax wx hx hs
      obtain ⟨e17, -⟩ := hs
      have g17 := Reg.ev (v := .int .i64 xn) e17
      refine Reg.obl_free rfl ?_
      go_simp
      refine (RefWide.of_any xn v3 v4 _).mono ?_
      rintro e wy ⟨rfl, hby⟩
      exact Reg.done (Option.some_ne_none _) rfl hby
    · intro ax wx hx hs
      obtain ⟨e15, e18, -⟩ := hs
      have g15 := Reg.ev (v := .agg #[.int .i64 (cva / 4294967296), .int .i64 (cva % 4294967296)]) e15
      have g18 := Reg.ev (v := .agg #[.int .i64 (xn / 4294967296), .int .i64 (xn % 4294967296)]) e18
      refine Reg.obl_free rfl ?_
      go_simp
      refine (RefWide.join_any cva xn (by omega) (by omega) (by omega) (by omega) _).mono ?_
      rintro e wy ⟨rfl, hby⟩
      exact Reg.done (Option.some_ne_none _) rfl hby
    · intro ax wx hx hs
      refine Reg.obl_free rfl ?_
      have hx' : Below W0.heap.size W0 wx := hx
      go_simp
      exact Reg.done (Option.some_ne_none _) ⟨wx.heap.size, rfl, hx'.size, Str.new wx _ _⟩ (balloc (bsame wx) _)
  · intro W1 hwf
    simp only [Reg.Fin]
    rintro _ rfl _ rfl _ rfl _ rfl _ rfl _ rfl _ rfl v6 h6
    obtain ⟨g, rfl, hg, hSg⟩ := h6
    have hwf' : Below W0.heap.size W0 W1 := hwf
    clear hwf
    have HS0_1 := Lib.hid (HS0_0.out.next hwf')
    have HS1_1 := Lib.hid (HS1_0.out.next hwf')
    have HS2_1 := Lib.hid (HS2_0.out.next hwf')
    have HB_1 := Lib.hid (bstep HB_0.out hwf')
    have hw_1 := HB_1.out.size
    have hws_1 := (hwf').size
    clear f0_0 HS0_0 hf0_0 f1_0 HS1_0 hf1_0 f2_0 HS2_0 hf2_0
    clear hwf'
    have f0_1 := str6 HS0_1.out
    have hl0_1 := HS0_1.out.lt
    have hf0_1 := fun j => HS0_1.out.frozen j
    have f1_1 := str5 HS1_1.out
    have hl1_1 := HS1_1.out.lt
    have hf1_1 := fun j => HS1_1.out.frozen j
    have f2_1 := str5 HS2_1.out
    have hl2_1 := HS2_1.out.lt
    have hf2_1 := fun j => HS2_1.out.frozen j
    have HS3_1 := Lib.hid hSg
    clear hSg
    have f3_1 := str2 HS3_1.out
    have hl3_1 := HS3_1.out.lt
    have hf3_1 := fun j => HS3_1.out.frozen j
    refine Reg.Goal.mk ?_
    go_simp
    go_wp2_with fail
    generalize hW2 : ((W1).setCell ⟨g, 0, none⟩ (.int .i64 ((cva + xn) / 4294967296))).setCell ⟨g, 1, none⟩ (.int .i64 ((cva + xn) % 4294967296)) = W2
    have HS3_2 : Hid (Str W2 (g) #[.int .i64 ((cva + xn) / 4294967296), .int .i64 ((cva + xn) % 4294967296)]) := Lib.hid (by rw [← hW2]; have := ((HS3_1.out).set 0 (.int .i64 ((cva + xn) / 4294967296))).set 1 (.int .i64 ((cva + xn) % 4294967296)); simpa using this)
    have hgr2 : W1.grownBy W2 (some (g)) := by rw [← hW2]; exact grown_set (grown_set (grown_refl W1 (g)) 0 (_)) 1 (_)
    have HS0_2 := Lib.hid (HS0_1.out.grown hgr2 (by omega))
    have HS1_2 := Lib.hid (HS1_1.out.grown hgr2 (by omega))
    have HS2_2 := Lib.hid (HS2_1.out.grown hgr2 (by omega))
    have HB_2 := Lib.hid (below_grown HB_1.out hgr2 (by omega))
    have hw_2 := HB_2.out.size
    have hws_2 := hgr2.size
    clear hW2
    clear f0_1 HS0_1 hf0_1 f1_1 HS1_1 hf1_1 f2_1 HS2_1 hf2_1 f3_1 HS3_1 hf3_1
    clear hgr2
    have f0_2 := str6 HS0_2.out
    have hl0_2 := HS0_2.out.lt
    have hf0_2 := fun j => HS0_2.out.frozen j
    have f1_2 := str5 HS1_2.out
    have hl1_2 := HS1_2.out.lt
    have hf1_2 := fun j => HS1_2.out.frozen j
    have f2_2 := str5 HS2_2.out
    have hl2_2 := HS2_2.out.lt
    have hf2_2 := fun j => HS2_2.out.frozen j
    have f3_2 := str2 HS3_2.out
    have hl3_2 := HS3_2.out.lt
    have hf3_2 := fun j => HS3_2.out.frozen j
    refine Reg.wp_region_vals (R := ext) (W := W2) [Reg.eqv (.agg #[.int .i64 ((cva + xn) / 4294967296), .int .i64 ((cva + xn) % 4294967296)]), Reg.eqv (.pointer (some ⟨w.heap.size + 1, 2, none⟩)), Reg.eqv (.int .i64 clo), Reg.eqv (.agg #[.int .i64 (clo / 4294967296), .int .i64 (clo % 4294967296)]), Reg.eqv (.bool false), Reg.eqv (.bool false), Reg.eqv (.pointer (some ⟨w.heap.size + 1, 3, none⟩)), Reg.eqv (.int .i64 chi), Reg.eqv (.agg #[.int .i64 (chi / 4294967296), .int .i64 (chi % 4294967296)]), Reg.eqv (.agg #[.int .i64 ((cva + xn) / 4294967296), .int .i64 ((cva + xn) % 4294967296)]), Reg.eqv (.bool true), Reg.eqv (.bool true)] 51 [[(6, none)], [(3, none)], [(31, some 1)], [(32, some 2)], [(30, some 0), (33, some 3)], [(34, some 4)], [(3, none), (35, some 5)], [(36, some 6), (35, some 5)], [(37, some 7), (35, some 5)], [(6, none), (35, some 5)], [(38, some 8), (39, some 9), (35, some 5)], [(35, some 5), (40, some 10)]] rfl (by kernel_rfl) (by kernel_rfl) (by kernel_rfl) ?_ [some 30, some 31, some 32, some 33, some 34, some 35, some 36, some 37, some 38, some 39, some 40, some 41] (by kernel_rfl) ?_
    · refine ⟨?_, ?_, ?_, ?_, ?_, ?_, ?_, ?_, ?_, ?_, ?_, ?_, trivial⟩
      · intro ax wx hx hs
        obtain ⟨e6, -⟩ := hs
        have g6 := Reg.ev (v := .pointer (some ⟨g, 0, none⟩)) e6
        obtain ⟨hc, -⟩ := bcell hx
        exact Reg.obl_free rfl (Reg.wp_eqv (Option.some_ne_none _) (by go_simp) rfl)
      · intro ax wx hx hs
        obtain ⟨e3, -⟩ := hs
        have g3 := Reg.ev (v := .pointer (some ⟨w.heap.size + 1, 0, none⟩)) e3
        exact Reg.obl_free rfl (Reg.wp_eqv (Option.some_ne_none _) (by go_simp) rfl)
      · intro ax wx hx hs
        obtain ⟨e31, -⟩ := hs
        have g31 := Reg.ev (v := .pointer (some ⟨w.heap.size + 1, 2, none⟩)) e31
        obtain ⟨hc, -⟩ := bcell hx
        exact Reg.obl_free rfl (Reg.wp_eqv (Option.some_ne_none _) (by go_simp) rfl)
      · intro ax wx hx hs
        obtain ⟨e32, -⟩ := hs
        have g32 := Reg.ev (v := .int .i64 clo) e32
        refine Reg.obl_free rfl ?_
        go_simp
        refine (RefWide.of_any clo v5 v6 _).mono ?_
        rintro e wy ⟨rfl, hby⟩
        exact Reg.done (Option.some_ne_none _) rfl hby
      · intro ax wx hx hs
        obtain ⟨e30, e33, -⟩ := hs
        have g30 := Reg.ev (v := .agg #[.int .i64 ((cva + xn) / 4294967296), .int .i64 ((cva + xn) % 4294967296)]) e30
        have g33 := Reg.ev (v := .agg #[.int .i64 (clo / 4294967296), .int .i64 (clo % 4294967296)]) e33
        refine Reg.obl_free rfl ?_
        go_simp
        refine (RefWide.less_any (cva + xn) clo _).mono ?_
        rintro e wy ⟨rfl, hby⟩
        rw [HLO.out]
        exact Reg.done (Option.some_ne_none _) rfl hby
      · intro ax wx hx hs
        obtain ⟨e34, -⟩ := hs
        have g34 := Reg.ev (v := .bool false) e34
        exact Reg.obl_free rfl (Reg.wp_eqv (Option.some_ne_none _) (by go_simp) rfl)
      · intro ax wx hx hs
        obtain ⟨e3, e35, -⟩ := hs
        have g3 := Reg.ev (v := .pointer (some ⟨w.heap.size + 1, 0, none⟩)) e3
        have g35 := Reg.ev (v := .bool false) e35
        exact Reg.obl_want rfl rfl e35 (Reg.wp_eqv (Option.some_ne_none _) (by go_simp) rfl)
      · intro ax wx hx hs
        obtain ⟨e36, e35, -⟩ := hs
        have g36 := Reg.ev (v := .pointer (some ⟨w.heap.size + 1, 3, none⟩)) e36
        have g35 := Reg.ev (v := .bool false) e35
        obtain ⟨hc, -⟩ := bcell hx
        exact Reg.obl_want rfl rfl e35 (Reg.wp_eqv (Option.some_ne_none _) (by go_simp) rfl)
      · intro ax wx hx hs
        obtain ⟨e37, e35, -⟩ := hs
        have g37 := Reg.ev (v := .int .i64 chi) e37
        have g35 := Reg.ev (v := .bool false) e35
        refine Reg.obl_want rfl rfl e35 ?_
        go_simp
        refine (RefWide.of_any chi v7 v8 _).mono ?_
        rintro e wy ⟨rfl, hby⟩
        exact Reg.done (Option.some_ne_none _) rfl hby
      · intro ax wx hx hs
        obtain ⟨e6, e35, -⟩ := hs
        have g6 := Reg.ev (v := .pointer (some ⟨g, 0, none⟩)) e6
        have g35 := Reg.ev (v := .bool false) e35
        obtain ⟨hc, -⟩ := bcell hx
        exact Reg.obl_want rfl rfl e35 (Reg.wp_eqv (Option.some_ne_none _) (by go_simp) rfl)
      · intro ax wx hx hs
        obtain ⟨e38, e39, e35, -⟩ := hs
        have g38 := Reg.ev (v := .agg #[.int .i64 (chi / 4294967296), .int .i64 (chi % 4294967296)]) e38
        have g39 := Reg.ev (v := .agg #[.int .i64 ((cva + xn) / 4294967296), .int .i64 ((cva + xn) % 4294967296)]) e39
        have g35 := Reg.ev (v := .bool false) e35
        refine Reg.obl_want rfl rfl e35 ?_
        go_simp
        refine (RefWide.less_any chi (cva + xn) _).mono ?_
        rintro e wy ⟨rfl, hby⟩
        rw [HHI.out]
        exact Reg.done (Option.some_ne_none _) rfl hby
      · intro ax wx hx hs
        obtain ⟨e35, e40, -⟩ := hs
        have g35 := Reg.ev (v := .bool false) e35
        have g40 := Reg.ev (v := .bool true) e40
        exact Reg.obl_free rfl (Reg.wp_eqv (Option.some_ne_none _) (by go_simp) rfl)
    · intro W3 hwf
      simp only [Reg.Fin]
      rintro _ rfl _ rfl _ rfl _ rfl _ rfl _ rfl _ rfl _ rfl _ rfl _ rfl _ rfl _ rfl
      go_simp
      have HS0_3 := Lib.hid (HS0_2.out.next hwf)
      have HS1_3 := Lib.hid (HS1_2.out.next hwf)
      have HS2_3 := Lib.hid (HS2_2.out.next hwf)
      have HS3_3 := Lib.hid (HS3_2.out.next hwf)
      have HB_3 := Lib.hid (bstep HB_2.out hwf)
      have hw_3 := HB_3.out.size
      have hws_3 := (hwf).size
      clear f0_2 HS0_2 hf0_2 f1_2 HS1_2 hf1_2 f2_2 HS2_2 hf2_2 f3_2 HS3_2 hf3_2
      clear hwf
      have f0_3 := str6 HS0_3.out
      have hl0_3 := HS0_3.out.lt
      have hf0_3 := fun j => HS0_3.out.frozen j
      have f1_3 := str5 HS1_3.out
      have hl1_3 := HS1_3.out.lt
      have hf1_3 := fun j => HS1_3.out.frozen j
      have f2_3 := str5 HS2_3.out
      have hl2_3 := HS2_3.out.lt
      have hf2_3 := fun j => HS2_3.out.frozen j
      have f3_3 := str2 HS3_3.out
      have hl3_3 := HS3_3.out.lt
      have hf3_3 := fun j => HS3_3.out.frozen j
      go_wp2_with fail
      generalize hW4 : (((((W3).setCell ⟨w.heap.size + 1 + 1, 0, none⟩ (.int .i64 2)).setCell ⟨w.heap.size + 1 + 1, 1, none⟩ (.slice Ac nc cc)).setCell ⟨w.heap.size + 1 + 1, 2, none⟩ (.int .i64 clo)).setCell ⟨w.heap.size + 1 + 1, 3, none⟩ (.int .i64 chi)).setCell ⟨w.heap.size + 1 + 1, 4, none⟩ (.int .i64 cva) = W4
      have HS2_4 : Hid (Str W4 (w.heap.size + 1 + 1) #[.int .i64 2, .slice Ac nc cc, .int .i64 clo, .int .i64 chi, .int .i64 cva]) := Lib.hid (by rw [← hW4]; have := (((((HS2_3.out).set 0 (.int .i64 2)).set 1 (.slice Ac nc cc)).set 2 (.int .i64 clo)).set 3 (.int .i64 chi)).set 4 (.int .i64 cva); simpa using this)
      have hgr4 : W3.grownBy W4 (some (w.heap.size + 1 + 1)) := by rw [← hW4]; exact grown_set (grown_set (grown_set (grown_set (grown_set (grown_refl W3 (w.heap.size + 1 + 1)) 0 (_)) 1 (_)) 2 (_)) 3 (_)) 4 (_)
      have HS0_4 := Lib.hid (HS0_3.out.grown hgr4 (by omega))
      have HS1_4 := Lib.hid (HS1_3.out.grown hgr4 (by omega))
      have HS3_4 := Lib.hid (HS3_3.out.grown hgr4 (by omega))
      have HB_4 := Lib.hid (below_grown HB_3.out hgr4 (by omega))
      have hw_4 := HB_4.out.size
      have hws_4 := hgr4.size
      clear hW4
      clear f0_3 HS0_3 hf0_3 f1_3 HS1_3 hf1_3 f2_3 HS2_3 hf2_3 f3_3 HS3_3 hf3_3
      clear hgr4
      have f0_4 := str6 HS0_4.out
      have hl0_4 := HS0_4.out.lt
      have hf0_4 := fun j => HS0_4.out.frozen j
      have f1_4 := str5 HS1_4.out
      have hl1_4 := HS1_4.out.lt
      have hf1_4 := fun j => HS1_4.out.frozen j
      have f2_4 := str5 HS2_4.out
      have hl2_4 := HS2_4.out.lt
      have hf2_4 := fun j => HS2_4.out.frozen j
      have f3_4 := str2 HS3_4.out
      have hl3_4 := HS3_4.out.lt
      have hf3_4 := fun j => HS3_4.out.frozen j
      exact bodyPost_ret (v := .tuple #[.agg #[.int .i64 2, .slice Ac nc cc, .int .i64 clo, .int .i64 chi, .int .i64 cva], .int .i64 8]) (by simp [results, Try.results67, go_sem, *]) rfl ⟨rfl, HB_4.out⟩
set_option maxRecDepth 100000 in
set_option maxHeartbeats 1000000 in
theorem rmove4_ok (xk : ByteArray) (Ax : Option Addr) (nx cx : Nat) (xlo xhi xn : Int) (Ac : Option Addr) (nc cc : Nat) (clo chi cva : Int) (w : World) (hi1 : In64 clo) (hi2 : In64 chi) (hi3 : In64 cva) (hi4 : In64 xn) (hl : ¬ (cva + xn) < clo) (ho : ¬ chi < (cva + xn)) : Calls Try.prog 67 #[.agg #[.int .i64 4, .string xk, .slice Ax nx cx, .int .i64 xlo, .int .i64 xhi, .int .i64 xn], .agg #[.int .i64 2, .slice Ac nc cc, .int .i64 clo, .int .i64 chi, .int .i64 cva]] w (GivesMove w 2 Ac nc cc clo chi (cva + xn) 0) := by
  obtain ⟨v1, v2⟩ := hi3
  obtain ⟨v3, v4⟩ := hi4
  obtain ⟨v5, v6⟩ := hi1
  obtain ⟨v7, v8⟩ := hi2
  have HLO : Hid (decide ((cva + xn) < clo) = false) := Lib.hid (by simpa using hl)
  have HHI : Hid (decide (chi < (cva + xn)) = false) := Lib.hid (by simpa using ho)
  have HNUM : Hid (WideP.num (cva + xn) = (cva + xn)) := Lib.hid (by rw [WideP.num, if_pos (by simp [WideP.fits]; omega)])
  clear ho hl
  go_enter Try.func67, Try.ntmps67
  go_wp2_with fail
  generalize hW0 : (((w).alloc (.cells #[.int .i64 4, .string xk, .slice Ax nx cx, .int .i64 xlo, .int .i64 xhi, .int .i64 xn] 24)).alloc (.cells #[.int .i64 2, .slice Ac nc cc, .int .i64 clo, .int .i64 chi, .int .i64 cva] 37)).alloc (.cells #[.int .i64 0, .slice none 0 0, .int .i64 0, .int .i64 0, .int .i64 0] 37) = W0
  obtain ⟨HS0_0, HS1_0, HS2_0, HB_0, hw_0, hz0⟩ := new3 hW0
  clear hW0 hz0
  have f0_0 := str6 HS0_0.out
  have hl0_0 := HS0_0.out.lt
  have hf0_0 := fun j => HS0_0.out.frozen j
  have f1_0 := str5 HS1_0.out
  have hl1_0 := HS1_0.out.lt
  have hf1_0 := fun j => HS1_0.out.frozen j
  have f2_0 := str5 HS2_0.out
  have hl2_0 := HS2_0.out.lt
  have hf2_0 := fun j => HS2_0.out.frozen j
  refine Reg.wp_region_tail (R := ext) (W := W0) [Reg.eqv (.pointer (some ⟨w.heap.size + 1, 4, none⟩)), Reg.eqv (.int .i64 cva), Reg.eqv (.agg #[.int .i64 (cva / 4294967296), .int .i64 (cva % 4294967296)]), Reg.eqv (.pointer (some ⟨w.heap.size, 5, none⟩)), Reg.eqv (.int .i64 xn), Reg.eqv (.agg #[.int .i64 (xn / 4294967296), .int .i64 (xn % 4294967296)]), Reg.eqv (.agg #[.int .i64 ((cva + xn) / 4294967296), .int .i64 ((cva + xn) % 4294967296)]), Reg.fresh W0.heap.size #[.int .i64 0, .int .i64 0]] 51 8 _ [[(3, none)], [(13, some 0)], [(14, some 1)], [(2, none)], [(16, some 3)], [(17, some 4)], [(15, some 2), (18, some 5)], []] rfl (by kernel_rfl) (by kernel_rfl) (by rfl) (by rfl) rfl (by kernel_rfl) ?_ [some 13, some 14, some 15, some 16, some 17, some 18, some 19, some 6] (by kernel_rfl) ?_
  · refine ⟨?_, ?_, ?_, ?_, ?_, ?_, ?_, ?_, trivial⟩
    · intro ax wx hx hs
      obtain ⟨e3, -⟩ := hs
      have g3 := Reg.ev (v := .pointer (some ⟨w.heap.size + 1, 0, none⟩)) e3
      exact Reg.obl_free rfl (Reg.wp_eqv (Option.some_ne_none _) (by go_simp) rfl)
    · intro ax wx hx hs
      obtain ⟨e13, -⟩ := hs
      have g13 := Reg.ev (v := .pointer (some ⟨w.heap.size + 1, 4, none⟩)) e13
      obtain ⟨hc, -⟩ := bcell hx
      exact Reg.obl_free rfl (Reg.wp_eqv (Option.some_ne_none _) (by go_simp) rfl)
    · intro ax wx hx hs
      obtain ⟨e14, -⟩ := hs
      have g14 := Reg.ev (v := .int .i64 cva) e14
      refine Reg.obl_free rfl ?_
      go_simp
      refine (RefWide.of_any cva v1 v2 _).mono ?_
      rintro e wy ⟨rfl, hby⟩
      exact Reg.done (Option.some_ne_none _) rfl hby
    · intro ax wx hx hs
      obtain ⟨e2, -⟩ := hs
      have g2 := Reg.ev (v := .pointer (some ⟨w.heap.size, 0, none⟩)) e2
      exact Reg.obl_free rfl (Reg.wp_eqv (Option.some_ne_none _) (by go_simp) rfl)
    · intro ax wx hx hs
      obtain ⟨e16, -⟩ := hs
      have g16 := Reg.ev (v := .pointer (some ⟨w.heap.size, 5, none⟩)) e16
      obtain ⟨hc, -⟩ := bcell hx
      exact Reg.obl_free rfl (Reg.wp_eqv (Option.some_ne_none _) (by go_simp) rfl)
    · intro ax wx hx hs
      obtain ⟨e17, -⟩ := hs
      have g17 := Reg.ev (v := .int .i64 xn) e17
      refine Reg.obl_free rfl ?_
      go_simp
      refine (RefWide.of_any xn v3 v4 _).mono ?_
      rintro e wy ⟨rfl, hby⟩
      exact Reg.done (Option.some_ne_none _) rfl hby
    · intro ax wx hx hs
      obtain ⟨e15, e18, -⟩ := hs
      have g15 := Reg.ev (v := .agg #[.int .i64 (cva / 4294967296), .int .i64 (cva % 4294967296)]) e15
      have g18 := Reg.ev (v := .agg #[.int .i64 (xn / 4294967296), .int .i64 (xn % 4294967296)]) e18
      refine Reg.obl_free rfl ?_
      go_simp
      refine (RefWide.join_any cva xn (by omega) (by omega) (by omega) (by omega) _).mono ?_
      rintro e wy ⟨rfl, hby⟩
      exact Reg.done (Option.some_ne_none _) rfl hby
    · intro ax wx hx hs
      refine Reg.obl_free rfl ?_
      have hx' : Below W0.heap.size W0 wx := hx
      go_simp
      exact Reg.done (Option.some_ne_none _) ⟨wx.heap.size, rfl, hx'.size, Str.new wx _ _⟩ (balloc (bsame wx) _)
  · intro W1 hwf
    simp only [Reg.Fin]
    rintro _ rfl _ rfl _ rfl _ rfl _ rfl _ rfl _ rfl v6 h6
    obtain ⟨g, rfl, hg, hSg⟩ := h6
    have hwf' : Below W0.heap.size W0 W1 := hwf
    clear hwf
    have HS0_1 := Lib.hid (HS0_0.out.next hwf')
    have HS1_1 := Lib.hid (HS1_0.out.next hwf')
    have HS2_1 := Lib.hid (HS2_0.out.next hwf')
    have HB_1 := Lib.hid (bstep HB_0.out hwf')
    have hw_1 := HB_1.out.size
    have hws_1 := (hwf').size
    clear f0_0 HS0_0 hf0_0 f1_0 HS1_0 hf1_0 f2_0 HS2_0 hf2_0
    clear hwf'
    have f0_1 := str6 HS0_1.out
    have hl0_1 := HS0_1.out.lt
    have hf0_1 := fun j => HS0_1.out.frozen j
    have f1_1 := str5 HS1_1.out
    have hl1_1 := HS1_1.out.lt
    have hf1_1 := fun j => HS1_1.out.frozen j
    have f2_1 := str5 HS2_1.out
    have hl2_1 := HS2_1.out.lt
    have hf2_1 := fun j => HS2_1.out.frozen j
    have HS3_1 := Lib.hid hSg
    clear hSg
    have f3_1 := str2 HS3_1.out
    have hl3_1 := HS3_1.out.lt
    have hf3_1 := fun j => HS3_1.out.frozen j
    refine Reg.Goal.mk ?_
    go_simp
    go_wp2_with fail
    generalize hW2 : ((W1).setCell ⟨g, 0, none⟩ (.int .i64 ((cva + xn) / 4294967296))).setCell ⟨g, 1, none⟩ (.int .i64 ((cva + xn) % 4294967296)) = W2
    have HS3_2 : Hid (Str W2 (g) #[.int .i64 ((cva + xn) / 4294967296), .int .i64 ((cva + xn) % 4294967296)]) := Lib.hid (by rw [← hW2]; have := ((HS3_1.out).set 0 (.int .i64 ((cva + xn) / 4294967296))).set 1 (.int .i64 ((cva + xn) % 4294967296)); simpa using this)
    have hgr2 : W1.grownBy W2 (some (g)) := by rw [← hW2]; exact grown_set (grown_set (grown_refl W1 (g)) 0 (_)) 1 (_)
    have HS0_2 := Lib.hid (HS0_1.out.grown hgr2 (by omega))
    have HS1_2 := Lib.hid (HS1_1.out.grown hgr2 (by omega))
    have HS2_2 := Lib.hid (HS2_1.out.grown hgr2 (by omega))
    have HB_2 := Lib.hid (below_grown HB_1.out hgr2 (by omega))
    have hw_2 := HB_2.out.size
    have hws_2 := hgr2.size
    clear hW2
    clear f0_1 HS0_1 hf0_1 f1_1 HS1_1 hf1_1 f2_1 HS2_1 hf2_1 f3_1 HS3_1 hf3_1
    clear hgr2
    have f0_2 := str6 HS0_2.out
    have hl0_2 := HS0_2.out.lt
    have hf0_2 := fun j => HS0_2.out.frozen j
    have f1_2 := str5 HS1_2.out
    have hl1_2 := HS1_2.out.lt
    have hf1_2 := fun j => HS1_2.out.frozen j
    have f2_2 := str5 HS2_2.out
    have hl2_2 := HS2_2.out.lt
    have hf2_2 := fun j => HS2_2.out.frozen j
    have f3_2 := str2 HS3_2.out
    have hl3_2 := HS3_2.out.lt
    have hf3_2 := fun j => HS3_2.out.frozen j
    refine Reg.wp_region_vals (R := ext) (W := W2) [Reg.eqv (.agg #[.int .i64 ((cva + xn) / 4294967296), .int .i64 ((cva + xn) % 4294967296)]), Reg.eqv (.pointer (some ⟨w.heap.size + 1, 2, none⟩)), Reg.eqv (.int .i64 clo), Reg.eqv (.agg #[.int .i64 (clo / 4294967296), .int .i64 (clo % 4294967296)]), Reg.eqv (.bool false), Reg.eqv (.bool false), Reg.eqv (.pointer (some ⟨w.heap.size + 1, 3, none⟩)), Reg.eqv (.int .i64 chi), Reg.eqv (.agg #[.int .i64 (chi / 4294967296), .int .i64 (chi % 4294967296)]), Reg.eqv (.agg #[.int .i64 ((cva + xn) / 4294967296), .int .i64 ((cva + xn) % 4294967296)]), Reg.eqv (.bool false), Reg.eqv (.bool false)] 51 [[(6, none)], [(3, none)], [(31, some 1)], [(32, some 2)], [(30, some 0), (33, some 3)], [(34, some 4)], [(3, none), (35, some 5)], [(36, some 6), (35, some 5)], [(37, some 7), (35, some 5)], [(6, none), (35, some 5)], [(38, some 8), (39, some 9), (35, some 5)], [(35, some 5), (40, some 10)]] rfl (by kernel_rfl) (by kernel_rfl) (by kernel_rfl) ?_ [some 30, some 31, some 32, some 33, some 34, some 35, some 36, some 37, some 38, some 39, some 40, some 41] (by kernel_rfl) ?_
    · refine ⟨?_, ?_, ?_, ?_, ?_, ?_, ?_, ?_, ?_, ?_, ?_, ?_, trivial⟩
      · intro ax wx hx hs
        obtain ⟨e6, -⟩ := hs
        have g6 := Reg.ev (v := .pointer (some ⟨g, 0, none⟩)) e6
        obtain ⟨hc, -⟩ := bcell hx
        exact Reg.obl_free rfl (Reg.wp_eqv (Option.some_ne_none _) (by go_simp) rfl)
      · intro ax wx hx hs
        obtain ⟨e3, -⟩ := hs
        have g3 := Reg.ev (v := .pointer (some ⟨w.heap.size + 1, 0, none⟩)) e3
        exact Reg.obl_free rfl (Reg.wp_eqv (Option.some_ne_none _) (by go_simp) rfl)
      · intro ax wx hx hs
        obtain ⟨e31, -⟩ := hs
        have g31 := Reg.ev (v := .pointer (some ⟨w.heap.size + 1, 2, none⟩)) e31
        obtain ⟨hc, -⟩ := bcell hx
        exact Reg.obl_free rfl (Reg.wp_eqv (Option.some_ne_none _) (by go_simp) rfl)
      · intro ax wx hx hs
        obtain ⟨e32, -⟩ := hs
        have g32 := Reg.ev (v := .int .i64 clo) e32
        refine Reg.obl_free rfl ?_
        go_simp
        refine (RefWide.of_any clo v5 v6 _).mono ?_
        rintro e wy ⟨rfl, hby⟩
        exact Reg.done (Option.some_ne_none _) rfl hby
      · intro ax wx hx hs
        obtain ⟨e30, e33, -⟩ := hs
        have g30 := Reg.ev (v := .agg #[.int .i64 ((cva + xn) / 4294967296), .int .i64 ((cva + xn) % 4294967296)]) e30
        have g33 := Reg.ev (v := .agg #[.int .i64 (clo / 4294967296), .int .i64 (clo % 4294967296)]) e33
        refine Reg.obl_free rfl ?_
        go_simp
        refine (RefWide.less_any (cva + xn) clo _).mono ?_
        rintro e wy ⟨rfl, hby⟩
        rw [HLO.out]
        exact Reg.done (Option.some_ne_none _) rfl hby
      · intro ax wx hx hs
        obtain ⟨e34, -⟩ := hs
        have g34 := Reg.ev (v := .bool false) e34
        exact Reg.obl_free rfl (Reg.wp_eqv (Option.some_ne_none _) (by go_simp) rfl)
      · intro ax wx hx hs
        obtain ⟨e3, e35, -⟩ := hs
        have g3 := Reg.ev (v := .pointer (some ⟨w.heap.size + 1, 0, none⟩)) e3
        have g35 := Reg.ev (v := .bool false) e35
        exact Reg.obl_want rfl rfl e35 (Reg.wp_eqv (Option.some_ne_none _) (by go_simp) rfl)
      · intro ax wx hx hs
        obtain ⟨e36, e35, -⟩ := hs
        have g36 := Reg.ev (v := .pointer (some ⟨w.heap.size + 1, 3, none⟩)) e36
        have g35 := Reg.ev (v := .bool false) e35
        obtain ⟨hc, -⟩ := bcell hx
        exact Reg.obl_want rfl rfl e35 (Reg.wp_eqv (Option.some_ne_none _) (by go_simp) rfl)
      · intro ax wx hx hs
        obtain ⟨e37, e35, -⟩ := hs
        have g37 := Reg.ev (v := .int .i64 chi) e37
        have g35 := Reg.ev (v := .bool false) e35
        refine Reg.obl_want rfl rfl e35 ?_
        go_simp
        refine (RefWide.of_any chi v7 v8 _).mono ?_
        rintro e wy ⟨rfl, hby⟩
        exact Reg.done (Option.some_ne_none _) rfl hby
      · intro ax wx hx hs
        obtain ⟨e6, e35, -⟩ := hs
        have g6 := Reg.ev (v := .pointer (some ⟨g, 0, none⟩)) e6
        have g35 := Reg.ev (v := .bool false) e35
        obtain ⟨hc, -⟩ := bcell hx
        exact Reg.obl_want rfl rfl e35 (Reg.wp_eqv (Option.some_ne_none _) (by go_simp) rfl)
      · intro ax wx hx hs
        obtain ⟨e38, e39, e35, -⟩ := hs
        have g38 := Reg.ev (v := .agg #[.int .i64 (chi / 4294967296), .int .i64 (chi % 4294967296)]) e38
        have g39 := Reg.ev (v := .agg #[.int .i64 ((cva + xn) / 4294967296), .int .i64 ((cva + xn) % 4294967296)]) e39
        have g35 := Reg.ev (v := .bool false) e35
        refine Reg.obl_want rfl rfl e35 ?_
        go_simp
        refine (RefWide.less_any chi (cva + xn) _).mono ?_
        rintro e wy ⟨rfl, hby⟩
        rw [HHI.out]
        exact Reg.done (Option.some_ne_none _) rfl hby
      · intro ax wx hx hs
        obtain ⟨e35, e40, -⟩ := hs
        have g35 := Reg.ev (v := .bool false) e35
        have g40 := Reg.ev (v := .bool false) e40
        exact Reg.obl_free rfl (Reg.wp_eqv (Option.some_ne_none _) (by go_simp) rfl)
    · intro W3 hwf
      simp only [Reg.Fin]
      rintro _ rfl _ rfl _ rfl _ rfl _ rfl _ rfl _ rfl _ rfl _ rfl _ rfl _ rfl _ rfl
      go_simp
      have HS0_3 := Lib.hid (HS0_2.out.next hwf)
      have HS1_3 := Lib.hid (HS1_2.out.next hwf)
      have HS2_3 := Lib.hid (HS2_2.out.next hwf)
      have HS3_3 := Lib.hid (HS3_2.out.next hwf)
      have HB_3 := Lib.hid (bstep HB_2.out hwf)
      have hw_3 := HB_3.out.size
      have hws_3 := (hwf).size
      clear f0_2 HS0_2 hf0_2 f1_2 HS1_2 hf1_2 f2_2 HS2_2 hf2_2 f3_2 HS3_2 hf3_2
      clear hwf
      have f0_3 := str6 HS0_3.out
      have hl0_3 := HS0_3.out.lt
      have hf0_3 := fun j => HS0_3.out.frozen j
      have f1_3 := str5 HS1_3.out
      have hl1_3 := HS1_3.out.lt
      have hf1_3 := fun j => HS1_3.out.frozen j
      have f2_3 := str5 HS2_3.out
      have hl2_3 := HS2_3.out.lt
      have hf2_3 := fun j => HS2_3.out.frozen j
      have f3_3 := str2 HS3_3.out
      have hl3_3 := HS3_3.out.lt
      have hf3_3 := fun j => HS3_3.out.frozen j
      go_wp2_with fail
      refine (RefWide.int_any (cva + xn) _).mono ?_
      rintro e W4 ⟨rfl, hb4⟩
      rw [HNUM.out]
      have HS0_4 := Lib.hid (HS0_3.out.next hb4)
      have HS1_4 := Lib.hid (HS1_3.out.next hb4)
      have HS2_4 := Lib.hid (HS2_3.out.next hb4)
      have HS3_4 := Lib.hid (HS3_3.out.next hb4)
      have HB_4 := Lib.hid (bstep HB_3.out hb4)
      have hw_4 := HB_4.out.size
      have hws_4 := (hb4).size
      clear f0_3 HS0_3 hf0_3 f1_3 HS1_3 hf1_3 f2_3 HS2_3 hf2_3 f3_3 HS3_3 hf3_3
      clear hb4
      have f0_4 := str6 HS0_4.out
      have hl0_4 := HS0_4.out.lt
      have hf0_4 := fun j => HS0_4.out.frozen j
      have f1_4 := str5 HS1_4.out
      have hl1_4 := HS1_4.out.lt
      have hf1_4 := fun j => HS1_4.out.frozen j
      have f2_4 := str5 HS2_4.out
      have hl2_4 := HS2_4.out.lt
      have hf2_4 := fun j => HS2_4.out.frozen j
      have f3_4 := str2 HS3_4.out
      have hl3_4 := HS3_4.out.lt
      have hf3_4 := fun j => HS3_4.out.frozen j
      go_wp2_with fail
      generalize hW5 : (W4).setCell ⟨w.heap.size + 1, 4, none⟩ (.int .i64 (cva + xn)) = W5
      have HS1_5 : Hid (Str W5 (w.heap.size + 1) #[.int .i64 2, .slice Ac nc cc, .int .i64 clo, .int .i64 chi, .int .i64 (cva + xn)]) := Lib.hid (by rw [← hW5]; have := (HS1_4.out).set 4 (.int .i64 (cva + xn)); simpa using this)
      have hgr5 : W4.grownBy W5 (some (w.heap.size + 1)) := by rw [← hW5]; exact grown_set (grown_refl W4 (w.heap.size + 1)) 4 (_)
      have HS0_5 := Lib.hid (HS0_4.out.grown hgr5 (by omega))
      have HS2_5 := Lib.hid (HS2_4.out.grown hgr5 (by omega))
      have HS3_5 := Lib.hid (HS3_4.out.grown hgr5 (by omega))
      have HB_5 := Lib.hid (below_grown HB_4.out hgr5 (by omega))
      have hw_5 := HB_5.out.size
      have hws_5 := hgr5.size
      clear hW5
      clear f0_4 HS0_4 hf0_4 f1_4 HS1_4 hf1_4 f2_4 HS2_4 hf2_4 f3_4 HS3_4 hf3_4
      clear hgr5
      have f0_5 := str6 HS0_5.out
      have hl0_5 := HS0_5.out.lt
      have hf0_5 := fun j => HS0_5.out.frozen j
      have f1_5 := str5 HS1_5.out
      have hl1_5 := HS1_5.out.lt
      have hf1_5 := fun j => HS1_5.out.frozen j
      have f2_5 := str5 HS2_5.out
      have hl2_5 := HS2_5.out.lt
      have hf2_5 := fun j => HS2_5.out.frozen j
      have f3_5 := str2 HS3_5.out
      have hl3_5 := HS3_5.out.lt
      have hf3_5 := fun j => HS3_5.out.frozen j
      generalize hW6 : (((((W5).setCell ⟨w.heap.size + 1 + 1, 0, none⟩ (.int .i64 2)).setCell ⟨w.heap.size + 1 + 1, 1, none⟩ (.slice Ac nc cc)).setCell ⟨w.heap.size + 1 + 1, 2, none⟩ (.int .i64 clo)).setCell ⟨w.heap.size + 1 + 1, 3, none⟩ (.int .i64 chi)).setCell ⟨w.heap.size + 1 + 1, 4, none⟩ (.int .i64 (cva + xn)) = W6
      have HS2_6 : Hid (Str W6 (w.heap.size + 1 + 1) #[.int .i64 2, .slice Ac nc cc, .int .i64 clo, .int .i64 chi, .int .i64 (cva + xn)]) := Lib.hid (by rw [← hW6]; have := (((((HS2_5.out).set 0 (.int .i64 2)).set 1 (.slice Ac nc cc)).set 2 (.int .i64 clo)).set 3 (.int .i64 chi)).set 4 (.int .i64 (cva + xn)); simpa using this)
      have hgr6 : W5.grownBy W6 (some (w.heap.size + 1 + 1)) := by rw [← hW6]; exact grown_set (grown_set (grown_set (grown_set (grown_set (grown_refl W5 (w.heap.size + 1 + 1)) 0 (_)) 1 (_)) 2 (_)) 3 (_)) 4 (_)
      have HS0_6 := Lib.hid (HS0_5.out.grown hgr6 (by omega))
      have HS1_6 := Lib.hid (HS1_5.out.grown hgr6 (by omega))
      have HS3_6 := Lib.hid (HS3_5.out.grown hgr6 (by omega))
      have HB_6 := Lib.hid (below_grown HB_5.out hgr6 (by omega))
      have hw_6 := HB_6.out.size
      have hws_6 := hgr6.size
      clear hW6
      clear f0_5 HS0_5 hf0_5 f1_5 HS1_5 hf1_5 f2_5 HS2_5 hf2_5 f3_5 HS3_5 hf3_5
      clear hgr6
      have f0_6 := str6 HS0_6.out
      have hl0_6 := HS0_6.out.lt
      have hf0_6 := fun j => HS0_6.out.frozen j
      have f1_6 := str5 HS1_6.out
      have hl1_6 := HS1_6.out.lt
      have hf1_6 := fun j => HS1_6.out.frozen j
      have f2_6 := str5 HS2_6.out
      have hl2_6 := HS2_6.out.lt
      have hf2_6 := fun j => HS2_6.out.frozen j
      have f3_6 := str2 HS3_6.out
      have hl3_6 := HS3_6.out.lt
      have hf3_6 := fun j => HS3_6.out.frozen j
      exact bodyPost_ret (v := .tuple #[.agg #[.int .i64 2, .slice Ac nc cc, .int .i64 clo, .int .i64 chi, .int .i64 (cva + xn)], .int .i64 0]) (by simp [results, Try.results67, go_sem, *]) rfl ⟨rfl, HB_6.out⟩
set_option maxRecDepth 100000 in
set_option maxHeartbeats 1000000 in
theorem rmove5_low (xk : ByteArray) (Ax : Option Addr) (nx cx : Nat) (xlo xhi xn : Int) (Ac : Option Addr) (nc cc : Nat) (clo chi cva : Int) (w : World) (hi1 : In64 clo) (hi2 : In64 chi) (hi3 : In64 cva) (hi4 : In64 xn) (ho : (cva - xn) < clo) : Calls Try.prog 67 #[.agg #[.int .i64 5, .string xk, .slice Ax nx cx, .int .i64 xlo, .int .i64 xhi, .int .i64 xn], .agg #[.int .i64 2, .slice Ac nc cc, .int .i64 clo, .int .i64 chi, .int .i64 cva]] w (GivesMove w 2 Ac nc cc clo chi cva 8) := by
  obtain ⟨v1, v2⟩ := hi3
  obtain ⟨v3, v4⟩ := hi4
  obtain ⟨v5, v6⟩ := hi1
  obtain ⟨v7, v8⟩ := hi2
  have HLO : Hid (decide ((cva - xn) < clo) = true) := Lib.hid (by simpa using ho)
  clear ho
  go_enter Try.func67, Try.ntmps67
  go_wp2_with fail
  generalize hW0 : (((w).alloc (.cells #[.int .i64 5, .string xk, .slice Ax nx cx, .int .i64 xlo, .int .i64 xhi, .int .i64 xn] 24)).alloc (.cells #[.int .i64 2, .slice Ac nc cc, .int .i64 clo, .int .i64 chi, .int .i64 cva] 37)).alloc (.cells #[.int .i64 0, .slice none 0 0, .int .i64 0, .int .i64 0, .int .i64 0] 37) = W0
  obtain ⟨HS0_0, HS1_0, HS2_0, HB_0, hw_0, hz0⟩ := new3 hW0
  clear hW0 hz0
  have f0_0 := str6 HS0_0.out
  have hl0_0 := HS0_0.out.lt
  have hf0_0 := fun j => HS0_0.out.frozen j
  have f1_0 := str5 HS1_0.out
  have hl1_0 := HS1_0.out.lt
  have hf1_0 := fun j => HS1_0.out.frozen j
  have f2_0 := str5 HS2_0.out
  have hl2_0 := HS2_0.out.lt
  have hf2_0 := fun j => HS2_0.out.frozen j
  refine Reg.wp_region_tail (R := ext) (W := W0) [Reg.eqv (.pointer (some ⟨w.heap.size + 1, 4, none⟩)), Reg.eqv (.int .i64 cva), Reg.eqv (.agg #[.int .i64 (cva / 4294967296), .int .i64 (cva % 4294967296)]), Reg.eqv (.pointer (some ⟨w.heap.size, 5, none⟩)), Reg.eqv (.int .i64 xn), Reg.eqv (.agg #[.int .i64 (xn / 4294967296), .int .i64 (xn % 4294967296)]), Reg.eqv (.agg #[.int .i64 ((cva + xn) / 4294967296), .int .i64 ((cva + xn) % 4294967296)]), Reg.fresh W0.heap.size #[.int .i64 0, .int .i64 0]] 51 8 _ [[(3, none)], [(13, some 0)], [(14, some 1)], [(2, none)], [(16, some 3)], [(17, some 4)], [(15, some 2), (18, some 5)], []] rfl (by kernel_rfl) (by kernel_rfl) (by rfl) (by rfl) rfl (by kernel_rfl) ?_ [some 13, some 14, some 15, some 16, some 17, some 18, some 19, some 6] (by kernel_rfl) ?_
  · refine ⟨?_, ?_, ?_, ?_, ?_, ?_, ?_, ?_, trivial⟩
    · intro ax wx hx hs
      obtain ⟨e3, -⟩ := hs
      have g3 := Reg.ev (v := .pointer (some ⟨w.heap.size + 1, 0, none⟩)) e3
      exact Reg.obl_free rfl (Reg.wp_eqv (Option.some_ne_none _) (by go_simp) rfl)
    · intro ax wx hx hs
      obtain ⟨e13, -⟩ := hs
      have g13 := Reg.ev (v := .pointer (some ⟨w.heap.size + 1, 4, none⟩)) e13
      obtain ⟨hc, -⟩ := bcell hx
      exact Reg.obl_free rfl (Reg.wp_eqv (Option.some_ne_none _) (by go_simp) rfl)
    · intro ax wx hx hs
      obtain ⟨e14, -⟩ := hs
      have g14 := Reg.ev (v := .int .i64 cva) e14
      refine Reg.obl_free rfl ?_
      go_simp
      refine (RefWide.of_any cva v1 v2 _).mono ?_
      rintro e wy ⟨rfl, hby⟩
      exact Reg.done (Option.some_ne_none _) rfl hby
    · intro ax wx hx hs
      obtain ⟨e2, -⟩ := hs
      have g2 := Reg.ev (v := .pointer (some ⟨w.heap.size, 0, none⟩)) e2
      exact Reg.obl_free rfl (Reg.wp_eqv (Option.some_ne_none _) (by go_simp) rfl)
    · intro ax wx hx hs
      obtain ⟨e16, -⟩ := hs
      have g16 := Reg.ev (v := .pointer (some ⟨w.heap.size, 5, none⟩)) e16
      obtain ⟨hc, -⟩ := bcell hx
      exact Reg.obl_free rfl (Reg.wp_eqv (Option.some_ne_none _) (by go_simp) rfl)
    · intro ax wx hx hs
      obtain ⟨e17, -⟩ := hs
      have g17 := Reg.ev (v := .int .i64 xn) e17
      refine Reg.obl_free rfl ?_
      go_simp
      refine (RefWide.of_any xn v3 v4 _).mono ?_
      rintro e wy ⟨rfl, hby⟩
      exact Reg.done (Option.some_ne_none _) rfl hby
    · intro ax wx hx hs
      obtain ⟨e15, e18, -⟩ := hs
      have g15 := Reg.ev (v := .agg #[.int .i64 (cva / 4294967296), .int .i64 (cva % 4294967296)]) e15
      have g18 := Reg.ev (v := .agg #[.int .i64 (xn / 4294967296), .int .i64 (xn % 4294967296)]) e18
      refine Reg.obl_free rfl ?_
      go_simp
      refine (RefWide.join_any cva xn (by omega) (by omega) (by omega) (by omega) _).mono ?_
      rintro e wy ⟨rfl, hby⟩
      exact Reg.done (Option.some_ne_none _) rfl hby
    · intro ax wx hx hs
      refine Reg.obl_free rfl ?_
      have hx' : Below W0.heap.size W0 wx := hx
      go_simp
      exact Reg.done (Option.some_ne_none _) ⟨wx.heap.size, rfl, hx'.size, Str.new wx _ _⟩ (balloc (bsame wx) _)
  · intro W1 hwf
    simp only [Reg.Fin]
    rintro _ rfl _ rfl _ rfl _ rfl _ rfl _ rfl _ rfl v6 h6
    obtain ⟨g, rfl, hg, hSg⟩ := h6
    have hwf' : Below W0.heap.size W0 W1 := hwf
    clear hwf
    have HS0_1 := Lib.hid (HS0_0.out.next hwf')
    have HS1_1 := Lib.hid (HS1_0.out.next hwf')
    have HS2_1 := Lib.hid (HS2_0.out.next hwf')
    have HB_1 := Lib.hid (bstep HB_0.out hwf')
    have hw_1 := HB_1.out.size
    have hws_1 := (hwf').size
    clear f0_0 HS0_0 hf0_0 f1_0 HS1_0 hf1_0 f2_0 HS2_0 hf2_0
    clear hwf'
    have f0_1 := str6 HS0_1.out
    have hl0_1 := HS0_1.out.lt
    have hf0_1 := fun j => HS0_1.out.frozen j
    have f1_1 := str5 HS1_1.out
    have hl1_1 := HS1_1.out.lt
    have hf1_1 := fun j => HS1_1.out.frozen j
    have f2_1 := str5 HS2_1.out
    have hl2_1 := HS2_1.out.lt
    have hf2_1 := fun j => HS2_1.out.frozen j
    have HS3_1 := Lib.hid hSg
    clear hSg
    have f3_1 := str2 HS3_1.out
    have hl3_1 := HS3_1.out.lt
    have hf3_1 := fun j => HS3_1.out.frozen j
    refine Reg.Goal.mk ?_
    go_simp
    go_wp2_with fail
    generalize hW2 : ((W1).setCell ⟨g, 0, none⟩ (.int .i64 ((cva + xn) / 4294967296))).setCell ⟨g, 1, none⟩ (.int .i64 ((cva + xn) % 4294967296)) = W2
    have HS3_2 : Hid (Str W2 (g) #[.int .i64 ((cva + xn) / 4294967296), .int .i64 ((cva + xn) % 4294967296)]) := Lib.hid (by rw [← hW2]; have := ((HS3_1.out).set 0 (.int .i64 ((cva + xn) / 4294967296))).set 1 (.int .i64 ((cva + xn) % 4294967296)); simpa using this)
    have hgr2 : W1.grownBy W2 (some (g)) := by rw [← hW2]; exact grown_set (grown_set (grown_refl W1 (g)) 0 (_)) 1 (_)
    have HS0_2 := Lib.hid (HS0_1.out.grown hgr2 (by omega))
    have HS1_2 := Lib.hid (HS1_1.out.grown hgr2 (by omega))
    have HS2_2 := Lib.hid (HS2_1.out.grown hgr2 (by omega))
    have HB_2 := Lib.hid (below_grown HB_1.out hgr2 (by omega))
    have hw_2 := HB_2.out.size
    have hws_2 := hgr2.size
    clear hW2
    clear f0_1 HS0_1 hf0_1 f1_1 HS1_1 hf1_1 f2_1 HS2_1 hf2_1 f3_1 HS3_1 hf3_1
    clear hgr2
    have f0_2 := str6 HS0_2.out
    have hl0_2 := HS0_2.out.lt
    have hf0_2 := fun j => HS0_2.out.frozen j
    have f1_2 := str5 HS1_2.out
    have hl1_2 := HS1_2.out.lt
    have hf1_2 := fun j => HS1_2.out.frozen j
    have f2_2 := str5 HS2_2.out
    have hl2_2 := HS2_2.out.lt
    have hf2_2 := fun j => HS2_2.out.frozen j
    have f3_2 := str2 HS3_2.out
    have hl3_2 := HS3_2.out.lt
    have hf3_2 := fun j => HS3_2.out.frozen j
    refine Reg.wp_region_tail (R := ext) (W := W2) [Reg.eqv (.pointer (some ⟨w.heap.size + 1, 4, none⟩)), Reg.eqv (.int .i64 cva), Reg.eqv (.agg #[.int .i64 (cva / 4294967296), .int .i64 (cva % 4294967296)]), Reg.eqv (.pointer (some ⟨w.heap.size, 5, none⟩)), Reg.eqv (.int .i64 xn), Reg.eqv (.agg #[.int .i64 (xn / 4294967296), .int .i64 (xn % 4294967296)]), Reg.eqv (.agg #[.int .i64 ((cva - xn) / 4294967296), .int .i64 ((cva - xn) % 4294967296)])] 51 7 _ [[(3, none)], [(23, some 0)], [(24, some 1)], [(2, none)], [(26, some 3)], [(27, some 4)], [(25, some 2), (28, some 5)]] rfl (by kernel_rfl) (by kernel_rfl) (by rfl) (by rfl) rfl (by kernel_rfl) ?_ [some 23, some 24, some 25, some 26, some 27, some 28, some 29] (by kernel_rfl) ?_
    · refine ⟨?_, ?_, ?_, ?_, ?_, ?_, ?_, trivial⟩
      · intro ax wx hx hs
        obtain ⟨e3, -⟩ := hs
        have g3 := Reg.ev (v := .pointer (some ⟨w.heap.size + 1, 0, none⟩)) e3
        exact Reg.obl_free rfl (Reg.wp_eqv (Option.some_ne_none _) (by go_simp) rfl)
      · intro ax wx hx hs
        obtain ⟨e23, -⟩ := hs
        have g23 := Reg.ev (v := .pointer (some ⟨w.heap.size + 1, 4, none⟩)) e23
        obtain ⟨hc, -⟩ := bcell hx
        exact Reg.obl_free rfl (Reg.wp_eqv (Option.some_ne_none _) (by go_simp) rfl)
      · intro ax wx hx hs
        obtain ⟨e24, -⟩ := hs
        have g24 := Reg.ev (v := .int .i64 cva) e24
        refine Reg.obl_free rfl ?_
        go_simp
        refine (RefWide.of_any cva v1 v2 _).mono ?_
        rintro e wy ⟨rfl, hby⟩
        exact Reg.done (Option.some_ne_none _) rfl hby
      · intro ax wx hx hs
        obtain ⟨e2, -⟩ := hs
        have g2 := Reg.ev (v := .pointer (some ⟨w.heap.size, 0, none⟩)) e2
        exact Reg.obl_free rfl (Reg.wp_eqv (Option.some_ne_none _) (by go_simp) rfl)
      · intro ax wx hx hs
        obtain ⟨e26, -⟩ := hs
        have g26 := Reg.ev (v := .pointer (some ⟨w.heap.size, 5, none⟩)) e26
        obtain ⟨hc, -⟩ := bcell hx
        exact Reg.obl_free rfl (Reg.wp_eqv (Option.some_ne_none _) (by go_simp) rfl)
      · intro ax wx hx hs
        obtain ⟨e27, -⟩ := hs
        have g27 := Reg.ev (v := .int .i64 xn) e27
        refine Reg.obl_free rfl ?_
        go_simp
        refine (RefWide.of_any xn v3 v4 _).mono ?_
        rintro e wy ⟨rfl, hby⟩
        exact Reg.done (Option.some_ne_none _) rfl hby
      · intro ax wx hx hs
        obtain ⟨e25, e28, -⟩ := hs
        have g25 := Reg.ev (v := .agg #[.int .i64 (cva / 4294967296), .int .i64 (cva % 4294967296)]) e25
        have g28 := Reg.ev (v := .agg #[.int .i64 (xn / 4294967296), .int .i64 (xn % 4294967296)]) e28
        refine Reg.obl_free rfl ?_
        go_simp
        refine (RefWide.take_any cva xn (by omega) (by omega) (by omega) (by omega) _).mono ?_
        rintro e wy ⟨rfl, hby⟩
        exact Reg.done (Option.some_ne_none _) rfl hby
    · intro W3 hwf
      simp only [Reg.Fin]
      rintro _ rfl _ rfl _ rfl _ rfl _ rfl _ rfl _ rfl
      have hwf' : Below W2.heap.size W2 W3 := hwf
      clear hwf
      have HS0_3 := Lib.hid (HS0_2.out.next hwf')
      have HS1_3 := Lib.hid (HS1_2.out.next hwf')
      have HS2_3 := Lib.hid (HS2_2.out.next hwf')
      have HS3_3 := Lib.hid (HS3_2.out.next hwf')
      have HB_3 := Lib.hid (bstep HB_2.out hwf')
      have hw_3 := HB_3.out.size
      have hws_3 := (hwf').size
      clear f0_2 HS0_2 hf0_2 f1_2 HS1_2 hf1_2 f2_2 HS2_2 hf2_2 f3_2 HS3_2 hf3_2
      clear hwf'
      have f0_3 := str6 HS0_3.out
      have hl0_3 := HS0_3.out.lt
      have hf0_3 := fun j => HS0_3.out.frozen j
      have f1_3 := str5 HS1_3.out
      have hl1_3 := HS1_3.out.lt
      have hf1_3 := fun j => HS1_3.out.frozen j
      have f2_3 := str5 HS2_3.out
      have hl2_3 := HS2_3.out.lt
      have hf2_3 := fun j => HS2_3.out.frozen j
      have f3_3 := str2 HS3_3.out
      have hl3_3 := HS3_3.out.lt
      have hf3_3 := fun j => HS3_3.out.frozen j
      refine Reg.Goal.mk ?_
      go_simp
      go_wp2_with fail
      generalize hW4 : ((W3).setCell ⟨g, 0, none⟩ (.int .i64 ((cva - xn) / 4294967296))).setCell ⟨g, 1, none⟩ (.int .i64 ((cva - xn) % 4294967296)) = W4
      have HS3_4 : Hid (Str W4 (g) #[.int .i64 ((cva - xn) / 4294967296), .int .i64 ((cva - xn) % 4294967296)]) := Lib.hid (by rw [← hW4]; have := ((HS3_3.out).set 0 (.int .i64 ((cva - xn) / 4294967296))).set 1 (.int .i64 ((cva - xn) % 4294967296)); simpa using this)
      have hgr4 : W3.grownBy W4 (some (g)) := by rw [← hW4]; exact grown_set (grown_set (grown_refl W3 (g)) 0 (_)) 1 (_)
      have HS0_4 := Lib.hid (HS0_3.out.grown hgr4 (by omega))
      have HS1_4 := Lib.hid (HS1_3.out.grown hgr4 (by omega))
      have HS2_4 := Lib.hid (HS2_3.out.grown hgr4 (by omega))
      have HB_4 := Lib.hid (below_grown HB_3.out hgr4 (by omega))
      have hw_4 := HB_4.out.size
      have hws_4 := hgr4.size
      clear hW4
      clear f0_3 HS0_3 hf0_3 f1_3 HS1_3 hf1_3 f2_3 HS2_3 hf2_3 f3_3 HS3_3 hf3_3
      clear hgr4
      have f0_4 := str6 HS0_4.out
      have hl0_4 := HS0_4.out.lt
      have hf0_4 := fun j => HS0_4.out.frozen j
      have f1_4 := str5 HS1_4.out
      have hl1_4 := HS1_4.out.lt
      have hf1_4 := fun j => HS1_4.out.frozen j
      have f2_4 := str5 HS2_4.out
      have hl2_4 := HS2_4.out.lt
      have hf2_4 := fun j => HS2_4.out.frozen j
      have f3_4 := str2 HS3_4.out
      have hl3_4 := HS3_4.out.lt
      have hf3_4 := fun j => HS3_4.out.frozen j
      refine Reg.wp_region_vals (R := ext) (W := W4) [Reg.eqv (.agg #[.int .i64 ((cva - xn) / 4294967296), .int .i64 ((cva - xn) % 4294967296)]), Reg.eqv (.pointer (some ⟨w.heap.size + 1, 2, none⟩)), Reg.eqv (.int .i64 clo), Reg.eqv (.agg #[.int .i64 (clo / 4294967296), .int .i64 (clo % 4294967296)]), Reg.eqv (.bool true), Reg.eqv (.bool true), Reg.eqv undef, Reg.eqv undef, Reg.eqv undef, Reg.eqv undef, Reg.eqv undef, Reg.eqv (.bool true)] 51 [[(6, none)], [(3, none)], [(31, some 1)], [(32, some 2)], [(30, some 0), (33, some 3)], [(34, some 4)], [(3, none), (35, some 5)], [(36, some 6), (35, some 5)], [(37, some 7), (35, some 5)], [(6, none), (35, some 5)], [(38, some 8), (39, some 9), (35, some 5)], [(35, some 5), (40, some 10)]] rfl (by kernel_rfl) (by kernel_rfl) (by kernel_rfl) ?_ [some 30, some 31, some 32, some 33, some 34, some 35, some 36, some 37, some 38, some 39, some 40, some 41] (by kernel_rfl) ?_
      · refine ⟨?_, ?_, ?_, ?_, ?_, ?_, ?_, ?_, ?_, ?_, ?_, ?_, trivial⟩
        · intro ax wx hx hs
          obtain ⟨e6, -⟩ := hs
          have g6 := Reg.ev (v := .pointer (some ⟨g, 0, none⟩)) e6
          obtain ⟨hc, -⟩ := bcell hx
          exact Reg.obl_free rfl (Reg.wp_eqv (Option.some_ne_none _) (by go_simp) rfl)
        · intro ax wx hx hs
          obtain ⟨e3, -⟩ := hs
          have g3 := Reg.ev (v := .pointer (some ⟨w.heap.size + 1, 0, none⟩)) e3
          exact Reg.obl_free rfl (Reg.wp_eqv (Option.some_ne_none _) (by go_simp) rfl)
        · intro ax wx hx hs
          obtain ⟨e31, -⟩ := hs
          have g31 := Reg.ev (v := .pointer (some ⟨w.heap.size + 1, 2, none⟩)) e31
          obtain ⟨hc, -⟩ := bcell hx
          exact Reg.obl_free rfl (Reg.wp_eqv (Option.some_ne_none _) (by go_simp) rfl)
        · intro ax wx hx hs
          obtain ⟨e32, -⟩ := hs
          have g32 := Reg.ev (v := .int .i64 clo) e32
          refine Reg.obl_free rfl ?_
          go_simp
          refine (RefWide.of_any clo v5 v6 _).mono ?_
          rintro e wy ⟨rfl, hby⟩
          exact Reg.done (Option.some_ne_none _) rfl hby
        · intro ax wx hx hs
          obtain ⟨e30, e33, -⟩ := hs
          have g30 := Reg.ev (v := .agg #[.int .i64 ((cva - xn) / 4294967296), .int .i64 ((cva - xn) % 4294967296)]) e30
          have g33 := Reg.ev (v := .agg #[.int .i64 (clo / 4294967296), .int .i64 (clo % 4294967296)]) e33
          refine Reg.obl_free rfl ?_
          go_simp
          refine (RefWide.less_any (cva - xn) clo _).mono ?_
          rintro e wy ⟨rfl, hby⟩
          rw [HLO.out]
          exact Reg.done (Option.some_ne_none _) rfl hby
        · intro ax wx hx hs
          obtain ⟨e34, -⟩ := hs
          have g34 := Reg.ev (v := .bool true) e34
          exact Reg.obl_free rfl (Reg.wp_eqv (Option.some_ne_none _) (by go_simp) rfl)
        · intro ax wx hx hs
          obtain ⟨e3, e35, -⟩ := hs
          have g3 := Reg.ev (v := .pointer (some ⟨w.heap.size + 1, 0, none⟩)) e3
          have g35 := Reg.ev (v := .bool true) e35
          exact Reg.obl_skip rfl rfl e35 rfl rfl
        · intro ax wx hx hs
          obtain ⟨e36, e35, -⟩ := hs
          have g36 := Reg.ev (v := undef) e36
          have g35 := Reg.ev (v := .bool true) e35
          exact Reg.obl_skip rfl rfl e35 rfl rfl
        · intro ax wx hx hs
          obtain ⟨e37, e35, -⟩ := hs
          have g37 := Reg.ev (v := undef) e37
          have g35 := Reg.ev (v := .bool true) e35
          exact Reg.obl_skip rfl rfl e35 rfl rfl
        · intro ax wx hx hs
          obtain ⟨e6, e35, -⟩ := hs
          have g6 := Reg.ev (v := .pointer (some ⟨g, 0, none⟩)) e6
          have g35 := Reg.ev (v := .bool true) e35
          exact Reg.obl_skip rfl rfl e35 rfl rfl
        · intro ax wx hx hs
          obtain ⟨e38, e39, e35, -⟩ := hs
          have g38 := Reg.ev (v := undef) e38
          have g39 := Reg.ev (v := undef) e39
          have g35 := Reg.ev (v := .bool true) e35
          exact Reg.obl_skip rfl rfl e35 rfl rfl
        · intro ax wx hx hs
          obtain ⟨e35, e40, -⟩ := hs
          have g35 := Reg.ev (v := .bool true) e35
          have g40 := Reg.ev (v := undef) e40
          exact Reg.obl_free rfl (Reg.wp_eqv (Option.some_ne_none _) (by go_simp) rfl)
      · intro W5 hwf
        simp only [Reg.Fin]
        rintro _ rfl _ rfl _ rfl _ rfl _ rfl _ rfl _ rfl _ rfl _ rfl _ rfl _ rfl _ rfl
        go_simp
        have HS0_5 := Lib.hid (HS0_4.out.next hwf)
        have HS1_5 := Lib.hid (HS1_4.out.next hwf)
        have HS2_5 := Lib.hid (HS2_4.out.next hwf)
        have HS3_5 := Lib.hid (HS3_4.out.next hwf)
        have HB_5 := Lib.hid (bstep HB_4.out hwf)
        have hw_5 := HB_5.out.size
        have hws_5 := (hwf).size
        clear f0_4 HS0_4 hf0_4 f1_4 HS1_4 hf1_4 f2_4 HS2_4 hf2_4 f3_4 HS3_4 hf3_4
        clear hwf
        have f0_5 := str6 HS0_5.out
        have hl0_5 := HS0_5.out.lt
        have hf0_5 := fun j => HS0_5.out.frozen j
        have f1_5 := str5 HS1_5.out
        have hl1_5 := HS1_5.out.lt
        have hf1_5 := fun j => HS1_5.out.frozen j
        have f2_5 := str5 HS2_5.out
        have hl2_5 := HS2_5.out.lt
        have hf2_5 := fun j => HS2_5.out.frozen j
        have f3_5 := str2 HS3_5.out
        have hl3_5 := HS3_5.out.lt
        have hf3_5 := fun j => HS3_5.out.frozen j
        go_wp2_with fail
        generalize hW6 : (((((W5).setCell ⟨w.heap.size + 1 + 1, 0, none⟩ (.int .i64 2)).setCell ⟨w.heap.size + 1 + 1, 1, none⟩ (.slice Ac nc cc)).setCell ⟨w.heap.size + 1 + 1, 2, none⟩ (.int .i64 clo)).setCell ⟨w.heap.size + 1 + 1, 3, none⟩ (.int .i64 chi)).setCell ⟨w.heap.size + 1 + 1, 4, none⟩ (.int .i64 cva) = W6
        have HS2_6 : Hid (Str W6 (w.heap.size + 1 + 1) #[.int .i64 2, .slice Ac nc cc, .int .i64 clo, .int .i64 chi, .int .i64 cva]) := Lib.hid (by rw [← hW6]; have := (((((HS2_5.out).set 0 (.int .i64 2)).set 1 (.slice Ac nc cc)).set 2 (.int .i64 clo)).set 3 (.int .i64 chi)).set 4 (.int .i64 cva); simpa using this)
        have hgr6 : W5.grownBy W6 (some (w.heap.size + 1 + 1)) := by rw [← hW6]; exact grown_set (grown_set (grown_set (grown_set (grown_set (grown_refl W5 (w.heap.size + 1 + 1)) 0 (_)) 1 (_)) 2 (_)) 3 (_)) 4 (_)
        have HS0_6 := Lib.hid (HS0_5.out.grown hgr6 (by omega))
        have HS1_6 := Lib.hid (HS1_5.out.grown hgr6 (by omega))
        have HS3_6 := Lib.hid (HS3_5.out.grown hgr6 (by omega))
        have HB_6 := Lib.hid (below_grown HB_5.out hgr6 (by omega))
        have hw_6 := HB_6.out.size
        have hws_6 := hgr6.size
        clear hW6
        clear f0_5 HS0_5 hf0_5 f1_5 HS1_5 hf1_5 f2_5 HS2_5 hf2_5 f3_5 HS3_5 hf3_5
        clear hgr6
        have f0_6 := str6 HS0_6.out
        have hl0_6 := HS0_6.out.lt
        have hf0_6 := fun j => HS0_6.out.frozen j
        have f1_6 := str5 HS1_6.out
        have hl1_6 := HS1_6.out.lt
        have hf1_6 := fun j => HS1_6.out.frozen j
        have f2_6 := str5 HS2_6.out
        have hl2_6 := HS2_6.out.lt
        have hf2_6 := fun j => HS2_6.out.frozen j
        have f3_6 := str2 HS3_6.out
        have hl3_6 := HS3_6.out.lt
        have hf3_6 := fun j => HS3_6.out.frozen j
        exact bodyPost_ret (v := .tuple #[.agg #[.int .i64 2, .slice Ac nc cc, .int .i64 clo, .int .i64 chi, .int .i64 cva], .int .i64 8]) (by simp [results, Try.results67, go_sem, *]) rfl ⟨rfl, HB_6.out⟩
set_option maxRecDepth 100000 in
set_option maxHeartbeats 1000000 in
theorem rmove5_high (xk : ByteArray) (Ax : Option Addr) (nx cx : Nat) (xlo xhi xn : Int) (Ac : Option Addr) (nc cc : Nat) (clo chi cva : Int) (w : World) (hi1 : In64 clo) (hi2 : In64 chi) (hi3 : In64 cva) (hi4 : In64 xn) (hl : ¬ (cva - xn) < clo) (ho : chi < (cva - xn)) : Calls Try.prog 67 #[.agg #[.int .i64 5, .string xk, .slice Ax nx cx, .int .i64 xlo, .int .i64 xhi, .int .i64 xn], .agg #[.int .i64 2, .slice Ac nc cc, .int .i64 clo, .int .i64 chi, .int .i64 cva]] w (GivesMove w 2 Ac nc cc clo chi cva 8) := by
  obtain ⟨v1, v2⟩ := hi3
  obtain ⟨v3, v4⟩ := hi4
  obtain ⟨v5, v6⟩ := hi1
  obtain ⟨v7, v8⟩ := hi2
  have HLO : Hid (decide ((cva - xn) < clo) = false) := Lib.hid (by simpa using hl)
  have HHI : Hid (decide (chi < (cva - xn)) = true) := Lib.hid (by simpa using ho)
  clear ho hl
  go_enter Try.func67, Try.ntmps67
  go_wp2_with fail
  generalize hW0 : (((w).alloc (.cells #[.int .i64 5, .string xk, .slice Ax nx cx, .int .i64 xlo, .int .i64 xhi, .int .i64 xn] 24)).alloc (.cells #[.int .i64 2, .slice Ac nc cc, .int .i64 clo, .int .i64 chi, .int .i64 cva] 37)).alloc (.cells #[.int .i64 0, .slice none 0 0, .int .i64 0, .int .i64 0, .int .i64 0] 37) = W0
  obtain ⟨HS0_0, HS1_0, HS2_0, HB_0, hw_0, hz0⟩ := new3 hW0
  clear hW0 hz0
  have f0_0 := str6 HS0_0.out
  have hl0_0 := HS0_0.out.lt
  have hf0_0 := fun j => HS0_0.out.frozen j
  have f1_0 := str5 HS1_0.out
  have hl1_0 := HS1_0.out.lt
  have hf1_0 := fun j => HS1_0.out.frozen j
  have f2_0 := str5 HS2_0.out
  have hl2_0 := HS2_0.out.lt
  have hf2_0 := fun j => HS2_0.out.frozen j
  refine Reg.wp_region_tail (R := ext) (W := W0) [Reg.eqv (.pointer (some ⟨w.heap.size + 1, 4, none⟩)), Reg.eqv (.int .i64 cva), Reg.eqv (.agg #[.int .i64 (cva / 4294967296), .int .i64 (cva % 4294967296)]), Reg.eqv (.pointer (some ⟨w.heap.size, 5, none⟩)), Reg.eqv (.int .i64 xn), Reg.eqv (.agg #[.int .i64 (xn / 4294967296), .int .i64 (xn % 4294967296)]), Reg.eqv (.agg #[.int .i64 ((cva + xn) / 4294967296), .int .i64 ((cva + xn) % 4294967296)]), Reg.fresh W0.heap.size #[.int .i64 0, .int .i64 0]] 51 8 _ [[(3, none)], [(13, some 0)], [(14, some 1)], [(2, none)], [(16, some 3)], [(17, some 4)], [(15, some 2), (18, some 5)], []] rfl (by kernel_rfl) (by kernel_rfl) (by rfl) (by rfl) rfl (by kernel_rfl) ?_ [some 13, some 14, some 15, some 16, some 17, some 18, some 19, some 6] (by kernel_rfl) ?_
  · refine ⟨?_, ?_, ?_, ?_, ?_, ?_, ?_, ?_, trivial⟩
    · intro ax wx hx hs
      obtain ⟨e3, -⟩ := hs
      have g3 := Reg.ev (v := .pointer (some ⟨w.heap.size + 1, 0, none⟩)) e3
      exact Reg.obl_free rfl (Reg.wp_eqv (Option.some_ne_none _) (by go_simp) rfl)
    · intro ax wx hx hs
      obtain ⟨e13, -⟩ := hs
      have g13 := Reg.ev (v := .pointer (some ⟨w.heap.size + 1, 4, none⟩)) e13
      obtain ⟨hc, -⟩ := bcell hx
      exact Reg.obl_free rfl (Reg.wp_eqv (Option.some_ne_none _) (by go_simp) rfl)
    · intro ax wx hx hs
      obtain ⟨e14, -⟩ := hs
      have g14 := Reg.ev (v := .int .i64 cva) e14
      refine Reg.obl_free rfl ?_
      go_simp
      refine (RefWide.of_any cva v1 v2 _).mono ?_
      rintro e wy ⟨rfl, hby⟩
      exact Reg.done (Option.some_ne_none _) rfl hby
    · intro ax wx hx hs
      obtain ⟨e2, -⟩ := hs
      have g2 := Reg.ev (v := .pointer (some ⟨w.heap.size, 0, none⟩)) e2
      exact Reg.obl_free rfl (Reg.wp_eqv (Option.some_ne_none _) (by go_simp) rfl)
    · intro ax wx hx hs
      obtain ⟨e16, -⟩ := hs
      have g16 := Reg.ev (v := .pointer (some ⟨w.heap.size, 5, none⟩)) e16
      obtain ⟨hc, -⟩ := bcell hx
      exact Reg.obl_free rfl (Reg.wp_eqv (Option.some_ne_none _) (by go_simp) rfl)
    · intro ax wx hx hs
      obtain ⟨e17, -⟩ := hs
      have g17 := Reg.ev (v := .int .i64 xn) e17
      refine Reg.obl_free rfl ?_
      go_simp
      refine (RefWide.of_any xn v3 v4 _).mono ?_
      rintro e wy ⟨rfl, hby⟩
      exact Reg.done (Option.some_ne_none _) rfl hby
    · intro ax wx hx hs
      obtain ⟨e15, e18, -⟩ := hs
      have g15 := Reg.ev (v := .agg #[.int .i64 (cva / 4294967296), .int .i64 (cva % 4294967296)]) e15
      have g18 := Reg.ev (v := .agg #[.int .i64 (xn / 4294967296), .int .i64 (xn % 4294967296)]) e18
      refine Reg.obl_free rfl ?_
      go_simp
      refine (RefWide.join_any cva xn (by omega) (by omega) (by omega) (by omega) _).mono ?_
      rintro e wy ⟨rfl, hby⟩
      exact Reg.done (Option.some_ne_none _) rfl hby
    · intro ax wx hx hs
      refine Reg.obl_free rfl ?_
      have hx' : Below W0.heap.size W0 wx := hx
      go_simp
      exact Reg.done (Option.some_ne_none _) ⟨wx.heap.size, rfl, hx'.size, Str.new wx _ _⟩ (balloc (bsame wx) _)
  · intro W1 hwf
    simp only [Reg.Fin]
    rintro _ rfl _ rfl _ rfl _ rfl _ rfl _ rfl _ rfl v6 h6
    obtain ⟨g, rfl, hg, hSg⟩ := h6
    have hwf' : Below W0.heap.size W0 W1 := hwf
    clear hwf
    have HS0_1 := Lib.hid (HS0_0.out.next hwf')
    have HS1_1 := Lib.hid (HS1_0.out.next hwf')
    have HS2_1 := Lib.hid (HS2_0.out.next hwf')
    have HB_1 := Lib.hid (bstep HB_0.out hwf')
    have hw_1 := HB_1.out.size
    have hws_1 := (hwf').size
    clear f0_0 HS0_0 hf0_0 f1_0 HS1_0 hf1_0 f2_0 HS2_0 hf2_0
    clear hwf'
    have f0_1 := str6 HS0_1.out
    have hl0_1 := HS0_1.out.lt
    have hf0_1 := fun j => HS0_1.out.frozen j
    have f1_1 := str5 HS1_1.out
    have hl1_1 := HS1_1.out.lt
    have hf1_1 := fun j => HS1_1.out.frozen j
    have f2_1 := str5 HS2_1.out
    have hl2_1 := HS2_1.out.lt
    have hf2_1 := fun j => HS2_1.out.frozen j
    have HS3_1 := Lib.hid hSg
    clear hSg
    have f3_1 := str2 HS3_1.out
    have hl3_1 := HS3_1.out.lt
    have hf3_1 := fun j => HS3_1.out.frozen j
    refine Reg.Goal.mk ?_
    go_simp
    go_wp2_with fail
    generalize hW2 : ((W1).setCell ⟨g, 0, none⟩ (.int .i64 ((cva + xn) / 4294967296))).setCell ⟨g, 1, none⟩ (.int .i64 ((cva + xn) % 4294967296)) = W2
    have HS3_2 : Hid (Str W2 (g) #[.int .i64 ((cva + xn) / 4294967296), .int .i64 ((cva + xn) % 4294967296)]) := Lib.hid (by rw [← hW2]; have := ((HS3_1.out).set 0 (.int .i64 ((cva + xn) / 4294967296))).set 1 (.int .i64 ((cva + xn) % 4294967296)); simpa using this)
    have hgr2 : W1.grownBy W2 (some (g)) := by rw [← hW2]; exact grown_set (grown_set (grown_refl W1 (g)) 0 (_)) 1 (_)
    have HS0_2 := Lib.hid (HS0_1.out.grown hgr2 (by omega))
    have HS1_2 := Lib.hid (HS1_1.out.grown hgr2 (by omega))
    have HS2_2 := Lib.hid (HS2_1.out.grown hgr2 (by omega))
    have HB_2 := Lib.hid (below_grown HB_1.out hgr2 (by omega))
    have hw_2 := HB_2.out.size
    have hws_2 := hgr2.size
    clear hW2
    clear f0_1 HS0_1 hf0_1 f1_1 HS1_1 hf1_1 f2_1 HS2_1 hf2_1 f3_1 HS3_1 hf3_1
    clear hgr2
    have f0_2 := str6 HS0_2.out
    have hl0_2 := HS0_2.out.lt
    have hf0_2 := fun j => HS0_2.out.frozen j
    have f1_2 := str5 HS1_2.out
    have hl1_2 := HS1_2.out.lt
    have hf1_2 := fun j => HS1_2.out.frozen j
    have f2_2 := str5 HS2_2.out
    have hl2_2 := HS2_2.out.lt
    have hf2_2 := fun j => HS2_2.out.frozen j
    have f3_2 := str2 HS3_2.out
    have hl3_2 := HS3_2.out.lt
    have hf3_2 := fun j => HS3_2.out.frozen j
    refine Reg.wp_region_tail (R := ext) (W := W2) [Reg.eqv (.pointer (some ⟨w.heap.size + 1, 4, none⟩)), Reg.eqv (.int .i64 cva), Reg.eqv (.agg #[.int .i64 (cva / 4294967296), .int .i64 (cva % 4294967296)]), Reg.eqv (.pointer (some ⟨w.heap.size, 5, none⟩)), Reg.eqv (.int .i64 xn), Reg.eqv (.agg #[.int .i64 (xn / 4294967296), .int .i64 (xn % 4294967296)]), Reg.eqv (.agg #[.int .i64 ((cva - xn) / 4294967296), .int .i64 ((cva - xn) % 4294967296)])] 51 7 _ [[(3, none)], [(23, some 0)], [(24, some 1)], [(2, none)], [(26, some 3)], [(27, some 4)], [(25, some 2), (28, some 5)]] rfl (by kernel_rfl) (by kernel_rfl) (by rfl) (by rfl) rfl (by kernel_rfl) ?_ [some 23, some 24, some 25, some 26, some 27, some 28, some 29] (by kernel_rfl) ?_
    · refine ⟨?_, ?_, ?_, ?_, ?_, ?_, ?_, trivial⟩
      · intro ax wx hx hs
        obtain ⟨e3, -⟩ := hs
        have g3 := Reg.ev (v := .pointer (some ⟨w.heap.size + 1, 0, none⟩)) e3
        exact Reg.obl_free rfl (Reg.wp_eqv (Option.some_ne_none _) (by go_simp) rfl)
      · intro ax wx hx hs
        obtain ⟨e23, -⟩ := hs
        have g23 := Reg.ev (v := .pointer (some ⟨w.heap.size + 1, 4, none⟩)) e23
        obtain ⟨hc, -⟩ := bcell hx
        exact Reg.obl_free rfl (Reg.wp_eqv (Option.some_ne_none _) (by go_simp) rfl)
      · intro ax wx hx hs
        obtain ⟨e24, -⟩ := hs
        have g24 := Reg.ev (v := .int .i64 cva) e24
        refine Reg.obl_free rfl ?_
        go_simp
        refine (RefWide.of_any cva v1 v2 _).mono ?_
        rintro e wy ⟨rfl, hby⟩
        exact Reg.done (Option.some_ne_none _) rfl hby
      · intro ax wx hx hs
        obtain ⟨e2, -⟩ := hs
        have g2 := Reg.ev (v := .pointer (some ⟨w.heap.size, 0, none⟩)) e2
        exact Reg.obl_free rfl (Reg.wp_eqv (Option.some_ne_none _) (by go_simp) rfl)
      · intro ax wx hx hs
        obtain ⟨e26, -⟩ := hs
        have g26 := Reg.ev (v := .pointer (some ⟨w.heap.size, 5, none⟩)) e26
        obtain ⟨hc, -⟩ := bcell hx
        exact Reg.obl_free rfl (Reg.wp_eqv (Option.some_ne_none _) (by go_simp) rfl)
      · intro ax wx hx hs
        obtain ⟨e27, -⟩ := hs
        have g27 := Reg.ev (v := .int .i64 xn) e27
        refine Reg.obl_free rfl ?_
        go_simp
        refine (RefWide.of_any xn v3 v4 _).mono ?_
        rintro e wy ⟨rfl, hby⟩
        exact Reg.done (Option.some_ne_none _) rfl hby
      · intro ax wx hx hs
        obtain ⟨e25, e28, -⟩ := hs
        have g25 := Reg.ev (v := .agg #[.int .i64 (cva / 4294967296), .int .i64 (cva % 4294967296)]) e25
        have g28 := Reg.ev (v := .agg #[.int .i64 (xn / 4294967296), .int .i64 (xn % 4294967296)]) e28
        refine Reg.obl_free rfl ?_
        go_simp
        refine (RefWide.take_any cva xn (by omega) (by omega) (by omega) (by omega) _).mono ?_
        rintro e wy ⟨rfl, hby⟩
        exact Reg.done (Option.some_ne_none _) rfl hby
    · intro W3 hwf
      simp only [Reg.Fin]
      rintro _ rfl _ rfl _ rfl _ rfl _ rfl _ rfl _ rfl
      have hwf' : Below W2.heap.size W2 W3 := hwf
      clear hwf
      have HS0_3 := Lib.hid (HS0_2.out.next hwf')
      have HS1_3 := Lib.hid (HS1_2.out.next hwf')
      have HS2_3 := Lib.hid (HS2_2.out.next hwf')
      have HS3_3 := Lib.hid (HS3_2.out.next hwf')
      have HB_3 := Lib.hid (bstep HB_2.out hwf')
      have hw_3 := HB_3.out.size
      have hws_3 := (hwf').size
      clear f0_2 HS0_2 hf0_2 f1_2 HS1_2 hf1_2 f2_2 HS2_2 hf2_2 f3_2 HS3_2 hf3_2
      clear hwf'
      have f0_3 := str6 HS0_3.out
      have hl0_3 := HS0_3.out.lt
      have hf0_3 := fun j => HS0_3.out.frozen j
      have f1_3 := str5 HS1_3.out
      have hl1_3 := HS1_3.out.lt
      have hf1_3 := fun j => HS1_3.out.frozen j
      have f2_3 := str5 HS2_3.out
      have hl2_3 := HS2_3.out.lt
      have hf2_3 := fun j => HS2_3.out.frozen j
      have f3_3 := str2 HS3_3.out
      have hl3_3 := HS3_3.out.lt
      have hf3_3 := fun j => HS3_3.out.frozen j
      refine Reg.Goal.mk ?_
      go_simp
      go_wp2_with fail
      generalize hW4 : ((W3).setCell ⟨g, 0, none⟩ (.int .i64 ((cva - xn) / 4294967296))).setCell ⟨g, 1, none⟩ (.int .i64 ((cva - xn) % 4294967296)) = W4
      have HS3_4 : Hid (Str W4 (g) #[.int .i64 ((cva - xn) / 4294967296), .int .i64 ((cva - xn) % 4294967296)]) := Lib.hid (by rw [← hW4]; have := ((HS3_3.out).set 0 (.int .i64 ((cva - xn) / 4294967296))).set 1 (.int .i64 ((cva - xn) % 4294967296)); simpa using this)
      have hgr4 : W3.grownBy W4 (some (g)) := by rw [← hW4]; exact grown_set (grown_set (grown_refl W3 (g)) 0 (_)) 1 (_)
      have HS0_4 := Lib.hid (HS0_3.out.grown hgr4 (by omega))
      have HS1_4 := Lib.hid (HS1_3.out.grown hgr4 (by omega))
      have HS2_4 := Lib.hid (HS2_3.out.grown hgr4 (by omega))
      have HB_4 := Lib.hid (below_grown HB_3.out hgr4 (by omega))
      have hw_4 := HB_4.out.size
      have hws_4 := hgr4.size
      clear hW4
      clear f0_3 HS0_3 hf0_3 f1_3 HS1_3 hf1_3 f2_3 HS2_3 hf2_3 f3_3 HS3_3 hf3_3
      clear hgr4
      have f0_4 := str6 HS0_4.out
      have hl0_4 := HS0_4.out.lt
      have hf0_4 := fun j => HS0_4.out.frozen j
      have f1_4 := str5 HS1_4.out
      have hl1_4 := HS1_4.out.lt
      have hf1_4 := fun j => HS1_4.out.frozen j
      have f2_4 := str5 HS2_4.out
      have hl2_4 := HS2_4.out.lt
      have hf2_4 := fun j => HS2_4.out.frozen j
      have f3_4 := str2 HS3_4.out
      have hl3_4 := HS3_4.out.lt
      have hf3_4 := fun j => HS3_4.out.frozen j
      refine Reg.wp_region_vals (R := ext) (W := W4) [Reg.eqv (.agg #[.int .i64 ((cva - xn) / 4294967296), .int .i64 ((cva - xn) % 4294967296)]), Reg.eqv (.pointer (some ⟨w.heap.size + 1, 2, none⟩)), Reg.eqv (.int .i64 clo), Reg.eqv (.agg #[.int .i64 (clo / 4294967296), .int .i64 (clo % 4294967296)]), Reg.eqv (.bool false), Reg.eqv (.bool false), Reg.eqv (.pointer (some ⟨w.heap.size + 1, 3, none⟩)), Reg.eqv (.int .i64 chi), Reg.eqv (.agg #[.int .i64 (chi / 4294967296), .int .i64 (chi % 4294967296)]), Reg.eqv (.agg #[.int .i64 ((cva - xn) / 4294967296), .int .i64 ((cva - xn) % 4294967296)]), Reg.eqv (.bool true), Reg.eqv (.bool true)] 51 [[(6, none)], [(3, none)], [(31, some 1)], [(32, some 2)], [(30, some 0), (33, some 3)], [(34, some 4)], [(3, none), (35, some 5)], [(36, some 6), (35, some 5)], [(37, some 7), (35, some 5)], [(6, none), (35, some 5)], [(38, some 8), (39, some 9), (35, some 5)], [(35, some 5), (40, some 10)]] rfl (by kernel_rfl) (by kernel_rfl) (by kernel_rfl) ?_ [some 30, some 31, some 32, some 33, some 34, some 35, some 36, some 37, some 38, some 39, some 40, some 41] (by kernel_rfl) ?_
      · refine ⟨?_, ?_, ?_, ?_, ?_, ?_, ?_, ?_, ?_, ?_, ?_, ?_, trivial⟩
        · intro ax wx hx hs
          obtain ⟨e6, -⟩ := hs
          have g6 := Reg.ev (v := .pointer (some ⟨g, 0, none⟩)) e6
          obtain ⟨hc, -⟩ := bcell hx
          exact Reg.obl_free rfl (Reg.wp_eqv (Option.some_ne_none _) (by go_simp) rfl)
        · intro ax wx hx hs
          obtain ⟨e3, -⟩ := hs
          have g3 := Reg.ev (v := .pointer (some ⟨w.heap.size + 1, 0, none⟩)) e3
          exact Reg.obl_free rfl (Reg.wp_eqv (Option.some_ne_none _) (by go_simp) rfl)
        · intro ax wx hx hs
          obtain ⟨e31, -⟩ := hs
          have g31 := Reg.ev (v := .pointer (some ⟨w.heap.size + 1, 2, none⟩)) e31
          obtain ⟨hc, -⟩ := bcell hx
          exact Reg.obl_free rfl (Reg.wp_eqv (Option.some_ne_none _) (by go_simp) rfl)
        · intro ax wx hx hs
          obtain ⟨e32, -⟩ := hs
          have g32 := Reg.ev (v := .int .i64 clo) e32
          refine Reg.obl_free rfl ?_
          go_simp
          refine (RefWide.of_any clo v5 v6 _).mono ?_
          rintro e wy ⟨rfl, hby⟩
          exact Reg.done (Option.some_ne_none _) rfl hby
        · intro ax wx hx hs
          obtain ⟨e30, e33, -⟩ := hs
          have g30 := Reg.ev (v := .agg #[.int .i64 ((cva - xn) / 4294967296), .int .i64 ((cva - xn) % 4294967296)]) e30
          have g33 := Reg.ev (v := .agg #[.int .i64 (clo / 4294967296), .int .i64 (clo % 4294967296)]) e33
          refine Reg.obl_free rfl ?_
          go_simp
          refine (RefWide.less_any (cva - xn) clo _).mono ?_
          rintro e wy ⟨rfl, hby⟩
          rw [HLO.out]
          exact Reg.done (Option.some_ne_none _) rfl hby
        · intro ax wx hx hs
          obtain ⟨e34, -⟩ := hs
          have g34 := Reg.ev (v := .bool false) e34
          exact Reg.obl_free rfl (Reg.wp_eqv (Option.some_ne_none _) (by go_simp) rfl)
        · intro ax wx hx hs
          obtain ⟨e3, e35, -⟩ := hs
          have g3 := Reg.ev (v := .pointer (some ⟨w.heap.size + 1, 0, none⟩)) e3
          have g35 := Reg.ev (v := .bool false) e35
          exact Reg.obl_want rfl rfl e35 (Reg.wp_eqv (Option.some_ne_none _) (by go_simp) rfl)
        · intro ax wx hx hs
          obtain ⟨e36, e35, -⟩ := hs
          have g36 := Reg.ev (v := .pointer (some ⟨w.heap.size + 1, 3, none⟩)) e36
          have g35 := Reg.ev (v := .bool false) e35
          obtain ⟨hc, -⟩ := bcell hx
          exact Reg.obl_want rfl rfl e35 (Reg.wp_eqv (Option.some_ne_none _) (by go_simp) rfl)
        · intro ax wx hx hs
          obtain ⟨e37, e35, -⟩ := hs
          have g37 := Reg.ev (v := .int .i64 chi) e37
          have g35 := Reg.ev (v := .bool false) e35
          refine Reg.obl_want rfl rfl e35 ?_
          go_simp
          refine (RefWide.of_any chi v7 v8 _).mono ?_
          rintro e wy ⟨rfl, hby⟩
          exact Reg.done (Option.some_ne_none _) rfl hby
        · intro ax wx hx hs
          obtain ⟨e6, e35, -⟩ := hs
          have g6 := Reg.ev (v := .pointer (some ⟨g, 0, none⟩)) e6
          have g35 := Reg.ev (v := .bool false) e35
          obtain ⟨hc, -⟩ := bcell hx
          exact Reg.obl_want rfl rfl e35 (Reg.wp_eqv (Option.some_ne_none _) (by go_simp) rfl)
        · intro ax wx hx hs
          obtain ⟨e38, e39, e35, -⟩ := hs
          have g38 := Reg.ev (v := .agg #[.int .i64 (chi / 4294967296), .int .i64 (chi % 4294967296)]) e38
          have g39 := Reg.ev (v := .agg #[.int .i64 ((cva - xn) / 4294967296), .int .i64 ((cva - xn) % 4294967296)]) e39
          have g35 := Reg.ev (v := .bool false) e35
          refine Reg.obl_want rfl rfl e35 ?_
          go_simp
          refine (RefWide.less_any chi (cva - xn) _).mono ?_
          rintro e wy ⟨rfl, hby⟩
          rw [HHI.out]
          exact Reg.done (Option.some_ne_none _) rfl hby
        · intro ax wx hx hs
          obtain ⟨e35, e40, -⟩ := hs
          have g35 := Reg.ev (v := .bool false) e35
          have g40 := Reg.ev (v := .bool true) e40
          exact Reg.obl_free rfl (Reg.wp_eqv (Option.some_ne_none _) (by go_simp) rfl)
      · intro W5 hwf
        simp only [Reg.Fin]
        rintro _ rfl _ rfl _ rfl _ rfl _ rfl _ rfl _ rfl _ rfl _ rfl _ rfl _ rfl _ rfl
        go_simp
        have HS0_5 := Lib.hid (HS0_4.out.next hwf)
        have HS1_5 := Lib.hid (HS1_4.out.next hwf)
        have HS2_5 := Lib.hid (HS2_4.out.next hwf)
        have HS3_5 := Lib.hid (HS3_4.out.next hwf)
        have HB_5 := Lib.hid (bstep HB_4.out hwf)
        have hw_5 := HB_5.out.size
        have hws_5 := (hwf).size
        clear f0_4 HS0_4 hf0_4 f1_4 HS1_4 hf1_4 f2_4 HS2_4 hf2_4 f3_4 HS3_4 hf3_4
        clear hwf
        have f0_5 := str6 HS0_5.out
        have hl0_5 := HS0_5.out.lt
        have hf0_5 := fun j => HS0_5.out.frozen j
        have f1_5 := str5 HS1_5.out
        have hl1_5 := HS1_5.out.lt
        have hf1_5 := fun j => HS1_5.out.frozen j
        have f2_5 := str5 HS2_5.out
        have hl2_5 := HS2_5.out.lt
        have hf2_5 := fun j => HS2_5.out.frozen j
        have f3_5 := str2 HS3_5.out
        have hl3_5 := HS3_5.out.lt
        have hf3_5 := fun j => HS3_5.out.frozen j
        go_wp2_with fail
        generalize hW6 : (((((W5).setCell ⟨w.heap.size + 1 + 1, 0, none⟩ (.int .i64 2)).setCell ⟨w.heap.size + 1 + 1, 1, none⟩ (.slice Ac nc cc)).setCell ⟨w.heap.size + 1 + 1, 2, none⟩ (.int .i64 clo)).setCell ⟨w.heap.size + 1 + 1, 3, none⟩ (.int .i64 chi)).setCell ⟨w.heap.size + 1 + 1, 4, none⟩ (.int .i64 cva) = W6
        have HS2_6 : Hid (Str W6 (w.heap.size + 1 + 1) #[.int .i64 2, .slice Ac nc cc, .int .i64 clo, .int .i64 chi, .int .i64 cva]) := Lib.hid (by rw [← hW6]; have := (((((HS2_5.out).set 0 (.int .i64 2)).set 1 (.slice Ac nc cc)).set 2 (.int .i64 clo)).set 3 (.int .i64 chi)).set 4 (.int .i64 cva); simpa using this)
        have hgr6 : W5.grownBy W6 (some (w.heap.size + 1 + 1)) := by rw [← hW6]; exact grown_set (grown_set (grown_set (grown_set (grown_set (grown_refl W5 (w.heap.size + 1 + 1)) 0 (_)) 1 (_)) 2 (_)) 3 (_)) 4 (_)
        have HS0_6 := Lib.hid (HS0_5.out.grown hgr6 (by omega))
        have HS1_6 := Lib.hid (HS1_5.out.grown hgr6 (by omega))
        have HS3_6 := Lib.hid (HS3_5.out.grown hgr6 (by omega))
        have HB_6 := Lib.hid (below_grown HB_5.out hgr6 (by omega))
        have hw_6 := HB_6.out.size
        have hws_6 := hgr6.size
        clear hW6
        clear f0_5 HS0_5 hf0_5 f1_5 HS1_5 hf1_5 f2_5 HS2_5 hf2_5 f3_5 HS3_5 hf3_5
        clear hgr6
        have f0_6 := str6 HS0_6.out
        have hl0_6 := HS0_6.out.lt
        have hf0_6 := fun j => HS0_6.out.frozen j
        have f1_6 := str5 HS1_6.out
        have hl1_6 := HS1_6.out.lt
        have hf1_6 := fun j => HS1_6.out.frozen j
        have f2_6 := str5 HS2_6.out
        have hl2_6 := HS2_6.out.lt
        have hf2_6 := fun j => HS2_6.out.frozen j
        have f3_6 := str2 HS3_6.out
        have hl3_6 := HS3_6.out.lt
        have hf3_6 := fun j => HS3_6.out.frozen j
        exact bodyPost_ret (v := .tuple #[.agg #[.int .i64 2, .slice Ac nc cc, .int .i64 clo, .int .i64 chi, .int .i64 cva], .int .i64 8]) (by simp [results, Try.results67, go_sem, *]) rfl ⟨rfl, HB_6.out⟩
set_option maxRecDepth 100000 in
set_option maxHeartbeats 1000000 in
theorem rmove5_ok (xk : ByteArray) (Ax : Option Addr) (nx cx : Nat) (xlo xhi xn : Int) (Ac : Option Addr) (nc cc : Nat) (clo chi cva : Int) (w : World) (hi1 : In64 clo) (hi2 : In64 chi) (hi3 : In64 cva) (hi4 : In64 xn) (hl : ¬ (cva - xn) < clo) (ho : ¬ chi < (cva - xn)) : Calls Try.prog 67 #[.agg #[.int .i64 5, .string xk, .slice Ax nx cx, .int .i64 xlo, .int .i64 xhi, .int .i64 xn], .agg #[.int .i64 2, .slice Ac nc cc, .int .i64 clo, .int .i64 chi, .int .i64 cva]] w (GivesMove w 2 Ac nc cc clo chi (cva - xn) 0) := by
  obtain ⟨v1, v2⟩ := hi3
  obtain ⟨v3, v4⟩ := hi4
  obtain ⟨v5, v6⟩ := hi1
  obtain ⟨v7, v8⟩ := hi2
  have HLO : Hid (decide ((cva - xn) < clo) = false) := Lib.hid (by simpa using hl)
  have HHI : Hid (decide (chi < (cva - xn)) = false) := Lib.hid (by simpa using ho)
  have HNUM : Hid (WideP.num (cva - xn) = (cva - xn)) := Lib.hid (by rw [WideP.num, if_pos (by simp [WideP.fits]; omega)])
  clear ho hl
  go_enter Try.func67, Try.ntmps67
  go_wp2_with fail
  generalize hW0 : (((w).alloc (.cells #[.int .i64 5, .string xk, .slice Ax nx cx, .int .i64 xlo, .int .i64 xhi, .int .i64 xn] 24)).alloc (.cells #[.int .i64 2, .slice Ac nc cc, .int .i64 clo, .int .i64 chi, .int .i64 cva] 37)).alloc (.cells #[.int .i64 0, .slice none 0 0, .int .i64 0, .int .i64 0, .int .i64 0] 37) = W0
  obtain ⟨HS0_0, HS1_0, HS2_0, HB_0, hw_0, hz0⟩ := new3 hW0
  clear hW0 hz0
  have f0_0 := str6 HS0_0.out
  have hl0_0 := HS0_0.out.lt
  have hf0_0 := fun j => HS0_0.out.frozen j
  have f1_0 := str5 HS1_0.out
  have hl1_0 := HS1_0.out.lt
  have hf1_0 := fun j => HS1_0.out.frozen j
  have f2_0 := str5 HS2_0.out
  have hl2_0 := HS2_0.out.lt
  have hf2_0 := fun j => HS2_0.out.frozen j
  refine Reg.wp_region_tail (R := ext) (W := W0) [Reg.eqv (.pointer (some ⟨w.heap.size + 1, 4, none⟩)), Reg.eqv (.int .i64 cva), Reg.eqv (.agg #[.int .i64 (cva / 4294967296), .int .i64 (cva % 4294967296)]), Reg.eqv (.pointer (some ⟨w.heap.size, 5, none⟩)), Reg.eqv (.int .i64 xn), Reg.eqv (.agg #[.int .i64 (xn / 4294967296), .int .i64 (xn % 4294967296)]), Reg.eqv (.agg #[.int .i64 ((cva + xn) / 4294967296), .int .i64 ((cva + xn) % 4294967296)]), Reg.fresh W0.heap.size #[.int .i64 0, .int .i64 0]] 51 8 _ [[(3, none)], [(13, some 0)], [(14, some 1)], [(2, none)], [(16, some 3)], [(17, some 4)], [(15, some 2), (18, some 5)], []] rfl (by kernel_rfl) (by kernel_rfl) (by rfl) (by rfl) rfl (by kernel_rfl) ?_ [some 13, some 14, some 15, some 16, some 17, some 18, some 19, some 6] (by kernel_rfl) ?_
  · refine ⟨?_, ?_, ?_, ?_, ?_, ?_, ?_, ?_, trivial⟩
    · intro ax wx hx hs
      obtain ⟨e3, -⟩ := hs
      have g3 := Reg.ev (v := .pointer (some ⟨w.heap.size + 1, 0, none⟩)) e3
      exact Reg.obl_free rfl (Reg.wp_eqv (Option.some_ne_none _) (by go_simp) rfl)
    · intro ax wx hx hs
      obtain ⟨e13, -⟩ := hs
      have g13 := Reg.ev (v := .pointer (some ⟨w.heap.size + 1, 4, none⟩)) e13
      obtain ⟨hc, -⟩ := bcell hx
      exact Reg.obl_free rfl (Reg.wp_eqv (Option.some_ne_none _) (by go_simp) rfl)
    · intro ax wx hx hs
      obtain ⟨e14, -⟩ := hs
      have g14 := Reg.ev (v := .int .i64 cva) e14
      refine Reg.obl_free rfl ?_
      go_simp
      refine (RefWide.of_any cva v1 v2 _).mono ?_
      rintro e wy ⟨rfl, hby⟩
      exact Reg.done (Option.some_ne_none _) rfl hby
    · intro ax wx hx hs
      obtain ⟨e2, -⟩ := hs
      have g2 := Reg.ev (v := .pointer (some ⟨w.heap.size, 0, none⟩)) e2
      exact Reg.obl_free rfl (Reg.wp_eqv (Option.some_ne_none _) (by go_simp) rfl)
    · intro ax wx hx hs
      obtain ⟨e16, -⟩ := hs
      have g16 := Reg.ev (v := .pointer (some ⟨w.heap.size, 5, none⟩)) e16
      obtain ⟨hc, -⟩ := bcell hx
      exact Reg.obl_free rfl (Reg.wp_eqv (Option.some_ne_none _) (by go_simp) rfl)
    · intro ax wx hx hs
      obtain ⟨e17, -⟩ := hs
      have g17 := Reg.ev (v := .int .i64 xn) e17
      refine Reg.obl_free rfl ?_
      go_simp
      refine (RefWide.of_any xn v3 v4 _).mono ?_
      rintro e wy ⟨rfl, hby⟩
      exact Reg.done (Option.some_ne_none _) rfl hby
    · intro ax wx hx hs
      obtain ⟨e15, e18, -⟩ := hs
      have g15 := Reg.ev (v := .agg #[.int .i64 (cva / 4294967296), .int .i64 (cva % 4294967296)]) e15
      have g18 := Reg.ev (v := .agg #[.int .i64 (xn / 4294967296), .int .i64 (xn % 4294967296)]) e18
      refine Reg.obl_free rfl ?_
      go_simp
      refine (RefWide.join_any cva xn (by omega) (by omega) (by omega) (by omega) _).mono ?_
      rintro e wy ⟨rfl, hby⟩
      exact Reg.done (Option.some_ne_none _) rfl hby
    · intro ax wx hx hs
      refine Reg.obl_free rfl ?_
      have hx' : Below W0.heap.size W0 wx := hx
      go_simp
      exact Reg.done (Option.some_ne_none _) ⟨wx.heap.size, rfl, hx'.size, Str.new wx _ _⟩ (balloc (bsame wx) _)
  · intro W1 hwf
    simp only [Reg.Fin]
    rintro _ rfl _ rfl _ rfl _ rfl _ rfl _ rfl _ rfl v6 h6
    obtain ⟨g, rfl, hg, hSg⟩ := h6
    have hwf' : Below W0.heap.size W0 W1 := hwf
    clear hwf
    have HS0_1 := Lib.hid (HS0_0.out.next hwf')
    have HS1_1 := Lib.hid (HS1_0.out.next hwf')
    have HS2_1 := Lib.hid (HS2_0.out.next hwf')
    have HB_1 := Lib.hid (bstep HB_0.out hwf')
    have hw_1 := HB_1.out.size
    have hws_1 := (hwf').size
    clear f0_0 HS0_0 hf0_0 f1_0 HS1_0 hf1_0 f2_0 HS2_0 hf2_0
    clear hwf'
    have f0_1 := str6 HS0_1.out
    have hl0_1 := HS0_1.out.lt
    have hf0_1 := fun j => HS0_1.out.frozen j
    have f1_1 := str5 HS1_1.out
    have hl1_1 := HS1_1.out.lt
    have hf1_1 := fun j => HS1_1.out.frozen j
    have f2_1 := str5 HS2_1.out
    have hl2_1 := HS2_1.out.lt
    have hf2_1 := fun j => HS2_1.out.frozen j
    have HS3_1 := Lib.hid hSg
    clear hSg
    have f3_1 := str2 HS3_1.out
    have hl3_1 := HS3_1.out.lt
    have hf3_1 := fun j => HS3_1.out.frozen j
    refine Reg.Goal.mk ?_
    go_simp
    go_wp2_with fail
    generalize hW2 : ((W1).setCell ⟨g, 0, none⟩ (.int .i64 ((cva + xn) / 4294967296))).setCell ⟨g, 1, none⟩ (.int .i64 ((cva + xn) % 4294967296)) = W2
    have HS3_2 : Hid (Str W2 (g) #[.int .i64 ((cva + xn) / 4294967296), .int .i64 ((cva + xn) % 4294967296)]) := Lib.hid (by rw [← hW2]; have := ((HS3_1.out).set 0 (.int .i64 ((cva + xn) / 4294967296))).set 1 (.int .i64 ((cva + xn) % 4294967296)); simpa using this)
    have hgr2 : W1.grownBy W2 (some (g)) := by rw [← hW2]; exact grown_set (grown_set (grown_refl W1 (g)) 0 (_)) 1 (_)
    have HS0_2 := Lib.hid (HS0_1.out.grown hgr2 (by omega))
    have HS1_2 := Lib.hid (HS1_1.out.grown hgr2 (by omega))
    have HS2_2 := Lib.hid (HS2_1.out.grown hgr2 (by omega))
    have HB_2 := Lib.hid (below_grown HB_1.out hgr2 (by omega))
    have hw_2 := HB_2.out.size
    have hws_2 := hgr2.size
    clear hW2
    clear f0_1 HS0_1 hf0_1 f1_1 HS1_1 hf1_1 f2_1 HS2_1 hf2_1 f3_1 HS3_1 hf3_1
    clear hgr2
    have f0_2 := str6 HS0_2.out
    have hl0_2 := HS0_2.out.lt
    have hf0_2 := fun j => HS0_2.out.frozen j
    have f1_2 := str5 HS1_2.out
    have hl1_2 := HS1_2.out.lt
    have hf1_2 := fun j => HS1_2.out.frozen j
    have f2_2 := str5 HS2_2.out
    have hl2_2 := HS2_2.out.lt
    have hf2_2 := fun j => HS2_2.out.frozen j
    have f3_2 := str2 HS3_2.out
    have hl3_2 := HS3_2.out.lt
    have hf3_2 := fun j => HS3_2.out.frozen j
    refine Reg.wp_region_tail (R := ext) (W := W2) [Reg.eqv (.pointer (some ⟨w.heap.size + 1, 4, none⟩)), Reg.eqv (.int .i64 cva), Reg.eqv (.agg #[.int .i64 (cva / 4294967296), .int .i64 (cva % 4294967296)]), Reg.eqv (.pointer (some ⟨w.heap.size, 5, none⟩)), Reg.eqv (.int .i64 xn), Reg.eqv (.agg #[.int .i64 (xn / 4294967296), .int .i64 (xn % 4294967296)]), Reg.eqv (.agg #[.int .i64 ((cva - xn) / 4294967296), .int .i64 ((cva - xn) % 4294967296)])] 51 7 _ [[(3, none)], [(23, some 0)], [(24, some 1)], [(2, none)], [(26, some 3)], [(27, some 4)], [(25, some 2), (28, some 5)]] rfl (by kernel_rfl) (by kernel_rfl) (by rfl) (by rfl) rfl (by kernel_rfl) ?_ [some 23, some 24, some 25, some 26, some 27, some 28, some 29] (by kernel_rfl) ?_
    · refine ⟨?_, ?_, ?_, ?_, ?_, ?_, ?_, trivial⟩
      · intro ax wx hx hs
        obtain ⟨e3, -⟩ := hs
        have g3 := Reg.ev (v := .pointer (some ⟨w.heap.size + 1, 0, none⟩)) e3
        exact Reg.obl_free rfl (Reg.wp_eqv (Option.some_ne_none _) (by go_simp) rfl)
      · intro ax wx hx hs
        obtain ⟨e23, -⟩ := hs
        have g23 := Reg.ev (v := .pointer (some ⟨w.heap.size + 1, 4, none⟩)) e23
        obtain ⟨hc, -⟩ := bcell hx
        exact Reg.obl_free rfl (Reg.wp_eqv (Option.some_ne_none _) (by go_simp) rfl)
      · intro ax wx hx hs
        obtain ⟨e24, -⟩ := hs
        have g24 := Reg.ev (v := .int .i64 cva) e24
        refine Reg.obl_free rfl ?_
        go_simp
        refine (RefWide.of_any cva v1 v2 _).mono ?_
        rintro e wy ⟨rfl, hby⟩
        exact Reg.done (Option.some_ne_none _) rfl hby
      · intro ax wx hx hs
        obtain ⟨e2, -⟩ := hs
        have g2 := Reg.ev (v := .pointer (some ⟨w.heap.size, 0, none⟩)) e2
        exact Reg.obl_free rfl (Reg.wp_eqv (Option.some_ne_none _) (by go_simp) rfl)
      · intro ax wx hx hs
        obtain ⟨e26, -⟩ := hs
        have g26 := Reg.ev (v := .pointer (some ⟨w.heap.size, 5, none⟩)) e26
        obtain ⟨hc, -⟩ := bcell hx
        exact Reg.obl_free rfl (Reg.wp_eqv (Option.some_ne_none _) (by go_simp) rfl)
      · intro ax wx hx hs
        obtain ⟨e27, -⟩ := hs
        have g27 := Reg.ev (v := .int .i64 xn) e27
        refine Reg.obl_free rfl ?_
        go_simp
        refine (RefWide.of_any xn v3 v4 _).mono ?_
        rintro e wy ⟨rfl, hby⟩
        exact Reg.done (Option.some_ne_none _) rfl hby
      · intro ax wx hx hs
        obtain ⟨e25, e28, -⟩ := hs
        have g25 := Reg.ev (v := .agg #[.int .i64 (cva / 4294967296), .int .i64 (cva % 4294967296)]) e25
        have g28 := Reg.ev (v := .agg #[.int .i64 (xn / 4294967296), .int .i64 (xn % 4294967296)]) e28
        refine Reg.obl_free rfl ?_
        go_simp
        refine (RefWide.take_any cva xn (by omega) (by omega) (by omega) (by omega) _).mono ?_
        rintro e wy ⟨rfl, hby⟩
        exact Reg.done (Option.some_ne_none _) rfl hby
    · intro W3 hwf
      simp only [Reg.Fin]
      rintro _ rfl _ rfl _ rfl _ rfl _ rfl _ rfl _ rfl
      have hwf' : Below W2.heap.size W2 W3 := hwf
      clear hwf
      have HS0_3 := Lib.hid (HS0_2.out.next hwf')
      have HS1_3 := Lib.hid (HS1_2.out.next hwf')
      have HS2_3 := Lib.hid (HS2_2.out.next hwf')
      have HS3_3 := Lib.hid (HS3_2.out.next hwf')
      have HB_3 := Lib.hid (bstep HB_2.out hwf')
      have hw_3 := HB_3.out.size
      have hws_3 := (hwf').size
      clear f0_2 HS0_2 hf0_2 f1_2 HS1_2 hf1_2 f2_2 HS2_2 hf2_2 f3_2 HS3_2 hf3_2
      clear hwf'
      have f0_3 := str6 HS0_3.out
      have hl0_3 := HS0_3.out.lt
      have hf0_3 := fun j => HS0_3.out.frozen j
      have f1_3 := str5 HS1_3.out
      have hl1_3 := HS1_3.out.lt
      have hf1_3 := fun j => HS1_3.out.frozen j
      have f2_3 := str5 HS2_3.out
      have hl2_3 := HS2_3.out.lt
      have hf2_3 := fun j => HS2_3.out.frozen j
      have f3_3 := str2 HS3_3.out
      have hl3_3 := HS3_3.out.lt
      have hf3_3 := fun j => HS3_3.out.frozen j
      refine Reg.Goal.mk ?_
      go_simp
      go_wp2_with fail
      generalize hW4 : ((W3).setCell ⟨g, 0, none⟩ (.int .i64 ((cva - xn) / 4294967296))).setCell ⟨g, 1, none⟩ (.int .i64 ((cva - xn) % 4294967296)) = W4
      have HS3_4 : Hid (Str W4 (g) #[.int .i64 ((cva - xn) / 4294967296), .int .i64 ((cva - xn) % 4294967296)]) := Lib.hid (by rw [← hW4]; have := ((HS3_3.out).set 0 (.int .i64 ((cva - xn) / 4294967296))).set 1 (.int .i64 ((cva - xn) % 4294967296)); simpa using this)
      have hgr4 : W3.grownBy W4 (some (g)) := by rw [← hW4]; exact grown_set (grown_set (grown_refl W3 (g)) 0 (_)) 1 (_)
      have HS0_4 := Lib.hid (HS0_3.out.grown hgr4 (by omega))
      have HS1_4 := Lib.hid (HS1_3.out.grown hgr4 (by omega))
      have HS2_4 := Lib.hid (HS2_3.out.grown hgr4 (by omega))
      have HB_4 := Lib.hid (below_grown HB_3.out hgr4 (by omega))
      have hw_4 := HB_4.out.size
      have hws_4 := hgr4.size
      clear hW4
      clear f0_3 HS0_3 hf0_3 f1_3 HS1_3 hf1_3 f2_3 HS2_3 hf2_3 f3_3 HS3_3 hf3_3
      clear hgr4
      have f0_4 := str6 HS0_4.out
      have hl0_4 := HS0_4.out.lt
      have hf0_4 := fun j => HS0_4.out.frozen j
      have f1_4 := str5 HS1_4.out
      have hl1_4 := HS1_4.out.lt
      have hf1_4 := fun j => HS1_4.out.frozen j
      have f2_4 := str5 HS2_4.out
      have hl2_4 := HS2_4.out.lt
      have hf2_4 := fun j => HS2_4.out.frozen j
      have f3_4 := str2 HS3_4.out
      have hl3_4 := HS3_4.out.lt
      have hf3_4 := fun j => HS3_4.out.frozen j
      refine Reg.wp_region_vals (R := ext) (W := W4) [Reg.eqv (.agg #[.int .i64 ((cva - xn) / 4294967296), .int .i64 ((cva - xn) % 4294967296)]), Reg.eqv (.pointer (some ⟨w.heap.size + 1, 2, none⟩)), Reg.eqv (.int .i64 clo), Reg.eqv (.agg #[.int .i64 (clo / 4294967296), .int .i64 (clo % 4294967296)]), Reg.eqv (.bool false), Reg.eqv (.bool false), Reg.eqv (.pointer (some ⟨w.heap.size + 1, 3, none⟩)), Reg.eqv (.int .i64 chi), Reg.eqv (.agg #[.int .i64 (chi / 4294967296), .int .i64 (chi % 4294967296)]), Reg.eqv (.agg #[.int .i64 ((cva - xn) / 4294967296), .int .i64 ((cva - xn) % 4294967296)]), Reg.eqv (.bool false), Reg.eqv (.bool false)] 51 [[(6, none)], [(3, none)], [(31, some 1)], [(32, some 2)], [(30, some 0), (33, some 3)], [(34, some 4)], [(3, none), (35, some 5)], [(36, some 6), (35, some 5)], [(37, some 7), (35, some 5)], [(6, none), (35, some 5)], [(38, some 8), (39, some 9), (35, some 5)], [(35, some 5), (40, some 10)]] rfl (by kernel_rfl) (by kernel_rfl) (by kernel_rfl) ?_ [some 30, some 31, some 32, some 33, some 34, some 35, some 36, some 37, some 38, some 39, some 40, some 41] (by kernel_rfl) ?_
      · refine ⟨?_, ?_, ?_, ?_, ?_, ?_, ?_, ?_, ?_, ?_, ?_, ?_, trivial⟩
        · intro ax wx hx hs
          obtain ⟨e6, -⟩ := hs
          have g6 := Reg.ev (v := .pointer (some ⟨g, 0, none⟩)) e6
          obtain ⟨hc, -⟩ := bcell hx
          exact Reg.obl_free rfl (Reg.wp_eqv (Option.some_ne_none _) (by go_simp) rfl)
        · intro ax wx hx hs
          obtain ⟨e3, -⟩ := hs
          have g3 := Reg.ev (v := .pointer (some ⟨w.heap.size + 1, 0, none⟩)) e3
          exact Reg.obl_free rfl (Reg.wp_eqv (Option.some_ne_none _) (by go_simp) rfl)
        · intro ax wx hx hs
          obtain ⟨e31, -⟩ := hs
          have g31 := Reg.ev (v := .pointer (some ⟨w.heap.size + 1, 2, none⟩)) e31
          obtain ⟨hc, -⟩ := bcell hx
          exact Reg.obl_free rfl (Reg.wp_eqv (Option.some_ne_none _) (by go_simp) rfl)
        · intro ax wx hx hs
          obtain ⟨e32, -⟩ := hs
          have g32 := Reg.ev (v := .int .i64 clo) e32
          refine Reg.obl_free rfl ?_
          go_simp
          refine (RefWide.of_any clo v5 v6 _).mono ?_
          rintro e wy ⟨rfl, hby⟩
          exact Reg.done (Option.some_ne_none _) rfl hby
        · intro ax wx hx hs
          obtain ⟨e30, e33, -⟩ := hs
          have g30 := Reg.ev (v := .agg #[.int .i64 ((cva - xn) / 4294967296), .int .i64 ((cva - xn) % 4294967296)]) e30
          have g33 := Reg.ev (v := .agg #[.int .i64 (clo / 4294967296), .int .i64 (clo % 4294967296)]) e33
          refine Reg.obl_free rfl ?_
          go_simp
          refine (RefWide.less_any (cva - xn) clo _).mono ?_
          rintro e wy ⟨rfl, hby⟩
          rw [HLO.out]
          exact Reg.done (Option.some_ne_none _) rfl hby
        · intro ax wx hx hs
          obtain ⟨e34, -⟩ := hs
          have g34 := Reg.ev (v := .bool false) e34
          exact Reg.obl_free rfl (Reg.wp_eqv (Option.some_ne_none _) (by go_simp) rfl)
        · intro ax wx hx hs
          obtain ⟨e3, e35, -⟩ := hs
          have g3 := Reg.ev (v := .pointer (some ⟨w.heap.size + 1, 0, none⟩)) e3
          have g35 := Reg.ev (v := .bool false) e35
          exact Reg.obl_want rfl rfl e35 (Reg.wp_eqv (Option.some_ne_none _) (by go_simp) rfl)
        · intro ax wx hx hs
          obtain ⟨e36, e35, -⟩ := hs
          have g36 := Reg.ev (v := .pointer (some ⟨w.heap.size + 1, 3, none⟩)) e36
          have g35 := Reg.ev (v := .bool false) e35
          obtain ⟨hc, -⟩ := bcell hx
          exact Reg.obl_want rfl rfl e35 (Reg.wp_eqv (Option.some_ne_none _) (by go_simp) rfl)
        · intro ax wx hx hs
          obtain ⟨e37, e35, -⟩ := hs
          have g37 := Reg.ev (v := .int .i64 chi) e37
          have g35 := Reg.ev (v := .bool false) e35
          refine Reg.obl_want rfl rfl e35 ?_
          go_simp
          refine (RefWide.of_any chi v7 v8 _).mono ?_
          rintro e wy ⟨rfl, hby⟩
          exact Reg.done (Option.some_ne_none _) rfl hby
        · intro ax wx hx hs
          obtain ⟨e6, e35, -⟩ := hs
          have g6 := Reg.ev (v := .pointer (some ⟨g, 0, none⟩)) e6
          have g35 := Reg.ev (v := .bool false) e35
          obtain ⟨hc, -⟩ := bcell hx
          exact Reg.obl_want rfl rfl e35 (Reg.wp_eqv (Option.some_ne_none _) (by go_simp) rfl)
        · intro ax wx hx hs
          obtain ⟨e38, e39, e35, -⟩ := hs
          have g38 := Reg.ev (v := .agg #[.int .i64 (chi / 4294967296), .int .i64 (chi % 4294967296)]) e38
          have g39 := Reg.ev (v := .agg #[.int .i64 ((cva - xn) / 4294967296), .int .i64 ((cva - xn) % 4294967296)]) e39
          have g35 := Reg.ev (v := .bool false) e35
          refine Reg.obl_want rfl rfl e35 ?_
          go_simp
          refine (RefWide.less_any chi (cva - xn) _).mono ?_
          rintro e wy ⟨rfl, hby⟩
          rw [HHI.out]
          exact Reg.done (Option.some_ne_none _) rfl hby
        · intro ax wx hx hs
          obtain ⟨e35, e40, -⟩ := hs
          have g35 := Reg.ev (v := .bool false) e35
          have g40 := Reg.ev (v := .bool false) e40
          exact Reg.obl_free rfl (Reg.wp_eqv (Option.some_ne_none _) (by go_simp) rfl)
      · intro W5 hwf
        simp only [Reg.Fin]
        rintro _ rfl _ rfl _ rfl _ rfl _ rfl _ rfl _ rfl _ rfl _ rfl _ rfl _ rfl _ rfl
        go_simp
        have HS0_5 := Lib.hid (HS0_4.out.next hwf)
        have HS1_5 := Lib.hid (HS1_4.out.next hwf)
        have HS2_5 := Lib.hid (HS2_4.out.next hwf)
        have HS3_5 := Lib.hid (HS3_4.out.next hwf)
        have HB_5 := Lib.hid (bstep HB_4.out hwf)
        have hw_5 := HB_5.out.size
        have hws_5 := (hwf).size
        clear f0_4 HS0_4 hf0_4 f1_4 HS1_4 hf1_4 f2_4 HS2_4 hf2_4 f3_4 HS3_4 hf3_4
        clear hwf
        have f0_5 := str6 HS0_5.out
        have hl0_5 := HS0_5.out.lt
        have hf0_5 := fun j => HS0_5.out.frozen j
        have f1_5 := str5 HS1_5.out
        have hl1_5 := HS1_5.out.lt
        have hf1_5 := fun j => HS1_5.out.frozen j
        have f2_5 := str5 HS2_5.out
        have hl2_5 := HS2_5.out.lt
        have hf2_5 := fun j => HS2_5.out.frozen j
        have f3_5 := str2 HS3_5.out
        have hl3_5 := HS3_5.out.lt
        have hf3_5 := fun j => HS3_5.out.frozen j
        go_wp2_with fail
        refine (RefWide.int_any (cva - xn) _).mono ?_
        rintro e W6 ⟨rfl, hb6⟩
        rw [HNUM.out]
        have HS0_6 := Lib.hid (HS0_5.out.next hb6)
        have HS1_6 := Lib.hid (HS1_5.out.next hb6)
        have HS2_6 := Lib.hid (HS2_5.out.next hb6)
        have HS3_6 := Lib.hid (HS3_5.out.next hb6)
        have HB_6 := Lib.hid (bstep HB_5.out hb6)
        have hw_6 := HB_6.out.size
        have hws_6 := (hb6).size
        clear f0_5 HS0_5 hf0_5 f1_5 HS1_5 hf1_5 f2_5 HS2_5 hf2_5 f3_5 HS3_5 hf3_5
        clear hb6
        have f0_6 := str6 HS0_6.out
        have hl0_6 := HS0_6.out.lt
        have hf0_6 := fun j => HS0_6.out.frozen j
        have f1_6 := str5 HS1_6.out
        have hl1_6 := HS1_6.out.lt
        have hf1_6 := fun j => HS1_6.out.frozen j
        have f2_6 := str5 HS2_6.out
        have hl2_6 := HS2_6.out.lt
        have hf2_6 := fun j => HS2_6.out.frozen j
        have f3_6 := str2 HS3_6.out
        have hl3_6 := HS3_6.out.lt
        have hf3_6 := fun j => HS3_6.out.frozen j
        go_wp2_with fail
        generalize hW7 : (W6).setCell ⟨w.heap.size + 1, 4, none⟩ (.int .i64 (cva - xn)) = W7
        have HS1_7 : Hid (Str W7 (w.heap.size + 1) #[.int .i64 2, .slice Ac nc cc, .int .i64 clo, .int .i64 chi, .int .i64 (cva - xn)]) := Lib.hid (by rw [← hW7]; have := (HS1_6.out).set 4 (.int .i64 (cva - xn)); simpa using this)
        have hgr7 : W6.grownBy W7 (some (w.heap.size + 1)) := by rw [← hW7]; exact grown_set (grown_refl W6 (w.heap.size + 1)) 4 (_)
        have HS0_7 := Lib.hid (HS0_6.out.grown hgr7 (by omega))
        have HS2_7 := Lib.hid (HS2_6.out.grown hgr7 (by omega))
        have HS3_7 := Lib.hid (HS3_6.out.grown hgr7 (by omega))
        have HB_7 := Lib.hid (below_grown HB_6.out hgr7 (by omega))
        have hw_7 := HB_7.out.size
        have hws_7 := hgr7.size
        clear hW7
        clear f0_6 HS0_6 hf0_6 f1_6 HS1_6 hf1_6 f2_6 HS2_6 hf2_6 f3_6 HS3_6 hf3_6
        clear hgr7
        have f0_7 := str6 HS0_7.out
        have hl0_7 := HS0_7.out.lt
        have hf0_7 := fun j => HS0_7.out.frozen j
        have f1_7 := str5 HS1_7.out
        have hl1_7 := HS1_7.out.lt
        have hf1_7 := fun j => HS1_7.out.frozen j
        have f2_7 := str5 HS2_7.out
        have hl2_7 := HS2_7.out.lt
        have hf2_7 := fun j => HS2_7.out.frozen j
        have f3_7 := str2 HS3_7.out
        have hl3_7 := HS3_7.out.lt
        have hf3_7 := fun j => HS3_7.out.frozen j
        generalize hW8 : (((((W7).setCell ⟨w.heap.size + 1 + 1, 0, none⟩ (.int .i64 2)).setCell ⟨w.heap.size + 1 + 1, 1, none⟩ (.slice Ac nc cc)).setCell ⟨w.heap.size + 1 + 1, 2, none⟩ (.int .i64 clo)).setCell ⟨w.heap.size + 1 + 1, 3, none⟩ (.int .i64 chi)).setCell ⟨w.heap.size + 1 + 1, 4, none⟩ (.int .i64 (cva - xn)) = W8
        have HS2_8 : Hid (Str W8 (w.heap.size + 1 + 1) #[.int .i64 2, .slice Ac nc cc, .int .i64 clo, .int .i64 chi, .int .i64 (cva - xn)]) := Lib.hid (by rw [← hW8]; have := (((((HS2_7.out).set 0 (.int .i64 2)).set 1 (.slice Ac nc cc)).set 2 (.int .i64 clo)).set 3 (.int .i64 chi)).set 4 (.int .i64 (cva - xn)); simpa using this)
        have hgr8 : W7.grownBy W8 (some (w.heap.size + 1 + 1)) := by rw [← hW8]; exact grown_set (grown_set (grown_set (grown_set (grown_set (grown_refl W7 (w.heap.size + 1 + 1)) 0 (_)) 1 (_)) 2 (_)) 3 (_)) 4 (_)
        have HS0_8 := Lib.hid (HS0_7.out.grown hgr8 (by omega))
        have HS1_8 := Lib.hid (HS1_7.out.grown hgr8 (by omega))
        have HS3_8 := Lib.hid (HS3_7.out.grown hgr8 (by omega))
        have HB_8 := Lib.hid (below_grown HB_7.out hgr8 (by omega))
        have hw_8 := HB_8.out.size
        have hws_8 := hgr8.size
        clear hW8
        clear f0_7 HS0_7 hf0_7 f1_7 HS1_7 hf1_7 f2_7 HS2_7 hf2_7 f3_7 HS3_7 hf3_7
        clear hgr8
        have f0_8 := str6 HS0_8.out
        have hl0_8 := HS0_8.out.lt
        have hf0_8 := fun j => HS0_8.out.frozen j
        have f1_8 := str5 HS1_8.out
        have hl1_8 := HS1_8.out.lt
        have hf1_8 := fun j => HS1_8.out.frozen j
        have f2_8 := str5 HS2_8.out
        have hl2_8 := HS2_8.out.lt
        have hf2_8 := fun j => HS2_8.out.frozen j
        have f3_8 := str2 HS3_8.out
        have hl3_8 := HS3_8.out.lt
        have hf3_8 := fun j => HS3_8.out.frozen j
        exact bodyPost_ret (v := .tuple #[.agg #[.int .i64 2, .slice Ac nc cc, .int .i64 clo, .int .i64 chi, .int .i64 (cva - xn)], .int .i64 0]) (by simp [results, Try.results67, go_sem, *]) rfl ⟨rfl, HB_8.out⟩
end Go.Proofs.Ytghgccgpgonlmaa.ModelW
