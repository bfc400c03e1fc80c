/-
  Numbers of 128 bits as plain data, and the walks of package wide: Of, Join, Plus, Minus, Int, told, Add, Sub.
-/
import Derived.Test.YtghgccgpgonlmaaBox
import Derived.Test.YtghgccgpgonlmaaStr
import Derived.Test.YtghgccgpgonlmaaReg
import Derived.Laws.Externs
namespace Go.Proofs.Ytghgccgpgonlmaa.WideP
def hi (x : Int) : Int := x / 18446744073709551616
def lo (x : Int) : Int := x % 18446744073709551616
/-- a number of 64 bits? -/
def fits (x : Int) : Bool := decide (-9223372036854775808 ≤ x) && decide (x ≤ 9223372036854775807)
def num (x : Int) : Int := if fits x then x else 0
def bor (x y : Int) : Int := if x < y then 1 else 0
end Go.Proofs.Ytghgccgpgonlmaa.WideP
namespace Go.Proofs.Ytghgccgpgonlmaa.WideW
open Go.RowKit

def sumV (x : Int) : Value := .agg #[.int .i64 (WideP.hi x), .int .u64 (WideP.lo x)]
theorem add64 (x y : Int) (hx : 0 ≤ x) (hy : 0 ≤ y) (w : World) : (callFunc 129 #[.int .u64 x, .int .u64 y, .int .u64 0]).run Try.prog w =
    .ok (.value (.tuple #[.int .u64 ((x + y) % 18446744073709551616), .int .u64 ((x + y) / 18446744073709551616)])) w := by
  rw [run_callFunc_extern Try.func129 (by kernel_rfl) (by kernel_rfl) (by kernel_rfl) (e := add64Entry) (by kernel_rfl), run_add64 x y 0 hx hy (Int.le_refl 0) (by decide)]
  simp only [Result.andThen, Int.add_zero]
def sub64Entry : Array Value → Sem Value := fun args => do
  let (x, y, b) ← Extern.MathBitsCarry.three "Sub64" args
  pure (Extern.MathBitsCarry.pair ((x + Extern.MathBitsCarry.m64 - y - b) % Extern.MathBitsCarry.m64) (if x < y + b then 1 else 0))
theorem run_sub64 (P : Program) (x y : Nat) (w : World) : (sub64Entry #[.int .u64 x, .int .u64 y, .int .u64 0]).run P w =
      .ok (.tuple #[.int .u64 (((x + 18446744073709551616 - y) % 18446744073709551616 : Nat) : Int), .int .u64 ((if x < y then 1 else 0 : Nat) : Int)]) w := rfl
theorem sub64 (x y : Int) (hx : 0 ≤ x) (hy : 0 ≤ y) (hy' : y < 18446744073709551616) (w : World) : (callFunc 112 #[.int .u64 x, .int .u64 y, .int .u64 0]).run Try.prog w =
    .ok (.value (.tuple #[.int .u64 ((x - y) % 18446744073709551616), .int .u64 (WideP.bor x y)])) w := by
  obtain ⟨x, rfl⟩ := Int.eq_ofNat_of_zero_le hx
  obtain ⟨y, rfl⟩ := Int.eq_ofNat_of_zero_le hy
  have e1 : (((x + 18446744073709551616 - y) % 18446744073709551616 : Nat) : Int) = ((x : Int) - y) % 18446744073709551616 := by omega
  have e2 : ((if x < y then 1 else 0 : Nat) : Int) = WideP.bor x y := by unfold WideP.bor; split <;> split <;> omega
  rw [run_callFunc_extern Try.func112 (by kernel_rfl) (by kernel_rfl) (by kernel_rfl) (e := sub64Entry) (by kernel_rfl), run_sub64, e1, e2]
  rfl

theorem wrap_i64 (x : Int) (h1 : -9223372036854775808 ≤ x) (h2 : x ≤ 9223372036854775807) : wrap64 x = x := by
  simp only [wrap64]
  omega
theorem wrap_u64 (x : Int) : IntKind.u64.wrap x = WideP.lo x := by
  simp only [IntKind.wrap, IntKind.bits, IntKind.signed, WideP.lo]
  simp
theorem wrap_lo (x : Int) (h : WideP.fits x = true) : wrap64 (WideP.lo x) = x := by
  simp [WideP.fits] at h
  simp only [wrap64, WideP.lo]
  omega
theorem wrap_in (x : Int) : -9223372036854775808 ≤ wrap64 x ∧ wrap64 x ≤ 9223372036854775807 := by
  simp only [wrap64]
  omega
theorem lo_nonneg (x : Int) : 0 ≤ WideP.lo x := by unfold WideP.lo; omega
theorem lo_lt (x : Int) : WideP.lo x < 18446744073709551616 := by unfold WideP.lo; omega
theorem hi_wrap (x : Int) (h : WideP.fits x = false) : WideP.hi (wrap64 (WideP.lo x)) ≠ WideP.hi x := by
  simp [WideP.fits] at h
  simp only [wrap64, WideP.lo, WideP.hi]
  omega
theorem lo_wrap (x : Int) : WideP.lo (wrap64 (WideP.lo x)) = WideP.lo x := by
  simp only [wrap64, WideP.lo]
  omega
theorem join_hi (x y : Int) (hx1 : -1000000000000000000000 ≤ x) (hx2 : x ≤ 1000000000000000000000) (hy1 : -1000000000000000000000 ≤ y) (hy2 : y ≤ 1000000000000000000000) :
    wrap64 (wrap64 (WideP.hi x + WideP.hi y) + wrap64 ((WideP.lo x + WideP.lo y) / 18446744073709551616)) = WideP.hi (x + y) := by
  unfold WideP.hi WideP.lo
  rw [wrap_i64 (x / 18446744073709551616 + y / 18446744073709551616) (by omega) (by omega), wrap_i64 ((x % 18446744073709551616 + y % 18446744073709551616) / 18446744073709551616) (by omega) (by omega), wrap_i64 _ (by omega) (by omega)]
  omega
theorem join_lo (x y : Int) : (WideP.lo x + WideP.lo y) % 18446744073709551616 = WideP.lo (x + y) := by
  unfold WideP.lo
  omega
theorem take_hi (x y : Int) (hx1 : -1000000000000000000000 ≤ x) (hx2 : x ≤ 1000000000000000000000) (hy1 : -1000000000000000000000 ≤ y) (hy2 : y ≤ 1000000000000000000000) :
    wrap64 (wrap64 (WideP.hi x - WideP.hi y) - wrap64 (WideP.bor (WideP.lo x) (WideP.lo y))) = WideP.hi (x - y) := by
  unfold WideP.hi WideP.lo WideP.bor
  rw [wrap_i64 (x / 18446744073709551616 - y / 18446744073709551616) (by omega) (by omega)]
  split
  · rw [wrap_i64 1 (by omega) (by omega), wrap_i64 _ (by omega) (by omega)]
    omega
  · rw [wrap_i64 0 (by omega) (by omega), wrap_i64 _ (by omega) (by omega)]
    omega
theorem take_lo (x y : Int) : (WideP.lo x - WideP.lo y) % 18446744073709551616 = WideP.lo (x - y) := by
  unfold WideP.lo
  omega
theorem of_hi (n : Int) (h1 : -9223372036854775808 ≤ n) (h2 : n ≤ 9223372036854775807) : n / 9223372036854775808 = WideP.hi n := by
  unfold WideP.hi
  omega

set_option maxHeartbeats 400000 in
theorem of_any (n : Int) (h1 : -9223372036854775808 ≤ n) (h2 : n ≤ 9223372036854775807) (w : World) : Calls Try.prog 94 #[.int .i64 n] w fun e w' => e = .returned (.agg #[.int .i64 (WideP.hi n), .int .u64 (WideP.lo n)]) ∧ Below w.heap.size w w' := by
  have HH := Lib.hid (of_hi n h1 h2)
  have HL := Lib.hid (wrap_u64 n)
  go_enter Try.func94, Try.ntmps94
  go_wp2
  rw [HH.out, HL.out]
  exact bodyPost_ret (v := .agg #[.int .i64 (WideP.hi n), .int .u64 (WideP.lo n)]) (by simp [results, Try.results94, go_sem]) rfl ⟨rfl, balloc (bsame w) _⟩

set_option maxHeartbeats 400000 in
theorem join_any (x y : Int) (hx1 : -1000000000000000000000 ≤ x) (hx2 : x ≤ 1000000000000000000000) (hy1 : -1000000000000000000000 ≤ y) (hy2 : y ≤ 1000000000000000000000) (w : World) :
    Calls Try.prog 111 #[.agg #[.int .i64 (WideP.hi x), .int .u64 (WideP.lo x)], .agg #[.int .i64 (WideP.hi y), .int .u64 (WideP.lo y)]] w fun e w' => e = .returned (.agg #[.int .i64 (WideP.hi (x + y)), .int .u64 (WideP.lo (x + y))]) ∧ Below w.heap.size w w' := by
  have HH := Lib.hid (join_hi x y hx1 hx2 hy1 hy2)
  have HL := Lib.hid (join_lo x y)
  have l1 := lo_nonneg x
  have l2 := lo_nonneg y
  generalize WideP.lo x = lx at *
  generalize WideP.lo y = ly at *
  generalize WideP.hi x = hx at *
  generalize WideP.hi y = hy at *
  go_enter Try.func111, Try.ntmps111
  go_wp2_with (simp only [add64 lx ly l1 l2])
  rw [HH.out, HL.out]
  exact bodyPost_ret (v := .agg #[.int .i64 (WideP.hi (x + y)), .int .u64 (WideP.lo (x + y))]) (by simp [results, Try.results111, go_sem]) rfl ⟨rfl, balloc (balloc (balloc (bsame w) _) _) _⟩

set_option maxHeartbeats 400000 in
theorem plus_any (x n : Int) (hx1 : -1000000000000000000000 ≤ x) (hx2 : x ≤ 1000000000000000000000) (h1 : -9223372036854775808 ≤ n) (h2 : n ≤ 9223372036854775807) (w : World) : Calls Try.prog 95 #[.agg #[.int .i64 (WideP.hi x), .int .u64 (WideP.lo x)], .int .i64 n] w fun e w' => e = .returned (.agg #[.int .i64 (WideP.hi (x + n)), .int .u64 (WideP.lo (x + n))]) ∧ Below w.heap.size w w' := by
  go_enter Try.func95, Try.ntmps95
  go_wp2_with fail
  generalize hW0 : ((w).alloc (.cells #[.int .i64 (WideP.hi x), .int .u64 (WideP.lo x)] 146)).alloc (.cells #[.int .i64 0, .int .u64 0] 146) = W0
  have HS0_0 : Hid (Str W0 (w.heap.size) #[.int .i64 (WideP.hi x), .int .u64 (WideP.lo x)]) := Lib.hid (by rw [← hW0]; have := (Str.new (w) #[.int .i64 (WideP.hi x), .int .u64 (WideP.lo x)] 146).alloc (.cells #[.int .i64 0, .int .u64 0] 146); simpa using this)
  have HS1_0 : Hid (Str W0 (w.heap.size + 1) #[.int .i64 0, .int .u64 0]) := Lib.hid (by rw [← hW0]; have := Str.new ((w).alloc (.cells #[.int .i64 (WideP.hi x), .int .u64 (WideP.lo x)] 146)) #[.int .i64 0, .int .u64 0] 146; simpa using this)
  have HB_0 : Hid (Below w.heap.size w W0) := Lib.hid (by rw [← hW0]; exact balloc (balloc (bsame w) _) _)
  have hw_0 := HB_0.out.size
  clear hW0
  obtain ⟨f0_0_0, f0_0_1⟩ := str2 HS0_0.out
  have hl0_0 := HS0_0.out.lt
  obtain ⟨f1_0_0, f1_0_1⟩ := str2 HS1_0.out
  have hl1_0 := HS1_0.out.lt
  refine Reg.wp_region_tail (R := ext) (W := W0) [Reg.eqv (.agg #[.int .i64 (WideP.hi x), .int .u64 (WideP.lo x)]), Reg.eqv (.int .i64 n), Reg.eqv (.agg #[.int .i64 (WideP.hi n), .int .u64 (WideP.lo n)]), Reg.eqv (.agg #[.int .i64 (WideP.hi (x + n)), .int .u64 (WideP.lo (x + n))])] 9 4 _ [[(2, none)], [(1, none)], [(6, some 1)], [(5, some 0), (7, some 2)]] rfl (by kernel_rfl) (by kernel_rfl) (by rfl) (by rfl) rfl (by kernel_rfl) ?_ [some 5, some 6, some 7, some 8] (by kernel_rfl) ?_
  · refine ⟨?_, ?_, ?_, ?_, trivial⟩
    · intro ax wx hx hs
      obtain ⟨e2, -⟩ := hs
      have g2 := Reg.ev (v := .pointer (some ⟨w.heap.size, 0, none⟩)) e2
      obtain ⟨hc, -⟩ := bcell hx
      exact Reg.obl_free rfl (Reg.wp_eqv (Option.some_ne_none _) (by go_simp) rfl)
    · intro ax wx hx hs
      obtain ⟨e1, -⟩ := hs
      have g1 := Reg.ev (v := .int .i64 n) e1
      exact Reg.obl_free rfl (Reg.wp_eqv (Option.some_ne_none _) (by go_simp) rfl)
    · intro ax wx hx hs
      obtain ⟨e6, -⟩ := hs
      have g6 := Reg.ev (v := .int .i64 n) e6
      refine Reg.obl_free rfl ?_
      go_simp
      refine (of_any n h1 h2 _).mono ?_
      rintro e wy ⟨rfl, hby⟩
      exact Reg.done (Option.some_ne_none _) rfl hby
    · intro ax wx hx hs
      obtain ⟨e5, e7, -⟩ := hs
      have g5 := Reg.ev (v := .agg #[.int .i64 (WideP.hi x), .int .u64 (WideP.lo x)]) e5
      have g7 := Reg.ev (v := .agg #[.int .i64 (WideP.hi n), .int .u64 (WideP.lo n)]) e7
      refine Reg.obl_free rfl ?_
      go_simp
      refine (join_any x n hx1 hx2 (by omega) (by omega) _).mono ?_
      rintro e wy ⟨rfl, hby⟩
      exact Reg.done (Option.some_ne_none _) rfl hby
  · intro W1 hwf
    simp only [Reg.Fin]
    rintro _ rfl _ rfl _ rfl _ rfl
    have hwf' : Below W0.heap.size W0 W1 := hwf
    clear hwf
    have HS0_1 := Lib.hid (HS0_0.out.next hwf')
    have HS1_1 := Lib.hid (HS1_0.out.next hwf')
    have HB_1 := Lib.hid (bstep HB_0.out hwf')
    have hw_1 := HB_1.out.size
    have hws_1 := (hwf').size
    clear f0_0_0 f0_0_1 HS0_0 f1_0_0 f1_0_1 HS1_0
    clear hwf'
    obtain ⟨f0_1_0, f0_1_1⟩ := str2 HS0_1.out
    have hl0_1 := HS0_1.out.lt
    obtain ⟨f1_1_0, f1_1_1⟩ := str2 HS1_1.out
    have hl1_1 := HS1_1.out.lt
    have hfz := fun j => HS1_1.out.frozen j
    refine Reg.Goal.mk ?_
    go_simp
    go_wp2_with fail
    exact bodyPost_ret (v := .agg #[.int .i64 (WideP.hi (x + n)), .int .u64 (WideP.lo (x + n))]) (by simp [results, Try.results95, go_sem, *]) rfl ⟨rfl, below_grown HB_1.out (grown_set (grown_set (grown_refl _ _) 0 _) 1 _) (by omega)⟩

set_option maxHeartbeats 400000 in
theorem minus_any (x n : Int) (hx1 : -1000000000000000000000 ≤ x) (hx2 : x ≤ 1000000000000000000000) (h1 : -9223372036854775808 ≤ n) (h2 : n ≤ 9223372036854775807) (w : World) : Calls Try.prog 96 #[.agg #[.int .i64 (WideP.hi x), .int .u64 (WideP.lo x)], .int .i64 n] w fun e w' => e = .returned (.agg #[.int .i64 (WideP.hi (x - n)), .int .u64 (WideP.lo (x - n))]) ∧ Below w.heap.size w w' := by
  have HH := Lib.hid (take_hi x n hx1 hx2 (by omega) (by omega))
  have HL := Lib.hid (take_lo x n)
  have HO := Lib.hid (fun W => of_any n h1 h2 W)
  have l1 := lo_nonneg x
  have l2 := lo_nonneg n
  have l3 := lo_lt n
  generalize WideP.lo x = lx at *
  generalize WideP.lo n = ln at *
  generalize WideP.hi x = hx at *
  generalize WideP.hi n = hn at *
  go_enter Try.func96, Try.ntmps96
  go_wp2_with fail
  generalize hW0 : ((w).alloc (.cells #[.int .i64 hx, .int .u64 lx] 146)).alloc (.cells #[.int .i64 0, .int .u64 0] 146) = W0
  have HS0_0 : Hid (Str W0 (w.heap.size) #[.int .i64 hx, .int .u64 lx]) := Lib.hid (by rw [← hW0]; have := (Str.new (w) #[.int .i64 hx, .int .u64 lx] 146).alloc (.cells #[.int .i64 0, .int .u64 0] 146); simpa using this)
  have HS1_0 : Hid (Str W0 (w.heap.size + 1) #[.int .i64 0, .int .u64 0]) := Lib.hid (by rw [← hW0]; have := Str.new ((w).alloc (.cells #[.int .i64 hx, .int .u64 lx] 146)) #[.int .i64 0, .int .u64 0] 146; simpa using this)
  have HB_0 : Hid (Below w.heap.size w W0) := Lib.hid (by rw [← hW0]; exact balloc (balloc (bsame w) _) _)
  have hw_0 := HB_0.out.size
  clear hW0
  obtain ⟨f0_0_0, f0_0_1⟩ := str2 HS0_0.out
  have hl0_0 := HS0_0.out.lt
  obtain ⟨f1_0_0, f1_0_1⟩ := str2 HS1_0.out
  have hl1_0 := HS1_0.out.lt
  refine (HO.out _).mono ?_
  rintro e W1 ⟨rfl, hb1⟩
  have HS0_1 := Lib.hid (HS0_0.out.next hb1)
  have HS1_1 := Lib.hid (HS1_0.out.next hb1)
  have HB_1 := Lib.hid (bstep HB_0.out hb1)
  have hw_1 := HB_1.out.size
  have hws_1 := (hb1).size
  clear f0_0_0 f0_0_1 HS0_0 f1_0_0 f1_0_1 HS1_0
  clear hb1
  obtain ⟨f0_1_0, f0_1_1⟩ := str2 HS0_1.out
  have hl0_1 := HS0_1.out.lt
  obtain ⟨f1_1_0, f1_1_1⟩ := str2 HS1_1.out
  have hl1_1 := HS1_1.out.lt
  have hfz := fun j => HS1_1.out.frozen j
  go_wp2_with (simp only [sub64 lx ln l1 l2 l3])
  rw [HH.out, HL.out]
  exact bodyPost_ret (v := .agg #[.int .i64 (WideP.hi (x - n)), .int .u64 (WideP.lo (x - n))]) (by simp [results, Try.results96, go_sem, *]) rfl ⟨rfl, balloc (below_grown HB_1.out (grown_set (grown_set (grown_refl _ _) 0 _) 1 _) (by omega)) _⟩

set_option maxHeartbeats 400000 in
theorem int_any (x : Int) (w : World) : Calls Try.prog 110 #[.agg #[.int .i64 (WideP.hi x), .int .u64 (WideP.lo x)]] w fun e w' => e = .returned (.tuple #[.int .i64 (WideP.num x), .bool (WideP.fits x)]) ∧ Below w.heap.size w w' := by
  cases hf : WideP.fits x
  · have HN : Hid (WideP.num x = 0) := Lib.hid (by rw [WideP.num, if_neg (by rw [hf]; simp)])
    have hne := hi_wrap x hf
    have hle := lo_wrap x
    obtain ⟨h1, h2⟩ := wrap_in (WideP.lo x)
    generalize hu : wrap64 (WideP.lo x) = u at hne hle h1 h2
    have HW := Lib.hid hu
    clear hu
    have HO := Lib.hid (fun W => of_any u h1 h2 W)
    rw [hle] at HO
    clear hf h1 h2 hle
    generalize WideP.lo x = lx at *
    generalize hhx : WideP.hi x = qx at *
    clear hhx
    generalize WideP.hi u = hu at *
    go_enter Try.func110, Try.ntmps110
    go_wp2_with fail
    generalize hW0 : (w).alloc (.cells #[.int .i64 qx, .int .u64 lx] 146) = W0
    have HS0_0 : Hid (Str W0 (w.heap.size) #[.int .i64 qx, .int .u64 lx]) := Lib.hid (by rw [← hW0]; have := Str.new (w) #[.int .i64 qx, .int .u64 lx] 146; simpa using this)
    have HB_0 : Hid (Below w.heap.size w W0) := Lib.hid (by rw [← hW0]; exact balloc (bsame w) _)
    have hw_0 := HB_0.out.size
    clear hW0
    obtain ⟨f0_0_0, f0_0_1⟩ := str2 HS0_0.out
    have hl0_0 := HS0_0.out.lt
    rw [HW.out]
    refine Reg.wp_region_vals (R := ext) (W := W0) [Reg.eqv (.agg #[.int .i64 qx, .int .u64 lx]), Reg.eqv (.int .i64 u), Reg.eqv (.agg #[.int .i64 hu, .int .u64 lx]), Reg.eqv (.bool true)] 13 [[(1, none)], [(4, none)], [(9, some 1)], [(8, some 0), (10, some 2)]] rfl (by kernel_rfl) (by kernel_rfl) (by kernel_rfl) ?_ [some 8, some 9, some 10, some 11] (by kernel_rfl) ?_
    · refine ⟨?_, ?_, ?_, ?_, trivial⟩
      · intro ax wx hx hs
        obtain ⟨e1, -⟩ := hs
        have g1 := Reg.ev (v := .pointer (some ⟨w.heap.size, 0, none⟩)) e1
        obtain ⟨hc, -⟩ := bcell hx
        exact Reg.obl_free rfl (Reg.wp_eqv (Option.some_ne_none _) (by go_simp) rfl)
      · intro ax wx hx hs
        obtain ⟨e4, -⟩ := hs
        have g4 := Reg.ev (v := .int .i64 u) e4
        exact Reg.obl_free rfl (Reg.wp_eqv (Option.some_ne_none _) (by go_simp) rfl)
      · intro ax wx hx hs
        obtain ⟨e9, -⟩ := hs
        have g9 := Reg.ev (v := .int .i64 u) e9
        refine Reg.obl_free rfl ?_
        go_simp
        refine (HO.out _).mono ?_
        rintro e wy ⟨rfl, hby⟩
        exact Reg.done (Option.some_ne_none _) rfl hby
      · intro ax wx hx hs
        obtain ⟨e8, e10, -⟩ := hs
        have g8 := Reg.ev (v := .agg #[.int .i64 qx, .int .u64 lx]) e8
        have g10 := Reg.ev (v := .agg #[.int .i64 hu, .int .u64 lx]) e10
        refine Reg.obl_free rfl ?_
        exact Reg.wp_eqv (Option.some_ne_none _) (by go_simp; exact fun h => hne h.symm) rfl
    · intro W1 hwf
      simp only [Reg.Fin]
      rintro _ rfl _ rfl _ rfl _ rfl
      go_simp
      go_wp2_with fail
      rw [HN.out]
      exact bodyPost_ret (v := .tuple #[.int .i64 0, .bool false]) (by simp [results, Try.results110, go_sem, *]) rfl ⟨rfl, bstep HB_0.out hwf⟩
  · have HN : Hid (WideP.num x = x) := Lib.hid (by rw [WideP.num, if_pos hf])
    have HW := Lib.hid (wrap_lo x hf)
    have hin : -9223372036854775808 ≤ x ∧ x ≤ 9223372036854775807 := by simpa [WideP.fits] using hf
    obtain ⟨h1, h2⟩ := hin
    have HO := Lib.hid (fun W => of_any x h1 h2 W)
    clear hf h1 h2
    generalize WideP.lo x = lx at *
    generalize hhx : WideP.hi x = qx at *
    clear hhx
    go_enter Try.func110, Try.ntmps110
    go_wp2_with fail
    generalize hW0 : (w).alloc (.cells #[.int .i64 qx, .int .u64 lx] 146) = W0
    have HS0_0 : Hid (Str W0 (w.heap.size) #[.int .i64 qx, .int .u64 lx]) := Lib.hid (by rw [← hW0]; have := Str.new (w) #[.int .i64 qx, .int .u64 lx] 146; simpa using this)
    have HB_0 : Hid (Below w.heap.size w W0) := Lib.hid (by rw [← hW0]; exact balloc (bsame w) _)
    have hw_0 := HB_0.out.size
    clear hW0
    obtain ⟨f0_0_0, f0_0_1⟩ := str2 HS0_0.out
    have hl0_0 := HS0_0.out.lt
    rw [HW.out]
    refine Reg.wp_region_vals (R := ext) (W := W0) [Reg.eqv (.agg #[.int .i64 qx, .int .u64 lx]), Reg.eqv (.int .i64 x), Reg.eqv (.agg #[.int .i64 qx, .int .u64 lx]), Reg.eqv (.bool false)] 13 [[(1, none)], [(4, none)], [(9, some 1)], [(8, some 0), (10, some 2)]] rfl (by kernel_rfl) (by kernel_rfl) (by kernel_rfl) ?_ [some 8, some 9, some 10, some 11] (by kernel_rfl) ?_
    · refine ⟨?_, ?_, ?_, ?_, trivial⟩
      · intro ax wx hx hs
        obtain ⟨e1, -⟩ := hs
        have g1 := Reg.ev (v := .pointer (some ⟨w.heap.size, 0, none⟩)) e1
        obtain ⟨hc, -⟩ := bcell hx
        exact Reg.obl_free rfl (Reg.wp_eqv (Option.some_ne_none _) (by go_simp) rfl)
      · intro ax wx hx hs
        obtain ⟨e4, -⟩ := hs
        have g4 := Reg.ev (v := .int .i64 x) e4
        exact Reg.obl_free rfl (Reg.wp_eqv (Option.some_ne_none _) (by go_simp) rfl)
      · intro ax wx hx hs
        obtain ⟨e9, -⟩ := hs
        have g9 := Reg.ev (v := .int .i64 x) e9
        refine Reg.obl_free rfl ?_
        go_simp
        refine (HO.out _).mono ?_
        rintro e wy ⟨rfl, hby⟩
        exact Reg.done (Option.some_ne_none _) rfl hby
      · intro ax wx hx hs
        obtain ⟨e8, e10, -⟩ := hs
        have g8 := Reg.ev (v := .agg #[.int .i64 qx, .int .u64 lx]) e8
        have g10 := Reg.ev (v := .agg #[.int .i64 qx, .int .u64 lx]) e10
        exact Reg.obl_free rfl (Reg.wp_eqv (Option.some_ne_none _) (by go_simp) rfl)
    · intro W1 hwf
      simp only [Reg.Fin]
      rintro _ rfl _ rfl _ rfl _ rfl
      go_simp
      go_wp2_with fail
      rw [HN.out]
      exact bodyPost_ret (v := .tuple #[.int .i64 x, .bool true]) (by simp [results, Try.results110, go_sem, *]) rfl ⟨rfl, bstep HB_0.out hwf⟩

set_option maxHeartbeats 400000 in
theorem toldPlus (a b : Int) (ha1 : -9223372036854775808 ≤ a) (ha2 : a ≤ 9223372036854775807) (h1 : -9223372036854775808 ≤ b) (h2 : b ≤ 9223372036854775807) (w : World) :
    Calls Try.prog 93 #[.func (.func 95) #[.agg #[.int .i64 (WideP.hi a), .int .u64 (WideP.lo a)]] #[], .int .i64 b] w fun e w' => e = .returned (.tuple #[.int .i64 (WideP.num (a + b)), .bool (WideP.fits (a + b))]) ∧ Below w.heap.size w w' := by
  go_enter Try.func93, Try.ntmps93
  go_wp2_with fail
  refine (plus_any a b (by omega) (by omega) h1 h2 _).mono ?_
  rintro e w1 ⟨rfl, hb1⟩
  go_wp2_with fail
  refine (int_any (a + b) _).mono ?_
  rintro e w2 ⟨rfl, hb2⟩
  go_wp2_with fail
  exact bodyPost_ret (v := .tuple #[.int .i64 (WideP.num (a + b)), .bool (WideP.fits (a + b))]) (by simp [results, Try.results93, go_sem]) rfl ⟨rfl, bstep hb1 hb2⟩

set_option maxHeartbeats 400000 in
theorem add_any (a b : Int) (ha1 : -9223372036854775808 ≤ a) (ha2 : a ≤ 9223372036854775807) (h1 : -9223372036854775808 ≤ b) (h2 : b ≤ 9223372036854775807) (w : World) :
    Calls Try.prog 75 #[.int .i64 a, .int .i64 b] w fun e w' => e = .returned (.tuple #[.int .i64 (WideP.num (a + b)), .bool (WideP.fits (a + b))]) ∧ Below w.heap.size w w' := by
  go_enter Try.func75, Try.ntmps75
  go_wp2_with fail
  refine (of_any a ha1 ha2 _).mono ?_
  rintro e w1 ⟨rfl, hb1⟩
  go_wp2_with fail
  refine (toldPlus a b ha1 ha2 h1 h2 _).mono ?_
  rintro e w2 ⟨rfl, hb2⟩
  go_wp2_with fail
  exact bodyPost_ret (v := .tuple #[.int .i64 (WideP.num (a + b)), .bool (WideP.fits (a + b))]) (by simp [results, Try.results75, go_sem]) rfl ⟨rfl, bstep hb1 hb2⟩

set_option maxHeartbeats 400000 in
theorem toldMinus (a b : Int) (ha1 : -9223372036854775808 ≤ a) (ha2 : a ≤ 9223372036854775807) (h1 : -9223372036854775808 ≤ b) (h2 : b ≤ 9223372036854775807) (w : World) :
    Calls Try.prog 93 #[.func (.func 96) #[.agg #[.int .i64 (WideP.hi a), .int .u64 (WideP.lo a)]] #[], .int .i64 b] w fun e w' => e = .returned (.tuple #[.int .i64 (WideP.num (a - b)), .bool (WideP.fits (a - b))]) ∧ Below w.heap.size w w' := by
  go_enter Try.func93, Try.ntmps93
  go_wp2_with fail
  refine (minus_any a b (by omega) (by omega) h1 h2 _).mono ?_
  rintro e w1 ⟨rfl, hb1⟩
  go_wp2_with fail
  refine (int_any (a - b) _).mono ?_
  rintro e w2 ⟨rfl, hb2⟩
  go_wp2_with fail
  exact bodyPost_ret (v := .tuple #[.int .i64 (WideP.num (a - b)), .bool (WideP.fits (a - b))]) (by simp [results, Try.results93, go_sem]) rfl ⟨rfl, bstep hb1 hb2⟩

set_option maxHeartbeats 400000 in
theorem sub_any (a b : Int) (ha1 : -9223372036854775808 ≤ a) (ha2 : a ≤ 9223372036854775807) (h1 : -9223372036854775808 ≤ b) (h2 : b ≤ 9223372036854775807) (w : World) :
    Calls Try.prog 76 #[.int .i64 a, .int .i64 b] w fun e w' => e = .returned (.tuple #[.int .i64 (WideP.num (a - b)), .bool (WideP.fits (a - b))]) ∧ Below w.heap.size w w' := by
  go_enter Try.func76, Try.ntmps76
  go_wp2_with fail
  refine (of_any a ha1 ha2 _).mono ?_
  rintro e w1 ⟨rfl, hb1⟩
  go_wp2_with fail
  refine (toldMinus a b ha1 ha2 h1 h2 _).mono ?_
  rintro e w2 ⟨rfl, hb2⟩
  go_wp2_with fail
  exact bodyPost_ret (v := .tuple #[.int .i64 (WideP.num (a - b)), .bool (WideP.fits (a - b))]) (by simp [results, Try.results76, go_sem]) rfl ⟨rfl, bstep hb1 hb2⟩
end Go.Proofs.Ytghgccgpgonlmaa.WideW
