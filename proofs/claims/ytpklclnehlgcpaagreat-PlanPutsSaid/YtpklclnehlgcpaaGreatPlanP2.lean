/-
  Parts of the proof of PlanPuts.
-/
import Derived.Test.YtpklclnehlgcpaaGreatPlanP1
import Derived.Laws.Externs
import Derived.Test.YtpklclnehlgcpaaGreatPlanP0
import Derived.Test.YtpklclnehlgcpaaGreatProg
import Derived.RangeFuncBox
import Derived.RangeFuncNested
import Derived.RangeFuncLeaves
import Derived.Shelf.Abstract
import Derived.OwnWalkIn
import Derived.TacticsInMore
import Derived.LoopNIn
import Derived.LoopIn
import Derived.Maps.AppendAt
import Derived.Laws.CopyOwn
import Derived.Laws.Slices
section
namespace Go.Proofs.YtpklclnehlgcpaaGreat.WideP
def hi (x : Int) : Int := x / 18446744073709551616
def lo (x : Int) : Int := x % 18446744073709551616
/-- a number of 64 bits? -/
def fits (x : Int) : Bool := decide (-9223372036854775808 ≤ x) && decide (x ≤ 9223372036854775807)
def num (x : Int) : Int := if fits x then x else 0
def bor (x y : Int) : Int := if x < y then 1 else 0
end Go.Proofs.YtpklclnehlgcpaaGreat.WideP
namespace Go.Proofs.YtpklclnehlgcpaaGreat.WideW
open Go.RowKit

theorem add64 (x y : Int) (hx : 0 ≤ x) (hy : 0 ≤ y) (w : World) : (callFunc 117 #[.int .u64 x, .int .u64 y, .int .u64 0]).run Tryz.prog w =
    .ok (.value (.tuple #[.int .u64 ((x + y) % 18446744073709551616), .int .u64 ((x + y) / 18446744073709551616)])) w := by
  rw [run_callFunc_extern Tryz.func117 (by kernel_rfl) (by kernel_rfl) (by kernel_rfl) (e := add64Entry) (by kernel_rfl), run_add64 x y 0 hx hy (Int.le_refl 0) (by decide)]
  simp only [Result.andThen, Int.add_zero]
def sub64Entry : Array Value → Sem Value := fun args => do
  let (x, y, b) ← Extern.MathBitsCarry.three "Sub64" args
  pure (Extern.MathBitsCarry.pair ((x + Extern.MathBitsCarry.m64 - y - b) % Extern.MathBitsCarry.m64) (if x < y + b then 1 else 0))
theorem run_sub64 (P : Program) (x y : Nat) (w : World) : (sub64Entry #[.int .u64 x, .int .u64 y, .int .u64 0]).run P w =
      .ok (.tuple #[.int .u64 (((x + 18446744073709551616 - y) % 18446744073709551616 : Nat) : Int), .int .u64 ((if x < y then 1 else 0 : Nat) : Int)]) w := rfl
theorem sub64 (x y : Int) (hx : 0 ≤ x) (hy : 0 ≤ y) (hy' : y < 18446744073709551616) (w : World) : (callFunc 115 #[.int .u64 x, .int .u64 y, .int .u64 0]).run Tryz.prog w =
    .ok (.value (.tuple #[.int .u64 ((x - y) % 18446744073709551616), .int .u64 (WideP.bor x y)])) w := by
  obtain ⟨x, rfl⟩ := Int.eq_ofNat_of_zero_le hx
  obtain ⟨y, rfl⟩ := Int.eq_ofNat_of_zero_le hy
  have e1 : (((x + 18446744073709551616 - y) % 18446744073709551616 : Nat) : Int) = ((x : Int) - y) % 18446744073709551616 := by omega
  have e2 : ((if x < y then 1 else 0 : Nat) : Int) = WideP.bor x y := by unfold WideP.bor; split <;> split <;> omega
  rw [run_callFunc_extern Tryz.func115 (by kernel_rfl) (by kernel_rfl) (by kernel_rfl) (e := sub64Entry) (by kernel_rfl), run_sub64, e1, e2]
  rfl

theorem wrap_i64 (x : Int) (h1 : -9223372036854775808 ≤ x) (h2 : x ≤ 9223372036854775807) : wrap64 x = x := by
  simp only [wrap64]
  omega
theorem wrap_u64 (x : Int) : IntKind.u64.wrap x = WideP.lo x := by
  simp only [IntKind.wrap, IntKind.bits, IntKind.signed, WideP.lo]
  simp
theorem wrap_lo (x : Int) (h : WideP.fits x = true) : wrap64 (WideP.lo x) = x := by
  simp [WideP.fits] at h
  simp only [wrap64, WideP.lo]
  omega
theorem wrap_in (x : Int) : -9223372036854775808 ≤ wrap64 x ∧ wrap64 x ≤ 9223372036854775807 := by
  simp only [wrap64]
  omega
theorem lo_nonneg (x : Int) : 0 ≤ WideP.lo x := by unfold WideP.lo; omega
theorem lo_lt (x : Int) : WideP.lo x < 18446744073709551616 := by unfold WideP.lo; omega
theorem hi_wrap (x : Int) (h : WideP.fits x = false) : WideP.hi (wrap64 (WideP.lo x)) ≠ WideP.hi x := by
  simp [WideP.fits] at h
  simp only [wrap64, WideP.lo, WideP.hi]
  omega
theorem lo_wrap (x : Int) : WideP.lo (wrap64 (WideP.lo x)) = WideP.lo x := by
  simp only [wrap64, WideP.lo]
  omega
theorem join_hi (x y : Int) (hx1 : -1000000000000000000000 ≤ x) (hx2 : x ≤ 1000000000000000000000) (hy1 : -1000000000000000000000 ≤ y) (hy2 : y ≤ 1000000000000000000000) :
    wrap64 (wrap64 (WideP.hi x + WideP.hi y) + wrap64 ((WideP.lo x + WideP.lo y) / 18446744073709551616)) = WideP.hi (x + y) := by
  unfold WideP.hi WideP.lo
  rw [wrap_i64 (x / 18446744073709551616 + y / 18446744073709551616) (by omega) (by omega), wrap_i64 ((x % 18446744073709551616 + y % 18446744073709551616) / 18446744073709551616) (by omega) (by omega), wrap_i64 _ (by omega) (by omega)]
  omega
theorem join_lo (x y : Int) : (WideP.lo x + WideP.lo y) % 18446744073709551616 = WideP.lo (x + y) := by
  unfold WideP.lo
  omega
theorem take_hi (x y : Int) (hx1 : -1000000000000000000000 ≤ x) (hx2 : x ≤ 1000000000000000000000) (hy1 : -1000000000000000000000 ≤ y) (hy2 : y ≤ 1000000000000000000000) :
    wrap64 (wrap64 (WideP.hi x - WideP.hi y) - wrap64 (WideP.bor (WideP.lo x) (WideP.lo y))) = WideP.hi (x - y) := by
  unfold WideP.hi WideP.lo WideP.bor
  rw [wrap_i64 (x / 18446744073709551616 - y / 18446744073709551616) (by omega) (by omega)]
  split
  · rw [wrap_i64 1 (by omega) (by omega), wrap_i64 _ (by omega) (by omega)]
    omega
  · rw [wrap_i64 0 (by omega) (by omega), wrap_i64 _ (by omega) (by omega)]
    omega
theorem take_lo (x y : Int) : (WideP.lo x - WideP.lo y) % 18446744073709551616 = WideP.lo (x - y) := by
  unfold WideP.lo
  omega
theorem of_hi (n : Int) (h1 : -9223372036854775808 ≤ n) (h2 : n ≤ 9223372036854775807) : n / 9223372036854775808 = WideP.hi n := by
  unfold WideP.hi
  omega

set_option maxHeartbeats 400000 in
theorem of_any (n : Int) (h1 : -9223372036854775808 ≤ n) (h2 : n ≤ 9223372036854775807) (w : World) : Calls Tryz.prog 107 #[.int .i64 n] w fun e w' => e = .returned (.agg #[.int .i64 (WideP.hi n), .int .u64 (WideP.lo n)]) ∧ Below w.heap.size w w' := by
  have HH := Lib.hid (of_hi n h1 h2)
  have HL := Lib.hid (wrap_u64 n)
  go_enter Tryz.func107, Tryz.ntmps107
  go_wp2
  rw [HH.out, HL.out]
  exact bodyPost_ret (v := .agg #[.int .i64 (WideP.hi n), .int .u64 (WideP.lo n)]) (by simp [results, Tryz.results107, go_sem]) rfl ⟨rfl, balloc (bsame w) _⟩

set_option maxHeartbeats 400000 in
theorem join_any (x y : Int) (hx1 : -1000000000000000000000 ≤ x) (hx2 : x ≤ 1000000000000000000000) (hy1 : -1000000000000000000000 ≤ y) (hy2 : y ≤ 1000000000000000000000) (w : World) :
    Calls Tryz.prog 114 #[.agg #[.int .i64 (WideP.hi x), .int .u64 (WideP.lo x)], .agg #[.int .i64 (WideP.hi y), .int .u64 (WideP.lo y)]] w fun e w' => e = .returned (.agg #[.int .i64 (WideP.hi (x + y)), .int .u64 (WideP.lo (x + y))]) ∧ Below w.heap.size w w' := by
  have HH := Lib.hid (join_hi x y hx1 hx2 hy1 hy2)
  have HL := Lib.hid (join_lo x y)
  have l1 := lo_nonneg x
  have l2 := lo_nonneg y
  generalize WideP.lo x = lx at *
  generalize WideP.lo y = ly at *
  generalize WideP.hi x = hx at *
  generalize WideP.hi y = hy at *
  go_enter Tryz.func114, Tryz.ntmps114
  go_wp2_with (simp only [add64 lx ly l1 l2])
  rw [HH.out, HL.out]
  exact bodyPost_ret (v := .agg #[.int .i64 (WideP.hi (x + y)), .int .u64 (WideP.lo (x + y))]) (by simp [results, Tryz.results114, go_sem]) rfl ⟨rfl, balloc (balloc (balloc (bsame w) _) _) _⟩

set_option maxHeartbeats 400000 in
theorem plus_any (x n : Int) (hx1 : -1000000000000000000000 ≤ x) (hx2 : x ≤ 1000000000000000000000) (h1 : -9223372036854775808 ≤ n) (h2 : n ≤ 9223372036854775807) (w : World) : Calls Tryz.prog 108 #[.agg #[.int .i64 (WideP.hi x), .int .u64 (WideP.lo x)], .int .i64 n] w fun e w' => e = .returned (.agg #[.int .i64 (WideP.hi (x + n)), .int .u64 (WideP.lo (x + n))]) ∧ Below w.heap.size w w' := by
  go_enter Tryz.func108, Tryz.ntmps108
  go_wp2_with fail
  generalize hW0 : ((w).alloc (.cells #[.int .i64 (WideP.hi x), .int .u64 (WideP.lo x)] 154)).alloc (.cells #[.int .i64 0, .int .u64 0] 154) = W0
  have HS0_0 : Hid (Str W0 (w.heap.size) #[.int .i64 (WideP.hi x), .int .u64 (WideP.lo x)]) := Lib.hid (by rw [← hW0]; have := (Str.new (w) #[.int .i64 (WideP.hi x), .int .u64 (WideP.lo x)] 154).alloc (.cells #[.int .i64 0, .int .u64 0] 154); simpa using this)
  have HS1_0 : Hid (Str W0 (w.heap.size + 1) #[.int .i64 0, .int .u64 0]) := Lib.hid (by rw [← hW0]; have := Str.new ((w).alloc (.cells #[.int .i64 (WideP.hi x), .int .u64 (WideP.lo x)] 154)) #[.int .i64 0, .int .u64 0] 154; simpa using this)
  have HB_0 : Hid (Below w.heap.size w W0) := Lib.hid (by rw [← hW0]; exact balloc (balloc (bsame w) _) _)
  have hw_0 := HB_0.out.size
  clear hW0
  obtain ⟨f0_0_0, f0_0_1⟩ := str2 HS0_0.out
  have hl0_0 := HS0_0.out.lt
  obtain ⟨f1_0_0, f1_0_1⟩ := str2 HS1_0.out
  have hl1_0 := HS1_0.out.lt
  refine Reg.wp_region_tail (R := ext) (W := W0) [Reg.eqv (.agg #[.int .i64 (WideP.hi x), .int .u64 (WideP.lo x)]), Reg.eqv (.int .i64 n), Reg.eqv (.agg #[.int .i64 (WideP.hi n), .int .u64 (WideP.lo n)]), Reg.eqv (.agg #[.int .i64 (WideP.hi (x + n)), .int .u64 (WideP.lo (x + n))])] 9 4 _ [[(2, none)], [(1, none)], [(6, some 1)], [(5, some 0), (7, some 2)]] rfl (by kernel_rfl) (by kernel_rfl) (by rfl) (by rfl) rfl (by kernel_rfl) ?_ [some 5, some 6, some 7, some 8] (by kernel_rfl) ?_
  · refine ⟨?_, ?_, ?_, ?_, trivial⟩
    · intro ax wx hx hs
      obtain ⟨e2, -⟩ := hs
      have g2 := Reg.ev (v := .pointer (some ⟨w.heap.size, 0, none⟩)) e2
      obtain ⟨hc, -⟩ := bcell hx
      exact Reg.obl_free rfl (Reg.wp_eqv (Option.some_ne_none _) (by go_simp) rfl)
    · intro ax wx hx hs
      obtain ⟨e1, -⟩ := hs
      have g1 := Reg.ev (v := .int .i64 n) e1
      exact Reg.obl_free rfl (Reg.wp_eqv (Option.some_ne_none _) (by go_simp) rfl)
    · intro ax wx hx hs
      obtain ⟨e6, -⟩ := hs
      have g6 := Reg.ev (v := .int .i64 n) e6
      refine Reg.obl_free rfl ?_
      go_simp
      refine (of_any n h1 h2 _).mono ?_
      rintro e wy ⟨rfl, hby⟩
      exact Reg.done (Option.some_ne_none _) rfl hby
    · intro ax wx hx hs
      obtain ⟨e5, e7, -⟩ := hs
      have g5 := Reg.ev (v := .agg #[.int .i64 (WideP.hi x), .int .u64 (WideP.lo x)]) e5
      have g7 := Reg.ev (v := .agg #[.int .i64 (WideP.hi n), .int .u64 (WideP.lo n)]) e7
      refine Reg.obl_free rfl ?_
      go_simp
      refine (join_any x n hx1 hx2 (by omega) (by omega) _).mono ?_
      rintro e wy ⟨rfl, hby⟩
      exact Reg.done (Option.some_ne_none _) rfl hby
  · intro W1 hwf
    simp only [Reg.Fin]
    rintro _ rfl _ rfl _ rfl _ rfl
    have hwf' : Below W0.heap.size W0 W1 := hwf
    clear hwf
    have HS0_1 := Lib.hid (HS0_0.out.next hwf')
    have HS1_1 := Lib.hid (HS1_0.out.next hwf')
    have HB_1 := Lib.hid (bstep HB_0.out hwf')
    have hw_1 := HB_1.out.size
    have hws_1 := (hwf').size
    clear f0_0_0 f0_0_1 HS0_0 f1_0_0 f1_0_1 HS1_0
    clear hwf'
    obtain ⟨f0_1_0, f0_1_1⟩ := str2 HS0_1.out
    have hl0_1 := HS0_1.out.lt
    obtain ⟨f1_1_0, f1_1_1⟩ := str2 HS1_1.out
    have hl1_1 := HS1_1.out.lt
    have hfz := fun j => HS1_1.out.frozen j
    refine Reg.Goal.mk ?_
    go_simp
    go_wp2_with fail
    exact bodyPost_ret (v := .agg #[.int .i64 (WideP.hi (x + n)), .int .u64 (WideP.lo (x + n))]) (by simp [results, Tryz.results108, go_sem, *]) rfl ⟨rfl, below_grown HB_1.out (grown_set (grown_set (grown_refl _ _) 0 _) 1 _) (by omega)⟩

set_option maxHeartbeats 400000 in
theorem minus_any (x n : Int) (hx1 : -1000000000000000000000 ≤ x) (hx2 : x ≤ 1000000000000000000000) (h1 : -9223372036854775808 ≤ n) (h2 : n ≤ 9223372036854775807) (w : World) : Calls Tryz.prog 109 #[.agg #[.int .i64 (WideP.hi x), .int .u64 (WideP.lo x)], .int .i64 n] w fun e w' => e = .returned (.agg #[.int .i64 (WideP.hi (x - n)), .int .u64 (WideP.lo (x - n))]) ∧ Below w.heap.size w w' := by
  have HH := Lib.hid (take_hi x n hx1 hx2 (by omega) (by omega))
  have HL := Lib.hid (take_lo x n)
  have HO := Lib.hid (fun W => of_any n h1 h2 W)
  have l1 := lo_nonneg x
  have l2 := lo_nonneg n
  have l3 := lo_lt n
  generalize WideP.lo x = lx at *
  generalize WideP.lo n = ln at *
  generalize WideP.hi x = hx at *
  generalize WideP.hi n = hn at *
  go_enter Tryz.func109, Tryz.ntmps109
  go_wp2_with fail
  generalize hW0 : ((w).alloc (.cells #[.int .i64 hx, .int .u64 lx] 154)).alloc (.cells #[.int .i64 0, .int .u64 0] 154) = W0
  have HS0_0 : Hid (Str W0 (w.heap.size) #[.int .i64 hx, .int .u64 lx]) := Lib.hid (by rw [← hW0]; have := (Str.new (w) #[.int .i64 hx, .int .u64 lx] 154).alloc (.cells #[.int .i64 0, .int .u64 0] 154); simpa using this)
  have HS1_0 : Hid (Str W0 (w.heap.size + 1) #[.int .i64 0, .int .u64 0]) := Lib.hid (by rw [← hW0]; have := Str.new ((w).alloc (.cells #[.int .i64 hx, .int .u64 lx] 154)) #[.int .i64 0, .int .u64 0] 154; simpa using this)
  have HB_0 : Hid (Below w.heap.size w W0) := Lib.hid (by rw [← hW0]; exact balloc (balloc (bsame w) _) _)
  have hw_0 := HB_0.out.size
  clear hW0
  obtain ⟨f0_0_0, f0_0_1⟩ := str2 HS0_0.out
  have hl0_0 := HS0_0.out.lt
  obtain ⟨f1_0_0, f1_0_1⟩ := str2 HS1_0.out
  have hl1_0 := HS1_0.out.lt
  refine (HO.out _).mono ?_
  rintro e W1 ⟨rfl, hb1⟩
  have HS0_1 := Lib.hid (HS0_0.out.next hb1)
  have HS1_1 := Lib.hid (HS1_0.out.next hb1)
  have HB_1 := Lib.hid (bstep HB_0.out hb1)
  have hw_1 := HB_1.out.size
  have hws_1 := (hb1).size
  clear f0_0_0 f0_0_1 HS0_0 f1_0_0 f1_0_1 HS1_0
  clear hb1
  obtain ⟨f0_1_0, f0_1_1⟩ := str2 HS0_1.out
  have hl0_1 := HS0_1.out.lt
  obtain ⟨f1_1_0, f1_1_1⟩ := str2 HS1_1.out
  have hl1_1 := HS1_1.out.lt
  have hfz := fun j => HS1_1.out.frozen j
  go_wp2_with (simp only [sub64 lx ln l1 l2 l3])
  rw [HH.out, HL.out]
  exact bodyPost_ret (v := .agg #[.int .i64 (WideP.hi (x - n)), .int .u64 (WideP.lo (x - n))]) (by simp [results, Tryz.results109, go_sem, *]) rfl ⟨rfl, balloc (below_grown HB_1.out (grown_set (grown_set (grown_refl _ _) 0 _) 1 _) (by omega)) _⟩

set_option maxHeartbeats 400000 in
theorem int_any (x : Int) (w : World) : Calls Tryz.prog 113 #[.agg #[.int .i64 (WideP.hi x), .int .u64 (WideP.lo x)]] w fun e w' => e = .returned (.tuple #[.int .i64 (WideP.num x), .bool (WideP.fits x)]) ∧ Below w.heap.size w w' := by
  cases hf : WideP.fits x
  · have HN : Hid (WideP.num x = 0) := Lib.hid (by rw [WideP.num, if_neg (by rw [hf]; simp)])
    have hne := hi_wrap x hf
    have hle := lo_wrap x
    obtain ⟨h1, h2⟩ := wrap_in (WideP.lo x)
    generalize hu : wrap64 (WideP.lo x) = u at hne hle h1 h2
    have HW := Lib.hid hu
    clear hu
    have HO := Lib.hid (fun W => of_any u h1 h2 W)
    rw [hle] at HO
    clear hf h1 h2 hle
    generalize WideP.lo x = lx at *
    generalize hhx : WideP.hi x = qx at *
    clear hhx
    generalize WideP.hi u = hu at *
    go_enter Tryz.func113, Tryz.ntmps113
    go_wp2_with fail
    generalize hW0 : (w).alloc (.cells #[.int .i64 qx, .int .u64 lx] 154) = W0
    have HS0_0 : Hid (Str W0 (w.heap.size) #[.int .i64 qx, .int .u64 lx]) := Lib.hid (by rw [← hW0]; have := Str.new (w) #[.int .i64 qx, .int .u64 lx] 154; simpa using this)
    have HB_0 : Hid (Below w.heap.size w W0) := Lib.hid (by rw [← hW0]; exact balloc (bsame w) _)
    have hw_0 := HB_0.out.size
    clear hW0
    obtain ⟨f0_0_0, f0_0_1⟩ := str2 HS0_0.out
    have hl0_0 := HS0_0.out.lt
    rw [HW.out]
    refine Reg.wp_region_vals (R := ext) (W := W0) [Reg.eqv (.agg #[.int .i64 qx, .int .u64 lx]), Reg.eqv (.int .i64 u), Reg.eqv (.agg #[.int .i64 hu, .int .u64 lx]), Reg.eqv (.bool true)] 13 [[(1, none)], [(4, none)], [(9, some 1)], [(8, some 0), (10, some 2)]] rfl (by kernel_rfl) (by kernel_rfl) (by kernel_rfl) ?_ [some 8, some 9, some 10, some 11] (by kernel_rfl) ?_
    · refine ⟨?_, ?_, ?_, ?_, trivial⟩
      · intro ax wx hx hs
        obtain ⟨e1, -⟩ := hs
        have g1 := Reg.ev (v := .pointer (some ⟨w.heap.size, 0, none⟩)) e1
        obtain ⟨hc, -⟩ := bcell hx
        exact Reg.obl_free rfl (Reg.wp_eqv (Option.some_ne_none _) (by go_simp) rfl)
      · intro ax wx hx hs
        obtain ⟨e4, -⟩ := hs
        have g4 := Reg.ev (v := .int .i64 u) e4
        exact Reg.obl_free rfl (Reg.wp_eqv (Option.some_ne_none _) (by go_simp) rfl)
      · intro ax wx hx hs
        obtain ⟨e9, -⟩ := hs
        have g9 := Reg.ev (v := .int .i64 u) e9
        refine Reg.obl_free rfl ?_
        go_simp
        refine (HO.out _).mono ?_
        rintro e wy ⟨rfl, hby⟩
        exact Reg.done (Option.some_ne_none _) rfl hby
      · intro ax wx hx hs
        obtain ⟨e8, e10, -⟩ := hs
        have g8 := Reg.ev (v := .agg #[.int .i64 qx, .int .u64 lx]) e8
        have g10 := Reg.ev (v := .agg #[.int .i64 hu, .int .u64 lx]) e10
        refine Reg.obl_free rfl ?_
        exact Reg.wp_eqv (Option.some_ne_none _) (by go_simp; exact fun h => hne h.symm) rfl
    · intro W1 hwf
      simp only [Reg.Fin]
      rintro _ rfl _ rfl _ rfl _ rfl
      go_simp
      go_wp2_with fail
      rw [HN.out]
      exact bodyPost_ret (v := .tuple #[.int .i64 0, .bool false]) (by simp [results, Tryz.results113, go_sem, *]) rfl ⟨rfl, bstep HB_0.out hwf⟩
  · have HN : Hid (WideP.num x = x) := Lib.hid (by rw [WideP.num, if_pos hf])
    have HW := Lib.hid (wrap_lo x hf)
    have hin : -9223372036854775808 ≤ x ∧ x ≤ 9223372036854775807 := by simpa [WideP.fits] using hf
    obtain ⟨h1, h2⟩ := hin
    have HO := Lib.hid (fun W => of_any x h1 h2 W)
    clear hf h1 h2
    generalize WideP.lo x = lx at *
    generalize hhx : WideP.hi x = qx at *
    clear hhx
    go_enter Tryz.func113, Tryz.ntmps113
    go_wp2_with fail
    generalize hW0 : (w).alloc (.cells #[.int .i64 qx, .int .u64 lx] 154) = W0
    have HS0_0 : Hid (Str W0 (w.heap.size) #[.int .i64 qx, .int .u64 lx]) := Lib.hid (by rw [← hW0]; have := Str.new (w) #[.int .i64 qx, .int .u64 lx] 154; simpa using this)
    have HB_0 : Hid (Below w.heap.size w W0) := Lib.hid (by rw [← hW0]; exact balloc (bsame w) _)
    have hw_0 := HB_0.out.size
    clear hW0
    obtain ⟨f0_0_0, f0_0_1⟩ := str2 HS0_0.out
    have hl0_0 := HS0_0.out.lt
    rw [HW.out]
    refine Reg.wp_region_vals (R := ext) (W := W0) [Reg.eqv (.agg #[.int .i64 qx, .int .u64 lx]), Reg.eqv (.int .i64 x), Reg.eqv (.agg #[.int .i64 qx, .int .u64 lx]), Reg.eqv (.bool false)] 13 [[(1, none)], [(4, none)], [(9, some 1)], [(8, some 0), (10, some 2)]] rfl (by kernel_rfl) (by kernel_rfl) (by kernel_rfl) ?_ [some 8, some 9, some 10, some 11] (by kernel_rfl) ?_
    · refine ⟨?_, ?_, ?_, ?_, trivial⟩
      · intro ax wx hx hs
        obtain ⟨e1, -⟩ := hs
        have g1 := Reg.ev (v := .pointer (some ⟨w.heap.size, 0, none⟩)) e1
        obtain ⟨hc, -⟩ := bcell hx
        exact Reg.obl_free rfl (Reg.wp_eqv (Option.some_ne_none _) (by go_simp) rfl)
      · intro ax wx hx hs
        obtain ⟨e4, -⟩ := hs
        have g4 := Reg.ev (v := .int .i64 x) e4
        exact Reg.obl_free rfl (Reg.wp_eqv (Option.some_ne_none _) (by go_simp) rfl)
      · intro ax wx hx hs
        obtain ⟨e9, -⟩ := hs
        have g9 := Reg.ev (v := .int .i64 x) e9
        refine Reg.obl_free rfl ?_
        go_simp
        refine (HO.out _).mono ?_
        rintro e wy ⟨rfl, hby⟩
        exact Reg.done (Option.some_ne_none _) rfl hby
      · intro ax wx hx hs
        obtain ⟨e8, e10, -⟩ := hs
        have g8 := Reg.ev (v := .agg #[.int .i64 qx, .int .u64 lx]) e8
        have g10 := Reg.ev (v := .agg #[.int .i64 qx, .int .u64 lx]) e10
        exact Reg.obl_free rfl (Reg.wp_eqv (Option.some_ne_none _) (by go_simp) rfl)
    · intro W1 hwf
      simp only [Reg.Fin]
      rintro _ rfl _ rfl _ rfl _ rfl
      go_simp
      go_wp2_with fail
      rw [HN.out]
      exact bodyPost_ret (v := .tuple #[.int .i64 x, .bool true]) (by simp [results, Tryz.results113, go_sem, *]) rfl ⟨rfl, bstep HB_0.out hwf⟩

set_option maxHeartbeats 400000 in
theorem toldPlus (a b : Int) (ha1 : -9223372036854775808 ≤ a) (ha2 : a ≤ 9223372036854775807) (h1 : -9223372036854775808 ≤ b) (h2 : b ≤ 9223372036854775807) (w : World) :
    Calls Tryz.prog 106 #[.func (.func 108) #[.agg #[.int .i64 (WideP.hi a), .int .u64 (WideP.lo a)]] #[], .int .i64 b] w fun e w' => e = .returned (.tuple #[.int .i64 (WideP.num (a + b)), .bool (WideP.fits (a + b))]) ∧ Below w.heap.size w w' := by
  go_enter Tryz.func106, Tryz.ntmps106
  go_wp2_with fail
  refine (plus_any a b (by omega) (by omega) h1 h2 _).mono ?_
  rintro e w1 ⟨rfl, hb1⟩
  go_wp2_with fail
  refine (int_any (a + b) _).mono ?_
  rintro e w2 ⟨rfl, hb2⟩
  go_wp2_with fail
  exact bodyPost_ret (v := .tuple #[.int .i64 (WideP.num (a + b)), .bool (WideP.fits (a + b))]) (by simp [results, Tryz.results106, go_sem]) rfl ⟨rfl, bstep hb1 hb2⟩

set_option maxHeartbeats 400000 in
theorem add_any (a b : Int) (ha1 : -9223372036854775808 ≤ a) (ha2 : a ≤ 9223372036854775807) (h1 : -9223372036854775808 ≤ b) (h2 : b ≤ 9223372036854775807) (w : World) :
    Calls Tryz.prog 95 #[.int .i64 a, .int .i64 b] w fun e w' => e = .returned (.tuple #[.int .i64 (WideP.num (a + b)), .bool (WideP.fits (a + b))]) ∧ Below w.heap.size w w' := by
  go_enter Tryz.func95, Tryz.ntmps95
  go_wp2_with fail
  refine (of_any a ha1 ha2 _).mono ?_
  rintro e w1 ⟨rfl, hb1⟩
  go_wp2_with fail
  refine (toldPlus a b ha1 ha2 h1 h2 _).mono ?_
  rintro e w2 ⟨rfl, hb2⟩
  go_wp2_with fail
  exact bodyPost_ret (v := .tuple #[.int .i64 (WideP.num (a + b)), .bool (WideP.fits (a + b))]) (by simp [results, Tryz.results95, go_sem]) rfl ⟨rfl, bstep hb1 hb2⟩

set_option maxHeartbeats 400000 in
theorem toldMinus (a b : Int) (ha1 : -9223372036854775808 ≤ a) (ha2 : a ≤ 9223372036854775807) (h1 : -9223372036854775808 ≤ b) (h2 : b ≤ 9223372036854775807) (w : World) :
    Calls Tryz.prog 106 #[.func (.func 109) #[.agg #[.int .i64 (WideP.hi a), .int .u64 (WideP.lo a)]] #[], .int .i64 b] w fun e w' => e = .returned (.tuple #[.int .i64 (WideP.num (a - b)), .bool (WideP.fits (a - b))]) ∧ Below w.heap.size w w' := by
  go_enter Tryz.func106, Tryz.ntmps106
  go_wp2_with fail
  refine (minus_any a b (by omega) (by omega) h1 h2 _).mono ?_
  rintro e w1 ⟨rfl, hb1⟩
  go_wp2_with fail
  refine (int_any (a - b) _).mono ?_
  rintro e w2 ⟨rfl, hb2⟩
  go_wp2_with fail
  exact bodyPost_ret (v := .tuple #[.int .i64 (WideP.num (a - b)), .bool (WideP.fits (a - b))]) (by simp [results, Tryz.results106, go_sem]) rfl ⟨rfl, bstep hb1 hb2⟩

set_option maxHeartbeats 400000 in
theorem sub_any (a b : Int) (ha1 : -9223372036854775808 ≤ a) (ha2 : a ≤ 9223372036854775807) (h1 : -9223372036854775808 ≤ b) (h2 : b ≤ 9223372036854775807) (w : World) :
    Calls Tryz.prog 96 #[.int .i64 a, .int .i64 b] w fun e w' => e = .returned (.tuple #[.int .i64 (WideP.num (a - b)), .bool (WideP.fits (a - b))]) ∧ Below w.heap.size w w' := by
  go_enter Tryz.func96, Tryz.ntmps96
  go_wp2_with fail
  refine (of_any a ha1 ha2 _).mono ?_
  rintro e w1 ⟨rfl, hb1⟩
  go_wp2_with fail
  refine (toldMinus a b ha1 ha2 h1 h2 _).mono ?_
  rintro e w2 ⟨rfl, hb2⟩
  go_wp2_with fail
  exact bodyPost_ret (v := .tuple #[.int .i64 (WideP.num (a - b)), .bool (WideP.fits (a - b))]) (by simp [results, Tryz.results96, go_sem]) rfl ⟨rfl, bstep hb1 hb2⟩
end Go.Proofs.YtpklclnehlgcpaaGreat.WideW
end
section
namespace Go.Proofs.YtpklclnehlgcpaaGreat
theorem key_inj {a b : ByteArray} (h : a.toList = b.toList) : a = b := by
  rw [Lib.toList_data, Lib.toList_data] at h
  exact ByteArray.ext (Array.ext' h)
theorem key_ne {a b : ByteArray} (h : ¬ a = b) : (a.toList == b.toList) = false := by
  rw [beq_eq_false_iff_ne]
  exact fun e => h (key_inj e)
end Go.Proofs.YtpklclnehlgcpaaGreat
namespace Go.Proofs.YtpklclnehlgcpaaGreat.UndoP
def none : Undo := ⟨0, ByteArray.empty, SlotP.none, 0⟩
/-- does the slot stand for this key? -/
def stands (x : Item) (k : ByteArray) : Prop := (x.state = 1 ∨ x.state = 2) ∧ x.key = k
/-- how an operation is taken back -/
noncomputable def of (x : OpX) (was thn : Item) : Undo := by
  classical
  exact if x.act = 4 then ⟨3, x.key, SlotP.none, x.n⟩ else if x.act = 5 then ⟨2, x.key, SlotP.none, x.n⟩ else
    if x.act = 1 ∨ x.act = 2 ∨ x.act = 3 then (if stands was x.key then ⟨1, x.key, was, 0⟩ else ⟨1, x.key, ⟨2, thn.key, thn.cell⟩, 0⟩) else none
/-- the sum, or the difference -/
def sum (u : Undo) (now : Item) : Int := if u.act = 3 then now.cell.val - u.n else now.cell.val + u.n
/-- what a slot becomes -/
noncomputable def apply (u : Undo) (now : Item) : Item × Int := by
  classical
  exact if u.act = 1 then (u.item, 0) else if u.act = 2 ∨ u.act = 3 then
    (if now.state = 1 ∧ now.key = u.key then
      (if now.cell.kind = 2 ∧ CellP.right now.cell = true then
        (if sum u now < now.cell.lo ∨ now.cell.hi < sum u now then (SlotP.none, 8) else (⟨1, now.key, ⟨2, [], now.cell.lo, now.cell.hi, sum u now⟩⟩, 0)) else (SlotP.none, 6)) else (SlotP.none, 5)) else (SlotP.none, 1)
/-- are all fields the same? -/
def same (a b : Undo) : Bool := a.act == b.act && (a.key.toList == b.key.toList && (a.n == b.n && SlotP.same a.item b.item))
end Go.Proofs.YtpklclnehlgcpaaGreat.UndoP
namespace Go.Proofs.YtpklclnehlgcpaaGreat.UndoP
/-- may it be? -/
def right (u : Undo) : Bool :=
  if u.act = 0 then same u none
  else if u.act = 1 then KeyP.right u.key.data.toList && ((u.item.state == 1 || u.item.state == 2) && (SlotP.right u.item && (u.item.key.toList == u.key.toList && u.n == 0)))
  else if u.act = 2 ∨ u.act = 3 then KeyP.right u.key.data.toList && (decide (0 ≤ u.n) && SlotP.same u.item SlotP.none) else false
/-- its bytes, if it may be -/
def bytes (u : Undo) : List UInt8 :=
  if right u = true then (if u.act = 0 then [0] else [UInt8.ofNat u.act.toNat, UInt8.ofNat u.key.size] ++ (u.key.data.toList ++ (if u.act = 1 then SlotP.bytes u.item else BeP.parts 8 u.n))) else []
theorem slot_right_state (x : Item) (h : SlotP.right x = true) (h0 : ¬ x.state = 0) : (x.state == 1 || x.state == 2) = true := by
  unfold SlotP.right at h
  rw [if_neg h0] at h
  simp only [Bool.and_eq_true] at h
  exact h.1
end Go.Proofs.YtpklclnehlgcpaaGreat.UndoP
end
section
namespace Go.Proofs.YtpklclnehlgcpaaGreat
set_option linter.unusedVariables false
/-- a record -/
structure RecX where
  kind : Int
  txn : Int
  prev : Int
  next : Int
  patches : List PatchX
  undo : Undo
namespace RecP
def May (n least : Int) : Prop := least ≤ n ∧ n ≤ 281474976710656
def Nums (x : RecX) : Prop := (1 ≤ x.kind ∧ x.kind ≤ 4) ∧ May x.txn 1 ∧ May x.prev 0 ∧ May x.next 0
def Rest (x : RecX) : Prop := (x.kind ≠ 2 → x.next = 0) ∧ (x.kind ≠ 1 → x.undo.act = 0) ∧ (3 ≤ x.kind → x.patches.length = 0)
def Pats (l : List PatchX) (k : Nat) : Prop := ∀ i p, i < k → l[i]? = some p → PatchP.Right p
def Right (x : RecX) : Prop := Nums x ∧ x.patches.length ≤ 4 ∧ UndoP.right x.undo = true ∧ Pats x.patches x.patches.length ∧ Rest x
noncomputable def right (x : RecX) : Bool := @decide (Right x) (Classical.propDecidable _)
theorem right_iff (x : RecX) : right x = true ↔ Right x := by unfold right; simp
theorem right_no (x : RecX) (h : ¬ Right x) : right x = false := by unfold right; simpa using h
theorem right_yes (x : RecX) (h : Right x) : right x = true := (right_iff x).2 h
theorem pats_zero (l : List PatchX) : Pats l 0 := fun i p hi => absurd hi (Nat.not_lt_zero _)
theorem pats_step {l : List PatchX} {k : Nat} {p : PatchX} (h : Pats l k) (hp : l[k]? = some p) (hr : PatchP.Right p) : Pats l (k + 1) := by
  intro i q hi hq
  by_cases e : i = k
  · subst e; rw [hp] at hq; cases hq; exact hr
  · exact h i q (by omega) hq
theorem pats_bad {x : RecX} {k : Nat} {p : PatchX} (hp : x.patches[k]? = some p) (hr : PatchP.right p = false) : right x = false := right_no x fun h => by
  have := h.2.2.2.1 k p (List.getElem?_eq_some_iff.1 hp).1 hp
  rw [PatchP.right_yes p this] at hr
  cases hr
noncomputable def samePats (a b : List PatchX) : Bool := @decide (a = b) (Classical.propDecidable _)
noncomputable def same (a b : RecX) : Bool := (a.kind == b.kind) && ((a.txn == b.txn) && ((a.prev == b.prev) && ((a.next == b.next) && (samePats a.patches b.patches && UndoP.same a.undo b.undo))))
theorem take_same {l m : List PatchX} {k : Nat} {r q : PatchX} (h : l.take k = m.take k) (hr : l[k]? = some r) (hq : m[k]? = some q) (h1 : PatchP.same r q = true) : l.take (k + 1) = m.take (k + 1) := by
  obtain ⟨i1, e1⟩ := List.getElem?_eq_some_iff.1 hr
  obtain ⟨i2, e2⟩ := List.getElem?_eq_some_iff.1 hq
  rw [List.take_succ_eq_append_getElem i1, List.take_succ_eq_append_getElem i2, h, e1, e2]
  unfold PatchP.same at h1
  simp only [decide_eq_true_eq] at h1
  rw [h1]
/-- the bytes -/
noncomputable def patsB (l : List PatchX) : List UInt8 := l.flatMap PatchP.bytes
noncomputable def inner (x : RecX) : List UInt8 := BeP.parts 1 x.kind ++ (BeP.parts 8 x.txn ++ (BeP.parts 8 x.prev ++ (BeP.parts 8 x.next ++ (BeP.parts 1 (x.patches.length : Nat) ++ (patsB x.patches ++ UndoP.bytes x.undo)))))
noncomputable def body (x : RecX) : List UInt8 := BeP.parts 4 ((CrcP.sum (inner x) : Nat) : Int) ++ inner x
noncomputable def fits (x : RecX) : Bool := right x && decide ((body x).length ≤ 65535)
noncomputable def bytes (x : RecX) : List UInt8 := if fits x then BeP.parts 2 ((body x).length : Nat) ++ body x else []
theorem patsB_snoc (l : List PatchX) (k : Nat) (p : PatchX) (h : l[k]? = some p) : patsB (l.take (k + 1)) = patsB (l.take k) ++ PatchP.bytes p := by
  obtain ⟨hk, e⟩ := List.getElem?_eq_some_iff.1 h
  rw [List.take_succ_eq_append_getElem hk, e]
  simp [patsB]
theorem patch_le (p : PatchX) : (PatchP.bytes p).length ≤ 252005 := by
  unfold PatchP.bytes
  split
  · rename_i h; exact PatchP.body_le ((PatchP.right_iff p).1 h)
  · simp
theorem patsB_le (l : List PatchX) : (patsB l).length ≤ l.length * 252005 := by
  induction l with
  | nil => simp [patsB]
  | cons p l ih =>
    have h1 := patch_le p
    have : patsB (p :: l) = PatchP.bytes p ++ patsB l := by simp [patsB]
    rw [this, List.length_append, List.length_cons, Nat.add_mul]
    omega
theorem inner_length (x : RecX) : (inner x).length = 26 + (patsB x.patches).length + (UndoP.bytes x.undo).length := by
  simp [inner, BeP.parts_length]; omega
theorem body_length (x : RecX) : (body x).length = 30 + (patsB x.patches).length + (UndoP.bytes x.undo).length := by
  unfold body
  rw [List.length_append, BeP.parts_length, inner_length]; omega
theorem bytes_length (x : RecX) (h : fits x = true) : (bytes x).length = 2 + (body x).length := by
  unfold bytes
  rw [if_pos h, List.length_append, BeP.parts_length]
end RecP
end Go.Proofs.YtpklclnehlgcpaaGreat
end
section
namespace Go.Proofs.YtpklclnehlgcpaaGreat.Be
open Go.RowKit Go.Shelf

theorem infoU8 : (Tryz.prog.info? 5).map (fun i => (i.zero, i.size, i.bytes)) = some (some (.int .u8 0), 1, 1) := by kernel_rfl
theorem sizeU8 : (Tryz.prog.info? 5).map (·.size) = some 1 := by kernel_rfl

set_option maxHeartbeats 400000 in
theorem wide_any (m : Int) (w : World) :
    Calls Tryz.prog 79 #[.int .i64 m] w fun e w' => e = .returned (.bool (decide (1 ≤ m) && decide (m ≤ 8))) ∧ w = w' := by
  go_enter Tryz.func79, Tryz.ntmps79
  go_wp2
  all_goals go_ret
  all_goals simp_all
  all_goals omega

/-- make, length and capacity apart -/
theorem run_make_b (n c : Nat) (hnc : n ≤ c) (hb : c ≤ 281474976710656) (w : World) :
    (Instr.makeSlice 23 (.int .i64 (n : Int)) (.int .i64 (c : Int))).run Tryz.prog w = .ok (.slice (some ⟨w.heap.size, 0, none⟩) n c) (w.alloc (.cells (zerosV c).toArray 5)) := by
  obtain ⟨i0, hi, hz0, hz1, hz2⟩ := info_parts infoU8
  have hr := run_make (P := Tryz.prog) w 23 5 i0 (.int .u8 0) Tryz.underlying23 hi hz0 .i64 .i64 n c (by omega) (by omega) (by rw [hz2]; omega) (by omega)
  rw [hr, hz1]
  have e : madeCells (Value.cells (.int .u8 0)) ((c : Int).toNat * 1) = (zerosV c).toArray := by
    apply Array.ext
    · simp [size_madeCells, zerosV]
    · intro i h1 h2
      simp [madeCells, zerosV, Value.cells, Nat.mod_one]
  rw [e]
  simp

/-- the row that a call has made: bytes l, a slice of capacity cap at its head -/
def Row (w w' : World) (g : Nat) (l : List UInt8) (cap : Nat) : Prop :=
  w'.ownsRow w.heap.size 5 1 (.slice (some ⟨g, 0, none⟩) l.length cap) l.length (l.map byteV)

set_option maxHeartbeats 400000 in
/-- with: a new list with b's bytes, and room for more -/
theorem with_any (A : Option Addr) (n c more B : Nat) (l : List UInt8) (w : World) (h : Bytes w B A n c l) (hB : B ≤ w.heap.size) (hn : n + more ≤ 140737488355328) :
    Calls Tryz.prog 84 #[.slice A n c, .int .i64 (more : Int)] w fun e w' => e = .returned (.slice (some ⟨w.heap.size, 0, none⟩) n (n + more)) ∧ Row w w' w.heap.size l (n + more) ∧ Below w.heap.size w w' := by
  have H := Lib.hid h
  have hl := h.len
  clear h
  have hmk : ∀ W : World, (Instr.makeSlice 23 (.int .i64 (n : Int)) (.int .i64 ((n : Int) + (more : Int)))).run Tryz.prog W = .ok (.slice (some ⟨W.heap.size, 0, none⟩) n (n + more)) (W.alloc (.cells (zerosV (n + more)).toArray 5)) := fun W => by
    have := run_make_b n (n + more) (by omega) (by omega) W
    simpa using this
  have HL := Lib.hid hl
  clear hl
  obtain ⟨w1, hcp, hrow, hg⟩ := run_copy_to (P := Tryz.prog) (w := w.alloc (.cells (zerosV (n + more)).toArray 5)) 23 23 3 5 Tryz.underlying23 sizeU8 (some ⟨w.heap.size, 0, none⟩) n (n + more) w.heap.size 0 (zerosV (n + more)) 5 (heap_alloc_new w _) A n c (l.map byteV) (by simp [HL.out])
    (fun h0 => ⟨rfl, ((H.out.alloc hB _).src h0)⟩) (by simp [zerosV_length, HL.out]) (byteV_one l)
  have HR := Lib.hid hrow
  have HG := Lib.hid hg
  clear hrow hg
  go_enter Tryz.func84, Tryz.ntmps84
  go_wp2
  go_ret
  have hl := HL.out
  subst hl
  refine ⟨rfl, ⟨by simp, .inr ⟨w.heap.size, l.length + more, _, rfl, Nat.le_refl _, HR.out, by omega, by unfold maxLen; omega, ?_, ?_⟩⟩, (balloc (bsame w) _).grown HG.out (by simp) (fun k e => by cases e; exact Nat.le_refl _)⟩
  · simp [splice, zerosV_length]
  · simp [splice]

attribute [local go_sem] Oper.semAt_some

/-- what a round must keep: the box of the number -/
def KpAt (b : Nat) (W W' : World) : Prop := W'.heap[b]? = W.heap[b]?
theorem KpAt.cell {b : Nat} {W W' : World} (h : KpAt b W W') {v : Value} (hc : W.cell? ⟨b, 0, none⟩ = some v) : W'.cell? ⟨b, 0, none⟩ = some v := (World.cell?_of_block (a := ⟨b, 0, none⟩) h).trans hc

set_option maxRecDepth 100000 in
set_option maxHeartbeats 1000000 in
theorem parts1_in (F : Fence) (n : Nat) (hf : F.fn 101) (hro : F.round = none) (hn : 1 ≤ n) (l Bw Bn width : Nat) (hw1 : 1 ≤ width) (hw8 : width ≤ 8) (m : Int) (J Jx : List UInt8 → World → Prop)
    (hY : ∀ pre (x : UInt8) W, J pre W → pre.length < width → YieldAt F (n - 1) Tryz.prog l #[.int .u8 (x.toNat : Int)] W fun e W' =>
      (e = .returned (.bool true) ∧ J (pre ++ [x]) W' ∧ KpAt Bn W W') ∨ (e = .returned (.bool false) ∧ Jx (pre ++ [x]) W'))
    (W : World) (hBw : W.cell? ⟨Bw, 0, none⟩ = some (.int .i64 (width : Int))) (hBn : W.cell? ⟨Bn, 0, none⟩ = some (.int .i64 m)) (h0 : J [] W) :
    CallsIn F n Tryz.prog 101 #[.func (.yield l) #[] #[], .pointer (some ⟨Bw, 0, none⟩), .pointer (some ⟨Bn, 0, none⟩)] W fun e W' => (∃ v, e = .returned v) ∧
      ((∃ ys, ys = BeP.parts width m ∧ J ys W') ∨ (∃ pre, pre <+: BeP.parts width m ∧ Jx pre W')) := by
  have HY := Lib.hid hY
  clear hY
  refine callsIn_of_wp Tryz.func101 rfl hf ?_ hro
  simp only [Tryz.ntmps101, List.size_toArray, List.length_cons, List.length_nil, Nat.reduceAdd, Nat.reduceSub, Array.replicate_succ, Array.replicate_zero, List.push_toArray, List.append_toArray, List.nil_append, List.cons_append]
  gi_wp2
  gi_loopw [4] (fun p wr => ∃ k : Nat, k ≤ width ∧ p = .int .i64 (8 * ((width : Int) - 1) - 8 * k) ∧ wr.cell? ⟨Bn, 0, none⟩ = some (.int .i64 m) ∧ J ((BeP.parts width m).take k) wr)
    (fun p wr => (intOf p + 8).toNat)
  case atStart =>
    exact ⟨0, Nat.zero_le _, by simp, hBn, h0⟩
  case round =>
    obtain ⟨k, hk, rfl, hc, hJ⟩ := hrel
    have HJ := Lib.hid hJ
    clear hJ h0 hBn hBw
    by_cases hlt : k < width
    · have hval := BeP.part_walk width m k hlt
      have HT := Lib.hid (BeP.parts_take width m k hlt)
      obtain ⟨fn, tmps, assign, body, hy, hR⟩ := HY.out _ (BeP.part width m k) wr HJ.out (by rw [List.length_take, BeP.parts_length]; omega)
      have HR := Lib.hid hR
      clear hR
      gi_wp2
      refine HR.out.mono ?_
      rintro e W3 (⟨rfl, hJ3, hk3⟩ | ⟨rfl, hJx3⟩)
      · have hc3 := hk3.cell hc
        have HJ3 := Lib.hid hJ3
        have HK3 := Lib.hid hk3
        clear hJ3 hk3 hy
        gi_wp2
        go_roundw
        case rel => exact ⟨k + 1, by omega, by congr 1; omega, hc3, by rw [HT.out]; exact HJ3.out⟩
        case measure => simp [intOf]; omega
      · gi_wp2
        refine bodyPost_ret (results_none rfl _ _ _) rfl ?_
        refine ⟨⟨_, rfl⟩, .inr ⟨_, ?_, hJx3⟩⟩
        rw [← HT.out]
        exact List.take_prefix _ _
    · gi_wp2
      go_end0
      refine ⟨⟨_, rfl⟩, .inl ⟨_, rfl, ?_⟩⟩
      have := HJ.out
      rwa [BeP.parts_all width m k hlt] at this

set_option maxHeartbeats 400000 in
theorem parts_in (F : Fence) (n : Nat) (hf : F.fn 85) (hro : F.round = none) (width m : Int) (w : World) :
    CallsIn F n Tryz.prog 85 #[.int .i64 width, .int .i64 m] w fun e w' => e = .returned (.func (.func 101) #[] #[.pointer (some ⟨w.heap.size, 0, none⟩), .pointer (some ⟨w.heap.size + 1, 0, none⟩)]) ∧
      (w.alloc (.cells #[.int .i64 width] 3)).alloc (.cells #[.int .i64 m] 3) = w' := by
  refine callsIn_of_wp Tryz.func85 rfl hf ?_ hro
  simp only [Tryz.ntmps85, List.size_toArray, List.length_cons, List.length_nil, Nat.reduceAdd, Nat.reduceSub, Array.replicate_succ, Array.replicate_zero, List.push_toArray, List.append_toArray, List.nil_append, List.cons_append]
  gi_wp2
  go_ret
  exact ⟨rfl, rfl⟩

theorem parts_stops (F : Fence) (n : Nat) (hf : F.fn 101) (hro : F.round = none) (hn : 1 ≤ n) (Bw Bn width : Nat) (hw1 : 1 ≤ width) (hw8 : width ≤ 8) (m : Int) (w : World) (hBw : Bw < w.heap.size) (hBn : Bn < w.heap.size)
    (hcw : w.cell? ⟨Bw, 0, none⟩ = some (.int .i64 (width : Int))) (hcn : w.cell? ⟨Bn, 0, none⟩ = some (.int .i64 m)) :
    SeqStopsK F n Tryz.prog 101 #[.pointer (some ⟨Bw, 0, none⟩), .pointer (some ⟨Bn, 0, none⟩)] (fun x : UInt8 => #[Value.int .u8 (x.toNat : Int)]) (KpAt Bn) (fun ys => ys = BeP.parts width m) (fun pre => pre <+: BeP.parts width m) width w := fun l J Jx W hW _ _ hY h0 =>
  parts1_in F n hf hro hn l Bw Bn width hw1 hw8 m J Jx hY W ((hW.cell (p := ⟨Bw, 0, none⟩) hBw).trans hcw) ((hW.cell (p := ⟨Bn, 0, none⟩) hBn).trans hcn) h0

/-- what holds between two rounds of Put: the box of out holds the bytes so far, the box of the number its number -/
def PutI (w : World) (l : List UInt8) (B Bn : Nat) (m : Int) (pre : List UInt8) (W : World) : Prop :=
  ((∃ v, Boxed W B 23 v ∧ W.ownsRow w.heap.size 5 1 v (l ++ pre).length ((l ++ pre).map byteV) ∧ True) ∧ Boxed W Bn 3 (.int .i64 m)) ∧ Below w.heap.size w W

set_option maxRecDepth 100000 in
set_option maxHeartbeats 2000000 in
theorem put_wide (A : Option Addr) (n c B : Nat) (l : List UInt8) (width : Nat) (m : Int) (w : World) (h : Bytes w B A n c l) (hB : B ≤ w.heap.size) (hw1 : 1 ≤ width) (hw8 : width ≤ 8) (hn : n + width ≤ 140737488355328) :
    Calls Tryz.prog 66 #[.slice A n c, .int .i64 (width : Int), .int .i64 m] w (GivesBytes w (l ++ BeP.parts width m)) := by
  have hl := h.len
  have H := Lib.hid h
  clear h
  have HL := Lib.hid hl
  clear hl
  obtain ⟨i0, hi, hz0, hz1, hz2⟩ := info_parts infoU8
  have hwd : (decide ((1 : Int) ≤ (width : Int)) && decide ((width : Int) ≤ 8)) = true := by simp; omega
  refine (callsIn_wide (n := 5)).1 ?_
  refine callsIn_of_wp_marks Tryz.func66 rfl trivial ?_ rfl
  simp only [Tryz.ntmps66, List.size_toArray, List.length_cons, List.length_nil, Nat.reduceAdd, Nat.reduceSub, Array.replicate_succ, Array.replicate_zero, List.push_toArray, List.append_toArray, List.nil_append, List.cons_append]
  gi_wp2_with (first
    | (refine ⟨trivial, ?_⟩; gi_at_call 79; refine (callsIn_wide.2 (wide_any _ _)).mono ?_; rintro e w' ⟨rfl, rfl⟩)
    | (refine ⟨trivial, ?_⟩; gi_at_call 84; refine (callsIn_wide.2 (with_any A n c width B l w H.out hB hn)).mono ?_; rintro e w1 ⟨rfl, hrow, hb⟩)
    | (refine ⟨trivial, ?_⟩; gi_at_call 85; refine (parts_in Fence.wide _ trivial rfl _ _ _).mono ?_; rintro e w' ⟨rfl, rfl⟩))
  have HROW := Lib.hid hrow
  clear hrow hwd
  have bO := Boxed.new w1 23 (.slice (some ⟨w.heap.size, 0, none⟩) n (n + width))
  have bW := Boxed.new (w1.alloc (.cells #[.slice (some ⟨w.heap.size, 0, none⟩) n (n + width)] 23)) 3 (.int .i64 (width : Int))
  have bN := Boxed.new ((w1.alloc (.cells #[.slice (some ⟨w.heap.size, 0, none⟩) n (n + width)] 23)).alloc (.cells #[.int .i64 (width : Int)] 3)) 3 (.int .i64 m)
  simp only [World.size_alloc] at bW bN
  have hB0 : Below w.heap.size w (((w1.alloc (.cells #[.slice (some ⟨w.heap.size, 0, none⟩) n (n + width)] 23)).alloc (.cells #[.int .i64 (width : Int)] 3)).alloc (.cells #[.int .i64 m] 3)) := balloc (balloc (balloc hb _) _) _
  have hsz := hb.size
  refine wpIn_rangeFunc_ownG rfl (by omega) (gf := 101) (lb := #[.pointer (some ⟨w1.heap.size + 1, 0, none⟩), .pointer (some ⟨w1.heap.size + 1 + 1, 0, none⟩)]) rfl trivial (enters_of Tryz.func101 (by kernel_rfl) rfl)
    (parts_stops Fence.wide 4 trivial rfl (by omega) (w1.heap.size + 1) (w1.heap.size + 1 + 1) width hw1 hw8 m _ (by simp) (by simp) ((bW.alloc _).cell) bN.cell)
    (fun h k => (show _ = _ from k).trans h) (fun W l' o o' hle hl' _ _ => ?hKb) (Below.refl _ _) (fun _ => rfl)
    (PutI w l w1.heap.size (w1.heap.size + 1 + 1) m) (fun _ _ _ => False)
    (OwnFrom.and (OwnFrom.and (Own.from (holdsRow_own w.heap.size w1.heap.size 23 5 1 (fun pre => (l ++ pre).length) (fun pre => (l ++ pre).map byteV) (fun _ _ => True)) _) (Own.from (boxed_own _ _ _) _)) (ownFrom_below (Nat.le_refl _) (by simp; omega)))
    (fun _ _ _ _ _ hs _ _ => hs) ?h0
    (fun x => { tmps := #[.slice A n c, .int .i64 (width : Int), .int .i64 m, undef, undef, undef, .slice none 0 0, .pointer (some ⟨w1.heap.size, 0, none⟩), .int .u8 (x.toNat : Int), .int .i64 (width : Int), .bool true, .bool false, undef, undef, .slice A n c, .int .i64 (width : Int), .slice (some ⟨w.heap.size, 0, none⟩) n (n + width), .int .i64 (width : Int), .int .i64 m, .func (.func 101) #[] #[.pointer (some ⟨w1.heap.size + 1, 0, none⟩), .pointer (some ⟨w1.heap.size + 1 + 1, 0, none⟩)], .int .u8 (x.toNat : Int), undef, undef, undef, undef, undef], defers := [] }) ?assign ?body ?done ?stop
  case hKb =>
    show (W.putObj l' o').heap[w1.heap.size + 1 + 1]? = W.heap[w1.heap.size + 1 + 1]?
    have hlt := (Array.getElem?_eq_some_iff.1 hl').1
    simp at hle
    exact (grownBy_putObj' W l' o').block _ (by omega) (fun e => by cases e; omega)
  case h0 =>
    refine ⟨⟨⟨_, (bO.alloc _).alloc _, ?_, trivial⟩, bN⟩, hB0⟩
    have hL := HL.out
    subst hL
    have := HROW.out
    unfold Row at this
    simpa using ((this.alloc _).alloc _).alloc _
  case assign =>
    intro l' x W K hK
    gi_wp2
    exact hK
  case body =>
    rintro l' pre x W ⟨⟨⟨v, hv, hrow, -⟩, hbn⟩, hB⟩ hlt
    have hc := hv.cell
    have hBs := hB.size
    have hLn := HL.out
    have hlen : (l ++ pre).length + 1 ≤ 140737488355328 := by simp; omega
    clear hLn
    gi_wp2_with (gi_at_builtin; refine wpListIn_append_own _ rfl _ _ 23 rfl w.heap.size 5 i0 (.int .u8 0) 1 1 Tryz.underlying23 hi hz0 hz1 hz2 rfl (by decide) _ _ _ rfl (hrow.alloc _) ⟨W.heap.size, 0, none⟩ 1 1 [.int .u8 (x.toNat : Int)] rfl rfl (cell_one_new _ _ _) (by simp [Value.oneCell']) (by unfold maxLen; omega) (by omega) (by simp; omega) ?_; intro v' w1' hown' hgrow _; obtain ⟨g', cap', rfl⟩ := ownsRow_succ hown'; obtain ⟨hv1, hv2, hr2, hk2, hb2⟩ := hv.appended (by decide) hrow hBs hsz hown' hgrow; have hbn2 := ((hbn.alloc _).kept hgrow (hbn.not_row (by decide) hrow)).other (B' := w1.heap.size) (by omega) (.slice (some ⟨g', 0, none⟩) ((l ++ pre).length + 1) cap'); have hc1 := hv1.cell; have hf1 := hv1.frozen)
    simp only [List.length_append] at hv2 hr2 hk2 hb2 hbn2
    refine ⟨hk2.from _, (show _ = _ from hbn2).trans (show _ = _ from hbn).symm, ⟨⟨⟨_, hv2, ?_, trivial⟩, hbn2⟩, hB.trans hb2⟩⟩
    have : ((l ++ (pre ++ [x])).map byteV) = (l ++ pre).map byteV ++ [.int .u8 (x.toNat : Int)] := by simp [byteV]
    rw [this]
    have h3 : (l ++ (pre ++ [x])).length = l.length + pre.length + 1 := by simp; omega
    rw [h3]
    exact hr2
  case done =>
    rintro D ys W hD rfl ⟨⟨⟨v, hv, hrow, -⟩, hbn⟩, hB⟩ hK
    have hc := hv.cell
    gi_wp2
    refine ⟨by simp, .inl ⟨_, _, rfl, run_takeDeferred hK, ?_⟩⟩
    obtain ⟨A', n', c', rfl, hby⟩ := Bytes.of_own (ownsRow_putObj hrow (.deferred none) hK rfl)
    exact ⟨_, results_tmp rfl _ _ _, A', n', c', rfl, hby, hB.trans (belowK_b (w := w) (Nat.le_refl _) W D _ _ (by simp at hD; omega) hK rfl rfl)⟩
  case stop =>
    rintro D c' pre W _ _ h _
    exact h.elim
end Go.Proofs.YtpklclnehlgcpaaGreat.Be
end
section
namespace Go.Proofs.YtpklclnehlgcpaaGreat
open Go.RowKit
set_option maxRecDepth 100000

theorem arr64 : ArrT Tryz.prog 94 64 := ⟨⟨5, Tryz.underlying94, Tryz.underlying5, Be.sizeU8⟩, by kernel_rfl, by kernel_rfl⟩
theorem al64_fold : Instr.alloc 94 true (.tuple #[]) = alSem 94 := rfl
theorem bd64_fold (ps : Array (Nat × Value)) : Instr.build 94 ps = bdSem 94 ps := rfl
theorem ld64_fold (v : Value) : Instr.loadAt 94 v = ldSem 94 v := rfl
theorem st64_fold (a v : Value) : Instr.storeAt 94 a v = stSem 94 a v := rfl
theorem arr512 : ArrT Tryz.prog 22 512 := ⟨⟨5, Tryz.underlying22, Tryz.underlying5, Be.sizeU8⟩, by kernel_rfl, by kernel_rfl⟩
theorem ld512_fold (v : Value) : Instr.loadAt 22 v = ldSem 22 v := rfl
theorem arrPage : ArrT Tryz.prog 30 512 := ⟨⟨5, Tryz.underlying30, Tryz.underlying5, Be.sizeU8⟩, by kernel_rfl, by kernel_rfl⟩
theorem alPage_fold : Instr.alloc 30 true (.tuple #[]) = alSem 30 := rfl
theorem bdPage_fold (ps : Array (Nat × Value)) : Instr.build 30 ps = bdSem 30 ps := rfl
theorem ldPage_fold (v : Value) : Instr.loadAt 30 v = ldSem 30 v := rfl
theorem stPage_fold (a v : Value) : Instr.storeAt 30 a v = stSem 30 a v := rfl
theorem sl64_fold (x : Value) (lo hi mx : Option Value) : Instr.sliceAt 94 x lo hi mx = slSem 94 x lo hi mx := rfl
theorem sl512_fold (x : Value) (lo hi mx : Option Value) : Instr.sliceAt 22 x lo hi mx = slSem 22 x lo hi mx := rfl
theorem slPage_fold (x : Value) (lo hi mx : Option Value) : Instr.sliceAt 30 x lo hi mx = slSem 30 x lo hi mx := rfl
end Go.Proofs.YtpklclnehlgcpaaGreat
end
section
namespace Go.Proofs.YtpklclnehlgcpaaGreat.Reg
open Go.RowKit

/-- a box that was not there -/
def fresh (B : Nat) (cs : Array Value) : SP ext := ⟨fun v w => ∃ g, v = .pointer (some ⟨g, 0, none⟩) ∧ B ≤ g ∧ Str w g cs, fun _ _ _ hb ⟨g, e, h1, h2⟩ => ⟨g, e, h1, h2.next hb⟩⟩
end Go.Proofs.YtpklclnehlgcpaaGreat.Reg
end
section
namespace Go.Proofs.YtpklclnehlgcpaaGreat
open Go.RowKit
namespace Reg

/-- nothing below N turns -/
def extN (N : Nat) : Way := ⟨fun w w' => Below N w w', Below.refl N, fun _ _ _ h k => h.trans k, fun _ => ⟨rfl, rfl, rfl, Nat.le_refl _, fun _ _ => rfl⟩⟩

/-- a word on what has come up, the slots and the world -/
abbrev Word := Array Bool → Act → World → Prop
/-- what is to be shown of an operation, beside such a word -/
def OblJ {R : Way} (P : Program) (ops : Array Oper) (Q : Exit → Act → World → Prop) (T : List (SP R)) (J : Word) (a0 : Act) (W : World) (j : Nat) (o : Oper) (s : List (Tmp × Option Nat)) : Prop :=
  ∀ (listed : Array Bool) (a : Act) (w : World), R.rel W w → sights T a0 a w s → listed.size = ops.size → a.tmps.size = a0.tmps.size → listed.getD j true = false → (∀ i, waits ops j i = true → listed.getD i false = true) → J listed a w →
    (Region.wanted o (yielded ops a.tmps) = true → o.wp P a w (fun a' w' => Done T j o a w a' w' ∧ J (listed.setIfInBounds j true) a' w') Q) ∧
    (Region.wanted o (yielded ops a.tmps) = false → predAt T j undef w ∧ J (listed.setIfInBounds j true) (a.put o.dst undef) w)
def OblsJ {R : Way} (P : Program) (ops : Array Oper) (Q : Exit → Act → World → Prop) (T : List (SP R)) (J : Word) (a0 : Act) (W : World) : Nat → List Oper → List (List (Tmp × Option Nat)) → Prop
  | _, [], _ => True
  | j, o :: l, [] => OblJ P ops Q T J a0 W j o [] ∧ OblsJ P ops Q T J a0 W (j + 1) l []
  | j, o :: l, s :: L => OblJ P ops Q T J a0 W j o s ∧ OblsJ P ops Q T J a0 W (j + 1) l L

section
variable {R : Way} {P : Program} {ops : Array Oper} {Q : Exit → Act → World → Prop} {T : List (SP R)} {J : Word} {a0 a : Act} {W w : World}
theorem oblsJ_at : ∀ (l : List Oper) (k i : Nat) (o : Oper), OblsJ P ops Q T J a0 W k l (lookAll ops k l) → l[i]? = some o → OblJ P ops Q T J a0 W (k + i) o (look1 ops (k + i) o)
  | [], _, _, _, _, h => by simp at h
  | _ :: _, _, 0, _, hO, h => by
    simp at h
    subst h
    exact hO.1
  | _ :: l, k, i + 1, o, hO, h => by
    have := oblsJ_at l (k + 1) i o hO.2 (by simpa using h)
    rwa [show k + 1 + i = k + (i + 1) by omega] at this

theorem wpAny_J (hf : Form ops a0.tmps.size) (hobl : OblsJ P ops Q T J a0 W 0 ops.toList (lookAll ops 0 ops.toList)) (hfin : ∀ w' listed, R.rel W w' → (∀ i, i < ops.size → listed.getD i false = true) → Fin (fun a w => J listed a w → Q .normal a w) w' (ops.toList.map (·.dst)) T a0) :
    ∀ (fuel : Nat) (listed : Array Bool) (a : Act) (w : World), listed.toList.count false = fuel → Inv ops T a0 W listed a w → J listed a w → wpAny P .any ops Q fuel listed a w := by
  have hend : ∀ (listed : Array Bool) (a : Act) (w : World), Inv ops T a0 W listed a w → J listed a w → Region.ready .any ops listed = [] → Q .normal a w := by
    intro listed a w hI hJ hr
    have hall := all_listed hf hI.lsize hr
    have h1 := fin_of (fun a w => J listed a w → Q .normal a w) a ops.toList T a0 (hfin w listed hI.ext hall) (fun i o ho => by
      have ho' : ops[i]? = some o := by simpa using ho
      exact hI.vals i o ho' (hall i (Array.getElem?_eq_some_iff.1 ho').1))
    rw [foldl_put a ops.toList a0 hI.size.symm hI.defers.symm (fun t ht => (hI.other t fun i hi => by
      obtain ⟨o, ho, hd⟩ := writer_some hi
      exact absurd hd (ht o (by rw [Array.mem_toList_iff]; exact Array.mem_of_getElem? ho))).symm)] at h1
    exact h1 hJ
  intro fuel
  induction fuel with
  | zero =>
    intro listed a w hc hI hJ
    have hr : Region.ready .any ops listed = [] := by
      rw [List.eq_nil_iff_forall_not_mem]
      intro j hj
      have h1 := (mem_ready.1 hj).1
      rw [Array.getD_eq_getD_getElem?] at h1
      cases hx : listed[j]? with
      | none => rw [hx] at h1; cases h1
      | some b =>
        rw [hx] at h1
        have h2 : b = false := h1
        subst h2
        have h3 : false ∈ listed.toList := by rw [Array.mem_toList_iff]; exact Array.mem_of_getElem? hx
        have := List.count_pos_iff.2 h3
        omega
    exact ⟨hr, hend _ _ _ hI hJ hr⟩
  | succ fuel ih =>
    intro listed a w hc hI hJ
    refine ⟨hend _ _ _ hI hJ, fun j hj => ?_⟩
    obtain ⟨hun, o, ho, hall⟩ := mem_ready.1 hj
    have hO := oblsJ_at ops.toList 0 j o hobl (by simpa using ho)
    rw [Nat.zero_add] at hO
    obtain ⟨hy, hn⟩ := hO listed a w hI.ext (sights_mk j _ fun t ht => hI.sight hf ho hun hall ht) hI.lsize hI.size hun (fun i hi => by
      obtain ⟨o', ho', e, he, hb, rfl⟩ := waits_edge hi
      rw [ho] at ho'
      cases ho'
      exact hall e he hb) hJ
    have hcnt : (listed.setIfInBounds j true).toList.count false = fuel := by
      have hjl : j < listed.size := by rw [hI.lsize]; exact (Array.getElem?_eq_some_iff.1 ho).1
      have hx : listed.toList[j]? = some false := by
        rw [Array.getD_eq_getD_getElem?, Array.getElem?_eq_getElem hjl] at hun
        have h2 : listed[j] = false := hun
        simp [hjl, h2]
      have := count_set listed.toList j hx
      rw [Array.toList_setIfInBounds]
      omega
    unfold wpOp
    rw [ho]
    dsimp only
    split
    · rename_i hw
      exact .inl (Oper.wp_mono (fun a' w' ⟨⟨v, e, hz, hp, hb⟩, hJ'⟩ => by
        subst e
        exact ih _ _ _ hcnt (hI.step hf ho hun hall hp hz hb) hJ') (hy hw))
    · rename_i hw
      have h2 := hn (by simpa using hw)
      exact ih _ _ _ hcnt (hI.step hf ho hun hall h2.1 (fun _ => rfl) (R.refl w)) h2.2

end
/-- boxes that the region makes (who makes it, its slot, who stores into it): what lies in them, and that they are apart -/
def Bx (N : Nat) (Z : Array Value) (X : Tmp → Array Value) (K : List (Nat × Tmp × Nat)) : Word := fun listed a w =>
  (∀ b ∈ K, listed.getD b.1 false = true → ∃ g, a.eval (.tmp b.2.1) = .pointer (some ⟨g, 0, none⟩) ∧ N ≤ g ∧ Str w g (if listed.getD b.2.2 false = true then X b.2.1 else Z)) ∧
  (∀ b ∈ K, ∀ c ∈ K, b ≠ c → listed.getD b.1 false = true → listed.getD c.1 false = true → a.eval (.tmp b.2.1) ≠ a.eval (.tmp c.2.1)) ∧
  (∀ b ∈ K, listed.getD b.2.2 false = true → listed.getD b.1 false = true)
def okK (K : List (Nat × Tmp × Nat)) : Prop := ∀ b ∈ K, ∀ c ∈ K, ((b.1 = c.1 ∨ b.2.1 = c.2.1 ∨ b.2.2 = c.2.2) → b = c) ∧ b.1 ≠ c.2.2
section
variable {N : Nat} {Z : Array Value} {X : Tmp → Array Value} {K : List (Nat × Tmp × Nat)} {listed : Array Bool} {a : Act} {w w' : World} {j : Nat}
end
/-- what an operation leaves that turns nothing that is there -/
def DoneB {R : Way} (T : List (SP R)) (j : Nat) (o : Oper) (a : Act) (w : World) (a' : Act) (w' : World) : Prop := ∃ v, a' = a.put o.dst v ∧ (o.dst = none → v = undef) ∧ predAt T j v w' ∧ Below w.heap.size w w'
section
variable {N : Nat} {Z : Array Value} {X : Tmp → Array Value} {K : List (Nat × Tmp × Nat)} {P : Program} {ops : Array Oper} {Q : Exit → Act → World → Prop} {T : List (SP (extN N))} {a0 : Act} {W : World} {j : Nat} {o : Oper} {s : List (Tmp × Option Nat)}
theorem wp_eqvB {R : Way} {T : List (SP R)} {a : Act} {w : World} {c : Value} (hd : o.dst ≠ none) (h : (execOp a.eval o).run P w = .ok (.value c) w) (hT : predAt T j c w) : o.wp P a w (DoneB T j o a w) Q := by
  unfold Oper.wp
  rw [h]
  exact ⟨c, rfl, fun h => absurd h hd, hT, bsame w⟩
theorem free {p q : Prop} {a : Act} (hg : o.guard = none) (h : p) : (Region.wanted o (yielded ops a.tmps) = true → p) ∧ (Region.wanted o (yielded ops a.tmps) = false → q) :=
  ⟨fun _ => h, fun hw => by simp [Region.wanted, hg] at hw⟩
end
end Reg
end Go.Proofs.YtpklclnehlgcpaaGreat
end
section
namespace Go.Proofs.YtpklclnehlgcpaaGreat
open Go.RowKit

/-- the address of a part, under a name that the walk does not look behind -/
def cutA (a : Option Addr) (l m s : Nat) : Option Addr := if m = l then a else a.map (·.add (l * s))
theorem cut_fold (a : Option Addr) (l h m s : Nat) : sliced a l h m s = .slice (cutA a l m s) (h - l) (m - l) := rfl

theorem Bytes.cut {w : World} {B n c : Nat} {A : Option Addr} {l : List UInt8} (h : Bytes w B A n c l) (lo hi m : Nat) (h1 : lo ≤ hi) (h2 : hi ≤ n) (h3 : hi ≤ m) (h4 : m ≤ c) :
    Bytes w B (cutA A lo m 1) (hi - lo) (m - lo) ((l.drop lo).take (hi - lo)) := by
  obtain ⟨hl, hc, hm, hx⟩ := h
  refine ⟨by simp; omega, by omega, by omega, fun hn => ?_⟩
  obtain ⟨b, o, rfl, hb, hcell⟩ := hx (by omega)
  unfold cutA
  rw [if_neg (by omega)]
  refine ⟨b, o + lo, by simp [add_none], hb, fun j u hu => ?_⟩
  rw [List.getElem?_take] at hu
  split at hu
  · rw [List.getElem?_drop] at hu
    rw [Nat.add_assoc]
    exact hcell _ u hu
  · cases hu
end Go.Proofs.YtpklclnehlgcpaaGreat
end
