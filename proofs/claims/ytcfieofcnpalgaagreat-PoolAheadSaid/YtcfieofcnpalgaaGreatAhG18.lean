/-
  Parts of the proof of PoolAhead.
-/
import Derived.Test.YtcfieofcnpalgaaGreatAhG16
import Derived.Test.YtcfieofcnpalgaaGreatAhG17
section
namespace Go.Proofs.YtcfieofcnpalgaaGreat.PageW
open Go.RowKit
attribute [local go_sem ↓] alPage_fold ldPage_fold stPage_fold bdPage_fold slPage_fold

set_option maxRecDepth 100000 in
set_option maxHeartbeats 400000 in
theorem sum_any (l : List UInt8) (hl : l.length = 512) (w : World) : Calls Tryz.prog 46 #[.agg (rowV l)] w fun e w' => e = .returned (.int .i64 ((CrcP.sum (l.drop 4) : Nat) : Int)) ∧ Below w.heap.size w w' := by
  have hpt := (Str.new w (rowV l) 42).part 4 508 508 (by omega) (by omega) (by unfold maxLen; omega)
  rw [List.take_of_length_le (by rw [List.length_drop]; omega)] at hpt
  have HP := Lib.hid hpt
  have hsl := fun W => run_sl_from (P := Tryz.prog) arrPage w.heap.size 4 (by omega) W
  simp only [Nat.reduceSub, Int.cast_ofNat_Int] at hsl
  have hs := CrcP.sum_lt (l.drop 4)
  clear hpt hl
  go_enter Tryz.func46, Tryz.ntmps46
  go_wp2_with fail
  refine (CrcW.sum_any _ _ _ _ _ _ HP.out (Nat.le_refl _)).mono ?_
  rintro e w1 ⟨rfl, hb⟩
  generalize hsm : CrcP.sum (l.drop 4) = sm at *
  have HSM := Lib.hid hsm
  clear hsm
  go_wp2_with fail
  go_ret
  rw [HSM.out]
  exact ⟨rfl, bstep (balloc (bsame w) _) hb⟩

set_option maxRecDepth 100000 in
set_option maxHeartbeats 1000000 in
theorem sealed_any (l : List UInt8) (hl : l.length = 512) (w : World) : Calls Tryz.prog 18 #[.agg (rowV l)] w fun e w' => e = .returned (.agg (rowV (PageP.sealed l))) ∧ Below w.heap.size w w' := by
  have hal := fun W => run_al (P := Tryz.prog) arrPage W
  have HL := Lib.hid hl
  have HLO := Lib.hid (PageP.sealed_length l hl)
  clear hl
  go_enter Tryz.func18, Tryz.ntmps18
  go_wp2_with fail
  generalize hW0 : ((w).alloc (.cells (rowV l) 42)).alloc (.cells (rowV (SlotP.zeros 512)) 42) = W0
  have HS0_0 : Hid (Str W0 (w.heap.size) (rowV l)) := Lib.hid (by rw [← hW0]; have := (Str.new (w) (rowV l) 42).alloc (.cells (rowV (SlotP.zeros 512)) 42); simpa using this)
  have HS1_0 : Hid (Str W0 (w.heap.size + 1) (rowV (SlotP.zeros 512))) := Lib.hid (by rw [← hW0]; have := Str.new ((w).alloc (.cells (rowV l) 42)) (rowV (SlotP.zeros 512)) 42; simpa using this)
  have HB_0 : Hid (Below w.heap.size w W0) := Lib.hid (by rw [← hW0]; exact balloc (balloc (bsame w) _) _)
  have hw_0 := HB_0.out.size
  clear hW0
  have hl0_0 := HS0_0.out.lt
  have hl1_0 := HS1_0.out.lt
  refine Reg.wp_region_tail (R := ext) (W := W0) [Reg.eqv (.agg (rowV l)), Reg.eqv (.agg (rowV l)), Reg.eqv (.int .i64 ((CrcP.sum (l.drop 4) : Nat) : Int)), Reg.eqv (.agg (rowV (PageP.sealed l)))] 7 4 _ [[(1, none)], [(1, none)], [(4, some 1)], [(3, some 0), (5, some 2)]] rfl (by kernel_rfl) (by kernel_rfl) (by rfl) (by rfl) rfl (by kernel_rfl) ?_ [some 3, some 4, some 5, some 6] (by kernel_rfl) ?_
  · refine ⟨?_, ?_, ?_, ?_, trivial⟩
    · intro ax wx hx hs
      obtain ⟨e1, -⟩ := hs
      have g1 := Reg.ev (v := .pointer (some ⟨w.heap.size, 0, none⟩)) e1
      refine Reg.obl_free rfl ?_
      have hx' : Below W0.heap.size W0 wx := hx
      have hld := run_ld (P := Tryz.prog) arrPage (HS0_0.out.next hx') HL.out
      exact Reg.wp_eqv (Option.some_ne_none _) (by go_simp) rfl
    · intro ax wx hx hs
      obtain ⟨e1, -⟩ := hs
      have g1 := Reg.ev (v := .pointer (some ⟨w.heap.size, 0, none⟩)) e1
      refine Reg.obl_free rfl ?_
      have hx' : Below W0.heap.size W0 wx := hx
      have hld := run_ld (P := Tryz.prog) arrPage (HS0_0.out.next hx') HL.out
      exact Reg.wp_eqv (Option.some_ne_none _) (by go_simp) rfl
    · intro ax wx hx hs
      obtain ⟨e4, -⟩ := hs
      have g4 := Reg.ev (v := .agg (rowV l)) e4
      refine Reg.obl_free rfl ?_
      go_simp
      refine (sum_any l HL.out _).mono ?_
      rintro e wy ⟨rfl, hby⟩
      exact Reg.done (Option.some_ne_none _) rfl hby
    · intro ax wx hx hs
      obtain ⟨e3, e5, -⟩ := hs
      have g3 := Reg.ev (v := .agg (rowV l)) e3
      have g5 := Reg.ev (v := .int .i64 ((CrcP.sum (l.drop 4) : Nat) : Int)) e5
      refine Reg.obl_free rfl ?_
      go_simp
      refine (with_any l HL.out 0 4 _ (by omega) (by omega) (by omega) _).mono ?_
      rintro e wy ⟨rfl, hby⟩
      exact Reg.done (Option.some_ne_none _) rfl hby
  · intro W1 hwf
    simp only [Reg.Fin]
    rintro _ rfl _ rfl _ rfl _ rfl
    have hwf' : Below W0.heap.size W0 W1 := hwf
    have hV1 := HS1_0.out.next hwf'
    have hst := run_st (P := Tryz.prog) arrPage hV1 (by rw [rowV_size]; exact SlotPut.zeros_len 512) HLO.out
    have HB7 := Lib.hid (below_setRow (bstep HB_0.out hwf') (by omega : w.heap.size ≤ w.heap.size + 1) (rowV (PageP.sealed l)))
    have HS7 := Lib.hid (hV1.setRow (cs' := rowV (PageP.sealed l)))
    clear hwf hwf' hV1 hal
    refine Reg.Goal.mk ?_
    go_simp
    go_wp2_with fail
    exact bodyPost_ret (v := .agg (rowV (PageP.sealed l))) (results_arr arrPage Tryz.results18 _ HS7.out HLO.out rfl) rfl ⟨rfl, HB7.out⟩

set_option maxHeartbeats 400000 in
theorem none_any (A : Option Addr) (n c B : Nat) (l : List UInt8) (w : World) (h : Bytes w B A n c l) : Calls Tryz.prog 57 #[.slice A n c] w fun e w' => e = .returned (.bool (PageP.allz l)) ∧ w = w' := by
  have hn := Nat.le_trans h.2.1 h.2.2.1
  unfold maxLen at hn
  have HLN := Lib.hid h.len
  have HY := Lib.hid h
  clear h
  go_enter Tryz.func57, Tryz.ntmps57
  go_wp2
  go_loop [7] (fun i => ∃ k : Nat, k ≤ n ∧ i = .int .i64 (k : Int) ∧ PageP.allz (l.take k) = true) (fun i => n - (intOf i).toNat)
  case atStart => exact ⟨0, Nat.zero_le _, rfl, rfl⟩
  case round =>
    obtain ⟨k, hk, rfl, hz⟩ := hrel
    have HZ := Lib.hid hz
    clear hz
    by_cases hlt : k < n
    · have hkl : k < l.length := by rw [HLN.out]; exact hlt
      obtain ⟨b, o, rfl, hbB, hcell⟩ := HY.out.at_ hlt
      unfold byteV at hcell
      have HS := Lib.hid (PageP.allz_succ l k hkl)
      have HNO := Lib.hid (PageP.allz_no l k hkl)
      generalize hc : l[k] = cb at *
      clear hc hkl
      have hcl := cb.toNat_lt
      by_cases h0 : cb = 0
      · subst h0
        have h00 : ((0 : UInt8).toNat : Int) = 0 := rfl
        rw [h00] at hcell
        go_wp2
        go_round
        case rel => exact ⟨k + 1, by omega, by go_num, by rw [HS.out, HZ.out]; rfl⟩
        case measure => simp [intOf]; omega
      · have hne : ((cb.toNat : Int) != 0) = true := by
          rw [bne_iff_ne]
          intro e
          exact h0 (UInt8.toNat.inj (by show cb.toNat = 0; omega))
        go_wp2
        go_ret
        rw [HNO.out h0]
        exact ⟨rfl, rfl⟩
    · have HA : Hid (PageP.allz l = true) := Lib.hid (by have := HZ.out; rwa [List.take_of_length_le (by rw [HLN.out]; omega)] at this)
      go_wp2
      go_ret
      rw [HA.out]
      exact ⟨rfl, rfl⟩

def Chk (w : World) (l : List UInt8) (i : Value) (wr : World) : Prop := ∃ k : Nat, k ≤ 7 ∧ i = .int .i64 (k : Int) ∧ PageP.slotsOk l k = true ∧ Str wr w.heap.size (rowV l) ∧ Below w.heap.size w wr
set_option maxRecDepth 100000 in
set_option maxHeartbeats 2000000 in
theorem check_any (l : List UInt8) (hl : l.length = 512) (no : Int) (w : World) : Calls Tryz.prog 35 #[.agg (rowV l), .int .i64 no] w fun e w' => e = .returned (.int .i64 (PageP.code (PageP.right l no))) ∧ Below w.heap.size w w' := by
  have HL := Lib.hid hl
  have HP24 : Hid (∀ W, Str W w.heap.size (rowV l) → Bytes W W.heap.size (some ⟨w.heap.size, 24, none⟩) 8 488 ((l.drop 24).take 8)) := Lib.hid (fun W hS => hS.part 24 8 488 (by omega) (by omega) (by unfold maxLen; omega))
  have HP480 : Hid (∀ W, Str W w.heap.size (rowV l) → Bytes W W.heap.size (some ⟨w.heap.size, 480, none⟩) 32 32 (l.drop 480)) := Lib.hid (fun W hS => by
    have := hS.part 480 32 32 (by omega) (by omega) (by unfold maxLen; omega)
    rwa [List.take_of_length_le (by rw [List.length_drop]; omega)] at this)
  have hsl1 := fun W => run_sl (P := Tryz.prog) arrPage w.heap.size 24 32 (by omega) (by omega) (by omega) W
  have hsl2 := fun W => run_sl_from (P := Tryz.prog) arrPage w.heap.size 480 (by omega) W
  simp only [Nat.reduceSub, Int.cast_ofNat_Int] at hsl1 hsl2
  have HR := Lib.hid (PageP.right_eq l no)
  clear hl
  cases hc1 : (NumP.val l 0 4 == ((CrcP.sum (l.drop 4) : Nat) : Int))
  · have HF : Hid (PageP.right l no = false) := Lib.hid (by rw [HR.out, hc1]; rfl)
    rw [HF.out]
    have hb1 : (NumP.val l 0 4 != ((CrcP.sum (l.drop 4) : Nat) : Int)) = true := by rw [bne, hc1]; rfl
    clear hc1
    go_enter Tryz.func35, Tryz.ntmps35
    go_wp2_with fail
    generalize hW0 : (w).alloc (.cells (rowV l) 42) = W0
    have HS0_0 : Hid (Str W0 (w.heap.size) (rowV l)) := Lib.hid (by rw [← hW0]; have := Str.new (w) (rowV l) 42; simpa using this)
    have HB_0 : Hid (Below w.heap.size w W0) := Lib.hid (by rw [← hW0]; exact balloc (bsame w) _)
    have hw_0 := HB_0.out.size
    clear hW0
    have hl0_0 := HS0_0.out.lt
    generalize hv0 : NumP.val l 0 4 = x0 at *
    generalize hvs : CrcP.sum (l.drop 4) = xs at *
    generalize hvn : NumP.val l 12 2 = xn at *
    have HV0 := Lib.hid hv0
    have HVS := Lib.hid hvs
    have HVN := Lib.hid hvn
    clear hv0 hvs hvn
    refine Reg.wp_region_vals (R := ext) (W := W0) [Reg.eqv (.agg (rowV l)), Reg.eqv (.int .i64 x0), Reg.eqv (.agg (rowV l)), Reg.eqv (.int .i64 (xs : Int)), Reg.eqv (.bool true), Reg.eqv (.bool true), Reg.eqv undef, Reg.eqv undef, Reg.eqv undef, Reg.eqv undef, Reg.eqv (.bool true)] 39 [[(2, none)], [(8, some 0)], [(2, none)], [(10, some 2)], [(9, some 1), (11, some 3)], [(12, some 4)], [(2, none), (13, some 5)], [(14, some 6), (13, some 5)], [(1, none), (13, some 5)], [(15, some 7), (16, some 8), (13, some 5)], [(13, some 5), (17, some 9)]] rfl (by kernel_rfl) (by kernel_rfl) (by kernel_rfl) ?_ [some 8, some 9, some 10, some 11, some 12, some 13, some 14, some 15, some 16, some 17, some 18] (by kernel_rfl) ?_
    · refine ⟨?_, ?_, ?_, ?_, ?_, ?_, ?_, ?_, ?_, ?_, ?_, trivial⟩
      · intro ax wx hx hs
        obtain ⟨e2, -⟩ := hs
        have g2 := Reg.ev (v := .pointer (some ⟨w.heap.size, 0, none⟩)) e2
        refine Reg.obl_free rfl ?_
        have hx' : Below W0.heap.size W0 wx := hx
        have hld := run_ld (P := Tryz.prog) arrPage (HS0_0.out.next hx') HL.out
        exact Reg.wp_eqv (Option.some_ne_none _) (by go_simp) rfl
      · intro ax wx hx hs
        obtain ⟨e8, -⟩ := hs
        have g8 := Reg.ev (v := .agg (rowV l)) e8
        refine Reg.obl_free rfl ?_
        go_simp
        refine (num_any l HL.out 0 4 (by omega) (by omega) (by omega) _).mono ?_
        rintro e wy ⟨rfl, hby⟩
        rw [HV0.out]
        exact Reg.done (Option.some_ne_none _) rfl hby
      · intro ax wx hx hs
        obtain ⟨e2, -⟩ := hs
        have g2 := Reg.ev (v := .pointer (some ⟨w.heap.size, 0, none⟩)) e2
        refine Reg.obl_free rfl ?_
        have hx' : Below W0.heap.size W0 wx := hx
        have hld := run_ld (P := Tryz.prog) arrPage (HS0_0.out.next hx') HL.out
        exact Reg.wp_eqv (Option.some_ne_none _) (by go_simp) rfl
      · intro ax wx hx hs
        obtain ⟨e10, -⟩ := hs
        have g10 := Reg.ev (v := .agg (rowV l)) e10
        refine Reg.obl_free rfl ?_
        go_simp
        refine (sum_any l HL.out _).mono ?_
        rintro e wy ⟨rfl, hby⟩
        rw [HVS.out]
        exact Reg.done (Option.some_ne_none _) rfl hby
      · intro ax wx hx hs
        obtain ⟨e9, e11, -⟩ := hs
        have g9 := Reg.ev (v := .int .i64 x0) e9
        have g11 := Reg.ev (v := .int .i64 (xs : Int)) e11
        exact Reg.obl_free rfl (Reg.wp_eqv (Option.some_ne_none _) (by go_simp) rfl)
      · intro ax wx hx hs
        obtain ⟨e12, -⟩ := hs
        have g12 := Reg.ev (v := .bool true) e12
        exact Reg.obl_free rfl (Reg.wp_eqv (Option.some_ne_none _) (by go_simp) rfl)
      · intro ax wx hx hs
        obtain ⟨e2, e13, -⟩ := hs
        have g2 := Reg.ev (v := .pointer (some ⟨w.heap.size, 0, none⟩)) e2
        have g13 := Reg.ev (v := .bool true) e13
        exact Reg.obl_skip rfl rfl e13 rfl rfl
      · intro ax wx hx hs
        obtain ⟨e14, e13, -⟩ := hs
        have g14 := Reg.ev (v := undef) e14
        have g13 := Reg.ev (v := .bool true) e13
        exact Reg.obl_skip rfl rfl e13 rfl rfl
      · intro ax wx hx hs
        obtain ⟨e1, e13, -⟩ := hs
        have g1 := Reg.ev (v := .int .i64 no) e1
        have g13 := Reg.ev (v := .bool true) e13
        exact Reg.obl_skip rfl rfl e13 rfl rfl
      · intro ax wx hx hs
        obtain ⟨e15, e16, e13, -⟩ := hs
        have g15 := Reg.ev (v := undef) e15
        have g16 := Reg.ev (v := undef) e16
        have g13 := Reg.ev (v := .bool true) e13
        exact Reg.obl_skip rfl rfl e13 rfl rfl
      · intro ax wx hx hs
        obtain ⟨e13, e17, -⟩ := hs
        have g13 := Reg.ev (v := .bool true) e13
        have g17 := Reg.ev (v := undef) e17
        exact Reg.obl_free rfl (Reg.wp_eqv (Option.some_ne_none _) (by go_simp) rfl)
    · intro W1 hwf
      simp only [Reg.Fin]
      rintro _ rfl _ rfl _ rfl _ rfl _ rfl _ rfl _ rfl _ rfl _ rfl _ rfl _ rfl
      go_simp
      have HS0_1 := Lib.hid (HS0_0.out.next hwf)
      have HB_1 := Lib.hid (bstep HB_0.out hwf)
      have hw_1 := HB_1.out.size
      have hws_1 := (hwf).size
      clear HS0_0
      clear hwf
      have hl0_1 := HS0_1.out.lt
      go_wp2_with fail
      go_ret
      exact ⟨rfl, HB_1.out⟩
  have hb1 : (NumP.val l 0 4 != ((CrcP.sum (l.drop 4) : Nat) : Int)) = false := by rw [bne, hc1]; rfl
  rw [hc1] at HR
  clear hc1
  cases hc2 : (NumP.val l 12 2 == no)
  · have HF : Hid (PageP.right l no = false) := Lib.hid (by rw [HR.out, hc2]; rfl)
    rw [HF.out]
    have hb2 : (NumP.val l 12 2 != no) = true := by rw [bne, hc2]; rfl
    clear hc2
    go_enter Tryz.func35, Tryz.ntmps35
    go_wp2_with fail
    generalize hW0 : (w).alloc (.cells (rowV l) 42) = W0
    have HS0_0 : Hid (Str W0 (w.heap.size) (rowV l)) := Lib.hid (by rw [← hW0]; have := Str.new (w) (rowV l) 42; simpa using this)
    have HB_0 : Hid (Below w.heap.size w W0) := Lib.hid (by rw [← hW0]; exact balloc (bsame w) _)
    have hw_0 := HB_0.out.size
    clear hW0
    have hl0_0 := HS0_0.out.lt
    generalize hv0 : NumP.val l 0 4 = x0 at *
    generalize hvs : CrcP.sum (l.drop 4) = xs at *
    generalize hvn : NumP.val l 12 2 = xn at *
    have HV0 := Lib.hid hv0
    have HVS := Lib.hid hvs
    have HVN := Lib.hid hvn
    clear hv0 hvs hvn
    refine Reg.wp_region_vals (R := ext) (W := W0) [Reg.eqv (.agg (rowV l)), Reg.eqv (.int .i64 x0), Reg.eqv (.agg (rowV l)), Reg.eqv (.int .i64 (xs : Int)), Reg.eqv (.bool false), Reg.eqv (.bool false), Reg.eqv (.agg (rowV l)), Reg.eqv (.int .i64 xn), Reg.eqv (.int .i64 no), Reg.eqv (.bool true), Reg.eqv (.bool true)] 39 [[(2, none)], [(8, some 0)], [(2, none)], [(10, some 2)], [(9, some 1), (11, some 3)], [(12, some 4)], [(2, none), (13, some 5)], [(14, some 6), (13, some 5)], [(1, none), (13, some 5)], [(15, some 7), (16, some 8), (13, some 5)], [(13, some 5), (17, some 9)]] rfl (by kernel_rfl) (by kernel_rfl) (by kernel_rfl) ?_ [some 8, some 9, some 10, some 11, some 12, some 13, some 14, some 15, some 16, some 17, some 18] (by kernel_rfl) ?_
    · refine ⟨?_, ?_, ?_, ?_, ?_, ?_, ?_, ?_, ?_, ?_, ?_, trivial⟩
      · intro ax wx hx hs
        obtain ⟨e2, -⟩ := hs
        have g2 := Reg.ev (v := .pointer (some ⟨w.heap.size, 0, none⟩)) e2
        refine Reg.obl_free rfl ?_
        have hx' : Below W0.heap.size W0 wx := hx
        have hld := run_ld (P := Tryz.prog) arrPage (HS0_0.out.next hx') HL.out
        exact Reg.wp_eqv (Option.some_ne_none _) (by go_simp) rfl
      · intro ax wx hx hs
        obtain ⟨e8, -⟩ := hs
        have g8 := Reg.ev (v := .agg (rowV l)) e8
        refine Reg.obl_free rfl ?_
        go_simp
        refine (num_any l HL.out 0 4 (by omega) (by omega) (by omega) _).mono ?_
        rintro e wy ⟨rfl, hby⟩
        rw [HV0.out]
        exact Reg.done (Option.some_ne_none _) rfl hby
      · intro ax wx hx hs
        obtain ⟨e2, -⟩ := hs
        have g2 := Reg.ev (v := .pointer (some ⟨w.heap.size, 0, none⟩)) e2
        refine Reg.obl_free rfl ?_
        have hx' : Below W0.heap.size W0 wx := hx
        have hld := run_ld (P := Tryz.prog) arrPage (HS0_0.out.next hx') HL.out
        exact Reg.wp_eqv (Option.some_ne_none _) (by go_simp) rfl
      · intro ax wx hx hs
        obtain ⟨e10, -⟩ := hs
        have g10 := Reg.ev (v := .agg (rowV l)) e10
        refine Reg.obl_free rfl ?_
        go_simp
        refine (sum_any l HL.out _).mono ?_
        rintro e wy ⟨rfl, hby⟩
        rw [HVS.out]
        exact Reg.done (Option.some_ne_none _) rfl hby
      · intro ax wx hx hs
        obtain ⟨e9, e11, -⟩ := hs
        have g9 := Reg.ev (v := .int .i64 x0) e9
        have g11 := Reg.ev (v := .int .i64 (xs : Int)) e11
        exact Reg.obl_free rfl (Reg.wp_eqv (Option.some_ne_none _) (by go_simp) rfl)
      · intro ax wx hx hs
        obtain ⟨e12, -⟩ := hs
        have g12 := Reg.ev (v := .bool false) e12
        exact Reg.obl_free rfl (Reg.wp_eqv (Option.some_ne_none _) (by go_simp) rfl)
      · intro ax wx hx hs
        obtain ⟨e2, e13, -⟩ := hs
        have g2 := Reg.ev (v := .pointer (some ⟨w.heap.size, 0, none⟩)) e2
        have g13 := Reg.ev (v := .bool false) e13
        refine Reg.obl_want rfl rfl e13 ?_
        have hx' : Below W0.heap.size W0 wx := hx
        have hld := run_ld (P := Tryz.prog) arrPage (HS0_0.out.next hx') HL.out
        exact Reg.wp_eqv (Option.some_ne_none _) (by go_simp) rfl
      · intro ax wx hx hs
        obtain ⟨e14, e13, -⟩ := hs
        have g14 := Reg.ev (v := .agg (rowV l)) e14
        have g13 := Reg.ev (v := .bool false) e13
        refine Reg.obl_want rfl rfl e13 ?_
        go_simp
        refine (no_any l HL.out _).mono ?_
        rintro e wy ⟨rfl, hby⟩
        rw [HVN.out]
        exact Reg.done (Option.some_ne_none _) rfl hby
      · intro ax wx hx hs
        obtain ⟨e1, e13, -⟩ := hs
        have g1 := Reg.ev (v := .int .i64 no) e1
        have g13 := Reg.ev (v := .bool false) e13
        exact Reg.obl_want rfl rfl e13 (Reg.wp_eqv (Option.some_ne_none _) (by go_simp) rfl)
      · intro ax wx hx hs
        obtain ⟨e15, e16, e13, -⟩ := hs
        have g15 := Reg.ev (v := .int .i64 xn) e15
        have g16 := Reg.ev (v := .int .i64 no) e16
        have g13 := Reg.ev (v := .bool false) e13
        exact Reg.obl_want rfl rfl e13 (Reg.wp_eqv (Option.some_ne_none _) (by go_simp) rfl)
      · intro ax wx hx hs
        obtain ⟨e13, e17, -⟩ := hs
        have g13 := Reg.ev (v := .bool false) e13
        have g17 := Reg.ev (v := .bool true) e17
        exact Reg.obl_free rfl (Reg.wp_eqv (Option.some_ne_none _) (by go_simp) rfl)
    · intro W1 hwf
      simp only [Reg.Fin]
      rintro _ rfl _ rfl _ rfl _ rfl _ rfl _ rfl _ rfl _ rfl _ rfl _ rfl _ rfl
      go_simp
      have HS0_1 := Lib.hid (HS0_0.out.next hwf)
      have HB_1 := Lib.hid (bstep HB_0.out hwf)
      have hw_1 := HB_1.out.size
      have hws_1 := (hwf).size
      clear HS0_0
      clear hwf
      have hl0_1 := HS0_1.out.lt
      go_wp2_with fail
      go_ret
      exact ⟨rfl, HB_1.out⟩
  have hb2 : (NumP.val l 12 2 != no) = false := by rw [bne, hc2]; rfl
  rw [hc2] at HR
  clear hc2
  go_enter Tryz.func35, Tryz.ntmps35
  go_wp2_with fail
  generalize hW0 : (w).alloc (.cells (rowV l) 42) = W0
  have HS0_0 : Hid (Str W0 (w.heap.size) (rowV l)) := Lib.hid (by rw [← hW0]; have := Str.new (w) (rowV l) 42; simpa using this)
  have HB_0 : Hid (Below w.heap.size w W0) := Lib.hid (by rw [← hW0]; exact balloc (bsame w) _)
  have hw_0 := HB_0.out.size
  clear hW0
  have hl0_0 := HS0_0.out.lt
  generalize hv0 : NumP.val l 0 4 = x0 at *
  generalize hvs : CrcP.sum (l.drop 4) = xs at *
  generalize hvn : NumP.val l 12 2 = xn at *
  have HV0 := Lib.hid hv0
  have HVS := Lib.hid hvs
  have HVN := Lib.hid hvn
  clear hv0 hvs hvn
  refine Reg.wp_region_vals (R := ext) (W := W0) [Reg.eqv (.agg (rowV l)), Reg.eqv (.int .i64 x0), Reg.eqv (.agg (rowV l)), Reg.eqv (.int .i64 (xs : Int)), Reg.eqv (.bool false), Reg.eqv (.bool false), Reg.eqv (.agg (rowV l)), Reg.eqv (.int .i64 xn), Reg.eqv (.int .i64 no), Reg.eqv (.bool false), Reg.eqv (.bool false)] 39 [[(2, none)], [(8, some 0)], [(2, none)], [(10, some 2)], [(9, some 1), (11, some 3)], [(12, some 4)], [(2, none), (13, some 5)], [(14, some 6), (13, some 5)], [(1, none), (13, some 5)], [(15, some 7), (16, some 8), (13, some 5)], [(13, some 5), (17, some 9)]] rfl (by kernel_rfl) (by kernel_rfl) (by kernel_rfl) ?_ [some 8, some 9, some 10, some 11, some 12, some 13, some 14, some 15, some 16, some 17, some 18] (by kernel_rfl) ?_
  · refine ⟨?_, ?_, ?_, ?_, ?_, ?_, ?_, ?_, ?_, ?_, ?_, trivial⟩
    · intro ax wx hx hs
      obtain ⟨e2, -⟩ := hs
      have g2 := Reg.ev (v := .pointer (some ⟨w.heap.size, 0, none⟩)) e2
      refine Reg.obl_free rfl ?_
      have hx' : Below W0.heap.size W0 wx := hx
      have hld := run_ld (P := Tryz.prog) arrPage (HS0_0.out.next hx') HL.out
      exact Reg.wp_eqv (Option.some_ne_none _) (by go_simp) rfl
    · intro ax wx hx hs
      obtain ⟨e8, -⟩ := hs
      have g8 := Reg.ev (v := .agg (rowV l)) e8
      refine Reg.obl_free rfl ?_
      go_simp
      refine (num_any l HL.out 0 4 (by omega) (by omega) (by omega) _).mono ?_
      rintro e wy ⟨rfl, hby⟩
      rw [HV0.out]
      exact Reg.done (Option.some_ne_none _) rfl hby
    · intro ax wx hx hs
      obtain ⟨e2, -⟩ := hs
      have g2 := Reg.ev (v := .pointer (some ⟨w.heap.size, 0, none⟩)) e2
      refine Reg.obl_free rfl ?_
      have hx' : Below W0.heap.size W0 wx := hx
      have hld := run_ld (P := Tryz.prog) arrPage (HS0_0.out.next hx') HL.out
      exact Reg.wp_eqv (Option.some_ne_none _) (by go_simp) rfl
    · intro ax wx hx hs
      obtain ⟨e10, -⟩ := hs
      have g10 := Reg.ev (v := .agg (rowV l)) e10
      refine Reg.obl_free rfl ?_
      go_simp
      refine (sum_any l HL.out _).mono ?_
      rintro e wy ⟨rfl, hby⟩
      rw [HVS.out]
      exact Reg.done (Option.some_ne_none _) rfl hby
    · intro ax wx hx hs
      obtain ⟨e9, e11, -⟩ := hs
      have g9 := Reg.ev (v := .int .i64 x0) e9
      have g11 := Reg.ev (v := .int .i64 (xs : Int)) e11
      exact Reg.obl_free rfl (Reg.wp_eqv (Option.some_ne_none _) (by go_simp) rfl)
    · intro ax wx hx hs
      obtain ⟨e12, -⟩ := hs
      have g12 := Reg.ev (v := .bool false) e12
      exact Reg.obl_free rfl (Reg.wp_eqv (Option.some_ne_none _) (by go_simp) rfl)
    · intro ax wx hx hs
      obtain ⟨e2, e13, -⟩ := hs
      have g2 := Reg.ev (v := .pointer (some ⟨w.heap.size, 0, none⟩)) e2
      have g13 := Reg.ev (v := .bool false) e13
      refine Reg.obl_want rfl rfl e13 ?_
      have hx' : Below W0.heap.size W0 wx := hx
      have hld := run_ld (P := Tryz.prog) arrPage (HS0_0.out.next hx') HL.out
      exact Reg.wp_eqv (Option.some_ne_none _) (by go_simp) rfl
    · intro ax wx hx hs
      obtain ⟨e14, e13, -⟩ := hs
      have g14 := Reg.ev (v := .agg (rowV l)) e14
      have g13 := Reg.ev (v := .bool false) e13
      refine Reg.obl_want rfl rfl e13 ?_
      go_simp
      refine (no_any l HL.out _).mono ?_
      rintro e wy ⟨rfl, hby⟩
      rw [HVN.out]
      exact Reg.done (Option.some_ne_none _) rfl hby
    · intro ax wx hx hs
      obtain ⟨e1, e13, -⟩ := hs
      have g1 := Reg.ev (v := .int .i64 no) e1
      have g13 := Reg.ev (v := .bool false) e13
      exact Reg.obl_want rfl rfl e13 (Reg.wp_eqv (Option.some_ne_none _) (by go_simp) rfl)
    · intro ax wx hx hs
      obtain ⟨e15, e16, e13, -⟩ := hs
      have g15 := Reg.ev (v := .int .i64 xn) e15
      have g16 := Reg.ev (v := .int .i64 no) e16
      have g13 := Reg.ev (v := .bool false) e13
      exact Reg.obl_want rfl rfl e13 (Reg.wp_eqv (Option.some_ne_none _) (by go_simp) rfl)
    · intro ax wx hx hs
      obtain ⟨e13, e17, -⟩ := hs
      have g13 := Reg.ev (v := .bool false) e13
      have g17 := Reg.ev (v := .bool false) e17
      exact Reg.obl_free rfl (Reg.wp_eqv (Option.some_ne_none _) (by go_simp) rfl)
  · intro W1 hwf
    simp only [Reg.Fin]
    rintro _ rfl _ rfl _ rfl _ rfl _ rfl _ rfl _ rfl _ rfl _ rfl _ rfl _ rfl
    go_simp
    have HS0_1 := Lib.hid (HS0_0.out.next hwf)
    have HB_1 := Lib.hid (bstep HB_0.out hwf)
    have hw_1 := HB_1.out.size
    have hws_1 := (hwf).size
    clear HS0_0
    clear hwf
    have hl0_1 := HS0_1.out.lt
    go_wp2_with fail
    refine (none_any _ _ _ _ _ _ (HP24.out _ HS0_1.out)).mono ?_
    rintro e W1_ ⟨rfl, rfl⟩
    cases hz1 : PageP.allz ((l.drop 24).take 8)
    · have HF : Hid (PageP.right l no = false) := Lib.hid (by rw [HR.out, hz1]; rfl)
      have hcd : PageP.code false = 14 := rfl
      clear hz1
      go_wp2_with fail
      go_ret
      rw [HF.out]
      exact ⟨rfl, HB_1.out⟩
    · rw [hz1] at HR
      clear hz1
      go_wp2_with fail
      refine (none_any _ _ _ _ _ _ (HP480.out _ HS0_1.out)).mono ?_
      rintro e W1_ ⟨rfl, rfl⟩
      cases hz2 : PageP.allz (l.drop 480)
      · have HF : Hid (PageP.right l no = false) := Lib.hid (by rw [HR.out, hz2]; rfl)
        clear hz2
        go_wp2_with fail
        go_ret
        rw [HF.out]
        exact ⟨rfl, HB_1.out⟩
      · rw [hz2] at HR
        clear hz2 hsl1 hsl2 hb1 hb2
        go_wp2
        go_loopw [27] (fun i wr => Chk w l i wr) (fun i _ => 7 - (intOf i).toNat)
        case atStart => exact ⟨0, by omega, rfl, rfl, HS0_1.out, HB_1.out⟩
        case round =>
          obtain ⟨k, hk, rfl, hok, hS, hB⟩ := hrel
          have HOK := Lib.hid hok
          have HS := Lib.hid hS
          have HB := Lib.hid hB
          clear hok hS hB
          by_cases hlt : k < 7
          · have hld := run_ld (P := Tryz.prog) arrPage HS.out HL.out
            have HN := Lib.hid (PageP.slotsOk_succ l k)
            have HBAD := Lib.hid (PageP.right_bad l no k hlt)
            go_wp2_with fail
            refine (slot_any l HL.out (k : Int) _).mono ?_
            rintro e w5 ⟨A1, n1, c1, rfl, hy1, hb5⟩
            have HS5 := Lib.hid (HS.out.next hb5)
            have HB5 := Lib.hid (bstep HB.out hb5)
            clear hy1 hb5 hld
            generalize PageP.slot l (k : Int) = r at *
            obtain ⟨⟨s, ky, kind, data, lo, hi, val⟩, er⟩ := r
            dsimp only at *
            by_cases her : er = 0
            · subst her
              go_wp2
              go_roundw
              case rel => exact ⟨k + 1, by omega, by go_num, by rw [HN.out, HOK.out]; rfl, HS5.out.alloc _, balloc HB5.out _⟩
              case measure => simp [intOf]; omega
            · have hne : (er != 0) = true := by simpa using her
              have HF : Hid (PageP.right l no = false) := Lib.hid (HBAD.out her)
              go_wp2
              go_ret
              rw [HF.out]
              exact ⟨rfl, balloc HB5.out _⟩
          · have hk7 : k = 7 := by omega
            subst hk7
            have HF : Hid (PageP.right l no = true) := Lib.hid (by rw [HR.out, HOK.out]; rfl)
            go_wp2
            go_ret
            rw [HF.out]
            exact ⟨rfl, HB.out⟩
end Go.Proofs.YtcfieofcnpalgaaGreat.PageW
end
