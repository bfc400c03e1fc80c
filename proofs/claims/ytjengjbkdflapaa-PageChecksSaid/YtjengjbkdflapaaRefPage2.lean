/-
  The walks of the reference's pages: Seal, Right.
-/
import Derived.Test.YtjengjbkdflapaaRefPage
import Derived.Test.YtjengjbkdflapaaRefCrc
import Derived.Test.YtjengjbkdflapaaRegS
namespace Go.Proofs.Ytjengjbkdflapaa.RefPage
open Go.RowKit
attribute [local go_sem ↓] app_fold cut_fold

set_option maxRecDepth 100000 in
set_option maxHeartbeats 400000 in
theorem sealed_any (A : Option Addr) (c B : Nat) (l : List UInt8) (w : World) (h : Bytes w B A 512 c l) (hB : B ≤ w.heap.size) : Calls Try.prog 58 #[.slice A 512 c] w (GivesBytes w (PageP.sealed l)) := by
  have hcm := h.2.2.1
  have hnc := h.2.1
  unfold maxLen at hcm
  have hcut := h.cut 4 512 c (by omega) (Nat.le_refl _) hnc (Nat.le_refl _)
  rw [List.take_of_length_le (by rw [List.length_drop, h.len]; omega)] at hcut
  have HCUT := Lib.hid hcut
  have HE := Lib.hid (PageP.sealed_eq l)
  clear h hcut
  go_enter Try.func58, Try.ntmps58
  go_wp2_with fail
  refine (RefCrc.seal_any _ _ _ B _ _ HCUT.out hB (by omega)).mono ?_
  rintro e w1 ⟨A1, n1, c1, rfl, hy, hb⟩
  go_wp2_with fail
  go_ret
  rw [HE.out]
  exact ⟨A1, n1, c1, rfl, hy, hb⟩

def Chk (w : World) (l : List UInt8) (i : Value) (wr : World) : Prop := ∃ k : Nat, k ≤ 7 ∧ i = .int .i64 (k : Int) ∧ PageP.slotsOk l k = true ∧ Below w.heap.size w wr
set_option maxRecDepth 100000 in
set_option maxHeartbeats 2000000 in
theorem right_any (A : Option Addr) (c B : Nat) (l : List UInt8) (no : Int) (w : World) (h : Bytes w B A 512 c l) (hB : B ≤ w.heap.size) :
    Calls Try.prog 59 #[.slice A 512 c, .int .i64 no] w fun e w' => e = .returned (.bool (PageP.right l no)) ∧ Below w.heap.size w w' := by
  have hcm := h.2.2.1
  have hnc := h.2.1
  unfold maxLen at hcm
  have hl := h.len
  have H := Lib.hid h
  have hk24 := h.cut 24 32 c (by omega) (by omega) (by omega) (Nat.le_refl _)
  have hk480 := h.cut 480 512 c (by omega) (by omega) (by omega) (Nat.le_refl _)
  rw [List.take_of_length_le (by rw [List.length_drop, hl]; omega)] at hk480
  have HK24 := Lib.hid hk24
  have HK480 := Lib.hid hk480
  have HZ1 : Hid ((((l.drop 24).take 8) == SlotP.zeros 8) = PageP.allz ((l.drop 24).take 8)) := Lib.hid (by have := PageP.allz_eq ((l.drop 24).take 8); rwa [show ((l.drop 24).take 8).length = 8 by simp; omega] at this)
  have HZ2 : Hid ((l.drop 480 == SlotP.zeros 32) = PageP.allz (l.drop 480)) := Lib.hid (by have := PageP.allz_eq (l.drop 480); rwa [show (l.drop 480).length = 32 by simp; omega] at this)
  have HR := Lib.hid (PageP.right_eq l no)
  have hb480 : (480 : Int) ≤ (c : Int) := by omega
  have hb32 : (32 : Int) ≤ (c : Int) := by omega
  clear h hl hk24 hk480
  cases hc1 : (NumP.val l 0 4 == ((CrcP.sum (l.drop 4) : Nat) : Int))
  · have HF : Hid (PageP.right l no = false) := Lib.hid (by rw [HR.out, hc1]; rfl)
    have HGD := Lib.hid hc1
    rw [HF.out]
    clear hc1
    go_enter Try.func59, Try.ntmps59
    go_wp2_with fail
    refine Reg.wp_region_vals (R := ext) (W := w) [Reg.eqv (.slice A 512 c), Reg.eqv (.bool false), Reg.eqv (.bool true), Reg.eqv (.bool true), Reg.eqv undef, Reg.eqv undef, Reg.eqv undef, Reg.eqv undef, Reg.eqv (.bool true), Reg.eqv (.bool true), Reg.eqv undef, Reg.eqv undef, Reg.eqv undef, Reg.eqv undef, Reg.eqv undef, Reg.eqv (.bool true), Reg.eqv (.bool true), Reg.eqv undef, Reg.eqv undef, Reg.eqv undef, Reg.eqv undef, Reg.eqv undef, Reg.eqv (.bool true)] 43 [[(0, none)], [(8, some 0)], [(9, some 1)], [(10, some 2)], [(0, none), (11, some 3)], [(12, some 4), (11, some 3)], [(1, none), (11, some 3)], [(13, some 5), (14, some 6), (11, some 3)], [(11, some 3), (15, some 7)], [(16, some 8)], [(0, none), (17, some 9)], [(18, some 10), (17, some 9)], [(17, some 9)], [(19, some 11), (20, some 12), (17, some 9)], [(21, some 13), (17, some 9)], [(17, some 9), (22, some 14)], [(23, some 15)], [(0, none), (24, some 16)], [(25, some 17), (24, some 16)], [(24, some 16)], [(26, some 18), (27, some 19), (24, some 16)], [(28, some 20), (24, some 16)], [(24, some 16), (29, some 21)]] rfl (by kernel_rfl) (by kernel_rfl) (by kernel_rfl) ?_ [some 8, some 9, some 10, some 11, some 12, some 13, some 14, some 15, some 16, some 17, some 18, some 19, some 20, some 21, some 22, some 23, some 24, some 25, some 26, some 27, some 28, some 29, some 30] (by kernel_rfl) ?_
    · refine ⟨?_, ?_, ?_, ?_, ?_, ?_, ?_, ?_, ?_, ?_, ?_, ?_, ?_, ?_, ?_, ?_, ?_, ?_, ?_, ?_, ?_, ?_, ?_, trivial⟩
      · intro ax wx hx hs
        obtain ⟨e0, -⟩ := hs
        have g0 := Reg.ev (v := .slice A 512 c) e0
        exact Reg.obl_free rfl (Reg.wp_eqv (Option.some_ne_none _) (by go_simp) rfl)
      · intro ax wx hx hs
        obtain ⟨e8, -⟩ := hs
        have g8 := Reg.ev (v := .slice A 512 c) e8
        refine Reg.obl_free rfl ?_
        have hx' : Below w.heap.size w wx := hx
        go_simp
        refine (RefCrc.good_any A 512 c B l _ (H.out.below (hx'.mono hB)) (by omega)).mono ?_
        rintro e wy ⟨rfl, rfl⟩
        rw [HGD.out]
        exact Reg.done (Option.some_ne_none _) rfl (bsame _)
      · intro ax wx hx hs
        obtain ⟨e9, -⟩ := hs
        have g9 := Reg.ev (v := .bool false) e9
        exact Reg.obl_free rfl (Reg.wp_eqv (Option.some_ne_none _) (by go_simp) rfl)
      · intro ax wx hx hs
        obtain ⟨e10, -⟩ := hs
        have g10 := Reg.ev (v := .bool true) e10
        exact Reg.obl_free rfl (Reg.wp_eqv (Option.some_ne_none _) (by go_simp) rfl)
      · intro ax wx hx hs
        obtain ⟨e0, e11, -⟩ := hs
        have g0 := Reg.ev (v := .slice A 512 c) e0
        have g11 := Reg.ev (v := .bool true) e11
        exact Reg.obl_skip rfl rfl e11 rfl rfl
      · intro ax wx hx hs
        obtain ⟨e12, e11, -⟩ := hs
        have g12 := Reg.ev (v := undef) e12
        have g11 := Reg.ev (v := .bool true) e11
        exact Reg.obl_skip rfl rfl e11 rfl rfl
      · intro ax wx hx hs
        obtain ⟨e1, e11, -⟩ := hs
        have g1 := Reg.ev (v := .int .i64 no) e1
        have g11 := Reg.ev (v := .bool true) e11
        exact Reg.obl_skip rfl rfl e11 rfl rfl
      · intro ax wx hx hs
        obtain ⟨e13, e14, e11, -⟩ := hs
        have g13 := Reg.ev (v := undef) e13
        have g14 := Reg.ev (v := undef) e14
        have g11 := Reg.ev (v := .bool true) e11
        exact Reg.obl_skip rfl rfl e11 rfl rfl
      · intro ax wx hx hs
        obtain ⟨e11, e15, -⟩ := hs
        have g11 := Reg.ev (v := .bool true) e11
        have g15 := Reg.ev (v := undef) e15
        exact Reg.obl_free rfl (Reg.wp_eqv (Option.some_ne_none _) (by go_simp) rfl)
      · intro ax wx hx hs
        obtain ⟨e16, -⟩ := hs
        have g16 := Reg.ev (v := .bool true) e16
        exact Reg.obl_free rfl (Reg.wp_eqv (Option.some_ne_none _) (by go_simp) rfl)
      · intro ax wx hx hs
        obtain ⟨e0, e17, -⟩ := hs
        have g0 := Reg.ev (v := .slice A 512 c) e0
        have g17 := Reg.ev (v := .bool true) e17
        exact Reg.obl_skip rfl rfl e17 rfl rfl
      · intro ax wx hx hs
        obtain ⟨e18, e17, -⟩ := hs
        have g18 := Reg.ev (v := undef) e18
        have g17 := Reg.ev (v := .bool true) e17
        exact Reg.obl_skip rfl rfl e17 rfl rfl
      · intro ax wx hx hs
        obtain ⟨e17, -⟩ := hs
        have g17 := Reg.ev (v := .bool true) e17
        exact Reg.obl_skip rfl rfl e17 rfl rfl
      · intro ax wx hx hs
        obtain ⟨e19, e20, e17, -⟩ := hs
        have g19 := Reg.ev (v := undef) e19
        have g20 := Reg.ev (v := undef) e20
        have g17 := Reg.ev (v := .bool true) e17
        exact Reg.obl_skip rfl rfl e17 rfl rfl
      · intro ax wx hx hs
        obtain ⟨e21, e17, -⟩ := hs
        have g21 := Reg.ev (v := undef) e21
        have g17 := Reg.ev (v := .bool true) e17
        exact Reg.obl_skip rfl rfl e17 rfl rfl
      · intro ax wx hx hs
        obtain ⟨e17, e22, -⟩ := hs
        have g17 := Reg.ev (v := .bool true) e17
        have g22 := Reg.ev (v := undef) e22
        exact Reg.obl_free rfl (Reg.wp_eqv (Option.some_ne_none _) (by go_simp) rfl)
      · intro ax wx hx hs
        obtain ⟨e23, -⟩ := hs
        have g23 := Reg.ev (v := .bool true) e23
        exact Reg.obl_free rfl (Reg.wp_eqv (Option.some_ne_none _) (by go_simp) rfl)
      · intro ax wx hx hs
        obtain ⟨e0, e24, -⟩ := hs
        have g0 := Reg.ev (v := .slice A 512 c) e0
        have g24 := Reg.ev (v := .bool true) e24
        exact Reg.obl_skip rfl rfl e24 rfl rfl
      · intro ax wx hx hs
        obtain ⟨e25, e24, -⟩ := hs
        have g25 := Reg.ev (v := undef) e25
        have g24 := Reg.ev (v := .bool true) e24
        exact Reg.obl_skip rfl rfl e24 rfl rfl
      · intro ax wx hx hs
        obtain ⟨e24, -⟩ := hs
        have g24 := Reg.ev (v := .bool true) e24
        exact Reg.obl_skip rfl rfl e24 rfl rfl
      · intro ax wx hx hs
        obtain ⟨e26, e27, e24, -⟩ := hs
        have g26 := Reg.ev (v := undef) e26
        have g27 := Reg.ev (v := undef) e27
        have g24 := Reg.ev (v := .bool true) e24
        exact Reg.obl_skip rfl rfl e24 rfl rfl
      · intro ax wx hx hs
        obtain ⟨e28, e24, -⟩ := hs
        have g28 := Reg.ev (v := undef) e28
        have g24 := Reg.ev (v := .bool true) e24
        exact Reg.obl_skip rfl rfl e24 rfl rfl
      · intro ax wx hx hs
        obtain ⟨e24, e29, -⟩ := hs
        have g24 := Reg.ev (v := .bool true) e24
        have g29 := Reg.ev (v := undef) e29
        exact Reg.obl_free rfl (Reg.wp_eqv (Option.some_ne_none _) (by go_simp) rfl)
    · intro W1 hwf
      simp only [Reg.Fin]
      rintro _ rfl _ rfl _ rfl _ rfl _ rfl _ rfl _ rfl _ rfl _ rfl _ rfl _ rfl _ rfl _ rfl _ rfl _ rfl _ rfl _ rfl _ rfl _ rfl _ rfl _ rfl _ rfl _ rfl
      go_simp
      have HB_1 : Hid (Below w.heap.size w W1) := Lib.hid hwf
      go_wp2_with fail
      go_ret
      exact ⟨rfl, HB_1.out⟩
  have HGD := Lib.hid hc1
  rw [hc1] at HR
  clear hc1
  obtain ⟨xn, hxn⟩ : ∃ x, NumP.val l 12 2 = x := ⟨_, rfl⟩
  rw [hxn] at HR
  have HVN := Lib.hid hxn
  clear hxn
  cases hc2 : (xn == no)
  · have HF : Hid (PageP.right l no = false) := Lib.hid (by rw [HR.out, hc2]; rfl)
    rw [HF.out]
    have hb2 : (xn != no) = true := by rw [bne, hc2]; rfl
    clear hc2
    go_enter Try.func59, Try.ntmps59
    go_wp2_with fail
    refine Reg.wp_region_vals (R := ext) (W := w) [Reg.eqv (.slice A 512 c), Reg.eqv (.bool true), Reg.eqv (.bool false), Reg.eqv (.bool false), Reg.eqv (.slice A 512 c), Reg.eqv (.int .i64 xn), Reg.eqv (.int .i64 no), Reg.eqv (.bool true), Reg.eqv (.bool true), Reg.eqv (.bool true), Reg.eqv undef, Reg.eqv undef, Reg.eqv undef, Reg.eqv undef, Reg.eqv undef, Reg.eqv (.bool true), Reg.eqv (.bool true), Reg.eqv undef, Reg.eqv undef, Reg.eqv undef, Reg.eqv undef, Reg.eqv undef, Reg.eqv (.bool true)] 43 [[(0, none)], [(8, some 0)], [(9, some 1)], [(10, some 2)], [(0, none), (11, some 3)], [(12, some 4), (11, some 3)], [(1, none), (11, some 3)], [(13, some 5), (14, some 6), (11, some 3)], [(11, some 3), (15, some 7)], [(16, some 8)], [(0, none), (17, some 9)], [(18, some 10), (17, some 9)], [(17, some 9)], [(19, some 11), (20, some 12), (17, some 9)], [(21, some 13), (17, some 9)], [(17, some 9), (22, some 14)], [(23, some 15)], [(0, none), (24, some 16)], [(25, some 17), (24, some 16)], [(24, some 16)], [(26, some 18), (27, some 19), (24, some 16)], [(28, some 20), (24, some 16)], [(24, some 16), (29, some 21)]] rfl (by kernel_rfl) (by kernel_rfl) (by kernel_rfl) ?_ [some 8, some 9, some 10, some 11, some 12, some 13, some 14, some 15, some 16, some 17, some 18, some 19, some 20, some 21, some 22, some 23, some 24, some 25, some 26, some 27, some 28, some 29, some 30] (by kernel_rfl) ?_
    · refine ⟨?_, ?_, ?_, ?_, ?_, ?_, ?_, ?_, ?_, ?_, ?_, ?_, ?_, ?_, ?_, ?_, ?_, ?_, ?_, ?_, ?_, ?_, ?_, trivial⟩
      · intro ax wx hx hs
        obtain ⟨e0, -⟩ := hs
        have g0 := Reg.ev (v := .slice A 512 c) e0
        exact Reg.obl_free rfl (Reg.wp_eqv (Option.some_ne_none _) (by go_simp) rfl)
      · intro ax wx hx hs
        obtain ⟨e8, -⟩ := hs
        have g8 := Reg.ev (v := .slice A 512 c) e8
        refine Reg.obl_free rfl ?_
        have hx' : Below w.heap.size w wx := hx
        go_simp
        refine (RefCrc.good_any A 512 c B l _ (H.out.below (hx'.mono hB)) (by omega)).mono ?_
        rintro e wy ⟨rfl, rfl⟩
        rw [HGD.out]
        exact Reg.done (Option.some_ne_none _) rfl (bsame _)
      · intro ax wx hx hs
        obtain ⟨e9, -⟩ := hs
        have g9 := Reg.ev (v := .bool true) e9
        exact Reg.obl_free rfl (Reg.wp_eqv (Option.some_ne_none _) (by go_simp) rfl)
      · intro ax wx hx hs
        obtain ⟨e10, -⟩ := hs
        have g10 := Reg.ev (v := .bool false) e10
        exact Reg.obl_free rfl (Reg.wp_eqv (Option.some_ne_none _) (by go_simp) rfl)
      · intro ax wx hx hs
        obtain ⟨e0, e11, -⟩ := hs
        have g0 := Reg.ev (v := .slice A 512 c) e0
        have g11 := Reg.ev (v := .bool false) e11
        exact Reg.obl_want rfl rfl e11 (Reg.wp_eqv (Option.some_ne_none _) (by go_simp) rfl)
      · intro ax wx hx hs
        obtain ⟨e12, e11, -⟩ := hs
        have g12 := Reg.ev (v := .slice A 512 c) e12
        have g11 := Reg.ev (v := .bool false) e11
        refine Reg.obl_want rfl rfl e11 ?_
        have hx' : Below w.heap.size w wx := hx
        go_simp
        refine (no_any A 512 c B l _ (H.out.below (hx'.mono hB))).mono ?_
        rintro e wy ⟨rfl, rfl⟩
        rw [HVN.out]
        exact Reg.done (Option.some_ne_none _) rfl (bsame _)
      · intro ax wx hx hs
        obtain ⟨e1, e11, -⟩ := hs
        have g1 := Reg.ev (v := .int .i64 no) e1
        have g11 := Reg.ev (v := .bool false) e11
        exact Reg.obl_want rfl rfl e11 (Reg.wp_eqv (Option.some_ne_none _) (by go_simp) rfl)
      · intro ax wx hx hs
        obtain ⟨e13, e14, e11, -⟩ := hs
        have g13 := Reg.ev (v := .int .i64 xn) e13
        have g14 := Reg.ev (v := .int .i64 no) e14
        have g11 := Reg.ev (v := .bool false) e11
        exact Reg.obl_want rfl rfl e11 (Reg.wp_eqv (Option.some_ne_none _) (by go_simp) rfl)
      · intro ax wx hx hs
        obtain ⟨e11, e15, -⟩ := hs
        have g11 := Reg.ev (v := .bool false) e11
        have g15 := Reg.ev (v := .bool true) e15
        exact Reg.obl_free rfl (Reg.wp_eqv (Option.some_ne_none _) (by go_simp) rfl)
      · intro ax wx hx hs
        obtain ⟨e16, -⟩ := hs
        have g16 := Reg.ev (v := .bool true) e16
        exact Reg.obl_free rfl (Reg.wp_eqv (Option.some_ne_none _) (by go_simp) rfl)
      · intro ax wx hx hs
        obtain ⟨e0, e17, -⟩ := hs
        have g0 := Reg.ev (v := .slice A 512 c) e0
        have g17 := Reg.ev (v := .bool true) e17
        exact Reg.obl_skip rfl rfl e17 rfl rfl
      · intro ax wx hx hs
        obtain ⟨e18, e17, -⟩ := hs
        have g18 := Reg.ev (v := undef) e18
        have g17 := Reg.ev (v := .bool true) e17
        exact Reg.obl_skip rfl rfl e17 rfl rfl
      · intro ax wx hx hs
        obtain ⟨e17, -⟩ := hs
        have g17 := Reg.ev (v := .bool true) e17
        exact Reg.obl_skip rfl rfl e17 rfl rfl
      · intro ax wx hx hs
        obtain ⟨e19, e20, e17, -⟩ := hs
        have g19 := Reg.ev (v := undef) e19
        have g20 := Reg.ev (v := undef) e20
        have g17 := Reg.ev (v := .bool true) e17
        exact Reg.obl_skip rfl rfl e17 rfl rfl
      · intro ax wx hx hs
        obtain ⟨e21, e17, -⟩ := hs
        have g21 := Reg.ev (v := undef) e21
        have g17 := Reg.ev (v := .bool true) e17
        exact Reg.obl_skip rfl rfl e17 rfl rfl
      · intro ax wx hx hs
        obtain ⟨e17, e22, -⟩ := hs
        have g17 := Reg.ev (v := .bool true) e17
        have g22 := Reg.ev (v := undef) e22
        exact Reg.obl_free rfl (Reg.wp_eqv (Option.some_ne_none _) (by go_simp) rfl)
      · intro ax wx hx hs
        obtain ⟨e23, -⟩ := hs
        have g23 := Reg.ev (v := .bool true) e23
        exact Reg.obl_free rfl (Reg.wp_eqv (Option.some_ne_none _) (by go_simp) rfl)
      · intro ax wx hx hs
        obtain ⟨e0, e24, -⟩ := hs
        have g0 := Reg.ev (v := .slice A 512 c) e0
        have g24 := Reg.ev (v := .bool true) e24
        exact Reg.obl_skip rfl rfl e24 rfl rfl
      · intro ax wx hx hs
        obtain ⟨e25, e24, -⟩ := hs
        have g25 := Reg.ev (v := undef) e25
        have g24 := Reg.ev (v := .bool true) e24
        exact Reg.obl_skip rfl rfl e24 rfl rfl
      · intro ax wx hx hs
        obtain ⟨e24, -⟩ := hs
        have g24 := Reg.ev (v := .bool true) e24
        exact Reg.obl_skip rfl rfl e24 rfl rfl
      · intro ax wx hx hs
        obtain ⟨e26, e27, e24, -⟩ := hs
        have g26 := Reg.ev (v := undef) e26
        have g27 := Reg.ev (v := undef) e27
        have g24 := Reg.ev (v := .bool true) e24
        exact Reg.obl_skip rfl rfl e24 rfl rfl
      · intro ax wx hx hs
        obtain ⟨e28, e24, -⟩ := hs
        have g28 := Reg.ev (v := undef) e28
        have g24 := Reg.ev (v := .bool true) e24
        exact Reg.obl_skip rfl rfl e24 rfl rfl
      · intro ax wx hx hs
        obtain ⟨e24, e29, -⟩ := hs
        have g24 := Reg.ev (v := .bool true) e24
        have g29 := Reg.ev (v := undef) e29
        exact Reg.obl_free rfl (Reg.wp_eqv (Option.some_ne_none _) (by go_simp) rfl)
    · intro W1 hwf
      simp only [Reg.Fin]
      rintro _ rfl _ rfl _ rfl _ rfl _ rfl _ rfl _ rfl _ rfl _ rfl _ rfl _ rfl _ rfl _ rfl _ rfl _ rfl _ rfl _ rfl _ rfl _ rfl _ rfl _ rfl _ rfl _ rfl
      go_simp
      have HB_1 : Hid (Below w.heap.size w W1) := Lib.hid hwf
      go_wp2_with fail
      go_ret
      exact ⟨rfl, HB_1.out⟩
  have hb2 : (xn != no) = false := by rw [bne, hc2]; rfl
  rw [hc2] at HR
  clear hc2
  cases hz1 : PageP.allz ((l.drop 24).take 8)
  · have HF : Hid (PageP.right l no = false) := Lib.hid (by rw [HR.out, hz1]; rfl)
    rw [HF.out]
    have HA1 := Lib.hid hz1
    clear hz1
    go_enter Try.func59, Try.ntmps59
    go_wp2_with fail
    refine Reg.wp_region_vals (R := ext) (W := w) [Reg.eqv (.slice A 512 c), Reg.eqv (.bool true), Reg.eqv (.bool false), Reg.eqv (.bool false), Reg.eqv (.slice A 512 c), Reg.eqv (.int .i64 xn), Reg.eqv (.int .i64 no), Reg.eqv (.bool false), Reg.eqv (.bool false), Reg.eqv (.bool false), Reg.eqv (.slice A 512 c), Reg.eqv (.slice (cutA A 24 c 1) 8 (c - 24)), Reg.bytes (SlotP.zeros 8), Reg.eqv (.bool false), Reg.eqv (.bool true), Reg.eqv (.bool true), Reg.eqv (.bool true), Reg.eqv undef, Reg.eqv undef, Reg.eqv undef, Reg.eqv undef, Reg.eqv undef, Reg.eqv (.bool true)] 43 [[(0, none)], [(8, some 0)], [(9, some 1)], [(10, some 2)], [(0, none), (11, some 3)], [(12, some 4), (11, some 3)], [(1, none), (11, some 3)], [(13, some 5), (14, some 6), (11, some 3)], [(11, some 3), (15, some 7)], [(16, some 8)], [(0, none), (17, some 9)], [(18, some 10), (17, some 9)], [(17, some 9)], [(19, some 11), (20, some 12), (17, some 9)], [(21, some 13), (17, some 9)], [(17, some 9), (22, some 14)], [(23, some 15)], [(0, none), (24, some 16)], [(25, some 17), (24, some 16)], [(24, some 16)], [(26, some 18), (27, some 19), (24, some 16)], [(28, some 20), (24, some 16)], [(24, some 16), (29, some 21)]] rfl (by kernel_rfl) (by kernel_rfl) (by kernel_rfl) ?_ [some 8, some 9, some 10, some 11, some 12, some 13, some 14, some 15, some 16, some 17, some 18, some 19, some 20, some 21, some 22, some 23, some 24, some 25, some 26, some 27, some 28, some 29, some 30] (by kernel_rfl) ?_
    · refine ⟨?_, ?_, ?_, ?_, ?_, ?_, ?_, ?_, ?_, ?_, ?_, ?_, ?_, ?_, ?_, ?_, ?_, ?_, ?_, ?_, ?_, ?_, ?_, trivial⟩
      · intro ax wx hx hs
        obtain ⟨e0, -⟩ := hs
        have g0 := Reg.ev (v := .slice A 512 c) e0
        exact Reg.obl_free rfl (Reg.wp_eqv (Option.some_ne_none _) (by go_simp) rfl)
      · intro ax wx hx hs
        obtain ⟨e8, -⟩ := hs
        have g8 := Reg.ev (v := .slice A 512 c) e8
        refine Reg.obl_free rfl ?_
        have hx' : Below w.heap.size w wx := hx
        go_simp
        refine (RefCrc.good_any A 512 c B l _ (H.out.below (hx'.mono hB)) (by omega)).mono ?_
        rintro e wy ⟨rfl, rfl⟩
        rw [HGD.out]
        exact Reg.done (Option.some_ne_none _) rfl (bsame _)
      · intro ax wx hx hs
        obtain ⟨e9, -⟩ := hs
        have g9 := Reg.ev (v := .bool true) e9
        exact Reg.obl_free rfl (Reg.wp_eqv (Option.some_ne_none _) (by go_simp) rfl)
      · intro ax wx hx hs
        obtain ⟨e10, -⟩ := hs
        have g10 := Reg.ev (v := .bool false) e10
        exact Reg.obl_free rfl (Reg.wp_eqv (Option.some_ne_none _) (by go_simp) rfl)
      · intro ax wx hx hs
        obtain ⟨e0, e11, -⟩ := hs
        have g0 := Reg.ev (v := .slice A 512 c) e0
        have g11 := Reg.ev (v := .bool false) e11
        exact Reg.obl_want rfl rfl e11 (Reg.wp_eqv (Option.some_ne_none _) (by go_simp) rfl)
      · intro ax wx hx hs
        obtain ⟨e12, e11, -⟩ := hs
        have g12 := Reg.ev (v := .slice A 512 c) e12
        have g11 := Reg.ev (v := .bool false) e11
        refine Reg.obl_want rfl rfl e11 ?_
        have hx' : Below w.heap.size w wx := hx
        go_simp
        refine (no_any A 512 c B l _ (H.out.below (hx'.mono hB))).mono ?_
        rintro e wy ⟨rfl, rfl⟩
        rw [HVN.out]
        exact Reg.done (Option.some_ne_none _) rfl (bsame _)
      · intro ax wx hx hs
        obtain ⟨e1, e11, -⟩ := hs
        have g1 := Reg.ev (v := .int .i64 no) e1
        have g11 := Reg.ev (v := .bool false) e11
        exact Reg.obl_want rfl rfl e11 (Reg.wp_eqv (Option.some_ne_none _) (by go_simp) rfl)
      · intro ax wx hx hs
        obtain ⟨e13, e14, e11, -⟩ := hs
        have g13 := Reg.ev (v := .int .i64 xn) e13
        have g14 := Reg.ev (v := .int .i64 no) e14
        have g11 := Reg.ev (v := .bool false) e11
        exact Reg.obl_want rfl rfl e11 (Reg.wp_eqv (Option.some_ne_none _) (by go_simp) rfl)
      · intro ax wx hx hs
        obtain ⟨e11, e15, -⟩ := hs
        have g11 := Reg.ev (v := .bool false) e11
        have g15 := Reg.ev (v := .bool false) e15
        exact Reg.obl_free rfl (Reg.wp_eqv (Option.some_ne_none _) (by go_simp) rfl)
      · intro ax wx hx hs
        obtain ⟨e16, -⟩ := hs
        have g16 := Reg.ev (v := .bool false) e16
        exact Reg.obl_free rfl (Reg.wp_eqv (Option.some_ne_none _) (by go_simp) rfl)
      · intro ax wx hx hs
        obtain ⟨e0, e17, -⟩ := hs
        have g0 := Reg.ev (v := .slice A 512 c) e0
        have g17 := Reg.ev (v := .bool false) e17
        exact Reg.obl_want rfl rfl e17 (Reg.wp_eqv (Option.some_ne_none _) (by go_simp) rfl)
      · intro ax wx hx hs
        obtain ⟨e18, e17, -⟩ := hs
        have g18 := Reg.ev (v := .slice A 512 c) e18
        have g17 := Reg.ev (v := .bool false) e17
        exact Reg.obl_want rfl rfl e17 (Reg.wp_eqv (Option.some_ne_none _) (by go_simp) rfl)
      · intro ax wx hx hs
        obtain ⟨e17, -⟩ := hs
        have g17 := Reg.ev (v := .bool false) e17
        refine Reg.obl_want rfl rfl e17 ?_
        go_simp
        refine (zeros_any 8 (by omega) _).mono ?_
        rintro e wy ⟨A3, n3, c3, rfl, hy, hby⟩
        exact Reg.done (Option.some_ne_none _) ⟨A3, n3, c3, rfl, hy⟩ hby
      · intro ax wx hx hs
        obtain ⟨e19, e20, e17, -⟩ := hs
        have g19 := Reg.ev (v := .slice (cutA A 24 c 1) 8 (c - 24)) e19
        have g17 := Reg.ev (v := .bool false) e17
        refine Reg.obl_want rfl rfl e17 ?_
        have hx' : Below w.heap.size w wx := hx
        obtain ⟨A3, n3, c3, e20, hy3⟩ := e20
        have g20 := Reg.ev e20
        go_simp
        refine (Same.same_any _ _ _ _ _ _ _ _ _ _ _ (HK24.out.below (hx'.mono hB)) hy3).mono ?_
        rintro e wy ⟨rfl, rfl⟩
        rw [HZ1.out, HA1.out]
        exact Reg.done (Option.some_ne_none _) rfl (bsame _)
      · intro ax wx hx hs
        obtain ⟨e21, e17, -⟩ := hs
        have g21 := Reg.ev (v := .bool false) e21
        have g17 := Reg.ev (v := .bool false) e17
        exact Reg.obl_want rfl rfl e17 (Reg.wp_eqv (Option.some_ne_none _) (by go_simp) rfl)
      · intro ax wx hx hs
        obtain ⟨e17, e22, -⟩ := hs
        have g17 := Reg.ev (v := .bool false) e17
        have g22 := Reg.ev (v := .bool true) e22
        exact Reg.obl_free rfl (Reg.wp_eqv (Option.some_ne_none _) (by go_simp) rfl)
      · intro ax wx hx hs
        obtain ⟨e23, -⟩ := hs
        have g23 := Reg.ev (v := .bool true) e23
        exact Reg.obl_free rfl (Reg.wp_eqv (Option.some_ne_none _) (by go_simp) rfl)
      · intro ax wx hx hs
        obtain ⟨e0, e24, -⟩ := hs
        have g0 := Reg.ev (v := .slice A 512 c) e0
        have g24 := Reg.ev (v := .bool true) e24
        exact Reg.obl_skip rfl rfl e24 rfl rfl
      · intro ax wx hx hs
        obtain ⟨e25, e24, -⟩ := hs
        have g25 := Reg.ev (v := undef) e25
        have g24 := Reg.ev (v := .bool true) e24
        exact Reg.obl_skip rfl rfl e24 rfl rfl
      · intro ax wx hx hs
        obtain ⟨e24, -⟩ := hs
        have g24 := Reg.ev (v := .bool true) e24
        exact Reg.obl_skip rfl rfl e24 rfl rfl
      · intro ax wx hx hs
        obtain ⟨e26, e27, e24, -⟩ := hs
        have g26 := Reg.ev (v := undef) e26
        have g27 := Reg.ev (v := undef) e27
        have g24 := Reg.ev (v := .bool true) e24
        exact Reg.obl_skip rfl rfl e24 rfl rfl
      · intro ax wx hx hs
        obtain ⟨e28, e24, -⟩ := hs
        have g28 := Reg.ev (v := undef) e28
        have g24 := Reg.ev (v := .bool true) e24
        exact Reg.obl_skip rfl rfl e24 rfl rfl
      · intro ax wx hx hs
        obtain ⟨e24, e29, -⟩ := hs
        have g24 := Reg.ev (v := .bool true) e24
        have g29 := Reg.ev (v := undef) e29
        exact Reg.obl_free rfl (Reg.wp_eqv (Option.some_ne_none _) (by go_simp) rfl)
    · intro W1 hwf
      simp only [Reg.Fin]
      rintro _ rfl _ rfl _ rfl _ rfl _ rfl _ rfl _ rfl _ rfl _ rfl _ rfl _ rfl _ rfl v20 h20 _ rfl _ rfl _ rfl _ rfl _ rfl _ rfl _ rfl _ rfl _ rfl _ rfl
      go_simp
      have HB_1 : Hid (Below w.heap.size w W1) := Lib.hid hwf
      go_wp2_with fail
      go_ret
      exact ⟨rfl, HB_1.out⟩
  have HA1 := Lib.hid hz1
  rw [hz1] at HR
  clear hz1
  cases hz2 : PageP.allz (l.drop 480)
  · have HF : Hid (PageP.right l no = false) := Lib.hid (by rw [HR.out, hz2]; rfl)
    rw [HF.out]
    have HA2 := Lib.hid hz2
    clear hz2
    go_enter Try.func59, Try.ntmps59
    go_wp2_with fail
    refine Reg.wp_region_vals (R := ext) (W := w) [Reg.eqv (.slice A 512 c), Reg.eqv (.bool true), Reg.eqv (.bool false), Reg.eqv (.bool false), Reg.eqv (.slice A 512 c), Reg.eqv (.int .i64 xn), Reg.eqv (.int .i64 no), Reg.eqv (.bool false), Reg.eqv (.bool false), Reg.eqv (.bool false), Reg.eqv (.slice A 512 c), Reg.eqv (.slice (cutA A 24 c 1) 8 (c - 24)), Reg.bytes (SlotP.zeros 8), Reg.eqv (.bool true), Reg.eqv (.bool false), Reg.eqv (.bool false), Reg.eqv (.bool false), Reg.eqv (.slice A 512 c), Reg.eqv (.slice (cutA A 480 c 1) 32 (c - 480)), Reg.bytes (SlotP.zeros 32), Reg.eqv (.bool false), Reg.eqv (.bool true), Reg.eqv (.bool true)] 43 [[(0, none)], [(8, some 0)], [(9, some 1)], [(10, some 2)], [(0, none), (11, some 3)], [(12, some 4), (11, some 3)], [(1, none), (11, some 3)], [(13, some 5), (14, some 6), (11, some 3)], [(11, some 3), (15, some 7)], [(16, some 8)], [(0, none), (17, some 9)], [(18, some 10), (17, some 9)], [(17, some 9)], [(19, some 11), (20, some 12), (17, some 9)], [(21, some 13), (17, some 9)], [(17, some 9), (22, some 14)], [(23, some 15)], [(0, none), (24, some 16)], [(25, some 17), (24, some 16)], [(24, some 16)], [(26, some 18), (27, some 19), (24, some 16)], [(28, some 20), (24, some 16)], [(24, some 16), (29, some 21)]] rfl (by kernel_rfl) (by kernel_rfl) (by kernel_rfl) ?_ [some 8, some 9, some 10, some 11, some 12, some 13, some 14, some 15, some 16, some 17, some 18, some 19, some 20, some 21, some 22, some 23, some 24, some 25, some 26, some 27, some 28, some 29, some 30] (by kernel_rfl) ?_
    · refine ⟨?_, ?_, ?_, ?_, ?_, ?_, ?_, ?_, ?_, ?_, ?_, ?_, ?_, ?_, ?_, ?_, ?_, ?_, ?_, ?_, ?_, ?_, ?_, trivial⟩
      · intro ax wx hx hs
        obtain ⟨e0, -⟩ := hs
        have g0 := Reg.ev (v := .slice A 512 c) e0
        exact Reg.obl_free rfl (Reg.wp_eqv (Option.some_ne_none _) (by go_simp) rfl)
      · intro ax wx hx hs
        obtain ⟨e8, -⟩ := hs
        have g8 := Reg.ev (v := .slice A 512 c) e8
        refine Reg.obl_free rfl ?_
        have hx' : Below w.heap.size w wx := hx
        go_simp
        refine (RefCrc.good_any A 512 c B l _ (H.out.below (hx'.mono hB)) (by omega)).mono ?_
        rintro e wy ⟨rfl, rfl⟩
        rw [HGD.out]
        exact Reg.done (Option.some_ne_none _) rfl (bsame _)
      · intro ax wx hx hs
        obtain ⟨e9, -⟩ := hs
        have g9 := Reg.ev (v := .bool true) e9
        exact Reg.obl_free rfl (Reg.wp_eqv (Option.some_ne_none _) (by go_simp) rfl)
      · intro ax wx hx hs
        obtain ⟨e10, -⟩ := hs
        have g10 := Reg.ev (v := .bool false) e10
        exact Reg.obl_free rfl (Reg.wp_eqv (Option.some_ne_none _) (by go_simp) rfl)
      · intro ax wx hx hs
        obtain ⟨e0, e11, -⟩ := hs
        have g0 := Reg.ev (v := .slice A 512 c) e0
        have g11 := Reg.ev (v := .bool false) e11
        exact Reg.obl_want rfl rfl e11 (Reg.wp_eqv (Option.some_ne_none _) (by go_simp) rfl)
      · intro ax wx hx hs
        obtain ⟨e12, e11, -⟩ := hs
        have g12 := Reg.ev (v := .slice A 512 c) e12
        have g11 := Reg.ev (v := .bool false) e11
        refine Reg.obl_want rfl rfl e11 ?_
        have hx' : Below w.heap.size w wx := hx
        go_simp
        refine (no_any A 512 c B l _ (H.out.below (hx'.mono hB))).mono ?_
        rintro e wy ⟨rfl, rfl⟩
        rw [HVN.out]
        exact Reg.done (Option.some_ne_none _) rfl (bsame _)
      · intro ax wx hx hs
        obtain ⟨e1, e11, -⟩ := hs
        have g1 := Reg.ev (v := .int .i64 no) e1
        have g11 := Reg.ev (v := .bool false) e11
        exact Reg.obl_want rfl rfl e11 (Reg.wp_eqv (Option.some_ne_none _) (by go_simp) rfl)
      · intro ax wx hx hs
        obtain ⟨e13, e14, e11, -⟩ := hs
        have g13 := Reg.ev (v := .int .i64 xn) e13
        have g14 := Reg.ev (v := .int .i64 no) e14
        have g11 := Reg.ev (v := .bool false) e11
        exact Reg.obl_want rfl rfl e11 (Reg.wp_eqv (Option.some_ne_none _) (by go_simp) rfl)
      · intro ax wx hx hs
        obtain ⟨e11, e15, -⟩ := hs
        have g11 := Reg.ev (v := .bool false) e11
        have g15 := Reg.ev (v := .bool false) e15
        exact Reg.obl_free rfl (Reg.wp_eqv (Option.some_ne_none _) (by go_simp) rfl)
      · intro ax wx hx hs
        obtain ⟨e16, -⟩ := hs
        have g16 := Reg.ev (v := .bool false) e16
        exact Reg.obl_free rfl (Reg.wp_eqv (Option.some_ne_none _) (by go_simp) rfl)
      · intro ax wx hx hs
        obtain ⟨e0, e17, -⟩ := hs
        have g0 := Reg.ev (v := .slice A 512 c) e0
        have g17 := Reg.ev (v := .bool false) e17
        exact Reg.obl_want rfl rfl e17 (Reg.wp_eqv (Option.some_ne_none _) (by go_simp) rfl)
      · intro ax wx hx hs
        obtain ⟨e18, e17, -⟩ := hs
        have g18 := Reg.ev (v := .slice A 512 c) e18
        have g17 := Reg.ev (v := .bool false) e17
        exact Reg.obl_want rfl rfl e17 (Reg.wp_eqv (Option.some_ne_none _) (by go_simp) rfl)
      · intro ax wx hx hs
        obtain ⟨e17, -⟩ := hs
        have g17 := Reg.ev (v := .bool false) e17
        refine Reg.obl_want rfl rfl e17 ?_
        go_simp
        refine (zeros_any 8 (by omega) _).mono ?_
        rintro e wy ⟨A3, n3, c3, rfl, hy, hby⟩
        exact Reg.done (Option.some_ne_none _) ⟨A3, n3, c3, rfl, hy⟩ hby
      · intro ax wx hx hs
        obtain ⟨e19, e20, e17, -⟩ := hs
        have g19 := Reg.ev (v := .slice (cutA A 24 c 1) 8 (c - 24)) e19
        have g17 := Reg.ev (v := .bool false) e17
        refine Reg.obl_want rfl rfl e17 ?_
        have hx' : Below w.heap.size w wx := hx
        obtain ⟨A3, n3, c3, e20, hy3⟩ := e20
        have g20 := Reg.ev e20
        go_simp
        refine (Same.same_any _ _ _ _ _ _ _ _ _ _ _ (HK24.out.below (hx'.mono hB)) hy3).mono ?_
        rintro e wy ⟨rfl, rfl⟩
        rw [HZ1.out, HA1.out]
        exact Reg.done (Option.some_ne_none _) rfl (bsame _)
      · intro ax wx hx hs
        obtain ⟨e21, e17, -⟩ := hs
        have g21 := Reg.ev (v := .bool true) e21
        have g17 := Reg.ev (v := .bool false) e17
        exact Reg.obl_want rfl rfl e17 (Reg.wp_eqv (Option.some_ne_none _) (by go_simp) rfl)
      · intro ax wx hx hs
        obtain ⟨e17, e22, -⟩ := hs
        have g17 := Reg.ev (v := .bool false) e17
        have g22 := Reg.ev (v := .bool false) e22
        exact Reg.obl_free rfl (Reg.wp_eqv (Option.some_ne_none _) (by go_simp) rfl)
      · intro ax wx hx hs
        obtain ⟨e23, -⟩ := hs
        have g23 := Reg.ev (v := .bool false) e23
        exact Reg.obl_free rfl (Reg.wp_eqv (Option.some_ne_none _) (by go_simp) rfl)
      · intro ax wx hx hs
        obtain ⟨e0, e24, -⟩ := hs
        have g0 := Reg.ev (v := .slice A 512 c) e0
        have g24 := Reg.ev (v := .bool false) e24
        exact Reg.obl_want rfl rfl e24 (Reg.wp_eqv (Option.some_ne_none _) (by go_simp) rfl)
      · intro ax wx hx hs
        obtain ⟨e25, e24, -⟩ := hs
        have g25 := Reg.ev (v := .slice A 512 c) e25
        have g24 := Reg.ev (v := .bool false) e24
        exact Reg.obl_want rfl rfl e24 (Reg.wp_eqv (Option.some_ne_none _) (by go_simp) rfl)
      · intro ax wx hx hs
        obtain ⟨e24, -⟩ := hs
        have g24 := Reg.ev (v := .bool false) e24
        refine Reg.obl_want rfl rfl e24 ?_
        go_simp
        refine (zeros_any 32 (by omega) _).mono ?_
        rintro e wy ⟨A3, n3, c3, rfl, hy, hby⟩
        exact Reg.done (Option.some_ne_none _) ⟨A3, n3, c3, rfl, hy⟩ hby
      · intro ax wx hx hs
        obtain ⟨e26, e27, e24, -⟩ := hs
        have g26 := Reg.ev (v := .slice (cutA A 480 c 1) 32 (c - 480)) e26
        have g24 := Reg.ev (v := .bool false) e24
        refine Reg.obl_want rfl rfl e24 ?_
        have hx' : Below w.heap.size w wx := hx
        obtain ⟨A3, n3, c3, e27, hy3⟩ := e27
        have g27 := Reg.ev e27
        go_simp
        refine (Same.same_any _ _ _ _ _ _ _ _ _ _ _ (HK480.out.below (hx'.mono hB)) hy3).mono ?_
        rintro e wy ⟨rfl, rfl⟩
        rw [HZ2.out, HA2.out]
        exact Reg.done (Option.some_ne_none _) rfl (bsame _)
      · intro ax wx hx hs
        obtain ⟨e28, e24, -⟩ := hs
        have g28 := Reg.ev (v := .bool false) e28
        have g24 := Reg.ev (v := .bool false) e24
        exact Reg.obl_want rfl rfl e24 (Reg.wp_eqv (Option.some_ne_none _) (by go_simp) rfl)
      · intro ax wx hx hs
        obtain ⟨e24, e29, -⟩ := hs
        have g24 := Reg.ev (v := .bool false) e24
        have g29 := Reg.ev (v := .bool true) e29
        exact Reg.obl_free rfl (Reg.wp_eqv (Option.some_ne_none _) (by go_simp) rfl)
    · intro W1 hwf
      simp only [Reg.Fin]
      rintro _ rfl _ rfl _ rfl _ rfl _ rfl _ rfl _ rfl _ rfl _ rfl _ rfl _ rfl _ rfl v20 h20 _ rfl _ rfl _ rfl _ rfl _ rfl _ rfl v27 h27 _ rfl _ rfl _ rfl
      go_simp
      have HB_1 : Hid (Below w.heap.size w W1) := Lib.hid hwf
      go_wp2_with fail
      go_ret
      exact ⟨rfl, HB_1.out⟩
  have HA2 := Lib.hid hz2
  rw [hz2] at HR
  clear hz2
  go_enter Try.func59, Try.ntmps59
  go_wp2_with fail
  refine Reg.wp_region_vals (R := ext) (W := w) [Reg.eqv (.slice A 512 c), Reg.eqv (.bool true), Reg.eqv (.bool false), Reg.eqv (.bool false), Reg.eqv (.slice A 512 c), Reg.eqv (.int .i64 xn), Reg.eqv (.int .i64 no), Reg.eqv (.bool false), Reg.eqv (.bool false), Reg.eqv (.bool false), Reg.eqv (.slice A 512 c), Reg.eqv (.slice (cutA A 24 c 1) 8 (c - 24)), Reg.bytes (SlotP.zeros 8), Reg.eqv (.bool true), Reg.eqv (.bool false), Reg.eqv (.bool false), Reg.eqv (.bool false), Reg.eqv (.slice A 512 c), Reg.eqv (.slice (cutA A 480 c 1) 32 (c - 480)), Reg.bytes (SlotP.zeros 32), Reg.eqv (.bool true), Reg.eqv (.bool false), Reg.eqv (.bool false)] 43 [[(0, none)], [(8, some 0)], [(9, some 1)], [(10, some 2)], [(0, none), (11, some 3)], [(12, some 4), (11, some 3)], [(1, none), (11, some 3)], [(13, some 5), (14, some 6), (11, some 3)], [(11, some 3), (15, some 7)], [(16, some 8)], [(0, none), (17, some 9)], [(18, some 10), (17, some 9)], [(17, some 9)], [(19, some 11), (20, some 12), (17, some 9)], [(21, some 13), (17, some 9)], [(17, some 9), (22, some 14)], [(23, some 15)], [(0, none), (24, some 16)], [(25, some 17), (24, some 16)], [(24, some 16)], [(26, some 18), (27, some 19), (24, some 16)], [(28, some 20), (24, some 16)], [(24, some 16), (29, some 21)]] rfl (by kernel_rfl) (by kernel_rfl) (by kernel_rfl) ?_ [some 8, some 9, some 10, some 11, some 12, some 13, some 14, some 15, some 16, some 17, some 18, some 19, some 20, some 21, some 22, some 23, some 24, some 25, some 26, some 27, some 28, some 29, some 30] (by kernel_rfl) ?_
  · refine ⟨?_, ?_, ?_, ?_, ?_, ?_, ?_, ?_, ?_, ?_, ?_, ?_, ?_, ?_, ?_, ?_, ?_, ?_, ?_, ?_, ?_, ?_, ?_, trivial⟩
    · intro ax wx hx hs
      obtain ⟨e0, -⟩ := hs
      have g0 := Reg.ev (v := .slice A 512 c) e0
      exact Reg.obl_free rfl (Reg.wp_eqv (Option.some_ne_none _) (by go_simp) rfl)
    · intro ax wx hx hs
      obtain ⟨e8, -⟩ := hs
      have g8 := Reg.ev (v := .slice A 512 c) e8
      refine Reg.obl_free rfl ?_
      have hx' : Below w.heap.size w wx := hx
      go_simp
      refine (RefCrc.good_any A 512 c B l _ (H.out.below (hx'.mono hB)) (by omega)).mono ?_
      rintro e wy ⟨rfl, rfl⟩
      rw [HGD.out]
      exact Reg.done (Option.some_ne_none _) rfl (bsame _)
    · intro ax wx hx hs
      obtain ⟨e9, -⟩ := hs
      have g9 := Reg.ev (v := .bool true) e9
      exact Reg.obl_free rfl (Reg.wp_eqv (Option.some_ne_none _) (by go_simp) rfl)
    · intro ax wx hx hs
      obtain ⟨e10, -⟩ := hs
      have g10 := Reg.ev (v := .bool false) e10
      exact Reg.obl_free rfl (Reg.wp_eqv (Option.some_ne_none _) (by go_simp) rfl)
    · intro ax wx hx hs
      obtain ⟨e0, e11, -⟩ := hs
      have g0 := Reg.ev (v := .slice A 512 c) e0
      have g11 := Reg.ev (v := .bool false) e11
      exact Reg.obl_want rfl rfl e11 (Reg.wp_eqv (Option.some_ne_none _) (by go_simp) rfl)
    · intro ax wx hx hs
      obtain ⟨e12, e11, -⟩ := hs
      have g12 := Reg.ev (v := .slice A 512 c) e12
      have g11 := Reg.ev (v := .bool false) e11
      refine Reg.obl_want rfl rfl e11 ?_
      have hx' : Below w.heap.size w wx := hx
      go_simp
      refine (no_any A 512 c B l _ (H.out.below (hx'.mono hB))).mono ?_
      rintro e wy ⟨rfl, rfl⟩
      rw [HVN.out]
      exact Reg.done (Option.some_ne_none _) rfl (bsame _)
    · intro ax wx hx hs
      obtain ⟨e1, e11, -⟩ := hs
      have g1 := Reg.ev (v := .int .i64 no) e1
      have g11 := Reg.ev (v := .bool false) e11
      exact Reg.obl_want rfl rfl e11 (Reg.wp_eqv (Option.some_ne_none _) (by go_simp) rfl)
    · intro ax wx hx hs
      obtain ⟨e13, e14, e11, -⟩ := hs
      have g13 := Reg.ev (v := .int .i64 xn) e13
      have g14 := Reg.ev (v := .int .i64 no) e14
      have g11 := Reg.ev (v := .bool false) e11
      exact Reg.obl_want rfl rfl e11 (Reg.wp_eqv (Option.some_ne_none _) (by go_simp) rfl)
    · intro ax wx hx hs
      obtain ⟨e11, e15, -⟩ := hs
      have g11 := Reg.ev (v := .bool false) e11
      have g15 := Reg.ev (v := .bool false) e15
      exact Reg.obl_free rfl (Reg.wp_eqv (Option.some_ne_none _) (by go_simp) rfl)
    · intro ax wx hx hs
      obtain ⟨e16, -⟩ := hs
      have g16 := Reg.ev (v := .bool false) e16
      exact Reg.obl_free rfl (Reg.wp_eqv (Option.some_ne_none _) (by go_simp) rfl)
    · intro ax wx hx hs
      obtain ⟨e0, e17, -⟩ := hs
      have g0 := Reg.ev (v := .slice A 512 c) e0
      have g17 := Reg.ev (v := .bool false) e17
      exact Reg.obl_want rfl rfl e17 (Reg.wp_eqv (Option.some_ne_none _) (by go_simp) rfl)
    · intro ax wx hx hs
      obtain ⟨e18, e17, -⟩ := hs
      have g18 := Reg.ev (v := .slice A 512 c) e18
      have g17 := Reg.ev (v := .bool false) e17
      exact Reg.obl_want rfl rfl e17 (Reg.wp_eqv (Option.some_ne_none _) (by go_simp) rfl)
    · intro ax wx hx hs
      obtain ⟨e17, -⟩ := hs
      have g17 := Reg.ev (v := .bool false) e17
      refine Reg.obl_want rfl rfl e17 ?_
      go_simp
      refine (zeros_any 8 (by omega) _).mono ?_
      rintro e wy ⟨A3, n3, c3, rfl, hy, hby⟩
      exact Reg.done (Option.some_ne_none _) ⟨A3, n3, c3, rfl, hy⟩ hby
    · intro ax wx hx hs
      obtain ⟨e19, e20, e17, -⟩ := hs
      have g19 := Reg.ev (v := .slice (cutA A 24 c 1) 8 (c - 24)) e19
      have g17 := Reg.ev (v := .bool false) e17
      refine Reg.obl_want rfl rfl e17 ?_
      have hx' : Below w.heap.size w wx := hx
      obtain ⟨A3, n3, c3, e20, hy3⟩ := e20
      have g20 := Reg.ev e20
      go_simp
      refine (Same.same_any _ _ _ _ _ _ _ _ _ _ _ (HK24.out.below (hx'.mono hB)) hy3).mono ?_
      rintro e wy ⟨rfl, rfl⟩
      rw [HZ1.out, HA1.out]
      exact Reg.done (Option.some_ne_none _) rfl (bsame _)
    · intro ax wx hx hs
      obtain ⟨e21, e17, -⟩ := hs
      have g21 := Reg.ev (v := .bool true) e21
      have g17 := Reg.ev (v := .bool false) e17
      exact Reg.obl_want rfl rfl e17 (Reg.wp_eqv (Option.some_ne_none _) (by go_simp) rfl)
    · intro ax wx hx hs
      obtain ⟨e17, e22, -⟩ := hs
      have g17 := Reg.ev (v := .bool false) e17
      have g22 := Reg.ev (v := .bool false) e22
      exact Reg.obl_free rfl (Reg.wp_eqv (Option.some_ne_none _) (by go_simp) rfl)
    · intro ax wx hx hs
      obtain ⟨e23, -⟩ := hs
      have g23 := Reg.ev (v := .bool false) e23
      exact Reg.obl_free rfl (Reg.wp_eqv (Option.some_ne_none _) (by go_simp) rfl)
    · intro ax wx hx hs
      obtain ⟨e0, e24, -⟩ := hs
      have g0 := Reg.ev (v := .slice A 512 c) e0
      have g24 := Reg.ev (v := .bool false) e24
      exact Reg.obl_want rfl rfl e24 (Reg.wp_eqv (Option.some_ne_none _) (by go_simp) rfl)
    · intro ax wx hx hs
      obtain ⟨e25, e24, -⟩ := hs
      have g25 := Reg.ev (v := .slice A 512 c) e25
      have g24 := Reg.ev (v := .bool false) e24
      exact Reg.obl_want rfl rfl e24 (Reg.wp_eqv (Option.some_ne_none _) (by go_simp) rfl)
    · intro ax wx hx hs
      obtain ⟨e24, -⟩ := hs
      have g24 := Reg.ev (v := .bool false) e24
      refine Reg.obl_want rfl rfl e24 ?_
      go_simp
      refine (zeros_any 32 (by omega) _).mono ?_
      rintro e wy ⟨A3, n3, c3, rfl, hy, hby⟩
      exact Reg.done (Option.some_ne_none _) ⟨A3, n3, c3, rfl, hy⟩ hby
    · intro ax wx hx hs
      obtain ⟨e26, e27, e24, -⟩ := hs
      have g26 := Reg.ev (v := .slice (cutA A 480 c 1) 32 (c - 480)) e26
      have g24 := Reg.ev (v := .bool false) e24
      refine Reg.obl_want rfl rfl e24 ?_
      have hx' : Below w.heap.size w wx := hx
      obtain ⟨A3, n3, c3, e27, hy3⟩ := e27
      have g27 := Reg.ev e27
      go_simp
      refine (Same.same_any _ _ _ _ _ _ _ _ _ _ _ (HK480.out.below (hx'.mono hB)) hy3).mono ?_
      rintro e wy ⟨rfl, rfl⟩
      rw [HZ2.out, HA2.out]
      exact Reg.done (Option.some_ne_none _) rfl (bsame _)
    · intro ax wx hx hs
      obtain ⟨e28, e24, -⟩ := hs
      have g28 := Reg.ev (v := .bool true) e28
      have g24 := Reg.ev (v := .bool false) e24
      exact Reg.obl_want rfl rfl e24 (Reg.wp_eqv (Option.some_ne_none _) (by go_simp) rfl)
    · intro ax wx hx hs
      obtain ⟨e24, e29, -⟩ := hs
      have g24 := Reg.ev (v := .bool false) e24
      have g29 := Reg.ev (v := .bool false) e29
      exact Reg.obl_free rfl (Reg.wp_eqv (Option.some_ne_none _) (by go_simp) rfl)
  · intro W1 hwf
    simp only [Reg.Fin]
    rintro _ rfl _ rfl _ rfl _ rfl _ rfl _ rfl _ rfl _ rfl _ rfl _ rfl _ rfl _ rfl v20 h20 _ rfl _ rfl _ rfl _ rfl _ rfl _ rfl v27 h27 _ rfl _ rfl _ rfl
    go_simp
    have HB_1 : Hid (Below w.heap.size w W1) := Lib.hid hwf
    go_wp2
    go_loopw [5] (fun i wr => Chk w l i wr) (fun i _ => 7 - (intOf i).toNat)
    case atStart => exact ⟨0, by omega, rfl, rfl, HB_1.out⟩
    case round =>
      obtain ⟨k, hk, rfl, hok, hB1⟩ := hrel
      have HOK := Lib.hid hok
      have HB := Lib.hid hB1
      have hbs := hB1.size
      clear hok hB1
      by_cases hlt : k < 7
      · have HN := Lib.hid (PageP.slotsOk_succ l k)
        have HBAD := Lib.hid (PageP.right_bad l no k hlt)
        go_wp2_with fail
        refine (slot_any A c B l (k : Int) _ (H.out.below (HB.out.mono hB)) (by omega)).mono ?_
        rintro e w5 ⟨A1, n1, c1, rfl, hy1, hb5⟩
        have HB5 := Lib.hid (bstep HB.out hb5)
        clear hy1 hb5
        generalize PageP.slot l (k : Int) = r at *
        obtain ⟨⟨s, ky, kind, data, lo, hi, val⟩, er⟩ := r
        dsimp only at *
        by_cases her : er = 0
        · subst her
          go_wp2
          go_roundw
          case rel => exact ⟨k + 1, by omega, by go_num, by rw [HN.out, HOK.out]; rfl, balloc HB5.out _⟩
          case measure => simp [intOf]; omega
        · have hne : (er != 0) = true := by simpa using her
          have HF : Hid (PageP.right l no = false) := Lib.hid (HBAD.out her)
          go_wp2
          go_ret
          rw [HF.out]
          exact ⟨rfl, balloc HB5.out _⟩
      · have hk7 : k = 7 := by omega
        subst hk7
        have HF : Hid (PageP.right l no = true) := Lib.hid (by rw [HR.out, HOK.out]; rfl)
        go_wp2
        go_ret
        rw [HF.out]
        exact ⟨rfl, HB.out⟩
end Go.Proofs.Ytjengjbkdflapaa.RefPage
