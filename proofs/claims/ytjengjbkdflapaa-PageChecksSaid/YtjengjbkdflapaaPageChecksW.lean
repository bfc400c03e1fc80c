/-
  The walk of PageChecks: the Go text returns true for every input, and writes nothing that was there.
-/
import Derived.Test.YtjengjbkdflapaaOpen3
import Derived.Test.YtjengjbkdflapaaLive07
import Derived.Test.YtjengjbkdflapaaRefPage2
namespace Go.Proofs.Ytjengjbkdflapaa.pageChecks
open Go.RowKit
attribute [local go_sem ↓] alPage_fold ldPage_fold stPage_fold bdPage_fold slPage_fold ld512_fold sl512_fold

set_option maxRecDepth 100000 in
set_option maxHeartbeats 4000000 in
theorem walk (v0 v1 : Value) (l : List UInt8) (no : Int) (w : World) (g0 : RArr 512 v0 l) (g1 : RInt w v1 no) :
    Calls Try.prog 10 #[v0, v1] w fun e w' => e = .returned (.bool true) ∧ Below w.heap.size w w' := by
  obtain ⟨rfl, hl⟩ := g0
  obtain ⟨rfl, -⟩ := g1
  have HL := Lib.hid hl
  have HLS := Lib.hid (PageP.sealed_length l hl)
  clear hl
  obtain ⟨W0, hW0⟩ : ∃ W0, (w).alloc (.cells (rowV l) 50) = W0 := ⟨_, rfl⟩
  have HS0_0 : Hid (Str W0 (w.heap.size) (rowV l)) := Lib.hid (by rw [← hW0]; have := Str.new (w) (rowV l) 50; simpa using this)
  have HB_0 : Hid (Below w.heap.size w W0) := Lib.hid (by rw [← hW0]; exact balloc (bsame w) _)
  have hw_0 := HB_0.out.size
  have hz0 : W0.heap.size = w.heap.size + 1 := by rw [← hW0]; simp
  have HW0 := Lib.hid hW0
  have hl0_0 := HS0_0.out.lt
  have hld := run_ld (P := Try.prog) arr512 HS0_0.out HL.out
  have hal := fun W => run_al (P := Try.prog) arrPage W
  have hst0 := run_st (P := Try.prog) arrPage (Str.new W0 (rowV (SlotP.zeros 512)) 51) (by rw [rowV_size]; exact SlotPut.zeros_len 512) (HL.out)
  obtain ⟨W1, hW1⟩ : ∃ W, (W0.alloc (.cells (rowV (SlotP.zeros 512)) 51)).setRow W0.heap.size (rowV l) = W := ⟨_, rfl⟩
  rw [hW1] at hst0
  rw [hz0] at hst0
  have HS0_1 : Hid (Str W1 (w.heap.size) (rowV l)) := Lib.hid (by rw [← hW1]; exact (HS0_0.out.alloc _).setRow_other (by omega))
  have HS1_1 : Hid (Str W1 (w.heap.size + 1) (rowV l)) := Lib.hid (by rw [← hW1, ← hz0]; exact (Str.new W0 (rowV (SlotP.zeros 512)) 51).setRow)
  have hba1 : Below W0.heap.size W0 W1 := by rw [← hW1]; exact below_setRow (balloc (bsame _) _) (Nat.le_refl _) _
  have HB_1 := Lib.hid (bstep HB_0.out hba1)
  have hw_1 := HB_1.out.size
  have hws_1 := hba1.size
  clear hW1 hba1
  clear HS0_0
  have hl0_1 := HS0_1.out.lt
  have hl1_1 := HS1_1.out.lt
  rw [← hW0] at hld hst0
  clear hW0 hz0
  have hldp := run_ld (P := Try.prog) arrPage HS1_1.out HL.out
  go_enter Try.func10, Try.ntmps10
  go_wp2_with fail
  refine (PageW.sealed_any l HL.out _).mono ?_
  rintro e W2 ⟨rfl, hb2⟩
  have HS0_2 := Lib.hid (HS0_1.out.next hb2)
  have HS1_2 := Lib.hid (HS1_1.out.next hb2)
  have HB_2 := Lib.hid (bstep HB_1.out hb2)
  have hw_2 := HB_2.out.size
  have hws_2 := (hb2).size
  clear HS0_1 HS1_1
  clear hb2
  have hl0_2 := HS0_2.out.lt
  have hl1_2 := HS1_2.out.lt
  clear hld hldp hst0 hal
  have hal := fun W => run_al (P := Try.prog) arrPage W
  have hst2 := run_st (P := Try.prog) arrPage (Str.new W2 (rowV (SlotP.zeros 512)) 51) (by rw [rowV_size]; exact SlotPut.zeros_len 512) (HLS.out)
  obtain ⟨W3, hW3⟩ : ∃ W, (W2.alloc (.cells (rowV (SlotP.zeros 512)) 51)).setRow W2.heap.size (rowV (PageP.sealed l)) = W := ⟨_, rfl⟩
  rw [hW3] at hst2
  have HS0_3 : Hid (Str W3 (w.heap.size) (rowV l)) := Lib.hid (by rw [← hW3]; exact (HS0_2.out.alloc _).setRow_other (by omega))
  have HS1_3 : Hid (Str W3 (w.heap.size + 1) (rowV l)) := Lib.hid (by rw [← hW3]; exact (HS1_2.out.alloc _).setRow_other (by omega))
  have HS2_3 : Hid (Str W3 (W2.heap.size) (rowV (PageP.sealed l))) := Lib.hid (by rw [← hW3]; exact (Str.new W2 (rowV (SlotP.zeros 512)) 51).setRow)
  have hba3 : Below W2.heap.size W2 W3 := by rw [← hW3]; exact below_setRow (balloc (bsame _) _) (Nat.le_refl _) _
  have HB_3 := Lib.hid (bstep HB_2.out hba3)
  have hw_3 := HB_3.out.size
  have hws_3 := hba3.size
  clear hW3 hba3
  clear HS0_2 HS1_2
  have hl0_3 := HS0_3.out.lt
  have hl1_3 := HS1_3.out.lt
  have hl2_3 := HS2_3.out.lt
  go_wp2_with fail
  clear hal hst2
  cases hr1 : PageP.right l no
  all_goals cases hr2 : PageP.right (PageP.sealed l) no
  · have HR1 := Lib.hid hr1
    have HR2 := Lib.hid hr2
    clear hr1 hr2
    have hsl1 := fun W => run_sl_all (P := Try.prog) arr512 w.heap.size W
    have hsl2 := fun W => run_sl_all (P := Try.prog) arrPage W2.heap.size W
    refine Reg.wp_region_vals (R := ext) (W := W3) [Reg.eqv (.agg (rowV l)), Reg.eqv (.int .i64 no), Reg.eqv (.int .i64 14), Reg.eqv (.int .i64 14), Reg.eqv (.agg (rowV (PageP.sealed l))), Reg.eqv (.int .i64 no), Reg.eqv (.int .i64 14), Reg.eqv (.int .i64 14), Reg.eqv (.int .i64 14), Reg.eqv (.int .i64 14)] 59 [[(5, none)], [(1, none)], [(12, some 0), (13, some 1)], [(14, some 2)], [(6, none)], [(1, none)], [(16, some 4), (17, some 5)], [(18, some 6)], [(15, some 3)], [(19, some 7)]] rfl (by kernel_rfl) (by kernel_rfl) (by kernel_rfl) ?_ [some 12, some 13, some 14, some 15, some 16, some 17, some 18, some 19, some 7, some 8] (by kernel_rfl) ?_
    · refine ⟨?_, ?_, ?_, ?_, ?_, ?_, ?_, ?_, ?_, ?_, trivial⟩
      · intro ax wx hx hs
        obtain ⟨e5, -⟩ := hs
        have g5 := Reg.ev (v := .pointer (some ⟨w.heap.size + 1, 0, none⟩)) e5
        refine Reg.obl_free rfl ?_
        have hx' : Below W3.heap.size W3 wx := hx
        have hld := run_ld (P := Try.prog) arrPage (HS1_3.out.next hx') HL.out
        exact Reg.wp_eqv (Option.some_ne_none _) (by go_simp) rfl
      · intro ax wx hx hs
        obtain ⟨e1, -⟩ := hs
        have g1 := Reg.ev (v := .int .i64 no) e1
        exact Reg.obl_free rfl (Reg.wp_eqv (Option.some_ne_none _) (by go_simp) rfl)
      · intro ax wx hx hs
        obtain ⟨e12, e13, -⟩ := hs
        have g12 := Reg.ev (v := .agg (rowV l)) e12
        have g13 := Reg.ev (v := .int .i64 no) e13
        refine Reg.obl_free rfl ?_
        have hx' : Below W3.heap.size W3 wx := hx
        go_simp
        refine (PageW.check_any l HL.out no _).mono ?_
        rintro e wy ⟨rfl, hby⟩
        rw [HR1.out]
        exact Reg.done (Option.some_ne_none _) rfl hby
      · intro ax wx hx hs
        obtain ⟨e14, -⟩ := hs
        have g14 := Reg.ev (v := .int .i64 14) e14
        refine Reg.obl_free rfl ?_
        go_simp
        refine (Live07.code_any _ _).mono ?_
        rintro e wy ⟨rfl, rfl⟩
        exact Reg.done (Option.some_ne_none _) rfl (bsame _)
      · intro ax wx hx hs
        obtain ⟨e6, -⟩ := hs
        have g6 := Reg.ev (v := .pointer (some ⟨W2.heap.size, 0, none⟩)) e6
        refine Reg.obl_free rfl ?_
        have hx' : Below W3.heap.size W3 wx := hx
        have hld := run_ld (P := Try.prog) arrPage (HS2_3.out.next hx') HLS.out
        exact Reg.wp_eqv (Option.some_ne_none _) (by go_simp) rfl
      · intro ax wx hx hs
        obtain ⟨e1, -⟩ := hs
        have g1 := Reg.ev (v := .int .i64 no) e1
        exact Reg.obl_free rfl (Reg.wp_eqv (Option.some_ne_none _) (by go_simp) rfl)
      · intro ax wx hx hs
        obtain ⟨e16, e17, -⟩ := hs
        have g16 := Reg.ev (v := .agg (rowV (PageP.sealed l))) e16
        have g17 := Reg.ev (v := .int .i64 no) e17
        refine Reg.obl_free rfl ?_
        have hx' : Below W3.heap.size W3 wx := hx
        go_simp
        refine (PageW.check_any _ HLS.out no _).mono ?_
        rintro e wy ⟨rfl, hby⟩
        rw [HR2.out]
        exact Reg.done (Option.some_ne_none _) rfl hby
      · intro ax wx hx hs
        obtain ⟨e18, -⟩ := hs
        have g18 := Reg.ev (v := .int .i64 14) e18
        refine Reg.obl_free rfl ?_
        go_simp
        refine (Live07.code_any _ _).mono ?_
        rintro e wy ⟨rfl, rfl⟩
        exact Reg.done (Option.some_ne_none _) rfl (bsame _)
      · intro ax wx hx hs
        obtain ⟨e15, -⟩ := hs
        have g15 := Reg.ev (v := .int .i64 14) e15
        exact Reg.obl_free rfl (Reg.wp_eqv (Option.some_ne_none _) (by go_simp) rfl)
      · intro ax wx hx hs
        obtain ⟨e19, -⟩ := hs
        have g19 := Reg.ev (v := .int .i64 14) e19
        exact Reg.obl_free rfl (Reg.wp_eqv (Option.some_ne_none _) (by go_simp) rfl)
    · intro W4 hwf
      simp only [Reg.Fin]
      rintro _ rfl _ rfl _ rfl _ rfl _ rfl _ rfl _ rfl _ rfl _ rfl _ rfl
      go_simp
      have HS0_4 := Lib.hid (HS0_3.out.next hwf)
      have HS1_4 := Lib.hid (HS1_3.out.next hwf)
      have HS2_4 := Lib.hid (HS2_3.out.next hwf)
      have HB_4 := Lib.hid (bstep HB_3.out hwf)
      have hw_4 := HB_4.out.size
      have hws_4 := (hwf).size
      clear HS0_3 HS1_3 HS2_3
      clear hwf
      have hl0_4 := HS0_4.out.lt
      have hl1_4 := HS1_4.out.lt
      have hl2_4 := HS2_4.out.lt
      go_wp2_with fail
      refine Reg.wp_region_vals (R := ext) (W := W4) [Reg.eqv (.slice (some ⟨W2.heap.size, 0, none⟩) 512 512), Reg.eqv (.slice (some ⟨w.heap.size, 0, none⟩) 512 512), Reg.bytes (PageP.sealed l), Reg.eqv (.bool true), Reg.eqv (.bool true), Reg.eqv (.int .i64 14), Reg.eqv (.bool false), Reg.eqv (.slice (some ⟨w.heap.size, 0, none⟩) 512 512), Reg.eqv (.int .i64 no), Reg.eqv (.bool false), Reg.eqv (.bool true), Reg.eqv (.bool true), Reg.eqv (.bool true), Reg.eqv (.int .i64 14), Reg.eqv (.bool false), Reg.eqv (.slice (some ⟨W2.heap.size, 0, none⟩) 512 512), Reg.eqv (.int .i64 no), Reg.eqv (.bool false), Reg.eqv (.bool true), Reg.eqv (.bool true), Reg.eqv (.bool true), Reg.eqv (.int .i64 14), Reg.eqv (.bool false), Reg.eqv (.bool false), Reg.eqv (.int .i64 14), Reg.eqv (.bool true), Reg.eqv (.bool true), Reg.eqv (.bool true), Reg.eqv (.bool true), Reg.eqv (.int .i64 14), Reg.eqv (.bool false), Reg.eqv (.bool false), Reg.eqv (.int .i64 14), Reg.eqv (.bool true), Reg.eqv (.bool true), Reg.eqv (.bool true), Reg.eqv (.bool true), Reg.eqv (.bool true), Reg.eqv (.bool true), Reg.eqv (.bool true)] 59 [[(6, none)], [(2, none)], [(21, some 1)], [(20, some 0), (22, some 2)], [(23, some 3)], [(7, none), (24, some 4)], [(25, some 5), (24, some 4)], [(2, none), (24, some 4)], [(1, none), (24, some 4)], [(27, some 7), (28, some 8), (24, some 4)], [(26, some 6), (29, some 9), (24, some 4)], [(24, some 4), (30, some 10)], [(31, some 11)], [(8, none), (32, some 12)], [(33, some 13), (32, some 12)], [(6, none), (32, some 12)], [(1, none), (32, some 12)], [(35, some 15), (36, some 16), (32, some 12)], [(34, some 14), (37, some 17), (32, some 12)], [(32, some 12), (38, some 18)], [(39, some 19)], [(7, none), (40, some 20)], [(41, some 21), (40, some 20)], [(42, some 22), (40, some 20)], [(7, none), (43, some 23)], [(44, some 24), (43, some 23)], [(43, some 23), (45, some 25), (40, some 20)], [(40, some 20), (46, some 26)], [(47, some 27)], [(8, none), (48, some 28)], [(49, some 29), (48, some 28)], [(50, some 30), (48, some 28)], [(8, none), (51, some 31)], [(52, some 32), (51, some 31)], [(51, some 31), (53, some 33), (48, some 28)], [(48, some 28), (54, some 34)], [(55, some 35)], [(56, some 36)], [(56, some 36), (57, some 37)], [(58, some 38)]] rfl (by kernel_rfl) (by kernel_rfl) (by kernel_rfl) ?_ [some 20, some 21, some 22, some 23, some 24, some 25, some 26, some 27, some 28, some 29, some 30, some 31, some 32, some 33, some 34, some 35, some 36, some 37, some 38, some 39, some 40, some 41, some 42, some 43, some 44, some 45, some 46, some 47, some 48, some 49, some 50, some 51, some 52, some 53, some 54, some 55, some 56, some 57, some 58, some 4] (by kernel_rfl) ?_
      · refine ⟨?_, ?_, ?_, ?_, ?_, ?_, ?_, ?_, ?_, ?_, ?_, ?_, ?_, ?_, ?_, ?_, ?_, ?_, ?_, ?_, ?_, ?_, ?_, ?_, ?_, ?_, ?_, ?_, ?_, ?_, ?_, ?_, ?_, ?_, ?_, ?_, ?_, ?_, ?_, ?_, trivial⟩
        · intro ax wx hx hs
          obtain ⟨e6, -⟩ := hs
          have g6 := Reg.ev (v := .pointer (some ⟨W2.heap.size, 0, none⟩)) e6
          exact Reg.obl_free rfl (Reg.wp_eqv (Option.some_ne_none _) (by go_simp) rfl)
        · intro ax wx hx hs
          obtain ⟨e2, -⟩ := hs
          have g2 := Reg.ev (v := .pointer (some ⟨w.heap.size, 0, none⟩)) e2
          exact Reg.obl_free rfl (Reg.wp_eqv (Option.some_ne_none _) (by go_simp) rfl)
        · intro ax wx hx hs
          obtain ⟨e21, -⟩ := hs
          have g21 := Reg.ev (v := .slice (some ⟨w.heap.size, 0, none⟩) 512 512) e21
          refine Reg.obl_free rfl ?_
          have hx' : Below W4.heap.size W4 wx := hx
          have hpt := (HS0_4.out.next hx').part 0 512 512 (by rw [HL.out]; omega) (by omega) (by unfold maxLen; omega)
          rw [List.drop_zero, List.take_of_length_le (by rw [HL.out]; omega)] at hpt
          go_simp
          refine (RefPage.sealed_any _ _ _ l _ hpt (Nat.le_refl _)).mono ?_
          rintro e wy ⟨A8, n8, c8, rfl, hy8, hby⟩
          exact Reg.done (Option.some_ne_none _) ⟨A8, n8, c8, rfl, hy8⟩ hby
        · intro ax wx hx hs
          obtain ⟨e20, e22, -⟩ := hs
          have g20 := Reg.ev (v := .slice (some ⟨W2.heap.size, 0, none⟩) 512 512) e20
          refine Reg.obl_free rfl ?_
          have hx' : Below W4.heap.size W4 wx := hx
          obtain ⟨A8, n8, c8, e22, hy8⟩ := e22
          have g22 := Reg.ev e22
          have hpt := (HS2_4.out.next hx').part 0 512 512 (by rw [HLS.out]; omega) (by omega) (by unfold maxLen; omega)
          rw [List.drop_zero, List.take_of_length_le (by rw [HLS.out]; omega)] at hpt
          go_simp
          refine (Same.same_any _ _ _ _ _ _ _ _ _ _ _ hpt hy8).mono ?_
          rintro e wy ⟨rfl, rfl⟩
          rw [beq_self_eq_true]
          exact Reg.done (Option.some_ne_none _) rfl (bsame _)
        · intro ax wx hx hs
          obtain ⟨e23, -⟩ := hs
          have g23 := Reg.ev (v := .bool true) e23
          exact Reg.obl_free rfl (Reg.wp_eqv (Option.some_ne_none _) (by go_simp) rfl)
        · intro ax wx hx hs
          obtain ⟨e7, e24, -⟩ := hs
          have g7 := Reg.ev (v := .int .i64 14) e7
          have g24 := Reg.ev (v := .bool true) e24
          exact Reg.obl_want rfl rfl e24 (Reg.wp_eqv (Option.some_ne_none _) (by go_simp) rfl)
        · intro ax wx hx hs
          obtain ⟨e25, e24, -⟩ := hs
          have g25 := Reg.ev (v := .int .i64 14) e25
          have g24 := Reg.ev (v := .bool true) e24
          exact Reg.obl_want rfl rfl e24 (Reg.wp_eqv (Option.some_ne_none _) (by go_simp) rfl)
        · intro ax wx hx hs
          obtain ⟨e2, e24, -⟩ := hs
          have g2 := Reg.ev (v := .pointer (some ⟨w.heap.size, 0, none⟩)) e2
          have g24 := Reg.ev (v := .bool true) e24
          exact Reg.obl_want rfl rfl e24 (Reg.wp_eqv (Option.some_ne_none _) (by go_simp) rfl)
        · intro ax wx hx hs
          obtain ⟨e1, e24, -⟩ := hs
          have g1 := Reg.ev (v := .int .i64 no) e1
          have g24 := Reg.ev (v := .bool true) e24
          exact Reg.obl_want rfl rfl e24 (Reg.wp_eqv (Option.some_ne_none _) (by go_simp) rfl)
        · intro ax wx hx hs
          obtain ⟨e27, e28, e24, -⟩ := hs
          have g27 := Reg.ev (v := .slice (some ⟨w.heap.size, 0, none⟩) 512 512) e27
          have g28 := Reg.ev (v := .int .i64 no) e28
          have g24 := Reg.ev (v := .bool true) e24
          refine Reg.obl_want rfl rfl e24 ?_
          have hx' : Below W4.heap.size W4 wx := hx
          have hpt := (HS0_4.out.next hx').part 0 512 512 (by rw [HL.out]; omega) (by omega) (by unfold maxLen; omega)
          rw [List.drop_zero, List.take_of_length_le (by rw [HL.out]; omega)] at hpt
          go_simp
          refine (RefPage.right_any _ _ _ l no _ hpt (Nat.le_refl _)).mono ?_
          rintro e wy ⟨rfl, hby⟩
          rw [HR1.out]
          exact Reg.done (Option.some_ne_none _) rfl hby
        · intro ax wx hx hs
          obtain ⟨e26, e29, e24, -⟩ := hs
          have g26 := Reg.ev (v := .bool false) e26
          have g29 := Reg.ev (v := .bool false) e29
          have g24 := Reg.ev (v := .bool true) e24
          exact Reg.obl_want rfl rfl e24 (Reg.wp_eqv (Option.some_ne_none _) (by go_simp) rfl)
        · intro ax wx hx hs
          obtain ⟨e24, e30, -⟩ := hs
          have g24 := Reg.ev (v := .bool true) e24
          have g30 := Reg.ev (v := .bool true) e30
          exact Reg.obl_free rfl (Reg.wp_eqv (Option.some_ne_none _) (by go_simp) rfl)
        · intro ax wx hx hs
          obtain ⟨e31, -⟩ := hs
          have g31 := Reg.ev (v := .bool true) e31
          exact Reg.obl_free rfl (Reg.wp_eqv (Option.some_ne_none _) (by go_simp) rfl)
        · intro ax wx hx hs
          obtain ⟨e8, e32, -⟩ := hs
          have g8 := Reg.ev (v := .int .i64 14) e8
          have g32 := Reg.ev (v := .bool true) e32
          exact Reg.obl_want rfl rfl e32 (Reg.wp_eqv (Option.some_ne_none _) (by go_simp) rfl)
        · intro ax wx hx hs
          obtain ⟨e33, e32, -⟩ := hs
          have g33 := Reg.ev (v := .int .i64 14) e33
          have g32 := Reg.ev (v := .bool true) e32
          exact Reg.obl_want rfl rfl e32 (Reg.wp_eqv (Option.some_ne_none _) (by go_simp) rfl)
        · intro ax wx hx hs
          obtain ⟨e6, e32, -⟩ := hs
          have g6 := Reg.ev (v := .pointer (some ⟨W2.heap.size, 0, none⟩)) e6
          have g32 := Reg.ev (v := .bool true) e32
          exact Reg.obl_want rfl rfl e32 (Reg.wp_eqv (Option.some_ne_none _) (by go_simp) rfl)
        · intro ax wx hx hs
          obtain ⟨e1, e32, -⟩ := hs
          have g1 := Reg.ev (v := .int .i64 no) e1
          have g32 := Reg.ev (v := .bool true) e32
          exact Reg.obl_want rfl rfl e32 (Reg.wp_eqv (Option.some_ne_none _) (by go_simp) rfl)
        · intro ax wx hx hs
          obtain ⟨e35, e36, e32, -⟩ := hs
          have g35 := Reg.ev (v := .slice (some ⟨W2.heap.size, 0, none⟩) 512 512) e35
          have g36 := Reg.ev (v := .int .i64 no) e36
          have g32 := Reg.ev (v := .bool true) e32
          refine Reg.obl_want rfl rfl e32 ?_
          have hx' : Below W4.heap.size W4 wx := hx
          have hpt := (HS2_4.out.next hx').part 0 512 512 (by rw [HLS.out]; omega) (by omega) (by unfold maxLen; omega)
          rw [List.drop_zero, List.take_of_length_le (by rw [HLS.out]; omega)] at hpt
          go_simp
          refine (RefPage.right_any _ _ _ _ no _ hpt (Nat.le_refl _)).mono ?_
          rintro e wy ⟨rfl, hby⟩
          rw [HR2.out]
          exact Reg.done (Option.some_ne_none _) rfl hby
        · intro ax wx hx hs
          obtain ⟨e34, e37, e32, -⟩ := hs
          have g34 := Reg.ev (v := .bool false) e34
          have g37 := Reg.ev (v := .bool false) e37
          have g32 := Reg.ev (v := .bool true) e32
          exact Reg.obl_want rfl rfl e32 (Reg.wp_eqv (Option.some_ne_none _) (by go_simp) rfl)
        · intro ax wx hx hs
          obtain ⟨e32, e38, -⟩ := hs
          have g32 := Reg.ev (v := .bool true) e32
          have g38 := Reg.ev (v := .bool true) e38
          exact Reg.obl_free rfl (Reg.wp_eqv (Option.some_ne_none _) (by go_simp) rfl)
        · intro ax wx hx hs
          obtain ⟨e39, -⟩ := hs
          have g39 := Reg.ev (v := .bool true) e39
          exact Reg.obl_free rfl (Reg.wp_eqv (Option.some_ne_none _) (by go_simp) rfl)
        · intro ax wx hx hs
          obtain ⟨e7, e40, -⟩ := hs
          have g7 := Reg.ev (v := .int .i64 14) e7
          have g40 := Reg.ev (v := .bool true) e40
          exact Reg.obl_want rfl rfl e40 (Reg.wp_eqv (Option.some_ne_none _) (by go_simp) rfl)
        · intro ax wx hx hs
          obtain ⟨e41, e40, -⟩ := hs
          have g41 := Reg.ev (v := .int .i64 14) e41
          have g40 := Reg.ev (v := .bool true) e40
          exact Reg.obl_want rfl rfl e40 (Reg.wp_eqv (Option.some_ne_none _) (by go_simp) rfl)
        · intro ax wx hx hs
          obtain ⟨e42, e40, -⟩ := hs
          have g42 := Reg.ev (v := .bool false) e42
          have g40 := Reg.ev (v := .bool true) e40
          exact Reg.obl_want rfl rfl e40 (Reg.wp_eqv (Option.some_ne_none _) (by go_simp) rfl)
        · intro ax wx hx hs
          obtain ⟨e7, e43, -⟩ := hs
          have g7 := Reg.ev (v := .int .i64 14) e7
          have g43 := Reg.ev (v := .bool false) e43
          exact Reg.obl_want rfl rfl e43 (Reg.wp_eqv (Option.some_ne_none _) (by go_simp) rfl)
        · intro ax wx hx hs
          obtain ⟨e44, e43, -⟩ := hs
          have g44 := Reg.ev (v := .int .i64 14) e44
          have g43 := Reg.ev (v := .bool false) e43
          exact Reg.obl_want rfl rfl e43 (Reg.wp_eqv (Option.some_ne_none _) (by go_simp) rfl)
        · intro ax wx hx hs
          obtain ⟨e43, e45, e40, -⟩ := hs
          have g43 := Reg.ev (v := .bool false) e43
          have g45 := Reg.ev (v := .bool true) e45
          have g40 := Reg.ev (v := .bool true) e40
          exact Reg.obl_want rfl rfl e40 (Reg.wp_eqv (Option.some_ne_none _) (by go_simp) rfl)
        · intro ax wx hx hs
          obtain ⟨e40, e46, -⟩ := hs
          have g40 := Reg.ev (v := .bool true) e40
          have g46 := Reg.ev (v := .bool true) e46
          exact Reg.obl_free rfl (Reg.wp_eqv (Option.some_ne_none _) (by go_simp) rfl)
        · intro ax wx hx hs
          obtain ⟨e47, -⟩ := hs
          have g47 := Reg.ev (v := .bool true) e47
          exact Reg.obl_free rfl (Reg.wp_eqv (Option.some_ne_none _) (by go_simp) rfl)
        · intro ax wx hx hs
          obtain ⟨e8, e48, -⟩ := hs
          have g8 := Reg.ev (v := .int .i64 14) e8
          have g48 := Reg.ev (v := .bool true) e48
          exact Reg.obl_want rfl rfl e48 (Reg.wp_eqv (Option.some_ne_none _) (by go_simp) rfl)
        · intro ax wx hx hs
          obtain ⟨e49, e48, -⟩ := hs
          have g49 := Reg.ev (v := .int .i64 14) e49
          have g48 := Reg.ev (v := .bool true) e48
          exact Reg.obl_want rfl rfl e48 (Reg.wp_eqv (Option.some_ne_none _) (by go_simp) rfl)
        · intro ax wx hx hs
          obtain ⟨e50, e48, -⟩ := hs
          have g50 := Reg.ev (v := .bool false) e50
          have g48 := Reg.ev (v := .bool true) e48
          exact Reg.obl_want rfl rfl e48 (Reg.wp_eqv (Option.some_ne_none _) (by go_simp) rfl)
        · intro ax wx hx hs
          obtain ⟨e8, e51, -⟩ := hs
          have g8 := Reg.ev (v := .int .i64 14) e8
          have g51 := Reg.ev (v := .bool false) e51
          exact Reg.obl_want rfl rfl e51 (Reg.wp_eqv (Option.some_ne_none _) (by go_simp) rfl)
        · intro ax wx hx hs
          obtain ⟨e52, e51, -⟩ := hs
          have g52 := Reg.ev (v := .int .i64 14) e52
          have g51 := Reg.ev (v := .bool false) e51
          exact Reg.obl_want rfl rfl e51 (Reg.wp_eqv (Option.some_ne_none _) (by go_simp) rfl)
        · intro ax wx hx hs
          obtain ⟨e51, e53, e48, -⟩ := hs
          have g51 := Reg.ev (v := .bool false) e51
          have g53 := Reg.ev (v := .bool true) e53
          have g48 := Reg.ev (v := .bool true) e48
          exact Reg.obl_want rfl rfl e48 (Reg.wp_eqv (Option.some_ne_none _) (by go_simp) rfl)
        · intro ax wx hx hs
          obtain ⟨e48, e54, -⟩ := hs
          have g48 := Reg.ev (v := .bool true) e48
          have g54 := Reg.ev (v := .bool true) e54
          exact Reg.obl_free rfl (Reg.wp_eqv (Option.some_ne_none _) (by go_simp) rfl)
        · intro ax wx hx hs
          obtain ⟨e55, -⟩ := hs
          have g55 := Reg.ev (v := .bool true) e55
          exact Reg.obl_free rfl (Reg.wp_eqv (Option.some_ne_none _) (by go_simp) rfl)
        · intro ax wx hx hs
          obtain ⟨e56, -⟩ := hs
          have g56 := Reg.ev (v := .bool true) e56
          refine Reg.obl_want rfl rfl e56 ?_
          have hx' : Below W4.heap.size W4 wx := hx
          go_simp
          refine (Live07.live_any _).mono ?_
          rintro e wy ⟨rfl, hby⟩
          exact Reg.done (Option.some_ne_none _) rfl hby
        · intro ax wx hx hs
          obtain ⟨e56, e57, -⟩ := hs
          have g56 := Reg.ev (v := .bool true) e56
          have g57 := Reg.ev (v := .bool true) e57
          exact Reg.obl_free rfl (Reg.wp_eqv (Option.some_ne_none _) (by go_simp) rfl)
        · intro ax wx hx hs
          obtain ⟨e58, -⟩ := hs
          have g58 := Reg.ev (v := .bool true) e58
          exact Reg.obl_free rfl (Reg.wp_eqv (Option.some_ne_none _) (by go_simp) rfl)
      · intro W5 hwf
        simp only [Reg.Fin]
        rintro _ rfl _ rfl v22 h22 _ rfl _ rfl _ rfl _ rfl _ rfl _ rfl _ rfl _ rfl _ rfl _ rfl _ rfl _ rfl _ rfl _ rfl _ rfl _ rfl _ rfl _ rfl _ rfl _ rfl _ rfl _ rfl _ rfl _ rfl _ rfl _ rfl _ rfl _ rfl _ rfl _ rfl _ rfl _ rfl _ rfl _ rfl _ rfl _ rfl _ rfl
        go_simp
        go_wp2_with fail
        go_ret
        exact ⟨rfl, bstep HB_4.out hwf⟩
  · have HR1 := Lib.hid hr1
    have HR2 := Lib.hid hr2
    clear hr1 hr2
    have hsl1 := fun W => run_sl_all (P := Try.prog) arr512 w.heap.size W
    have hsl2 := fun W => run_sl_all (P := Try.prog) arrPage W2.heap.size W
    refine Reg.wp_region_vals (R := ext) (W := W3) [Reg.eqv (.agg (rowV l)), Reg.eqv (.int .i64 no), Reg.eqv (.int .i64 14), Reg.eqv (.int .i64 14), Reg.eqv (.agg (rowV (PageP.sealed l))), Reg.eqv (.int .i64 no), Reg.eqv (.int .i64 0), Reg.eqv (.int .i64 0), Reg.eqv (.int .i64 14), Reg.eqv (.int .i64 0)] 59 [[(5, none)], [(1, none)], [(12, some 0), (13, some 1)], [(14, some 2)], [(6, none)], [(1, none)], [(16, some 4), (17, some 5)], [(18, some 6)], [(15, some 3)], [(19, some 7)]] rfl (by kernel_rfl) (by kernel_rfl) (by kernel_rfl) ?_ [some 12, some 13, some 14, some 15, some 16, some 17, some 18, some 19, some 7, some 8] (by kernel_rfl) ?_
    · refine ⟨?_, ?_, ?_, ?_, ?_, ?_, ?_, ?_, ?_, ?_, trivial⟩
      · intro ax wx hx hs
        obtain ⟨e5, -⟩ := hs
        have g5 := Reg.ev (v := .pointer (some ⟨w.heap.size + 1, 0, none⟩)) e5
        refine Reg.obl_free rfl ?_
        have hx' : Below W3.heap.size W3 wx := hx
        have hld := run_ld (P := Try.prog) arrPage (HS1_3.out.next hx') HL.out
        exact Reg.wp_eqv (Option.some_ne_none _) (by go_simp) rfl
      · intro ax wx hx hs
        obtain ⟨e1, -⟩ := hs
        have g1 := Reg.ev (v := .int .i64 no) e1
        exact Reg.obl_free rfl (Reg.wp_eqv (Option.some_ne_none _) (by go_simp) rfl)
      · intro ax wx hx hs
        obtain ⟨e12, e13, -⟩ := hs
        have g12 := Reg.ev (v := .agg (rowV l)) e12
        have g13 := Reg.ev (v := .int .i64 no) e13
        refine Reg.obl_free rfl ?_
        have hx' : Below W3.heap.size W3 wx := hx
        go_simp
        refine (PageW.check_any l HL.out no _).mono ?_
        rintro e wy ⟨rfl, hby⟩
        rw [HR1.out]
        exact Reg.done (Option.some_ne_none _) rfl hby
      · intro ax wx hx hs
        obtain ⟨e14, -⟩ := hs
        have g14 := Reg.ev (v := .int .i64 14) e14
        refine Reg.obl_free rfl ?_
        go_simp
        refine (Live07.code_any _ _).mono ?_
        rintro e wy ⟨rfl, rfl⟩
        exact Reg.done (Option.some_ne_none _) rfl (bsame _)
      · intro ax wx hx hs
        obtain ⟨e6, -⟩ := hs
        have g6 := Reg.ev (v := .pointer (some ⟨W2.heap.size, 0, none⟩)) e6
        refine Reg.obl_free rfl ?_
        have hx' : Below W3.heap.size W3 wx := hx
        have hld := run_ld (P := Try.prog) arrPage (HS2_3.out.next hx') HLS.out
        exact Reg.wp_eqv (Option.some_ne_none _) (by go_simp) rfl
      · intro ax wx hx hs
        obtain ⟨e1, -⟩ := hs
        have g1 := Reg.ev (v := .int .i64 no) e1
        exact Reg.obl_free rfl (Reg.wp_eqv (Option.some_ne_none _) (by go_simp) rfl)
      · intro ax wx hx hs
        obtain ⟨e16, e17, -⟩ := hs
        have g16 := Reg.ev (v := .agg (rowV (PageP.sealed l))) e16
        have g17 := Reg.ev (v := .int .i64 no) e17
        refine Reg.obl_free rfl ?_
        have hx' : Below W3.heap.size W3 wx := hx
        go_simp
        refine (PageW.check_any _ HLS.out no _).mono ?_
        rintro e wy ⟨rfl, hby⟩
        rw [HR2.out]
        exact Reg.done (Option.some_ne_none _) rfl hby
      · intro ax wx hx hs
        obtain ⟨e18, -⟩ := hs
        have g18 := Reg.ev (v := .int .i64 0) e18
        refine Reg.obl_free rfl ?_
        go_simp
        refine (Live07.code_any _ _).mono ?_
        rintro e wy ⟨rfl, rfl⟩
        exact Reg.done (Option.some_ne_none _) rfl (bsame _)
      · intro ax wx hx hs
        obtain ⟨e15, -⟩ := hs
        have g15 := Reg.ev (v := .int .i64 14) e15
        exact Reg.obl_free rfl (Reg.wp_eqv (Option.some_ne_none _) (by go_simp) rfl)
      · intro ax wx hx hs
        obtain ⟨e19, -⟩ := hs
        have g19 := Reg.ev (v := .int .i64 0) e19
        exact Reg.obl_free rfl (Reg.wp_eqv (Option.some_ne_none _) (by go_simp) rfl)
    · intro W4 hwf
      simp only [Reg.Fin]
      rintro _ rfl _ rfl _ rfl _ rfl _ rfl _ rfl _ rfl _ rfl _ rfl _ rfl
      go_simp
      have HS0_4 := Lib.hid (HS0_3.out.next hwf)
      have HS1_4 := Lib.hid (HS1_3.out.next hwf)
      have HS2_4 := Lib.hid (HS2_3.out.next hwf)
      have HB_4 := Lib.hid (bstep HB_3.out hwf)
      have hw_4 := HB_4.out.size
      have hws_4 := (hwf).size
      clear HS0_3 HS1_3 HS2_3
      clear hwf
      have hl0_4 := HS0_4.out.lt
      have hl1_4 := HS1_4.out.lt
      have hl2_4 := HS2_4.out.lt
      go_wp2_with fail
      refine Reg.wp_region_vals (R := ext) (W := W4) [Reg.eqv (.slice (some ⟨W2.heap.size, 0, none⟩) 512 512), Reg.eqv (.slice (some ⟨w.heap.size, 0, none⟩) 512 512), Reg.bytes (PageP.sealed l), Reg.eqv (.bool true), Reg.eqv (.bool true), Reg.eqv (.int .i64 14), Reg.eqv (.bool false), Reg.eqv (.slice (some ⟨w.heap.size, 0, none⟩) 512 512), Reg.eqv (.int .i64 no), Reg.eqv (.bool false), Reg.eqv (.bool true), Reg.eqv (.bool true), Reg.eqv (.bool true), Reg.eqv (.int .i64 0), Reg.eqv (.bool true), Reg.eqv (.slice (some ⟨W2.heap.size, 0, none⟩) 512 512), Reg.eqv (.int .i64 no), Reg.eqv (.bool true), Reg.eqv (.bool true), Reg.eqv (.bool true), Reg.eqv (.bool true), Reg.eqv (.int .i64 14), Reg.eqv (.bool false), Reg.eqv (.bool false), Reg.eqv (.int .i64 14), Reg.eqv (.bool true), Reg.eqv (.bool true), Reg.eqv (.bool true), Reg.eqv (.bool true), Reg.eqv (.int .i64 0), Reg.eqv (.bool true), Reg.eqv (.bool true), Reg.eqv undef, Reg.eqv undef, Reg.eqv (.bool true), Reg.eqv (.bool true), Reg.eqv (.bool true), Reg.eqv (.bool true), Reg.eqv (.bool true), Reg.eqv (.bool true)] 59 [[(6, none)], [(2, none)], [(21, some 1)], [(20, some 0), (22, some 2)], [(23, some 3)], [(7, none), (24, some 4)], [(25, some 5), (24, some 4)], [(2, none), (24, some 4)], [(1, none), (24, some 4)], [(27, some 7), (28, some 8), (24, some 4)], [(26, some 6), (29, some 9), (24, some 4)], [(24, some 4), (30, some 10)], [(31, some 11)], [(8, none), (32, some 12)], [(33, some 13), (32, some 12)], [(6, none), (32, some 12)], [(1, none), (32, some 12)], [(35, some 15), (36, some 16), (32, some 12)], [(34, some 14), (37, some 17), (32, some 12)], [(32, some 12), (38, some 18)], [(39, some 19)], [(7, none), (40, some 20)], [(41, some 21), (40, some 20)], [(42, some 22), (40, some 20)], [(7, none), (43, some 23)], [(44, some 24), (43, some 23)], [(43, some 23), (45, some 25), (40, some 20)], [(40, some 20), (46, some 26)], [(47, some 27)], [(8, none), (48, some 28)], [(49, some 29), (48, some 28)], [(50, some 30), (48, some 28)], [(8, none), (51, some 31)], [(52, some 32), (51, some 31)], [(51, some 31), (53, some 33), (48, some 28)], [(48, some 28), (54, some 34)], [(55, some 35)], [(56, some 36)], [(56, some 36), (57, some 37)], [(58, some 38)]] rfl (by kernel_rfl) (by kernel_rfl) (by kernel_rfl) ?_ [some 20, some 21, some 22, some 23, some 24, some 25, some 26, some 27, some 28, some 29, some 30, some 31, some 32, some 33, some 34, some 35, some 36, some 37, some 38, some 39, some 40, some 41, some 42, some 43, some 44, some 45, some 46, some 47, some 48, some 49, some 50, some 51, some 52, some 53, some 54, some 55, some 56, some 57, some 58, some 4] (by kernel_rfl) ?_
      · refine ⟨?_, ?_, ?_, ?_, ?_, ?_, ?_, ?_, ?_, ?_, ?_, ?_, ?_, ?_, ?_, ?_, ?_, ?_, ?_, ?_, ?_, ?_, ?_, ?_, ?_, ?_, ?_, ?_, ?_, ?_, ?_, ?_, ?_, ?_, ?_, ?_, ?_, ?_, ?_, ?_, trivial⟩
        · intro ax wx hx hs
          obtain ⟨e6, -⟩ := hs
          have g6 := Reg.ev (v := .pointer (some ⟨W2.heap.size, 0, none⟩)) e6
          exact Reg.obl_free rfl (Reg.wp_eqv (Option.some_ne_none _) (by go_simp) rfl)
        · intro ax wx hx hs
          obtain ⟨e2, -⟩ := hs
          have g2 := Reg.ev (v := .pointer (some ⟨w.heap.size, 0, none⟩)) e2
          exact Reg.obl_free rfl (Reg.wp_eqv (Option.some_ne_none _) (by go_simp) rfl)
        · intro ax wx hx hs
          obtain ⟨e21, -⟩ := hs
          have g21 := Reg.ev (v := .slice (some ⟨w.heap.size, 0, none⟩) 512 512) e21
          refine Reg.obl_free rfl ?_
          have hx' : Below W4.heap.size W4 wx := hx
          have hpt := (HS0_4.out.next hx').part 0 512 512 (by rw [HL.out]; omega) (by omega) (by unfold maxLen; omega)
          rw [List.drop_zero, List.take_of_length_le (by rw [HL.out]; omega)] at hpt
          go_simp
          refine (RefPage.sealed_any _ _ _ l _ hpt (Nat.le_refl _)).mono ?_
          rintro e wy ⟨A8, n8, c8, rfl, hy8, hby⟩
          exact Reg.done (Option.some_ne_none _) ⟨A8, n8, c8, rfl, hy8⟩ hby
        · intro ax wx hx hs
          obtain ⟨e20, e22, -⟩ := hs
          have g20 := Reg.ev (v := .slice (some ⟨W2.heap.size, 0, none⟩) 512 512) e20
          refine Reg.obl_free rfl ?_
          have hx' : Below W4.heap.size W4 wx := hx
          obtain ⟨A8, n8, c8, e22, hy8⟩ := e22
          have g22 := Reg.ev e22
          have hpt := (HS2_4.out.next hx').part 0 512 512 (by rw [HLS.out]; omega) (by omega) (by unfold maxLen; omega)
          rw [List.drop_zero, List.take_of_length_le (by rw [HLS.out]; omega)] at hpt
          go_simp
          refine (Same.same_any _ _ _ _ _ _ _ _ _ _ _ hpt hy8).mono ?_
          rintro e wy ⟨rfl, rfl⟩
          rw [beq_self_eq_true]
          exact Reg.done (Option.some_ne_none _) rfl (bsame _)
        · intro ax wx hx hs
          obtain ⟨e23, -⟩ := hs
          have g23 := Reg.ev (v := .bool true) e23
          exact Reg.obl_free rfl (Reg.wp_eqv (Option.some_ne_none _) (by go_simp) rfl)
        · intro ax wx hx hs
          obtain ⟨e7, e24, -⟩ := hs
          have g7 := Reg.ev (v := .int .i64 14) e7
          have g24 := Reg.ev (v := .bool true) e24
          exact Reg.obl_want rfl rfl e24 (Reg.wp_eqv (Option.some_ne_none _) (by go_simp) rfl)
        · intro ax wx hx hs
          obtain ⟨e25, e24, -⟩ := hs
          have g25 := Reg.ev (v := .int .i64 14) e25
          have g24 := Reg.ev (v := .bool true) e24
          exact Reg.obl_want rfl rfl e24 (Reg.wp_eqv (Option.some_ne_none _) (by go_simp) rfl)
        · intro ax wx hx hs
          obtain ⟨e2, e24, -⟩ := hs
          have g2 := Reg.ev (v := .pointer (some ⟨w.heap.size, 0, none⟩)) e2
          have g24 := Reg.ev (v := .bool true) e24
          exact Reg.obl_want rfl rfl e24 (Reg.wp_eqv (Option.some_ne_none _) (by go_simp) rfl)
        · intro ax wx hx hs
          obtain ⟨e1, e24, -⟩ := hs
          have g1 := Reg.ev (v := .int .i64 no) e1
          have g24 := Reg.ev (v := .bool true) e24
          exact Reg.obl_want rfl rfl e24 (Reg.wp_eqv (Option.some_ne_none _) (by go_simp) rfl)
        · intro ax wx hx hs
          obtain ⟨e27, e28, e24, -⟩ := hs
          have g27 := Reg.ev (v := .slice (some ⟨w.heap.size, 0, none⟩) 512 512) e27
          have g28 := Reg.ev (v := .int .i64 no) e28
          have g24 := Reg.ev (v := .bool true) e24
          refine Reg.obl_want rfl rfl e24 ?_
          have hx' : Below W4.heap.size W4 wx := hx
          have hpt := (HS0_4.out.next hx').part 0 512 512 (by rw [HL.out]; omega) (by omega) (by unfold maxLen; omega)
          rw [List.drop_zero, List.take_of_length_le (by rw [HL.out]; omega)] at hpt
          go_simp
          refine (RefPage.right_any _ _ _ l no _ hpt (Nat.le_refl _)).mono ?_
          rintro e wy ⟨rfl, hby⟩
          rw [HR1.out]
          exact Reg.done (Option.some_ne_none _) rfl hby
        · intro ax wx hx hs
          obtain ⟨e26, e29, e24, -⟩ := hs
          have g26 := Reg.ev (v := .bool false) e26
          have g29 := Reg.ev (v := .bool false) e29
          have g24 := Reg.ev (v := .bool true) e24
          exact Reg.obl_want rfl rfl e24 (Reg.wp_eqv (Option.some_ne_none _) (by go_simp) rfl)
        · intro ax wx hx hs
          obtain ⟨e24, e30, -⟩ := hs
          have g24 := Reg.ev (v := .bool true) e24
          have g30 := Reg.ev (v := .bool true) e30
          exact Reg.obl_free rfl (Reg.wp_eqv (Option.some_ne_none _) (by go_simp) rfl)
        · intro ax wx hx hs
          obtain ⟨e31, -⟩ := hs
          have g31 := Reg.ev (v := .bool true) e31
          exact Reg.obl_free rfl (Reg.wp_eqv (Option.some_ne_none _) (by go_simp) rfl)
        · intro ax wx hx hs
          obtain ⟨e8, e32, -⟩ := hs
          have g8 := Reg.ev (v := .int .i64 0) e8
          have g32 := Reg.ev (v := .bool true) e32
          exact Reg.obl_want rfl rfl e32 (Reg.wp_eqv (Option.some_ne_none _) (by go_simp) rfl)
        · intro ax wx hx hs
          obtain ⟨e33, e32, -⟩ := hs
          have g33 := Reg.ev (v := .int .i64 0) e33
          have g32 := Reg.ev (v := .bool true) e32
          exact Reg.obl_want rfl rfl e32 (Reg.wp_eqv (Option.some_ne_none _) (by go_simp) rfl)
        · intro ax wx hx hs
          obtain ⟨e6, e32, -⟩ := hs
          have g6 := Reg.ev (v := .pointer (some ⟨W2.heap.size, 0, none⟩)) e6
          have g32 := Reg.ev (v := .bool true) e32
          exact Reg.obl_want rfl rfl e32 (Reg.wp_eqv (Option.some_ne_none _) (by go_simp) rfl)
        · intro ax wx hx hs
          obtain ⟨e1, e32, -⟩ := hs
          have g1 := Reg.ev (v := .int .i64 no) e1
          have g32 := Reg.ev (v := .bool true) e32
          exact Reg.obl_want rfl rfl e32 (Reg.wp_eqv (Option.some_ne_none _) (by go_simp) rfl)
        · intro ax wx hx hs
          obtain ⟨e35, e36, e32, -⟩ := hs
          have g35 := Reg.ev (v := .slice (some ⟨W2.heap.size, 0, none⟩) 512 512) e35
          have g36 := Reg.ev (v := .int .i64 no) e36
          have g32 := Reg.ev (v := .bool true) e32
          refine Reg.obl_want rfl rfl e32 ?_
          have hx' : Below W4.heap.size W4 wx := hx
          have hpt := (HS2_4.out.next hx').part 0 512 512 (by rw [HLS.out]; omega) (by omega) (by unfold maxLen; omega)
          rw [List.drop_zero, List.take_of_length_le (by rw [HLS.out]; omega)] at hpt
          go_simp
          refine (RefPage.right_any _ _ _ _ no _ hpt (Nat.le_refl _)).mono ?_
          rintro e wy ⟨rfl, hby⟩
          rw [HR2.out]
          exact Reg.done (Option.some_ne_none _) rfl hby
        · intro ax wx hx hs
          obtain ⟨e34, e37, e32, -⟩ := hs
          have g34 := Reg.ev (v := .bool true) e34
          have g37 := Reg.ev (v := .bool true) e37
          have g32 := Reg.ev (v := .bool true) e32
          exact Reg.obl_want rfl rfl e32 (Reg.wp_eqv (Option.some_ne_none _) (by go_simp) rfl)
        · intro ax wx hx hs
          obtain ⟨e32, e38, -⟩ := hs
          have g32 := Reg.ev (v := .bool true) e32
          have g38 := Reg.ev (v := .bool true) e38
          exact Reg.obl_free rfl (Reg.wp_eqv (Option.some_ne_none _) (by go_simp) rfl)
        · intro ax wx hx hs
          obtain ⟨e39, -⟩ := hs
          have g39 := Reg.ev (v := .bool true) e39
          exact Reg.obl_free rfl (Reg.wp_eqv (Option.some_ne_none _) (by go_simp) rfl)
        · intro ax wx hx hs
          obtain ⟨e7, e40, -⟩ := hs
          have g7 := Reg.ev (v := .int .i64 14) e7
          have g40 := Reg.ev (v := .bool true) e40
          exact Reg.obl_want rfl rfl e40 (Reg.wp_eqv (Option.some_ne_none _) (by go_simp) rfl)
        · intro ax wx hx hs
          obtain ⟨e41, e40, -⟩ := hs
          have g41 := Reg.ev (v := .int .i64 14) e41
          have g40 := Reg.ev (v := .bool true) e40
          exact Reg.obl_want rfl rfl e40 (Reg.wp_eqv (Option.some_ne_none _) (by go_simp) rfl)
        · intro ax wx hx hs
          obtain ⟨e42, e40, -⟩ := hs
          have g42 := Reg.ev (v := .bool false) e42
          have g40 := Reg.ev (v := .bool true) e40
          exact Reg.obl_want rfl rfl e40 (Reg.wp_eqv (Option.some_ne_none _) (by go_simp) rfl)
        · intro ax wx hx hs
          obtain ⟨e7, e43, -⟩ := hs
          have g7 := Reg.ev (v := .int .i64 14) e7
          have g43 := Reg.ev (v := .bool false) e43
          exact Reg.obl_want rfl rfl e43 (Reg.wp_eqv (Option.some_ne_none _) (by go_simp) rfl)
        · intro ax wx hx hs
          obtain ⟨e44, e43, -⟩ := hs
          have g44 := Reg.ev (v := .int .i64 14) e44
          have g43 := Reg.ev (v := .bool false) e43
          exact Reg.obl_want rfl rfl e43 (Reg.wp_eqv (Option.some_ne_none _) (by go_simp) rfl)
        · intro ax wx hx hs
          obtain ⟨e43, e45, e40, -⟩ := hs
          have g43 := Reg.ev (v := .bool false) e43
          have g45 := Reg.ev (v := .bool true) e45
          have g40 := Reg.ev (v := .bool true) e40
          exact Reg.obl_want rfl rfl e40 (Reg.wp_eqv (Option.some_ne_none _) (by go_simp) rfl)
        · intro ax wx hx hs
          obtain ⟨e40, e46, -⟩ := hs
          have g40 := Reg.ev (v := .bool true) e40
          have g46 := Reg.ev (v := .bool true) e46
          exact Reg.obl_free rfl (Reg.wp_eqv (Option.some_ne_none _) (by go_simp) rfl)
        · intro ax wx hx hs
          obtain ⟨e47, -⟩ := hs
          have g47 := Reg.ev (v := .bool true) e47
          exact Reg.obl_free rfl (Reg.wp_eqv (Option.some_ne_none _) (by go_simp) rfl)
        · intro ax wx hx hs
          obtain ⟨e8, e48, -⟩ := hs
          have g8 := Reg.ev (v := .int .i64 0) e8
          have g48 := Reg.ev (v := .bool true) e48
          exact Reg.obl_want rfl rfl e48 (Reg.wp_eqv (Option.some_ne_none _) (by go_simp) rfl)
        · intro ax wx hx hs
          obtain ⟨e49, e48, -⟩ := hs
          have g49 := Reg.ev (v := .int .i64 0) e49
          have g48 := Reg.ev (v := .bool true) e48
          exact Reg.obl_want rfl rfl e48 (Reg.wp_eqv (Option.some_ne_none _) (by go_simp) rfl)
        · intro ax wx hx hs
          obtain ⟨e50, e48, -⟩ := hs
          have g50 := Reg.ev (v := .bool true) e50
          have g48 := Reg.ev (v := .bool true) e48
          exact Reg.obl_want rfl rfl e48 (Reg.wp_eqv (Option.some_ne_none _) (by go_simp) rfl)
        · intro ax wx hx hs
          obtain ⟨e8, e51, -⟩ := hs
          have g8 := Reg.ev (v := .int .i64 0) e8
          have g51 := Reg.ev (v := .bool true) e51
          exact Reg.obl_skip rfl rfl e51 rfl rfl
        · intro ax wx hx hs
          obtain ⟨e52, e51, -⟩ := hs
          have g52 := Reg.ev (v := undef) e52
          have g51 := Reg.ev (v := .bool true) e51
          exact Reg.obl_skip rfl rfl e51 rfl rfl
        · intro ax wx hx hs
          obtain ⟨e51, e53, e48, -⟩ := hs
          have g51 := Reg.ev (v := .bool true) e51
          have g53 := Reg.ev (v := undef) e53
          have g48 := Reg.ev (v := .bool true) e48
          exact Reg.obl_want rfl rfl e48 (Reg.wp_eqv (Option.some_ne_none _) (by go_simp) rfl)
        · intro ax wx hx hs
          obtain ⟨e48, e54, -⟩ := hs
          have g48 := Reg.ev (v := .bool true) e48
          have g54 := Reg.ev (v := .bool true) e54
          exact Reg.obl_free rfl (Reg.wp_eqv (Option.some_ne_none _) (by go_simp) rfl)
        · intro ax wx hx hs
          obtain ⟨e55, -⟩ := hs
          have g55 := Reg.ev (v := .bool true) e55
          exact Reg.obl_free rfl (Reg.wp_eqv (Option.some_ne_none _) (by go_simp) rfl)
        · intro ax wx hx hs
          obtain ⟨e56, -⟩ := hs
          have g56 := Reg.ev (v := .bool true) e56
          refine Reg.obl_want rfl rfl e56 ?_
          have hx' : Below W4.heap.size W4 wx := hx
          go_simp
          refine (Live07.live_any _).mono ?_
          rintro e wy ⟨rfl, hby⟩
          exact Reg.done (Option.some_ne_none _) rfl hby
        · intro ax wx hx hs
          obtain ⟨e56, e57, -⟩ := hs
          have g56 := Reg.ev (v := .bool true) e56
          have g57 := Reg.ev (v := .bool true) e57
          exact Reg.obl_free rfl (Reg.wp_eqv (Option.some_ne_none _) (by go_simp) rfl)
        · intro ax wx hx hs
          obtain ⟨e58, -⟩ := hs
          have g58 := Reg.ev (v := .bool true) e58
          exact Reg.obl_free rfl (Reg.wp_eqv (Option.some_ne_none _) (by go_simp) rfl)
      · intro W5 hwf
        simp only [Reg.Fin]
        rintro _ rfl _ rfl v22 h22 _ rfl _ rfl _ rfl _ rfl _ rfl _ rfl _ rfl _ rfl _ rfl _ rfl _ rfl _ rfl _ rfl _ rfl _ rfl _ rfl _ rfl _ rfl _ rfl _ rfl _ rfl _ rfl _ rfl _ rfl _ rfl _ rfl _ rfl _ rfl _ rfl _ rfl _ rfl _ rfl _ rfl _ rfl _ rfl _ rfl _ rfl
        go_simp
        go_wp2_with fail
        go_ret
        exact ⟨rfl, bstep HB_4.out hwf⟩
  · have HR1 := Lib.hid hr1
    have HR2 := Lib.hid hr2
    clear hr1 hr2
    have hsl1 := fun W => run_sl_all (P := Try.prog) arr512 w.heap.size W
    have hsl2 := fun W => run_sl_all (P := Try.prog) arrPage W2.heap.size W
    refine Reg.wp_region_vals (R := ext) (W := W3) [Reg.eqv (.agg (rowV l)), Reg.eqv (.int .i64 no), Reg.eqv (.int .i64 0), Reg.eqv (.int .i64 0), Reg.eqv (.agg (rowV (PageP.sealed l))), Reg.eqv (.int .i64 no), Reg.eqv (.int .i64 14), Reg.eqv (.int .i64 14), Reg.eqv (.int .i64 0), Reg.eqv (.int .i64 14)] 59 [[(5, none)], [(1, none)], [(12, some 0), (13, some 1)], [(14, some 2)], [(6, none)], [(1, none)], [(16, some 4), (17, some 5)], [(18, some 6)], [(15, some 3)], [(19, some 7)]] rfl (by kernel_rfl) (by kernel_rfl) (by kernel_rfl) ?_ [some 12, some 13, some 14, some 15, some 16, some 17, some 18, some 19, some 7, some 8] (by kernel_rfl) ?_
    · refine ⟨?_, ?_, ?_, ?_, ?_, ?_, ?_, ?_, ?_, ?_, trivial⟩
      · intro ax wx hx hs
        obtain ⟨e5, -⟩ := hs
        have g5 := Reg.ev (v := .pointer (some ⟨w.heap.size + 1, 0, none⟩)) e5
        refine Reg.obl_free rfl ?_
        have hx' : Below W3.heap.size W3 wx := hx
        have hld := run_ld (P := Try.prog) arrPage (HS1_3.out.next hx') HL.out
        exact Reg.wp_eqv (Option.some_ne_none _) (by go_simp) rfl
      · intro ax wx hx hs
        obtain ⟨e1, -⟩ := hs
        have g1 := Reg.ev (v := .int .i64 no) e1
        exact Reg.obl_free rfl (Reg.wp_eqv (Option.some_ne_none _) (by go_simp) rfl)
      · intro ax wx hx hs
        obtain ⟨e12, e13, -⟩ := hs
        have g12 := Reg.ev (v := .agg (rowV l)) e12
        have g13 := Reg.ev (v := .int .i64 no) e13
        refine Reg.obl_free rfl ?_
        have hx' : Below W3.heap.size W3 wx := hx
        go_simp
        refine (PageW.check_any l HL.out no _).mono ?_
        rintro e wy ⟨rfl, hby⟩
        rw [HR1.out]
        exact Reg.done (Option.some_ne_none _) rfl hby
      · intro ax wx hx hs
        obtain ⟨e14, -⟩ := hs
        have g14 := Reg.ev (v := .int .i64 0) e14
        refine Reg.obl_free rfl ?_
        go_simp
        refine (Live07.code_any _ _).mono ?_
        rintro e wy ⟨rfl, rfl⟩
        exact Reg.done (Option.some_ne_none _) rfl (bsame _)
      · intro ax wx hx hs
        obtain ⟨e6, -⟩ := hs
        have g6 := Reg.ev (v := .pointer (some ⟨W2.heap.size, 0, none⟩)) e6
        refine Reg.obl_free rfl ?_
        have hx' : Below W3.heap.size W3 wx := hx
        have hld := run_ld (P := Try.prog) arrPage (HS2_3.out.next hx') HLS.out
        exact Reg.wp_eqv (Option.some_ne_none _) (by go_simp) rfl
      · intro ax wx hx hs
        obtain ⟨e1, -⟩ := hs
        have g1 := Reg.ev (v := .int .i64 no) e1
        exact Reg.obl_free rfl (Reg.wp_eqv (Option.some_ne_none _) (by go_simp) rfl)
      · intro ax wx hx hs
        obtain ⟨e16, e17, -⟩ := hs
        have g16 := Reg.ev (v := .agg (rowV (PageP.sealed l))) e16
        have g17 := Reg.ev (v := .int .i64 no) e17
        refine Reg.obl_free rfl ?_
        have hx' : Below W3.heap.size W3 wx := hx
        go_simp
        refine (PageW.check_any _ HLS.out no _).mono ?_
        rintro e wy ⟨rfl, hby⟩
        rw [HR2.out]
        exact Reg.done (Option.some_ne_none _) rfl hby
      · intro ax wx hx hs
        obtain ⟨e18, -⟩ := hs
        have g18 := Reg.ev (v := .int .i64 14) e18
        refine Reg.obl_free rfl ?_
        go_simp
        refine (Live07.code_any _ _).mono ?_
        rintro e wy ⟨rfl, rfl⟩
        exact Reg.done (Option.some_ne_none _) rfl (bsame _)
      · intro ax wx hx hs
        obtain ⟨e15, -⟩ := hs
        have g15 := Reg.ev (v := .int .i64 0) e15
        exact Reg.obl_free rfl (Reg.wp_eqv (Option.some_ne_none _) (by go_simp) rfl)
      · intro ax wx hx hs
        obtain ⟨e19, -⟩ := hs
        have g19 := Reg.ev (v := .int .i64 14) e19
        exact Reg.obl_free rfl (Reg.wp_eqv (Option.some_ne_none _) (by go_simp) rfl)
    · intro W4 hwf
      simp only [Reg.Fin]
      rintro _ rfl _ rfl _ rfl _ rfl _ rfl _ rfl _ rfl _ rfl _ rfl _ rfl
      go_simp
      have HS0_4 := Lib.hid (HS0_3.out.next hwf)
      have HS1_4 := Lib.hid (HS1_3.out.next hwf)
      have HS2_4 := Lib.hid (HS2_3.out.next hwf)
      have HB_4 := Lib.hid (bstep HB_3.out hwf)
      have hw_4 := HB_4.out.size
      have hws_4 := (hwf).size
      clear HS0_3 HS1_3 HS2_3
      clear hwf
      have hl0_4 := HS0_4.out.lt
      have hl1_4 := HS1_4.out.lt
      have hl2_4 := HS2_4.out.lt
      go_wp2_with fail
      refine Reg.wp_region_vals (R := ext) (W := W4) [Reg.eqv (.slice (some ⟨W2.heap.size, 0, none⟩) 512 512), Reg.eqv (.slice (some ⟨w.heap.size, 0, none⟩) 512 512), Reg.bytes (PageP.sealed l), Reg.eqv (.bool true), Reg.eqv (.bool true), Reg.eqv (.int .i64 0), Reg.eqv (.bool true), Reg.eqv (.slice (some ⟨w.heap.size, 0, none⟩) 512 512), Reg.eqv (.int .i64 no), Reg.eqv (.bool true), Reg.eqv (.bool true), Reg.eqv (.bool true), Reg.eqv (.bool true), Reg.eqv (.int .i64 14), Reg.eqv (.bool false), Reg.eqv (.slice (some ⟨W2.heap.size, 0, none⟩) 512 512), Reg.eqv (.int .i64 no), Reg.eqv (.bool false), Reg.eqv (.bool true), Reg.eqv (.bool true), Reg.eqv (.bool true), Reg.eqv (.int .i64 0), Reg.eqv (.bool true), Reg.eqv (.bool true), Reg.eqv undef, Reg.eqv undef, Reg.eqv (.bool true), Reg.eqv (.bool true), Reg.eqv (.bool true), Reg.eqv (.int .i64 14), Reg.eqv (.bool false), Reg.eqv (.bool false), Reg.eqv (.int .i64 14), Reg.eqv (.bool true), Reg.eqv (.bool true), Reg.eqv (.bool true), Reg.eqv (.bool true), Reg.eqv (.bool true), Reg.eqv (.bool true), Reg.eqv (.bool true)] 59 [[(6, none)], [(2, none)], [(21, some 1)], [(20, some 0), (22, some 2)], [(23, some 3)], [(7, none), (24, some 4)], [(25, some 5), (24, some 4)], [(2, none), (24, some 4)], [(1, none), (24, some 4)], [(27, some 7), (28, some 8), (24, some 4)], [(26, some 6), (29, some 9), (24, some 4)], [(24, some 4), (30, some 10)], [(31, some 11)], [(8, none), (32, some 12)], [(33, some 13), (32, some 12)], [(6, none), (32, some 12)], [(1, none), (32, some 12)], [(35, some 15), (36, some 16), (32, some 12)], [(34, some 14), (37, some 17), (32, some 12)], [(32, some 12), (38, some 18)], [(39, some 19)], [(7, none), (40, some 20)], [(41, some 21), (40, some 20)], [(42, some 22), (40, some 20)], [(7, none), (43, some 23)], [(44, some 24), (43, some 23)], [(43, some 23), (45, some 25), (40, some 20)], [(40, some 20), (46, some 26)], [(47, some 27)], [(8, none), (48, some 28)], [(49, some 29), (48, some 28)], [(50, some 30), (48, some 28)], [(8, none), (51, some 31)], [(52, some 32), (51, some 31)], [(51, some 31), (53, some 33), (48, some 28)], [(48, some 28), (54, some 34)], [(55, some 35)], [(56, some 36)], [(56, some 36), (57, some 37)], [(58, some 38)]] rfl (by kernel_rfl) (by kernel_rfl) (by kernel_rfl) ?_ [some 20, some 21, some 22, some 23, some 24, some 25, some 26, some 27, some 28, some 29, some 30, some 31, some 32, some 33, some 34, some 35, some 36, some 37, some 38, some 39, some 40, some 41, some 42, some 43, some 44, some 45, some 46, some 47, some 48, some 49, some 50, some 51, some 52, some 53, some 54, some 55, some 56, some 57, some 58, some 4] (by kernel_rfl) ?_
      · refine ⟨?_, ?_, ?_, ?_, ?_, ?_, ?_, ?_, ?_, ?_, ?_, ?_, ?_, ?_, ?_, ?_, ?_, ?_, ?_, ?_, ?_, ?_, ?_, ?_, ?_, ?_, ?_, ?_, ?_, ?_, ?_, ?_, ?_, ?_, ?_, ?_, ?_, ?_, ?_, ?_, trivial⟩
        · intro ax wx hx hs
          obtain ⟨e6, -⟩ := hs
          have g6 := Reg.ev (v := .pointer (some ⟨W2.heap.size, 0, none⟩)) e6
          exact Reg.obl_free rfl (Reg.wp_eqv (Option.some_ne_none _) (by go_simp) rfl)
        · intro ax wx hx hs
          obtain ⟨e2, -⟩ := hs
          have g2 := Reg.ev (v := .pointer (some ⟨w.heap.size, 0, none⟩)) e2
          exact Reg.obl_free rfl (Reg.wp_eqv (Option.some_ne_none _) (by go_simp) rfl)
        · intro ax wx hx hs
          obtain ⟨e21, -⟩ := hs
          have g21 := Reg.ev (v := .slice (some ⟨w.heap.size, 0, none⟩) 512 512) e21
          refine Reg.obl_free rfl ?_
          have hx' : Below W4.heap.size W4 wx := hx
          have hpt := (HS0_4.out.next hx').part 0 512 512 (by rw [HL.out]; omega) (by omega) (by unfold maxLen; omega)
          rw [List.drop_zero, List.take_of_length_le (by rw [HL.out]; omega)] at hpt
          go_simp
          refine (RefPage.sealed_any _ _ _ l _ hpt (Nat.le_refl _)).mono ?_
          rintro e wy ⟨A8, n8, c8, rfl, hy8, hby⟩
          exact Reg.done (Option.some_ne_none _) ⟨A8, n8, c8, rfl, hy8⟩ hby
        · intro ax wx hx hs
          obtain ⟨e20, e22, -⟩ := hs
          have g20 := Reg.ev (v := .slice (some ⟨W2.heap.size, 0, none⟩) 512 512) e20
          refine Reg.obl_free rfl ?_
          have hx' : Below W4.heap.size W4 wx := hx
          obtain ⟨A8, n8, c8, e22, hy8⟩ := e22
          have g22 := Reg.ev e22
          have hpt := (HS2_4.out.next hx').part 0 512 512 (by rw [HLS.out]; omega) (by omega) (by unfold maxLen; omega)
          rw [List.drop_zero, List.take_of_length_le (by rw [HLS.out]; omega)] at hpt
          go_simp
          refine (Same.same_any _ _ _ _ _ _ _ _ _ _ _ hpt hy8).mono ?_
          rintro e wy ⟨rfl, rfl⟩
          rw [beq_self_eq_true]
          exact Reg.done (Option.some_ne_none _) rfl (bsame _)
        · intro ax wx hx hs
          obtain ⟨e23, -⟩ := hs
          have g23 := Reg.ev (v := .bool true) e23
          exact Reg.obl_free rfl (Reg.wp_eqv (Option.some_ne_none _) (by go_simp) rfl)
        · intro ax wx hx hs
          obtain ⟨e7, e24, -⟩ := hs
          have g7 := Reg.ev (v := .int .i64 0) e7
          have g24 := Reg.ev (v := .bool true) e24
          exact Reg.obl_want rfl rfl e24 (Reg.wp_eqv (Option.some_ne_none _) (by go_simp) rfl)
        · intro ax wx hx hs
          obtain ⟨e25, e24, -⟩ := hs
          have g25 := Reg.ev (v := .int .i64 0) e25
          have g24 := Reg.ev (v := .bool true) e24
          exact Reg.obl_want rfl rfl e24 (Reg.wp_eqv (Option.some_ne_none _) (by go_simp) rfl)
        · intro ax wx hx hs
          obtain ⟨e2, e24, -⟩ := hs
          have g2 := Reg.ev (v := .pointer (some ⟨w.heap.size, 0, none⟩)) e2
          have g24 := Reg.ev (v := .bool true) e24
          exact Reg.obl_want rfl rfl e24 (Reg.wp_eqv (Option.some_ne_none _) (by go_simp) rfl)
        · intro ax wx hx hs
          obtain ⟨e1, e24, -⟩ := hs
          have g1 := Reg.ev (v := .int .i64 no) e1
          have g24 := Reg.ev (v := .bool true) e24
          exact Reg.obl_want rfl rfl e24 (Reg.wp_eqv (Option.some_ne_none _) (by go_simp) rfl)
        · intro ax wx hx hs
          obtain ⟨e27, e28, e24, -⟩ := hs
          have g27 := Reg.ev (v := .slice (some ⟨w.heap.size, 0, none⟩) 512 512) e27
          have g28 := Reg.ev (v := .int .i64 no) e28
          have g24 := Reg.ev (v := .bool true) e24
          refine Reg.obl_want rfl rfl e24 ?_
          have hx' : Below W4.heap.size W4 wx := hx
          have hpt := (HS0_4.out.next hx').part 0 512 512 (by rw [HL.out]; omega) (by omega) (by unfold maxLen; omega)
          rw [List.drop_zero, List.take_of_length_le (by rw [HL.out]; omega)] at hpt
          go_simp
          refine (RefPage.right_any _ _ _ l no _ hpt (Nat.le_refl _)).mono ?_
          rintro e wy ⟨rfl, hby⟩
          rw [HR1.out]
          exact Reg.done (Option.some_ne_none _) rfl hby
        · intro ax wx hx hs
          obtain ⟨e26, e29, e24, -⟩ := hs
          have g26 := Reg.ev (v := .bool true) e26
          have g29 := Reg.ev (v := .bool true) e29
          have g24 := Reg.ev (v := .bool true) e24
          exact Reg.obl_want rfl rfl e24 (Reg.wp_eqv (Option.some_ne_none _) (by go_simp) rfl)
        · intro ax wx hx hs
          obtain ⟨e24, e30, -⟩ := hs
          have g24 := Reg.ev (v := .bool true) e24
          have g30 := Reg.ev (v := .bool true) e30
          exact Reg.obl_free rfl (Reg.wp_eqv (Option.some_ne_none _) (by go_simp) rfl)
        · intro ax wx hx hs
          obtain ⟨e31, -⟩ := hs
          have g31 := Reg.ev (v := .bool true) e31
          exact Reg.obl_free rfl (Reg.wp_eqv (Option.some_ne_none _) (by go_simp) rfl)
        · intro ax wx hx hs
          obtain ⟨e8, e32, -⟩ := hs
          have g8 := Reg.ev (v := .int .i64 14) e8
          have g32 := Reg.ev (v := .bool true) e32
          exact Reg.obl_want rfl rfl e32 (Reg.wp_eqv (Option.some_ne_none _) (by go_simp) rfl)
        · intro ax wx hx hs
          obtain ⟨e33, e32, -⟩ := hs
          have g33 := Reg.ev (v := .int .i64 14) e33
          have g32 := Reg.ev (v := .bool true) e32
          exact Reg.obl_want rfl rfl e32 (Reg.wp_eqv (Option.some_ne_none _) (by go_simp) rfl)
        · intro ax wx hx hs
          obtain ⟨e6, e32, -⟩ := hs
          have g6 := Reg.ev (v := .pointer (some ⟨W2.heap.size, 0, none⟩)) e6
          have g32 := Reg.ev (v := .bool true) e32
          exact Reg.obl_want rfl rfl e32 (Reg.wp_eqv (Option.some_ne_none _) (by go_simp) rfl)
        · intro ax wx hx hs
          obtain ⟨e1, e32, -⟩ := hs
          have g1 := Reg.ev (v := .int .i64 no) e1
          have g32 := Reg.ev (v := .bool true) e32
          exact Reg.obl_want rfl rfl e32 (Reg.wp_eqv (Option.some_ne_none _) (by go_simp) rfl)
        · intro ax wx hx hs
          obtain ⟨e35, e36, e32, -⟩ := hs
          have g35 := Reg.ev (v := .slice (some ⟨W2.heap.size, 0, none⟩) 512 512) e35
          have g36 := Reg.ev (v := .int .i64 no) e36
          have g32 := Reg.ev (v := .bool true) e32
          refine Reg.obl_want rfl rfl e32 ?_
          have hx' : Below W4.heap.size W4 wx := hx
          have hpt := (HS2_4.out.next hx').part 0 512 512 (by rw [HLS.out]; omega) (by omega) (by unfold maxLen; omega)
          rw [List.drop_zero, List.take_of_length_le (by rw [HLS.out]; omega)] at hpt
          go_simp
          refine (RefPage.right_any _ _ _ _ no _ hpt (Nat.le_refl _)).mono ?_
          rintro e wy ⟨rfl, hby⟩
          rw [HR2.out]
          exact Reg.done (Option.some_ne_none _) rfl hby
        · intro ax wx hx hs
          obtain ⟨e34, e37, e32, -⟩ := hs
          have g34 := Reg.ev (v := .bool false) e34
          have g37 := Reg.ev (v := .bool false) e37
          have g32 := Reg.ev (v := .bool true) e32
          exact Reg.obl_want rfl rfl e32 (Reg.wp_eqv (Option.some_ne_none _) (by go_simp) rfl)
        · intro ax wx hx hs
          obtain ⟨e32, e38, -⟩ := hs
          have g32 := Reg.ev (v := .bool true) e32
          have g38 := Reg.ev (v := .bool true) e38
          exact Reg.obl_free rfl (Reg.wp_eqv (Option.some_ne_none _) (by go_simp) rfl)
        · intro ax wx hx hs
          obtain ⟨e39, -⟩ := hs
          have g39 := Reg.ev (v := .bool true) e39
          exact Reg.obl_free rfl (Reg.wp_eqv (Option.some_ne_none _) (by go_simp) rfl)
        · intro ax wx hx hs
          obtain ⟨e7, e40, -⟩ := hs
          have g7 := Reg.ev (v := .int .i64 0) e7
          have g40 := Reg.ev (v := .bool true) e40
          exact Reg.obl_want rfl rfl e40 (Reg.wp_eqv (Option.some_ne_none _) (by go_simp) rfl)
        · intro ax wx hx hs
          obtain ⟨e41, e40, -⟩ := hs
          have g41 := Reg.ev (v := .int .i64 0) e41
          have g40 := Reg.ev (v := .bool true) e40
          exact Reg.obl_want rfl rfl e40 (Reg.wp_eqv (Option.some_ne_none _) (by go_simp) rfl)
        · intro ax wx hx hs
          obtain ⟨e42, e40, -⟩ := hs
          have g42 := Reg.ev (v := .bool true) e42
          have g40 := Reg.ev (v := .bool true) e40
          exact Reg.obl_want rfl rfl e40 (Reg.wp_eqv (Option.some_ne_none _) (by go_simp) rfl)
        · intro ax wx hx hs
          obtain ⟨e7, e43, -⟩ := hs
          have g7 := Reg.ev (v := .int .i64 0) e7
          have g43 := Reg.ev (v := .bool true) e43
          exact Reg.obl_skip rfl rfl e43 rfl rfl
        · intro ax wx hx hs
          obtain ⟨e44, e43, -⟩ := hs
          have g44 := Reg.ev (v := undef) e44
          have g43 := Reg.ev (v := .bool true) e43
          exact Reg.obl_skip rfl rfl e43 rfl rfl
        · intro ax wx hx hs
          obtain ⟨e43, e45, e40, -⟩ := hs
          have g43 := Reg.ev (v := .bool true) e43
          have g45 := Reg.ev (v := undef) e45
          have g40 := Reg.ev (v := .bool true) e40
          exact Reg.obl_want rfl rfl e40 (Reg.wp_eqv (Option.some_ne_none _) (by go_simp) rfl)
        · intro ax wx hx hs
          obtain ⟨e40, e46, -⟩ := hs
          have g40 := Reg.ev (v := .bool true) e40
          have g46 := Reg.ev (v := .bool true) e46
          exact Reg.obl_free rfl (Reg.wp_eqv (Option.some_ne_none _) (by go_simp) rfl)
        · intro ax wx hx hs
          obtain ⟨e47, -⟩ := hs
          have g47 := Reg.ev (v := .bool true) e47
          exact Reg.obl_free rfl (Reg.wp_eqv (Option.some_ne_none _) (by go_simp) rfl)
        · intro ax wx hx hs
          obtain ⟨e8, e48, -⟩ := hs
          have g8 := Reg.ev (v := .int .i64 14) e8
          have g48 := Reg.ev (v := .bool true) e48
          exact Reg.obl_want rfl rfl e48 (Reg.wp_eqv (Option.some_ne_none _) (by go_simp) rfl)
        · intro ax wx hx hs
          obtain ⟨e49, e48, -⟩ := hs
          have g49 := Reg.ev (v := .int .i64 14) e49
          have g48 := Reg.ev (v := .bool true) e48
          exact Reg.obl_want rfl rfl e48 (Reg.wp_eqv (Option.some_ne_none _) (by go_simp) rfl)
        · intro ax wx hx hs
          obtain ⟨e50, e48, -⟩ := hs
          have g50 := Reg.ev (v := .bool false) e50
          have g48 := Reg.ev (v := .bool true) e48
          exact Reg.obl_want rfl rfl e48 (Reg.wp_eqv (Option.some_ne_none _) (by go_simp) rfl)
        · intro ax wx hx hs
          obtain ⟨e8, e51, -⟩ := hs
          have g8 := Reg.ev (v := .int .i64 14) e8
          have g51 := Reg.ev (v := .bool false) e51
          exact Reg.obl_want rfl rfl e51 (Reg.wp_eqv (Option.some_ne_none _) (by go_simp) rfl)
        · intro ax wx hx hs
          obtain ⟨e52, e51, -⟩ := hs
          have g52 := Reg.ev (v := .int .i64 14) e52
          have g51 := Reg.ev (v := .bool false) e51
          exact Reg.obl_want rfl rfl e51 (Reg.wp_eqv (Option.some_ne_none _) (by go_simp) rfl)
        · intro ax wx hx hs
          obtain ⟨e51, e53, e48, -⟩ := hs
          have g51 := Reg.ev (v := .bool false) e51
          have g53 := Reg.ev (v := .bool true) e53
          have g48 := Reg.ev (v := .bool true) e48
          exact Reg.obl_want rfl rfl e48 (Reg.wp_eqv (Option.some_ne_none _) (by go_simp) rfl)
        · intro ax wx hx hs
          obtain ⟨e48, e54, -⟩ := hs
          have g48 := Reg.ev (v := .bool true) e48
          have g54 := Reg.ev (v := .bool true) e54
          exact Reg.obl_free rfl (Reg.wp_eqv (Option.some_ne_none _) (by go_simp) rfl)
        · intro ax wx hx hs
          obtain ⟨e55, -⟩ := hs
          have g55 := Reg.ev (v := .bool true) e55
          exact Reg.obl_free rfl (Reg.wp_eqv (Option.some_ne_none _) (by go_simp) rfl)
        · intro ax wx hx hs
          obtain ⟨e56, -⟩ := hs
          have g56 := Reg.ev (v := .bool true) e56
          refine Reg.obl_want rfl rfl e56 ?_
          have hx' : Below W4.heap.size W4 wx := hx
          go_simp
          refine (Live07.live_any _).mono ?_
          rintro e wy ⟨rfl, hby⟩
          exact Reg.done (Option.some_ne_none _) rfl hby
        · intro ax wx hx hs
          obtain ⟨e56, e57, -⟩ := hs
          have g56 := Reg.ev (v := .bool true) e56
          have g57 := Reg.ev (v := .bool true) e57
          exact Reg.obl_free rfl (Reg.wp_eqv (Option.some_ne_none _) (by go_simp) rfl)
        · intro ax wx hx hs
          obtain ⟨e58, -⟩ := hs
          have g58 := Reg.ev (v := .bool true) e58
          exact Reg.obl_free rfl (Reg.wp_eqv (Option.some_ne_none _) (by go_simp) rfl)
      · intro W5 hwf
        simp only [Reg.Fin]
        rintro _ rfl _ rfl v22 h22 _ rfl _ rfl _ rfl _ rfl _ rfl _ rfl _ rfl _ rfl _ rfl _ rfl _ rfl _ rfl _ rfl _ rfl _ rfl _ rfl _ rfl _ rfl _ rfl _ rfl _ rfl _ rfl _ rfl _ rfl _ rfl _ rfl _ rfl _ rfl _ rfl _ rfl _ rfl _ rfl _ rfl _ rfl _ rfl _ rfl _ rfl
        go_simp
        go_wp2_with fail
        go_ret
        exact ⟨rfl, bstep HB_4.out hwf⟩
  · have HR1 := Lib.hid hr1
    have HR2 := Lib.hid hr2
    clear hr1 hr2
    have hsl1 := fun W => run_sl_all (P := Try.prog) arr512 w.heap.size W
    have hsl2 := fun W => run_sl_all (P := Try.prog) arrPage W2.heap.size W
    refine Reg.wp_region_vals (R := ext) (W := W3) [Reg.eqv (.agg (rowV l)), Reg.eqv (.int .i64 no), Reg.eqv (.int .i64 0), Reg.eqv (.int .i64 0), Reg.eqv (.agg (rowV (PageP.sealed l))), Reg.eqv (.int .i64 no), Reg.eqv (.int .i64 0), Reg.eqv (.int .i64 0), Reg.eqv (.int .i64 0), Reg.eqv (.int .i64 0)] 59 [[(5, none)], [(1, none)], [(12, some 0), (13, some 1)], [(14, some 2)], [(6, none)], [(1, none)], [(16, some 4), (17, some 5)], [(18, some 6)], [(15, some 3)], [(19, some 7)]] rfl (by kernel_rfl) (by kernel_rfl) (by kernel_rfl) ?_ [some 12, some 13, some 14, some 15, some 16, some 17, some 18, some 19, some 7, some 8] (by kernel_rfl) ?_
    · refine ⟨?_, ?_, ?_, ?_, ?_, ?_, ?_, ?_, ?_, ?_, trivial⟩
      · intro ax wx hx hs
        obtain ⟨e5, -⟩ := hs
        have g5 := Reg.ev (v := .pointer (some ⟨w.heap.size + 1, 0, none⟩)) e5
        refine Reg.obl_free rfl ?_
        have hx' : Below W3.heap.size W3 wx := hx
        have hld := run_ld (P := Try.prog) arrPage (HS1_3.out.next hx') HL.out
        exact Reg.wp_eqv (Option.some_ne_none _) (by go_simp) rfl
      · intro ax wx hx hs
        obtain ⟨e1, -⟩ := hs
        have g1 := Reg.ev (v := .int .i64 no) e1
        exact Reg.obl_free rfl (Reg.wp_eqv (Option.some_ne_none _) (by go_simp) rfl)
      · intro ax wx hx hs
        obtain ⟨e12, e13, -⟩ := hs
        have g12 := Reg.ev (v := .agg (rowV l)) e12
        have g13 := Reg.ev (v := .int .i64 no) e13
        refine Reg.obl_free rfl ?_
        have hx' : Below W3.heap.size W3 wx := hx
        go_simp
        refine (PageW.check_any l HL.out no _).mono ?_
        rintro e wy ⟨rfl, hby⟩
        rw [HR1.out]
        exact Reg.done (Option.some_ne_none _) rfl hby
      · intro ax wx hx hs
        obtain ⟨e14, -⟩ := hs
        have g14 := Reg.ev (v := .int .i64 0) e14
        refine Reg.obl_free rfl ?_
        go_simp
        refine (Live07.code_any _ _).mono ?_
        rintro e wy ⟨rfl, rfl⟩
        exact Reg.done (Option.some_ne_none _) rfl (bsame _)
      · intro ax wx hx hs
        obtain ⟨e6, -⟩ := hs
        have g6 := Reg.ev (v := .pointer (some ⟨W2.heap.size, 0, none⟩)) e6
        refine Reg.obl_free rfl ?_
        have hx' : Below W3.heap.size W3 wx := hx
        have hld := run_ld (P := Try.prog) arrPage (HS2_3.out.next hx') HLS.out
        exact Reg.wp_eqv (Option.some_ne_none _) (by go_simp) rfl
      · intro ax wx hx hs
        obtain ⟨e1, -⟩ := hs
        have g1 := Reg.ev (v := .int .i64 no) e1
        exact Reg.obl_free rfl (Reg.wp_eqv (Option.some_ne_none _) (by go_simp) rfl)
      · intro ax wx hx hs
        obtain ⟨e16, e17, -⟩ := hs
        have g16 := Reg.ev (v := .agg (rowV (PageP.sealed l))) e16
        have g17 := Reg.ev (v := .int .i64 no) e17
        refine Reg.obl_free rfl ?_
        have hx' : Below W3.heap.size W3 wx := hx
        go_simp
        refine (PageW.check_any _ HLS.out no _).mono ?_
        rintro e wy ⟨rfl, hby⟩
        rw [HR2.out]
        exact Reg.done (Option.some_ne_none _) rfl hby
      · intro ax wx hx hs
        obtain ⟨e18, -⟩ := hs
        have g18 := Reg.ev (v := .int .i64 0) e18
        refine Reg.obl_free rfl ?_
        go_simp
        refine (Live07.code_any _ _).mono ?_
        rintro e wy ⟨rfl, rfl⟩
        exact Reg.done (Option.some_ne_none _) rfl (bsame _)
      · intro ax wx hx hs
        obtain ⟨e15, -⟩ := hs
        have g15 := Reg.ev (v := .int .i64 0) e15
        exact Reg.obl_free rfl (Reg.wp_eqv (Option.some_ne_none _) (by go_simp) rfl)
      · intro ax wx hx hs
        obtain ⟨e19, -⟩ := hs
        have g19 := Reg.ev (v := .int .i64 0) e19
        exact Reg.obl_free rfl (Reg.wp_eqv (Option.some_ne_none _) (by go_simp) rfl)
    · intro W4 hwf
      simp only [Reg.Fin]
      rintro _ rfl _ rfl _ rfl _ rfl _ rfl _ rfl _ rfl _ rfl _ rfl _ rfl
      go_simp
      have HS0_4 := Lib.hid (HS0_3.out.next hwf)
      have HS1_4 := Lib.hid (HS1_3.out.next hwf)
      have HS2_4 := Lib.hid (HS2_3.out.next hwf)
      have HB_4 := Lib.hid (bstep HB_3.out hwf)
      have hw_4 := HB_4.out.size
      have hws_4 := (hwf).size
      clear HS0_3 HS1_3 HS2_3
      clear hwf
      have hl0_4 := HS0_4.out.lt
      have hl1_4 := HS1_4.out.lt
      have hl2_4 := HS2_4.out.lt
      go_wp2_with fail
      refine Reg.wp_region_vals (R := ext) (W := W4) [Reg.eqv (.slice (some ⟨W2.heap.size, 0, none⟩) 512 512), Reg.eqv (.slice (some ⟨w.heap.size, 0, none⟩) 512 512), Reg.bytes (PageP.sealed l), Reg.eqv (.bool true), Reg.eqv (.bool true), Reg.eqv (.int .i64 0), Reg.eqv (.bool true), Reg.eqv (.slice (some ⟨w.heap.size, 0, none⟩) 512 512), Reg.eqv (.int .i64 no), Reg.eqv (.bool true), Reg.eqv (.bool true), Reg.eqv (.bool true), Reg.eqv (.bool true), Reg.eqv (.int .i64 0), Reg.eqv (.bool true), Reg.eqv (.slice (some ⟨W2.heap.size, 0, none⟩) 512 512), Reg.eqv (.int .i64 no), Reg.eqv (.bool true), Reg.eqv (.bool true), Reg.eqv (.bool true), Reg.eqv (.bool true), Reg.eqv (.int .i64 0), Reg.eqv (.bool true), Reg.eqv (.bool true), Reg.eqv undef, Reg.eqv undef, Reg.eqv (.bool true), Reg.eqv (.bool true), Reg.eqv (.bool true), Reg.eqv (.int .i64 0), Reg.eqv (.bool true), Reg.eqv (.bool true), Reg.eqv undef, Reg.eqv undef, Reg.eqv (.bool true), Reg.eqv (.bool true), Reg.eqv (.bool true), Reg.eqv (.bool true), Reg.eqv (.bool true), Reg.eqv (.bool true)] 59 [[(6, none)], [(2, none)], [(21, some 1)], [(20, some 0), (22, some 2)], [(23, some 3)], [(7, none), (24, some 4)], [(25, some 5), (24, some 4)], [(2, none), (24, some 4)], [(1, none), (24, some 4)], [(27, some 7), (28, some 8), (24, some 4)], [(26, some 6), (29, some 9), (24, some 4)], [(24, some 4), (30, some 10)], [(31, some 11)], [(8, none), (32, some 12)], [(33, some 13), (32, some 12)], [(6, none), (32, some 12)], [(1, none), (32, some 12)], [(35, some 15), (36, some 16), (32, some 12)], [(34, some 14), (37, some 17), (32, some 12)], [(32, some 12), (38, some 18)], [(39, some 19)], [(7, none), (40, some 20)], [(41, some 21), (40, some 20)], [(42, some 22), (40, some 20)], [(7, none), (43, some 23)], [(44, some 24), (43, some 23)], [(43, some 23), (45, some 25), (40, some 20)], [(40, some 20), (46, some 26)], [(47, some 27)], [(8, none), (48, some 28)], [(49, some 29), (48, some 28)], [(50, some 30), (48, some 28)], [(8, none), (51, some 31)], [(52, some 32), (51, some 31)], [(51, some 31), (53, some 33), (48, some 28)], [(48, some 28), (54, some 34)], [(55, some 35)], [(56, some 36)], [(56, some 36), (57, some 37)], [(58, some 38)]] rfl (by kernel_rfl) (by kernel_rfl) (by kernel_rfl) ?_ [some 20, some 21, some 22, some 23, some 24, some 25, some 26, some 27, some 28, some 29, some 30, some 31, some 32, some 33, some 34, some 35, some 36, some 37, some 38, some 39, some 40, some 41, some 42, some 43, some 44, some 45, some 46, some 47, some 48, some 49, some 50, some 51, some 52, some 53, some 54, some 55, some 56, some 57, some 58, some 4] (by kernel_rfl) ?_
      · refine ⟨?_, ?_, ?_, ?_, ?_, ?_, ?_, ?_, ?_, ?_, ?_, ?_, ?_, ?_, ?_, ?_, ?_, ?_, ?_, ?_, ?_, ?_, ?_, ?_, ?_, ?_, ?_, ?_, ?_, ?_, ?_, ?_, ?_, ?_, ?_, ?_, ?_, ?_, ?_, ?_, trivial⟩
        · intro ax wx hx hs
          obtain ⟨e6, -⟩ := hs
          have g6 := Reg.ev (v := .pointer (some ⟨W2.heap.size, 0, none⟩)) e6
          exact Reg.obl_free rfl (Reg.wp_eqv (Option.some_ne_none _) (by go_simp) rfl)
        · intro ax wx hx hs
          obtain ⟨e2, -⟩ := hs
          have g2 := Reg.ev (v := .pointer (some ⟨w.heap.size, 0, none⟩)) e2
          exact Reg.obl_free rfl (Reg.wp_eqv (Option.some_ne_none _) (by go_simp) rfl)
        · intro ax wx hx hs
          obtain ⟨e21, -⟩ := hs
          have g21 := Reg.ev (v := .slice (some ⟨w.heap.size, 0, none⟩) 512 512) e21
          refine Reg.obl_free rfl ?_
          have hx' : Below W4.heap.size W4 wx := hx
          have hpt := (HS0_4.out.next hx').part 0 512 512 (by rw [HL.out]; omega) (by omega) (by unfold maxLen; omega)
          rw [List.drop_zero, List.take_of_length_le (by rw [HL.out]; omega)] at hpt
          go_simp
          refine (RefPage.sealed_any _ _ _ l _ hpt (Nat.le_refl _)).mono ?_
          rintro e wy ⟨A8, n8, c8, rfl, hy8, hby⟩
          exact Reg.done (Option.some_ne_none _) ⟨A8, n8, c8, rfl, hy8⟩ hby
        · intro ax wx hx hs
          obtain ⟨e20, e22, -⟩ := hs
          have g20 := Reg.ev (v := .slice (some ⟨W2.heap.size, 0, none⟩) 512 512) e20
          refine Reg.obl_free rfl ?_
          have hx' : Below W4.heap.size W4 wx := hx
          obtain ⟨A8, n8, c8, e22, hy8⟩ := e22
          have g22 := Reg.ev e22
          have hpt := (HS2_4.out.next hx').part 0 512 512 (by rw [HLS.out]; omega) (by omega) (by unfold maxLen; omega)
          rw [List.drop_zero, List.take_of_length_le (by rw [HLS.out]; omega)] at hpt
          go_simp
          refine (Same.same_any _ _ _ _ _ _ _ _ _ _ _ hpt hy8).mono ?_
          rintro e wy ⟨rfl, rfl⟩
          rw [beq_self_eq_true]
          exact Reg.done (Option.some_ne_none _) rfl (bsame _)
        · intro ax wx hx hs
          obtain ⟨e23, -⟩ := hs
          have g23 := Reg.ev (v := .bool true) e23
          exact Reg.obl_free rfl (Reg.wp_eqv (Option.some_ne_none _) (by go_simp) rfl)
        · intro ax wx hx hs
          obtain ⟨e7, e24, -⟩ := hs
          have g7 := Reg.ev (v := .int .i64 0) e7
          have g24 := Reg.ev (v := .bool true) e24
          exact Reg.obl_want rfl rfl e24 (Reg.wp_eqv (Option.some_ne_none _) (by go_simp) rfl)
        · intro ax wx hx hs
          obtain ⟨e25, e24, -⟩ := hs
          have g25 := Reg.ev (v := .int .i64 0) e25
          have g24 := Reg.ev (v := .bool true) e24
          exact Reg.obl_want rfl rfl e24 (Reg.wp_eqv (Option.some_ne_none _) (by go_simp) rfl)
        · intro ax wx hx hs
          obtain ⟨e2, e24, -⟩ := hs
          have g2 := Reg.ev (v := .pointer (some ⟨w.heap.size, 0, none⟩)) e2
          have g24 := Reg.ev (v := .bool true) e24
          exact Reg.obl_want rfl rfl e24 (Reg.wp_eqv (Option.some_ne_none _) (by go_simp) rfl)
        · intro ax wx hx hs
          obtain ⟨e1, e24, -⟩ := hs
          have g1 := Reg.ev (v := .int .i64 no) e1
          have g24 := Reg.ev (v := .bool true) e24
          exact Reg.obl_want rfl rfl e24 (Reg.wp_eqv (Option.some_ne_none _) (by go_simp) rfl)
        · intro ax wx hx hs
          obtain ⟨e27, e28, e24, -⟩ := hs
          have g27 := Reg.ev (v := .slice (some ⟨w.heap.size, 0, none⟩) 512 512) e27
          have g28 := Reg.ev (v := .int .i64 no) e28
          have g24 := Reg.ev (v := .bool true) e24
          refine Reg.obl_want rfl rfl e24 ?_
          have hx' : Below W4.heap.size W4 wx := hx
          have hpt := (HS0_4.out.next hx').part 0 512 512 (by rw [HL.out]; omega) (by omega) (by unfold maxLen; omega)
          rw [List.drop_zero, List.take_of_length_le (by rw [HL.out]; omega)] at hpt
          go_simp
          refine (RefPage.right_any _ _ _ l no _ hpt (Nat.le_refl _)).mono ?_
          rintro e wy ⟨rfl, hby⟩
          rw [HR1.out]
          exact Reg.done (Option.some_ne_none _) rfl hby
        · intro ax wx hx hs
          obtain ⟨e26, e29, e24, -⟩ := hs
          have g26 := Reg.ev (v := .bool true) e26
          have g29 := Reg.ev (v := .bool true) e29
          have g24 := Reg.ev (v := .bool true) e24
          exact Reg.obl_want rfl rfl e24 (Reg.wp_eqv (Option.some_ne_none _) (by go_simp) rfl)
        · intro ax wx hx hs
          obtain ⟨e24, e30, -⟩ := hs
          have g24 := Reg.ev (v := .bool true) e24
          have g30 := Reg.ev (v := .bool true) e30
          exact Reg.obl_free rfl (Reg.wp_eqv (Option.some_ne_none _) (by go_simp) rfl)
        · intro ax wx hx hs
          obtain ⟨e31, -⟩ := hs
          have g31 := Reg.ev (v := .bool true) e31
          exact Reg.obl_free rfl (Reg.wp_eqv (Option.some_ne_none _) (by go_simp) rfl)
        · intro ax wx hx hs
          obtain ⟨e8, e32, -⟩ := hs
          have g8 := Reg.ev (v := .int .i64 0) e8
          have g32 := Reg.ev (v := .bool true) e32
          exact Reg.obl_want rfl rfl e32 (Reg.wp_eqv (Option.some_ne_none _) (by go_simp) rfl)
        · intro ax wx hx hs
          obtain ⟨e33, e32, -⟩ := hs
          have g33 := Reg.ev (v := .int .i64 0) e33
          have g32 := Reg.ev (v := .bool true) e32
          exact Reg.obl_want rfl rfl e32 (Reg.wp_eqv (Option.some_ne_none _) (by go_simp) rfl)
        · intro ax wx hx hs
          obtain ⟨e6, e32, -⟩ := hs
          have g6 := Reg.ev (v := .pointer (some ⟨W2.heap.size, 0, none⟩)) e6
          have g32 := Reg.ev (v := .bool true) e32
          exact Reg.obl_want rfl rfl e32 (Reg.wp_eqv (Option.some_ne_none _) (by go_simp) rfl)
        · intro ax wx hx hs
          obtain ⟨e1, e32, -⟩ := hs
          have g1 := Reg.ev (v := .int .i64 no) e1
          have g32 := Reg.ev (v := .bool true) e32
          exact Reg.obl_want rfl rfl e32 (Reg.wp_eqv (Option.some_ne_none _) (by go_simp) rfl)
        · intro ax wx hx hs
          obtain ⟨e35, e36, e32, -⟩ := hs
          have g35 := Reg.ev (v := .slice (some ⟨W2.heap.size, 0, none⟩) 512 512) e35
          have g36 := Reg.ev (v := .int .i64 no) e36
          have g32 := Reg.ev (v := .bool true) e32
          refine Reg.obl_want rfl rfl e32 ?_
          have hx' : Below W4.heap.size W4 wx := hx
          have hpt := (HS2_4.out.next hx').part 0 512 512 (by rw [HLS.out]; omega) (by omega) (by unfold maxLen; omega)
          rw [List.drop_zero, List.take_of_length_le (by rw [HLS.out]; omega)] at hpt
          go_simp
          refine (RefPage.right_any _ _ _ _ no _ hpt (Nat.le_refl _)).mono ?_
          rintro e wy ⟨rfl, hby⟩
          rw [HR2.out]
          exact Reg.done (Option.some_ne_none _) rfl hby
        · intro ax wx hx hs
          obtain ⟨e34, e37, e32, -⟩ := hs
          have g34 := Reg.ev (v := .bool true) e34
          have g37 := Reg.ev (v := .bool true) e37
          have g32 := Reg.ev (v := .bool true) e32
          exact Reg.obl_want rfl rfl e32 (Reg.wp_eqv (Option.some_ne_none _) (by go_simp) rfl)
        · intro ax wx hx hs
          obtain ⟨e32, e38, -⟩ := hs
          have g32 := Reg.ev (v := .bool true) e32
          have g38 := Reg.ev (v := .bool true) e38
          exact Reg.obl_free rfl (Reg.wp_eqv (Option.some_ne_none _) (by go_simp) rfl)
        · intro ax wx hx hs
          obtain ⟨e39, -⟩ := hs
          have g39 := Reg.ev (v := .bool true) e39
          exact Reg.obl_free rfl (Reg.wp_eqv (Option.some_ne_none _) (by go_simp) rfl)
        · intro ax wx hx hs
          obtain ⟨e7, e40, -⟩ := hs
          have g7 := Reg.ev (v := .int .i64 0) e7
          have g40 := Reg.ev (v := .bool true) e40
          exact Reg.obl_want rfl rfl e40 (Reg.wp_eqv (Option.some_ne_none _) (by go_simp) rfl)
        · intro ax wx hx hs
          obtain ⟨e41, e40, -⟩ := hs
          have g41 := Reg.ev (v := .int .i64 0) e41
          have g40 := Reg.ev (v := .bool true) e40
          exact Reg.obl_want rfl rfl e40 (Reg.wp_eqv (Option.some_ne_none _) (by go_simp) rfl)
        · intro ax wx hx hs
          obtain ⟨e42, e40, -⟩ := hs
          have g42 := Reg.ev (v := .bool true) e42
          have g40 := Reg.ev (v := .bool true) e40
          exact Reg.obl_want rfl rfl e40 (Reg.wp_eqv (Option.some_ne_none _) (by go_simp) rfl)
        · intro ax wx hx hs
          obtain ⟨e7, e43, -⟩ := hs
          have g7 := Reg.ev (v := .int .i64 0) e7
          have g43 := Reg.ev (v := .bool true) e43
          exact Reg.obl_skip rfl rfl e43 rfl rfl
        · intro ax wx hx hs
          obtain ⟨e44, e43, -⟩ := hs
          have g44 := Reg.ev (v := undef) e44
          have g43 := Reg.ev (v := .bool true) e43
          exact Reg.obl_skip rfl rfl e43 rfl rfl
        · intro ax wx hx hs
          obtain ⟨e43, e45, e40, -⟩ := hs
          have g43 := Reg.ev (v := .bool true) e43
          have g45 := Reg.ev (v := undef) e45
          have g40 := Reg.ev (v := .bool true) e40
          exact Reg.obl_want rfl rfl e40 (Reg.wp_eqv (Option.some_ne_none _) (by go_simp) rfl)
        · intro ax wx hx hs
          obtain ⟨e40, e46, -⟩ := hs
          have g40 := Reg.ev (v := .bool true) e40
          have g46 := Reg.ev (v := .bool true) e46
          exact Reg.obl_free rfl (Reg.wp_eqv (Option.some_ne_none _) (by go_simp) rfl)
        · intro ax wx hx hs
          obtain ⟨e47, -⟩ := hs
          have g47 := Reg.ev (v := .bool true) e47
          exact Reg.obl_free rfl (Reg.wp_eqv (Option.some_ne_none _) (by go_simp) rfl)
        · intro ax wx hx hs
          obtain ⟨e8, e48, -⟩ := hs
          have g8 := Reg.ev (v := .int .i64 0) e8
          have g48 := Reg.ev (v := .bool true) e48
          exact Reg.obl_want rfl rfl e48 (Reg.wp_eqv (Option.some_ne_none _) (by go_simp) rfl)
        · intro ax wx hx hs
          obtain ⟨e49, e48, -⟩ := hs
          have g49 := Reg.ev (v := .int .i64 0) e49
          have g48 := Reg.ev (v := .bool true) e48
          exact Reg.obl_want rfl rfl e48 (Reg.wp_eqv (Option.some_ne_none _) (by go_simp) rfl)
        · intro ax wx hx hs
          obtain ⟨e50, e48, -⟩ := hs
          have g50 := Reg.ev (v := .bool true) e50
          have g48 := Reg.ev (v := .bool true) e48
          exact Reg.obl_want rfl rfl e48 (Reg.wp_eqv (Option.some_ne_none _) (by go_simp) rfl)
        · intro ax wx hx hs
          obtain ⟨e8, e51, -⟩ := hs
          have g8 := Reg.ev (v := .int .i64 0) e8
          have g51 := Reg.ev (v := .bool true) e51
          exact Reg.obl_skip rfl rfl e51 rfl rfl
        · intro ax wx hx hs
          obtain ⟨e52, e51, -⟩ := hs
          have g52 := Reg.ev (v := undef) e52
          have g51 := Reg.ev (v := .bool true) e51
          exact Reg.obl_skip rfl rfl e51 rfl rfl
        · intro ax wx hx hs
          obtain ⟨e51, e53, e48, -⟩ := hs
          have g51 := Reg.ev (v := .bool true) e51
          have g53 := Reg.ev (v := undef) e53
          have g48 := Reg.ev (v := .bool true) e48
          exact Reg.obl_want rfl rfl e48 (Reg.wp_eqv (Option.some_ne_none _) (by go_simp) rfl)
        · intro ax wx hx hs
          obtain ⟨e48, e54, -⟩ := hs
          have g48 := Reg.ev (v := .bool true) e48
          have g54 := Reg.ev (v := .bool true) e54
          exact Reg.obl_free rfl (Reg.wp_eqv (Option.some_ne_none _) (by go_simp) rfl)
        · intro ax wx hx hs
          obtain ⟨e55, -⟩ := hs
          have g55 := Reg.ev (v := .bool true) e55
          exact Reg.obl_free rfl (Reg.wp_eqv (Option.some_ne_none _) (by go_simp) rfl)
        · intro ax wx hx hs
          obtain ⟨e56, -⟩ := hs
          have g56 := Reg.ev (v := .bool true) e56
          refine Reg.obl_want rfl rfl e56 ?_
          have hx' : Below W4.heap.size W4 wx := hx
          go_simp
          refine (Live07.live_any _).mono ?_
          rintro e wy ⟨rfl, hby⟩
          exact Reg.done (Option.some_ne_none _) rfl hby
        · intro ax wx hx hs
          obtain ⟨e56, e57, -⟩ := hs
          have g56 := Reg.ev (v := .bool true) e56
          have g57 := Reg.ev (v := .bool true) e57
          exact Reg.obl_free rfl (Reg.wp_eqv (Option.some_ne_none _) (by go_simp) rfl)
        · intro ax wx hx hs
          obtain ⟨e58, -⟩ := hs
          have g58 := Reg.ev (v := .bool true) e58
          exact Reg.obl_free rfl (Reg.wp_eqv (Option.some_ne_none _) (by go_simp) rfl)
      · intro W5 hwf
        simp only [Reg.Fin]
        rintro _ rfl _ rfl v22 h22 _ rfl _ rfl _ rfl _ rfl _ rfl _ rfl _ rfl _ rfl _ rfl _ rfl _ rfl _ rfl _ rfl _ rfl _ rfl _ rfl _ rfl _ rfl _ rfl _ rfl _ rfl _ rfl _ rfl _ rfl _ rfl _ rfl _ rfl _ rfl _ rfl _ rfl _ rfl _ rfl _ rfl _ rfl _ rfl _ rfl _ rfl
        go_simp
        go_wp2_with fail
        go_ret
        exact ⟨rfl, bstep HB_4.out hwf⟩
end Go.Proofs.Ytjengjbkdflapaa.pageChecks
