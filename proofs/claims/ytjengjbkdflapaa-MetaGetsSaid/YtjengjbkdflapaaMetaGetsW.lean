/-
  The walk of MetaGets: the Go text returns true for every input, and writes nothing that was there.
-/
import Derived.Test.YtjengjbkdflapaaOpen3
import Derived.Test.YtjengjbkdflapaaMetaGet
import Derived.Test.YtjengjbkdflapaaMetaRef
import Derived.Test.YtjengjbkdflapaaMetaNew
namespace Go.Proofs.Ytjengjbkdflapaa.metaGets
open Go.RowKit
attribute [local go_sem ↓] alPage_fold ldPage_fold stPage_fold bdPage_fold slPage_fold ld512_fold sl512_fold

set_option maxRecDepth 100000 in
set_option maxHeartbeats 2000000 in
theorem walk (v0 v1 : Value) (l : List UInt8) (m : Int) (w : World) (g0 : RArr 512 v0 l) (g1 : RInt w v1 m) :
    Calls Try.prog 11 #[v0, v1] w fun e w' => e = .returned (.bool true) ∧ Below w.heap.size w w' := by
  obtain ⟨rfl, hl⟩ := g0
  obtain ⟨rfl, -⟩ := g1
  have HL := Lib.hid hl
  clear hl
  have HO : Hid ((SlotP.over l 14 (BeP.parts 2 m)).length = 512) := Lib.hid (by rw [SlotP.over_length _ _ _ (by rw [BeP.parts_length, HL.out]; omega)]; exact HL.out)
  cases hbad : MetaP.bad l
  · have HG : Hid (∀ W, Calls Try.prog 60 #[.agg (rowV l)] W fun e w' => e = .returned (.tuple #[.agg #[.int .i64 (MetaP.cb l), .int .i64 (MetaP.cp l), .int .i64 (MetaP.cf l), .int .i64 (MetaP.cc l), .int .i64 (MetaP.cl l)], .int .i64 (MetaP.used l), .int .i64 0]) ∧ Below W.heap.size W w') := Lib.hid (fun W => by have h := MetaW.get_any l HL.out W; rw [show MetaP.err l = 0 by simp [MetaP.err, hbad]] at h; exact h)
    have HR : Hid (∀ (A : Option Addr) (c B : Nat) W (h : Bytes W B A 512 c l) (hB : B ≤ W.heap.size), Calls Try.prog 61 #[.slice A 512 c] W fun e w' => e = .returned (.tuple #[.agg #[.int .i64 (MetaP.cb l), .int .i64 (MetaP.cp l), .int .i64 (MetaP.cf l), .int .i64 (MetaP.cc l), .int .i64 (MetaP.cl l)], .int .i64 (MetaP.used l), .bool true]) ∧ Below W.heap.size W w') := Lib.hid (fun A c B W h hB => by have h := MetaW.refGet_any A c B l HL.out W h hB; rw [hbad] at h; exact h)
    generalize MetaP.cb l = xb at HG HR
    generalize MetaP.cp l = xp at HG HR
    generalize MetaP.cf l = xf at HG HR
    generalize MetaP.cc l = xc at HG HR
    generalize MetaP.cl l = xl at HG HR
    generalize MetaP.used l = xu at HG HR
    clear hbad
    obtain ⟨W0, hW0⟩ : ∃ W0, (w).alloc (.cells (rowV l) 50) = W0 := ⟨_, rfl⟩
    have HS0_0 : Hid (Str W0 (w.heap.size) (rowV l)) := Lib.hid (by rw [← hW0]; have := Str.new (w) (rowV l) 50; simpa using this)
    have HB_0 : Hid (Below w.heap.size w W0) := Lib.hid (by rw [← hW0]; exact balloc (bsame w) _)
    have hw_0 := HB_0.out.size
    have hz0 : W0.heap.size = w.heap.size + 1 := by rw [← hW0]; simp
    have HW0 := Lib.hid hW0
    have hl0_0 := HS0_0.out.lt
    have hld := run_ld (P := Try.prog) arr512 HS0_0.out HL.out
    rw [← hW0] at hld
    clear hW0 hz0
    go_enter Try.func11, Try.ntmps11
    go_wp2_with fail
    rw [HW0.out] at hld
    rw [HW0.out]
    refine (HG.out _).mono ?_
    rintro e W1 ⟨rfl, hb1⟩
    clear hld HG
    have hsl := fun W => run_sl_all (P := Try.prog) arr512 w.heap.size W
    have HS0_1 := Lib.hid (HS0_0.out.next hb1)
    have HB_1 := Lib.hid (bstep HB_0.out hb1)
    have hw_1 := HB_1.out.size
    have hws_1 := (hb1).size
    clear HS0_0
    clear hb1
    have hl0_1 := HS0_1.out.lt
    go_wp2_with fail
    generalize hW2 : W1.alloc (.cells #[.int .i64 xb, .int .i64 xp, .int .i64 xf, .int .i64 xc, .int .i64 xl] 70) = W2
    have HS0_2 : Hid (Str W2 (w.heap.size) (rowV l)) := Lib.hid (by rw [← hW2]; exact HS0_1.out.alloc _)
    have HS1_2 : Hid (Str W2 W1.heap.size #[.int .i64 xb, .int .i64 xp, .int .i64 xf, .int .i64 xc, .int .i64 xl]) := Lib.hid (by rw [← hW2]; exact Str.new W1 #[.int .i64 xb, .int .i64 xp, .int .i64 xf, .int .i64 xc, .int .i64 xl] 70)
    have hba2 : Below W1.heap.size W1 W2 := by rw [← hW2]; exact balloc (bsame _) _
    have HB_2 := Lib.hid (bstep HB_1.out hba2)
    have hw_2 := HB_2.out.size
    have hws_2 := hba2.size
    clear hW2
    clear HS0_1
    have hl0_2 := HS0_2.out.lt
    obtain ⟨f1_2_0, f1_2_1, f1_2_2, f1_2_3, f1_2_4⟩ := str5 HS1_2.out
    have hl1_2 := HS1_2.out.lt
    clear hba2
    have hpt := HS0_2.out.part 0 512 512 (by rw [HL.out]; omega) (by omega) (by unfold maxLen; omega)
    rw [List.drop_zero, List.take_of_length_le (by rw [HL.out]; omega)] at hpt
    refine (HR.out _ _ _ _ hpt (Nat.le_refl _)).mono ?_
    rintro e W3 ⟨rfl, hb3⟩
    clear hpt HR
    have HS0_3 := Lib.hid (HS0_2.out.next hb3)
    have HS1_3 := Lib.hid (HS1_2.out.next hb3)
    have HB_3 := Lib.hid (bstep HB_2.out hb3)
    have hw_3 := HB_3.out.size
    have hws_3 := (hb3).size
    clear HS0_2 f1_2_0 f1_2_1 f1_2_2 f1_2_3 f1_2_4 HS1_2
    clear hb3
    have hl0_3 := HS0_3.out.lt
    obtain ⟨f1_3_0, f1_3_1, f1_3_2, f1_3_3, f1_3_4⟩ := str5 HS1_3.out
    have hl1_3 := HS1_3.out.lt
    go_wp2_with fail
    generalize hW4 : W3.alloc (.cells #[.int .i64 xb, .int .i64 xp, .int .i64 xf, .int .i64 xc, .int .i64 xl] 70) = W4
    have HS0_4 : Hid (Str W4 (w.heap.size) (rowV l)) := Lib.hid (by rw [← hW4]; exact HS0_3.out.alloc _)
    have HS1_4 : Hid (Str W4 (W1.heap.size) #[.int .i64 xb, .int .i64 xp, .int .i64 xf, .int .i64 xc, .int .i64 xl]) := Lib.hid (by rw [← hW4]; exact HS1_3.out.alloc _)
    have HS2_4 : Hid (Str W4 W3.heap.size #[.int .i64 xb, .int .i64 xp, .int .i64 xf, .int .i64 xc, .int .i64 xl]) := Lib.hid (by rw [← hW4]; exact Str.new W3 #[.int .i64 xb, .int .i64 xp, .int .i64 xf, .int .i64 xc, .int .i64 xl] 70)
    have hba4 : Below W3.heap.size W3 W4 := by rw [← hW4]; exact balloc (bsame _) _
    have HB_4 := Lib.hid (bstep HB_3.out hba4)
    have hw_4 := HB_4.out.size
    have hws_4 := hba4.size
    clear hW4
    clear HS0_3 f1_3_0 f1_3_1 f1_3_2 f1_3_3 f1_3_4 HS1_3
    have hl0_4 := HS0_4.out.lt
    obtain ⟨f1_4_0, f1_4_1, f1_4_2, f1_4_3, f1_4_4⟩ := str5 HS1_4.out
    have hl1_4 := HS1_4.out.lt
    obtain ⟨f2_4_0, f2_4_1, f2_4_2, f2_4_3, f2_4_4⟩ := str5 HS2_4.out
    have hl2_4 := HS2_4.out.lt
    clear hba4
    have hld := run_ld (P := Try.prog) arr512 HS0_4.out HL.out
    go_simp
    go_wp2_with fail
    refine (MetaW.withUsed_any l HL.out m _).mono ?_
    rintro e W5 ⟨rfl, hb5⟩
    clear hld
    have HS0_5 := Lib.hid (HS0_4.out.next hb5)
    have HS1_5 := Lib.hid (HS1_4.out.next hb5)
    have HS2_5 := Lib.hid (HS2_4.out.next hb5)
    have HB_5 := Lib.hid (bstep HB_4.out hb5)
    have hw_5 := HB_5.out.size
    have hws_5 := (hb5).size
    clear HS0_4 f1_4_0 f1_4_1 f1_4_2 f1_4_3 f1_4_4 HS1_4 f2_4_0 f2_4_1 f2_4_2 f2_4_3 f2_4_4 HS2_4
    clear hb5
    have hl0_5 := HS0_5.out.lt
    obtain ⟨f1_5_0, f1_5_1, f1_5_2, f1_5_3, f1_5_4⟩ := str5 HS1_5.out
    have hl1_5 := HS1_5.out.lt
    obtain ⟨f2_5_0, f2_5_1, f2_5_2, f2_5_3, f2_5_4⟩ := str5 HS2_5.out
    have hl2_5 := HS2_5.out.lt
    have hal := fun W => run_al (P := Try.prog) arrPage W
    have hst5 := run_st (P := Try.prog) arrPage (Str.new W5 (rowV (SlotP.zeros 512)) 51) (by rw [rowV_size]; exact SlotPut.zeros_len 512) (HO.out)
    obtain ⟨W6, hW6⟩ : ∃ W, (W5.alloc (.cells (rowV (SlotP.zeros 512)) 51)).setRow W5.heap.size (rowV (SlotP.over l 14 (BeP.parts 2 m))) = W := ⟨_, rfl⟩
    rw [hW6] at hst5
    have HS0_6 : Hid (Str W6 (w.heap.size) (rowV l)) := Lib.hid (by rw [← hW6]; exact (HS0_5.out.alloc _).setRow_other (by omega))
    have HS1_6 : Hid (Str W6 (W1.heap.size) #[.int .i64 xb, .int .i64 xp, .int .i64 xf, .int .i64 xc, .int .i64 xl]) := Lib.hid (by rw [← hW6]; exact (HS1_5.out.alloc _).setRow_other (by omega))
    have HS2_6 : Hid (Str W6 (W3.heap.size) #[.int .i64 xb, .int .i64 xp, .int .i64 xf, .int .i64 xc, .int .i64 xl]) := Lib.hid (by rw [← hW6]; exact (HS2_5.out.alloc _).setRow_other (by omega))
    have HS3_6 : Hid (Str W6 (W5.heap.size) (rowV (SlotP.over l 14 (BeP.parts 2 m)))) := Lib.hid (by rw [← hW6]; exact (Str.new W5 (rowV (SlotP.zeros 512)) 51).setRow)
    have hba6 : Below W5.heap.size W5 W6 := by rw [← hW6]; exact below_setRow (balloc (bsame _) _) (Nat.le_refl _) _
    have HB_6 := Lib.hid (bstep HB_5.out hba6)
    have hw_6 := HB_6.out.size
    have hws_6 := hba6.size
    clear hW6 hba6
    clear HS0_5 f1_5_0 f1_5_1 f1_5_2 f1_5_3 f1_5_4 HS1_5 f2_5_0 f2_5_1 f2_5_2 f2_5_3 f2_5_4 HS2_5
    have hl0_6 := HS0_6.out.lt
    obtain ⟨f1_6_0, f1_6_1, f1_6_2, f1_6_3, f1_6_4⟩ := str5 HS1_6.out
    have hl1_6 := HS1_6.out.lt
    obtain ⟨f2_6_0, f2_6_1, f2_6_2, f2_6_3, f2_6_4⟩ := str5 HS2_6.out
    have hl2_6 := HS2_6.out.lt
    have hl3_6 := HS3_6.out.lt
    go_wp2_with fail
    clear hal hst5
    have hsl2 := fun W => run_sl_all (P := Try.prog) arrPage W5.heap.size W
    refine Reg.wp_region_vals (R := ext) (W := W6) [Reg.eqv (.agg #[.int .i64 xb, .int .i64 xp, .int .i64 xf, .int .i64 xc, .int .i64 xl]), Reg.eqv (.agg #[.int .i64 xb, .int .i64 xp, .int .i64 xf, .int .i64 xc, .int .i64 xl]), Reg.eqv (.bool true), Reg.eqv (.bool true), Reg.eqv (.int .i64 xu), Reg.eqv (.int .i64 xu), Reg.eqv (.bool true), Reg.eqv (.bool true), Reg.eqv (.bool true), Reg.eqv (.int .i64 0), Reg.eqv (.int .i64 0), Reg.eqv (.bool true), Reg.eqv (.bool true), Reg.eqv (.bool true), Reg.eqv (.bool true), Reg.eqv (.bool true), Reg.eqv (.bool true), Reg.eqv (.bool true), Reg.eqv undef, Reg.eqv undef, Reg.eqv undef, Reg.eqv (.bool true), Reg.eqv (.bool true), Reg.eqv (.bool true), Reg.eqv (.slice (some ⟨W5.heap.size, 0, none⟩) 512 512), Reg.eqv (.slice (some ⟨w.heap.size, 0, none⟩) 512 512), Reg.eqv (.int .i64 m), Reg.bytes (BeP.parts 2 m), Reg.bytes (SlotP.over l 14 (BeP.parts 2 m)), Reg.eqv (.bool true), Reg.eqv (.bool true), Reg.eqv (.bool true), Reg.eqv (.bool true), Reg.eqv (.bool true), Reg.eqv (.bool true)] 61 [[(5, none)], [(8, none)], [(27, some 0), (28, some 1)], [(29, some 2)], [(6, none), (30, some 3)], [(9, none), (30, some 3)], [(31, some 4), (32, some 5), (30, some 3)], [(30, some 3), (33, some 6)], [(34, some 7)], [(7, none), (35, some 8)], [(36, some 9), (35, some 8)], [(37, some 10), (35, some 8)], [(10, none), (35, some 8)], [(38, some 11), (39, some 12), (35, some 8)], [(35, some 8), (40, some 13)], [(41, some 14)], [(10, none), (42, some 15)], [(43, some 16), (42, some 15)], [(7, none), (44, some 17)], [(45, some 18), (44, some 17)], [(46, some 19), (44, some 17)], [(44, some 17), (47, some 20), (42, some 15)], [(42, some 15), (48, some 21)], [(49, some 22)], [(11, none), (50, some 23)], [(2, none), (50, some 23)], [(1, none), (50, some 23)], [(53, some 26), (50, some 23)], [(52, some 25), (54, some 27), (50, some 23)], [(51, some 24), (55, some 28), (50, some 23)], [(50, some 23), (56, some 29)], [(57, some 30)], [(58, some 31)], [(58, some 31), (59, some 32)], [(60, some 33)]] rfl (by kernel_rfl) (by kernel_rfl) (by kernel_rfl) ?_ [some 27, some 28, some 29, some 30, some 31, some 32, some 33, some 34, some 35, some 36, some 37, some 38, some 39, some 40, some 41, some 42, some 43, some 44, some 45, some 46, some 47, some 48, some 49, some 50, some 51, some 52, some 53, some 54, some 55, some 56, some 57, some 58, some 59, some 60, some 4] (by kernel_rfl) ?_
    · refine ⟨?_, ?_, ?_, ?_, ?_, ?_, ?_, ?_, ?_, ?_, ?_, ?_, ?_, ?_, ?_, ?_, ?_, ?_, ?_, ?_, ?_, ?_, ?_, ?_, ?_, ?_, ?_, ?_, ?_, ?_, ?_, ?_, ?_, ?_, ?_, trivial⟩
      · intro ax wx hx hs
        obtain ⟨e5, -⟩ := hs
        have g5 := Reg.ev (v := .pointer (some ⟨W1.heap.size, 0, none⟩)) e5
        obtain ⟨hc, -⟩ := bcell hx
        exact Reg.obl_free rfl (Reg.wp_eqv (Option.some_ne_none _) (by go_simp) rfl)
      · intro ax wx hx hs
        obtain ⟨e8, -⟩ := hs
        have g8 := Reg.ev (v := .pointer (some ⟨W3.heap.size, 0, none⟩)) e8
        obtain ⟨hc, -⟩ := bcell hx
        exact Reg.obl_free rfl (Reg.wp_eqv (Option.some_ne_none _) (by go_simp) rfl)
      · intro ax wx hx hs
        obtain ⟨e27, e28, -⟩ := hs
        have g27 := Reg.ev (v := .agg #[.int .i64 xb, .int .i64 xp, .int .i64 xf, .int .i64 xc, .int .i64 xl]) e27
        have g28 := Reg.ev (v := .agg #[.int .i64 xb, .int .i64 xp, .int .i64 xf, .int .i64 xc, .int .i64 xl]) e28
        exact Reg.obl_free rfl (Reg.wp_eqv (Option.some_ne_none _) (by go_simp) rfl)
      · intro ax wx hx hs
        obtain ⟨e29, -⟩ := hs
        have g29 := Reg.ev (v := .bool true) e29
        exact Reg.obl_free rfl (Reg.wp_eqv (Option.some_ne_none _) (by go_simp) rfl)
      · intro ax wx hx hs
        obtain ⟨e6, e30, -⟩ := hs
        have g6 := Reg.ev (v := .int .i64 xu) e6
        have g30 := Reg.ev (v := .bool true) e30
        exact Reg.obl_want rfl rfl e30 (Reg.wp_eqv (Option.some_ne_none _) (by go_simp) rfl)
      · intro ax wx hx hs
        obtain ⟨e9, e30, -⟩ := hs
        have g9 := Reg.ev (v := .int .i64 xu) e9
        have g30 := Reg.ev (v := .bool true) e30
        exact Reg.obl_want rfl rfl e30 (Reg.wp_eqv (Option.some_ne_none _) (by go_simp) rfl)
      · intro ax wx hx hs
        obtain ⟨e31, e32, e30, -⟩ := hs
        have g31 := Reg.ev (v := .int .i64 xu) e31
        have g32 := Reg.ev (v := .int .i64 xu) e32
        have g30 := Reg.ev (v := .bool true) e30
        exact Reg.obl_want rfl rfl e30 (Reg.wp_eqv (Option.some_ne_none _) (by go_simp) rfl)
      · intro ax wx hx hs
        obtain ⟨e30, e33, -⟩ := hs
        have g30 := Reg.ev (v := .bool true) e30
        have g33 := Reg.ev (v := .bool true) e33
        exact Reg.obl_free rfl (Reg.wp_eqv (Option.some_ne_none _) (by go_simp) rfl)
      · intro ax wx hx hs
        obtain ⟨e34, -⟩ := hs
        have g34 := Reg.ev (v := .bool true) e34
        exact Reg.obl_free rfl (Reg.wp_eqv (Option.some_ne_none _) (by go_simp) rfl)
      · intro ax wx hx hs
        obtain ⟨e7, e35, -⟩ := hs
        have g7 := Reg.ev (v := .int .i64 0) e7
        have g35 := Reg.ev (v := .bool true) e35
        exact Reg.obl_want rfl rfl e35 (Reg.wp_eqv (Option.some_ne_none _) (by go_simp) rfl)
      · intro ax wx hx hs
        obtain ⟨e36, e35, -⟩ := hs
        have g36 := Reg.ev (v := .int .i64 0) e36
        have g35 := Reg.ev (v := .bool true) e35
        refine Reg.obl_want rfl rfl e35 ?_
        go_simp
        refine (MetaW.code_any _ _).mono ?_
        rintro e wy ⟨rfl, rfl⟩
        exact Reg.done (Option.some_ne_none _) rfl (bsame _)
      · intro ax wx hx hs
        obtain ⟨e37, e35, -⟩ := hs
        have g37 := Reg.ev (v := .int .i64 0) e37
        have g35 := Reg.ev (v := .bool true) e35
        exact Reg.obl_want rfl rfl e35 (Reg.wp_eqv (Option.some_ne_none _) (by go_simp) rfl)
      · intro ax wx hx hs
        obtain ⟨e10, e35, -⟩ := hs
        have g10 := Reg.ev (v := .bool true) e10
        have g35 := Reg.ev (v := .bool true) e35
        exact Reg.obl_want rfl rfl e35 (Reg.wp_eqv (Option.some_ne_none _) (by go_simp) rfl)
      · intro ax wx hx hs
        obtain ⟨e38, e39, e35, -⟩ := hs
        have g38 := Reg.ev (v := .bool true) e38
        have g39 := Reg.ev (v := .bool true) e39
        have g35 := Reg.ev (v := .bool true) e35
        exact Reg.obl_want rfl rfl e35 (Reg.wp_eqv (Option.some_ne_none _) (by go_simp) rfl)
      · intro ax wx hx hs
        obtain ⟨e35, e40, -⟩ := hs
        have g35 := Reg.ev (v := .bool true) e35
        have g40 := Reg.ev (v := .bool true) e40
        exact Reg.obl_free rfl (Reg.wp_eqv (Option.some_ne_none _) (by go_simp) rfl)
      · intro ax wx hx hs
        obtain ⟨e41, -⟩ := hs
        have g41 := Reg.ev (v := .bool true) e41
        exact Reg.obl_free rfl (Reg.wp_eqv (Option.some_ne_none _) (by go_simp) rfl)
      · intro ax wx hx hs
        obtain ⟨e10, e42, -⟩ := hs
        have g10 := Reg.ev (v := .bool true) e10
        have g42 := Reg.ev (v := .bool true) e42
        exact Reg.obl_want rfl rfl e42 (Reg.wp_eqv (Option.some_ne_none _) (by go_simp) rfl)
      · intro ax wx hx hs
        obtain ⟨e43, e42, -⟩ := hs
        have g43 := Reg.ev (v := .bool true) e43
        have g42 := Reg.ev (v := .bool true) e42
        exact Reg.obl_want rfl rfl e42 (Reg.wp_eqv (Option.some_ne_none _) (by go_simp) rfl)
      · intro ax wx hx hs
        obtain ⟨e7, e44, -⟩ := hs
        have g7 := Reg.ev (v := .int .i64 0) e7
        have g44 := Reg.ev (v := .bool true) e44
        exact Reg.obl_skip rfl rfl e44 rfl rfl
      · intro ax wx hx hs
        obtain ⟨e45, e44, -⟩ := hs
        have g45 := Reg.ev (v := undef) e45
        have g44 := Reg.ev (v := .bool true) e44
        exact Reg.obl_skip rfl rfl e44 rfl rfl
      · intro ax wx hx hs
        obtain ⟨e46, e44, -⟩ := hs
        have g46 := Reg.ev (v := undef) e46
        have g44 := Reg.ev (v := .bool true) e44
        exact Reg.obl_skip rfl rfl e44 rfl rfl
      · intro ax wx hx hs
        obtain ⟨e44, e47, e42, -⟩ := hs
        have g44 := Reg.ev (v := .bool true) e44
        have g47 := Reg.ev (v := undef) e47
        have g42 := Reg.ev (v := .bool true) e42
        exact Reg.obl_want rfl rfl e42 (Reg.wp_eqv (Option.some_ne_none _) (by go_simp) rfl)
      · intro ax wx hx hs
        obtain ⟨e42, e48, -⟩ := hs
        have g42 := Reg.ev (v := .bool true) e42
        have g48 := Reg.ev (v := .bool true) e48
        exact Reg.obl_free rfl (Reg.wp_eqv (Option.some_ne_none _) (by go_simp) rfl)
      · intro ax wx hx hs
        obtain ⟨e49, -⟩ := hs
        have g49 := Reg.ev (v := .bool true) e49
        exact Reg.obl_free rfl (Reg.wp_eqv (Option.some_ne_none _) (by go_simp) rfl)
      · intro ax wx hx hs
        obtain ⟨e11, e50, -⟩ := hs
        have g11 := Reg.ev (v := .pointer (some ⟨W5.heap.size, 0, none⟩)) e11
        have g50 := Reg.ev (v := .bool true) e50
        exact Reg.obl_want rfl rfl e50 (Reg.wp_eqv (Option.some_ne_none _) (by go_simp) rfl)
      · intro ax wx hx hs
        obtain ⟨e2, e50, -⟩ := hs
        have g2 := Reg.ev (v := .pointer (some ⟨w.heap.size, 0, none⟩)) e2
        have g50 := Reg.ev (v := .bool true) e50
        exact Reg.obl_want rfl rfl e50 (Reg.wp_eqv (Option.some_ne_none _) (by go_simp) rfl)
      · intro ax wx hx hs
        obtain ⟨e1, e50, -⟩ := hs
        have g1 := Reg.ev (v := .int .i64 m) e1
        have g50 := Reg.ev (v := .bool true) e50
        exact Reg.obl_want rfl rfl e50 (Reg.wp_eqv (Option.some_ne_none _) (by go_simp) rfl)
      · intro ax wx hx hs
        obtain ⟨e53, e50, -⟩ := hs
        have g53 := Reg.ev (v := .int .i64 m) e53
        have g50 := Reg.ev (v := .bool true) e50
        refine Reg.obl_want rfl rfl e50 ?_
        have hx' : Below W6.heap.size W6 wx := hx
        go_simp
        refine (RefBytes.bytes_any 2 m _ (by omega)).mono ?_
        rintro e wy ⟨A8, n8, c8, rfl, hy8, hby⟩
        exact Reg.done (Option.some_ne_none _) ⟨A8, n8, c8, rfl, hy8⟩ hby
      · intro ax wx hx hs
        obtain ⟨e52, e54, e50, -⟩ := hs
        have g52 := Reg.ev (v := .slice (some ⟨w.heap.size, 0, none⟩) 512 512) e52
        have g50 := Reg.ev (v := .bool true) e50
        refine Reg.obl_want rfl rfl e50 ?_
        have hx' : Below W6.heap.size W6 wx := hx
        obtain ⟨A8, n8, c8, e54, hy8⟩ := e54
        have g54 := Reg.ev e54
        have hn8 : n8 = 2 := by rw [← hy8.len, BeP.parts_length]
        subst hn8
        have hpt := (HS0_6.out.next hx').part 0 512 512 (by rw [HL.out]; omega) (by omega) (by unfold maxLen; omega)
        rw [List.drop_zero, List.take_of_length_le (by rw [HL.out]; omega)] at hpt
        go_simp
        refine (RefPage.put_any _ _ _ _ l 14 _ _ _ _ _ _ hpt (Nat.le_refl _) hy8 (Nat.le_refl _) (by omega) (by omega)).mono ?_
        rintro e wy ⟨A9, n9, c9, rfl, hy9, hby⟩
        exact Reg.done (Option.some_ne_none _) ⟨A9, n9, c9, rfl, hy9⟩ hby
      · intro ax wx hx hs
        obtain ⟨e51, e55, e50, -⟩ := hs
        have g51 := Reg.ev (v := .slice (some ⟨W5.heap.size, 0, none⟩) 512 512) e51
        have g50 := Reg.ev (v := .bool true) e50
        refine Reg.obl_want rfl rfl e50 ?_
        have hx' : Below W6.heap.size W6 wx := hx
        obtain ⟨A8, n8, c8, e55, hy8⟩ := e55
        have g55 := Reg.ev e55
        have hpt := (HS3_6.out.next hx').part 0 512 512 (by rw [HO.out]; omega) (by omega) (by unfold maxLen; omega)
        rw [List.drop_zero, List.take_of_length_le (by rw [HO.out]; omega)] at hpt
        go_simp
        refine (Same.same_any _ _ _ _ _ _ _ _ _ _ _ hpt hy8).mono ?_
        rintro e wy ⟨rfl, rfl⟩
        rw [beq_self_eq_true]
        exact Reg.done (Option.some_ne_none _) rfl (bsame _)
      · intro ax wx hx hs
        obtain ⟨e50, e56, -⟩ := hs
        have g50 := Reg.ev (v := .bool true) e50
        have g56 := Reg.ev (v := .bool true) e56
        exact Reg.obl_free rfl (Reg.wp_eqv (Option.some_ne_none _) (by go_simp) rfl)
      · intro ax wx hx hs
        obtain ⟨e57, -⟩ := hs
        have g57 := Reg.ev (v := .bool true) e57
        exact Reg.obl_free rfl (Reg.wp_eqv (Option.some_ne_none _) (by go_simp) rfl)
      · intro ax wx hx hs
        obtain ⟨e58, -⟩ := hs
        have g58 := Reg.ev (v := .bool true) e58
        refine Reg.obl_want rfl rfl e58 ?_
        have hx' : Below W6.heap.size W6 wx := hx
        go_simp
        refine (MetaW.live_any _).mono ?_
        rintro e wy ⟨rfl, hby⟩
        exact Reg.done (Option.some_ne_none _) rfl hby
      · intro ax wx hx hs
        obtain ⟨e58, e59, -⟩ := hs
        have g58 := Reg.ev (v := .bool true) e58
        have g59 := Reg.ev (v := .bool true) e59
        exact Reg.obl_free rfl (Reg.wp_eqv (Option.some_ne_none _) (by go_simp) rfl)
      · intro ax wx hx hs
        obtain ⟨e60, -⟩ := hs
        have g60 := Reg.ev (v := .bool true) e60
        exact Reg.obl_free rfl (Reg.wp_eqv (Option.some_ne_none _) (by go_simp) rfl)
    · intro W7 hwf
      simp only [Reg.Fin]
      rintro _ rfl _ rfl _ rfl _ rfl _ rfl _ rfl _ rfl _ rfl _ rfl _ rfl _ rfl _ rfl _ rfl _ rfl _ rfl _ rfl _ rfl _ rfl _ rfl _ rfl _ rfl _ rfl _ rfl _ rfl _ rfl _ rfl _ rfl v54 h54 v55 h55 _ rfl _ rfl _ rfl _ rfl _ rfl _ rfl
      go_simp
      go_wp2_with fail
      go_ret
      exact ⟨rfl, bstep HB_6.out hwf⟩
  · have HG : Hid (∀ W, Calls Try.prog 60 #[.agg (rowV l)] W fun e w' => e = .returned (.tuple #[.agg #[.int .i64 (MetaP.cb l), .int .i64 (MetaP.cp l), .int .i64 (MetaP.cf l), .int .i64 (MetaP.cc l), .int .i64 (MetaP.cl l)], .int .i64 (MetaP.used l), .int .i64 14]) ∧ Below W.heap.size W w') := Lib.hid (fun W => by have h := MetaW.get_any l HL.out W; rw [show MetaP.err l = 14 by simp [MetaP.err, hbad]] at h; exact h)
    have HR : Hid (∀ (A : Option Addr) (c B : Nat) W (h : Bytes W B A 512 c l) (hB : B ≤ W.heap.size), Calls Try.prog 61 #[.slice A 512 c] W fun e w' => e = .returned (.tuple #[.agg #[.int .i64 (MetaP.cb l), .int .i64 (MetaP.cp l), .int .i64 (MetaP.cf l), .int .i64 (MetaP.cc l), .int .i64 (MetaP.cl l)], .int .i64 (MetaP.used l), .bool false]) ∧ Below W.heap.size W w') := Lib.hid (fun A c B W h hB => by have h := MetaW.refGet_any A c B l HL.out W h hB; rw [hbad] at h; exact h)
    generalize MetaP.cb l = xb at HG HR
    generalize MetaP.cp l = xp at HG HR
    generalize MetaP.cf l = xf at HG HR
    generalize MetaP.cc l = xc at HG HR
    generalize MetaP.cl l = xl at HG HR
    generalize MetaP.used l = xu at HG HR
    clear hbad
    obtain ⟨W0, hW0⟩ : ∃ W0, (w).alloc (.cells (rowV l) 50) = W0 := ⟨_, rfl⟩
    have HS0_0 : Hid (Str W0 (w.heap.size) (rowV l)) := Lib.hid (by rw [← hW0]; have := Str.new (w) (rowV l) 50; simpa using this)
    have HB_0 : Hid (Below w.heap.size w W0) := Lib.hid (by rw [← hW0]; exact balloc (bsame w) _)
    have hw_0 := HB_0.out.size
    have hz0 : W0.heap.size = w.heap.size + 1 := by rw [← hW0]; simp
    have HW0 := Lib.hid hW0
    have hl0_0 := HS0_0.out.lt
    have hld := run_ld (P := Try.prog) arr512 HS0_0.out HL.out
    rw [← hW0] at hld
    clear hW0 hz0
    go_enter Try.func11, Try.ntmps11
    go_wp2_with fail
    rw [HW0.out] at hld
    rw [HW0.out]
    refine (HG.out _).mono ?_
    rintro e W1 ⟨rfl, hb1⟩
    clear hld HG
    have hsl := fun W => run_sl_all (P := Try.prog) arr512 w.heap.size W
    have HS0_1 := Lib.hid (HS0_0.out.next hb1)
    have HB_1 := Lib.hid (bstep HB_0.out hb1)
    have hw_1 := HB_1.out.size
    have hws_1 := (hb1).size
    clear HS0_0
    clear hb1
    have hl0_1 := HS0_1.out.lt
    go_wp2_with fail
    generalize hW2 : W1.alloc (.cells #[.int .i64 xb, .int .i64 xp, .int .i64 xf, .int .i64 xc, .int .i64 xl] 70) = W2
    have HS0_2 : Hid (Str W2 (w.heap.size) (rowV l)) := Lib.hid (by rw [← hW2]; exact HS0_1.out.alloc _)
    have HS1_2 : Hid (Str W2 W1.heap.size #[.int .i64 xb, .int .i64 xp, .int .i64 xf, .int .i64 xc, .int .i64 xl]) := Lib.hid (by rw [← hW2]; exact Str.new W1 #[.int .i64 xb, .int .i64 xp, .int .i64 xf, .int .i64 xc, .int .i64 xl] 70)
    have hba2 : Below W1.heap.size W1 W2 := by rw [← hW2]; exact balloc (bsame _) _
    have HB_2 := Lib.hid (bstep HB_1.out hba2)
    have hw_2 := HB_2.out.size
    have hws_2 := hba2.size
    clear hW2
    clear HS0_1
    have hl0_2 := HS0_2.out.lt
    obtain ⟨f1_2_0, f1_2_1, f1_2_2, f1_2_3, f1_2_4⟩ := str5 HS1_2.out
    have hl1_2 := HS1_2.out.lt
    clear hba2
    have hpt := HS0_2.out.part 0 512 512 (by rw [HL.out]; omega) (by omega) (by unfold maxLen; omega)
    rw [List.drop_zero, List.take_of_length_le (by rw [HL.out]; omega)] at hpt
    refine (HR.out _ _ _ _ hpt (Nat.le_refl _)).mono ?_
    rintro e W3 ⟨rfl, hb3⟩
    clear hpt HR
    have HS0_3 := Lib.hid (HS0_2.out.next hb3)
    have HS1_3 := Lib.hid (HS1_2.out.next hb3)
    have HB_3 := Lib.hid (bstep HB_2.out hb3)
    have hw_3 := HB_3.out.size
    have hws_3 := (hb3).size
    clear HS0_2 f1_2_0 f1_2_1 f1_2_2 f1_2_3 f1_2_4 HS1_2
    clear hb3
    have hl0_3 := HS0_3.out.lt
    obtain ⟨f1_3_0, f1_3_1, f1_3_2, f1_3_3, f1_3_4⟩ := str5 HS1_3.out
    have hl1_3 := HS1_3.out.lt
    go_wp2_with fail
    generalize hW4 : W3.alloc (.cells #[.int .i64 xb, .int .i64 xp, .int .i64 xf, .int .i64 xc, .int .i64 xl] 70) = W4
    have HS0_4 : Hid (Str W4 (w.heap.size) (rowV l)) := Lib.hid (by rw [← hW4]; exact HS0_3.out.alloc _)
    have HS1_4 : Hid (Str W4 (W1.heap.size) #[.int .i64 xb, .int .i64 xp, .int .i64 xf, .int .i64 xc, .int .i64 xl]) := Lib.hid (by rw [← hW4]; exact HS1_3.out.alloc _)
    have HS2_4 : Hid (Str W4 W3.heap.size #[.int .i64 xb, .int .i64 xp, .int .i64 xf, .int .i64 xc, .int .i64 xl]) := Lib.hid (by rw [← hW4]; exact Str.new W3 #[.int .i64 xb, .int .i64 xp, .int .i64 xf, .int .i64 xc, .int .i64 xl] 70)
    have hba4 : Below W3.heap.size W3 W4 := by rw [← hW4]; exact balloc (bsame _) _
    have HB_4 := Lib.hid (bstep HB_3.out hba4)
    have hw_4 := HB_4.out.size
    have hws_4 := hba4.size
    clear hW4
    clear HS0_3 f1_3_0 f1_3_1 f1_3_2 f1_3_3 f1_3_4 HS1_3
    have hl0_4 := HS0_4.out.lt
    obtain ⟨f1_4_0, f1_4_1, f1_4_2, f1_4_3, f1_4_4⟩ := str5 HS1_4.out
    have hl1_4 := HS1_4.out.lt
    obtain ⟨f2_4_0, f2_4_1, f2_4_2, f2_4_3, f2_4_4⟩ := str5 HS2_4.out
    have hl2_4 := HS2_4.out.lt
    clear hba4
    have hld := run_ld (P := Try.prog) arr512 HS0_4.out HL.out
    go_simp
    go_wp2_with fail
    refine (MetaW.withUsed_any l HL.out m _).mono ?_
    rintro e W5 ⟨rfl, hb5⟩
    clear hld
    have HS0_5 := Lib.hid (HS0_4.out.next hb5)
    have HS1_5 := Lib.hid (HS1_4.out.next hb5)
    have HS2_5 := Lib.hid (HS2_4.out.next hb5)
    have HB_5 := Lib.hid (bstep HB_4.out hb5)
    have hw_5 := HB_5.out.size
    have hws_5 := (hb5).size
    clear HS0_4 f1_4_0 f1_4_1 f1_4_2 f1_4_3 f1_4_4 HS1_4 f2_4_0 f2_4_1 f2_4_2 f2_4_3 f2_4_4 HS2_4
    clear hb5
    have hl0_5 := HS0_5.out.lt
    obtain ⟨f1_5_0, f1_5_1, f1_5_2, f1_5_3, f1_5_4⟩ := str5 HS1_5.out
    have hl1_5 := HS1_5.out.lt
    obtain ⟨f2_5_0, f2_5_1, f2_5_2, f2_5_3, f2_5_4⟩ := str5 HS2_5.out
    have hl2_5 := HS2_5.out.lt
    have hal := fun W => run_al (P := Try.prog) arrPage W
    have hst5 := run_st (P := Try.prog) arrPage (Str.new W5 (rowV (SlotP.zeros 512)) 51) (by rw [rowV_size]; exact SlotPut.zeros_len 512) (HO.out)
    obtain ⟨W6, hW6⟩ : ∃ W, (W5.alloc (.cells (rowV (SlotP.zeros 512)) 51)).setRow W5.heap.size (rowV (SlotP.over l 14 (BeP.parts 2 m))) = W := ⟨_, rfl⟩
    rw [hW6] at hst5
    have HS0_6 : Hid (Str W6 (w.heap.size) (rowV l)) := Lib.hid (by rw [← hW6]; exact (HS0_5.out.alloc _).setRow_other (by omega))
    have HS1_6 : Hid (Str W6 (W1.heap.size) #[.int .i64 xb, .int .i64 xp, .int .i64 xf, .int .i64 xc, .int .i64 xl]) := Lib.hid (by rw [← hW6]; exact (HS1_5.out.alloc _).setRow_other (by omega))
    have HS2_6 : Hid (Str W6 (W3.heap.size) #[.int .i64 xb, .int .i64 xp, .int .i64 xf, .int .i64 xc, .int .i64 xl]) := Lib.hid (by rw [← hW6]; exact (HS2_5.out.alloc _).setRow_other (by omega))
    have HS3_6 : Hid (Str W6 (W5.heap.size) (rowV (SlotP.over l 14 (BeP.parts 2 m)))) := Lib.hid (by rw [← hW6]; exact (Str.new W5 (rowV (SlotP.zeros 512)) 51).setRow)
    have hba6 : Below W5.heap.size W5 W6 := by rw [← hW6]; exact below_setRow (balloc (bsame _) _) (Nat.le_refl _) _
    have HB_6 := Lib.hid (bstep HB_5.out hba6)
    have hw_6 := HB_6.out.size
    have hws_6 := hba6.size
    clear hW6 hba6
    clear HS0_5 f1_5_0 f1_5_1 f1_5_2 f1_5_3 f1_5_4 HS1_5 f2_5_0 f2_5_1 f2_5_2 f2_5_3 f2_5_4 HS2_5
    have hl0_6 := HS0_6.out.lt
    obtain ⟨f1_6_0, f1_6_1, f1_6_2, f1_6_3, f1_6_4⟩ := str5 HS1_6.out
    have hl1_6 := HS1_6.out.lt
    obtain ⟨f2_6_0, f2_6_1, f2_6_2, f2_6_3, f2_6_4⟩ := str5 HS2_6.out
    have hl2_6 := HS2_6.out.lt
    have hl3_6 := HS3_6.out.lt
    go_wp2_with fail
    clear hal hst5
    have hsl2 := fun W => run_sl_all (P := Try.prog) arrPage W5.heap.size W
    refine Reg.wp_region_vals (R := ext) (W := W6) [Reg.eqv (.agg #[.int .i64 xb, .int .i64 xp, .int .i64 xf, .int .i64 xc, .int .i64 xl]), Reg.eqv (.agg #[.int .i64 xb, .int .i64 xp, .int .i64 xf, .int .i64 xc, .int .i64 xl]), Reg.eqv (.bool true), Reg.eqv (.bool true), Reg.eqv (.int .i64 xu), Reg.eqv (.int .i64 xu), Reg.eqv (.bool true), Reg.eqv (.bool true), Reg.eqv (.bool true), Reg.eqv (.int .i64 14), Reg.eqv (.int .i64 14), Reg.eqv (.bool false), Reg.eqv (.bool false), Reg.eqv (.bool true), Reg.eqv (.bool true), Reg.eqv (.bool true), Reg.eqv (.bool false), Reg.eqv (.bool false), Reg.eqv (.int .i64 14), Reg.eqv (.int .i64 14), Reg.eqv (.bool true), Reg.eqv (.bool true), Reg.eqv (.bool true), Reg.eqv (.bool true), Reg.eqv (.slice (some ⟨W5.heap.size, 0, none⟩) 512 512), Reg.eqv (.slice (some ⟨w.heap.size, 0, none⟩) 512 512), Reg.eqv (.int .i64 m), Reg.bytes (BeP.parts 2 m), Reg.bytes (SlotP.over l 14 (BeP.parts 2 m)), Reg.eqv (.bool true), Reg.eqv (.bool true), Reg.eqv (.bool true), Reg.eqv (.bool true), Reg.eqv (.bool true), Reg.eqv (.bool true)] 61 [[(5, none)], [(8, none)], [(27, some 0), (28, some 1)], [(29, some 2)], [(6, none), (30, some 3)], [(9, none), (30, some 3)], [(31, some 4), (32, some 5), (30, some 3)], [(30, some 3), (33, some 6)], [(34, some 7)], [(7, none), (35, some 8)], [(36, some 9), (35, some 8)], [(37, some 10), (35, some 8)], [(10, none), (35, some 8)], [(38, some 11), (39, some 12), (35, some 8)], [(35, some 8), (40, some 13)], [(41, some 14)], [(10, none), (42, some 15)], [(43, some 16), (42, some 15)], [(7, none), (44, some 17)], [(45, some 18), (44, some 17)], [(46, some 19), (44, some 17)], [(44, some 17), (47, some 20), (42, some 15)], [(42, some 15), (48, some 21)], [(49, some 22)], [(11, none), (50, some 23)], [(2, none), (50, some 23)], [(1, none), (50, some 23)], [(53, some 26), (50, some 23)], [(52, some 25), (54, some 27), (50, some 23)], [(51, some 24), (55, some 28), (50, some 23)], [(50, some 23), (56, some 29)], [(57, some 30)], [(58, some 31)], [(58, some 31), (59, some 32)], [(60, some 33)]] rfl (by kernel_rfl) (by kernel_rfl) (by kernel_rfl) ?_ [some 27, some 28, some 29, some 30, some 31, some 32, some 33, some 34, some 35, some 36, some 37, some 38, some 39, some 40, some 41, some 42, some 43, some 44, some 45, some 46, some 47, some 48, some 49, some 50, some 51, some 52, some 53, some 54, some 55, some 56, some 57, some 58, some 59, some 60, some 4] (by kernel_rfl) ?_
    · refine ⟨?_, ?_, ?_, ?_, ?_, ?_, ?_, ?_, ?_, ?_, ?_, ?_, ?_, ?_, ?_, ?_, ?_, ?_, ?_, ?_, ?_, ?_, ?_, ?_, ?_, ?_, ?_, ?_, ?_, ?_, ?_, ?_, ?_, ?_, ?_, trivial⟩
      · intro ax wx hx hs
        obtain ⟨e5, -⟩ := hs
        have g5 := Reg.ev (v := .pointer (some ⟨W1.heap.size, 0, none⟩)) e5
        obtain ⟨hc, -⟩ := bcell hx
        exact Reg.obl_free rfl (Reg.wp_eqv (Option.some_ne_none _) (by go_simp) rfl)
      · intro ax wx hx hs
        obtain ⟨e8, -⟩ := hs
        have g8 := Reg.ev (v := .pointer (some ⟨W3.heap.size, 0, none⟩)) e8
        obtain ⟨hc, -⟩ := bcell hx
        exact Reg.obl_free rfl (Reg.wp_eqv (Option.some_ne_none _) (by go_simp) rfl)
      · intro ax wx hx hs
        obtain ⟨e27, e28, -⟩ := hs
        have g27 := Reg.ev (v := .agg #[.int .i64 xb, .int .i64 xp, .int .i64 xf, .int .i64 xc, .int .i64 xl]) e27
        have g28 := Reg.ev (v := .agg #[.int .i64 xb, .int .i64 xp, .int .i64 xf, .int .i64 xc, .int .i64 xl]) e28
        exact Reg.obl_free rfl (Reg.wp_eqv (Option.some_ne_none _) (by go_simp) rfl)
      · intro ax wx hx hs
        obtain ⟨e29, -⟩ := hs
        have g29 := Reg.ev (v := .bool true) e29
        exact Reg.obl_free rfl (Reg.wp_eqv (Option.some_ne_none _) (by go_simp) rfl)
      · intro ax wx hx hs
        obtain ⟨e6, e30, -⟩ := hs
        have g6 := Reg.ev (v := .int .i64 xu) e6
        have g30 := Reg.ev (v := .bool true) e30
        exact Reg.obl_want rfl rfl e30 (Reg.wp_eqv (Option.some_ne_none _) (by go_simp) rfl)
      · intro ax wx hx hs
        obtain ⟨e9, e30, -⟩ := hs
        have g9 := Reg.ev (v := .int .i64 xu) e9
        have g30 := Reg.ev (v := .bool true) e30
        exact Reg.obl_want rfl rfl e30 (Reg.wp_eqv (Option.some_ne_none _) (by go_simp) rfl)
      · intro ax wx hx hs
        obtain ⟨e31, e32, e30, -⟩ := hs
        have g31 := Reg.ev (v := .int .i64 xu) e31
        have g32 := Reg.ev (v := .int .i64 xu) e32
        have g30 := Reg.ev (v := .bool true) e30
        exact Reg.obl_want rfl rfl e30 (Reg.wp_eqv (Option.some_ne_none _) (by go_simp) rfl)
      · intro ax wx hx hs
        obtain ⟨e30, e33, -⟩ := hs
        have g30 := Reg.ev (v := .bool true) e30
        have g33 := Reg.ev (v := .bool true) e33
        exact Reg.obl_free rfl (Reg.wp_eqv (Option.some_ne_none _) (by go_simp) rfl)
      · intro ax wx hx hs
        obtain ⟨e34, -⟩ := hs
        have g34 := Reg.ev (v := .bool true) e34
        exact Reg.obl_free rfl (Reg.wp_eqv (Option.some_ne_none _) (by go_simp) rfl)
      · intro ax wx hx hs
        obtain ⟨e7, e35, -⟩ := hs
        have g7 := Reg.ev (v := .int .i64 14) e7
        have g35 := Reg.ev (v := .bool true) e35
        exact Reg.obl_want rfl rfl e35 (Reg.wp_eqv (Option.some_ne_none _) (by go_simp) rfl)
      · intro ax wx hx hs
        obtain ⟨e36, e35, -⟩ := hs
        have g36 := Reg.ev (v := .int .i64 14) e36
        have g35 := Reg.ev (v := .bool true) e35
        refine Reg.obl_want rfl rfl e35 ?_
        go_simp
        refine (MetaW.code_any _ _).mono ?_
        rintro e wy ⟨rfl, rfl⟩
        exact Reg.done (Option.some_ne_none _) rfl (bsame _)
      · intro ax wx hx hs
        obtain ⟨e37, e35, -⟩ := hs
        have g37 := Reg.ev (v := .int .i64 14) e37
        have g35 := Reg.ev (v := .bool true) e35
        exact Reg.obl_want rfl rfl e35 (Reg.wp_eqv (Option.some_ne_none _) (by go_simp) rfl)
      · intro ax wx hx hs
        obtain ⟨e10, e35, -⟩ := hs
        have g10 := Reg.ev (v := .bool false) e10
        have g35 := Reg.ev (v := .bool true) e35
        exact Reg.obl_want rfl rfl e35 (Reg.wp_eqv (Option.some_ne_none _) (by go_simp) rfl)
      · intro ax wx hx hs
        obtain ⟨e38, e39, e35, -⟩ := hs
        have g38 := Reg.ev (v := .bool false) e38
        have g39 := Reg.ev (v := .bool false) e39
        have g35 := Reg.ev (v := .bool true) e35
        exact Reg.obl_want rfl rfl e35 (Reg.wp_eqv (Option.some_ne_none _) (by go_simp) rfl)
      · intro ax wx hx hs
        obtain ⟨e35, e40, -⟩ := hs
        have g35 := Reg.ev (v := .bool true) e35
        have g40 := Reg.ev (v := .bool true) e40
        exact Reg.obl_free rfl (Reg.wp_eqv (Option.some_ne_none _) (by go_simp) rfl)
      · intro ax wx hx hs
        obtain ⟨e41, -⟩ := hs
        have g41 := Reg.ev (v := .bool true) e41
        exact Reg.obl_free rfl (Reg.wp_eqv (Option.some_ne_none _) (by go_simp) rfl)
      · intro ax wx hx hs
        obtain ⟨e10, e42, -⟩ := hs
        have g10 := Reg.ev (v := .bool false) e10
        have g42 := Reg.ev (v := .bool true) e42
        exact Reg.obl_want rfl rfl e42 (Reg.wp_eqv (Option.some_ne_none _) (by go_simp) rfl)
      · intro ax wx hx hs
        obtain ⟨e43, e42, -⟩ := hs
        have g43 := Reg.ev (v := .bool false) e43
        have g42 := Reg.ev (v := .bool true) e42
        exact Reg.obl_want rfl rfl e42 (Reg.wp_eqv (Option.some_ne_none _) (by go_simp) rfl)
      · intro ax wx hx hs
        obtain ⟨e7, e44, -⟩ := hs
        have g7 := Reg.ev (v := .int .i64 14) e7
        have g44 := Reg.ev (v := .bool false) e44
        exact Reg.obl_want rfl rfl e44 (Reg.wp_eqv (Option.some_ne_none _) (by go_simp) rfl)
      · intro ax wx hx hs
        obtain ⟨e45, e44, -⟩ := hs
        have g45 := Reg.ev (v := .int .i64 14) e45
        have g44 := Reg.ev (v := .bool false) e44
        refine Reg.obl_want rfl rfl e44 ?_
        go_simp
        refine (MetaW.code_any _ _).mono ?_
        rintro e wy ⟨rfl, rfl⟩
        exact Reg.done (Option.some_ne_none _) rfl (bsame _)
      · intro ax wx hx hs
        obtain ⟨e46, e44, -⟩ := hs
        have g46 := Reg.ev (v := .int .i64 14) e46
        have g44 := Reg.ev (v := .bool false) e44
        exact Reg.obl_want rfl rfl e44 (Reg.wp_eqv (Option.some_ne_none _) (by go_simp) rfl)
      · intro ax wx hx hs
        obtain ⟨e44, e47, e42, -⟩ := hs
        have g44 := Reg.ev (v := .bool false) e44
        have g47 := Reg.ev (v := .bool true) e47
        have g42 := Reg.ev (v := .bool true) e42
        exact Reg.obl_want rfl rfl e42 (Reg.wp_eqv (Option.some_ne_none _) (by go_simp) rfl)
      · intro ax wx hx hs
        obtain ⟨e42, e48, -⟩ := hs
        have g42 := Reg.ev (v := .bool true) e42
        have g48 := Reg.ev (v := .bool true) e48
        exact Reg.obl_free rfl (Reg.wp_eqv (Option.some_ne_none _) (by go_simp) rfl)
      · intro ax wx hx hs
        obtain ⟨e49, -⟩ := hs
        have g49 := Reg.ev (v := .bool true) e49
        exact Reg.obl_free rfl (Reg.wp_eqv (Option.some_ne_none _) (by go_simp) rfl)
      · intro ax wx hx hs
        obtain ⟨e11, e50, -⟩ := hs
        have g11 := Reg.ev (v := .pointer (some ⟨W5.heap.size, 0, none⟩)) e11
        have g50 := Reg.ev (v := .bool true) e50
        exact Reg.obl_want rfl rfl e50 (Reg.wp_eqv (Option.some_ne_none _) (by go_simp) rfl)
      · intro ax wx hx hs
        obtain ⟨e2, e50, -⟩ := hs
        have g2 := Reg.ev (v := .pointer (some ⟨w.heap.size, 0, none⟩)) e2
        have g50 := Reg.ev (v := .bool true) e50
        exact Reg.obl_want rfl rfl e50 (Reg.wp_eqv (Option.some_ne_none _) (by go_simp) rfl)
      · intro ax wx hx hs
        obtain ⟨e1, e50, -⟩ := hs
        have g1 := Reg.ev (v := .int .i64 m) e1
        have g50 := Reg.ev (v := .bool true) e50
        exact Reg.obl_want rfl rfl e50 (Reg.wp_eqv (Option.some_ne_none _) (by go_simp) rfl)
      · intro ax wx hx hs
        obtain ⟨e53, e50, -⟩ := hs
        have g53 := Reg.ev (v := .int .i64 m) e53
        have g50 := Reg.ev (v := .bool true) e50
        refine Reg.obl_want rfl rfl e50 ?_
        have hx' : Below W6.heap.size W6 wx := hx
        go_simp
        refine (RefBytes.bytes_any 2 m _ (by omega)).mono ?_
        rintro e wy ⟨A8, n8, c8, rfl, hy8, hby⟩
        exact Reg.done (Option.some_ne_none _) ⟨A8, n8, c8, rfl, hy8⟩ hby
      · intro ax wx hx hs
        obtain ⟨e52, e54, e50, -⟩ := hs
        have g52 := Reg.ev (v := .slice (some ⟨w.heap.size, 0, none⟩) 512 512) e52
        have g50 := Reg.ev (v := .bool true) e50
        refine Reg.obl_want rfl rfl e50 ?_
        have hx' : Below W6.heap.size W6 wx := hx
        obtain ⟨A8, n8, c8, e54, hy8⟩ := e54
        have g54 := Reg.ev e54
        have hn8 : n8 = 2 := by rw [← hy8.len, BeP.parts_length]
        subst hn8
        have hpt := (HS0_6.out.next hx').part 0 512 512 (by rw [HL.out]; omega) (by omega) (by unfold maxLen; omega)
        rw [List.drop_zero, List.take_of_length_le (by rw [HL.out]; omega)] at hpt
        go_simp
        refine (RefPage.put_any _ _ _ _ l 14 _ _ _ _ _ _ hpt (Nat.le_refl _) hy8 (Nat.le_refl _) (by omega) (by omega)).mono ?_
        rintro e wy ⟨A9, n9, c9, rfl, hy9, hby⟩
        exact Reg.done (Option.some_ne_none _) ⟨A9, n9, c9, rfl, hy9⟩ hby
      · intro ax wx hx hs
        obtain ⟨e51, e55, e50, -⟩ := hs
        have g51 := Reg.ev (v := .slice (some ⟨W5.heap.size, 0, none⟩) 512 512) e51
        have g50 := Reg.ev (v := .bool true) e50
        refine Reg.obl_want rfl rfl e50 ?_
        have hx' : Below W6.heap.size W6 wx := hx
        obtain ⟨A8, n8, c8, e55, hy8⟩ := e55
        have g55 := Reg.ev e55
        have hpt := (HS3_6.out.next hx').part 0 512 512 (by rw [HO.out]; omega) (by omega) (by unfold maxLen; omega)
        rw [List.drop_zero, List.take_of_length_le (by rw [HO.out]; omega)] at hpt
        go_simp
        refine (Same.same_any _ _ _ _ _ _ _ _ _ _ _ hpt hy8).mono ?_
        rintro e wy ⟨rfl, rfl⟩
        rw [beq_self_eq_true]
        exact Reg.done (Option.some_ne_none _) rfl (bsame _)
      · intro ax wx hx hs
        obtain ⟨e50, e56, -⟩ := hs
        have g50 := Reg.ev (v := .bool true) e50
        have g56 := Reg.ev (v := .bool true) e56
        exact Reg.obl_free rfl (Reg.wp_eqv (Option.some_ne_none _) (by go_simp) rfl)
      · intro ax wx hx hs
        obtain ⟨e57, -⟩ := hs
        have g57 := Reg.ev (v := .bool true) e57
        exact Reg.obl_free rfl (Reg.wp_eqv (Option.some_ne_none _) (by go_simp) rfl)
      · intro ax wx hx hs
        obtain ⟨e58, -⟩ := hs
        have g58 := Reg.ev (v := .bool true) e58
        refine Reg.obl_want rfl rfl e58 ?_
        have hx' : Below W6.heap.size W6 wx := hx
        go_simp
        refine (MetaW.live_any _).mono ?_
        rintro e wy ⟨rfl, hby⟩
        exact Reg.done (Option.some_ne_none _) rfl hby
      · intro ax wx hx hs
        obtain ⟨e58, e59, -⟩ := hs
        have g58 := Reg.ev (v := .bool true) e58
        have g59 := Reg.ev (v := .bool true) e59
        exact Reg.obl_free rfl (Reg.wp_eqv (Option.some_ne_none _) (by go_simp) rfl)
      · intro ax wx hx hs
        obtain ⟨e60, -⟩ := hs
        have g60 := Reg.ev (v := .bool true) e60
        exact Reg.obl_free rfl (Reg.wp_eqv (Option.some_ne_none _) (by go_simp) rfl)
    · intro W7 hwf
      simp only [Reg.Fin]
      rintro _ rfl _ rfl _ rfl _ rfl _ rfl _ rfl _ rfl _ rfl _ rfl _ rfl _ rfl _ rfl _ rfl _ rfl _ rfl _ rfl _ rfl _ rfl _ rfl _ rfl _ rfl _ rfl _ rfl _ rfl _ rfl _ rfl _ rfl v54 h54 v55 h55 _ rfl _ rfl _ rfl _ rfl _ rfl _ rfl
      go_simp
      go_wp2_with fail
      go_ret
      exact ⟨rfl, bstep HB_6.out hwf⟩
end Go.Proofs.Ytjengjbkdflapaa.metaGets
