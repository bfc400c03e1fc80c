/-
  The walk of PageNums: the Go text returns true for every input, and writes nothing that was there.
-/
import Derived.Test.YtjengjbkdflapaaOpen3
import Derived.Test.YtjengjbkdflapaaLive07
import Derived.Test.YtjengjbkdflapaaRegW
import Derived.Test.YtjengjbkdflapaaRefPage
namespace Go.Proofs.Ytjengjbkdflapaa.pageNums
open Go.RowKit
attribute [local go_sem ↓] alPage_fold ldPage_fold stPage_fold bdPage_fold slPage_fold ld512_fold sl512_fold

def x1 (l : List UInt8) (m : Int) : List UInt8 := SlotP.over l 4 (BeP.parts 8 m)
def x2 (l : List UInt8) (m : Int) : List UInt8 := SlotP.over l 14 (BeP.parts 2 m)
def x3 (l : List UInt8) (m : Int) : List UInt8 := SlotP.over l 16 (BeP.parts 8 m)
def x4 (m : Int) : List UInt8 := SlotP.over (SlotP.zeros 512) 12 (BeP.parts 2 m)
theorem x1_length (l : List UInt8) (hl : l.length = 512) (m : Int) : (x1 l m).length = 512 := by unfold x1; rw [SlotP.over_length _ _ _ (by rw [BeP.parts_length]; omega), hl]
theorem x2_length (l : List UInt8) (hl : l.length = 512) (m : Int) : (x2 l m).length = 512 := by unfold x2; rw [SlotP.over_length _ _ _ (by rw [BeP.parts_length]; omega), hl]
theorem x3_length (l : List UInt8) (hl : l.length = 512) (m : Int) : (x3 l m).length = 512 := by unfold x3; rw [SlotP.over_length _ _ _ (by rw [BeP.parts_length]; omega), hl]
theorem x4_length (m : Int) : (x4 m).length = 512 := by
  have hz : (SlotP.zeros 512).length = 512 := SlotPut.zeros_len 512
  unfold x4; rw [SlotP.over_length _ _ _ (by rw [BeP.parts_length]; omega), hz]
set_option maxRecDepth 100000 in
set_option maxHeartbeats 4000000 in
theorem walk (v0 v1 : Value) (l : List UInt8) (m : Int) (w : World) (g0 : RArr 512 v0 l) (g1 : RInt w v1 m) :
    Calls Try.prog 8 #[v0, v1] w fun e w' => e = .returned (.bool true) ∧ Below w.heap.size w w' := by
  obtain ⟨rfl, hl⟩ := g0
  obtain ⟨rfl, hm⟩ := g1
  have HL := Lib.hid hl
  have HX1 := Lib.hid (x1_length l hl m)
  have HX2 := Lib.hid (x2_length l hl m)
  have HX3 := Lib.hid (x3_length l hl m)
  have HX4 := Lib.hid (x4_length m)
  clear hl hm
  obtain ⟨W0, hW0⟩ : ∃ W0, (w).alloc (.cells (rowV l) 50) = W0 := ⟨_, rfl⟩
  have HS0_0 : Hid (Str W0 (w.heap.size) (rowV l)) := Lib.hid (by rw [← hW0]; have := Str.new (w) (rowV l) 50; simpa using this)
  have HB_0 : Hid (Below w.heap.size w W0) := Lib.hid (by rw [← hW0]; exact balloc (bsame w) _)
  have hw_0 := HB_0.out.size
  have hz0 : W0.heap.size = w.heap.size + 1 := by rw [← hW0]; simp
  have HW0 := Lib.hid hW0
  have hl0_0 := HS0_0.out.lt
  have hld := run_ld (P := Try.prog) arr512 HS0_0.out HL.out
  have hal := fun W => run_al (P := Try.prog) arrPage W
  have hst0 := run_st (P := Try.prog) arrPage (Str.new W0 (rowV (SlotP.zeros 512)) 51) (by rw [rowV_size]; exact SlotPut.zeros_len 512) (HL.out)
  obtain ⟨W1, hW1⟩ : ∃ W, (W0.alloc (.cells (rowV (SlotP.zeros 512)) 51)).setRow W0.heap.size (rowV l) = W := ⟨_, rfl⟩
  rw [hW1] at hst0
  rw [hz0] at hst0
  have HS0_1 : Hid (Str W1 (w.heap.size) (rowV l)) := Lib.hid (by rw [← hW1]; exact (HS0_0.out.alloc _).setRow_other (by omega))
  have HS1_1 : Hid (Str W1 (w.heap.size + 1) (rowV l)) := Lib.hid (by rw [← hW1, ← hz0]; exact (Str.new W0 (rowV (SlotP.zeros 512)) 51).setRow)
  have hba1 : Below W0.heap.size W0 W1 := by rw [← hW1]; exact below_setRow (balloc (bsame _) _) (Nat.le_refl _) _
  have HB_1 := Lib.hid (bstep HB_0.out hba1)
  have hw_1 := HB_1.out.size
  have hws_1 := hba1.size
  clear hW1 hba1
  clear HS0_0
  have hl0_1 := HS0_1.out.lt
  have hl1_1 := HS1_1.out.lt
  rw [← hW0] at hld hst0
  clear hW0 hz0
  have hldp := run_ld (P := Try.prog) arrPage HS1_1.out HL.out
  go_enter Try.func8, Try.ntmps8
  go_wp2_with fail
  clear hld hldp hst0
  have hsl := fun W => run_sl_all (P := Try.prog) arr512 w.heap.size W
  obtain ⟨xa, hxa⟩ : ∃ y, NumP.val l 12 2 = y := ⟨_, rfl⟩
  have Hxa := Lib.hid hxa
  clear hxa
  obtain ⟨xb, hxb⟩ : ∃ y, NumP.val l 4 8 = y := ⟨_, rfl⟩
  have Hxb := Lib.hid hxb
  clear hxb
  obtain ⟨xc, hxc⟩ : ∃ y, NumP.val l 14 2 = y := ⟨_, rfl⟩
  have Hxc := Lib.hid hxc
  clear hxc
  obtain ⟨xd, hxd⟩ : ∃ y, NumP.val l 16 8 = y := ⟨_, rfl⟩
  have Hxd := Lib.hid hxd
  clear hxd
  refine Reg.wp_region_vals (R := ext) (W := W1) [Reg.eqv (.agg (rowV l)), Reg.eqv (.int .i64 xa), Reg.eqv (.slice (some ⟨w.heap.size, 0, none⟩) 512 512), Reg.eqv (.int .i64 xa), Reg.eqv (.bool false), Reg.eqv (.bool false), Reg.eqv (.agg (rowV l)), Reg.eqv (.int .i64 xb), Reg.eqv (.slice (some ⟨w.heap.size, 0, none⟩) 512 512), Reg.eqv (.int .i64 xb), Reg.eqv (.bool false), Reg.eqv (.bool false), Reg.eqv (.bool false), Reg.eqv (.agg (rowV l)), Reg.eqv (.int .i64 xc), Reg.eqv (.slice (some ⟨w.heap.size, 0, none⟩) 512 512), Reg.eqv (.int .i64 xc), Reg.eqv (.bool false), Reg.eqv (.bool false), Reg.eqv (.bool false), Reg.eqv (.agg (rowV l)), Reg.eqv (.int .i64 xd), Reg.eqv (.slice (some ⟨w.heap.size, 0, none⟩) 512 512), Reg.eqv (.int .i64 xd), Reg.eqv (.bool false), Reg.eqv (.bool false)] 79 [[(5, none)], [(11, some 0)], [(2, none)], [(13, some 2)], [(12, some 1), (14, some 3)], [(15, some 4)], [(5, none), (16, some 5)], [(17, some 6), (16, some 5)], [(2, none), (16, some 5)], [(19, some 8), (16, some 5)], [(18, some 7), (20, some 9), (16, some 5)], [(16, some 5), (21, some 10)], [(22, some 11)], [(5, none), (23, some 12)], [(24, some 13), (23, some 12)], [(2, none), (23, some 12)], [(26, some 15), (23, some 12)], [(25, some 14), (27, some 16), (23, some 12)], [(23, some 12), (28, some 17)], [(29, some 18)], [(5, none), (30, some 19)], [(31, some 20), (30, some 19)], [(2, none), (30, some 19)], [(33, some 22), (30, some 19)], [(32, some 21), (34, some 23), (30, some 19)], [(30, some 19), (35, some 24)]] rfl (by kernel_rfl) (by kernel_rfl) (by kernel_rfl) ?_ [some 11, some 12, some 13, some 14, some 15, some 16, some 17, some 18, some 19, some 20, some 21, some 22, some 23, some 24, some 25, some 26, some 27, some 28, some 29, some 30, some 31, some 32, some 33, some 34, some 35, some 36] (by kernel_rfl) ?_
  · refine ⟨?_, ?_, ?_, ?_, ?_, ?_, ?_, ?_, ?_, ?_, ?_, ?_, ?_, ?_, ?_, ?_, ?_, ?_, ?_, ?_, ?_, ?_, ?_, ?_, ?_, ?_, trivial⟩
    · intro ax wx hx hs
      obtain ⟨e5, -⟩ := hs
      have g5 := Reg.ev (v := .pointer (some ⟨w.heap.size + 1, 0, none⟩)) e5
      refine Reg.obl_free rfl ?_
      have hx' : Below W1.heap.size W1 wx := hx
      have hld := run_ld (P := Try.prog) arrPage (HS1_1.out.next hx') HL.out
      exact Reg.wp_eqv (Option.some_ne_none _) (by go_simp) rfl
    · intro ax wx hx hs
      obtain ⟨e11, -⟩ := hs
      have g11 := Reg.ev (v := .agg (rowV l)) e11
      refine Reg.obl_free rfl ?_
      go_simp
      refine (PageW.no_any l HL.out _).mono ?_
      rintro e wy ⟨rfl, hby⟩
      rw [Hxa.out]
      exact Reg.done (Option.some_ne_none _) rfl hby
    · intro ax wx hx hs
      obtain ⟨e2, -⟩ := hs
      have g2 := Reg.ev (v := .pointer (some ⟨w.heap.size, 0, none⟩)) e2
      exact Reg.obl_free rfl (Reg.wp_eqv (Option.some_ne_none _) (by go_simp) rfl)
    · intro ax wx hx hs
      obtain ⟨e13, -⟩ := hs
      have g13 := Reg.ev (v := .slice (some ⟨w.heap.size, 0, none⟩) 512 512) e13
      refine Reg.obl_free rfl ?_
      have hx' : Below W1.heap.size W1 wx := hx
      have hpt := (HS0_1.out.next hx').part 0 512 512 (by rw [HL.out]; omega) (by omega) (by unfold maxLen; omega)
      rw [List.drop_zero, List.take_of_length_le (by rw [HL.out]; omega)] at hpt
      go_simp
      refine (RefPage.no_any _ _ _ _ l _ hpt).mono ?_
      rintro e wy ⟨rfl, rfl⟩
      rw [Hxa.out]
      exact Reg.done (Option.some_ne_none _) rfl (bsame _)
    · intro ax wx hx hs
      obtain ⟨e12, e14, -⟩ := hs
      have g12 := Reg.ev (v := .int .i64 xa) e12
      have g14 := Reg.ev (v := .int .i64 xa) e14
      exact Reg.obl_free rfl (Reg.wp_eqv (Option.some_ne_none _) (by go_simp) rfl)
    · intro ax wx hx hs
      obtain ⟨e15, -⟩ := hs
      have g15 := Reg.ev (v := .bool false) e15
      exact Reg.obl_free rfl (Reg.wp_eqv (Option.some_ne_none _) (by go_simp) rfl)
    · intro ax wx hx hs
      obtain ⟨e5, e16, -⟩ := hs
      have g5 := Reg.ev (v := .pointer (some ⟨w.heap.size + 1, 0, none⟩)) e5
      have g16 := Reg.ev (v := .bool false) e16
      refine Reg.obl_want rfl rfl e16 ?_
      have hx' : Below W1.heap.size W1 wx := hx
      have hld := run_ld (P := Try.prog) arrPage (HS1_1.out.next hx') HL.out
      exact Reg.wp_eqv (Option.some_ne_none _) (by go_simp) rfl
    · intro ax wx hx hs
      obtain ⟨e17, e16, -⟩ := hs
      have g17 := Reg.ev (v := .agg (rowV l)) e17
      have g16 := Reg.ev (v := .bool false) e16
      refine Reg.obl_want rfl rfl e16 ?_
      go_simp
      refine (PageW.lsn_any l HL.out _).mono ?_
      rintro e wy ⟨rfl, hby⟩
      rw [Hxb.out]
      exact Reg.done (Option.some_ne_none _) rfl hby
    · intro ax wx hx hs
      obtain ⟨e2, e16, -⟩ := hs
      have g2 := Reg.ev (v := .pointer (some ⟨w.heap.size, 0, none⟩)) e2
      have g16 := Reg.ev (v := .bool false) e16
      exact Reg.obl_want rfl rfl e16 (Reg.wp_eqv (Option.some_ne_none _) (by go_simp) rfl)
    · intro ax wx hx hs
      obtain ⟨e19, e16, -⟩ := hs
      have g19 := Reg.ev (v := .slice (some ⟨w.heap.size, 0, none⟩) 512 512) e19
      have g16 := Reg.ev (v := .bool false) e16
      refine Reg.obl_want rfl rfl e16 ?_
      have hx' : Below W1.heap.size W1 wx := hx
      have hpt := (HS0_1.out.next hx').part 0 512 512 (by rw [HL.out]; omega) (by omega) (by unfold maxLen; omega)
      rw [List.drop_zero, List.take_of_length_le (by rw [HL.out]; omega)] at hpt
      go_simp
      refine (RefPage.lsn_any _ _ _ _ l _ hpt).mono ?_
      rintro e wy ⟨rfl, rfl⟩
      rw [Hxb.out]
      exact Reg.done (Option.some_ne_none _) rfl (bsame _)
    · intro ax wx hx hs
      obtain ⟨e18, e20, e16, -⟩ := hs
      have g18 := Reg.ev (v := .int .i64 xb) e18
      have g20 := Reg.ev (v := .int .i64 xb) e20
      have g16 := Reg.ev (v := .bool false) e16
      exact Reg.obl_want rfl rfl e16 (Reg.wp_eqv (Option.some_ne_none _) (by go_simp) rfl)
    · intro ax wx hx hs
      obtain ⟨e16, e21, -⟩ := hs
      have g16 := Reg.ev (v := .bool false) e16
      have g21 := Reg.ev (v := .bool false) e21
      exact Reg.obl_free rfl (Reg.wp_eqv (Option.some_ne_none _) (by go_simp) rfl)
    · intro ax wx hx hs
      obtain ⟨e22, -⟩ := hs
      have g22 := Reg.ev (v := .bool false) e22
      exact Reg.obl_free rfl (Reg.wp_eqv (Option.some_ne_none _) (by go_simp) rfl)
    · intro ax wx hx hs
      obtain ⟨e5, e23, -⟩ := hs
      have g5 := Reg.ev (v := .pointer (some ⟨w.heap.size + 1, 0, none⟩)) e5
      have g23 := Reg.ev (v := .bool false) e23
      refine Reg.obl_want rfl rfl e23 ?_
      have hx' : Below W1.heap.size W1 wx := hx
      have hld := run_ld (P := Try.prog) arrPage (HS1_1.out.next hx') HL.out
      exact Reg.wp_eqv (Option.some_ne_none _) (by go_simp) rfl
    · intro ax wx hx hs
      obtain ⟨e24, e23, -⟩ := hs
      have g24 := Reg.ev (v := .agg (rowV l)) e24
      have g23 := Reg.ev (v := .bool false) e23
      refine Reg.obl_want rfl rfl e23 ?_
      go_simp
      refine (PageW.next_any l HL.out _).mono ?_
      rintro e wy ⟨rfl, hby⟩
      rw [Hxc.out]
      exact Reg.done (Option.some_ne_none _) rfl hby
    · intro ax wx hx hs
      obtain ⟨e2, e23, -⟩ := hs
      have g2 := Reg.ev (v := .pointer (some ⟨w.heap.size, 0, none⟩)) e2
      have g23 := Reg.ev (v := .bool false) e23
      exact Reg.obl_want rfl rfl e23 (Reg.wp_eqv (Option.some_ne_none _) (by go_simp) rfl)
    · intro ax wx hx hs
      obtain ⟨e26, e23, -⟩ := hs
      have g26 := Reg.ev (v := .slice (some ⟨w.heap.size, 0, none⟩) 512 512) e26
      have g23 := Reg.ev (v := .bool false) e23
      refine Reg.obl_want rfl rfl e23 ?_
      have hx' : Below W1.heap.size W1 wx := hx
      have hpt := (HS0_1.out.next hx').part 0 512 512 (by rw [HL.out]; omega) (by omega) (by unfold maxLen; omega)
      rw [List.drop_zero, List.take_of_length_le (by rw [HL.out]; omega)] at hpt
      go_simp
      refine (RefPage.next_any _ _ _ _ l _ hpt).mono ?_
      rintro e wy ⟨rfl, rfl⟩
      rw [Hxc.out]
      exact Reg.done (Option.some_ne_none _) rfl (bsame _)
    · intro ax wx hx hs
      obtain ⟨e25, e27, e23, -⟩ := hs
      have g25 := Reg.ev (v := .int .i64 xc) e25
      have g27 := Reg.ev (v := .int .i64 xc) e27
      have g23 := Reg.ev (v := .bool false) e23
      exact Reg.obl_want rfl rfl e23 (Reg.wp_eqv (Option.some_ne_none _) (by go_simp) rfl)
    · intro ax wx hx hs
      obtain ⟨e23, e28, -⟩ := hs
      have g23 := Reg.ev (v := .bool false) e23
      have g28 := Reg.ev (v := .bool false) e28
      exact Reg.obl_free rfl (Reg.wp_eqv (Option.some_ne_none _) (by go_simp) rfl)
    · intro ax wx hx hs
      obtain ⟨e29, -⟩ := hs
      have g29 := Reg.ev (v := .bool false) e29
      exact Reg.obl_free rfl (Reg.wp_eqv (Option.some_ne_none _) (by go_simp) rfl)
    · intro ax wx hx hs
      obtain ⟨e5, e30, -⟩ := hs
      have g5 := Reg.ev (v := .pointer (some ⟨w.heap.size + 1, 0, none⟩)) e5
      have g30 := Reg.ev (v := .bool false) e30
      refine Reg.obl_want rfl rfl e30 ?_
      have hx' : Below W1.heap.size W1 wx := hx
      have hld := run_ld (P := Try.prog) arrPage (HS1_1.out.next hx') HL.out
      exact Reg.wp_eqv (Option.some_ne_none _) (by go_simp) rfl
    · intro ax wx hx hs
      obtain ⟨e31, e30, -⟩ := hs
      have g31 := Reg.ev (v := .agg (rowV l)) e31
      have g30 := Reg.ev (v := .bool false) e30
      refine Reg.obl_want rfl rfl e30 ?_
      go_simp
      refine (PageW.note_any l HL.out _).mono ?_
      rintro e wy ⟨rfl, hby⟩
      rw [Hxd.out]
      exact Reg.done (Option.some_ne_none _) rfl hby
    · intro ax wx hx hs
      obtain ⟨e2, e30, -⟩ := hs
      have g2 := Reg.ev (v := .pointer (some ⟨w.heap.size, 0, none⟩)) e2
      have g30 := Reg.ev (v := .bool false) e30
      exact Reg.obl_want rfl rfl e30 (Reg.wp_eqv (Option.some_ne_none _) (by go_simp) rfl)
    · intro ax wx hx hs
      obtain ⟨e33, e30, -⟩ := hs
      have g33 := Reg.ev (v := .slice (some ⟨w.heap.size, 0, none⟩) 512 512) e33
      have g30 := Reg.ev (v := .bool false) e30
      refine Reg.obl_want rfl rfl e30 ?_
      have hx' : Below W1.heap.size W1 wx := hx
      have hpt := (HS0_1.out.next hx').part 0 512 512 (by rw [HL.out]; omega) (by omega) (by unfold maxLen; omega)
      rw [List.drop_zero, List.take_of_length_le (by rw [HL.out]; omega)] at hpt
      go_simp
      refine (RefPage.note_any _ _ _ _ l _ hpt).mono ?_
      rintro e wy ⟨rfl, rfl⟩
      rw [Hxd.out]
      exact Reg.done (Option.some_ne_none _) rfl (bsame _)
    · intro ax wx hx hs
      obtain ⟨e32, e34, e30, -⟩ := hs
      have g32 := Reg.ev (v := .int .i64 xd) e32
      have g34 := Reg.ev (v := .int .i64 xd) e34
      have g30 := Reg.ev (v := .bool false) e30
      exact Reg.obl_want rfl rfl e30 (Reg.wp_eqv (Option.some_ne_none _) (by go_simp) rfl)
    · intro ax wx hx hs
      obtain ⟨e30, e35, -⟩ := hs
      have g30 := Reg.ev (v := .bool false) e30
      have g35 := Reg.ev (v := .bool false) e35
      exact Reg.obl_free rfl (Reg.wp_eqv (Option.some_ne_none _) (by go_simp) rfl)
  · intro W2 hwf
    simp only [Reg.Fin]
    rintro _ rfl _ rfl _ rfl _ rfl _ rfl _ rfl _ rfl _ rfl _ rfl _ rfl _ rfl _ rfl _ rfl _ rfl _ rfl _ rfl _ rfl _ rfl _ rfl _ rfl _ rfl _ rfl _ rfl _ rfl _ rfl _ rfl
    go_simp
    have HS0_2 := Lib.hid (HS0_1.out.next hwf)
    have HS1_2 := Lib.hid (HS1_1.out.next hwf)
    have HB_2 := Lib.hid (bstep HB_1.out hwf)
    have hw_2 := HB_2.out.size
    have hws_2 := (hwf).size
    clear HS0_1 HS1_1
    clear hwf
    have hl0_2 := HS0_2.out.lt
    have hl1_2 := HS1_2.out.lt
    go_wp2_with fail
    refine Reg.wp_region_word (R := (Reg.extN W2.heap.size)) (W := W2) (Reg.Bx W2.heap.size (rowV (SlotP.zeros 512)) (fun t => if t = 6 then (rowV (x1 l m)) else if t = 7 then (rowV (x2 l m)) else if t = 8 then (rowV (x3 l m)) else if t = 9 then (rowV (x4 m)) else #[]) [(11, 6, 15), (12, 7, 16), (13, 8, 17), (14, 9, 18)]) [Reg.eqv (.agg (rowV l)), Reg.eqv (.int .i64 m), Reg.eqv (.agg (rowV (x1 l m))), Reg.eqv (.agg (rowV l)), Reg.eqv (.int .i64 m), Reg.eqv (.agg (rowV (x2 l m))), Reg.eqv (.agg (rowV l)), Reg.eqv (.int .i64 m), Reg.eqv (.agg (rowV (x3 l m))), Reg.eqv (.int .i64 m), Reg.eqv (.agg (rowV (x4 m))), Reg.any, Reg.any, Reg.any, Reg.any, Reg.any, Reg.any, Reg.any, Reg.any] 79 [[(5, none)], [(1, none)], [(37, some 0), (38, some 1)], [(5, none)], [(1, none)], [(40, some 3), (41, some 4)], [(5, none)], [(1, none)], [(43, some 6), (44, some 7)], [(1, none)], [(46, some 9)], [], [], [], [], [(6, some 11), (39, some 2)], [(7, some 12), (42, some 5)], [(8, some 13), (45, some 8)], [(9, some 14), (47, some 10)]] rfl (by kernel_rfl) (by kernel_rfl) (fun _ _ h => Reg.bx_zero h) (by kernel_rfl) ?_ [some 37, some 38, some 39, some 40, some 41, some 42, some 43, some 44, some 45, some 46, some 47, some 6, some 7, some 8, some 9, none, none, none, none] (by kernel_rfl) ?_
    · refine ⟨?_, ?_, ?_, ?_, ?_, ?_, ?_, ?_, ?_, ?_, ?_, ?_, ?_, ?_, ?_, ?_, ?_, ?_, ?_, trivial⟩
      · refine Reg.oblJ_ord rfl rfl (by decide) ?_
        intro ax wx hx hs
        obtain ⟨e5, -⟩ := hs
        have g5 := Reg.ev (v := .pointer (some ⟨w.heap.size + 1, 0, none⟩)) e5
        have hx' : Below W2.heap.size W2 wx := hx
        have hld := run_ld (P := Try.prog) arrPage (HS1_2.out.next hx') HL.out
        exact Reg.wp_eqvB (Option.some_ne_none _) (by go_simp) rfl
      · refine Reg.oblJ_ord rfl rfl (by decide) ?_
        intro ax wx hx hs
        obtain ⟨e1, -⟩ := hs
        have g1 := Reg.ev (v := .int .i64 m) e1
        exact (Reg.wp_eqvB (Option.some_ne_none _) (by go_simp) rfl)
      · refine Reg.oblJ_ord rfl rfl (by decide) ?_
        intro ax wx hx hs
        obtain ⟨e37, e38, -⟩ := hs
        have g37 := Reg.ev (v := .agg (rowV l)) e37
        have g38 := Reg.ev (v := .int .i64 m) e38
        go_simp
        refine (PageW.withLSN_any l HL.out m _).mono ?_
        rintro e wy ⟨rfl, hby⟩
        exact Reg.doneB (Option.some_ne_none _) rfl hby
      · refine Reg.oblJ_ord rfl rfl (by decide) ?_
        intro ax wx hx hs
        obtain ⟨e5, -⟩ := hs
        have g5 := Reg.ev (v := .pointer (some ⟨w.heap.size + 1, 0, none⟩)) e5
        have hx' : Below W2.heap.size W2 wx := hx
        have hld := run_ld (P := Try.prog) arrPage (HS1_2.out.next hx') HL.out
        exact Reg.wp_eqvB (Option.some_ne_none _) (by go_simp) rfl
      · refine Reg.oblJ_ord rfl rfl (by decide) ?_
        intro ax wx hx hs
        obtain ⟨e1, -⟩ := hs
        have g1 := Reg.ev (v := .int .i64 m) e1
        exact (Reg.wp_eqvB (Option.some_ne_none _) (by go_simp) rfl)
      · refine Reg.oblJ_ord rfl rfl (by decide) ?_
        intro ax wx hx hs
        obtain ⟨e40, e41, -⟩ := hs
        have g40 := Reg.ev (v := .agg (rowV l)) e40
        have g41 := Reg.ev (v := .int .i64 m) e41
        go_simp
        refine (PageW.withNext_any l HL.out m _).mono ?_
        rintro e wy ⟨rfl, hby⟩
        exact Reg.doneB (Option.some_ne_none _) rfl hby
      · refine Reg.oblJ_ord rfl rfl (by decide) ?_
        intro ax wx hx hs
        obtain ⟨e5, -⟩ := hs
        have g5 := Reg.ev (v := .pointer (some ⟨w.heap.size + 1, 0, none⟩)) e5
        have hx' : Below W2.heap.size W2 wx := hx
        have hld := run_ld (P := Try.prog) arrPage (HS1_2.out.next hx') HL.out
        exact Reg.wp_eqvB (Option.some_ne_none _) (by go_simp) rfl
      · refine Reg.oblJ_ord rfl rfl (by decide) ?_
        intro ax wx hx hs
        obtain ⟨e1, -⟩ := hs
        have g1 := Reg.ev (v := .int .i64 m) e1
        exact (Reg.wp_eqvB (Option.some_ne_none _) (by go_simp) rfl)
      · refine Reg.oblJ_ord rfl rfl (by decide) ?_
        intro ax wx hx hs
        obtain ⟨e43, e44, -⟩ := hs
        have g43 := Reg.ev (v := .agg (rowV l)) e43
        have g44 := Reg.ev (v := .int .i64 m) e44
        go_simp
        refine (PageW.withNote_any l HL.out m _).mono ?_
        rintro e wy ⟨rfl, hby⟩
        exact Reg.doneB (Option.some_ne_none _) rfl hby
      · refine Reg.oblJ_ord rfl rfl (by decide) ?_
        intro ax wx hx hs
        obtain ⟨e1, -⟩ := hs
        have g1 := Reg.ev (v := .int .i64 m) e1
        exact (Reg.wp_eqvB (Option.some_ne_none _) (by go_simp) rfl)
      · refine Reg.oblJ_ord rfl rfl (by decide) ?_
        intro ax wx hx hs
        obtain ⟨e46, -⟩ := hs
        have g46 := Reg.ev (v := .int .i64 m) e46
        go_simp
        refine (PageW.new_any m _).mono ?_
        rintro e wy ⟨rfl, hby⟩
        exact Reg.doneB (Option.some_ne_none _) rfl hby
      · refine Reg.oblJ_alloc rfl rfl (by unfold Reg.okK; decide) (t := 6) (js := 15) (by decide) rfl (by show 6 < 79; decide) (by show 11 < 19; decide) (fun _ _ => trivial) ?_
        intro ax wx hx
        have hx' : Below W2.heap.size W2 wx := hx
        go_simp
        first | exact ⟨_, rfl, rfl⟩ | exact ⟨_, rfl⟩ | rfl
      · refine Reg.oblJ_alloc rfl rfl (by unfold Reg.okK; decide) (t := 7) (js := 16) (by decide) rfl (by show 7 < 79; decide) (by show 12 < 19; decide) (fun _ _ => trivial) ?_
        intro ax wx hx
        have hx' : Below W2.heap.size W2 wx := hx
        go_simp
        first | exact ⟨_, rfl, rfl⟩ | exact ⟨_, rfl⟩ | rfl
      · refine Reg.oblJ_alloc rfl rfl (by unfold Reg.okK; decide) (t := 8) (js := 17) (by decide) rfl (by show 8 < 79; decide) (by show 13 < 19; decide) (fun _ _ => trivial) ?_
        intro ax wx hx
        have hx' : Below W2.heap.size W2 wx := hx
        go_simp
        first | exact ⟨_, rfl, rfl⟩ | exact ⟨_, rfl⟩ | rfl
      · refine Reg.oblJ_alloc rfl rfl (by unfold Reg.okK; decide) (t := 9) (js := 18) (by decide) rfl (by show 9 < 79; decide) (by show 14 < 19; decide) (fun _ _ => trivial) ?_
        intro ax wx hx
        have hx' : Below W2.heap.size W2 wx := hx
        go_simp
        first | exact ⟨_, rfl, rfl⟩ | exact ⟨_, rfl⟩ | rfl
      · refine Reg.oblJ_store rfl rfl (by unfold Reg.okK; decide) (t := 6) (ja := 11) (by decide) rfl (by show 15 < 19; decide) (by kernel_rfl) (fun _ _ => trivial) ?_
        intro ax wx g hx hs he hS
        have gB := Reg.ev he
        obtain ⟨e6, e39, -⟩ := hs
        have g39 := Reg.ev (v := .agg (rowV (x1 l m))) e39
        have hst := run_st (P := Try.prog) arrPage hS (by rw [rowV_size]; exact SlotPut.zeros_len 512) HX1.out
        go_simp
      · refine Reg.oblJ_store rfl rfl (by unfold Reg.okK; decide) (t := 7) (ja := 12) (by decide) rfl (by show 16 < 19; decide) (by kernel_rfl) (fun _ _ => trivial) ?_
        intro ax wx g hx hs he hS
        have gB := Reg.ev he
        obtain ⟨e7, e42, -⟩ := hs
        have g42 := Reg.ev (v := .agg (rowV (x2 l m))) e42
        have hst := run_st (P := Try.prog) arrPage hS (by rw [rowV_size]; exact SlotPut.zeros_len 512) HX2.out
        go_simp
      · refine Reg.oblJ_store rfl rfl (by unfold Reg.okK; decide) (t := 8) (ja := 13) (by decide) rfl (by show 17 < 19; decide) (by kernel_rfl) (fun _ _ => trivial) ?_
        intro ax wx g hx hs he hS
        have gB := Reg.ev he
        obtain ⟨e8, e45, -⟩ := hs
        have g45 := Reg.ev (v := .agg (rowV (x3 l m))) e45
        have hst := run_st (P := Try.prog) arrPage hS (by rw [rowV_size]; exact SlotPut.zeros_len 512) HX3.out
        go_simp
      · refine Reg.oblJ_store rfl rfl (by unfold Reg.okK; decide) (t := 9) (ja := 14) (by decide) rfl (by show 18 < 19; decide) (by kernel_rfl) (fun _ _ => trivial) ?_
        intro ax wx g hx hs he hS
        have gB := Reg.ev he
        obtain ⟨e9, e47, -⟩ := hs
        have g47 := Reg.ev (v := .agg (rowV (x4 m))) e47
        have hst := run_st (P := Try.prog) arrPage hS (by rw [rowV_size]; exact SlotPut.zeros_len 512) HX4.out
        go_simp
    · intro W3 listed hwf hall
      simp only [Reg.Fin]
      rintro _ rfl _ rfl _ rfl _ rfl _ rfl _ rfl _ rfl _ rfl _ rfl _ rfl _ rfl v6 h6 v7 h7 v8 h8 v9 h9 vn15 hn15 vn16 hn16 vn17 hn17 vn18 hn18
      intro hJ
      obtain ⟨b6, eb6, hb6, hS6⟩ := hJ.1 (11, 6, 15) (by decide) (hall 11 (by show 11 < 19; decide))
      obtain ⟨b7, eb7, hb7, hS7⟩ := hJ.1 (12, 7, 16) (by decide) (hall 12 (by show 12 < 19; decide))
      obtain ⟨b8, eb8, hb8, hS8⟩ := hJ.1 (13, 8, 17) (by decide) (hall 13 (by show 13 < 19; decide))
      obtain ⟨b9, eb9, hb9, hS9⟩ := hJ.1 (14, 9, 18) (by decide) (hall 14 (by show 14 < 19; decide))
      rw [if_pos (hall 15 (by show 15 < 19; decide))] at hS6
      rw [if_pos (hall 16 (by show 16 < 19; decide))] at hS7
      rw [if_pos (hall 17 (by show 17 < 19; decide))] at hS8
      rw [if_pos (hall 18 (by show 18 < 19; decide))] at hS9
      have ec6 : v6 = .pointer (some ⟨b6, 0, none⟩) := by simpa [Act.eval, Act.put] using eb6
      have ec7 : v7 = .pointer (some ⟨b7, 0, none⟩) := by simpa [Act.eval, Act.put] using eb7
      have ec8 : v8 = .pointer (some ⟨b8, 0, none⟩) := by simpa [Act.eval, Act.put] using eb8
      have ec9 : v9 = .pointer (some ⟨b9, 0, none⟩) := by simpa [Act.eval, Act.put] using eb9
      clear hJ hall eb6 eb7 eb8 eb9
      subst ec6
      subst ec7
      subst ec8
      subst ec9
      have hS6 : Str W3 b6 (rowV (x1 l m)) := hS6
      have hS7 : Str W3 b7 (rowV (x2 l m)) := hS7
      have hS8 : Str W3 b8 (rowV (x3 l m)) := hS8
      have hS9 : Str W3 b9 (rowV (x4 m)) := hS9
      go_simp
      have hwf' : Below W2.heap.size W2 W3 := hwf
      clear hwf hal hsl
      have HT6 := Lib.hid hS6
      clear hS6
      have HT7 := Lib.hid hS7
      clear hS7
      have HT8 := Lib.hid hS8
      clear hS8
      have HT9 := Lib.hid hS9
      clear hS9
      have HS0_3 := Lib.hid (HS0_2.out.next hwf')
      have HS1_3 := Lib.hid (HS1_2.out.next hwf')
      have HB_3 := Lib.hid (bstep HB_2.out hwf')
      have hw_3 := HB_3.out.size
      have hws_3 := (hwf').size
      clear HS0_2 HS1_2
      clear hwf'
      have hl0_3 := HS0_3.out.lt
      have hl1_3 := HS1_3.out.lt
      go_wp2_with fail
      have hsl := fun W => run_sl_all (P := Try.prog) arr512 w.heap.size W
      have hsl6 := fun W => run_sl_all (P := Try.prog) arrPage b6 W
      have hsl7 := fun W => run_sl_all (P := Try.prog) arrPage b7 W
      have hsl8 := fun W => run_sl_all (P := Try.prog) arrPage b8 W
      have hsl9 := fun W => run_sl_all (P := Try.prog) arrPage b9 W
      refine Reg.wp_region_vals (R := ext) (W := W3) [Reg.eqv (.slice (some ⟨b6, 0, none⟩) 512 512), Reg.eqv (.slice (some ⟨w.heap.size, 0, none⟩) 512 512), Reg.eqv (.int .i64 m), Reg.bytes (BeP.parts 8 m), Reg.bytes (x1 l m), Reg.eqv (.bool true), Reg.eqv (.bool true), Reg.eqv (.slice (some ⟨b7, 0, none⟩) 512 512), Reg.eqv (.slice (some ⟨w.heap.size, 0, none⟩) 512 512), Reg.eqv (.int .i64 m), Reg.bytes (BeP.parts 2 m), Reg.bytes (x2 l m), Reg.eqv (.bool true), Reg.eqv (.bool true), Reg.eqv (.bool true), Reg.eqv (.slice (some ⟨b8, 0, none⟩) 512 512), Reg.eqv (.slice (some ⟨w.heap.size, 0, none⟩) 512 512), Reg.eqv (.int .i64 m), Reg.bytes (BeP.parts 8 m), Reg.bytes (x3 l m), Reg.eqv (.bool true), Reg.eqv (.bool true), Reg.eqv (.bool true), Reg.eqv (.slice (some ⟨b9, 0, none⟩) 512 512), Reg.eqv (.int .i64 m), Reg.bytes (x4 m), Reg.eqv (.bool true), Reg.eqv (.bool true), Reg.eqv (.bool true), Reg.eqv (.bool true), Reg.eqv (.bool true), Reg.eqv (.bool true)] 79 [[(6, none)], [(2, none)], [(1, none)], [(50, some 2)], [(49, some 1), (51, some 3)], [(48, some 0), (52, some 4)], [(53, some 5)], [(7, none), (54, some 6)], [(2, none), (54, some 6)], [(1, none), (54, some 6)], [(57, some 9), (54, some 6)], [(56, some 8), (58, some 10), (54, some 6)], [(55, some 7), (59, some 11), (54, some 6)], [(54, some 6), (60, some 12)], [(61, some 13)], [(8, none), (62, some 14)], [(2, none), (62, some 14)], [(1, none), (62, some 14)], [(65, some 17), (62, some 14)], [(64, some 16), (66, some 18), (62, some 14)], [(63, some 15), (67, some 19), (62, some 14)], [(62, some 14), (68, some 20)], [(69, some 21)], [(9, none), (70, some 22)], [(1, none), (70, some 22)], [(72, some 24), (70, some 22)], [(71, some 23), (73, some 25), (70, some 22)], [(70, some 22), (74, some 26)], [(75, some 27)], [(76, some 28)], [(76, some 28), (77, some 29)], [(78, some 30)]] rfl (by kernel_rfl) (by kernel_rfl) (by kernel_rfl) ?_ [some 48, some 49, some 50, some 51, some 52, some 53, some 54, some 55, some 56, some 57, some 58, some 59, some 60, some 61, some 62, some 63, some 64, some 65, some 66, some 67, some 68, some 69, some 70, some 71, some 72, some 73, some 74, some 75, some 76, some 77, some 78, some 4] (by kernel_rfl) ?_
      · refine ⟨?_, ?_, ?_, ?_, ?_, ?_, ?_, ?_, ?_, ?_, ?_, ?_, ?_, ?_, ?_, ?_, ?_, ?_, ?_, ?_, ?_, ?_, ?_, ?_, ?_, ?_, ?_, ?_, ?_, ?_, ?_, ?_, trivial⟩
        · intro ax wx hx hs
          obtain ⟨e6, -⟩ := hs
          have g6 := Reg.ev (v := .pointer (some ⟨b6, 0, none⟩)) e6
          exact Reg.obl_free rfl (Reg.wp_eqv (Option.some_ne_none _) (by go_simp) rfl)
        · intro ax wx hx hs
          obtain ⟨e2, -⟩ := hs
          have g2 := Reg.ev (v := .pointer (some ⟨w.heap.size, 0, none⟩)) e2
          exact Reg.obl_free rfl (Reg.wp_eqv (Option.some_ne_none _) (by go_simp) rfl)
        · intro ax wx hx hs
          obtain ⟨e1, -⟩ := hs
          have g1 := Reg.ev (v := .int .i64 m) e1
          exact Reg.obl_free rfl (Reg.wp_eqv (Option.some_ne_none _) (by go_simp) rfl)
        · intro ax wx hx hs
          obtain ⟨e50, -⟩ := hs
          have g50 := Reg.ev (v := .int .i64 m) e50
          refine Reg.obl_free rfl ?_
          go_simp
          refine (RefBytes.bytes_any 8 m _ (by omega)).mono ?_
          rintro e wy ⟨A8, n8, c8, rfl, hy8, hby⟩
          exact Reg.done (Option.some_ne_none _) ⟨A8, n8, c8, rfl, hy8⟩ hby
        · intro ax wx hx hs
          obtain ⟨e49, e51, -⟩ := hs
          have g49 := Reg.ev (v := .slice (some ⟨w.heap.size, 0, none⟩) 512 512) e49
          refine Reg.obl_free rfl ?_
          have hx' : Below W3.heap.size W3 wx := hx
          have hpt := (HS0_3.out.next hx').part 0 512 512 (by rw [HL.out]; omega) (by omega) (by unfold maxLen; omega)
          rw [List.drop_zero, List.take_of_length_le (by rw [HL.out]; omega)] at hpt
          obtain ⟨A7, n7, c7, e51, hy7⟩ := e51
          have g51 := Reg.ev e51
          have hn7 : n7 = 8 := by rw [← hy7.len, BeP.parts_length]
          subst hn7
          go_simp
          refine (RefPage.put_any _ _ _ _ l 4 _ _ _ _ _ _ hpt (Nat.le_refl _) hy7 (Nat.le_refl _) (by omega) (by omega)).mono ?_
          rintro e wy ⟨A8, n8, c8, rfl, hy8, hby⟩
          exact Reg.done (Option.some_ne_none _) ⟨A8, n8, c8, rfl, hy8⟩ hby
        · intro ax wx hx hs
          obtain ⟨e48, e52, -⟩ := hs
          have g48 := Reg.ev (v := .slice (some ⟨b6, 0, none⟩) 512 512) e48
          refine Reg.obl_free rfl ?_
          have hx' : Below W3.heap.size W3 wx := hx
          have hq := (HT6.out.next hx').part 0 512 512 (by rw [HX1.out]; omega) (by omega) (by unfold maxLen; omega)
          rw [List.drop_zero, List.take_of_length_le (by rw [HX1.out]; omega)] at hq
          obtain ⟨A8, n8, c8, e52, hy8⟩ := e52
          have g52 := Reg.ev e52
          go_simp
          refine (Same.same_any _ _ _ _ _ _ _ _ _ _ _ hq hy8).mono ?_
          rintro e wy ⟨rfl, rfl⟩
          rw [beq_self_eq_true]
          exact Reg.done (Option.some_ne_none _) rfl (bsame _)
        · intro ax wx hx hs
          obtain ⟨e53, -⟩ := hs
          have g53 := Reg.ev (v := .bool true) e53
          exact Reg.obl_free rfl (Reg.wp_eqv (Option.some_ne_none _) (by go_simp) rfl)
        · intro ax wx hx hs
          obtain ⟨e7, e54, -⟩ := hs
          have g7 := Reg.ev (v := .pointer (some ⟨b7, 0, none⟩)) e7
          have g54 := Reg.ev (v := .bool true) e54
          exact Reg.obl_want rfl rfl e54 (Reg.wp_eqv (Option.some_ne_none _) (by go_simp) rfl)
        · intro ax wx hx hs
          obtain ⟨e2, e54, -⟩ := hs
          have g2 := Reg.ev (v := .pointer (some ⟨w.heap.size, 0, none⟩)) e2
          have g54 := Reg.ev (v := .bool true) e54
          exact Reg.obl_want rfl rfl e54 (Reg.wp_eqv (Option.some_ne_none _) (by go_simp) rfl)
        · intro ax wx hx hs
          obtain ⟨e1, e54, -⟩ := hs
          have g1 := Reg.ev (v := .int .i64 m) e1
          have g54 := Reg.ev (v := .bool true) e54
          exact Reg.obl_want rfl rfl e54 (Reg.wp_eqv (Option.some_ne_none _) (by go_simp) rfl)
        · intro ax wx hx hs
          obtain ⟨e57, e54, -⟩ := hs
          have g57 := Reg.ev (v := .int .i64 m) e57
          have g54 := Reg.ev (v := .bool true) e54
          refine Reg.obl_want rfl rfl e54 ?_
          go_simp
          refine (RefBytes.bytes_any 2 m _ (by omega)).mono ?_
          rintro e wy ⟨A8, n8, c8, rfl, hy8, hby⟩
          exact Reg.done (Option.some_ne_none _) ⟨A8, n8, c8, rfl, hy8⟩ hby
        · intro ax wx hx hs
          obtain ⟨e56, e58, e54, -⟩ := hs
          have g56 := Reg.ev (v := .slice (some ⟨w.heap.size, 0, none⟩) 512 512) e56
          have g54 := Reg.ev (v := .bool true) e54
          refine Reg.obl_want rfl rfl e54 ?_
          have hx' : Below W3.heap.size W3 wx := hx
          have hpt := (HS0_3.out.next hx').part 0 512 512 (by rw [HL.out]; omega) (by omega) (by unfold maxLen; omega)
          rw [List.drop_zero, List.take_of_length_le (by rw [HL.out]; omega)] at hpt
          obtain ⟨A7, n7, c7, e58, hy7⟩ := e58
          have g58 := Reg.ev e58
          have hn7 : n7 = 2 := by rw [← hy7.len, BeP.parts_length]
          subst hn7
          go_simp
          refine (RefPage.put_any _ _ _ _ l 14 _ _ _ _ _ _ hpt (Nat.le_refl _) hy7 (Nat.le_refl _) (by omega) (by omega)).mono ?_
          rintro e wy ⟨A8, n8, c8, rfl, hy8, hby⟩
          exact Reg.done (Option.some_ne_none _) ⟨A8, n8, c8, rfl, hy8⟩ hby
        · intro ax wx hx hs
          obtain ⟨e55, e59, e54, -⟩ := hs
          have g55 := Reg.ev (v := .slice (some ⟨b7, 0, none⟩) 512 512) e55
          have g54 := Reg.ev (v := .bool true) e54
          refine Reg.obl_want rfl rfl e54 ?_
          have hx' : Below W3.heap.size W3 wx := hx
          have hq := (HT7.out.next hx').part 0 512 512 (by rw [HX2.out]; omega) (by omega) (by unfold maxLen; omega)
          rw [List.drop_zero, List.take_of_length_le (by rw [HX2.out]; omega)] at hq
          obtain ⟨A8, n8, c8, e59, hy8⟩ := e59
          have g59 := Reg.ev e59
          go_simp
          refine (Same.same_any _ _ _ _ _ _ _ _ _ _ _ hq hy8).mono ?_
          rintro e wy ⟨rfl, rfl⟩
          rw [beq_self_eq_true]
          exact Reg.done (Option.some_ne_none _) rfl (bsame _)
        · intro ax wx hx hs
          obtain ⟨e54, e60, -⟩ := hs
          have g54 := Reg.ev (v := .bool true) e54
          have g60 := Reg.ev (v := .bool true) e60
          exact Reg.obl_free rfl (Reg.wp_eqv (Option.some_ne_none _) (by go_simp) rfl)
        · intro ax wx hx hs
          obtain ⟨e61, -⟩ := hs
          have g61 := Reg.ev (v := .bool true) e61
          exact Reg.obl_free rfl (Reg.wp_eqv (Option.some_ne_none _) (by go_simp) rfl)
        · intro ax wx hx hs
          obtain ⟨e8, e62, -⟩ := hs
          have g8 := Reg.ev (v := .pointer (some ⟨b8, 0, none⟩)) e8
          have g62 := Reg.ev (v := .bool true) e62
          exact Reg.obl_want rfl rfl e62 (Reg.wp_eqv (Option.some_ne_none _) (by go_simp) rfl)
        · intro ax wx hx hs
          obtain ⟨e2, e62, -⟩ := hs
          have g2 := Reg.ev (v := .pointer (some ⟨w.heap.size, 0, none⟩)) e2
          have g62 := Reg.ev (v := .bool true) e62
          exact Reg.obl_want rfl rfl e62 (Reg.wp_eqv (Option.some_ne_none _) (by go_simp) rfl)
        · intro ax wx hx hs
          obtain ⟨e1, e62, -⟩ := hs
          have g1 := Reg.ev (v := .int .i64 m) e1
          have g62 := Reg.ev (v := .bool true) e62
          exact Reg.obl_want rfl rfl e62 (Reg.wp_eqv (Option.some_ne_none _) (by go_simp) rfl)
        · intro ax wx hx hs
          obtain ⟨e65, e62, -⟩ := hs
          have g65 := Reg.ev (v := .int .i64 m) e65
          have g62 := Reg.ev (v := .bool true) e62
          refine Reg.obl_want rfl rfl e62 ?_
          go_simp
          refine (RefBytes.bytes_any 8 m _ (by omega)).mono ?_
          rintro e wy ⟨A8, n8, c8, rfl, hy8, hby⟩
          exact Reg.done (Option.some_ne_none _) ⟨A8, n8, c8, rfl, hy8⟩ hby
        · intro ax wx hx hs
          obtain ⟨e64, e66, e62, -⟩ := hs
          have g64 := Reg.ev (v := .slice (some ⟨w.heap.size, 0, none⟩) 512 512) e64
          have g62 := Reg.ev (v := .bool true) e62
          refine Reg.obl_want rfl rfl e62 ?_
          have hx' : Below W3.heap.size W3 wx := hx
          have hpt := (HS0_3.out.next hx').part 0 512 512 (by rw [HL.out]; omega) (by omega) (by unfold maxLen; omega)
          rw [List.drop_zero, List.take_of_length_le (by rw [HL.out]; omega)] at hpt
          obtain ⟨A7, n7, c7, e66, hy7⟩ := e66
          have g66 := Reg.ev e66
          have hn7 : n7 = 8 := by rw [← hy7.len, BeP.parts_length]
          subst hn7
          go_simp
          refine (RefPage.put_any _ _ _ _ l 16 _ _ _ _ _ _ hpt (Nat.le_refl _) hy7 (Nat.le_refl _) (by omega) (by omega)).mono ?_
          rintro e wy ⟨A8, n8, c8, rfl, hy8, hby⟩
          exact Reg.done (Option.some_ne_none _) ⟨A8, n8, c8, rfl, hy8⟩ hby
        · intro ax wx hx hs
          obtain ⟨e63, e67, e62, -⟩ := hs
          have g63 := Reg.ev (v := .slice (some ⟨b8, 0, none⟩) 512 512) e63
          have g62 := Reg.ev (v := .bool true) e62
          refine Reg.obl_want rfl rfl e62 ?_
          have hx' : Below W3.heap.size W3 wx := hx
          have hq := (HT8.out.next hx').part 0 512 512 (by rw [HX3.out]; omega) (by omega) (by unfold maxLen; omega)
          rw [List.drop_zero, List.take_of_length_le (by rw [HX3.out]; omega)] at hq
          obtain ⟨A8, n8, c8, e67, hy8⟩ := e67
          have g67 := Reg.ev e67
          go_simp
          refine (Same.same_any _ _ _ _ _ _ _ _ _ _ _ hq hy8).mono ?_
          rintro e wy ⟨rfl, rfl⟩
          rw [beq_self_eq_true]
          exact Reg.done (Option.some_ne_none _) rfl (bsame _)
        · intro ax wx hx hs
          obtain ⟨e62, e68, -⟩ := hs
          have g62 := Reg.ev (v := .bool true) e62
          have g68 := Reg.ev (v := .bool true) e68
          exact Reg.obl_free rfl (Reg.wp_eqv (Option.some_ne_none _) (by go_simp) rfl)
        · intro ax wx hx hs
          obtain ⟨e69, -⟩ := hs
          have g69 := Reg.ev (v := .bool true) e69
          exact Reg.obl_free rfl (Reg.wp_eqv (Option.some_ne_none _) (by go_simp) rfl)
        · intro ax wx hx hs
          obtain ⟨e9, e70, -⟩ := hs
          have g9 := Reg.ev (v := .pointer (some ⟨b9, 0, none⟩)) e9
          have g70 := Reg.ev (v := .bool true) e70
          exact Reg.obl_want rfl rfl e70 (Reg.wp_eqv (Option.some_ne_none _) (by go_simp) rfl)
        · intro ax wx hx hs
          obtain ⟨e1, e70, -⟩ := hs
          have g1 := Reg.ev (v := .int .i64 m) e1
          have g70 := Reg.ev (v := .bool true) e70
          exact Reg.obl_want rfl rfl e70 (Reg.wp_eqv (Option.some_ne_none _) (by go_simp) rfl)
        · intro ax wx hx hs
          obtain ⟨e72, e70, -⟩ := hs
          have g72 := Reg.ev (v := .int .i64 m) e72
          have g70 := Reg.ev (v := .bool true) e70
          refine Reg.obl_want rfl rfl e70 ?_
          go_simp
          refine (RefPage.new_any m _).mono ?_
          rintro e wy ⟨A8, n8, c8, rfl, hy8, hby⟩
          exact Reg.done (Option.some_ne_none _) ⟨A8, n8, c8, rfl, hy8⟩ hby
        · intro ax wx hx hs
          obtain ⟨e71, e73, e70, -⟩ := hs
          have g71 := Reg.ev (v := .slice (some ⟨b9, 0, none⟩) 512 512) e71
          have g70 := Reg.ev (v := .bool true) e70
          refine Reg.obl_want rfl rfl e70 ?_
          have hx' : Below W3.heap.size W3 wx := hx
          have hq := (HT9.out.next hx').part 0 512 512 (by rw [HX4.out]; omega) (by omega) (by unfold maxLen; omega)
          rw [List.drop_zero, List.take_of_length_le (by rw [HX4.out]; omega)] at hq
          obtain ⟨A8, n8, c8, e73, hy8⟩ := e73
          have g73 := Reg.ev e73
          go_simp
          refine (Same.same_any _ _ _ _ _ _ _ _ _ _ _ hq hy8).mono ?_
          rintro e wy ⟨rfl, rfl⟩
          rw [beq_self_eq_true]
          exact Reg.done (Option.some_ne_none _) rfl (bsame _)
        · intro ax wx hx hs
          obtain ⟨e70, e74, -⟩ := hs
          have g70 := Reg.ev (v := .bool true) e70
          have g74 := Reg.ev (v := .bool true) e74
          exact Reg.obl_free rfl (Reg.wp_eqv (Option.some_ne_none _) (by go_simp) rfl)
        · intro ax wx hx hs
          obtain ⟨e75, -⟩ := hs
          have g75 := Reg.ev (v := .bool true) e75
          exact Reg.obl_free rfl (Reg.wp_eqv (Option.some_ne_none _) (by go_simp) rfl)
        · intro ax wx hx hs
          obtain ⟨e76, -⟩ := hs
          have g76 := Reg.ev (v := .bool true) e76
          refine Reg.obl_want rfl rfl e76 ?_
          go_simp
          refine (Live07.live_any _).mono ?_
          rintro e wy ⟨rfl, hby⟩
          exact Reg.done (Option.some_ne_none _) rfl hby
        · intro ax wx hx hs
          obtain ⟨e76, e77, -⟩ := hs
          have g76 := Reg.ev (v := .bool true) e76
          have g77 := Reg.ev (v := .bool true) e77
          exact Reg.obl_free rfl (Reg.wp_eqv (Option.some_ne_none _) (by go_simp) rfl)
        · intro ax wx hx hs
          obtain ⟨e78, -⟩ := hs
          have g78 := Reg.ev (v := .bool true) e78
          exact Reg.obl_free rfl (Reg.wp_eqv (Option.some_ne_none _) (by go_simp) rfl)
      · intro W4 hwf
        simp only [Reg.Fin]
        rintro _ rfl _ rfl _ rfl v51 h51 v52 h52 _ rfl _ rfl _ rfl _ rfl _ rfl v58 h58 v59 h59 _ rfl _ rfl _ rfl _ rfl _ rfl _ rfl v66 h66 v67 h67 _ rfl _ rfl _ rfl _ rfl _ rfl v73 h73 _ rfl _ rfl _ rfl _ rfl _ rfl _ rfl
        go_simp
        go_wp2_with fail
        go_ret
        exact ⟨rfl, bstep HB_3.out hwf⟩
end Go.Proofs.Ytjengjbkdflapaa.pageNums
