/-
  The walks of package page: numbers of a page, a page with others.
-/
import Derived.Test.YtjengjbkdflapaaSlotPut
import Derived.Test.YtjengjbkdflapaaNum
import Derived.Test.YtjengjbkdflapaaBox
namespace Go.Proofs.Ytjengjbkdflapaa.PageW
open Go.RowKit
attribute [local go_sem ↓] alPage_fold ldPage_fold stPage_fold bdPage_fold slPage_fold cp_fold

set_option maxRecDepth 100000 in
set_option maxHeartbeats 400000 in
theorem num_any (l : List UInt8) (hl : l.length = 512) (a width : Nat) (ha : a ≤ 1000) (hw1 : 1 ≤ width) (hw8 : width ≤ 8) (w : World) :
    Calls Try.prog 87 #[.agg (rowV l), .int .i64 (a : Int), .int .i64 (width : Int)] w fun e w' => e = .returned (.int .i64 (NumP.val l a width)) ∧ Below w.heap.size w w' := by
  have hpt := (Str.new w (rowV l) 51).part 0 512 512 (by omega) (by omega) (by unfold maxLen; omega)
  rw [List.drop_zero, List.take_of_length_le (by omega)] at hpt
  have HP := Lib.hid hpt
  have hsl := fun W => run_sl_all (P := Try.prog) arrPage w.heap.size W
  clear hpt hl
  go_enter Try.func87, Try.ntmps87
  go_wp2_with fail
  refine (NumW.num_any _ _ _ _ a width l _ HP.out (by omega) hw1 hw8).mono ?_
  rintro e w1 ⟨rfl, rfl⟩
  go_wp2_with fail
  go_ret
  exact ⟨rfl, balloc (bsame w) _⟩

set_option maxRecDepth 100000 in
set_option maxHeartbeats 400000 in
theorem no_any (l : List UInt8) (hl : l.length = 512) (w : World) : Calls Try.prog 41 #[.agg (rowV l)] w fun e w' => e = .returned (.int .i64 (NumP.val l 12 2)) ∧ Below w.heap.size w w' := by
  have hld := run_ld (P := Try.prog) arrPage (Str.new w (rowV l) 51) hl
  go_enter Try.func41, Try.ntmps41
  go_wp2_with fail
  refine (num_any l hl 12 2 (by omega) (by omega) (by omega) _).mono ?_
  rintro e w1 ⟨rfl, hb⟩
  clear hld
  go_wp2_with fail
  go_ret
  exact ⟨rfl, bstep (balloc (bsame w) _) hb⟩

set_option maxRecDepth 100000 in
set_option maxHeartbeats 400000 in
theorem lsn_any (l : List UInt8) (hl : l.length = 512) (w : World) : Calls Try.prog 43 #[.agg (rowV l)] w fun e w' => e = .returned (.int .i64 (NumP.val l 4 8)) ∧ Below w.heap.size w w' := by
  have hld := run_ld (P := Try.prog) arrPage (Str.new w (rowV l) 51) hl
  go_enter Try.func43, Try.ntmps43
  go_wp2_with fail
  refine (num_any l hl 4 8 (by omega) (by omega) (by omega) _).mono ?_
  rintro e w1 ⟨rfl, hb⟩
  clear hld
  go_wp2_with fail
  go_ret
  exact ⟨rfl, bstep (balloc (bsame w) _) hb⟩

set_option maxRecDepth 100000 in
set_option maxHeartbeats 400000 in
theorem next_any (l : List UInt8) (hl : l.length = 512) (w : World) : Calls Try.prog 45 #[.agg (rowV l)] w fun e w' => e = .returned (.int .i64 (NumP.val l 14 2)) ∧ Below w.heap.size w w' := by
  have hld := run_ld (P := Try.prog) arrPage (Str.new w (rowV l) 51) hl
  go_enter Try.func45, Try.ntmps45
  go_wp2_with fail
  refine (num_any l hl 14 2 (by omega) (by omega) (by omega) _).mono ?_
  rintro e w1 ⟨rfl, hb⟩
  clear hld
  go_wp2_with fail
  go_ret
  exact ⟨rfl, bstep (balloc (bsame w) _) hb⟩

set_option maxRecDepth 100000 in
set_option maxHeartbeats 400000 in
theorem note_any (l : List UInt8) (hl : l.length = 512) (w : World) : Calls Try.prog 47 #[.agg (rowV l)] w fun e w' => e = .returned (.int .i64 (NumP.val l 16 8)) ∧ Below w.heap.size w w' := by
  have hld := run_ld (P := Try.prog) arrPage (Str.new w (rowV l) 51) hl
  go_enter Try.func47, Try.ntmps47
  go_wp2_with fail
  refine (num_any l hl 16 8 (by omega) (by omega) (by omega) _).mono ?_
  rintro e w1 ⟨rfl, hb⟩
  clear hld
  go_wp2_with fail
  go_ret
  exact ⟨rfl, bstep (balloc (bsame w) _) hb⟩

set_option maxRecDepth 100000 in
set_option maxHeartbeats 1000000 in
theorem with_any (l : List UInt8) (hl : l.length = 512) (a width : Nat) (m : Int) (ha : a + width ≤ 512) (hw1 : 1 ≤ width) (hw8 : width ≤ 8) (w : World) :
    Calls Try.prog 89 #[.agg (rowV l), .int .i64 (a : Int), .int .i64 (width : Int), .int .i64 m] w fun e w' => e = .returned (.agg (rowV (SlotP.over l a (BeP.parts width m)))) ∧ Below w.heap.size w w' := by
  have hal := fun W => run_al (P := Try.prog) arrPage W
  have HL := Lib.hid hl
  have HZ := Lib.hid (SlotPut.zeros_len 512)
  have HLO : Hid ((SlotP.over l a (BeP.parts width m)).length = 512) := Lib.hid (by rw [SlotP.over_length _ _ _ (by rw [BeP.parts_length]; omega)]; exact hl)
  have hsl : ∀ W, (slSem 51 (.pointer (some ⟨w.heap.size, 0, none⟩)) (some (.int .i64 (a : Int))) (some (.int .i64 ((a : Int) + (width : Int)))) none).run Try.prog W = .ok (.slice (some ⟨w.heap.size, a, none⟩) width (512 - a)) W := by
    intro W
    have := run_sl (P := Try.prog) arrPage w.heap.size a (a + width) (by omega) (by omega) (by omega) W
    rwa [show ((a + width : Nat) : Int) = (a : Int) + (width : Int) by omega, show a + width - a = width by omega] at this
  clear hl
  go_enter Try.func89, Try.ntmps89
  go_wp2_with fail
  generalize hW0 : ((w).alloc (.cells (rowV l) 51)).alloc (.cells (rowV (SlotP.zeros 512)) 51) = W0
  have HS0_0 : Hid (Str W0 (w.heap.size) (rowV l)) := Lib.hid (by rw [← hW0]; have := (Str.new (w) (rowV l) 51).alloc (.cells (rowV (SlotP.zeros 512)) 51); simpa using this)
  have HS1_0 : Hid (Str W0 (w.heap.size + 1) (rowV (SlotP.zeros 512))) := Lib.hid (by rw [← hW0]; have := Str.new ((w).alloc (.cells (rowV l) 51)) (rowV (SlotP.zeros 512)) 51; simpa using this)
  have HB_0 : Hid (Below w.heap.size w W0) := Lib.hid (by rw [← hW0]; exact balloc (balloc (bsame w) _) _)
  have hw_0 := HB_0.out.size
  clear hW0
  have hl0_0 := HS0_0.out.lt
  have hl1_0 := HS1_0.out.lt
  refine Reg.wp_region_tail (R := ext) (W := W0) [Reg.eqv (.int .i64 (a : Int)), Reg.eqv (.int .i64 (a : Int)), Reg.eqv (.int .i64 (width : Int)), Reg.eqv (.int .i64 ((a : Int) + (width : Int))), Reg.eqv (.slice (some ⟨w.heap.size, a, none⟩) width (512 - a)), Reg.eqv (.int .i64 (width : Int)), Reg.eqv (.int .i64 m), Reg.bytes (BeP.parts width m)] 19 8 _ [[(1, none)], [(1, none)], [(2, none)], [(10, some 1), (11, some 2)], [(4, none), (9, some 0), (12, some 3)], [(2, none)], [(3, none)], [(14, some 5), (15, some 6)]] rfl (by kernel_rfl) (by kernel_rfl) (by rfl) (by rfl) rfl (by kernel_rfl) ?_ [some 9, some 10, some 11, some 12, some 13, some 14, some 15, some 16] (by kernel_rfl) ?_
  · refine ⟨?_, ?_, ?_, ?_, ?_, ?_, ?_, ?_, trivial⟩
    · intro ax wx hx hs
      obtain ⟨e1, -⟩ := hs
      have g1 := Reg.ev (v := .int .i64 (a : Int)) e1
      exact Reg.obl_free rfl (Reg.wp_eqv (Option.some_ne_none _) (by go_simp) rfl)
    · intro ax wx hx hs
      obtain ⟨e1, -⟩ := hs
      have g1 := Reg.ev (v := .int .i64 (a : Int)) e1
      exact Reg.obl_free rfl (Reg.wp_eqv (Option.some_ne_none _) (by go_simp) rfl)
    · intro ax wx hx hs
      obtain ⟨e2, -⟩ := hs
      have g2 := Reg.ev (v := .int .i64 (width : Int)) e2
      exact Reg.obl_free rfl (Reg.wp_eqv (Option.some_ne_none _) (by go_simp) rfl)
    · intro ax wx hx hs
      obtain ⟨e10, e11, -⟩ := hs
      have g10 := Reg.ev (v := .int .i64 (a : Int)) e10
      have g11 := Reg.ev (v := .int .i64 (width : Int)) e11
      refine Reg.obl_free rfl ?_
      exact Reg.wp_eqv (Option.some_ne_none _) (by go_simp; exact IntWalk.i64_in _ (by omega)) rfl
    · intro ax wx hx hs
      obtain ⟨e4, e9, e12, -⟩ := hs
      have g4 := Reg.ev (v := .pointer (some ⟨w.heap.size, 0, none⟩)) e4
      have g9 := Reg.ev (v := .int .i64 (a : Int)) e9
      have g12 := Reg.ev (v := .int .i64 ((a : Int) + (width : Int))) e12
      exact Reg.obl_free rfl (Reg.wp_eqv (Option.some_ne_none _) (by go_simp) rfl)
    · intro ax wx hx hs
      obtain ⟨e2, -⟩ := hs
      have g2 := Reg.ev (v := .int .i64 (width : Int)) e2
      exact Reg.obl_free rfl (Reg.wp_eqv (Option.some_ne_none _) (by go_simp) rfl)
    · intro ax wx hx hs
      obtain ⟨e3, -⟩ := hs
      have g3 := Reg.ev (v := .int .i64 m) e3
      exact Reg.obl_free rfl (Reg.wp_eqv (Option.some_ne_none _) (by go_simp) rfl)
    · intro ax wx hx hs
      obtain ⟨e14, e15, -⟩ := hs
      have g14 := Reg.ev (v := .int .i64 (width : Int)) e14
      have g15 := Reg.ev (v := .int .i64 m) e15
      refine Reg.obl_free rfl ?_
      go_simp
      refine (Be.put_wide none 0 0 0 [] width m wx (Bytes.none_ _ _) (Nat.zero_le _) hw1 hw8 (by omega)).mono ?_
      rintro e wy ⟨A3, n3, c3, rfl, hy, hby⟩
      exact Reg.done (Option.some_ne_none _) ⟨A3, n3, c3, rfl, hy⟩ hby
  · intro W1 hwf
    simp only [Reg.Fin]
    rintro _ rfl _ rfl _ rfl _ rfl _ rfl _ rfl _ rfl v16 h16
    obtain ⟨A3, n3, c3, rfl, hy⟩ := h16
    have hwf' : Below W0.heap.size W0 W1 := hwf
    obtain ⟨w6, hcp, hV0, hg6⟩ := copy_bytes (P := Try.prog) 22 22 3 5 Try.underlying22 Be.sizeU8 (dLen := width) (dCap := 512 - a) (off := a) (HS0_0.out.next hwf') hy (by rw [HL.out]; omega)
    rw [List.take_of_length_le (by rw [BeP.parts_length]; omega)] at hV0
    have hV1 := (HS1_0.out.next hwf').grown hg6 (by omega)
    have HB6 := Lib.hid (below_grown (bstep HB_0.out hwf') hg6 (by omega))
    have hld := run_ld (P := Try.prog) arrPage hV0 HLO.out
    have hst := run_st (P := Try.prog) arrPage hV1 (by rw [rowV_size]; exact HZ.out) HLO.out
    have HB7 := Lib.hid (below_setRow HB6.out (by omega : w.heap.size ≤ w.heap.size + 1) (rowV (SlotP.over l a (BeP.parts width m))))
    have HS7 := Lib.hid (hV1.setRow (cs' := rowV (SlotP.over l a (BeP.parts width m))))
    clear hwf hwf' hV0 hV1 hg6 hsl HB6 hal
    refine Reg.Goal.mk ?_
    go_simp
    clear hcp
    go_wp2_with fail
    exact bodyPost_ret (v := .agg (rowV (SlotP.over l a (BeP.parts width m)))) (results_arr arrPage Try.results89 _ HS7.out HLO.out rfl) rfl ⟨rfl, HB7.out⟩

set_option maxRecDepth 100000 in
set_option maxHeartbeats 400000 in
theorem withLSN_any (l : List UInt8) (hl : l.length = 512) (m : Int) (w : World) : Calls Try.prog 49 #[.agg (rowV l), .int .i64 m] w fun e w' => e = .returned (.agg (rowV (SlotP.over l 4 (BeP.parts 8 m)))) ∧ Below w.heap.size w w' := by
  have hal := fun W => run_al (P := Try.prog) arrPage W
  have HLO : Hid ((SlotP.over l 4 (BeP.parts 8 m)).length = 512) := Lib.hid (by rw [SlotP.over_length _ _ _ (by rw [BeP.parts_length]; omega)]; exact hl)
  have hld := run_ld (P := Try.prog) arrPage ((Str.new w (rowV l) 51).alloc (.cells (rowV (SlotP.zeros 512)) 51)) hl
  go_enter Try.func49, Try.ntmps49
  go_wp2_with fail
  have hS1 : Str ((w.alloc (.cells (rowV l) 51)).alloc (.cells (rowV (SlotP.zeros 512)) 51)) (w.heap.size + 1) (rowV (SlotP.zeros 512)) := by
    have := Str.new (w.alloc (.cells (rowV l) 51)) (rowV (SlotP.zeros 512)) 51
    simpa using this
  refine (with_any l hl 4 8 m (by omega) (by omega) (by omega) _).mono ?_
  rintro e w1 ⟨rfl, hb⟩
  have hV1 := hS1.next hb
  have hst := run_st (P := Try.prog) arrPage hV1 (by rw [rowV_size]; exact SlotPut.zeros_len 512) HLO.out
  have HB7 := Lib.hid (below_setRow (bstep (balloc (balloc (bsame w) _) _) hb) (by omega : w.heap.size ≤ w.heap.size + 1) (rowV (SlotP.over l 4 (BeP.parts 8 m))))
  have HS7 := Lib.hid (hV1.setRow (cs' := rowV (SlotP.over l 4 (BeP.parts 8 m))))
  clear hS1 hV1 hb hld
  go_wp2_with fail
  exact bodyPost_ret (v := .agg (rowV (SlotP.over l 4 (BeP.parts 8 m)))) (results_arr arrPage Try.results49 _ HS7.out HLO.out rfl) rfl ⟨rfl, HB7.out⟩

set_option maxRecDepth 100000 in
set_option maxHeartbeats 400000 in
theorem withNext_any (l : List UInt8) (hl : l.length = 512) (m : Int) (w : World) : Calls Try.prog 50 #[.agg (rowV l), .int .i64 m] w fun e w' => e = .returned (.agg (rowV (SlotP.over l 14 (BeP.parts 2 m)))) ∧ Below w.heap.size w w' := by
  have hal := fun W => run_al (P := Try.prog) arrPage W
  have HLO : Hid ((SlotP.over l 14 (BeP.parts 2 m)).length = 512) := Lib.hid (by rw [SlotP.over_length _ _ _ (by rw [BeP.parts_length]; omega)]; exact hl)
  have hld := run_ld (P := Try.prog) arrPage ((Str.new w (rowV l) 51).alloc (.cells (rowV (SlotP.zeros 512)) 51)) hl
  go_enter Try.func50, Try.ntmps50
  go_wp2_with fail
  have hS1 : Str ((w.alloc (.cells (rowV l) 51)).alloc (.cells (rowV (SlotP.zeros 512)) 51)) (w.heap.size + 1) (rowV (SlotP.zeros 512)) := by
    have := Str.new (w.alloc (.cells (rowV l) 51)) (rowV (SlotP.zeros 512)) 51
    simpa using this
  refine (with_any l hl 14 2 m (by omega) (by omega) (by omega) _).mono ?_
  rintro e w1 ⟨rfl, hb⟩
  have hV1 := hS1.next hb
  have hst := run_st (P := Try.prog) arrPage hV1 (by rw [rowV_size]; exact SlotPut.zeros_len 512) HLO.out
  have HB7 := Lib.hid (below_setRow (bstep (balloc (balloc (bsame w) _) _) hb) (by omega : w.heap.size ≤ w.heap.size + 1) (rowV (SlotP.over l 14 (BeP.parts 2 m))))
  have HS7 := Lib.hid (hV1.setRow (cs' := rowV (SlotP.over l 14 (BeP.parts 2 m))))
  clear hS1 hV1 hb hld
  go_wp2_with fail
  exact bodyPost_ret (v := .agg (rowV (SlotP.over l 14 (BeP.parts 2 m)))) (results_arr arrPage Try.results50 _ HS7.out HLO.out rfl) rfl ⟨rfl, HB7.out⟩

set_option maxRecDepth 100000 in
set_option maxHeartbeats 400000 in
theorem withNote_any (l : List UInt8) (hl : l.length = 512) (m : Int) (w : World) : Calls Try.prog 51 #[.agg (rowV l), .int .i64 m] w fun e w' => e = .returned (.agg (rowV (SlotP.over l 16 (BeP.parts 8 m)))) ∧ Below w.heap.size w w' := by
  have hal := fun W => run_al (P := Try.prog) arrPage W
  have HLO : Hid ((SlotP.over l 16 (BeP.parts 8 m)).length = 512) := Lib.hid (by rw [SlotP.over_length _ _ _ (by rw [BeP.parts_length]; omega)]; exact hl)
  have hld := run_ld (P := Try.prog) arrPage ((Str.new w (rowV l) 51).alloc (.cells (rowV (SlotP.zeros 512)) 51)) hl
  go_enter Try.func51, Try.ntmps51
  go_wp2_with fail
  have hS1 : Str ((w.alloc (.cells (rowV l) 51)).alloc (.cells (rowV (SlotP.zeros 512)) 51)) (w.heap.size + 1) (rowV (SlotP.zeros 512)) := by
    have := Str.new (w.alloc (.cells (rowV l) 51)) (rowV (SlotP.zeros 512)) 51
    simpa using this
  refine (with_any l hl 16 8 m (by omega) (by omega) (by omega) _).mono ?_
  rintro e w1 ⟨rfl, hb⟩
  have hV1 := hS1.next hb
  have hst := run_st (P := Try.prog) arrPage hV1 (by rw [rowV_size]; exact SlotPut.zeros_len 512) HLO.out
  have HB7 := Lib.hid (below_setRow (bstep (balloc (balloc (bsame w) _) _) hb) (by omega : w.heap.size ≤ w.heap.size + 1) (rowV (SlotP.over l 16 (BeP.parts 8 m))))
  have HS7 := Lib.hid (hV1.setRow (cs' := rowV (SlotP.over l 16 (BeP.parts 8 m))))
  clear hS1 hV1 hb hld
  go_wp2_with fail
  exact bodyPost_ret (v := .agg (rowV (SlotP.over l 16 (BeP.parts 8 m)))) (results_arr arrPage Try.results51 _ HS7.out HLO.out rfl) rfl ⟨rfl, HB7.out⟩

set_option maxRecDepth 100000 in
set_option maxHeartbeats 400000 in
theorem new_any (m : Int) (w : World) : Calls Try.prog 52 #[.int .i64 m] w fun e w' => e = .returned (.agg (rowV (SlotP.over (SlotP.zeros 512) 12 (BeP.parts 2 m)))) ∧ Below w.heap.size w w' := by
  have hal := fun W => run_al (P := Try.prog) arrPage W
  have hbd := fun W => run_bd (P := Try.prog) arrPage W
  have hl := SlotPut.zeros_len 512
  have HLO : Hid ((SlotP.over (SlotP.zeros 512) 12 (BeP.parts 2 m)).length = 512) := Lib.hid (by rw [SlotP.over_length _ _ _ (by rw [BeP.parts_length, hl]; omega)]; exact hl)
  have HL := Lib.hid hl
  clear hl
  go_enter Try.func52, Try.ntmps52
  go_wp2_with fail
  refine (with_any (SlotP.zeros 512) HL.out 12 2 m (by omega) (by omega) (by omega) _).mono ?_
  rintro e w1 ⟨rfl, hb⟩
  have hV1 := (Str.new w (rowV (SlotP.zeros 512)) 51).next hb
  have hst := run_st (P := Try.prog) arrPage hV1 (by rw [rowV_size]; exact SlotPut.zeros_len 512) HLO.out
  have HB7 := Lib.hid (below_setRow (bstep (balloc (bsame w) _) hb) (Nat.le_refl _) (rowV (SlotP.over (SlotP.zeros 512) 12 (BeP.parts 2 m))))
  have HS7 := Lib.hid (hV1.setRow (cs' := rowV (SlotP.over (SlotP.zeros 512) 12 (BeP.parts 2 m))))
  clear hV1 hb
  go_wp2_with fail
  exact bodyPost_ret (v := .agg (rowV (SlotP.over (SlotP.zeros 512) 12 (BeP.parts 2 m)))) (results_arr arrPage Try.results52 _ HS7.out HLO.out rfl) rfl ⟨rfl, HB7.out⟩
end Go.Proofs.Ytjengjbkdflapaa.PageW
