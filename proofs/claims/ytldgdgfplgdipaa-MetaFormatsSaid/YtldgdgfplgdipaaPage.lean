/-
  The walks of package page: numbers of a page, a page with others.
-/
import Derived.Test.YtldgdgfplgdipaaSlotPut
import Derived.Test.YtldgdgfplgdipaaNum
import Derived.Test.YtldgdgfplgdipaaBox
namespace Go.Proofs.Ytldgdgfplgdipaa.PageW
open Go.RowKit
attribute [local go_sem ↓] alPage_fold ldPage_fold stPage_fold bdPage_fold slPage_fold cp_fold

set_option maxRecDepth 100000 in
set_option maxHeartbeats 1000000 in
theorem with_any (l : List UInt8) (hl : l.length = 512) (a width : Nat) (m : Int) (ha : a + width ≤ 512) (hw1 : 1 ≤ width) (hw8 : width ≤ 8) (w : World) :
    Calls Try.prog 56 #[.agg (rowV l), .int .i64 (a : Int), .int .i64 (width : Int), .int .i64 m] w fun e w' => e = .returned (.agg (rowV (SlotP.over l a (BeP.parts width m)))) ∧ Below w.heap.size w w' := by
  have hal := fun W => run_al (P := Try.prog) arrPage W
  have HL := Lib.hid hl
  have HZ := Lib.hid (SlotPut.zeros_len 512)
  have HLO : Hid ((SlotP.over l a (BeP.parts width m)).length = 512) := Lib.hid (by rw [SlotP.over_length _ _ _ (by rw [BeP.parts_length]; omega)]; exact hl)
  have hsl : ∀ W, (slSem 30 (.pointer (some ⟨w.heap.size, 0, none⟩)) (some (.int .i64 (a : Int))) (some (.int .i64 ((a : Int) + (width : Int)))) none).run Try.prog W = .ok (.slice (some ⟨w.heap.size, a, none⟩) width (512 - a)) W := by
    intro W
    have := run_sl (P := Try.prog) arrPage w.heap.size a (a + width) (by omega) (by omega) (by omega) W
    rwa [show ((a + width : Nat) : Int) = (a : Int) + (width : Int) by omega, show a + width - a = width by omega] at this
  clear hl
  go_enter Try.func56, Try.ntmps56
  go_wp2_with fail
  generalize hW0 : ((w).alloc (.cells (rowV l) 30)).alloc (.cells (rowV (SlotP.zeros 512)) 30) = W0
  have HS0_0 : Hid (Str W0 (w.heap.size) (rowV l)) := Lib.hid (by rw [← hW0]; have := (Str.new (w) (rowV l) 30).alloc (.cells (rowV (SlotP.zeros 512)) 30); simpa using this)
  have HS1_0 : Hid (Str W0 (w.heap.size + 1) (rowV (SlotP.zeros 512))) := Lib.hid (by rw [← hW0]; have := Str.new ((w).alloc (.cells (rowV l) 30)) (rowV (SlotP.zeros 512)) 30; simpa using this)
  have HB_0 : Hid (Below w.heap.size w W0) := Lib.hid (by rw [← hW0]; exact balloc (balloc (bsame w) _) _)
  have hw_0 := HB_0.out.size
  clear hW0
  have hl0_0 := HS0_0.out.lt
  have hl1_0 := HS1_0.out.lt
  refine Reg.wp_region_tail (R := ext) (W := W0) [Reg.eqv (.int .i64 (a : Int)), Reg.eqv (.int .i64 (a : Int)), Reg.eqv (.int .i64 (width : Int)), Reg.eqv (.int .i64 ((a : Int) + (width : Int))), Reg.eqv (.slice (some ⟨w.heap.size, a, none⟩) width (512 - a)), Reg.eqv (.int .i64 (width : Int)), Reg.eqv (.int .i64 m), Reg.bytes (BeP.parts width m)] 19 8 _ [[(1, none)], [(1, none)], [(2, none)], [(10, some 1), (11, some 2)], [(4, none), (9, some 0), (12, some 3)], [(2, none)], [(3, none)], [(14, some 5), (15, some 6)]] rfl (by kernel_rfl) (by kernel_rfl) (by rfl) (by rfl) rfl (by kernel_rfl) ?_ [some 9, some 10, some 11, some 12, some 13, some 14, some 15, some 16] (by kernel_rfl) ?_
  · refine ⟨?_, ?_, ?_, ?_, ?_, ?_, ?_, ?_, trivial⟩
    · intro ax wx hx hs
      obtain ⟨e1, -⟩ := hs
      have g1 := Reg.ev (v := .int .i64 (a : Int)) e1
      exact Reg.obl_free rfl (Reg.wp_eqv (Option.some_ne_none _) (by go_simp) rfl)
    · intro ax wx hx hs
      obtain ⟨e1, -⟩ := hs
      have g1 := Reg.ev (v := .int .i64 (a : Int)) e1
      exact Reg.obl_free rfl (Reg.wp_eqv (Option.some_ne_none _) (by go_simp) rfl)
    · intro ax wx hx hs
      obtain ⟨e2, -⟩ := hs
      have g2 := Reg.ev (v := .int .i64 (width : Int)) e2
      exact Reg.obl_free rfl (Reg.wp_eqv (Option.some_ne_none _) (by go_simp) rfl)
    · intro ax wx hx hs
      obtain ⟨e10, e11, -⟩ := hs
      have g10 := Reg.ev (v := .int .i64 (a : Int)) e10
      have g11 := Reg.ev (v := .int .i64 (width : Int)) e11
      refine Reg.obl_free rfl ?_
      exact Reg.wp_eqv (Option.some_ne_none _) (by go_simp; exact IntWalk.i64_in _ (by omega)) rfl
    · intro ax wx hx hs
      obtain ⟨e4, e9, e12, -⟩ := hs
      have g4 := Reg.ev (v := .pointer (some ⟨w.heap.size, 0, none⟩)) e4
      have g9 := Reg.ev (v := .int .i64 (a : Int)) e9
      have g12 := Reg.ev (v := .int .i64 ((a : Int) + (width : Int))) e12
      exact Reg.obl_free rfl (Reg.wp_eqv (Option.some_ne_none _) (by go_simp) rfl)
    · intro ax wx hx hs
      obtain ⟨e2, -⟩ := hs
      have g2 := Reg.ev (v := .int .i64 (width : Int)) e2
      exact Reg.obl_free rfl (Reg.wp_eqv (Option.some_ne_none _) (by go_simp) rfl)
    · intro ax wx hx hs
      obtain ⟨e3, -⟩ := hs
      have g3 := Reg.ev (v := .int .i64 m) e3
      exact Reg.obl_free rfl (Reg.wp_eqv (Option.some_ne_none _) (by go_simp) rfl)
    · intro ax wx hx hs
      obtain ⟨e14, e15, -⟩ := hs
      have g14 := Reg.ev (v := .int .i64 (width : Int)) e14
      have g15 := Reg.ev (v := .int .i64 m) e15
      refine Reg.obl_free rfl ?_
      go_simp
      refine (Be.put_wide none 0 0 0 [] width m wx (Bytes.none_ _ _) (Nat.zero_le _) hw1 hw8 (by omega)).mono ?_
      rintro e wy ⟨A3, n3, c3, rfl, hy, hby⟩
      exact Reg.done (Option.some_ne_none _) ⟨A3, n3, c3, rfl, hy⟩ hby
  · intro W1 hwf
    simp only [Reg.Fin]
    rintro _ rfl _ rfl _ rfl _ rfl _ rfl _ rfl _ rfl v16 h16
    obtain ⟨A3, n3, c3, rfl, hy⟩ := h16
    have hwf' : Below W0.heap.size W0 W1 := hwf
    obtain ⟨w6, hcp, hV0, hg6⟩ := copy_bytes (P := Try.prog) 22 22 3 5 Try.underlying22 Be.sizeU8 (dLen := width) (dCap := 512 - a) (off := a) (HS0_0.out.next hwf') hy (by rw [HL.out]; omega)
    rw [List.take_of_length_le (by rw [BeP.parts_length]; omega)] at hV0
    have hV1 := (HS1_0.out.next hwf').grown hg6 (by omega)
    have HB6 := Lib.hid (below_grown (bstep HB_0.out hwf') hg6 (by omega))
    have hld := run_ld (P := Try.prog) arrPage hV0 HLO.out
    have hst := run_st (P := Try.prog) arrPage hV1 (by rw [rowV_size]; exact HZ.out) HLO.out
    have HB7 := Lib.hid (below_setRow HB6.out (by omega : w.heap.size ≤ w.heap.size + 1) (rowV (SlotP.over l a (BeP.parts width m))))
    have HS7 := Lib.hid (hV1.setRow (cs' := rowV (SlotP.over l a (BeP.parts width m))))
    clear hwf hwf' hV0 hV1 hg6 hsl HB6 hal
    refine Reg.Goal.mk ?_
    go_simp
    clear hcp
    go_wp2_with fail
    exact bodyPost_ret (v := .agg (rowV (SlotP.over l a (BeP.parts width m)))) (results_arr arrPage Try.results56 _ HS7.out HLO.out rfl) rfl ⟨rfl, HB7.out⟩

set_option maxRecDepth 100000 in
set_option maxHeartbeats 400000 in
theorem withNext_any (l : List UInt8) (hl : l.length = 512) (m : Int) (w : World) : Calls Try.prog 60 #[.agg (rowV l), .int .i64 m] w fun e w' => e = .returned (.agg (rowV (SlotP.over l 14 (BeP.parts 2 m)))) ∧ Below w.heap.size w w' := by
  have hal := fun W => run_al (P := Try.prog) arrPage W
  have HLO : Hid ((SlotP.over l 14 (BeP.parts 2 m)).length = 512) := Lib.hid (by rw [SlotP.over_length _ _ _ (by rw [BeP.parts_length]; omega)]; exact hl)
  have hld := run_ld (P := Try.prog) arrPage ((Str.new w (rowV l) 30).alloc (.cells (rowV (SlotP.zeros 512)) 30)) hl
  go_enter Try.func60, Try.ntmps60
  go_wp2_with fail
  have hS1 : Str ((w.alloc (.cells (rowV l) 30)).alloc (.cells (rowV (SlotP.zeros 512)) 30)) (w.heap.size + 1) (rowV (SlotP.zeros 512)) := by
    have := Str.new (w.alloc (.cells (rowV l) 30)) (rowV (SlotP.zeros 512)) 30
    simpa using this
  refine (with_any l hl 14 2 m (by omega) (by omega) (by omega) _).mono ?_
  rintro e w1 ⟨rfl, hb⟩
  have hV1 := hS1.next hb
  have hst := run_st (P := Try.prog) arrPage hV1 (by rw [rowV_size]; exact SlotPut.zeros_len 512) HLO.out
  have HB7 := Lib.hid (below_setRow (bstep (balloc (balloc (bsame w) _) _) hb) (by omega : w.heap.size ≤ w.heap.size + 1) (rowV (SlotP.over l 14 (BeP.parts 2 m))))
  have HS7 := Lib.hid (hV1.setRow (cs' := rowV (SlotP.over l 14 (BeP.parts 2 m))))
  clear hS1 hV1 hb hld
  go_wp2_with fail
  exact bodyPost_ret (v := .agg (rowV (SlotP.over l 14 (BeP.parts 2 m)))) (results_arr arrPage Try.results60 _ HS7.out HLO.out rfl) rfl ⟨rfl, HB7.out⟩

set_option maxRecDepth 100000 in
set_option maxHeartbeats 400000 in
theorem withNote_any (l : List UInt8) (hl : l.length = 512) (m : Int) (w : World) : Calls Try.prog 36 #[.agg (rowV l), .int .i64 m] w fun e w' => e = .returned (.agg (rowV (SlotP.over l 16 (BeP.parts 8 m)))) ∧ Below w.heap.size w w' := by
  have hal := fun W => run_al (P := Try.prog) arrPage W
  have HLO : Hid ((SlotP.over l 16 (BeP.parts 8 m)).length = 512) := Lib.hid (by rw [SlotP.over_length _ _ _ (by rw [BeP.parts_length]; omega)]; exact hl)
  have hld := run_ld (P := Try.prog) arrPage ((Str.new w (rowV l) 30).alloc (.cells (rowV (SlotP.zeros 512)) 30)) hl
  go_enter Try.func36, Try.ntmps36
  go_wp2_with fail
  have hS1 : Str ((w.alloc (.cells (rowV l) 30)).alloc (.cells (rowV (SlotP.zeros 512)) 30)) (w.heap.size + 1) (rowV (SlotP.zeros 512)) := by
    have := Str.new (w.alloc (.cells (rowV l) 30)) (rowV (SlotP.zeros 512)) 30
    simpa using this
  refine (with_any l hl 16 8 m (by omega) (by omega) (by omega) _).mono ?_
  rintro e w1 ⟨rfl, hb⟩
  have hV1 := hS1.next hb
  have hst := run_st (P := Try.prog) arrPage hV1 (by rw [rowV_size]; exact SlotPut.zeros_len 512) HLO.out
  have HB7 := Lib.hid (below_setRow (bstep (balloc (balloc (bsame w) _) _) hb) (by omega : w.heap.size ≤ w.heap.size + 1) (rowV (SlotP.over l 16 (BeP.parts 8 m))))
  have HS7 := Lib.hid (hV1.setRow (cs' := rowV (SlotP.over l 16 (BeP.parts 8 m))))
  clear hS1 hV1 hb hld
  go_wp2_with fail
  exact bodyPost_ret (v := .agg (rowV (SlotP.over l 16 (BeP.parts 8 m)))) (results_arr arrPage Try.results36 _ HS7.out HLO.out rfl) rfl ⟨rfl, HB7.out⟩

set_option maxRecDepth 100000 in
set_option maxHeartbeats 400000 in
theorem new_any (m : Int) (w : World) : Calls Try.prog 35 #[.int .i64 m] w fun e w' => e = .returned (.agg (rowV (SlotP.over (SlotP.zeros 512) 12 (BeP.parts 2 m)))) ∧ Below w.heap.size w w' := by
  have hal := fun W => run_al (P := Try.prog) arrPage W
  have hbd := fun W => run_bd (P := Try.prog) arrPage W
  have hl := SlotPut.zeros_len 512
  have HLO : Hid ((SlotP.over (SlotP.zeros 512) 12 (BeP.parts 2 m)).length = 512) := Lib.hid (by rw [SlotP.over_length _ _ _ (by rw [BeP.parts_length, hl]; omega)]; exact hl)
  have HL := Lib.hid hl
  clear hl
  go_enter Try.func35, Try.ntmps35
  go_wp2_with fail
  refine (with_any (SlotP.zeros 512) HL.out 12 2 m (by omega) (by omega) (by omega) _).mono ?_
  rintro e w1 ⟨rfl, hb⟩
  have hV1 := (Str.new w (rowV (SlotP.zeros 512)) 30).next hb
  have hst := run_st (P := Try.prog) arrPage hV1 (by rw [rowV_size]; exact SlotPut.zeros_len 512) HLO.out
  have HB7 := Lib.hid (below_setRow (bstep (balloc (bsame w) _) hb) (Nat.le_refl _) (rowV (SlotP.over (SlotP.zeros 512) 12 (BeP.parts 2 m))))
  have HS7 := Lib.hid (hV1.setRow (cs' := rowV (SlotP.over (SlotP.zeros 512) 12 (BeP.parts 2 m))))
  clear hV1 hb
  go_wp2_with fail
  exact bodyPost_ret (v := .agg (rowV (SlotP.over (SlotP.zeros 512) 12 (BeP.parts 2 m)))) (results_arr arrPage Try.results35 _ HS7.out HLO.out rfl) rfl ⟨rfl, HB7.out⟩
end Go.Proofs.Ytldgdgfplgdipaa.PageW
