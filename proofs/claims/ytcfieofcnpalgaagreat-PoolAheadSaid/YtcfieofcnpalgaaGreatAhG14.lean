/-
  Parts of the proof of PoolAhead.
-/
import Derived.Test.YtcfieofcnpalgaaGreatAhG13
import Derived.Test.YtcfieofcnpalgaaGreatAhG2
import Derived.Test.YtcfieofcnpalgaaGreatProg
import Derived.Test.YtcfieofcnpalgaaGreatAhG10
import Derived.Test.YtcfieofcnpalgaaGreatAhG5
import Derived.Test.YtcfieofcnpalgaaGreatAhG0
import Derived.Test.YtcfieofcnpalgaaGreatAhG1
section
namespace Go.Proofs.YtcfieofcnpalgaaGreat.PageW
open Go.RowKit
attribute [local go_sem ↓] alPage_fold ldPage_fold stPage_fold bdPage_fold slPage_fold cp_fold

set_option maxRecDepth 100000 in
set_option maxHeartbeats 400000 in
theorem num_any (l : List UInt8) (hl : l.length = 512) (a width : Nat) (ha : a ≤ 1000) (hw1 : 1 ≤ width) (hw8 : width ≤ 8) (w : World) :
    Calls Tryz.prog 36 #[.agg (rowV l), .int .i64 (a : Int), .int .i64 (width : Int)] w fun e w' => e = .returned (.int .i64 (NumP.val l a width)) ∧ Below w.heap.size w w' := by
  have hpt := (Str.new w (rowV l) 42).part 0 512 512 (by omega) (by omega) (by unfold maxLen; omega)
  rw [List.drop_zero, List.take_of_length_le (by omega)] at hpt
  have HP := Lib.hid hpt
  have hsl := fun W => run_sl_all (P := Tryz.prog) arrPage w.heap.size W
  clear hpt hl
  go_enter Tryz.func36, Tryz.ntmps36
  go_wp2_with fail
  refine (NumW.num_any _ _ _ _ a width l _ HP.out (by omega) hw1 hw8).mono ?_
  rintro e w1 ⟨rfl, rfl⟩
  go_wp2_with fail
  go_ret
  exact ⟨rfl, balloc (bsame w) _⟩

set_option maxRecDepth 100000 in
set_option maxHeartbeats 400000 in
theorem no_any (l : List UInt8) (hl : l.length = 512) (w : World) : Calls Tryz.prog 37 #[.agg (rowV l)] w fun e w' => e = .returned (.int .i64 (NumP.val l 12 2)) ∧ Below w.heap.size w w' := by
  have hld := run_ld (P := Tryz.prog) arrPage (Str.new w (rowV l) 42) hl
  go_enter Tryz.func37, Tryz.ntmps37
  go_wp2_with fail
  refine (num_any l hl 12 2 (by omega) (by omega) (by omega) _).mono ?_
  rintro e w1 ⟨rfl, hb⟩
  clear hld
  go_wp2_with fail
  go_ret
  exact ⟨rfl, bstep (balloc (bsame w) _) hb⟩

set_option maxRecDepth 100000 in
set_option maxHeartbeats 400000 in
theorem lsn_any (l : List UInt8) (hl : l.length = 512) (w : World) : Calls Tryz.prog 14 #[.agg (rowV l)] w fun e w' => e = .returned (.int .i64 (NumP.val l 4 8)) ∧ Below w.heap.size w w' := by
  have hld := run_ld (P := Tryz.prog) arrPage (Str.new w (rowV l) 42) hl
  go_enter Tryz.func14, Tryz.ntmps14
  go_wp2_with fail
  refine (num_any l hl 4 8 (by omega) (by omega) (by omega) _).mono ?_
  rintro e w1 ⟨rfl, hb⟩
  clear hld
  go_wp2_with fail
  go_ret
  exact ⟨rfl, bstep (balloc (bsame w) _) hb⟩

set_option maxRecDepth 100000 in
set_option maxHeartbeats 400000 in
theorem note_any (l : List UInt8) (hl : l.length = 512) (w : World) : Calls Tryz.prog 10 #[.agg (rowV l)] w fun e w' => e = .returned (.int .i64 (NumP.val l 16 8)) ∧ Below w.heap.size w w' := by
  have hld := run_ld (P := Tryz.prog) arrPage (Str.new w (rowV l) 42) hl
  go_enter Tryz.func10, Tryz.ntmps10
  go_wp2_with fail
  refine (num_any l hl 16 8 (by omega) (by omega) (by omega) _).mono ?_
  rintro e w1 ⟨rfl, hb⟩
  clear hld
  go_wp2_with fail
  go_ret
  exact ⟨rfl, bstep (balloc (bsame w) _) hb⟩

set_option maxRecDepth 100000 in
set_option maxHeartbeats 1000000 in
theorem with_any (l : List UInt8) (hl : l.length = 512) (a width : Nat) (m : Int) (ha : a + width ≤ 512) (hw1 : 1 ≤ width) (hw8 : width ≤ 8) (w : World) :
    Calls Tryz.prog 45 #[.agg (rowV l), .int .i64 (a : Int), .int .i64 (width : Int), .int .i64 m] w fun e w' => e = .returned (.agg (rowV (SlotP.over l a (BeP.parts width m)))) ∧ Below w.heap.size w w' := by
  have hal := fun W => run_al (P := Tryz.prog) arrPage W
  have HL := Lib.hid hl
  have HZ := Lib.hid (SlotPut.zeros_len 512)
  have HLO : Hid ((SlotP.over l a (BeP.parts width m)).length = 512) := Lib.hid (by rw [SlotP.over_length _ _ _ (by rw [BeP.parts_length]; omega)]; exact hl)
  have hsl : ∀ W, (slSem 42 (.pointer (some ⟨w.heap.size, 0, none⟩)) (some (.int .i64 (a : Int))) (some (.int .i64 ((a : Int) + (width : Int)))) none).run Tryz.prog W = .ok (.slice (some ⟨w.heap.size, a, none⟩) width (512 - a)) W := by
    intro W
    have := run_sl (P := Tryz.prog) arrPage w.heap.size a (a + width) (by omega) (by omega) (by omega) W
    rwa [show ((a + width : Nat) : Int) = (a : Int) + (width : Int) by omega, show a + width - a = width by omega] at this
  clear hl
  go_enter Tryz.func45, Tryz.ntmps45
  go_wp2_with fail
  generalize hW0 : ((w).alloc (.cells (rowV l) 42)).alloc (.cells (rowV (SlotP.zeros 512)) 42) = W0
  have HS0_0 : Hid (Str W0 (w.heap.size) (rowV l)) := Lib.hid (by rw [← hW0]; have := (Str.new (w) (rowV l) 42).alloc (.cells (rowV (SlotP.zeros 512)) 42); simpa using this)
  have HS1_0 : Hid (Str W0 (w.heap.size + 1) (rowV (SlotP.zeros 512))) := Lib.hid (by rw [← hW0]; have := Str.new ((w).alloc (.cells (rowV l) 42)) (rowV (SlotP.zeros 512)) 42; simpa using this)
  have HB_0 : Hid (Below w.heap.size w W0) := Lib.hid (by rw [← hW0]; exact balloc (balloc (bsame w) _) _)
  have hw_0 := HB_0.out.size
  clear hW0
  have hl0_0 := HS0_0.out.lt
  have hl1_0 := HS1_0.out.lt
  refine Reg.wp_region_tail (R := ext) (W := W0) [Reg.eqv (.int .i64 (a : Int)), Reg.eqv (.int .i64 (a : Int)), Reg.eqv (.int .i64 (width : Int)), Reg.eqv (.int .i64 ((a : Int) + (width : Int))), Reg.eqv (.slice (some ⟨w.heap.size, a, none⟩) width (512 - a)), Reg.eqv (.int .i64 (width : Int)), Reg.eqv (.int .i64 m), Reg.bytes (BeP.parts width m)] 19 8 _ [[(1, none)], [(1, none)], [(2, none)], [(10, some 1), (11, some 2)], [(4, none), (9, some 0), (12, some 3)], [(2, none)], [(3, none)], [(14, some 5), (15, some 6)]] rfl (by kernel_rfl) (by kernel_rfl) (by rfl) (by rfl) rfl (by kernel_rfl) ?_ [some 9, some 10, some 11, some 12, some 13, some 14, some 15, some 16] (by kernel_rfl) ?_
  · refine ⟨?_, ?_, ?_, ?_, ?_, ?_, ?_, ?_, trivial⟩
    · intro ax wx hx hs
      obtain ⟨e1, -⟩ := hs
      have g1 := Reg.ev (v := .int .i64 (a : Int)) e1
      exact Reg.obl_free rfl (Reg.wp_eqv (Option.some_ne_none _) (by go_simp) rfl)
    · intro ax wx hx hs
      obtain ⟨e1, -⟩ := hs
      have g1 := Reg.ev (v := .int .i64 (a : Int)) e1
      exact Reg.obl_free rfl (Reg.wp_eqv (Option.some_ne_none _) (by go_simp) rfl)
    · intro ax wx hx hs
      obtain ⟨e2, -⟩ := hs
      have g2 := Reg.ev (v := .int .i64 (width : Int)) e2
      exact Reg.obl_free rfl (Reg.wp_eqv (Option.some_ne_none _) (by go_simp) rfl)
    · intro ax wx hx hs
      obtain ⟨e10, e11, -⟩ := hs
      have g10 := Reg.ev (v := .int .i64 (a : Int)) e10
      have g11 := Reg.ev (v := .int .i64 (width : Int)) e11
      refine Reg.obl_free rfl ?_
      exact Reg.wp_eqv (Option.some_ne_none _) (by go_simp; exact IntWalk.i64_in _ (by omega)) rfl
    · intro ax wx hx hs
      obtain ⟨e4, e9, e12, -⟩ := hs
      have g4 := Reg.ev (v := .pointer (some ⟨w.heap.size, 0, none⟩)) e4
      have g9 := Reg.ev (v := .int .i64 (a : Int)) e9
      have g12 := Reg.ev (v := .int .i64 ((a : Int) + (width : Int))) e12
      exact Reg.obl_free rfl (Reg.wp_eqv (Option.some_ne_none _) (by go_simp) rfl)
    · intro ax wx hx hs
      obtain ⟨e2, -⟩ := hs
      have g2 := Reg.ev (v := .int .i64 (width : Int)) e2
      exact Reg.obl_free rfl (Reg.wp_eqv (Option.some_ne_none _) (by go_simp) rfl)
    · intro ax wx hx hs
      obtain ⟨e3, -⟩ := hs
      have g3 := Reg.ev (v := .int .i64 m) e3
      exact Reg.obl_free rfl (Reg.wp_eqv (Option.some_ne_none _) (by go_simp) rfl)
    · intro ax wx hx hs
      obtain ⟨e14, e15, -⟩ := hs
      have g14 := Reg.ev (v := .int .i64 (width : Int)) e14
      have g15 := Reg.ev (v := .int .i64 m) e15
      refine Reg.obl_free rfl ?_
      go_simp
      refine (Be.put_wide none 0 0 0 [] width m wx (Bytes.none_ _ _) (Nat.zero_le _) hw1 hw8 (by omega)).mono ?_
      rintro e wy ⟨A3, n3, c3, rfl, hy, hby⟩
      exact Reg.done (Option.some_ne_none _) ⟨A3, n3, c3, rfl, hy⟩ hby
  · intro W1 hwf
    simp only [Reg.Fin]
    rintro _ rfl _ rfl _ rfl _ rfl _ rfl _ rfl _ rfl v16 h16
    obtain ⟨A3, n3, c3, rfl, hy⟩ := h16
    have hwf' : Below W0.heap.size W0 W1 := hwf
    obtain ⟨w6, hcp, hV0, hg6⟩ := copy_bytes (P := Tryz.prog) 27 27 3 5 Tryz.underlying27 Be.sizeU8 (dLen := width) (dCap := 512 - a) (off := a) (HS0_0.out.next hwf') hy (by rw [HL.out]; omega)
    rw [List.take_of_length_le (by rw [BeP.parts_length]; omega)] at hV0
    have hV1 := (HS1_0.out.next hwf').grown hg6 (by omega)
    have HB6 := Lib.hid (below_grown (bstep HB_0.out hwf') hg6 (by omega))
    have hld := run_ld (P := Tryz.prog) arrPage hV0 HLO.out
    have hst := run_st (P := Tryz.prog) arrPage hV1 (by rw [rowV_size]; exact HZ.out) HLO.out
    have HB7 := Lib.hid (below_setRow HB6.out (by omega : w.heap.size ≤ w.heap.size + 1) (rowV (SlotP.over l a (BeP.parts width m))))
    have HS7 := Lib.hid (hV1.setRow (cs' := rowV (SlotP.over l a (BeP.parts width m))))
    clear hwf hwf' hV0 hV1 hg6 hsl HB6 hal
    refine Reg.Goal.mk ?_
    go_simp
    clear hcp
    go_wp2_with fail
    exact bodyPost_ret (v := .agg (rowV (SlotP.over l a (BeP.parts width m)))) (results_arr arrPage Tryz.results45 _ HS7.out HLO.out rfl) rfl ⟨rfl, HB7.out⟩

set_option maxRecDepth 100000 in
set_option maxHeartbeats 400000 in
theorem withLSN_any (l : List UInt8) (hl : l.length = 512) (m : Int) (w : World) : Calls Tryz.prog 38 #[.agg (rowV l), .int .i64 m] w fun e w' => e = .returned (.agg (rowV (SlotP.over l 4 (BeP.parts 8 m)))) ∧ Below w.heap.size w w' := by
  have hal := fun W => run_al (P := Tryz.prog) arrPage W
  have HLO : Hid ((SlotP.over l 4 (BeP.parts 8 m)).length = 512) := Lib.hid (by rw [SlotP.over_length _ _ _ (by rw [BeP.parts_length]; omega)]; exact hl)
  have hld := run_ld (P := Tryz.prog) arrPage ((Str.new w (rowV l) 42).alloc (.cells (rowV (SlotP.zeros 512)) 42)) hl
  go_enter Tryz.func38, Tryz.ntmps38
  go_wp2_with fail
  have hS1 : Str ((w.alloc (.cells (rowV l) 42)).alloc (.cells (rowV (SlotP.zeros 512)) 42)) (w.heap.size + 1) (rowV (SlotP.zeros 512)) := by
    have := Str.new (w.alloc (.cells (rowV l) 42)) (rowV (SlotP.zeros 512)) 42
    simpa using this
  refine (with_any l hl 4 8 m (by omega) (by omega) (by omega) _).mono ?_
  rintro e w1 ⟨rfl, hb⟩
  have hV1 := hS1.next hb
  have hst := run_st (P := Tryz.prog) arrPage hV1 (by rw [rowV_size]; exact SlotPut.zeros_len 512) HLO.out
  have HB7 := Lib.hid (below_setRow (bstep (balloc (balloc (bsame w) _) _) hb) (by omega : w.heap.size ≤ w.heap.size + 1) (rowV (SlotP.over l 4 (BeP.parts 8 m))))
  have HS7 := Lib.hid (hV1.setRow (cs' := rowV (SlotP.over l 4 (BeP.parts 8 m))))
  clear hS1 hV1 hb hld
  go_wp2_with fail
  exact bodyPost_ret (v := .agg (rowV (SlotP.over l 4 (BeP.parts 8 m)))) (results_arr arrPage Tryz.results38 _ HS7.out HLO.out rfl) rfl ⟨rfl, HB7.out⟩

set_option maxRecDepth 100000 in
set_option maxHeartbeats 400000 in
theorem withNote_any (l : List UInt8) (hl : l.length = 512) (m : Int) (w : World) : Calls Tryz.prog 19 #[.agg (rowV l), .int .i64 m] w fun e w' => e = .returned (.agg (rowV (SlotP.over l 16 (BeP.parts 8 m)))) ∧ Below w.heap.size w w' := by
  have hal := fun W => run_al (P := Tryz.prog) arrPage W
  have HLO : Hid ((SlotP.over l 16 (BeP.parts 8 m)).length = 512) := Lib.hid (by rw [SlotP.over_length _ _ _ (by rw [BeP.parts_length]; omega)]; exact hl)
  have hld := run_ld (P := Tryz.prog) arrPage ((Str.new w (rowV l) 42).alloc (.cells (rowV (SlotP.zeros 512)) 42)) hl
  go_enter Tryz.func19, Tryz.ntmps19
  go_wp2_with fail
  have hS1 : Str ((w.alloc (.cells (rowV l) 42)).alloc (.cells (rowV (SlotP.zeros 512)) 42)) (w.heap.size + 1) (rowV (SlotP.zeros 512)) := by
    have := Str.new (w.alloc (.cells (rowV l) 42)) (rowV (SlotP.zeros 512)) 42
    simpa using this
  refine (with_any l hl 16 8 m (by omega) (by omega) (by omega) _).mono ?_
  rintro e w1 ⟨rfl, hb⟩
  have hV1 := hS1.next hb
  have hst := run_st (P := Tryz.prog) arrPage hV1 (by rw [rowV_size]; exact SlotPut.zeros_len 512) HLO.out
  have HB7 := Lib.hid (below_setRow (bstep (balloc (balloc (bsame w) _) _) hb) (by omega : w.heap.size ≤ w.heap.size + 1) (rowV (SlotP.over l 16 (BeP.parts 8 m))))
  have HS7 := Lib.hid (hV1.setRow (cs' := rowV (SlotP.over l 16 (BeP.parts 8 m))))
  clear hS1 hV1 hb hld
  go_wp2_with fail
  exact bodyPost_ret (v := .agg (rowV (SlotP.over l 16 (BeP.parts 8 m)))) (results_arr arrPage Tryz.results19 _ HS7.out HLO.out rfl) rfl ⟨rfl, HB7.out⟩

set_option maxRecDepth 100000 in
set_option maxHeartbeats 400000 in
theorem new_any (m : Int) (w : World) : Calls Tryz.prog 26 #[.int .i64 m] w fun e w' => e = .returned (.agg (rowV (SlotP.over (SlotP.zeros 512) 12 (BeP.parts 2 m)))) ∧ Below w.heap.size w w' := by
  have hal := fun W => run_al (P := Tryz.prog) arrPage W
  have hbd := fun W => run_bd (P := Tryz.prog) arrPage W
  have hl := SlotPut.zeros_len 512
  have HLO : Hid ((SlotP.over (SlotP.zeros 512) 12 (BeP.parts 2 m)).length = 512) := Lib.hid (by rw [SlotP.over_length _ _ _ (by rw [BeP.parts_length, hl]; omega)]; exact hl)
  have HL := Lib.hid hl
  clear hl
  go_enter Tryz.func26, Tryz.ntmps26
  go_wp2_with fail
  refine (with_any (SlotP.zeros 512) HL.out 12 2 m (by omega) (by omega) (by omega) _).mono ?_
  rintro e w1 ⟨rfl, hb⟩
  have hV1 := (Str.new w (rowV (SlotP.zeros 512)) 42).next hb
  have hst := run_st (P := Tryz.prog) arrPage hV1 (by rw [rowV_size]; exact SlotPut.zeros_len 512) HLO.out
  have HB7 := Lib.hid (below_setRow (bstep (balloc (bsame w) _) hb) (Nat.le_refl _) (rowV (SlotP.over (SlotP.zeros 512) 12 (BeP.parts 2 m))))
  have HS7 := Lib.hid (hV1.setRow (cs' := rowV (SlotP.over (SlotP.zeros 512) 12 (BeP.parts 2 m))))
  clear hV1 hb
  go_wp2_with fail
  exact bodyPost_ret (v := .agg (rowV (SlotP.over (SlotP.zeros 512) 12 (BeP.parts 2 m)))) (results_arr arrPage Tryz.results26 _ HS7.out HLO.out rfl) rfl ⟨rfl, HB7.out⟩
end Go.Proofs.YtcfieofcnpalgaaGreat.PageW
end
section
namespace Go.Proofs.YtcfieofcnpalgaaGreat.CellGet
open Go.RowKit
attribute [local go_sem ↓] app_fold cut_fold

/-- the call hands back this cell, this number, and this error's number -/
def GotCell (w : World) (r : Cell × Int × Int) (e : Ending) (w' : World) : Prop := ∃ A n cap, e = .returned (.tuple #[.agg #[.int .i64 r.1.kind, .slice A n cap, .int .i64 r.1.lo, .int .i64 r.1.hi, .int .i64 r.1.val], .int .i64 r.2.1, .int .i64 r.2.2]) ∧ Bytes w' w'.heap.size A n cap r.1.data ∧ Below w.heap.size w w'

set_option maxRecDepth 100000 in
set_option maxHeartbeats 1000000 in
theorem get_any (A : Option Addr) (n c B : Nat) (l : List UInt8) (w : World) (h : Bytes w B A n c l) (hB : B ≤ w.heap.size) :
    Calls Tryz.prog 86 #[.slice A n c] w (GotCell w (CellP.get l)) := by
  obtain ⟨i0, hi, hz0, hz1, hz2⟩ := info_parts Be.infoU8
  have hn := Nat.le_trans h.2.1 h.2.2.1
  have hl := h.len
  have hv1 := CellP.val_in l 0 1 (by omega)
  have H := Lib.hid h
  have HL := Lib.hid hl
  by_cases h0 : l.length < 1
  · have HG := Lib.hid (CellP.get_short l h0)
    rw [HG.out]
    have HT := Lib.hid (NumW.there_no l 0 1 (by omega))
    go_enter Tryz.func86, Tryz.ntmps86
    go_wp2_with fail
    refine (NumW.num_any A n c B 0 1 l _ (H.out.alloc hB _) (by omega) (by omega) (by omega)).mono ?_
    rintro e w1 ⟨rfl, rfl⟩
    rw [HT.out]
    go_wp2_with fail
    exact bodyPost_ret (v := .tuple #[.agg #[.int .i64 0, .slice none 0 0, .int .i64 0, .int .i64 0, .int .i64 0], .int .i64 0, .int .i64 13]) (by simp [results, Tryz.results86, go_sem]) rfl ⟨none, 0, 0, rfl, Bytes.none_ _ _, by repeat (first | refine Below.setCell ?_ (by simp) _ | exact balloc (bsame _) _)⟩
  · have HT := Lib.hid (NumW.there_yes l 0 1 (by omega))
    by_cases hk1 : NumP.val l 0 1 = 1
    · have HK := Lib.hid hk1
      by_cases h2 : l.length < 2
      · have HG := Lib.hid (CellP.get_rec_short l h0 hk1 (.inl h2))
        rw [HG.out]
        have HT2 := Lib.hid (NumW.there_no l 1 1 (by omega))
        have HV2 := Lib.hid (NumW.val_no l 1 1 (by omega))
        clear hk1
        go_enter Tryz.func86, Tryz.ntmps86
        go_wp2_with fail
        refine (NumW.num_any A n c B 0 1 l _ (H.out.alloc hB _) (by omega) (by omega) (by omega)).mono ?_
        rintro e w1 ⟨rfl, rfl⟩
        rw [HT.out, HK.out]
        go_wp2_with fail
        refine (NumW.num_any A n c B 1 1 l _ ((H.out.alloc hB _).alloc (by simp; omega) _) (by omega) (by omega) (by omega)).mono ?_
        rintro e w1 ⟨rfl, rfl⟩
        rw [HT2.out, HV2.out]
        go_wp2_with fail
        exact bodyPost_ret (v := .tuple #[.agg #[.int .i64 0, .slice none 0 0, .int .i64 0, .int .i64 0, .int .i64 0], .int .i64 0, .int .i64 13]) (by simp [results, Tryz.results86, go_sem]) rfl ⟨none, 0, 0, rfl, Bytes.none_ _ _, by repeat (first | refine Below.setCell ?_ (by simp) _ | exact balloc (balloc (bsame _) _) _)⟩
      · have HT2 := Lib.hid (NumW.there_yes l 1 1 (by omega))
        have HV2 := Lib.hid (CellP.len1_val l (by omega))
        have hm := CellP.len1_lt l
        obtain ⟨m, hm'⟩ : ∃ m, CellP.len1 l = m := ⟨_, rfl⟩
        have HM := Lib.hid hm'
        rw [hm'] at hm
        by_cases h3 : l.length < 2 + CellP.len1 l
        · have HG := Lib.hid (CellP.get_rec_short l h0 hk1 (.inr h3))
          rw [HG.out]
          have h4 : (n : Int) < 2 + (m : Int) := by omega
          clear hk1 hm'
          go_enter Tryz.func86, Tryz.ntmps86
          go_wp2_with fail
          refine (NumW.num_any A n c B 0 1 l _ (H.out.alloc hB _) (by omega) (by omega) (by omega)).mono ?_
          rintro e w1 ⟨rfl, rfl⟩
          rw [HT.out, HK.out]
          go_wp2_with fail
          refine (NumW.num_any A n c B 1 1 l _ ((H.out.alloc hB _).alloc (by simp; omega) _) (by omega) (by omega) (by omega)).mono ?_
          rintro e w1 ⟨rfl, rfl⟩
          rw [HT2.out, HV2.out, HM.out]
          go_wp2_with fail
          exact bodyPost_ret (v := .tuple #[.agg #[.int .i64 0, .slice none 0 0, .int .i64 0, .int .i64 0, .int .i64 0], .int .i64 0, .int .i64 13]) (by simp [results, Tryz.results86, go_sem]) rfl ⟨none, 0, 0, rfl, Bytes.none_ _ _, by repeat (first | refine Below.setCell ?_ (by simp) _ | exact balloc (balloc (bsame _) _) _)⟩
        · have hnl : ¬ (l.length < 2 ∨ l.length < 2 + CellP.len1 l) := by omega
          have h4 : ¬ (n : Int) < 2 + (m : Int) := by omega
          have h5 : 2 + m ≤ n := by omega
          have hcn := h.2.1
          have hcm := h.2.2.1
          have hcut := h.cut 2 (2 + m) c (by omega) h5 (by omega) (by omega)
          rw [show 2 + m - 2 = m by omega] at hcut
          have hld := hcut.len
          obtain ⟨d, hd⟩ : ∃ d, (l.drop 2).take m = d := ⟨_, rfl⟩
          have HD := Lib.hid hd
          rw [hd] at hcut hld
          clear hd
          obtain ⟨W2, hW2⟩ : ∃ W2, (w.alloc (.cells #[.int .i64 0, .slice none 0 0, .int .i64 0, .int .i64 0, .int .i64 0] 100)).alloc (.cells #[.int .i64 1, .slice none 0 0, .int .i64 0, .int .i64 0, .int .i64 0] 100) = W2 := ⟨_, rfl⟩
          have hz2' : W2.heap.size = w.heap.size + 1 + 1 := by rw [← hW2]; simp
          have hbyW : Bytes W2 B (cutA A 2 c 1) m (c - 2) d := by
            rw [← hW2]
            exact (hcut.alloc hB _).alloc (by simp; omega) _
          obtain ⟨v', w3, happ, hown3, hgrow3⟩ := run_append_bytes (P := Tryz.prog) W2 W2.heap.size 27 27 5 i0 _ Tryz.underlying27 hi hz0 hz1 hz2 rfl (.slice none 0 0) 0 [] (World.ownsRow_nil _ _ _ _) B _ m _ d hbyW (by omega) (Nat.le_refl _)
          simp only [Nat.zero_add, List.nil_append] at hown3
          obtain ⟨A3, c3, rfl⟩ := own_slice hown3
          have hb3 : Below W2.heap.size W2 w3 := (Below.refl _ W2).grown hgrow3 (Nat.le_refl _) (fun k e => by simp [Value.ownBlock] at e)
          rw [hz2'] at hown3
          have HO3 := Lib.hid hown3
          have HB3 := Lib.hid hb3
          obtain ⟨hc3, hf3⟩ := bcell hb3
          rw [← hW2] at hc3 hf3 happ
          have hs3 := hb3.size
          rw [hz2'] at hs3
          have hs3' : w.heap.size < w3.heap.size := by omega
          have hs3'' : w.heap.size + 1 < w3.heap.size := by omega
          have HW3 : Hid (Below w.heap.size w w3) := Lib.hid (by
            refine Below.trans ?_ (hb3.mono (by rw [hz2']; omega))
            rw [← hW2]
            exact balloc (balloc (bsame _) _) _)
          have HS0 : Hid (Str w3 w.heap.size #[.int .i64 0, .slice none 0 0, .int .i64 0, .int .i64 0, .int .i64 0]) := Lib.hid (by
            refine Str.next ?_ hb3
            rw [← hW2]
            exact (Str.new w _ _).alloc _)
          have HS1 : Hid (Str w3 (w.heap.size + 1) #[.int .i64 1, .slice none 0 0, .int .i64 0, .int .i64 0, .int .i64 0]) := Lib.hid (by
            refine Str.next ?_ hb3
            rw [← hW2]
            have := Str.new (w.alloc (.cells #[.int .i64 0, .slice none 0 0, .int .i64 0, .int .i64 0, .int .i64 0] 100)) #[.int .i64 1, .slice none 0 0, .int .i64 0, .int .i64 0, .int .i64 0] 100
            simpa using this)
          clear hown3 hgrow3 hcut hbyW hb3 hs3 hz2'
          subst hW2
          by_cases hr : d.length ≤ 32
          · have HG : Hid (CellP.get l = (⟨1, d, 0, 0, 0⟩, 2 + (m : Int), 0)) := Lib.hid (by rw [CellP.get_rec l h0 hk1 hnl (by omega), hm', HD.out])
            rw [HG.out]
            have HR := Lib.hid (CellP.right_rec d hr)
            clear hk1 hm' hnl h3
            have hcd : CellP.code true = 0 := rfl
            go_enter Tryz.func86, Tryz.ntmps86
            go_wp2_with fail
            refine (NumW.num_any A n c B 0 1 l _ (H.out.alloc hB _) (by omega) (by omega) (by omega)).mono ?_
            rintro e w1 ⟨rfl, rfl⟩
            rw [HT.out, HK.out]
            go_wp2_with fail
            refine (NumW.num_any A n c B 1 1 l _ ((H.out.alloc hB _).alloc (by simp; omega) _) (by omega) (by omega) (by omega)).mono ?_
            rintro e w1 ⟨rfl, rfl⟩
            rw [HT2.out, HV2.out, HM.out]
            go_wp2_with fail
            refine (CellW.check_any A3 m c3 ⟨1, d, 0, 0, 0⟩ _ hld (by unfold maxLen at *; omega)).mono ?_
            rintro e w4 ⟨rfl, hb4⟩
            rw [HR.out]
            have hS := ((HS0.out.other 1 (.slice A3 m c3) (by omega : w.heap.size ≠ w.heap.size + 1)).next hb4)
            have hS1 := ((HS1.out.set 1 (.slice A3 m c3)).next hb4)
            obtain ⟨k0, k1, k2, k3, k4⟩ := str5 hS
            obtain ⟨q0, q1, q2, q3, q4⟩ := str5 hS1
            have kf := fun i => hS.frozen i
            have hb34 : Below w.heap.size w w4 := (HW3.out.setCell (by simp) _).trans (hb4.mono (by simp; omega))
            have HB34 := Lib.hid hb34
            have HB4 := Lib.hid hb4
            clear hS hS1 hb34 hb4 hc3 hf3 happ
            go_wp2_with fail
            refine bodyPost_ret (v := .tuple #[.agg #[.int .i64 1, .slice A3 m c3, .int .i64 0, .int .i64 0, .int .i64 0], .int .i64 (2 + (m : Int)), .int .i64 0]) (by simp [results, Tryz.results86, go_sem, *]) rfl ⟨A3, m, c3, rfl, ?_, by repeat (first | refine Below.setCell ?_ (by simp) _ | exact HB34.out)⟩
            refine Bytes.own (base := w.heap.size + 1 + 1) (k := m) (e := 5) ?_
            repeat (first | refine own_set ?_ (by omega) _ _ | exact own_next (own_set HO3.out (by omega) _ _) HB4.out)
          · have HG : Hid (CellP.get l = (CellP.none, 0, 12)) := Lib.hid (CellP.get_rec_form l h0 hk1 hnl (by omega))
            rw [HG.out]
            have HR := Lib.hid (CellP.right_rec_no d hr)
            clear hk1 hm' hnl h3
            have hcd : CellP.code false = 1 := rfl
            go_enter Tryz.func86, Tryz.ntmps86
            go_wp2_with fail
            refine (NumW.num_any A n c B 0 1 l _ (H.out.alloc hB _) (by omega) (by omega) (by omega)).mono ?_
            rintro e w1 ⟨rfl, rfl⟩
            rw [HT.out, HK.out]
            go_wp2_with fail
            refine (NumW.num_any A n c B 1 1 l _ ((H.out.alloc hB _).alloc (by simp; omega) _) (by omega) (by omega) (by omega)).mono ?_
            rintro e w1 ⟨rfl, rfl⟩
            rw [HT2.out, HV2.out, HM.out]
            go_wp2_with fail
            refine (CellW.check_any A3 m c3 ⟨1, d, 0, 0, 0⟩ _ hld (by unfold maxLen at *; omega)).mono ?_
            rintro e w4 ⟨rfl, hb4⟩
            rw [HR.out]
            have hS := ((HS0.out.other 1 (.slice A3 m c3) (by omega : w.heap.size ≠ w.heap.size + 1)).next hb4)
            have hS1 := ((HS1.out.set 1 (.slice A3 m c3)).next hb4)
            obtain ⟨k0, k1, k2, k3, k4⟩ := str5 hS
            obtain ⟨q0, q1, q2, q3, q4⟩ := str5 hS1
            have kf := fun i => hS.frozen i
            have hb34 : Below w.heap.size w w4 := (HW3.out.setCell (by simp) _).trans (hb4.mono (by simp; omega))
            have HB34 := Lib.hid hb34
            have HB4 := Lib.hid hb4
            clear hS hS1 hb34 hb4 hc3 hf3 happ
            go_wp2_with fail
            exact bodyPost_ret (v := .tuple #[.agg #[.int .i64 0, .slice none 0 0, .int .i64 0, .int .i64 0, .int .i64 0], .int .i64 0, .int .i64 12]) (by simp [results, Tryz.results86, go_sem, *]) rfl ⟨none, 0, 0, rfl, Bytes.none_ _ _, by repeat (first | refine Below.setCell ?_ (by simp) _ | exact HB34.out)⟩
    · by_cases hk2 : NumP.val l 0 1 = 2
      · have HK := Lib.hid hk2
        by_cases h2 : l.length < 25
        · have HG := Lib.hid (CellP.get_cnt_short l h0 hk2 h2)
          rw [HG.out]
          have h4 : (n : Int) < 25 := by omega
          clear hk1 hk2
          go_enter Tryz.func86, Tryz.ntmps86
          go_wp2_with fail
          refine (NumW.num_any A n c B 0 1 l _ (H.out.alloc hB _) (by omega) (by omega) (by omega)).mono ?_
          rintro e w1 ⟨rfl, rfl⟩
          rw [HT.out, HK.out]
          go_wp2_with fail
          exact bodyPost_ret (v := .tuple #[.agg #[.int .i64 0, .slice none 0 0, .int .i64 0, .int .i64 0, .int .i64 0], .int .i64 0, .int .i64 13]) (by simp [results, Tryz.results86, go_sem]) rfl ⟨none, 0, 0, rfl, Bytes.none_ _ _, by repeat (first | refine Below.setCell ?_ (by simp) _ | exact balloc (balloc (bsame _) _) _)⟩
        · have h4 : ¬ (n : Int) < 25 := by omega
          have hx1 := CellP.val_in l 1 8 (by omega)
          have hx2 := CellP.val_in l 9 8 (by omega)
          have hx3 := CellP.val_in l 17 8 (by omega)
          have HGY := fun h3 => Lib.hid (CellP.get_cnt l h0 hk2 h2 h3)
          have HGN := fun h3 => Lib.hid (CellP.get_cnt_form l h0 hk2 h2 h3)
          obtain ⟨lo, hlo⟩ : ∃ x, NumP.val l 1 8 = x := ⟨_, rfl⟩
          obtain ⟨hi', hhi⟩ : ∃ x, NumP.val l 9 8 = x := ⟨_, rfl⟩
          obtain ⟨v, hv⟩ : ∃ x, NumP.val l 17 8 = x := ⟨_, rfl⟩
          rw [hlo, hhi, hv] at HGY HGN
          rw [hlo] at hx1
          rw [hhi] at hx2
          rw [hv] at hx3
          have HLO := Lib.hid hlo
          have HHI := Lib.hid hhi
          have HV := Lib.hid hv
          clear hlo hhi hv hk1 hk2
          by_cases h3 : lo ≤ v ∧ v ≤ hi'
          · have HG := HGY h3
            rw [HG.out]
            have HR := Lib.hid (CellP.right_cnt lo hi' v h3)
            clear HGY HGN h3
            have hcd : CellP.code true = 0 := rfl
            go_enter Tryz.func86, Tryz.ntmps86
            go_wp2_with fail
            refine (NumW.num_any A n c B 0 1 l _ (H.out.alloc hB _) (by omega) (by omega) (by omega)).mono ?_
            rintro e w1 ⟨rfl, rfl⟩
            rw [HT.out, HK.out]
            go_wp2_with fail
            refine (NumW.num_any A n c B 1 8 l _ ((H.out.alloc hB _).alloc (by simp; omega) _) (by omega) (by omega) (by omega)).mono ?_
            rintro e w1 ⟨rfl, rfl⟩
            rw [HLO.out]
            go_wp2_with fail
            refine (NumW.num_any A n c B 9 8 l _ ((H.out.alloc hB _).alloc (by simp; omega) _) (by omega) (by omega) (by omega)).mono ?_
            rintro e w1 ⟨rfl, rfl⟩
            rw [HHI.out]
            go_wp2_with fail
            refine (NumW.num_any A n c B 17 8 l _ ((H.out.alloc hB _).alloc (by simp; omega) _) (by omega) (by omega) (by omega)).mono ?_
            rintro e w1 ⟨rfl, rfl⟩
            rw [HV.out]
            go_wp2_with fail
            refine (CellW.check_any none 0 0 ⟨2, [], lo, hi', v⟩ _ rfl (Nat.zero_le _)).mono ?_
            rintro e w4 ⟨rfl, hb4⟩
            rw [HR.out]
            have hS := ((Str.new w #[.int .i64 0, .slice none 0 0, .int .i64 0, .int .i64 0, .int .i64 0] 100).alloc _).next hb4
            have hS1 := (Str.new (w.alloc (.cells #[.int .i64 0, .slice none 0 0, .int .i64 0, .int .i64 0, .int .i64 0] 100)) #[.int .i64 2, .slice none 0 0, .int .i64 lo, .int .i64 hi', .int .i64 v] 100).next hb4
            simp only [World.size_alloc] at hS1
            obtain ⟨k0, k1, k2, k3, k4⟩ := str5 hS
            obtain ⟨q0, q1, q2, q3, q4⟩ := str5 hS1
            have kf := fun i => hS.frozen i
            have HB34 := Lib.hid (bstep (balloc (balloc (bsame _) _) _) hb4)
            clear hS hS1 hb4
            go_wp2_with fail
            exact bodyPost_ret (v := .tuple #[.agg #[.int .i64 2, .slice none 0 0, .int .i64 lo, .int .i64 hi', .int .i64 v], .int .i64 25, .int .i64 0]) (by simp [results, Tryz.results86, go_sem, *]) rfl ⟨none, 0, 0, rfl, Bytes.none_ _ _, by repeat (first | refine Below.setCell ?_ (by simp) _ | exact HB34.out)⟩
          · have HG := HGN h3
            rw [HG.out]
            have HR := Lib.hid (CellP.right_cnt_no lo hi' v h3)
            clear HGY HGN h3
            have hcd : CellP.code false = 1 := rfl
            go_enter Tryz.func86, Tryz.ntmps86
            go_wp2_with fail
            refine (NumW.num_any A n c B 0 1 l _ (H.out.alloc hB _) (by omega) (by omega) (by omega)).mono ?_
            rintro e w1 ⟨rfl, rfl⟩
            rw [HT.out, HK.out]
            go_wp2_with fail
            refine (NumW.num_any A n c B 1 8 l _ ((H.out.alloc hB _).alloc (by simp; omega) _) (by omega) (by omega) (by omega)).mono ?_
            rintro e w1 ⟨rfl, rfl⟩
            rw [HLO.out]
            go_wp2_with fail
            refine (NumW.num_any A n c B 9 8 l _ ((H.out.alloc hB _).alloc (by simp; omega) _) (by omega) (by omega) (by omega)).mono ?_
            rintro e w1 ⟨rfl, rfl⟩
            rw [HHI.out]
            go_wp2_with fail
            refine (NumW.num_any A n c B 17 8 l _ ((H.out.alloc hB _).alloc (by simp; omega) _) (by omega) (by omega) (by omega)).mono ?_
            rintro e w1 ⟨rfl, rfl⟩
            rw [HV.out]
            go_wp2_with fail
            refine (CellW.check_any none 0 0 ⟨2, [], lo, hi', v⟩ _ rfl (Nat.zero_le _)).mono ?_
            rintro e w4 ⟨rfl, hb4⟩
            rw [HR.out]
            have hS := ((Str.new w #[.int .i64 0, .slice none 0 0, .int .i64 0, .int .i64 0, .int .i64 0] 100).alloc _).next hb4
            have hS1 := (Str.new (w.alloc (.cells #[.int .i64 0, .slice none 0 0, .int .i64 0, .int .i64 0, .int .i64 0] 100)) #[.int .i64 2, .slice none 0 0, .int .i64 lo, .int .i64 hi', .int .i64 v] 100).next hb4
            simp only [World.size_alloc] at hS1
            obtain ⟨k0, k1, k2, k3, k4⟩ := str5 hS
            obtain ⟨q0, q1, q2, q3, q4⟩ := str5 hS1
            have kf := fun i => hS.frozen i
            have HB34 := Lib.hid (bstep (balloc (balloc (bsame _) _) _) hb4)
            clear hS hS1 hb4
            go_wp2_with fail
            exact bodyPost_ret (v := .tuple #[.agg #[.int .i64 0, .slice none 0 0, .int .i64 0, .int .i64 0, .int .i64 0], .int .i64 0, .int .i64 12]) (by simp [results, Tryz.results86, go_sem, *]) rfl ⟨none, 0, 0, rfl, Bytes.none_ _ _, by repeat (first | refine Below.setCell ?_ (by simp) _ | exact HB34.out)⟩
      · have HG := Lib.hid (CellP.get_other l h0 hk1 hk2)
        rw [HG.out]
        have HR := Lib.hid (CellP.right_other (NumP.val l 0 1) [] 0 0 0 hk1 hk2)
        obtain ⟨k, hk⟩ : ∃ k, NumP.val l 0 1 = k := ⟨_, rfl⟩
        have HK := Lib.hid hk
        rw [hk] at hk1 hk2 HR
        clear hk
        have hcf : CellP.code false = 1 := rfl
        go_enter Tryz.func86, Tryz.ntmps86
        go_wp2_with fail
        refine (NumW.num_any A n c B 0 1 l _ (H.out.alloc hB _) (by omega) (by omega) (by omega)).mono ?_
        rintro e w1 ⟨rfl, rfl⟩
        rw [HT.out, HK.out]
        go_wp2_with fail
        refine (CellW.check_any none 0 0 ⟨k, [], 0, 0, 0⟩ _ rfl (Nat.zero_le _)).mono ?_
        rintro e w1 ⟨rfl, hb⟩
        rw [HR.out]
        have hS := ((Str.new w #[.int .i64 0, .slice none 0 0, .int .i64 0, .int .i64 0, .int .i64 0] 100).alloc _).next hb
        obtain ⟨k0, k1, k2, k3, k4⟩ := str5 hS
        have kf := fun i => hS.frozen i
        clear hS
        go_wp2_with fail
        exact bodyPost_ret (v := .tuple #[.agg #[.int .i64 0, .slice none 0 0, .int .i64 0, .int .i64 0, .int .i64 0], .int .i64 0, .int .i64 12]) (by simp [results, Tryz.results86, go_sem, *]) rfl ⟨none, 0, 0, rfl, Bytes.none_ _ _, by repeat (first | refine Below.setCell ?_ (by simp) _ | exact bstep (balloc (balloc (bsame _) _) _) hb)⟩
end Go.Proofs.YtcfieofcnpalgaaGreat.CellGet
end
section
namespace Go.Proofs.YtcfieofcnpalgaaGreat.SlotGet
open Go.RowKit
/-- the call hands back this item, and this error's number -/
def GotItem (w : World) (r : Item × Int) (e : Ending) (w' : World) : Prop := ∃ A n cap, e = .returned (.tuple #[.agg #[.int .i64 r.1.state, .string r.1.key, .int .i64 r.1.cell.kind, .slice A n cap, .int .i64 r.1.cell.lo, .int .i64 r.1.cell.hi, .int .i64 r.1.cell.val], .int .i64 r.2]) ∧
  Bytes w' w'.heap.size A n cap r.1.cell.data ∧ Below w.heap.size w w'
end Go.Proofs.YtcfieofcnpalgaaGreat.SlotGet
end
