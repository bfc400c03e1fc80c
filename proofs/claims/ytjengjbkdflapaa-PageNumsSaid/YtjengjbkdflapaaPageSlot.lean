/-
  The walks of package page: slots of a page.
-/
import Derived.Test.YtjengjbkdflapaaPage
import Derived.Test.YtjengjbkdflapaaSlotGet
import Derived.Test.YtjengjbkdflapaaPPage
namespace Go.Proofs.Ytjengjbkdflapaa.PageW
open Go.RowKit
attribute [local go_sem ↓] alPage_fold ldPage_fold stPage_fold bdPage_fold slPage_fold cp_fold al64_fold ld64_fold st64_fold bd64_fold sl64_fold

set_option maxRecDepth 100000 in
set_option maxHeartbeats 1000000 in
theorem slot_out (l : List UInt8) (i : Int) (hi : i < 0 ∨ 7 ≤ i) (w : World) : Calls Try.prog 36 #[.agg (rowV l), .int .i64 i] w (SlotGet.GotItem w (SlotP.none, 2)) := by
  rcases hi with hi | hi
  · go_enter Try.func36, Try.ntmps36
    go_wp2
    refine bodyPost_ret (v := .tuple #[.agg #[.int .i64 0, .string ⟨#[]⟩, .int .i64 0, .slice none 0 0, .int .i64 0, .int .i64 0, .int .i64 0], .int .i64 2]) ?_ rfl ?_
    · simp [results, Try.results36, go_sem]
    · exact SlotGet.got_none _ _ _ (balloc (balloc (bsame w) _) _)
  · have hi' : ¬ i < 0 := by omega
    go_enter Try.func36, Try.ntmps36
    go_wp2
    refine bodyPost_ret (v := .tuple #[.agg #[.int .i64 0, .string ⟨#[]⟩, .int .i64 0, .slice none 0 0, .int .i64 0, .int .i64 0, .int .i64 0], .int .i64 2]) ?_ rfl ?_
    · simp [results, Try.results36, go_sem]
    · exact SlotGet.got_none _ _ _ (balloc (balloc (bsame w) _) _)

set_option maxRecDepth 100000 in
set_option maxHeartbeats 1000000 in
theorem slot_in (l : List UInt8) (hl : l.length = 512) (j : Nat) (hj : j < 7) (w : World) : Calls Try.prog 36 #[.agg (rowV l), .int .i64 (j : Int)] w (SlotGet.GotItem w (SlotP.get ((l.drop (32 + j * 64)).take 64))) := by
  have hal := fun W => run_al (P := Try.prog) arr64 W
  have HL := Lib.hid hl
  have HZ := Lib.hid (SlotPut.zeros_len 64)
  have HLS : Hid (((l.drop (32 + j * 64)).take 64).length = 64) := Lib.hid (by simp; omega)
  have hsl := fun W => run_sl_all (P := Try.prog) arr64 (w.heap.size + 1 + 1) W
  have hsl2 : ∀ W, (slSem 51 (.pointer (some ⟨w.heap.size, 0, none⟩)) (some (.int .i64 (32 + (j : Int) * 64))) none none).run Try.prog W = .ok (.slice (some ⟨w.heap.size, 32 + j * 64, none⟩) (512 - (32 + j * 64)) (512 - (32 + j * 64))) W := by
    intro W
    have := run_sl_from (P := Try.prog) arrPage w.heap.size (32 + j * 64) (by omega) W
    rwa [show ((32 + j * 64 : Nat) : Int) = 32 + (j : Int) * 64 by omega] at this
  clear hl
  go_enter Try.func36, Try.ntmps36
  go_wp2_with fail
  generalize hW0 : (((w).alloc (.cells (rowV l) 51)).alloc (.cells #[.int .i64 0, .string ⟨#[]⟩, .int .i64 0, .slice none 0 0, .int .i64 0, .int .i64 0, .int .i64 0] 38)).alloc (.cells (rowV (SlotP.zeros 64)) 41) = W0
  have HS0_0 : Hid (Str W0 (w.heap.size) (rowV l)) := Lib.hid (by rw [← hW0]; have := ((Str.new (w) (rowV l) 51).alloc (.cells #[.int .i64 0, .string ⟨#[]⟩, .int .i64 0, .slice none 0 0, .int .i64 0, .int .i64 0, .int .i64 0] 38)).alloc (.cells (rowV (SlotP.zeros 64)) 41); simpa using this)
  have HS1_0 : Hid (Str W0 (w.heap.size + 1) #[.int .i64 0, .string ⟨#[]⟩, .int .i64 0, .slice none 0 0, .int .i64 0, .int .i64 0, .int .i64 0]) := Lib.hid (by rw [← hW0]; have := (Str.new ((w).alloc (.cells (rowV l) 51)) #[.int .i64 0, .string ⟨#[]⟩, .int .i64 0, .slice none 0 0, .int .i64 0, .int .i64 0, .int .i64 0] 38).alloc (.cells (rowV (SlotP.zeros 64)) 41); simpa using this)
  have HS2_0 : Hid (Str W0 (w.heap.size + 1 + 1) (rowV (SlotP.zeros 64))) := Lib.hid (by rw [← hW0]; have := Str.new (((w).alloc (.cells (rowV l) 51)).alloc (.cells #[.int .i64 0, .string ⟨#[]⟩, .int .i64 0, .slice none 0 0, .int .i64 0, .int .i64 0, .int .i64 0] 38)) (rowV (SlotP.zeros 64)) 41; simpa using this)
  have HB_0 : Hid (Below w.heap.size w W0) := Lib.hid (by rw [← hW0]; exact balloc (balloc (balloc (bsame w) _) _) _)
  have hw_0 := HB_0.out.size
  clear hW0
  have hl0_0 := HS0_0.out.lt
  obtain ⟨f1_0_0, f1_0_1, f1_0_2, f1_0_3, f1_0_4, f1_0_5, f1_0_6⟩ := str7 HS1_0.out
  have hl1_0 := HS1_0.out.lt
  have hf1_0 := fun j => HS1_0.out.frozen j
  have hl2_0 := HS2_0.out.lt
  refine Reg.wp_region_tail (R := ext) (W := W0) [Reg.eqv (.slice (some ⟨w.heap.size + 1 + 1, 0, none⟩) 64 64), Reg.eqv (.int .i64 (j : Int)), Reg.eqv (.int .i64 ((j : Int) * 64)), Reg.eqv (.int .i64 (32 + (j : Int) * 64)), Reg.eqv (.slice (some ⟨w.heap.size, 32 + j * 64, none⟩) (512 - (32 + j * 64)) (512 - (32 + j * 64)))] 24 5 _ [[(6, none)], [(1, none)], [(15, some 1)], [(16, some 2)], [(2, none), (17, some 3)]] rfl (by kernel_rfl) (by kernel_rfl) (by rfl) (by rfl) rfl (by kernel_rfl) ?_ [some 14, some 15, some 16, some 17, some 18] (by kernel_rfl) ?_
  · refine ⟨?_, ?_, ?_, ?_, ?_, trivial⟩
    · intro ax wx hx hs
      obtain ⟨e6, -⟩ := hs
      have g6 := Reg.ev (v := .pointer (some ⟨w.heap.size + 1 + 1, 0, none⟩)) e6
      exact Reg.obl_free rfl (Reg.wp_eqv (Option.some_ne_none _) (by go_simp) rfl)
    · intro ax wx hx hs
      obtain ⟨e1, -⟩ := hs
      have g1 := Reg.ev (v := .int .i64 (j : Int)) e1
      exact Reg.obl_free rfl (Reg.wp_eqv (Option.some_ne_none _) (by go_simp) rfl)
    · intro ax wx hx hs
      obtain ⟨e15, -⟩ := hs
      have g15 := Reg.ev (v := .int .i64 (j : Int)) e15
      refine Reg.obl_free rfl ?_
      exact Reg.wp_eqv (Option.some_ne_none _) (by go_simp; exact IntWalk.i64_in _ (by omega)) rfl
    · intro ax wx hx hs
      obtain ⟨e16, -⟩ := hs
      have g16 := Reg.ev (v := .int .i64 ((j : Int) * 64)) e16
      refine Reg.obl_free rfl ?_
      exact Reg.wp_eqv (Option.some_ne_none _) (by go_simp; exact IntWalk.i64_in _ (by omega)) rfl
    · intro ax wx hx hs
      obtain ⟨e2, e17, -⟩ := hs
      have g2 := Reg.ev (v := .pointer (some ⟨w.heap.size, 0, none⟩)) e2
      have g17 := Reg.ev (v := .int .i64 (32 + (j : Int) * 64)) e17
      exact Reg.obl_free rfl (Reg.wp_eqv (Option.some_ne_none _) (by go_simp) rfl)
  · intro W1 hwf
    simp only [Reg.Fin]
    rintro _ rfl _ rfl _ rfl _ rfl _ rfl
    have hwf' : Below W0.heap.size W0 W1 := hwf
    have hsrc := (HS0_0.out.next hwf').part (32 + j * 64) (512 - (32 + j * 64)) (512 - (32 + j * 64)) (by rw [HL.out]; omega) (Nat.le_refl _) (by unfold maxLen; omega)
    rw [List.take_of_length_le (by rw [List.length_drop, HL.out]; omega)] at hsrc
    have HS0_1 := Lib.hid (HS0_0.out.next hwf')
    have HS1_1 := Lib.hid (HS1_0.out.next hwf')
    have HS2_1 := Lib.hid (HS2_0.out.next hwf')
    have HB_1 := Lib.hid (bstep HB_0.out hwf')
    have hw_1 := HB_1.out.size
    have hws_1 := (hwf').size
    clear HS0_0 f1_0_0 f1_0_1 f1_0_2 f1_0_3 f1_0_4 f1_0_5 f1_0_6 HS1_0 hf1_0 HS2_0
    clear hwf'
    have hl0_1 := HS0_1.out.lt
    obtain ⟨f1_1_0, f1_1_1, f1_1_2, f1_1_3, f1_1_4, f1_1_5, f1_1_6⟩ := str7 HS1_1.out
    have hl1_1 := HS1_1.out.lt
    have hf1_1 := fun j => HS1_1.out.frozen j
    have hl2_1 := HS2_1.out.lt
    obtain ⟨W2, hcp, hV2, hg2⟩ := copy_bytes (P := Try.prog) 22 22 3 5 Try.underlying22 Be.sizeU8 (dLen := 64) (dCap := 64) (off := 0) HS2_1.out hsrc (by rw [HZ.out]; omega)
    rw [SlotP.over_zero _ _ (by rw [HZ.out]; exact HLS.out.symm)] at hV2
    have HS1_2 := Lib.hid (HS1_1.out.grown hg2 (by omega))
    have HS2_2 := Lib.hid hV2
    have HB_2 := Lib.hid (below_grown HB_1.out hg2 (by omega))
    have hw_2 := HB_2.out.size
    clear hV2 hg2 hsrc hwf hsl hsl2 hal HS0_1
    refine Reg.Goal.mk ?_
    go_simp
    clear hcp
    have hld := run_ld (P := Try.prog) arr64 HS2_2.out HLS.out
    go_wp2_with fail
    refine (SlotGet.get_any _ HLS.out _).mono ?_
    rintro e W3 ⟨A1, n1, c1, rfl, hy1, hb3⟩
    generalize SlotP.get ((l.drop (32 + j * 64)).take 64) = r at *
    obtain ⟨⟨s, k, kind, data, lo, hi, val⟩, er⟩ := r
    dsimp only at *
    have HS1_3 := Lib.hid (HS1_2.out.next hb3)
    have HY3 := Lib.hid hy1
    have HB_3 := Lib.hid (bstep HB_2.out hb3)
    have hw_3 := HB_3.out.size
    clear hld hy1 hb3 HS1_2 HS2_2
    have HS0_3 := HS1_3
    clear HS1_3
    obtain ⟨f0_3_0, f0_3_1, f0_3_2, f0_3_3, f0_3_4, f0_3_5, f0_3_6⟩ := str7 HS0_3.out
    have hl0_3 := HS0_3.out.lt
    have hf0_3 := fun j => HS0_3.out.frozen j
    go_wp2_with fail
    generalize hW4 : (((((((W3).setCell ⟨w.heap.size + 1, 0, none⟩ (.int .i64 s)).setCell ⟨w.heap.size + 1, 1, none⟩ (.string k)).setCell ⟨w.heap.size + 1, 2, none⟩ (.int .i64 kind)).setCell ⟨w.heap.size + 1, 3, none⟩ (.slice A1 n1 c1)).setCell ⟨w.heap.size + 1, 4, none⟩ (.int .i64 lo)).setCell ⟨w.heap.size + 1, 5, none⟩ (.int .i64 hi)).setCell ⟨w.heap.size + 1, 6, none⟩ (.int .i64 val) = W4
    have HS0_4 : Hid (Str W4 (w.heap.size + 1) #[.int .i64 s, .string k, .int .i64 kind, .slice A1 n1 c1, .int .i64 lo, .int .i64 hi, .int .i64 val]) := Lib.hid (by rw [← hW4]; have := (((((((HS0_3.out).set 0 (.int .i64 s)).set 1 (.string k)).set 2 (.int .i64 kind)).set 3 (.slice A1 n1 c1)).set 4 (.int .i64 lo)).set 5 (.int .i64 hi)).set 6 (.int .i64 val); simpa using this)
    have hgr4 : W3.grownBy W4 (some (w.heap.size + 1)) := by rw [← hW4]; exact grown_set (grown_set (grown_set (grown_set (grown_set (grown_set (grown_set (grown_refl W3 (w.heap.size + 1)) 0 (.int .i64 s)) 1 (.string k)) 2 (.int .i64 kind)) 3 (.slice A1 n1 c1)) 4 (.int .i64 lo)) 5 (.int .i64 hi)) 6 (.int .i64 val)
    have HB_4 := Lib.hid (below_grown HB_3.out hgr4 (by omega))
    have hw_4 := HB_4.out.size
    have hws_4 := hgr4.size
    have HY4 : Hid (Bytes W4 W4.heap.size A1 n1 c1 data) := Lib.hid ((Bytes.grown HY3.out (Nat.le_refl _) HS0_3.out rfl hgr4).more hws_4)
    clear hW4
    clear f0_3_0 f0_3_1 f0_3_2 f0_3_3 f0_3_4 f0_3_5 f0_3_6 HS0_3 hf0_3
    clear hgr4
    obtain ⟨f0_4_0, f0_4_1, f0_4_2, f0_4_3, f0_4_4, f0_4_5, f0_4_6⟩ := str7 HS0_4.out
    have hl0_4 := HS0_4.out.lt
    have hf0_4 := fun j => HS0_4.out.frozen j
    refine bodyPost_ret (v := .tuple #[.agg #[.int .i64 s, .string k, .int .i64 kind, .slice A1 n1 c1, .int .i64 lo, .int .i64 hi, .int .i64 val], .int .i64 er]) ?_ rfl ?_
    · simp [results, Try.results36, go_sem, *]
    · exact ⟨A1, n1, c1, rfl, HY4.out, HB_4.out⟩

theorem slot_any (l : List UInt8) (hl : l.length = 512) (i : Int) (w : World) : Calls Try.prog 36 #[.agg (rowV l), .int .i64 i] w (SlotGet.GotItem w (PageP.slot l i)) := by
  unfold PageP.slot
  by_cases hi : i < 0 ∨ 7 ≤ i
  · rw [if_pos hi]
    exact slot_out l i hi w
  · rw [if_neg hi]
    obtain ⟨j, rfl⟩ : ∃ j : Nat, i = (j : Int) := ⟨i.toNat, by omega⟩
    rw [show (j : Int).toNat = j by omega]
    exact slot_in l hl j (by omega) w

set_option maxRecDepth 100000 in
set_option maxHeartbeats 1000000 in
theorem withSlot_out (l : List UInt8) (hl : l.length = 512) (i : Int) (hi : i < 0 ∨ 7 ≤ i) (A : Option Addr) (n cap : Nat) (x : Item) (w : World) :
    Calls Try.prog 38 #[.agg (rowV l), .int .i64 i, SlotW.itemV A n cap x] w fun e w' => e = .returned (.agg (rowV l)) ∧ Below w.heap.size w w' := by
  have hal := fun W => run_al (P := Try.prog) arrPage W
  obtain ⟨s, k, kind, data, lo, hi', val⟩ := x
  rcases hi with hi | hi
  · have hS0 : Str (((w.alloc (.cells (rowV l) 51)).alloc (.cells #[.int .i64 s, .string k, .int .i64 kind, .slice A n cap, .int .i64 lo, .int .i64 hi', .int .i64 val] 38)).alloc (.cells (rowV (SlotP.zeros 512)) 51)) w.heap.size (rowV l) := ((Str.new w (rowV l) 51).alloc _).alloc _
    have hS2 : Str (((w.alloc (.cells (rowV l) 51)).alloc (.cells #[.int .i64 s, .string k, .int .i64 kind, .slice A n cap, .int .i64 lo, .int .i64 hi', .int .i64 val] 38)).alloc (.cells (rowV (SlotP.zeros 512)) 51)) (w.heap.size + 1 + 1) (rowV (SlotP.zeros 512)) := by
      have := Str.new ((w.alloc (.cells (rowV l) 51)).alloc (.cells #[.int .i64 s, .string k, .int .i64 kind, .slice A n cap, .int .i64 lo, .int .i64 hi', .int .i64 val] 38)) (rowV (SlotP.zeros 512)) 51
      simpa using this
    have hld := run_ld (P := Try.prog) arrPage hS0 hl
    have hst := run_st (P := Try.prog) arrPage hS2 (by rw [rowV_size]; exact SlotPut.zeros_len 512) hl
    have HB7 := Lib.hid (below_setRow (balloc (balloc (balloc (bsame w) (.cells (rowV l) 51)) (.cells #[.int .i64 s, .string k, .int .i64 kind, .slice A n cap, .int .i64 lo, .int .i64 hi', .int .i64 val] 38)) (.cells (rowV (SlotP.zeros 512)) 51)) (by omega : w.heap.size ≤ w.heap.size + 1 + 1) (rowV l))
    have HS7 := Lib.hid (hS2.setRow (cs' := rowV l))
    have HL := Lib.hid hl
    clear hS0 hS2 hl
    go_enter Try.func38, Try.ntmps38
    go_wp2
    exact bodyPost_ret (v := .agg (rowV l)) (results_arr arrPage Try.results38 _ HS7.out HL.out rfl) rfl ⟨rfl, HB7.out⟩
  · have hin : ¬ i < 0 := by omega
    have hS0 : Str (((w.alloc (.cells (rowV l) 51)).alloc (.cells #[.int .i64 s, .string k, .int .i64 kind, .slice A n cap, .int .i64 lo, .int .i64 hi', .int .i64 val] 38)).alloc (.cells (rowV (SlotP.zeros 512)) 51)) w.heap.size (rowV l) := ((Str.new w (rowV l) 51).alloc _).alloc _
    have hS2 : Str (((w.alloc (.cells (rowV l) 51)).alloc (.cells #[.int .i64 s, .string k, .int .i64 kind, .slice A n cap, .int .i64 lo, .int .i64 hi', .int .i64 val] 38)).alloc (.cells (rowV (SlotP.zeros 512)) 51)) (w.heap.size + 1 + 1) (rowV (SlotP.zeros 512)) := by
      have := Str.new ((w.alloc (.cells (rowV l) 51)).alloc (.cells #[.int .i64 s, .string k, .int .i64 kind, .slice A n cap, .int .i64 lo, .int .i64 hi', .int .i64 val] 38)) (rowV (SlotP.zeros 512)) 51
      simpa using this
    have hld := run_ld (P := Try.prog) arrPage hS0 hl
    have hst := run_st (P := Try.prog) arrPage hS2 (by rw [rowV_size]; exact SlotPut.zeros_len 512) hl
    have HB7 := Lib.hid (below_setRow (balloc (balloc (balloc (bsame w) (.cells (rowV l) 51)) (.cells #[.int .i64 s, .string k, .int .i64 kind, .slice A n cap, .int .i64 lo, .int .i64 hi', .int .i64 val] 38)) (.cells (rowV (SlotP.zeros 512)) 51)) (by omega : w.heap.size ≤ w.heap.size + 1 + 1) (rowV l))
    have HS7 := Lib.hid (hS2.setRow (cs' := rowV l))
    have HL := Lib.hid hl
    clear hS0 hS2 hl
    go_enter Try.func38, Try.ntmps38
    go_wp2
    exact bodyPost_ret (v := .agg (rowV l)) (results_arr arrPage Try.results38 _ HS7.out HL.out rfl) rfl ⟨rfl, HB7.out⟩

set_option maxRecDepth 100000 in
set_option maxHeartbeats 1000000 in
theorem withSlot_in (l : List UInt8) (hl : l.length = 512) (j : Nat) (hj : j < 7) (A : Option Addr) (n cap B : Nat) (x : Item) (w : World) (h : Bytes w B A n cap x.cell.data) (hB : B ≤ w.heap.size) (hk : x.key.size ≤ maxLen) :
    Calls Try.prog 38 #[.agg (rowV l), .int .i64 (j : Int), SlotW.itemV A n cap x] w fun e w' => e = .returned (.agg (rowV (SlotP.over l (32 + j * 64) (SlotP.bytes x)))) ∧ Below w.heap.size w w' := by
  have hal := fun W => run_al (P := Try.prog) arrPage W
  have HL := Lib.hid hl
  have H := Lib.hid h
  have HK := Lib.hid hk
  have HZ := Lib.hid (SlotPut.zeros_len 512)
  have HLO : Hid ((SlotP.over l (32 + j * 64) (SlotP.bytes x)).length = 512) := Lib.hid (by rw [SlotP.over_length _ _ _ (by rw [SlotP.bytes_length]; omega)]; exact hl)
  have hsl2 : ∀ W, (slSem 51 (.pointer (some ⟨w.heap.size, 0, none⟩)) (some (.int .i64 (32 + (j : Int) * 64))) none none).run Try.prog W = .ok (.slice (some ⟨w.heap.size, 32 + j * 64, none⟩) (512 - (32 + j * 64)) (512 - (32 + j * 64))) W := by
    intro W
    have := run_sl_from (P := Try.prog) arrPage w.heap.size (32 + j * 64) (by omega) W
    rwa [show ((32 + j * 64 : Nat) : Int) = 32 + (j : Int) * 64 by omega] at this
  clear hl h hk
  obtain ⟨s, k, kind, data, lo, hi, val⟩ := x
  dsimp only at *
  go_enter Try.func38, Try.ntmps38
  go_wp2_with fail
  generalize hW0 : (((w).alloc (.cells (rowV l) 51)).alloc (.cells #[.int .i64 s, .string k, .int .i64 kind, .slice A n cap, .int .i64 lo, .int .i64 hi, .int .i64 val] 38)).alloc (.cells (rowV (SlotP.zeros 512)) 51) = W0
  have HS0_0 : Hid (Str W0 (w.heap.size) (rowV l)) := Lib.hid (by rw [← hW0]; have := ((Str.new (w) (rowV l) 51).alloc (.cells #[.int .i64 s, .string k, .int .i64 kind, .slice A n cap, .int .i64 lo, .int .i64 hi, .int .i64 val] 38)).alloc (.cells (rowV (SlotP.zeros 512)) 51); simpa using this)
  have HS1_0 : Hid (Str W0 (w.heap.size + 1) #[.int .i64 s, .string k, .int .i64 kind, .slice A n cap, .int .i64 lo, .int .i64 hi, .int .i64 val]) := Lib.hid (by rw [← hW0]; have := (Str.new ((w).alloc (.cells (rowV l) 51)) #[.int .i64 s, .string k, .int .i64 kind, .slice A n cap, .int .i64 lo, .int .i64 hi, .int .i64 val] 38).alloc (.cells (rowV (SlotP.zeros 512)) 51); simpa using this)
  have HS2_0 : Hid (Str W0 (w.heap.size + 1 + 1) (rowV (SlotP.zeros 512))) := Lib.hid (by rw [← hW0]; have := Str.new (((w).alloc (.cells (rowV l) 51)).alloc (.cells #[.int .i64 s, .string k, .int .i64 kind, .slice A n cap, .int .i64 lo, .int .i64 hi, .int .i64 val] 38)) (rowV (SlotP.zeros 512)) 51; simpa using this)
  have HB_0 : Hid (Below w.heap.size w W0) := Lib.hid (by rw [← hW0]; exact balloc (balloc (balloc (bsame w) _) _) _)
  have hw_0 := HB_0.out.size
  clear hW0
  have hl0_0 := HS0_0.out.lt
  obtain ⟨f1_0_0, f1_0_1, f1_0_2, f1_0_3, f1_0_4, f1_0_5, f1_0_6⟩ := str7 HS1_0.out
  have hl1_0 := HS1_0.out.lt
  have hl2_0 := HS2_0.out.lt
  refine (SlotPut.put_any A n cap B ⟨s, k, kind, data, lo, hi, val⟩ _ (H.out.below (HB_0.out.mono hB)) (by omega) HK.out).mono ?_
  rintro e W1 ⟨rfl, hb1⟩
  have HS0_1 := Lib.hid (HS0_0.out.next hb1)
  have HS1_1 := Lib.hid (HS1_0.out.next hb1)
  have HS2_1 := Lib.hid (HS2_0.out.next hb1)
  have HB_1 := Lib.hid (bstep HB_0.out hb1)
  have hw_1 := HB_1.out.size
  have hws_1 := (hb1).size
  clear HS0_0 f1_0_0 f1_0_1 f1_0_2 f1_0_3 f1_0_4 f1_0_5 f1_0_6 HS1_0 HS2_0
  clear hb1
  have hl0_1 := HS0_1.out.lt
  obtain ⟨f1_1_0, f1_1_1, f1_1_2, f1_1_3, f1_1_4, f1_1_5, f1_1_6⟩ := str7 HS1_1.out
  have hl1_1 := HS1_1.out.lt
  have hl2_1 := HS2_1.out.lt
  clear hal
  have hal := fun W => run_al (P := Try.prog) arr64 W
  have hst1 := run_st (P := Try.prog) arr64 (Str.new W1 (rowV (SlotP.zeros 64)) 41) (by rw [rowV_size]; exact SlotPut.zeros_len 64) (SlotP.bytes_length ⟨s, k, kind, data, lo, hi, val⟩)
  obtain ⟨W2, hW2⟩ : ∃ W, (W1.alloc (.cells (rowV (SlotP.zeros 64)) 41)).setRow W1.heap.size (rowV (SlotP.bytes ⟨s, k, kind, data, lo, hi, val⟩)) = W := ⟨_, rfl⟩
  rw [hW2] at hst1
  have HS0_2 : Hid (Str W2 (w.heap.size) (rowV l)) := Lib.hid (by rw [← hW2]; exact (HS0_1.out.alloc _).setRow_other (by omega))
  have HS1_2 : Hid (Str W2 (w.heap.size + 1) #[.int .i64 s, .string k, .int .i64 kind, .slice A n cap, .int .i64 lo, .int .i64 hi, .int .i64 val]) := Lib.hid (by rw [← hW2]; exact (HS1_1.out.alloc _).setRow_other (by omega))
  have HS2_2 : Hid (Str W2 (w.heap.size + 1 + 1) (rowV (SlotP.zeros 512))) := Lib.hid (by rw [← hW2]; exact (HS2_1.out.alloc _).setRow_other (by omega))
  have HS3_2 : Hid (Str W2 W1.heap.size (rowV (SlotP.bytes ⟨s, k, kind, data, lo, hi, val⟩))) := Lib.hid (by rw [← hW2]; exact (Str.new W1 (rowV (SlotP.zeros 64)) 41).setRow)
  have hba2 : Below W1.heap.size W1 W2 := by rw [← hW2]; exact below_setRow (balloc (bsame _) _) (Nat.le_refl _) _
  have HB_2 := Lib.hid (bstep HB_1.out hba2)
  have hw_2 := HB_2.out.size
  have hws_2 := hba2.size
  clear hW2 hba2
  clear HS0_1 f1_1_0 f1_1_1 f1_1_2 f1_1_3 f1_1_4 f1_1_5 f1_1_6 HS1_1 HS2_1
  have hl0_2 := HS0_2.out.lt
  obtain ⟨f1_2_0, f1_2_1, f1_2_2, f1_2_3, f1_2_4, f1_2_5, f1_2_6⟩ := str7 HS1_2.out
  have hl1_2 := HS1_2.out.lt
  have hl2_2 := HS2_2.out.lt
  have hl3_2 := HS3_2.out.lt
  go_wp2_with fail
  clear hal hst1
  have hsl := fun W => run_sl_all (P := Try.prog) arr64 W1.heap.size W
  refine Reg.wp_region_tail (R := ext) (W := W2) [Reg.eqv (.int .i64 (j : Int)), Reg.eqv (.int .i64 ((j : Int) * 64)), Reg.eqv (.int .i64 (32 + (j : Int) * 64)), Reg.eqv (.slice (some ⟨w.heap.size, 32 + j * 64, none⟩) (512 - (32 + j * 64)) (512 - (32 + j * 64))), Reg.eqv (.slice (some ⟨W1.heap.size, 0, none⟩) 64 64)] 24 5 _ [[(1, none)], [(17, some 0)], [(18, some 1)], [(3, none), (19, some 2)], [(7, none)]] rfl (by kernel_rfl) (by kernel_rfl) (by rfl) (by rfl) rfl (by kernel_rfl) ?_ [some 17, some 18, some 19, some 20, some 21] (by kernel_rfl) ?_
  · refine ⟨?_, ?_, ?_, ?_, ?_, trivial⟩
    · intro ax wx hx hs
      obtain ⟨e1, -⟩ := hs
      have g1 := Reg.ev (v := .int .i64 (j : Int)) e1
      exact Reg.obl_free rfl (Reg.wp_eqv (Option.some_ne_none _) (by go_simp) rfl)
    · intro ax wx hx hs
      obtain ⟨e17, -⟩ := hs
      have g17 := Reg.ev (v := .int .i64 (j : Int)) e17
      refine Reg.obl_free rfl ?_
      exact Reg.wp_eqv (Option.some_ne_none _) (by go_simp; exact IntWalk.i64_in _ (by omega)) rfl
    · intro ax wx hx hs
      obtain ⟨e18, -⟩ := hs
      have g18 := Reg.ev (v := .int .i64 ((j : Int) * 64)) e18
      refine Reg.obl_free rfl ?_
      exact Reg.wp_eqv (Option.some_ne_none _) (by go_simp; exact IntWalk.i64_in _ (by omega)) rfl
    · intro ax wx hx hs
      obtain ⟨e3, e19, -⟩ := hs
      have g3 := Reg.ev (v := .pointer (some ⟨w.heap.size, 0, none⟩)) e3
      have g19 := Reg.ev (v := .int .i64 (32 + (j : Int) * 64)) e19
      exact Reg.obl_free rfl (Reg.wp_eqv (Option.some_ne_none _) (by go_simp) rfl)
    · intro ax wx hx hs
      obtain ⟨e7, -⟩ := hs
      have g7 := Reg.ev (v := .pointer (some ⟨W1.heap.size, 0, none⟩)) e7
      exact Reg.obl_free rfl (Reg.wp_eqv (Option.some_ne_none _) (by go_simp) rfl)
  · intro W3 hwf
    simp only [Reg.Fin]
    rintro _ rfl _ rfl _ rfl _ rfl _ rfl
    have hwf' : Below W2.heap.size W2 W3 := hwf
    have hsrc := (HS3_2.out.next hwf').part 0 64 64 (by rw [SlotP.bytes_length]; omega) (by omega) (by unfold maxLen; omega)
    rw [List.drop_zero, List.take_of_length_le (by rw [SlotP.bytes_length]; omega)] at hsrc
    obtain ⟨W4, hcp, hV0, hg4⟩ := copy_bytes (P := Try.prog) 22 22 3 5 Try.underlying22 Be.sizeU8 (dLen := 512 - (32 + j * 64)) (dCap := 512 - (32 + j * 64)) (off := 32 + j * 64) (HS0_2.out.next hwf') hsrc (by rw [HL.out]; omega)
    rw [List.take_of_length_le (by rw [SlotP.bytes_length]; omega)] at hV0
    rw [show Nat.min 64 (512 - (32 + j * 64)) = 64 from Nat.min_eq_left (by omega)] at hcp
    have hV2 := (HS2_2.out.next hwf').grown hg4 (by omega)
    have HB4 := Lib.hid (below_grown (bstep HB_2.out hwf') hg4 (by omega))
    have hld := run_ld (P := Try.prog) arrPage hV0 HLO.out
    have hst := run_st (P := Try.prog) arrPage hV2 (by rw [rowV_size]; exact HZ.out) HLO.out
    have HB7 := Lib.hid (below_setRow HB4.out (by omega : w.heap.size ≤ w.heap.size + 1 + 1) (rowV (SlotP.over l (32 + j * 64) (SlotP.bytes ⟨s, k, kind, data, lo, hi, val⟩))))
    have HS7 := Lib.hid (hV2.setRow (cs' := rowV (SlotP.over l (32 + j * 64) (SlotP.bytes ⟨s, k, kind, data, lo, hi, val⟩))))
    clear hwf hwf' hV0 hV2 hg4 hsl hsl2 HB4 hsrc
    refine Reg.Goal.mk ?_
    go_simp
    clear hcp
    go_wp2_with fail
    exact bodyPost_ret (v := .agg (rowV (SlotP.over l (32 + j * 64) (SlotP.bytes ⟨s, k, kind, data, lo, hi, val⟩)))) (results_arr arrPage Try.results38 _ HS7.out HLO.out rfl) rfl ⟨rfl, HB7.out⟩

theorem withSlot_any (l : List UInt8) (hl : l.length = 512) (i : Int) (A : Option Addr) (n cap B : Nat) (x : Item) (w : World) (h : Bytes w B A n cap x.cell.data) (hB : B ≤ w.heap.size) (hk : x.key.size ≤ maxLen) :
    Calls Try.prog 38 #[.agg (rowV l), .int .i64 i, SlotW.itemV A n cap x] w fun e w' => e = .returned (.agg (rowV (PageP.withSlot l i x))) ∧ Below w.heap.size w w' := by
  unfold PageP.withSlot
  by_cases hi : i < 0 ∨ 7 ≤ i
  · rw [if_pos hi]
    exact withSlot_out l hl i hi A n cap x w
  · rw [if_neg hi]
    obtain ⟨j, rfl⟩ : ∃ j : Nat, i = (j : Int) := ⟨i.toNat, by omega⟩
    rw [show (j : Int).toNat = j by omega]
    exact withSlot_in l hl j (by omega) A n cap B x w h hB hk
end Go.Proofs.Ytjengjbkdflapaa.PageW
