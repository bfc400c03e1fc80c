/-
  The walk of meta.New, and of the page's example of layer 21.
-/
import Derived.Test.YtjengjbkdflapaaMeta
import Derived.Test.YtjengjbkdflapaaLive05
namespace Go.Proofs.Ytjengjbkdflapaa.MetaP
/-- the note of a layout -/
def note (b p f c l : Int) : List UInt8 := [0] ++ BeP.parts 1 b ++ BeP.parts 2 p ++ BeP.parts 1 f ++ BeP.parts 1 c ++ BeP.parts 2 l
theorem note_length (b p f c l : Int) : (note b p f c l).length = 8 := by simp [note, BeP.parts_length]
/-- the page of a layout -/
def page (b p f c l : Int) : List UInt8 := SlotP.over (SlotP.over (SlotP.over (SlotP.zeros 512) 12 (BeP.parts 2 0)) 14 (BeP.parts 2 (b + 1))) 16 (note b p f c l)
def page1 : List UInt8 := SlotP.over (SlotP.zeros 512) 12 (BeP.parts 2 0)
def page2 (b : Int) : List UInt8 := SlotP.over page1 14 (BeP.parts 2 (b + 1))
theorem page1_length : page1.length = 512 := by
  rw [page1, SlotP.over_length _ _ _ (by rw [BeP.parts_length, SlotPut.zeros_len]; omega), SlotPut.zeros_len]
theorem page2_length (b : Int) : (page2 b).length = 512 := by
  rw [page2, SlotP.over_length _ _ _ (by rw [BeP.parts_length, page1_length]; omega), page1_length]
theorem page_length (b p f c l : Int) : (page b p f c l).length = 512 := by
  show (SlotP.over (page2 b) 16 _).length = 512
  rw [SlotP.over_length _ _ _ (by rw [note_length, page2_length]; omega), page2_length]
theorem note_back (b p f c l : Int) : BeP.parts 8 (NumP.val (note b p f c l) 0 8) = note b p f c l := by
  rw [NumP.parts_val _ _ (by rw [note_length]; omega), List.drop_zero, List.take_of_length_le (by rw [note_length]; omega)]
end Go.Proofs.Ytjengjbkdflapaa.MetaP
namespace Go.Proofs.Ytjengjbkdflapaa
theorem Str.lit {w : World} {b : Nat} {cs : Array Value} (h : Str w b cs) (l : List UInt8) (hC : cs = (l.map byteV).toArray) (hl : l.length ≤ maxLen) : Bytes w w.heap.size (some ⟨b, 0, none⟩) l.length l.length l :=
  ⟨rfl, Nat.le_refl _, hl, fun _ => ⟨b, 0, rfl, h.lt, fun j u hu => by rw [Nat.zero_add, h.cell, hC]; simp [hu]⟩⟩
end Go.Proofs.Ytjengjbkdflapaa
namespace Go.Proofs.Ytjengjbkdflapaa.MetaW
open Go.RowKit
attribute [local go_sem ↓] alPage_fold ldPage_fold stPage_fold bdPage_fold slPage_fold

theorem pageNew (w : World) : Calls Try.prog 52 #[.int .i64 0] w fun e w' => e = .returned (.agg (rowV MetaP.page1)) ∧ Below w.heap.size w w' := PageW.new_any 0 w
theorem pageNext (b : Int) (w : World) : Calls Try.prog 50 #[.agg (rowV MetaP.page1), .int .i64 (b + 1)] w fun e w' => e = .returned (.agg (rowV (MetaP.page2 b))) ∧ Below w.heap.size w w' := PageW.withNext_any _ MetaP.page1_length _ w
theorem pageNote (b p f c l : Int) (w : World) : Calls Try.prog 51 #[.agg (rowV (MetaP.page2 b)), .int .i64 (NumP.val (MetaP.note b p f c l) 0 8)] w fun e w' => e = .returned (.agg (rowV (MetaP.page b p f c l))) ∧ Below w.heap.size w w' := by
  have h := PageW.withNote_any _ (MetaP.page2_length b) (NumP.val (MetaP.note b p f c l) 0 8) w
  rw [MetaP.note_back] at h
  exact h
set_option maxRecDepth 100000 in
set_option maxHeartbeats 2000000 in
theorem new_any (b p f c l : Int) (hb1 : -1000000000 ≤ b) (hb2 : b ≤ 1000000000) (w : World) : Calls Try.prog 100 #[.agg #[.int .i64 b, .int .i64 p, .int .i64 f, .int .i64 c, .int .i64 l]] w fun e w' => e = .returned (.agg (rowV (MetaP.page b p f c l))) ∧ Below w.heap.size w w' := by
  have hal := fun W => run_al (P := Try.prog) arrPage W
  go_enter Try.func100, Try.ntmps100
  go_wp2_with fail
  generalize hW0 : (((w).alloc (.cells #[.int .i64 b, .int .i64 p, .int .i64 f, .int .i64 c, .int .i64 l] 70)).alloc (.cells (rowV (SlotP.zeros 512)) 51)).alloc (.cells #[.int .u8 0] 5) = W0
  have HS0_0 : Hid (Str W0 (w.heap.size) #[.int .i64 b, .int .i64 p, .int .i64 f, .int .i64 c, .int .i64 l]) := Lib.hid (by rw [← hW0]; have := ((Str.new (w) #[.int .i64 b, .int .i64 p, .int .i64 f, .int .i64 c, .int .i64 l] 70).alloc (.cells (rowV (SlotP.zeros 512)) 51)).alloc (.cells #[.int .u8 0] 5); simpa using this)
  have HS1_0 : Hid (Str W0 (w.heap.size + 1) (rowV (SlotP.zeros 512))) := Lib.hid (by rw [← hW0]; have := (Str.new ((w).alloc (.cells #[.int .i64 b, .int .i64 p, .int .i64 f, .int .i64 c, .int .i64 l] 70)) (rowV (SlotP.zeros 512)) 51).alloc (.cells #[.int .u8 0] 5); simpa using this)
  have HS2_0 : Hid (Str W0 (w.heap.size + 1 + 1) #[.int .u8 0]) := Lib.hid (by rw [← hW0]; have := Str.new (((w).alloc (.cells #[.int .i64 b, .int .i64 p, .int .i64 f, .int .i64 c, .int .i64 l] 70)).alloc (.cells (rowV (SlotP.zeros 512)) 51)) #[.int .u8 0] 5; simpa using this)
  have HB_0 : Hid (Below w.heap.size w W0) := Lib.hid (by rw [← hW0]; exact balloc (balloc (balloc (bsame w) _) _) _)
  have hw_0 := HB_0.out.size
  clear hW0
  obtain ⟨f0_0_0, f0_0_1, f0_0_2, f0_0_3, f0_0_4⟩ := str5 HS0_0.out
  have hl0_0 := HS0_0.out.lt
  have hl1_0 := HS1_0.out.lt
  have f2_0_0 := str1 HS2_0.out
  have hl2_0 := HS2_0.out.lt
  clear hal
  have HYx_0 := Lib.hid (HS2_0.out.lit [0] rfl (by decide))
  refine (Be.put_wide _ _ _ _ _ 1 b _ HYx_0.out (Nat.le_refl _) (by omega) (by omega) (by first | omega | decide)).mono ?_
  rintro e W1 ⟨A1, n1, c1, rfl, hy1, hb1⟩
  have HS0_1 := Lib.hid (HS0_0.out.next hb1)
  have HS1_1 := Lib.hid (HS1_0.out.next hb1)
  have HS2_1 := Lib.hid (HS2_0.out.next hb1)
  have HB_1 := Lib.hid (bstep HB_0.out hb1)
  have hw_1 := HB_1.out.size
  have hws_1 := (hb1).size
  have HYx_1 := Lib.hid (HYx_0.out.next hb1)
  clear HYx_0
  clear f0_0_0 f0_0_1 f0_0_2 f0_0_3 f0_0_4 HS0_0 HS1_0 f2_0_0 HS2_0
  clear hb1
  obtain ⟨f0_1_0, f0_1_1, f0_1_2, f0_1_3, f0_1_4⟩ := str5 HS0_1.out
  have hl0_1 := HS0_1.out.lt
  have hl1_1 := HS1_1.out.lt
  have f2_1_0 := str1 HS2_1.out
  have hl2_1 := HS2_1.out.lt
  clear HYx_1
  have HYx_1 := Lib.hid hy1
  clear hy1
  have hn1 := HYx_1.out.len
  simp only [List.length_append, List.length_cons, List.length_nil, BeP.parts_length] at hn1
  subst hn1
  go_wp2_with fail
  refine (Be.put_wide _ _ _ _ _ 2 p _ HYx_1.out (Nat.le_refl _) (by omega) (by omega) (by first | omega | decide)).mono ?_
  rintro e W2 ⟨A2, n2, c2, rfl, hy2, hb2⟩
  have HS0_2 := Lib.hid (HS0_1.out.next hb2)
  have HS1_2 := Lib.hid (HS1_1.out.next hb2)
  have HS2_2 := Lib.hid (HS2_1.out.next hb2)
  have HB_2 := Lib.hid (bstep HB_1.out hb2)
  have hw_2 := HB_2.out.size
  have hws_2 := (hb2).size
  have HYx_2 := Lib.hid (HYx_1.out.next hb2)
  clear HYx_1
  clear f0_1_0 f0_1_1 f0_1_2 f0_1_3 f0_1_4 HS0_1 HS1_1 f2_1_0 HS2_1
  clear hb2
  obtain ⟨f0_2_0, f0_2_1, f0_2_2, f0_2_3, f0_2_4⟩ := str5 HS0_2.out
  have hl0_2 := HS0_2.out.lt
  have hl1_2 := HS1_2.out.lt
  have f2_2_0 := str1 HS2_2.out
  have hl2_2 := HS2_2.out.lt
  clear HYx_2
  have HYx_2 := Lib.hid hy2
  clear hy2
  have hn2 := HYx_2.out.len
  simp only [List.length_append, List.length_cons, List.length_nil, BeP.parts_length] at hn2
  subst hn2
  go_wp2_with fail
  refine (Be.put_wide _ _ _ _ _ 1 f _ HYx_2.out (Nat.le_refl _) (by omega) (by omega) (by first | omega | decide)).mono ?_
  rintro e W3 ⟨A3, n3, c3, rfl, hy3, hb3⟩
  have HS0_3 := Lib.hid (HS0_2.out.next hb3)
  have HS1_3 := Lib.hid (HS1_2.out.next hb3)
  have HS2_3 := Lib.hid (HS2_2.out.next hb3)
  have HB_3 := Lib.hid (bstep HB_2.out hb3)
  have hw_3 := HB_3.out.size
  have hws_3 := (hb3).size
  have HYx_3 := Lib.hid (HYx_2.out.next hb3)
  clear HYx_2
  clear f0_2_0 f0_2_1 f0_2_2 f0_2_3 f0_2_4 HS0_2 HS1_2 f2_2_0 HS2_2
  clear hb3
  obtain ⟨f0_3_0, f0_3_1, f0_3_2, f0_3_3, f0_3_4⟩ := str5 HS0_3.out
  have hl0_3 := HS0_3.out.lt
  have hl1_3 := HS1_3.out.lt
  have f2_3_0 := str1 HS2_3.out
  have hl2_3 := HS2_3.out.lt
  clear HYx_3
  have HYx_3 := Lib.hid hy3
  clear hy3
  have hn3 := HYx_3.out.len
  simp only [List.length_append, List.length_cons, List.length_nil, BeP.parts_length] at hn3
  subst hn3
  go_wp2_with fail
  refine (Be.put_wide _ _ _ _ _ 1 c _ HYx_3.out (Nat.le_refl _) (by omega) (by omega) (by first | omega | decide)).mono ?_
  rintro e W4 ⟨A4, n4, c4, rfl, hy4, hb4⟩
  have HS0_4 := Lib.hid (HS0_3.out.next hb4)
  have HS1_4 := Lib.hid (HS1_3.out.next hb4)
  have HS2_4 := Lib.hid (HS2_3.out.next hb4)
  have HB_4 := Lib.hid (bstep HB_3.out hb4)
  have hw_4 := HB_4.out.size
  have hws_4 := (hb4).size
  have HYx_4 := Lib.hid (HYx_3.out.next hb4)
  clear HYx_3
  clear f0_3_0 f0_3_1 f0_3_2 f0_3_3 f0_3_4 HS0_3 HS1_3 f2_3_0 HS2_3
  clear hb4
  obtain ⟨f0_4_0, f0_4_1, f0_4_2, f0_4_3, f0_4_4⟩ := str5 HS0_4.out
  have hl0_4 := HS0_4.out.lt
  have hl1_4 := HS1_4.out.lt
  have f2_4_0 := str1 HS2_4.out
  have hl2_4 := HS2_4.out.lt
  clear HYx_4
  have HYx_4 := Lib.hid hy4
  clear hy4
  have hn4 := HYx_4.out.len
  simp only [List.length_append, List.length_cons, List.length_nil, BeP.parts_length] at hn4
  subst hn4
  go_wp2_with fail
  refine (Be.put_wide _ _ _ _ _ 2 l _ HYx_4.out (Nat.le_refl _) (by omega) (by omega) (by first | omega | decide)).mono ?_
  rintro e W5 ⟨A5, n5, c5, rfl, hy5, hb5⟩
  have HS0_5 := Lib.hid (HS0_4.out.next hb5)
  have HS1_5 := Lib.hid (HS1_4.out.next hb5)
  have HS2_5 := Lib.hid (HS2_4.out.next hb5)
  have HB_5 := Lib.hid (bstep HB_4.out hb5)
  have hw_5 := HB_5.out.size
  have hws_5 := (hb5).size
  have HYx_5 := Lib.hid (HYx_4.out.next hb5)
  clear HYx_4
  clear f0_4_0 f0_4_1 f0_4_2 f0_4_3 f0_4_4 HS0_4 HS1_4 f2_4_0 HS2_4
  clear hb5
  obtain ⟨f0_5_0, f0_5_1, f0_5_2, f0_5_3, f0_5_4⟩ := str5 HS0_5.out
  have hl0_5 := HS0_5.out.lt
  have hl1_5 := HS1_5.out.lt
  have f2_5_0 := str1 HS2_5.out
  have hl2_5 := HS2_5.out.lt
  clear HYx_5
  have HYx_5 := Lib.hid hy5
  clear hy5
  have hn5 := HYx_5.out.len
  simp only [List.length_append, List.length_cons, List.length_nil, BeP.parts_length] at hn5
  subst hn5
  go_wp2_with fail
  have hq : Bytes W5 W5.heap.size _ _ _ (MetaP.note b p f c l) := HYx_5.out
  refine (NumW.num_any _ _ _ _ 0 8 _ _ hq (by omega) (by omega) (by omega)).mono ?_
  rintro e w' ⟨rfl, rfl⟩
  go_wp2_with fail
  clear HYx_5 hq
  refine Reg.wp_region_tail (R := ext) (W := W5) [Reg.eqv (.agg (rowV MetaP.page1)), Reg.eqv (.pointer (some ⟨w.heap.size, 0, none⟩)), Reg.eqv (.int .i64 b), Reg.eqv (.int .i64 (b + 1)), Reg.eqv (.agg (rowV (MetaP.page2 b))), Reg.eqv (.int .i64 (NumP.val (MetaP.note b p f c l) 0 8)), Reg.eqv (.agg (rowV (MetaP.page b p f c l)))] 39 7 _ [[], [(1, none)], [(33, some 1)], [(34, some 2)], [(32, some 0), (35, some 3)], [(4, none)], [(36, some 4), (37, some 5)]] rfl (by kernel_rfl) (by kernel_rfl) (by rfl) (by rfl) rfl (by kernel_rfl) ?_ [some 32, some 33, some 34, some 35, some 36, some 37, some 38] (by kernel_rfl) ?_
  · refine ⟨?_, ?_, ?_, ?_, ?_, ?_, ?_, trivial⟩
    · intro ax wx hx hs
      refine Reg.obl_free rfl ?_
      go_simp
      refine (pageNew _).mono ?_
      rintro e wy ⟨rfl, hby⟩
      exact Reg.done (Option.some_ne_none _) rfl hby
    · intro ax wx hx hs
      obtain ⟨e1, -⟩ := hs
      have g1 := Reg.ev (v := .pointer (some ⟨w.heap.size, 0, none⟩)) e1
      exact Reg.obl_free rfl (Reg.wp_eqv (Option.some_ne_none _) (by go_simp) rfl)
    · intro ax wx hx hs
      obtain ⟨e33, -⟩ := hs
      have g33 := Reg.ev (v := .pointer (some ⟨w.heap.size, 0, none⟩)) e33
      obtain ⟨hc, -⟩ := bcell hx
      exact Reg.obl_free rfl (Reg.wp_eqv (Option.some_ne_none _) (by go_simp) rfl)
    · intro ax wx hx hs
      obtain ⟨e34, -⟩ := hs
      have g34 := Reg.ev (v := .int .i64 b) e34
      refine Reg.obl_free rfl ?_
      exact Reg.wp_eqv (Option.some_ne_none _) (by go_simp; exact MetaP.wrap_id _ (by omega) (by omega)) rfl
    · intro ax wx hx hs
      obtain ⟨e32, e35, -⟩ := hs
      have g32 := Reg.ev (v := .agg (rowV MetaP.page1)) e32
      have g35 := Reg.ev (v := .int .i64 (b + 1)) e35
      refine Reg.obl_free rfl ?_
      go_simp
      refine (pageNext _ _).mono ?_
      rintro e wy ⟨rfl, hby⟩
      exact Reg.done (Option.some_ne_none _) rfl hby
    · intro ax wx hx hs
      obtain ⟨e4, -⟩ := hs
      have g4 := Reg.ev (v := .int .i64 (NumP.val (MetaP.note b p f c l) 0 8)) e4
      exact Reg.obl_free rfl (Reg.wp_eqv (Option.some_ne_none _) (by go_simp) rfl)
    · intro ax wx hx hs
      obtain ⟨e36, e37, -⟩ := hs
      have g36 := Reg.ev (v := .agg (rowV (MetaP.page2 b))) e36
      have g37 := Reg.ev (v := .int .i64 (NumP.val (MetaP.note b p f c l) 0 8)) e37
      refine Reg.obl_free rfl ?_
      go_simp
      refine (pageNote _ _ _ _ _ _).mono ?_
      rintro e wy ⟨rfl, hby⟩
      exact Reg.done (Option.some_ne_none _) rfl hby
  · intro W6 hwf
    simp only [Reg.Fin]
    rintro _ rfl _ rfl _ rfl _ rfl _ rfl _ rfl _ rfl
    have hwf' : Below W5.heap.size W5 W6 := hwf
    clear hwf
    have HS0_6 := Lib.hid (HS0_5.out.next hwf')
    have HS1_6 := Lib.hid (HS1_5.out.next hwf')
    have HS2_6 := Lib.hid (HS2_5.out.next hwf')
    have HB_6 := Lib.hid (bstep HB_5.out hwf')
    have hw_6 := HB_6.out.size
    have hws_6 := (hwf').size
    clear f0_5_0 f0_5_1 f0_5_2 f0_5_3 f0_5_4 HS0_5 HS1_5 f2_5_0 HS2_5
    clear hwf'
    obtain ⟨f0_6_0, f0_6_1, f0_6_2, f0_6_3, f0_6_4⟩ := str5 HS0_6.out
    have hl0_6 := HS0_6.out.lt
    have hl1_6 := HS1_6.out.lt
    have f2_6_0 := str1 HS2_6.out
    have hl2_6 := HS2_6.out.lt
    have HLP := Lib.hid (MetaP.page_length b p f c l)
    have hst := run_st (P := Try.prog) arrPage HS1_6.out (by rw [rowV_size]; exact SlotPut.zeros_len 512) HLP.out
    have HS7 := Lib.hid (HS1_6.out.setRow (cs' := rowV (MetaP.page b p f c l)))
    have HB7 := Lib.hid (below_setRow HB_6.out (by omega : w.heap.size ≤ w.heap.size + 1) (rowV (MetaP.page b p f c l)))
    clear f0_6_0 f0_6_1 f0_6_2 f0_6_3 f0_6_4 HS0_6 HS1_6 f2_6_0 HS2_6
    refine Reg.Goal.mk ?_
    go_simp
    go_wp2_with fail
    exact bodyPost_ret (v := .agg (rowV (MetaP.page b p f c l))) (results_arr arrPage Try.results100 _ HS7.out HLP.out rfl) rfl ⟨rfl, HB7.out⟩

theorem ex_bytes : (((MetaP.page 2 9 4 3 4).drop 14).take 10 == [0, 3, 0, 2, 0, 9, 4, 3, 0, 4]) = true := by decide +kernel
set_option maxRecDepth 100000 in
set_option maxHeartbeats 1000000 in
theorem live_any (w : World) : Calls Try.prog 64 #[] w fun e w' => e = .returned (.bool true) ∧ Below w.heap.size w w' := by
  have hal := fun W => run_al (P := Try.prog) arrPage W
  have HLP := Lib.hid (MetaP.page_length 2 9 4 3 4)
  go_enter Try.func64, Try.ntmps64
  go_wp2_with fail
  refine (new_any 2 9 4 3 4 (by omega) (by omega) _).mono ?_
  rintro e w1 ⟨rfl, hb1⟩
  have hS := Str.new w1 (rowV (SlotP.zeros 512)) 51
  have hst := run_st (P := Try.prog) arrPage hS (by rw [rowV_size]; exact SlotPut.zeros_len 512) HLP.out
  obtain ⟨W2, hW2⟩ : ∃ W2, (w1.alloc (.cells (rowV (SlotP.zeros 512)) 51)).setRow w1.heap.size (rowV (MetaP.page 2 9 4 3 4)) = W2 := ⟨_, rfl⟩
  have hS2 : Str W2 w1.heap.size (rowV (MetaP.page 2 9 4 3 4)) := by rw [← hW2]; exact hS.setRow
  have hB2 : Below w1.heap.size w1 W2 := by rw [← hW2]; exact below_setRow (balloc (bsame _) _) (Nat.le_refl _) _
  rw [hW2] at hst
  have hP := hS2.part 14 10 498 (by rw [HLP.out]; omega) (by omega) (by unfold maxLen; omega)
  have HP := Lib.hid hP
  have hsl := fun W => run_sl (P := Try.prog) arrPage w1.heap.size 14 24 (by omega) (by omega) (by omega) W
  simp only [Int.cast_ofNat_Int] at hsl
  have HB := Lib.hid (bstep hb1 hB2)
  have HE := Lib.hid ex_bytes
  clear hS hW2 hS2 hB2 hP hb1
  go_wp2_with fail
  refine (Same.same_any _ _ _ _ _ _ _ _ _ [0, 3, 0, 2, 0, 9, 4, 3, 0, 4] _ (HP.out.alloc (Nat.le_refl _) _) (Live05.lit_bytes W2 [0, 3, 0, 2, 0, 9, 4, 3, 0, 4] _ rfl _ _ (by decide))).mono ?_
  rintro e w3 ⟨rfl, rfl⟩
  rw [HE.out]
  go_wp2_with fail
  go_ret
  exact ⟨rfl, balloc HB.out _⟩
end Go.Proofs.Ytjengjbkdflapaa.MetaW
