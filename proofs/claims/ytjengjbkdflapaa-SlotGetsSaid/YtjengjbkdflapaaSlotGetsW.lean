/-
  The walk of SlotGets: the Go text returns true for all 64 bytes, and writes nothing that was there.
-/
import Derived.Test.YtjengjbkdflapaaOpen3
import Derived.Test.YtjengjbkdflapaaLive06
import Derived.Test.YtjengjbkdflapaaRefSlotGet
namespace Go.Proofs.Ytjengjbkdflapaa.slotGets
open Go.RowKit
attribute [local go_sem ↓] al64_fold ld64_fold st64_fold bd64_fold sl64_fold cp_fold

theorem get_cases (l : List UInt8) : (SlotP.get l).2 = 0 ∧ SlotP.bytes (SlotP.get l).1 = l ∧ (SlotP.get l).1.key.size ≤ maxLen ∨ (SlotP.get l).2 = 12 := by
  unfold SlotP.get
  by_cases h : l = SlotP.zeros 64
  · rw [if_pos h, h]
    exact .inl ⟨rfl, RefSlotGet.bytes_none, by decide⟩
  · rw [if_neg h]
    by_cases hg : SlotP.good l = true
    · rw [if_pos hg]
      refine .inl ⟨rfl, ?_, ?_⟩
      · unfold SlotP.good at hg
        simp only [Bool.and_eq_true, beq_iff_eq] at hg
        exact hg.2.2.2
      · unfold SlotP.good at hg
        simp only [Bool.and_eq_true, decide_eq_true_eq] at hg
        have h1 := hg.1
        show ((l.drop 2).take (l.getD 1 0).toNat).toArray.size ≤ maxLen
        rw [List.size_toArray, List.length_take]
        unfold maxLen
        omega
    · rw [if_neg hg]
      exact .inr rfl

set_option maxRecDepth 100000 in
set_option maxHeartbeats 2000000 in
theorem walk (v0 : Value) (l : List UInt8) (w : World) (g0 : RArr 64 v0 l) :
    Calls Try.prog 6 #[v0] w fun e w' => e = .returned (.bool true) ∧ Below w.heap.size w w' := by
  obtain ⟨rfl, hl⟩ := g0
  have HL := Lib.hid hl
  have HR := Lib.hid (fun W => SlotGet.get_any l hl W)
  have HQ := Lib.hid (fun (A : Option Addr) (c B : Nat) W (h : Bytes W B A 64 c l) hB => RefSlotGet.get_any A c B l W h hB)
  have hcs := get_cases l
  generalize SlotP.get l = r at *
  obtain ⟨⟨s, k, kind, data, lo, hi, val⟩, er⟩ := r
  dsimp only at hcs
  have HS : Hid (Str (w.alloc (.cells (rowV l) 41)) w.heap.size (rowV l)) := Lib.hid (Str.new w (rowV l) 41)
  have hld := run_ld (P := Try.prog) arr64 HS.out hl
  have hsl := fun W => run_sl_all (P := Try.prog) arr64 w.heap.size W
  have hgd := arr64.guard
  have HCS := Lib.hid hcs
  clear hcs hl
  go_enter Try.func6, Try.ntmps6
  go_wp2_with fail
  generalize hW0 : (w).alloc (.cells (rowV l) 41) = W0
  have HS0_0 : Hid (Str W0 (w.heap.size) (rowV l)) := Lib.hid (by rw [← hW0]; have := Str.new (w) (rowV l) 41; simpa using this)
  have HB_0 : Hid (Below w.heap.size w W0) := Lib.hid (by rw [← hW0]; exact balloc (bsame w) _)
  have hw_0 := HB_0.out.size
  clear hW0
  have hl0_0 := HS0_0.out.lt
  clear hld HS
  refine (HR.out _).mono ?_
  rintro e W1 ⟨A1, n1, c1, rfl, hy1, hb1⟩
  dsimp only at hy1 ⊢
  have HY1 := Lib.hid hy1
  clear hy1
  have HS0_1 := Lib.hid (HS0_0.out.next hb1)
  have HB_1 := Lib.hid (bstep HB_0.out hb1)
  have hw_1 := HB_1.out.size
  have hws_1 := (hb1).size
  clear HS0_0
  clear hb1
  have hl0_1 := HS0_1.out.lt
  go_wp2_with fail
  generalize hW2 : W1.alloc (.cells #[.int .i64 s, .string k, .int .i64 kind, .slice A1 n1 c1, .int .i64 lo, .int .i64 hi, .int .i64 val] 38) = W2
  have HS0_2 : Hid (Str W2 (w.heap.size) (rowV l)) := Lib.hid (by rw [← hW2]; exact HS0_1.out.alloc _)
  have HS1_2 : Hid (Str W2 W1.heap.size #[.int .i64 s, .string k, .int .i64 kind, .slice A1 n1 c1, .int .i64 lo, .int .i64 hi, .int .i64 val]) := Lib.hid (by rw [← hW2]; exact Str.new W1 #[.int .i64 s, .string k, .int .i64 kind, .slice A1 n1 c1, .int .i64 lo, .int .i64 hi, .int .i64 val] 38)
  have hba2 : Below W1.heap.size W1 W2 := by rw [← hW2]; exact balloc (bsame _) _
  have HB_2 := Lib.hid (bstep HB_1.out hba2)
  have hw_2 := HB_2.out.size
  have hws_2 := hba2.size
  clear hW2
  clear HS0_1
  have hl0_2 := HS0_2.out.lt
  obtain ⟨f1_2_0, f1_2_1, f1_2_2, f1_2_3, f1_2_4, f1_2_5, f1_2_6⟩ := str7 HS1_2.out
  have hl1_2 := HS1_2.out.lt
  have HY2 := Lib.hid (HY1.out.next hba2)
  clear hba2
  have hpt := HS0_2.out.part 0 64 64 (by rw [HL.out]; omega) (by omega) (by unfold maxLen; omega)
  rw [List.drop_zero, List.take_of_length_le (by rw [HL.out]; omega)] at hpt
  refine (HQ.out _ _ _ _ hpt (Nat.le_refl _)).mono ?_
  rintro e W3 ⟨A3, n3, c3, rfl, hy3, hb3⟩
  dsimp only at hy3 ⊢
  have HY3 := Lib.hid hy3
  have HZ3 := Lib.hid (HY2.out.next hb3)
  clear hy3 hpt
  have HS0_3 := Lib.hid (HS0_2.out.next hb3)
  have HS1_3 := Lib.hid (HS1_2.out.next hb3)
  have HB_3 := Lib.hid (bstep HB_2.out hb3)
  have hw_3 := HB_3.out.size
  have hws_3 := (hb3).size
  clear HS0_2 f1_2_0 f1_2_1 f1_2_2 f1_2_3 f1_2_4 f1_2_5 f1_2_6 HS1_2
  clear hb3
  have hl0_3 := HS0_3.out.lt
  obtain ⟨f1_3_0, f1_3_1, f1_3_2, f1_3_3, f1_3_4, f1_3_5, f1_3_6⟩ := str7 HS1_3.out
  have hl1_3 := HS1_3.out.lt
  go_wp2_with fail
  generalize hW4 : W3.alloc (.cells #[.int .i64 s, .string k, .int .i64 kind, .slice A3 n3 c3, .int .i64 lo, .int .i64 hi, .int .i64 val] 38) = W4
  have HS0_4 : Hid (Str W4 (w.heap.size) (rowV l)) := Lib.hid (by rw [← hW4]; exact HS0_3.out.alloc _)
  have HS1_4 : Hid (Str W4 (W1.heap.size) #[.int .i64 s, .string k, .int .i64 kind, .slice A1 n1 c1, .int .i64 lo, .int .i64 hi, .int .i64 val]) := Lib.hid (by rw [← hW4]; exact HS1_3.out.alloc _)
  have HS2_4 : Hid (Str W4 W3.heap.size #[.int .i64 s, .string k, .int .i64 kind, .slice A3 n3 c3, .int .i64 lo, .int .i64 hi, .int .i64 val]) := Lib.hid (by rw [← hW4]; exact Str.new W3 #[.int .i64 s, .string k, .int .i64 kind, .slice A3 n3 c3, .int .i64 lo, .int .i64 hi, .int .i64 val] 38)
  have hba4 : Below W3.heap.size W3 W4 := by rw [← hW4]; exact balloc (bsame _) _
  have HB_4 := Lib.hid (bstep HB_3.out hba4)
  have hw_4 := HB_4.out.size
  have hws_4 := hba4.size
  clear hW4
  clear HS0_3 f1_3_0 f1_3_1 f1_3_2 f1_3_3 f1_3_4 f1_3_5 f1_3_6 HS1_3
  have hl0_4 := HS0_4.out.lt
  obtain ⟨f1_4_0, f1_4_1, f1_4_2, f1_4_3, f1_4_4, f1_4_5, f1_4_6⟩ := str7 HS1_4.out
  have hl1_4 := HS1_4.out.lt
  obtain ⟨f2_4_0, f2_4_1, f2_4_2, f2_4_3, f2_4_4, f2_4_5, f2_4_6⟩ := str7 HS2_4.out
  have hl2_4 := HS2_4.out.lt
  have HY4 := Lib.hid (HY3.out.next hba4)
  have HZ4 := Lib.hid (HZ3.out.next hba4)
  clear hba4
  rcases HCS.out with ⟨he, hbl, hks⟩ | he
  · subst he
    have HBL := Lib.hid hbl
    have HKS := Lib.hid hks
    clear hbl hks
    refine Reg.wp_region_vals (R := ext) (W := W4) [Reg.eqv (.agg #[.int .i64 s, .string k, .int .i64 kind, .slice A1 n1 c1, .int .i64 lo, .int .i64 hi, .int .i64 val]), Reg.eqv (.agg #[.int .i64 s, .string k, .int .i64 kind, .slice A3 n3 c3, .int .i64 lo, .int .i64 hi, .int .i64 val]), Reg.eqv (.bool true), Reg.eqv (.bool true), Reg.eqv (.int .i64 0), Reg.eqv (.int .i64 0), Reg.eqv (.int .i64 0), Reg.eqv (.bool true), Reg.eqv (.bool true), Reg.eqv (.bool true), Reg.eqv (.int .i64 0), Reg.eqv (.bool false), Reg.eqv (.bool false), Reg.eqv (.agg #[.int .i64 s, .string k, .int .i64 kind, .slice A1 n1 c1, .int .i64 lo, .int .i64 hi, .int .i64 val]), Reg.eqv (.agg (rowV l)), Reg.eqv (.agg (rowV l)), Reg.eqv (.bool true), Reg.eqv (.bool true), Reg.eqv (.bool true), Reg.eqv (.bool true), Reg.eqv (.bool true), Reg.eqv (.bool true), Reg.eqv (.bool true)] 39 [[(3, none)], [(5, none)], [(17, some 0), (18, some 1)], [(19, some 2)], [(4, none), (20, some 3)], [(21, some 4), (20, some 3)], [(6, none), (20, some 3)], [(22, some 5), (23, some 6), (20, some 3)], [(20, some 3), (24, some 7)], [(25, some 8)], [(6, none), (26, some 9)], [(27, some 10), (26, some 9)], [(28, some 11), (26, some 9)], [(3, none), (29, some 12)], [(30, some 13), (29, some 12)], [(1, none), (29, some 12)], [(31, some 14), (32, some 15), (29, some 12)], [(29, some 12), (33, some 16), (26, some 9)], [(26, some 9), (34, some 17)], [(35, some 18)], [(36, some 19)], [(36, some 19), (37, some 20)], [(38, some 21)]] rfl (by kernel_rfl) (by kernel_rfl) (by kernel_rfl) ?_ [some 17, some 18, some 19, some 20, some 21, some 22, some 23, some 24, some 25, some 26, some 27, some 28, some 29, some 30, some 31, some 32, some 33, some 34, some 35, some 36, some 37, some 38, some 2] (by kernel_rfl) ?_
    · refine ⟨?_, ?_, ?_, ?_, ?_, ?_, ?_, ?_, ?_, ?_, ?_, ?_, ?_, ?_, ?_, ?_, ?_, ?_, ?_, ?_, ?_, ?_, ?_, trivial⟩
      · intro ax wx hx hs
        obtain ⟨e3, -⟩ := hs
        have g3 := Reg.ev (v := .pointer (some ⟨W1.heap.size, 0, none⟩)) e3
        obtain ⟨hc, -⟩ := bcell hx
        exact Reg.obl_free rfl (Reg.wp_eqv (Option.some_ne_none _) (by go_simp) rfl)
      · intro ax wx hx hs
        obtain ⟨e5, -⟩ := hs
        have g5 := Reg.ev (v := .pointer (some ⟨W3.heap.size, 0, none⟩)) e5
        obtain ⟨hc, -⟩ := bcell hx
        exact Reg.obl_free rfl (Reg.wp_eqv (Option.some_ne_none _) (by go_simp) rfl)
      · intro ax wx hx hs
        obtain ⟨e17, e18, -⟩ := hs
        have g17 := Reg.ev (v := .agg #[.int .i64 s, .string k, .int .i64 kind, .slice A1 n1 c1, .int .i64 lo, .int .i64 hi, .int .i64 val]) e17
        have g18 := Reg.ev (v := .agg #[.int .i64 s, .string k, .int .i64 kind, .slice A3 n3 c3, .int .i64 lo, .int .i64 hi, .int .i64 val]) e18
        refine Reg.obl_free rfl ?_
        have hx' : Below W4.heap.size W4 wx := hx
        go_simp
        refine (SlotW.refSame_any A1 A3 n1 c1 n3 c3 W4.heap.size W4.heap.size ⟨s, k, kind, data, lo, hi, val⟩ ⟨s, k, kind, data, lo, hi, val⟩ _ (HZ4.out.below hx') (HY4.out.below hx') hx'.size hx'.size).mono ?_
        rintro e wy ⟨rfl, hby⟩
        rw [SlotP.same_self]
        exact Reg.done (Option.some_ne_none _) rfl hby
      · intro ax wx hx hs
        obtain ⟨e19, -⟩ := hs
        have g19 := Reg.ev (v := .bool true) e19
        exact Reg.obl_free rfl (Reg.wp_eqv (Option.some_ne_none _) (by go_simp) rfl)
      · intro ax wx hx hs
        obtain ⟨e4, e20, -⟩ := hs
        have g4 := Reg.ev (v := .int .i64 0) e4
        have g20 := Reg.ev (v := .bool true) e20
        exact Reg.obl_want rfl rfl e20 (Reg.wp_eqv (Option.some_ne_none _) (by go_simp) rfl)
      · intro ax wx hx hs
        obtain ⟨e21, e20, -⟩ := hs
        have g21 := Reg.ev (v := .int .i64 0) e21
        have g20 := Reg.ev (v := .bool true) e20
        refine Reg.obl_want rfl rfl e20 ?_
        go_simp
        refine (SlotW.code6_any _ _).mono ?_
        rintro e wy ⟨rfl, rfl⟩
        exact Reg.done (Option.some_ne_none _) rfl (bsame _)
      · intro ax wx hx hs
        obtain ⟨e6, e20, -⟩ := hs
        have g6 := Reg.ev (v := .int .i64 0) e6
        have g20 := Reg.ev (v := .bool true) e20
        exact Reg.obl_want rfl rfl e20 (Reg.wp_eqv (Option.some_ne_none _) (by go_simp) rfl)
      · intro ax wx hx hs
        obtain ⟨e22, e23, e20, -⟩ := hs
        have g22 := Reg.ev (v := .int .i64 0) e22
        have g23 := Reg.ev (v := .int .i64 0) e23
        have g20 := Reg.ev (v := .bool true) e20
        exact Reg.obl_want rfl rfl e20 (Reg.wp_eqv (Option.some_ne_none _) (by go_simp) rfl)
      · intro ax wx hx hs
        obtain ⟨e20, e24, -⟩ := hs
        have g20 := Reg.ev (v := .bool true) e20
        have g24 := Reg.ev (v := .bool true) e24
        exact Reg.obl_free rfl (Reg.wp_eqv (Option.some_ne_none _) (by go_simp) rfl)
      · intro ax wx hx hs
        obtain ⟨e25, -⟩ := hs
        have g25 := Reg.ev (v := .bool true) e25
        exact Reg.obl_free rfl (Reg.wp_eqv (Option.some_ne_none _) (by go_simp) rfl)
      · intro ax wx hx hs
        obtain ⟨e6, e26, -⟩ := hs
        have g6 := Reg.ev (v := .int .i64 0) e6
        have g26 := Reg.ev (v := .bool true) e26
        exact Reg.obl_want rfl rfl e26 (Reg.wp_eqv (Option.some_ne_none _) (by go_simp) rfl)
      · intro ax wx hx hs
        obtain ⟨e27, e26, -⟩ := hs
        have g27 := Reg.ev (v := .int .i64 0) e27
        have g26 := Reg.ev (v := .bool true) e26
        exact Reg.obl_want rfl rfl e26 (Reg.wp_eqv (Option.some_ne_none _) (by go_simp) rfl)
      · intro ax wx hx hs
        obtain ⟨e28, e26, -⟩ := hs
        have g28 := Reg.ev (v := .bool false) e28
        have g26 := Reg.ev (v := .bool true) e26
        exact Reg.obl_want rfl rfl e26 (Reg.wp_eqv (Option.some_ne_none _) (by go_simp) rfl)
      · intro ax wx hx hs
        obtain ⟨e3, e29, -⟩ := hs
        have g3 := Reg.ev (v := .pointer (some ⟨W1.heap.size, 0, none⟩)) e3
        have g29 := Reg.ev (v := .bool false) e29
        obtain ⟨hc, -⟩ := bcell hx
        exact Reg.obl_want rfl rfl e29 (Reg.wp_eqv (Option.some_ne_none _) (by go_simp) rfl)
      · intro ax wx hx hs
        obtain ⟨e30, e29, -⟩ := hs
        have g30 := Reg.ev (v := .agg #[.int .i64 s, .string k, .int .i64 kind, .slice A1 n1 c1, .int .i64 lo, .int .i64 hi, .int .i64 val]) e30
        have g29 := Reg.ev (v := .bool false) e29
        refine Reg.obl_want rfl rfl e29 ?_
        have hx' : Below W4.heap.size W4 wx := hx
        go_simp
        refine (SlotPut.put_any A1 n1 c1 W4.heap.size ⟨s, k, kind, data, lo, hi, val⟩ _ (HZ4.out.below hx') hx'.size HKS.out).mono ?_
        rintro e wy ⟨rfl, hby⟩
        rw [HBL.out]
        exact Reg.done (Option.some_ne_none _) rfl hby
      · intro ax wx hx hs
        obtain ⟨e1, e29, -⟩ := hs
        have g1 := Reg.ev (v := .pointer (some ⟨w.heap.size, 0, none⟩)) e1
        have g29 := Reg.ev (v := .bool false) e29
        obtain ⟨hc, -⟩ := bcell hx
        refine Reg.obl_want rfl rfl e29 ?_
        have hx' : Below W4.heap.size W4 wx := hx
        have hld := run_ld (P := Try.prog) arr64 (HS0_4.out.next hx') HL.out
        exact Reg.wp_eqv (Option.some_ne_none _) (by go_simp) rfl
      · intro ax wx hx hs
        obtain ⟨e31, e32, e29, -⟩ := hs
        have g31 := Reg.ev (v := .agg (rowV l)) e31
        have g32 := Reg.ev (v := .agg (rowV l)) e32
        have g29 := Reg.ev (v := .bool false) e29
        refine Reg.obl_want rfl rfl e29 ?_
        have harr := fun W => run_arr_eq (P := Try.prog) arr64 l l HL.out HL.out W
        rw [beq_self_eq_true] at harr
        exact Reg.wp_eqv (Option.some_ne_none _) (by go_simp) rfl
      · intro ax wx hx hs
        obtain ⟨e29, e33, e26, -⟩ := hs
        have g29 := Reg.ev (v := .bool false) e29
        have g33 := Reg.ev (v := .bool true) e33
        have g26 := Reg.ev (v := .bool true) e26
        exact Reg.obl_want rfl rfl e26 (Reg.wp_eqv (Option.some_ne_none _) (by go_simp) rfl)
      · intro ax wx hx hs
        obtain ⟨e26, e34, -⟩ := hs
        have g26 := Reg.ev (v := .bool true) e26
        have g34 := Reg.ev (v := .bool true) e34
        exact Reg.obl_free rfl (Reg.wp_eqv (Option.some_ne_none _) (by go_simp) rfl)
      · intro ax wx hx hs
        obtain ⟨e35, -⟩ := hs
        have g35 := Reg.ev (v := .bool true) e35
        exact Reg.obl_free rfl (Reg.wp_eqv (Option.some_ne_none _) (by go_simp) rfl)
      · intro ax wx hx hs
        obtain ⟨e36, -⟩ := hs
        have g36 := Reg.ev (v := .bool true) e36
        refine Reg.obl_want rfl rfl e36 ?_
        have hx' : Below W4.heap.size W4 wx := hx
        go_simp
        refine (Live06.live_any _).mono ?_
        rintro e wy ⟨rfl, hby⟩
        exact Reg.done (Option.some_ne_none _) rfl hby
      · intro ax wx hx hs
        obtain ⟨e36, e37, -⟩ := hs
        have g36 := Reg.ev (v := .bool true) e36
        have g37 := Reg.ev (v := .bool true) e37
        exact Reg.obl_free rfl (Reg.wp_eqv (Option.some_ne_none _) (by go_simp) rfl)
      · intro ax wx hx hs
        obtain ⟨e38, -⟩ := hs
        have g38 := Reg.ev (v := .bool true) e38
        exact Reg.obl_free rfl (Reg.wp_eqv (Option.some_ne_none _) (by go_simp) rfl)
    · intro wf hwf
      simp only [Reg.Fin]
      rintro _ rfl _ rfl _ rfl _ rfl _ rfl _ rfl _ rfl _ rfl _ rfl _ rfl _ rfl _ rfl _ rfl _ rfl _ rfl _ rfl _ rfl _ rfl _ rfl _ rfl _ rfl _ rfl _ rfl
      go_simp
      go_wp2_with fail
      go_ret
      exact ⟨rfl, bstep HB_4.out hwf⟩
  · subst he
    refine Reg.wp_region_vals (R := ext) (W := W4) [Reg.eqv (.agg #[.int .i64 s, .string k, .int .i64 kind, .slice A1 n1 c1, .int .i64 lo, .int .i64 hi, .int .i64 val]), Reg.eqv (.agg #[.int .i64 s, .string k, .int .i64 kind, .slice A3 n3 c3, .int .i64 lo, .int .i64 hi, .int .i64 val]), Reg.eqv (.bool true), Reg.eqv (.bool true), Reg.eqv (.int .i64 12), Reg.eqv (.int .i64 12), Reg.eqv (.int .i64 12), Reg.eqv (.bool true), Reg.eqv (.bool true), Reg.eqv (.bool true), Reg.eqv (.int .i64 12), Reg.eqv (.bool true), Reg.eqv (.bool true), Reg.eqv undef, Reg.eqv undef, Reg.eqv undef, Reg.eqv undef, Reg.eqv (.bool true), Reg.eqv (.bool true), Reg.eqv (.bool true), Reg.eqv (.bool true), Reg.eqv (.bool true), Reg.eqv (.bool true)] 39 [[(3, none)], [(5, none)], [(17, some 0), (18, some 1)], [(19, some 2)], [(4, none), (20, some 3)], [(21, some 4), (20, some 3)], [(6, none), (20, some 3)], [(22, some 5), (23, some 6), (20, some 3)], [(20, some 3), (24, some 7)], [(25, some 8)], [(6, none), (26, some 9)], [(27, some 10), (26, some 9)], [(28, some 11), (26, some 9)], [(3, none), (29, some 12)], [(30, some 13), (29, some 12)], [(1, none), (29, some 12)], [(31, some 14), (32, some 15), (29, some 12)], [(29, some 12), (33, some 16), (26, some 9)], [(26, some 9), (34, some 17)], [(35, some 18)], [(36, some 19)], [(36, some 19), (37, some 20)], [(38, some 21)]] rfl (by kernel_rfl) (by kernel_rfl) (by kernel_rfl) ?_ [some 17, some 18, some 19, some 20, some 21, some 22, some 23, some 24, some 25, some 26, some 27, some 28, some 29, some 30, some 31, some 32, some 33, some 34, some 35, some 36, some 37, some 38, some 2] (by kernel_rfl) ?_
    · refine ⟨?_, ?_, ?_, ?_, ?_, ?_, ?_, ?_, ?_, ?_, ?_, ?_, ?_, ?_, ?_, ?_, ?_, ?_, ?_, ?_, ?_, ?_, ?_, trivial⟩
      · intro ax wx hx hs
        obtain ⟨e3, -⟩ := hs
        have g3 := Reg.ev (v := .pointer (some ⟨W1.heap.size, 0, none⟩)) e3
        obtain ⟨hc, -⟩ := bcell hx
        exact Reg.obl_free rfl (Reg.wp_eqv (Option.some_ne_none _) (by go_simp) rfl)
      · intro ax wx hx hs
        obtain ⟨e5, -⟩ := hs
        have g5 := Reg.ev (v := .pointer (some ⟨W3.heap.size, 0, none⟩)) e5
        obtain ⟨hc, -⟩ := bcell hx
        exact Reg.obl_free rfl (Reg.wp_eqv (Option.some_ne_none _) (by go_simp) rfl)
      · intro ax wx hx hs
        obtain ⟨e17, e18, -⟩ := hs
        have g17 := Reg.ev (v := .agg #[.int .i64 s, .string k, .int .i64 kind, .slice A1 n1 c1, .int .i64 lo, .int .i64 hi, .int .i64 val]) e17
        have g18 := Reg.ev (v := .agg #[.int .i64 s, .string k, .int .i64 kind, .slice A3 n3 c3, .int .i64 lo, .int .i64 hi, .int .i64 val]) e18
        refine Reg.obl_free rfl ?_
        have hx' : Below W4.heap.size W4 wx := hx
        go_simp
        refine (SlotW.refSame_any A1 A3 n1 c1 n3 c3 W4.heap.size W4.heap.size ⟨s, k, kind, data, lo, hi, val⟩ ⟨s, k, kind, data, lo, hi, val⟩ _ (HZ4.out.below hx') (HY4.out.below hx') hx'.size hx'.size).mono ?_
        rintro e wy ⟨rfl, hby⟩
        rw [SlotP.same_self]
        exact Reg.done (Option.some_ne_none _) rfl hby
      · intro ax wx hx hs
        obtain ⟨e19, -⟩ := hs
        have g19 := Reg.ev (v := .bool true) e19
        exact Reg.obl_free rfl (Reg.wp_eqv (Option.some_ne_none _) (by go_simp) rfl)
      · intro ax wx hx hs
        obtain ⟨e4, e20, -⟩ := hs
        have g4 := Reg.ev (v := .int .i64 12) e4
        have g20 := Reg.ev (v := .bool true) e20
        exact Reg.obl_want rfl rfl e20 (Reg.wp_eqv (Option.some_ne_none _) (by go_simp) rfl)
      · intro ax wx hx hs
        obtain ⟨e21, e20, -⟩ := hs
        have g21 := Reg.ev (v := .int .i64 12) e21
        have g20 := Reg.ev (v := .bool true) e20
        refine Reg.obl_want rfl rfl e20 ?_
        go_simp
        refine (SlotW.code6_any _ _).mono ?_
        rintro e wy ⟨rfl, rfl⟩
        exact Reg.done (Option.some_ne_none _) rfl (bsame _)
      · intro ax wx hx hs
        obtain ⟨e6, e20, -⟩ := hs
        have g6 := Reg.ev (v := .int .i64 12) e6
        have g20 := Reg.ev (v := .bool true) e20
        exact Reg.obl_want rfl rfl e20 (Reg.wp_eqv (Option.some_ne_none _) (by go_simp) rfl)
      · intro ax wx hx hs
        obtain ⟨e22, e23, e20, -⟩ := hs
        have g22 := Reg.ev (v := .int .i64 12) e22
        have g23 := Reg.ev (v := .int .i64 12) e23
        have g20 := Reg.ev (v := .bool true) e20
        exact Reg.obl_want rfl rfl e20 (Reg.wp_eqv (Option.some_ne_none _) (by go_simp) rfl)
      · intro ax wx hx hs
        obtain ⟨e20, e24, -⟩ := hs
        have g20 := Reg.ev (v := .bool true) e20
        have g24 := Reg.ev (v := .bool true) e24
        exact Reg.obl_free rfl (Reg.wp_eqv (Option.some_ne_none _) (by go_simp) rfl)
      · intro ax wx hx hs
        obtain ⟨e25, -⟩ := hs
        have g25 := Reg.ev (v := .bool true) e25
        exact Reg.obl_free rfl (Reg.wp_eqv (Option.some_ne_none _) (by go_simp) rfl)
      · intro ax wx hx hs
        obtain ⟨e6, e26, -⟩ := hs
        have g6 := Reg.ev (v := .int .i64 12) e6
        have g26 := Reg.ev (v := .bool true) e26
        exact Reg.obl_want rfl rfl e26 (Reg.wp_eqv (Option.some_ne_none _) (by go_simp) rfl)
      · intro ax wx hx hs
        obtain ⟨e27, e26, -⟩ := hs
        have g27 := Reg.ev (v := .int .i64 12) e27
        have g26 := Reg.ev (v := .bool true) e26
        exact Reg.obl_want rfl rfl e26 (Reg.wp_eqv (Option.some_ne_none _) (by go_simp) rfl)
      · intro ax wx hx hs
        obtain ⟨e28, e26, -⟩ := hs
        have g28 := Reg.ev (v := .bool true) e28
        have g26 := Reg.ev (v := .bool true) e26
        exact Reg.obl_want rfl rfl e26 (Reg.wp_eqv (Option.some_ne_none _) (by go_simp) rfl)
      · intro ax wx hx hs
        obtain ⟨e3, e29, -⟩ := hs
        have g3 := Reg.ev (v := .pointer (some ⟨W1.heap.size, 0, none⟩)) e3
        have g29 := Reg.ev (v := .bool true) e29
        exact Reg.obl_skip rfl rfl e29 rfl rfl
      · intro ax wx hx hs
        obtain ⟨e30, e29, -⟩ := hs
        have g30 := Reg.ev (v := undef) e30
        have g29 := Reg.ev (v := .bool true) e29
        exact Reg.obl_skip rfl rfl e29 rfl rfl
      · intro ax wx hx hs
        obtain ⟨e1, e29, -⟩ := hs
        have g1 := Reg.ev (v := .pointer (some ⟨w.heap.size, 0, none⟩)) e1
        have g29 := Reg.ev (v := .bool true) e29
        exact Reg.obl_skip rfl rfl e29 rfl rfl
      · intro ax wx hx hs
        obtain ⟨e31, e32, e29, -⟩ := hs
        have g31 := Reg.ev (v := undef) e31
        have g32 := Reg.ev (v := undef) e32
        have g29 := Reg.ev (v := .bool true) e29
        exact Reg.obl_skip rfl rfl e29 rfl rfl
      · intro ax wx hx hs
        obtain ⟨e29, e33, e26, -⟩ := hs
        have g29 := Reg.ev (v := .bool true) e29
        have g33 := Reg.ev (v := undef) e33
        have g26 := Reg.ev (v := .bool true) e26
        exact Reg.obl_want rfl rfl e26 (Reg.wp_eqv (Option.some_ne_none _) (by go_simp) rfl)
      · intro ax wx hx hs
        obtain ⟨e26, e34, -⟩ := hs
        have g26 := Reg.ev (v := .bool true) e26
        have g34 := Reg.ev (v := .bool true) e34
        exact Reg.obl_free rfl (Reg.wp_eqv (Option.some_ne_none _) (by go_simp) rfl)
      · intro ax wx hx hs
        obtain ⟨e35, -⟩ := hs
        have g35 := Reg.ev (v := .bool true) e35
        exact Reg.obl_free rfl (Reg.wp_eqv (Option.some_ne_none _) (by go_simp) rfl)
      · intro ax wx hx hs
        obtain ⟨e36, -⟩ := hs
        have g36 := Reg.ev (v := .bool true) e36
        refine Reg.obl_want rfl rfl e36 ?_
        have hx' : Below W4.heap.size W4 wx := hx
        go_simp
        refine (Live06.live_any _).mono ?_
        rintro e wy ⟨rfl, hby⟩
        exact Reg.done (Option.some_ne_none _) rfl hby
      · intro ax wx hx hs
        obtain ⟨e36, e37, -⟩ := hs
        have g36 := Reg.ev (v := .bool true) e36
        have g37 := Reg.ev (v := .bool true) e37
        exact Reg.obl_free rfl (Reg.wp_eqv (Option.some_ne_none _) (by go_simp) rfl)
      · intro ax wx hx hs
        obtain ⟨e38, -⟩ := hs
        have g38 := Reg.ev (v := .bool true) e38
        exact Reg.obl_free rfl (Reg.wp_eqv (Option.some_ne_none _) (by go_simp) rfl)
    · intro wf hwf
      simp only [Reg.Fin]
      rintro _ rfl _ rfl _ rfl _ rfl _ rfl _ rfl _ rfl _ rfl _ rfl _ rfl _ rfl _ rfl _ rfl _ rfl _ rfl _ rfl _ rfl _ rfl _ rfl _ rfl _ rfl _ rfl _ rfl
      go_simp
      go_wp2_with fail
      go_ret
      exact ⟨rfl, bstep HB_4.out hwf⟩
end Go.Proofs.Ytjengjbkdflapaa.slotGets
