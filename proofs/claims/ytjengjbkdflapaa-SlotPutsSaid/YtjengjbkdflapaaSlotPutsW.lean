/-
  The walk of SlotPuts: the Go text returns true for every item, and writes nothing that was there.
-/
import Derived.Test.YtjengjbkdflapaaOpen3
import Derived.Test.YtjengjbkdflapaaLive06
import Derived.Test.YtjengjbkdflapaaSlotGet
import Derived.Test.YtjengjbkdflapaaRefSlotBytes
namespace Go.Proofs.Ytjengjbkdflapaa.slotPuts
open Go.RowKit
attribute [local go_sem ↓] al64_fold ld64_fold st64_fold bd64_fold sl64_fold cp_fold

set_option maxRecDepth 100000 in
set_option maxHeartbeats 2000000 in
theorem walk (v0 : Value) (a0 : Item) (w : World) (g0 : RItem w w.heap.size v0 a0) :
    Calls Try.prog 5 #[v0] w fun e w' => e = .returned (.bool true) ∧ Below w.heap.size w w' := by
  obtain ⟨A, n, cap, rfl, hA, hka, ia⟩ := g0
  have HA := Lib.hid hA
  have HKA := Lib.hid hka
  have HG := Lib.hid (fun hr => SlotP.get_bytes a0 hr ia)
  have HGN := Lib.hid (SlotP.get_not a0)
  clear hA ia hka
  obtain ⟨s, k, kind, data, lo, hi, val⟩ := a0
  dsimp only at *
  cases hbx : (decide ((300 : Int) < (k.size : Int)) || decide ((300 : Int) < (n : Int)))
  rotate_left
  · have HBX := Lib.hid hbx
    clear hbx
    go_enter Try.func5, Try.ntmps5
    go_wp2_with fail
    generalize hW0 : (w).alloc (.cells #[.int .i64 s, .string k, .int .i64 kind, .slice A n cap, .int .i64 lo, .int .i64 hi, .int .i64 val] 38) = W0
    have HS0_0 : Hid (Str W0 (w.heap.size) #[.int .i64 s, .string k, .int .i64 kind, .slice A n cap, .int .i64 lo, .int .i64 hi, .int .i64 val]) := Lib.hid (by rw [← hW0]; have := Str.new (w) #[.int .i64 s, .string k, .int .i64 kind, .slice A n cap, .int .i64 lo, .int .i64 hi, .int .i64 val] 38; simpa using this)
    have HB_0 : Hid (Below w.heap.size w W0) := Lib.hid (by rw [← hW0]; exact balloc (bsame w) _)
    have hw_0 := HB_0.out.size
    clear hW0
    obtain ⟨f0_0_0, f0_0_1, f0_0_2, f0_0_3, f0_0_4, f0_0_5, f0_0_6⟩ := str7 HS0_0.out
    have hl0_0 := HS0_0.out.lt
    refine (SlotW.big_any A n cap ⟨s, k, kind, data, lo, hi, val⟩ _ HKA.out).mono ?_
    rintro e W1 ⟨rfl, hb1⟩
    rw [HBX.out]
    have HS0_1 := Lib.hid (HS0_0.out.next hb1)
    have HB_1 := Lib.hid (bstep HB_0.out hb1)
    have hw_1 := HB_1.out.size
    have hws_1 := (hb1).size
    clear f0_0_0 f0_0_1 f0_0_2 f0_0_3 f0_0_4 f0_0_5 f0_0_6 HS0_0
    clear hb1
    obtain ⟨f0_1_0, f0_1_1, f0_1_2, f0_1_3, f0_1_4, f0_1_5, f0_1_6⟩ := str7 HS0_1.out
    have hl0_1 := HS0_1.out.lt
    go_wp2_with (go_at_call 25; refine (Live06.live_any _).mono ?_; rintro e Wl ⟨rfl, hbl⟩)
    go_ret
    exact ⟨rfl, bstep HB_1.out hbl⟩
  have HBX := Lib.hid hbx
  clear hbx
  go_enter Try.func5, Try.ntmps5
  go_wp2_with fail
  generalize hW0 : (w).alloc (.cells #[.int .i64 s, .string k, .int .i64 kind, .slice A n cap, .int .i64 lo, .int .i64 hi, .int .i64 val] 38) = W0
  have HS0_0 : Hid (Str W0 (w.heap.size) #[.int .i64 s, .string k, .int .i64 kind, .slice A n cap, .int .i64 lo, .int .i64 hi, .int .i64 val]) := Lib.hid (by rw [← hW0]; have := Str.new (w) #[.int .i64 s, .string k, .int .i64 kind, .slice A n cap, .int .i64 lo, .int .i64 hi, .int .i64 val] 38; simpa using this)
  have HB_0 : Hid (Below w.heap.size w W0) := Lib.hid (by rw [← hW0]; exact balloc (bsame w) _)
  have hw_0 := HB_0.out.size
  clear hW0
  obtain ⟨f0_0_0, f0_0_1, f0_0_2, f0_0_3, f0_0_4, f0_0_5, f0_0_6⟩ := str7 HS0_0.out
  have hl0_0 := HS0_0.out.lt
  refine (SlotW.big_any A n cap ⟨s, k, kind, data, lo, hi, val⟩ _ HKA.out).mono ?_
  rintro e W1 ⟨rfl, hb1⟩
  rw [HBX.out]
  have HS0_1 := Lib.hid (HS0_0.out.next hb1)
  have HB_1 := Lib.hid (bstep HB_0.out hb1)
  have hw_1 := HB_1.out.size
  have hws_1 := (hb1).size
  clear f0_0_0 f0_0_1 f0_0_2 f0_0_3 f0_0_4 f0_0_5 f0_0_6 HS0_0
  clear hb1
  obtain ⟨f0_1_0, f0_1_1, f0_1_2, f0_1_3, f0_1_4, f0_1_5, f0_1_6⟩ := str7 HS0_1.out
  have hl0_1 := HS0_1.out.lt
  go_wp2_with fail
  refine (SlotPut.put_any A n cap w.heap.size ⟨s, k, kind, data, lo, hi, val⟩ _ (HA.out.below HB_1.out) HB_1.out.size HKA.out).mono ?_
  rintro e W2 ⟨rfl, hb2⟩
  have HS0_2 := Lib.hid (HS0_1.out.next hb2)
  have HB_2 := Lib.hid (bstep HB_1.out hb2)
  have hw_2 := HB_2.out.size
  have hws_2 := (hb2).size
  clear f0_1_0 f0_1_1 f0_1_2 f0_1_3 f0_1_4 f0_1_5 f0_1_6 HS0_1
  clear hb2
  obtain ⟨f0_2_0, f0_2_1, f0_2_2, f0_2_3, f0_2_4, f0_2_5, f0_2_6⟩ := str7 HS0_2.out
  have hl0_2 := HS0_2.out.lt
  have hal := fun W => run_al (P := Try.prog) arr64 W
  have hst2 := run_st (P := Try.prog) arr64 (Str.new W2 (rowV (SlotP.zeros 64)) 41) (by rw [rowV_size]; exact SlotPut.zeros_len 64) (SlotP.bytes_length ⟨s, k, kind, data, lo, hi, val⟩)
  obtain ⟨W3, hW3⟩ : ∃ W, (W2.alloc (.cells (rowV (SlotP.zeros 64)) 41)).setRow W2.heap.size (rowV (SlotP.bytes ⟨s, k, kind, data, lo, hi, val⟩)) = W := ⟨_, rfl⟩
  rw [hW3] at hst2
  have HS0_3 : Hid (Str W3 (w.heap.size) #[.int .i64 s, .string k, .int .i64 kind, .slice A n cap, .int .i64 lo, .int .i64 hi, .int .i64 val]) := Lib.hid (by rw [← hW3]; exact (HS0_2.out.alloc _).setRow_other (by omega))
  have HS1_3 : Hid (Str W3 W2.heap.size (rowV (SlotP.bytes ⟨s, k, kind, data, lo, hi, val⟩))) := Lib.hid (by rw [← hW3]; exact (Str.new W2 (rowV (SlotP.zeros 64)) 41).setRow)
  have hba3 : Below W2.heap.size W2 W3 := by rw [← hW3]; exact below_setRow (balloc (bsame _) _) (Nat.le_refl _) _
  have HB_3 := Lib.hid (bstep HB_2.out hba3)
  have hw_3 := HB_3.out.size
  have hws_3 := hba3.size
  clear hW3 hba3
  clear f0_2_0 f0_2_1 f0_2_2 f0_2_3 f0_2_4 f0_2_5 f0_2_6 HS0_2
  obtain ⟨f0_3_0, f0_3_1, f0_3_2, f0_3_3, f0_3_4, f0_3_5, f0_3_6⟩ := str7 HS0_3.out
  have hl0_3 := HS0_3.out.lt
  have hl1_3 := HS1_3.out.lt
  go_wp2_with fail
  refine (SlotW.check_any A n cap w.heap.size ⟨s, k, kind, data, lo, hi, val⟩ _ (HA.out.below HB_3.out) HB_3.out.size HKA.out).mono ?_
  rintro e W4 ⟨rfl, hb4⟩
  have HS0_4 := Lib.hid (HS0_3.out.next hb4)
  have HS1_4 := Lib.hid (HS1_3.out.next hb4)
  have HB_4 := Lib.hid (bstep HB_3.out hb4)
  have hw_4 := HB_4.out.size
  have hws_4 := (hb4).size
  clear f0_3_0 f0_3_1 f0_3_2 f0_3_3 f0_3_4 f0_3_5 f0_3_6 HS0_3 HS1_3
  clear hb4
  obtain ⟨f0_4_0, f0_4_1, f0_4_2, f0_4_3, f0_4_4, f0_4_5, f0_4_6⟩ := str7 HS0_4.out
  have hl0_4 := HS0_4.out.lt
  have hl1_4 := HS1_4.out.lt
  go_wp2_with fail
  refine (SlotW.code6_any _ _).mono ?_
  rintro e W4_ ⟨rfl, rfl⟩
  have hld := run_ld (P := Try.prog) arr64 HS1_4.out (SlotP.bytes_length ⟨s, k, kind, data, lo, hi, val⟩)
  go_wp2_with fail
  clear hld hst2 hal
  cases hr : SlotP.right ⟨s, k, kind, data, lo, hi, val⟩
  · have HR := Lib.hid hr
    clear hr
    have HGG := Lib.hid (HGN.out HR.out)
    refine (SlotGet.get_any _ (SlotP.bytes_length ⟨s, k, kind, data, lo, hi, val⟩) _).mono ?_
    rintro e W5 ⟨A1, n1, c1, rfl, hy1, hb5⟩
    rw [HGG.out] at hy1 ⊢
    dsimp only [SlotP.none, CellP.none] at hy1 ⊢
    have HY5 := Lib.hid hy1
    clear hy1
    have HS0_5 := Lib.hid (HS0_4.out.next hb5)
    have HS1_5 := Lib.hid (HS1_4.out.next hb5)
    have HB_5 := Lib.hid (bstep HB_4.out hb5)
    have hw_5 := HB_5.out.size
    have hws_5 := (hb5).size
    clear f0_4_0 f0_4_1 f0_4_2 f0_4_3 f0_4_4 f0_4_5 f0_4_6 HS0_4 HS1_4
    clear hb5
    obtain ⟨f0_5_0, f0_5_1, f0_5_2, f0_5_3, f0_5_4, f0_5_5, f0_5_6⟩ := str7 HS0_5.out
    have hl0_5 := HS0_5.out.lt
    have hl1_5 := HS1_5.out.lt
    go_wp2_with fail
    generalize hW6 : W5.alloc (.cells #[.int .i64 0, .string ByteArray.empty, .int .i64 0, .slice A1 n1 c1, .int .i64 0, .int .i64 0, .int .i64 0] 38) = W6
    have HS0_6 : Hid (Str W6 (w.heap.size) #[.int .i64 s, .string k, .int .i64 kind, .slice A n cap, .int .i64 lo, .int .i64 hi, .int .i64 val]) := Lib.hid (by rw [← hW6]; exact HS0_5.out.alloc _)
    have HS1_6 : Hid (Str W6 (W2.heap.size) (rowV (SlotP.bytes ⟨s, k, kind, data, lo, hi, val⟩))) := Lib.hid (by rw [← hW6]; exact HS1_5.out.alloc _)
    have HS2_6 : Hid (Str W6 W5.heap.size #[.int .i64 0, .string ByteArray.empty, .int .i64 0, .slice A1 n1 c1, .int .i64 0, .int .i64 0, .int .i64 0]) := Lib.hid (by rw [← hW6]; exact Str.new W5 #[.int .i64 0, .string ByteArray.empty, .int .i64 0, .slice A1 n1 c1, .int .i64 0, .int .i64 0, .int .i64 0] 38)
    have hba6 : Below W5.heap.size W5 W6 := by rw [← hW6]; exact balloc (bsame _) _
    have HB_6 := Lib.hid (bstep HB_5.out hba6)
    have hw_6 := HB_6.out.size
    have hws_6 := hba6.size
    clear hW6
    clear f0_5_0 f0_5_1 f0_5_2 f0_5_3 f0_5_4 f0_5_5 f0_5_6 HS0_5 HS1_5
    obtain ⟨f0_6_0, f0_6_1, f0_6_2, f0_6_3, f0_6_4, f0_6_5, f0_6_6⟩ := str7 HS0_6.out
    have hl0_6 := HS0_6.out.lt
    have hl1_6 := HS1_6.out.lt
    obtain ⟨f2_6_0, f2_6_1, f2_6_2, f2_6_3, f2_6_4, f2_6_5, f2_6_6⟩ := str7 HS2_6.out
    have hl2_6 := HS2_6.out.lt
    have HY6 := Lib.hid (HY5.out.next hba6)
    clear hba6
    rw [show CellP.code false = 1 from rfl]
    have hsl := fun W => run_sl_all (P := Try.prog) arr64 W2.heap.size W
    refine Reg.wp_region_vals (R := ext) (W := W6) [Reg.eqv (.slice (some ⟨W2.heap.size, 0, none⟩) 64 64), Reg.eqv (.agg #[.int .i64 s, .string k, .int .i64 kind, .slice A n cap, .int .i64 lo, .int .i64 hi, .int .i64 val]), Reg.bytes (SlotP.bytes ⟨s, k, kind, data, lo, hi, val⟩), Reg.eqv (.bool true), Reg.eqv (.bool true), Reg.eqv (.int .i64 1), Reg.eqv (.bool false), Reg.eqv (.agg #[.int .i64 s, .string k, .int .i64 kind, .slice A n cap, .int .i64 lo, .int .i64 hi, .int .i64 val]), Reg.eqv (.bool false), Reg.eqv (.bool true), Reg.eqv (.bool true), Reg.eqv (.bool true), Reg.eqv (.int .i64 1), Reg.eqv (.bool false), Reg.eqv (.bool false), Reg.eqv (.int .i64 1), Reg.eqv (.bool true), Reg.eqv (.bool true), Reg.eqv (.bool true), Reg.eqv (.bool true), Reg.eqv (.int .i64 0), Reg.eqv (.int .i64 0), Reg.eqv (.bool true), Reg.eqv (.bool true), Reg.eqv (.bool true), Reg.eqv (.int .i64 1), Reg.eqv (.bool true), Reg.eqv (.bool true), Reg.eqv undef, Reg.eqv undef, Reg.eqv undef, Reg.eqv (.bool true), Reg.eqv (.bool true), Reg.eqv (.bool true), Reg.eqv (.bool true), Reg.eqv (.bool true), Reg.eqv (.bool true)] 56 [[(3, none)], [(1, none)], [(21, some 1)], [(20, some 0), (22, some 2)], [(23, some 3)], [(4, none), (24, some 4)], [(25, some 5), (24, some 4)], [(1, none), (24, some 4)], [(27, some 7), (24, some 4)], [(26, some 6), (28, some 8), (24, some 4)], [(24, some 4), (29, some 9)], [(30, some 10)], [(4, none), (31, some 11)], [(32, some 12), (31, some 11)], [(33, some 13), (31, some 11)], [(4, none), (34, some 14)], [(35, some 15), (34, some 14)], [(34, some 14), (36, some 16), (31, some 11)], [(31, some 11), (37, some 17)], [(38, some 18)], [(6, none), (39, some 19)], [(40, some 20), (39, some 19)], [(41, some 21), (39, some 19)], [(39, some 19), (42, some 22)], [(43, some 23)], [(4, none), (44, some 24)], [(45, some 25), (44, some 24)], [(46, some 26), (44, some 24)], [(1, none), (47, some 27)], [(5, none), (47, some 27)], [(48, some 28), (49, some 29), (47, some 27)], [(47, some 27), (50, some 30), (44, some 24)], [(44, some 24), (51, some 31)], [(52, some 32)], [(53, some 33)], [(53, some 33), (54, some 34)], [(55, some 35)]] rfl (by kernel_rfl) (by kernel_rfl) (by kernel_rfl) ?_ [some 20, some 21, some 22, some 23, some 24, some 25, some 26, some 27, some 28, some 29, some 30, some 31, some 32, some 33, some 34, some 35, some 36, some 37, some 38, some 39, some 40, some 41, some 42, some 43, some 44, some 45, some 46, some 47, some 48, some 49, some 50, some 51, some 52, some 53, some 54, some 55, some 2] (by kernel_rfl) ?_
    · refine ⟨?_, ?_, ?_, ?_, ?_, ?_, ?_, ?_, ?_, ?_, ?_, ?_, ?_, ?_, ?_, ?_, ?_, ?_, ?_, ?_, ?_, ?_, ?_, ?_, ?_, ?_, ?_, ?_, ?_, ?_, ?_, ?_, ?_, ?_, ?_, ?_, ?_, trivial⟩
      · intro ax wx hx hs
        obtain ⟨e3, -⟩ := hs
        have g3 := Reg.ev (v := .pointer (some ⟨W2.heap.size, 0, none⟩)) e3
        exact Reg.obl_free rfl (Reg.wp_eqv (Option.some_ne_none _) (by go_simp) rfl)
      · intro ax wx hx hs
        obtain ⟨e1, -⟩ := hs
        have g1 := Reg.ev (v := .pointer (some ⟨w.heap.size, 0, none⟩)) e1
        obtain ⟨hc, -⟩ := bcell hx
        exact Reg.obl_free rfl (Reg.wp_eqv (Option.some_ne_none _) (by go_simp) rfl)
      · intro ax wx hx hs
        obtain ⟨e21, -⟩ := hs
        have g21 := Reg.ev (v := .agg #[.int .i64 s, .string k, .int .i64 kind, .slice A n cap, .int .i64 lo, .int .i64 hi, .int .i64 val]) e21
        refine Reg.obl_free rfl ?_
        have hx' : Below W6.heap.size W6 wx := hx
        go_simp
        refine (RefSlotBytes.bytes_any A n cap w.heap.size ⟨s, k, kind, data, lo, hi, val⟩ _ (HA.out.below (bstep HB_6.out hx')) (bstep HB_6.out hx').size HKA.out).mono ?_
        rintro e wy ⟨A2, n2, c2, rfl, hy, hby⟩
        exact Reg.done (Option.some_ne_none _) ⟨A2, n2, c2, rfl, hy⟩ hby
      · intro ax wx hx hs
        obtain ⟨e20, e22, -⟩ := hs
        have g20 := Reg.ev (v := .slice (some ⟨W2.heap.size, 0, none⟩) 64 64) e20
        refine Reg.obl_free rfl ?_
        have hx' : Below W6.heap.size W6 wx := hx
        obtain ⟨A2, n2, c2, e22, hy2⟩ := e22
        have g22 := Reg.ev e22
        have hpt := (HS1_6.out.next hx').part 0 64 64 (by rw [SlotP.bytes_length]; omega) (by omega) (by unfold maxLen; omega)
        rw [List.drop_zero, List.take_of_length_le (by rw [SlotP.bytes_length]; omega)] at hpt
        go_simp
        refine (Same.same_any _ _ _ _ _ _ _ _ _ _ _ hpt hy2).mono ?_
        rintro e wy ⟨rfl, rfl⟩
        rw [beq_self_eq_true]
        exact Reg.done (Option.some_ne_none _) rfl (bsame _)
      · intro ax wx hx hs
        obtain ⟨e23, -⟩ := hs
        have g23 := Reg.ev (v := .bool true) e23
        exact Reg.obl_free rfl (Reg.wp_eqv (Option.some_ne_none _) (by go_simp) rfl)
      · intro ax wx hx hs
        obtain ⟨e4, e24, -⟩ := hs
        have g4 := Reg.ev (v := .int .i64 1) e4
        have g24 := Reg.ev (v := .bool true) e24
        exact Reg.obl_want rfl rfl e24 (Reg.wp_eqv (Option.some_ne_none _) (by go_simp) rfl)
      · intro ax wx hx hs
        obtain ⟨e25, e24, -⟩ := hs
        have g25 := Reg.ev (v := .int .i64 1) e25
        have g24 := Reg.ev (v := .bool true) e24
        exact Reg.obl_want rfl rfl e24 (Reg.wp_eqv (Option.some_ne_none _) (by go_simp) rfl)
      · intro ax wx hx hs
        obtain ⟨e1, e24, -⟩ := hs
        have g1 := Reg.ev (v := .pointer (some ⟨w.heap.size, 0, none⟩)) e1
        have g24 := Reg.ev (v := .bool true) e24
        obtain ⟨hc, -⟩ := bcell hx
        exact Reg.obl_want rfl rfl e24 (Reg.wp_eqv (Option.some_ne_none _) (by go_simp) rfl)
      · intro ax wx hx hs
        obtain ⟨e27, e24, -⟩ := hs
        have g27 := Reg.ev (v := .agg #[.int .i64 s, .string k, .int .i64 kind, .slice A n cap, .int .i64 lo, .int .i64 hi, .int .i64 val]) e27
        have g24 := Reg.ev (v := .bool true) e24
        refine Reg.obl_want rfl rfl e24 ?_
        have hx' : Below W6.heap.size W6 wx := hx
        go_simp
        refine (SlotW.right_any A n cap w.heap.size ⟨s, k, kind, data, lo, hi, val⟩ _ (HA.out.below (bstep HB_6.out hx')) (bstep HB_6.out hx').size HKA.out).mono ?_
        rintro e wy ⟨rfl, hby⟩
        rw [HR.out]
        exact Reg.done (Option.some_ne_none _) rfl hby
      · intro ax wx hx hs
        obtain ⟨e26, e28, e24, -⟩ := hs
        have g26 := Reg.ev (v := .bool false) e26
        have g28 := Reg.ev (v := .bool false) e28
        have g24 := Reg.ev (v := .bool true) e24
        exact Reg.obl_want rfl rfl e24 (Reg.wp_eqv (Option.some_ne_none _) (by go_simp) rfl)
      · intro ax wx hx hs
        obtain ⟨e24, e29, -⟩ := hs
        have g24 := Reg.ev (v := .bool true) e24
        have g29 := Reg.ev (v := .bool true) e29
        exact Reg.obl_free rfl (Reg.wp_eqv (Option.some_ne_none _) (by go_simp) rfl)
      · intro ax wx hx hs
        obtain ⟨e30, -⟩ := hs
        have g30 := Reg.ev (v := .bool true) e30
        exact Reg.obl_free rfl (Reg.wp_eqv (Option.some_ne_none _) (by go_simp) rfl)
      · intro ax wx hx hs
        obtain ⟨e4, e31, -⟩ := hs
        have g4 := Reg.ev (v := .int .i64 1) e4
        have g31 := Reg.ev (v := .bool true) e31
        exact Reg.obl_want rfl rfl e31 (Reg.wp_eqv (Option.some_ne_none _) (by go_simp) rfl)
      · intro ax wx hx hs
        obtain ⟨e32, e31, -⟩ := hs
        have g32 := Reg.ev (v := .int .i64 1) e32
        have g31 := Reg.ev (v := .bool true) e31
        exact Reg.obl_want rfl rfl e31 (Reg.wp_eqv (Option.some_ne_none _) (by go_simp) rfl)
      · intro ax wx hx hs
        obtain ⟨e33, e31, -⟩ := hs
        have g33 := Reg.ev (v := .bool false) e33
        have g31 := Reg.ev (v := .bool true) e31
        exact Reg.obl_want rfl rfl e31 (Reg.wp_eqv (Option.some_ne_none _) (by go_simp) rfl)
      · intro ax wx hx hs
        obtain ⟨e4, e34, -⟩ := hs
        have g4 := Reg.ev (v := .int .i64 1) e4
        have g34 := Reg.ev (v := .bool false) e34
        exact Reg.obl_want rfl rfl e34 (Reg.wp_eqv (Option.some_ne_none _) (by go_simp) rfl)
      · intro ax wx hx hs
        obtain ⟨e35, e34, -⟩ := hs
        have g35 := Reg.ev (v := .int .i64 1) e35
        have g34 := Reg.ev (v := .bool false) e34
        exact Reg.obl_want rfl rfl e34 (Reg.wp_eqv (Option.some_ne_none _) (by go_simp) rfl)
      · intro ax wx hx hs
        obtain ⟨e34, e36, e31, -⟩ := hs
        have g34 := Reg.ev (v := .bool false) e34
        have g36 := Reg.ev (v := .bool true) e36
        have g31 := Reg.ev (v := .bool true) e31
        exact Reg.obl_want rfl rfl e31 (Reg.wp_eqv (Option.some_ne_none _) (by go_simp) rfl)
      · intro ax wx hx hs
        obtain ⟨e31, e37, -⟩ := hs
        have g31 := Reg.ev (v := .bool true) e31
        have g37 := Reg.ev (v := .bool true) e37
        exact Reg.obl_free rfl (Reg.wp_eqv (Option.some_ne_none _) (by go_simp) rfl)
      · intro ax wx hx hs
        obtain ⟨e38, -⟩ := hs
        have g38 := Reg.ev (v := .bool true) e38
        exact Reg.obl_free rfl (Reg.wp_eqv (Option.some_ne_none _) (by go_simp) rfl)
      · intro ax wx hx hs
        obtain ⟨e6, e39, -⟩ := hs
        have g6 := Reg.ev (v := .int .i64 0) e6
        have g39 := Reg.ev (v := .bool true) e39
        exact Reg.obl_want rfl rfl e39 (Reg.wp_eqv (Option.some_ne_none _) (by go_simp) rfl)
      · intro ax wx hx hs
        obtain ⟨e40, e39, -⟩ := hs
        have g40 := Reg.ev (v := .int .i64 0) e40
        have g39 := Reg.ev (v := .bool true) e39
        refine Reg.obl_want rfl rfl e39 ?_
        go_simp
        refine (SlotW.code6_any _ _).mono ?_
        rintro e wy ⟨rfl, rfl⟩
        exact Reg.done (Option.some_ne_none _) rfl (bsame _)
      · intro ax wx hx hs
        obtain ⟨e41, e39, -⟩ := hs
        have g41 := Reg.ev (v := .int .i64 0) e41
        have g39 := Reg.ev (v := .bool true) e39
        exact Reg.obl_want rfl rfl e39 (Reg.wp_eqv (Option.some_ne_none _) (by go_simp) rfl)
      · intro ax wx hx hs
        obtain ⟨e39, e42, -⟩ := hs
        have g39 := Reg.ev (v := .bool true) e39
        have g42 := Reg.ev (v := .bool true) e42
        exact Reg.obl_free rfl (Reg.wp_eqv (Option.some_ne_none _) (by go_simp) rfl)
      · intro ax wx hx hs
        obtain ⟨e43, -⟩ := hs
        have g43 := Reg.ev (v := .bool true) e43
        exact Reg.obl_free rfl (Reg.wp_eqv (Option.some_ne_none _) (by go_simp) rfl)
      · intro ax wx hx hs
        obtain ⟨e4, e44, -⟩ := hs
        have g4 := Reg.ev (v := .int .i64 1) e4
        have g44 := Reg.ev (v := .bool true) e44
        exact Reg.obl_want rfl rfl e44 (Reg.wp_eqv (Option.some_ne_none _) (by go_simp) rfl)
      · intro ax wx hx hs
        obtain ⟨e45, e44, -⟩ := hs
        have g45 := Reg.ev (v := .int .i64 1) e45
        have g44 := Reg.ev (v := .bool true) e44
        exact Reg.obl_want rfl rfl e44 (Reg.wp_eqv (Option.some_ne_none _) (by go_simp) rfl)
      · intro ax wx hx hs
        obtain ⟨e46, e44, -⟩ := hs
        have g46 := Reg.ev (v := .bool true) e46
        have g44 := Reg.ev (v := .bool true) e44
        exact Reg.obl_want rfl rfl e44 (Reg.wp_eqv (Option.some_ne_none _) (by go_simp) rfl)
      · intro ax wx hx hs
        obtain ⟨e1, e47, -⟩ := hs
        have g1 := Reg.ev (v := .pointer (some ⟨w.heap.size, 0, none⟩)) e1
        have g47 := Reg.ev (v := .bool true) e47
        exact Reg.obl_skip rfl rfl e47 rfl rfl
      · intro ax wx hx hs
        obtain ⟨e5, e47, -⟩ := hs
        have g5 := Reg.ev (v := .pointer (some ⟨W5.heap.size, 0, none⟩)) e5
        have g47 := Reg.ev (v := .bool true) e47
        exact Reg.obl_skip rfl rfl e47 rfl rfl
      · intro ax wx hx hs
        obtain ⟨e48, e49, e47, -⟩ := hs
        have g48 := Reg.ev (v := undef) e48
        have g49 := Reg.ev (v := undef) e49
        have g47 := Reg.ev (v := .bool true) e47
        exact Reg.obl_skip rfl rfl e47 rfl rfl
      · intro ax wx hx hs
        obtain ⟨e47, e50, e44, -⟩ := hs
        have g47 := Reg.ev (v := .bool true) e47
        have g50 := Reg.ev (v := undef) e50
        have g44 := Reg.ev (v := .bool true) e44
        exact Reg.obl_want rfl rfl e44 (Reg.wp_eqv (Option.some_ne_none _) (by go_simp) rfl)
      · intro ax wx hx hs
        obtain ⟨e44, e51, -⟩ := hs
        have g44 := Reg.ev (v := .bool true) e44
        have g51 := Reg.ev (v := .bool true) e51
        exact Reg.obl_free rfl (Reg.wp_eqv (Option.some_ne_none _) (by go_simp) rfl)
      · intro ax wx hx hs
        obtain ⟨e52, -⟩ := hs
        have g52 := Reg.ev (v := .bool true) e52
        exact Reg.obl_free rfl (Reg.wp_eqv (Option.some_ne_none _) (by go_simp) rfl)
      · intro ax wx hx hs
        obtain ⟨e53, -⟩ := hs
        have g53 := Reg.ev (v := .bool true) e53
        refine Reg.obl_want rfl rfl e53 ?_
        have hx' : Below W6.heap.size W6 wx := hx
        go_simp
        refine (Live06.live_any _).mono ?_
        rintro e wy ⟨rfl, hby⟩
        exact Reg.done (Option.some_ne_none _) rfl hby
      · intro ax wx hx hs
        obtain ⟨e53, e54, -⟩ := hs
        have g53 := Reg.ev (v := .bool true) e53
        have g54 := Reg.ev (v := .bool true) e54
        exact Reg.obl_free rfl (Reg.wp_eqv (Option.some_ne_none _) (by go_simp) rfl)
      · intro ax wx hx hs
        obtain ⟨e55, -⟩ := hs
        have g55 := Reg.ev (v := .bool true) e55
        exact Reg.obl_free rfl (Reg.wp_eqv (Option.some_ne_none _) (by go_simp) rfl)
    · intro wf hwf
      simp only [Reg.Fin]
      rintro _ rfl _ rfl v22 h22 _ rfl _ rfl _ rfl _ rfl _ rfl _ rfl _ rfl _ rfl _ rfl _ rfl _ rfl _ rfl _ rfl _ rfl _ rfl _ rfl _ rfl _ rfl _ rfl _ rfl _ rfl _ rfl _ rfl _ rfl _ rfl _ rfl _ rfl _ rfl _ rfl _ rfl _ rfl _ rfl _ rfl _ rfl
      go_simp
      go_wp2_with fail
      go_ret
      exact ⟨rfl, bstep HB_6.out hwf⟩
  · have HR := Lib.hid hr
    clear hr
    have HGG := Lib.hid (HG.out HR.out)
    refine (SlotGet.get_any _ (SlotP.bytes_length ⟨s, k, kind, data, lo, hi, val⟩) _).mono ?_
    rintro e W5 ⟨A1, n1, c1, rfl, hy1, hb5⟩
    rw [HGG.out] at hy1 ⊢
    dsimp only [SlotP.none, CellP.none] at hy1 ⊢
    have HY5 := Lib.hid hy1
    clear hy1
    have HS0_5 := Lib.hid (HS0_4.out.next hb5)
    have HS1_5 := Lib.hid (HS1_4.out.next hb5)
    have HB_5 := Lib.hid (bstep HB_4.out hb5)
    have hw_5 := HB_5.out.size
    have hws_5 := (hb5).size
    clear f0_4_0 f0_4_1 f0_4_2 f0_4_3 f0_4_4 f0_4_5 f0_4_6 HS0_4 HS1_4
    clear hb5
    obtain ⟨f0_5_0, f0_5_1, f0_5_2, f0_5_3, f0_5_4, f0_5_5, f0_5_6⟩ := str7 HS0_5.out
    have hl0_5 := HS0_5.out.lt
    have hl1_5 := HS1_5.out.lt
    go_wp2_with fail
    generalize hW6 : W5.alloc (.cells #[.int .i64 s, .string k, .int .i64 kind, .slice A1 n1 c1, .int .i64 lo, .int .i64 hi, .int .i64 val] 38) = W6
    have HS0_6 : Hid (Str W6 (w.heap.size) #[.int .i64 s, .string k, .int .i64 kind, .slice A n cap, .int .i64 lo, .int .i64 hi, .int .i64 val]) := Lib.hid (by rw [← hW6]; exact HS0_5.out.alloc _)
    have HS1_6 : Hid (Str W6 (W2.heap.size) (rowV (SlotP.bytes ⟨s, k, kind, data, lo, hi, val⟩))) := Lib.hid (by rw [← hW6]; exact HS1_5.out.alloc _)
    have HS2_6 : Hid (Str W6 W5.heap.size #[.int .i64 s, .string k, .int .i64 kind, .slice A1 n1 c1, .int .i64 lo, .int .i64 hi, .int .i64 val]) := Lib.hid (by rw [← hW6]; exact Str.new W5 #[.int .i64 s, .string k, .int .i64 kind, .slice A1 n1 c1, .int .i64 lo, .int .i64 hi, .int .i64 val] 38)
    have hba6 : Below W5.heap.size W5 W6 := by rw [← hW6]; exact balloc (bsame _) _
    have HB_6 := Lib.hid (bstep HB_5.out hba6)
    have hw_6 := HB_6.out.size
    have hws_6 := hba6.size
    clear hW6
    clear f0_5_0 f0_5_1 f0_5_2 f0_5_3 f0_5_4 f0_5_5 f0_5_6 HS0_5 HS1_5
    obtain ⟨f0_6_0, f0_6_1, f0_6_2, f0_6_3, f0_6_4, f0_6_5, f0_6_6⟩ := str7 HS0_6.out
    have hl0_6 := HS0_6.out.lt
    have hl1_6 := HS1_6.out.lt
    obtain ⟨f2_6_0, f2_6_1, f2_6_2, f2_6_3, f2_6_4, f2_6_5, f2_6_6⟩ := str7 HS2_6.out
    have hl2_6 := HS2_6.out.lt
    have HY6 := Lib.hid (HY5.out.next hba6)
    clear hba6
    rw [show CellP.code true = 0 from rfl]
    have hsl := fun W => run_sl_all (P := Try.prog) arr64 W2.heap.size W
    refine Reg.wp_region_vals (R := ext) (W := W6) [Reg.eqv (.slice (some ⟨W2.heap.size, 0, none⟩) 64 64), Reg.eqv (.agg #[.int .i64 s, .string k, .int .i64 kind, .slice A n cap, .int .i64 lo, .int .i64 hi, .int .i64 val]), Reg.bytes (SlotP.bytes ⟨s, k, kind, data, lo, hi, val⟩), Reg.eqv (.bool true), Reg.eqv (.bool true), Reg.eqv (.int .i64 0), Reg.eqv (.bool true), Reg.eqv (.agg #[.int .i64 s, .string k, .int .i64 kind, .slice A n cap, .int .i64 lo, .int .i64 hi, .int .i64 val]), Reg.eqv (.bool true), Reg.eqv (.bool true), Reg.eqv (.bool true), Reg.eqv (.bool true), Reg.eqv (.int .i64 0), Reg.eqv (.bool true), Reg.eqv (.bool true), Reg.eqv undef, Reg.eqv undef, Reg.eqv (.bool true), Reg.eqv (.bool true), Reg.eqv (.bool true), Reg.eqv (.int .i64 0), Reg.eqv (.int .i64 0), Reg.eqv (.bool true), Reg.eqv (.bool true), Reg.eqv (.bool true), Reg.eqv (.int .i64 0), Reg.eqv (.bool false), Reg.eqv (.bool false), Reg.eqv (.agg #[.int .i64 s, .string k, .int .i64 kind, .slice A n cap, .int .i64 lo, .int .i64 hi, .int .i64 val]), Reg.eqv (.agg #[.int .i64 s, .string k, .int .i64 kind, .slice A1 n1 c1, .int .i64 lo, .int .i64 hi, .int .i64 val]), Reg.eqv (.bool true), Reg.eqv (.bool true), Reg.eqv (.bool true), Reg.eqv (.bool true), Reg.eqv (.bool true), Reg.eqv (.bool true), Reg.eqv (.bool true)] 56 [[(3, none)], [(1, none)], [(21, some 1)], [(20, some 0), (22, some 2)], [(23, some 3)], [(4, none), (24, some 4)], [(25, some 5), (24, some 4)], [(1, none), (24, some 4)], [(27, some 7), (24, some 4)], [(26, some 6), (28, some 8), (24, some 4)], [(24, some 4), (29, some 9)], [(30, some 10)], [(4, none), (31, some 11)], [(32, some 12), (31, some 11)], [(33, some 13), (31, some 11)], [(4, none), (34, some 14)], [(35, some 15), (34, some 14)], [(34, some 14), (36, some 16), (31, some 11)], [(31, some 11), (37, some 17)], [(38, some 18)], [(6, none), (39, some 19)], [(40, some 20), (39, some 19)], [(41, some 21), (39, some 19)], [(39, some 19), (42, some 22)], [(43, some 23)], [(4, none), (44, some 24)], [(45, some 25), (44, some 24)], [(46, some 26), (44, some 24)], [(1, none), (47, some 27)], [(5, none), (47, some 27)], [(48, some 28), (49, some 29), (47, some 27)], [(47, some 27), (50, some 30), (44, some 24)], [(44, some 24), (51, some 31)], [(52, some 32)], [(53, some 33)], [(53, some 33), (54, some 34)], [(55, some 35)]] rfl (by kernel_rfl) (by kernel_rfl) (by kernel_rfl) ?_ [some 20, some 21, some 22, some 23, some 24, some 25, some 26, some 27, some 28, some 29, some 30, some 31, some 32, some 33, some 34, some 35, some 36, some 37, some 38, some 39, some 40, some 41, some 42, some 43, some 44, some 45, some 46, some 47, some 48, some 49, some 50, some 51, some 52, some 53, some 54, some 55, some 2] (by kernel_rfl) ?_
    · refine ⟨?_, ?_, ?_, ?_, ?_, ?_, ?_, ?_, ?_, ?_, ?_, ?_, ?_, ?_, ?_, ?_, ?_, ?_, ?_, ?_, ?_, ?_, ?_, ?_, ?_, ?_, ?_, ?_, ?_, ?_, ?_, ?_, ?_, ?_, ?_, ?_, ?_, trivial⟩
      · intro ax wx hx hs
        obtain ⟨e3, -⟩ := hs
        have g3 := Reg.ev (v := .pointer (some ⟨W2.heap.size, 0, none⟩)) e3
        exact Reg.obl_free rfl (Reg.wp_eqv (Option.some_ne_none _) (by go_simp) rfl)
      · intro ax wx hx hs
        obtain ⟨e1, -⟩ := hs
        have g1 := Reg.ev (v := .pointer (some ⟨w.heap.size, 0, none⟩)) e1
        obtain ⟨hc, -⟩ := bcell hx
        exact Reg.obl_free rfl (Reg.wp_eqv (Option.some_ne_none _) (by go_simp) rfl)
      · intro ax wx hx hs
        obtain ⟨e21, -⟩ := hs
        have g21 := Reg.ev (v := .agg #[.int .i64 s, .string k, .int .i64 kind, .slice A n cap, .int .i64 lo, .int .i64 hi, .int .i64 val]) e21
        refine Reg.obl_free rfl ?_
        have hx' : Below W6.heap.size W6 wx := hx
        go_simp
        refine (RefSlotBytes.bytes_any A n cap w.heap.size ⟨s, k, kind, data, lo, hi, val⟩ _ (HA.out.below (bstep HB_6.out hx')) (bstep HB_6.out hx').size HKA.out).mono ?_
        rintro e wy ⟨A2, n2, c2, rfl, hy, hby⟩
        exact Reg.done (Option.some_ne_none _) ⟨A2, n2, c2, rfl, hy⟩ hby
      · intro ax wx hx hs
        obtain ⟨e20, e22, -⟩ := hs
        have g20 := Reg.ev (v := .slice (some ⟨W2.heap.size, 0, none⟩) 64 64) e20
        refine Reg.obl_free rfl ?_
        have hx' : Below W6.heap.size W6 wx := hx
        obtain ⟨A2, n2, c2, e22, hy2⟩ := e22
        have g22 := Reg.ev e22
        have hpt := (HS1_6.out.next hx').part 0 64 64 (by rw [SlotP.bytes_length]; omega) (by omega) (by unfold maxLen; omega)
        rw [List.drop_zero, List.take_of_length_le (by rw [SlotP.bytes_length]; omega)] at hpt
        go_simp
        refine (Same.same_any _ _ _ _ _ _ _ _ _ _ _ hpt hy2).mono ?_
        rintro e wy ⟨rfl, rfl⟩
        rw [beq_self_eq_true]
        exact Reg.done (Option.some_ne_none _) rfl (bsame _)
      · intro ax wx hx hs
        obtain ⟨e23, -⟩ := hs
        have g23 := Reg.ev (v := .bool true) e23
        exact Reg.obl_free rfl (Reg.wp_eqv (Option.some_ne_none _) (by go_simp) rfl)
      · intro ax wx hx hs
        obtain ⟨e4, e24, -⟩ := hs
        have g4 := Reg.ev (v := .int .i64 0) e4
        have g24 := Reg.ev (v := .bool true) e24
        exact Reg.obl_want rfl rfl e24 (Reg.wp_eqv (Option.some_ne_none _) (by go_simp) rfl)
      · intro ax wx hx hs
        obtain ⟨e25, e24, -⟩ := hs
        have g25 := Reg.ev (v := .int .i64 0) e25
        have g24 := Reg.ev (v := .bool true) e24
        exact Reg.obl_want rfl rfl e24 (Reg.wp_eqv (Option.some_ne_none _) (by go_simp) rfl)
      · intro ax wx hx hs
        obtain ⟨e1, e24, -⟩ := hs
        have g1 := Reg.ev (v := .pointer (some ⟨w.heap.size, 0, none⟩)) e1
        have g24 := Reg.ev (v := .bool true) e24
        obtain ⟨hc, -⟩ := bcell hx
        exact Reg.obl_want rfl rfl e24 (Reg.wp_eqv (Option.some_ne_none _) (by go_simp) rfl)
      · intro ax wx hx hs
        obtain ⟨e27, e24, -⟩ := hs
        have g27 := Reg.ev (v := .agg #[.int .i64 s, .string k, .int .i64 kind, .slice A n cap, .int .i64 lo, .int .i64 hi, .int .i64 val]) e27
        have g24 := Reg.ev (v := .bool true) e24
        refine Reg.obl_want rfl rfl e24 ?_
        have hx' : Below W6.heap.size W6 wx := hx
        go_simp
        refine (SlotW.right_any A n cap w.heap.size ⟨s, k, kind, data, lo, hi, val⟩ _ (HA.out.below (bstep HB_6.out hx')) (bstep HB_6.out hx').size HKA.out).mono ?_
        rintro e wy ⟨rfl, hby⟩
        rw [HR.out]
        exact Reg.done (Option.some_ne_none _) rfl hby
      · intro ax wx hx hs
        obtain ⟨e26, e28, e24, -⟩ := hs
        have g26 := Reg.ev (v := .bool true) e26
        have g28 := Reg.ev (v := .bool true) e28
        have g24 := Reg.ev (v := .bool true) e24
        exact Reg.obl_want rfl rfl e24 (Reg.wp_eqv (Option.some_ne_none _) (by go_simp) rfl)
      · intro ax wx hx hs
        obtain ⟨e24, e29, -⟩ := hs
        have g24 := Reg.ev (v := .bool true) e24
        have g29 := Reg.ev (v := .bool true) e29
        exact Reg.obl_free rfl (Reg.wp_eqv (Option.some_ne_none _) (by go_simp) rfl)
      · intro ax wx hx hs
        obtain ⟨e30, -⟩ := hs
        have g30 := Reg.ev (v := .bool true) e30
        exact Reg.obl_free rfl (Reg.wp_eqv (Option.some_ne_none _) (by go_simp) rfl)
      · intro ax wx hx hs
        obtain ⟨e4, e31, -⟩ := hs
        have g4 := Reg.ev (v := .int .i64 0) e4
        have g31 := Reg.ev (v := .bool true) e31
        exact Reg.obl_want rfl rfl e31 (Reg.wp_eqv (Option.some_ne_none _) (by go_simp) rfl)
      · intro ax wx hx hs
        obtain ⟨e32, e31, -⟩ := hs
        have g32 := Reg.ev (v := .int .i64 0) e32
        have g31 := Reg.ev (v := .bool true) e31
        exact Reg.obl_want rfl rfl e31 (Reg.wp_eqv (Option.some_ne_none _) (by go_simp) rfl)
      · intro ax wx hx hs
        obtain ⟨e33, e31, -⟩ := hs
        have g33 := Reg.ev (v := .bool true) e33
        have g31 := Reg.ev (v := .bool true) e31
        exact Reg.obl_want rfl rfl e31 (Reg.wp_eqv (Option.some_ne_none _) (by go_simp) rfl)
      · intro ax wx hx hs
        obtain ⟨e4, e34, -⟩ := hs
        have g4 := Reg.ev (v := .int .i64 0) e4
        have g34 := Reg.ev (v := .bool true) e34
        exact Reg.obl_skip rfl rfl e34 rfl rfl
      · intro ax wx hx hs
        obtain ⟨e35, e34, -⟩ := hs
        have g35 := Reg.ev (v := undef) e35
        have g34 := Reg.ev (v := .bool true) e34
        exact Reg.obl_skip rfl rfl e34 rfl rfl
      · intro ax wx hx hs
        obtain ⟨e34, e36, e31, -⟩ := hs
        have g34 := Reg.ev (v := .bool true) e34
        have g36 := Reg.ev (v := undef) e36
        have g31 := Reg.ev (v := .bool true) e31
        exact Reg.obl_want rfl rfl e31 (Reg.wp_eqv (Option.some_ne_none _) (by go_simp) rfl)
      · intro ax wx hx hs
        obtain ⟨e31, e37, -⟩ := hs
        have g31 := Reg.ev (v := .bool true) e31
        have g37 := Reg.ev (v := .bool true) e37
        exact Reg.obl_free rfl (Reg.wp_eqv (Option.some_ne_none _) (by go_simp) rfl)
      · intro ax wx hx hs
        obtain ⟨e38, -⟩ := hs
        have g38 := Reg.ev (v := .bool true) e38
        exact Reg.obl_free rfl (Reg.wp_eqv (Option.some_ne_none _) (by go_simp) rfl)
      · intro ax wx hx hs
        obtain ⟨e6, e39, -⟩ := hs
        have g6 := Reg.ev (v := .int .i64 0) e6
        have g39 := Reg.ev (v := .bool true) e39
        exact Reg.obl_want rfl rfl e39 (Reg.wp_eqv (Option.some_ne_none _) (by go_simp) rfl)
      · intro ax wx hx hs
        obtain ⟨e40, e39, -⟩ := hs
        have g40 := Reg.ev (v := .int .i64 0) e40
        have g39 := Reg.ev (v := .bool true) e39
        refine Reg.obl_want rfl rfl e39 ?_
        go_simp
        refine (SlotW.code6_any _ _).mono ?_
        rintro e wy ⟨rfl, rfl⟩
        exact Reg.done (Option.some_ne_none _) rfl (bsame _)
      · intro ax wx hx hs
        obtain ⟨e41, e39, -⟩ := hs
        have g41 := Reg.ev (v := .int .i64 0) e41
        have g39 := Reg.ev (v := .bool true) e39
        exact Reg.obl_want rfl rfl e39 (Reg.wp_eqv (Option.some_ne_none _) (by go_simp) rfl)
      · intro ax wx hx hs
        obtain ⟨e39, e42, -⟩ := hs
        have g39 := Reg.ev (v := .bool true) e39
        have g42 := Reg.ev (v := .bool true) e42
        exact Reg.obl_free rfl (Reg.wp_eqv (Option.some_ne_none _) (by go_simp) rfl)
      · intro ax wx hx hs
        obtain ⟨e43, -⟩ := hs
        have g43 := Reg.ev (v := .bool true) e43
        exact Reg.obl_free rfl (Reg.wp_eqv (Option.some_ne_none _) (by go_simp) rfl)
      · intro ax wx hx hs
        obtain ⟨e4, e44, -⟩ := hs
        have g4 := Reg.ev (v := .int .i64 0) e4
        have g44 := Reg.ev (v := .bool true) e44
        exact Reg.obl_want rfl rfl e44 (Reg.wp_eqv (Option.some_ne_none _) (by go_simp) rfl)
      · intro ax wx hx hs
        obtain ⟨e45, e44, -⟩ := hs
        have g45 := Reg.ev (v := .int .i64 0) e45
        have g44 := Reg.ev (v := .bool true) e44
        exact Reg.obl_want rfl rfl e44 (Reg.wp_eqv (Option.some_ne_none _) (by go_simp) rfl)
      · intro ax wx hx hs
        obtain ⟨e46, e44, -⟩ := hs
        have g46 := Reg.ev (v := .bool false) e46
        have g44 := Reg.ev (v := .bool true) e44
        exact Reg.obl_want rfl rfl e44 (Reg.wp_eqv (Option.some_ne_none _) (by go_simp) rfl)
      · intro ax wx hx hs
        obtain ⟨e1, e47, -⟩ := hs
        have g1 := Reg.ev (v := .pointer (some ⟨w.heap.size, 0, none⟩)) e1
        have g47 := Reg.ev (v := .bool false) e47
        obtain ⟨hc, -⟩ := bcell hx
        exact Reg.obl_want rfl rfl e47 (Reg.wp_eqv (Option.some_ne_none _) (by go_simp) rfl)
      · intro ax wx hx hs
        obtain ⟨e5, e47, -⟩ := hs
        have g5 := Reg.ev (v := .pointer (some ⟨W5.heap.size, 0, none⟩)) e5
        have g47 := Reg.ev (v := .bool false) e47
        obtain ⟨hc, -⟩ := bcell hx
        exact Reg.obl_want rfl rfl e47 (Reg.wp_eqv (Option.some_ne_none _) (by go_simp) rfl)
      · intro ax wx hx hs
        obtain ⟨e48, e49, e47, -⟩ := hs
        have g48 := Reg.ev (v := .agg #[.int .i64 s, .string k, .int .i64 kind, .slice A n cap, .int .i64 lo, .int .i64 hi, .int .i64 val]) e48
        have g49 := Reg.ev (v := .agg #[.int .i64 s, .string k, .int .i64 kind, .slice A1 n1 c1, .int .i64 lo, .int .i64 hi, .int .i64 val]) e49
        have g47 := Reg.ev (v := .bool false) e47
        refine Reg.obl_want rfl rfl e47 ?_
        have hx' : Below W6.heap.size W6 wx := hx
        go_simp
        refine (SlotW.refSame_any A A1 n cap n1 c1 w.heap.size W6.heap.size ⟨s, k, kind, data, lo, hi, val⟩ ⟨s, k, kind, data, lo, hi, val⟩ _ (HA.out.below (bstep HB_6.out hx')) (HY6.out.below hx') (bstep HB_6.out hx').size hx'.size).mono ?_
        rintro e wy ⟨rfl, hby⟩
        rw [SlotP.same_self]
        exact Reg.done (Option.some_ne_none _) rfl hby
      · intro ax wx hx hs
        obtain ⟨e47, e50, e44, -⟩ := hs
        have g47 := Reg.ev (v := .bool false) e47
        have g50 := Reg.ev (v := .bool true) e50
        have g44 := Reg.ev (v := .bool true) e44
        exact Reg.obl_want rfl rfl e44 (Reg.wp_eqv (Option.some_ne_none _) (by go_simp) rfl)
      · intro ax wx hx hs
        obtain ⟨e44, e51, -⟩ := hs
        have g44 := Reg.ev (v := .bool true) e44
        have g51 := Reg.ev (v := .bool true) e51
        exact Reg.obl_free rfl (Reg.wp_eqv (Option.some_ne_none _) (by go_simp) rfl)
      · intro ax wx hx hs
        obtain ⟨e52, -⟩ := hs
        have g52 := Reg.ev (v := .bool true) e52
        exact Reg.obl_free rfl (Reg.wp_eqv (Option.some_ne_none _) (by go_simp) rfl)
      · intro ax wx hx hs
        obtain ⟨e53, -⟩ := hs
        have g53 := Reg.ev (v := .bool true) e53
        refine Reg.obl_want rfl rfl e53 ?_
        have hx' : Below W6.heap.size W6 wx := hx
        go_simp
        refine (Live06.live_any _).mono ?_
        rintro e wy ⟨rfl, hby⟩
        exact Reg.done (Option.some_ne_none _) rfl hby
      · intro ax wx hx hs
        obtain ⟨e53, e54, -⟩ := hs
        have g53 := Reg.ev (v := .bool true) e53
        have g54 := Reg.ev (v := .bool true) e54
        exact Reg.obl_free rfl (Reg.wp_eqv (Option.some_ne_none _) (by go_simp) rfl)
      · intro ax wx hx hs
        obtain ⟨e55, -⟩ := hs
        have g55 := Reg.ev (v := .bool true) e55
        exact Reg.obl_free rfl (Reg.wp_eqv (Option.some_ne_none _) (by go_simp) rfl)
    · intro wf hwf
      simp only [Reg.Fin]
      rintro _ rfl _ rfl v22 h22 _ rfl _ rfl _ rfl _ rfl _ rfl _ rfl _ rfl _ rfl _ rfl _ rfl _ rfl _ rfl _ rfl _ rfl _ rfl _ rfl _ rfl _ rfl _ rfl _ rfl _ rfl _ rfl _ rfl _ rfl _ rfl _ rfl _ rfl _ rfl _ rfl _ rfl _ rfl _ rfl _ rfl _ rfl
      go_simp
      go_wp2_with fail
      go_ret
      exact ⟨rfl, bstep HB_6.out hwf⟩
end Go.Proofs.Ytjengjbkdflapaa.slotPuts
