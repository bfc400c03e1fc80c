/-
  Parts of the proof of PoolAhead.
-/
import Derived.Test.YtcfieofcnpalgaaGreatAhG14
import Derived.Test.YtcfieofcnpalgaaGreatAhG15
import Derived.Test.YtcfieofcnpalgaaGreatAhG11
section
namespace Go.Proofs.YtcfieofcnpalgaaGreat.PageW
open Go.RowKit
attribute [local go_sem ↓] alPage_fold ldPage_fold stPage_fold bdPage_fold slPage_fold cp_fold al64_fold ld64_fold st64_fold bd64_fold sl64_fold

set_option maxRecDepth 100000 in
set_option maxHeartbeats 1000000 in
theorem slot_out (l : List UInt8) (i : Int) (hi : i < 0 ∨ 7 ≤ i) (w : World) : Calls Tryz.prog 58 #[.agg (rowV l), .int .i64 i] w (SlotGet.GotItem w (SlotP.none, 2)) := by
  rcases hi with hi | hi
  · go_enter Tryz.func58, Tryz.ntmps58
    go_wp2
    refine bodyPost_ret (v := .tuple #[.agg #[.int .i64 0, .string ⟨#[]⟩, .int .i64 0, .slice none 0 0, .int .i64 0, .int .i64 0, .int .i64 0], .int .i64 2]) ?_ rfl ?_
    · simp [results, Tryz.results58, go_sem]
    · exact SlotGet.got_none _ _ _ (balloc (balloc (bsame w) _) _)
  · have hi' : ¬ i < 0 := by omega
    go_enter Tryz.func58, Tryz.ntmps58
    go_wp2
    refine bodyPost_ret (v := .tuple #[.agg #[.int .i64 0, .string ⟨#[]⟩, .int .i64 0, .slice none 0 0, .int .i64 0, .int .i64 0, .int .i64 0], .int .i64 2]) ?_ rfl ?_
    · simp [results, Tryz.results58, go_sem]
    · exact SlotGet.got_none _ _ _ (balloc (balloc (bsame w) _) _)

set_option maxRecDepth 100000 in
set_option maxHeartbeats 1000000 in
theorem slot_in (l : List UInt8) (hl : l.length = 512) (j : Nat) (hj : j < 7) (w : World) : Calls Tryz.prog 58 #[.agg (rowV l), .int .i64 (j : Int)] w (SlotGet.GotItem w (SlotP.get ((l.drop (32 + j * 64)).take 64))) := by
  have hal := fun W => run_al (P := Tryz.prog) arr64 W
  have HL := Lib.hid hl
  have HZ := Lib.hid (SlotPut.zeros_len 64)
  have HLS : Hid (((l.drop (32 + j * 64)).take 64).length = 64) := Lib.hid (by simp; omega)
  have hsl := fun W => run_sl_all (P := Tryz.prog) arr64 (w.heap.size + 1 + 1) W
  have hsl2 : ∀ W, (slSem 42 (.pointer (some ⟨w.heap.size, 0, none⟩)) (some (.int .i64 (32 + (j : Int) * 64))) none none).run Tryz.prog W = .ok (.slice (some ⟨w.heap.size, 32 + j * 64, none⟩) (512 - (32 + j * 64)) (512 - (32 + j * 64))) W := by
    intro W
    have := run_sl_from (P := Tryz.prog) arrPage w.heap.size (32 + j * 64) (by omega) W
    rwa [show ((32 + j * 64 : Nat) : Int) = 32 + (j : Int) * 64 by omega] at this
  clear hl
  go_enter Tryz.func58, Tryz.ntmps58
  go_wp2_with fail
  generalize hW0 : (((w).alloc (.cells (rowV l) 42)).alloc (.cells #[.int .i64 0, .string ⟨#[]⟩, .int .i64 0, .slice none 0 0, .int .i64 0, .int .i64 0, .int .i64 0] 102)).alloc (.cells (rowV (SlotP.zeros 64)) 117) = W0
  have HS0_0 : Hid (Str W0 (w.heap.size) (rowV l)) := Lib.hid (by rw [← hW0]; have := ((Str.new (w) (rowV l) 42).alloc (.cells #[.int .i64 0, .string ⟨#[]⟩, .int .i64 0, .slice none 0 0, .int .i64 0, .int .i64 0, .int .i64 0] 102)).alloc (.cells (rowV (SlotP.zeros 64)) 117); simpa using this)
  have HS1_0 : Hid (Str W0 (w.heap.size + 1) #[.int .i64 0, .string ⟨#[]⟩, .int .i64 0, .slice none 0 0, .int .i64 0, .int .i64 0, .int .i64 0]) := Lib.hid (by rw [← hW0]; have := (Str.new ((w).alloc (.cells (rowV l) 42)) #[.int .i64 0, .string ⟨#[]⟩, .int .i64 0, .slice none 0 0, .int .i64 0, .int .i64 0, .int .i64 0] 102).alloc (.cells (rowV (SlotP.zeros 64)) 117); simpa using this)
  have HS2_0 : Hid (Str W0 (w.heap.size + 1 + 1) (rowV (SlotP.zeros 64))) := Lib.hid (by rw [← hW0]; have := Str.new (((w).alloc (.cells (rowV l) 42)).alloc (.cells #[.int .i64 0, .string ⟨#[]⟩, .int .i64 0, .slice none 0 0, .int .i64 0, .int .i64 0, .int .i64 0] 102)) (rowV (SlotP.zeros 64)) 117; simpa using this)
  have HB_0 : Hid (Below w.heap.size w W0) := Lib.hid (by rw [← hW0]; exact balloc (balloc (balloc (bsame w) _) _) _)
  have hw_0 := HB_0.out.size
  clear hW0
  have hl0_0 := HS0_0.out.lt
  obtain ⟨f1_0_0, f1_0_1, f1_0_2, f1_0_3, f1_0_4, f1_0_5, f1_0_6⟩ := str7 HS1_0.out
  have hl1_0 := HS1_0.out.lt
  have hf1_0 := fun j => HS1_0.out.frozen j
  have hl2_0 := HS2_0.out.lt
  refine Reg.wp_region_tail (R := ext) (W := W0) [Reg.eqv (.slice (some ⟨w.heap.size + 1 + 1, 0, none⟩) 64 64), Reg.eqv (.int .i64 (j : Int)), Reg.eqv (.int .i64 ((j : Int) * 64)), Reg.eqv (.int .i64 (32 + (j : Int) * 64)), Reg.eqv (.slice (some ⟨w.heap.size, 32 + j * 64, none⟩) (512 - (32 + j * 64)) (512 - (32 + j * 64)))] 24 5 _ [[(6, none)], [(1, none)], [(15, some 1)], [(16, some 2)], [(2, none), (17, some 3)]] rfl (by kernel_rfl) (by kernel_rfl) (by rfl) (by rfl) rfl (by kernel_rfl) ?_ [some 14, some 15, some 16, some 17, some 18] (by kernel_rfl) ?_
  · refine ⟨?_, ?_, ?_, ?_, ?_, trivial⟩
    · intro ax wx hx hs
      obtain ⟨e6, -⟩ := hs
      have g6 := Reg.ev (v := .pointer (some ⟨w.heap.size + 1 + 1, 0, none⟩)) e6
      exact Reg.obl_free rfl (Reg.wp_eqv (Option.some_ne_none _) (by go_simp) rfl)
    · intro ax wx hx hs
      obtain ⟨e1, -⟩ := hs
      have g1 := Reg.ev (v := .int .i64 (j : Int)) e1
      exact Reg.obl_free rfl (Reg.wp_eqv (Option.some_ne_none _) (by go_simp) rfl)
    · intro ax wx hx hs
      obtain ⟨e15, -⟩ := hs
      have g15 := Reg.ev (v := .int .i64 (j : Int)) e15
      refine Reg.obl_free rfl ?_
      exact Reg.wp_eqv (Option.some_ne_none _) (by go_simp; exact IntWalk.i64_in _ (by omega)) rfl
    · intro ax wx hx hs
      obtain ⟨e16, -⟩ := hs
      have g16 := Reg.ev (v := .int .i64 ((j : Int) * 64)) e16
      refine Reg.obl_free rfl ?_
      exact Reg.wp_eqv (Option.some_ne_none _) (by go_simp; exact IntWalk.i64_in _ (by omega)) rfl
    · intro ax wx hx hs
      obtain ⟨e2, e17, -⟩ := hs
      have g2 := Reg.ev (v := .pointer (some ⟨w.heap.size, 0, none⟩)) e2
      have g17 := Reg.ev (v := .int .i64 (32 + (j : Int) * 64)) e17
      exact Reg.obl_free rfl (Reg.wp_eqv (Option.some_ne_none _) (by go_simp) rfl)
  · intro W1 hwf
    simp only [Reg.Fin]
    rintro _ rfl _ rfl _ rfl _ rfl _ rfl
    have hwf' : Below W0.heap.size W0 W1 := hwf
    have hsrc := (HS0_0.out.next hwf').part (32 + j * 64) (512 - (32 + j * 64)) (512 - (32 + j * 64)) (by rw [HL.out]; omega) (Nat.le_refl _) (by unfold maxLen; omega)
    rw [List.take_of_length_le (by rw [List.length_drop, HL.out]; omega)] at hsrc
    have HS0_1 := Lib.hid (HS0_0.out.next hwf')
    have HS1_1 := Lib.hid (HS1_0.out.next hwf')
    have HS2_1 := Lib.hid (HS2_0.out.next hwf')
    have HB_1 := Lib.hid (bstep HB_0.out hwf')
    have hw_1 := HB_1.out.size
    have hws_1 := (hwf').size
    clear HS0_0 f1_0_0 f1_0_1 f1_0_2 f1_0_3 f1_0_4 f1_0_5 f1_0_6 HS1_0 hf1_0 HS2_0
    clear hwf'
    have hl0_1 := HS0_1.out.lt
    obtain ⟨f1_1_0, f1_1_1, f1_1_2, f1_1_3, f1_1_4, f1_1_5, f1_1_6⟩ := str7 HS1_1.out
    have hl1_1 := HS1_1.out.lt
    have hf1_1 := fun j => HS1_1.out.frozen j
    have hl2_1 := HS2_1.out.lt
    obtain ⟨W2, hcp, hV2, hg2⟩ := copy_bytes (P := Tryz.prog) 27 27 3 5 Tryz.underlying27 Be.sizeU8 (dLen := 64) (dCap := 64) (off := 0) HS2_1.out hsrc (by rw [HZ.out]; omega)
    rw [SlotP.over_zero _ _ (by rw [HZ.out]; exact HLS.out.symm)] at hV2
    have HS1_2 := Lib.hid (HS1_1.out.grown hg2 (by omega))
    have HS2_2 := Lib.hid hV2
    have HB_2 := Lib.hid (below_grown HB_1.out hg2 (by omega))
    have hw_2 := HB_2.out.size
    clear hV2 hg2 hsrc hwf hsl hsl2 hal HS0_1
    refine Reg.Goal.mk ?_
    go_simp
    clear hcp
    have hld := run_ld (P := Tryz.prog) arr64 HS2_2.out HLS.out
    go_wp2_with fail
    refine (SlotGet.get_any _ HLS.out _).mono ?_
    rintro e W3 ⟨A1, n1, c1, rfl, hy1, hb3⟩
    generalize SlotP.get ((l.drop (32 + j * 64)).take 64) = r at *
    obtain ⟨⟨s, k, kind, data, lo, hi, val⟩, er⟩ := r
    dsimp only at *
    have HS1_3 := Lib.hid (HS1_2.out.next hb3)
    have HY3 := Lib.hid hy1
    have HB_3 := Lib.hid (bstep HB_2.out hb3)
    have hw_3 := HB_3.out.size
    clear hld hy1 hb3 HS1_2 HS2_2
    have HS0_3 := HS1_3
    clear HS1_3
    obtain ⟨f0_3_0, f0_3_1, f0_3_2, f0_3_3, f0_3_4, f0_3_5, f0_3_6⟩ := str7 HS0_3.out
    have hl0_3 := HS0_3.out.lt
    have hf0_3 := fun j => HS0_3.out.frozen j
    go_wp2_with fail
    generalize hW4 : (((((((W3).setCell ⟨w.heap.size + 1, 0, none⟩ (.int .i64 s)).setCell ⟨w.heap.size + 1, 1, none⟩ (.string k)).setCell ⟨w.heap.size + 1, 2, none⟩ (.int .i64 kind)).setCell ⟨w.heap.size + 1, 3, none⟩ (.slice A1 n1 c1)).setCell ⟨w.heap.size + 1, 4, none⟩ (.int .i64 lo)).setCell ⟨w.heap.size + 1, 5, none⟩ (.int .i64 hi)).setCell ⟨w.heap.size + 1, 6, none⟩ (.int .i64 val) = W4
    have HS0_4 : Hid (Str W4 (w.heap.size + 1) #[.int .i64 s, .string k, .int .i64 kind, .slice A1 n1 c1, .int .i64 lo, .int .i64 hi, .int .i64 val]) := Lib.hid (by rw [← hW4]; have := (((((((HS0_3.out).set 0 (.int .i64 s)).set 1 (.string k)).set 2 (.int .i64 kind)).set 3 (.slice A1 n1 c1)).set 4 (.int .i64 lo)).set 5 (.int .i64 hi)).set 6 (.int .i64 val); simpa using this)
    have hgr4 : W3.grownBy W4 (some (w.heap.size + 1)) := by rw [← hW4]; exact grown_set (grown_set (grown_set (grown_set (grown_set (grown_set (grown_set (grown_refl W3 (w.heap.size + 1)) 0 (.int .i64 s)) 1 (.string k)) 2 (.int .i64 kind)) 3 (.slice A1 n1 c1)) 4 (.int .i64 lo)) 5 (.int .i64 hi)) 6 (.int .i64 val)
    have HB_4 := Lib.hid (below_grown HB_3.out hgr4 (by omega))
    have hw_4 := HB_4.out.size
    have hws_4 := hgr4.size
    have HY4 : Hid (Bytes W4 W4.heap.size A1 n1 c1 data) := Lib.hid ((Bytes.grown HY3.out (Nat.le_refl _) HS0_3.out rfl hgr4).more hws_4)
    clear hW4
    clear f0_3_0 f0_3_1 f0_3_2 f0_3_3 f0_3_4 f0_3_5 f0_3_6 HS0_3 hf0_3
    clear hgr4
    obtain ⟨f0_4_0, f0_4_1, f0_4_2, f0_4_3, f0_4_4, f0_4_5, f0_4_6⟩ := str7 HS0_4.out
    have hl0_4 := HS0_4.out.lt
    have hf0_4 := fun j => HS0_4.out.frozen j
    refine bodyPost_ret (v := .tuple #[.agg #[.int .i64 s, .string k, .int .i64 kind, .slice A1 n1 c1, .int .i64 lo, .int .i64 hi, .int .i64 val], .int .i64 er]) ?_ rfl ?_
    · simp [results, Tryz.results58, go_sem, *]
    · exact ⟨A1, n1, c1, rfl, HY4.out, HB_4.out⟩

theorem slot_any (l : List UInt8) (hl : l.length = 512) (i : Int) (w : World) : Calls Tryz.prog 58 #[.agg (rowV l), .int .i64 i] w (SlotGet.GotItem w (PageP.slot l i)) := by
  unfold PageP.slot
  by_cases hi : i < 0 ∨ 7 ≤ i
  · rw [if_pos hi]
    exact slot_out l i hi w
  · rw [if_neg hi]
    obtain ⟨j, rfl⟩ : ∃ j : Nat, i = (j : Int) := ⟨i.toNat, by omega⟩
    rw [show (j : Int).toNat = j by omega]
    exact slot_in l hl j (by omega) w

end Go.Proofs.YtcfieofcnpalgaaGreat.PageW
end
section
namespace Go.Proofs.YtcfieofcnpalgaaGreat.CrcP

/-- the table when all multiples of step are there -/
def headf (step : Nat) (i : Nat) : Nat := if i % step = 0 then step8 i else 0
/-- the table when the odd multiples of step below a are there, too -/
def tabf (step a : Nat) (i : Nat) : Nat := if i % (2 * step) = 0 then step8 i else if i % step = 0 ∧ i < a then step8 i else 0
theorem tabf_start (step : Nat) (i : Nat) : tabf step 0 i = headf (2 * step) i := by
  unfold tabf headf
  split
  · rfl
  · rw [if_neg (by omega)]
theorem headf_zero (i : Nat) (h : i < 256) : headf 256 i = 0 := by
  unfold headf
  by_cases h0 : i = 0
  · subst h0; decide
  · rw [if_neg (by omega)]
theorem headf_one (i : Nat) : headf 1 i = step8 i := by
  unfold headf
  rw [if_pos (by omega)]
theorem tabf_end128 (i : Nat) (h : i < 256) : tabf 128 256 i = headf 128 i := by
  unfold tabf headf
  by_cases h1 : i % (2 * 128) = 0
  · rw [if_pos h1, if_pos (by omega)]
  · rw [if_neg h1]
    by_cases h2 : i % 128 = 0
    · rw [if_pos ⟨h2, h⟩, if_pos h2]
    · rw [if_neg (by omega), if_neg h2]
theorem tabf_next128 (a i : Nat) (h : a % (2 * 128) = 0) : (if i = a + 128 then step8 (a + 128) else tabf 128 a i) = tabf 128 (a + 2 * 128) i := by
  unfold tabf
  by_cases h1 : i = a + 128
  · subst h1
    rw [if_pos rfl, if_neg (by omega), if_pos (by omega)]
  · rw [if_neg h1]
    by_cases h2 : i % (2 * 128) = 0
    · rw [if_pos h2, if_pos h2]
    · rw [if_neg h2, if_neg h2]
      by_cases h3 : i % 128 = 0 ∧ i < a
      · rw [if_pos h3, if_pos (by omega)]
      · rw [if_neg h3, if_neg (by omega)]
theorem tabf_at128 (a : Nat) (h : a % (2 * 128) = 0) : tabf 128 a a = step8 a := by
  unfold tabf
  rw [if_pos h]
theorem step8_at128 (a : Nat) (h : a % (2 * 128) = 0) : step8 a ^^^ 2197175160 = step8 (a + 128) := by
  have hx : a + 128 = a ^^^ 128 := by
    have h2 : (2 : Nat) ^ 8 = 2 * 128 := by decide
    obtain ⟨q, rfl⟩ : ∃ q, a = 2 ^ 8 * q := ⟨a / (2 * 128), by rw [h2]; omega⟩
    apply Nat.eq_of_testBit_eq
    intro i
    rw [Nat.testBit_two_pow_mul_add _ (by decide), Nat.testBit_xor, Nat.testBit_two_pow_mul]
    by_cases hi : i < 8
    · have h8 : ¬ 8 ≤ i := by omega
      simp [hi, h8]
    · have h0 : Nat.testBit 128 i = false := Nat.testBit_lt_two_pow (Nat.lt_of_lt_of_le (by decide : 128 < 2 ^ 8) (Nat.pow_le_pow_right (by decide) (by omega)))
      have h8 : 8 ≤ i := by omega
      simp [hi, h0, h8]
  rw [hx, step8_xor, show step8 128 = 2197175160 by decide +kernel]
theorem tabf_end64 (i : Nat) (h : i < 256) : tabf 64 256 i = headf 64 i := by
  unfold tabf headf
  by_cases h1 : i % (2 * 64) = 0
  · rw [if_pos h1, if_pos (by omega)]
  · rw [if_neg h1]
    by_cases h2 : i % 64 = 0
    · rw [if_pos ⟨h2, h⟩, if_pos h2]
    · rw [if_neg (by omega), if_neg h2]
theorem tabf_next64 (a i : Nat) (h : a % (2 * 64) = 0) : (if i = a + 64 then step8 (a + 64) else tabf 64 a i) = tabf 64 (a + 2 * 64) i := by
  unfold tabf
  by_cases h1 : i = a + 64
  · subst h1
    rw [if_pos rfl, if_neg (by omega), if_pos (by omega)]
  · rw [if_neg h1]
    by_cases h2 : i % (2 * 64) = 0
    · rw [if_pos h2, if_pos h2]
    · rw [if_neg h2, if_neg h2]
      by_cases h3 : i % 64 = 0 ∧ i < a
      · rw [if_pos h3, if_pos (by omega)]
      · rw [if_neg h3, if_neg (by omega)]
theorem tabf_at64 (a : Nat) (h : a % (2 * 64) = 0) : tabf 64 a a = step8 a := by
  unfold tabf
  rw [if_pos h]
theorem step8_at64 (a : Nat) (h : a % (2 * 64) = 0) : step8 a ^^^ 1098587580 = step8 (a + 64) := by
  have hx : a + 64 = a ^^^ 64 := by
    have h2 : (2 : Nat) ^ 7 = 2 * 64 := by decide
    obtain ⟨q, rfl⟩ : ∃ q, a = 2 ^ 7 * q := ⟨a / (2 * 64), by rw [h2]; omega⟩
    apply Nat.eq_of_testBit_eq
    intro i
    rw [Nat.testBit_two_pow_mul_add _ (by decide), Nat.testBit_xor, Nat.testBit_two_pow_mul]
    by_cases hi : i < 7
    · have h8 : ¬ 7 ≤ i := by omega
      simp [hi, h8]
    · have h0 : Nat.testBit 64 i = false := Nat.testBit_lt_two_pow (Nat.lt_of_lt_of_le (by decide : 64 < 2 ^ 7) (Nat.pow_le_pow_right (by decide) (by omega)))
      have h8 : 7 ≤ i := by omega
      simp [hi, h0, h8]
  rw [hx, step8_xor, show step8 64 = 1098587580 by decide +kernel]
theorem tabf_end32 (i : Nat) (h : i < 256) : tabf 32 256 i = headf 32 i := by
  unfold tabf headf
  by_cases h1 : i % (2 * 32) = 0
  · rw [if_pos h1, if_pos (by omega)]
  · rw [if_neg h1]
    by_cases h2 : i % 32 = 0
    · rw [if_pos ⟨h2, h⟩, if_pos h2]
    · rw [if_neg (by omega), if_neg h2]
theorem tabf_next32 (a i : Nat) (h : a % (2 * 32) = 0) : (if i = a + 32 then step8 (a + 32) else tabf 32 a i) = tabf 32 (a + 2 * 32) i := by
  unfold tabf
  by_cases h1 : i = a + 32
  · subst h1
    rw [if_pos rfl, if_neg (by omega), if_pos (by omega)]
  · rw [if_neg h1]
    by_cases h2 : i % (2 * 32) = 0
    · rw [if_pos h2, if_pos h2]
    · rw [if_neg h2, if_neg h2]
      by_cases h3 : i % 32 = 0 ∧ i < a
      · rw [if_pos h3, if_pos (by omega)]
      · rw [if_neg h3, if_neg (by omega)]
theorem tabf_at32 (a : Nat) (h : a % (2 * 32) = 0) : tabf 32 a a = step8 a := by
  unfold tabf
  rw [if_pos h]
theorem step8_at32 (a : Nat) (h : a % (2 * 32) = 0) : step8 a ^^^ 549293790 = step8 (a + 32) := by
  have hx : a + 32 = a ^^^ 32 := by
    have h2 : (2 : Nat) ^ 6 = 2 * 32 := by decide
    obtain ⟨q, rfl⟩ : ∃ q, a = 2 ^ 6 * q := ⟨a / (2 * 32), by rw [h2]; omega⟩
    apply Nat.eq_of_testBit_eq
    intro i
    rw [Nat.testBit_two_pow_mul_add _ (by decide), Nat.testBit_xor, Nat.testBit_two_pow_mul]
    by_cases hi : i < 6
    · have h8 : ¬ 6 ≤ i := by omega
      simp [hi, h8]
    · have h0 : Nat.testBit 32 i = false := Nat.testBit_lt_two_pow (Nat.lt_of_lt_of_le (by decide : 32 < 2 ^ 6) (Nat.pow_le_pow_right (by decide) (by omega)))
      have h8 : 6 ≤ i := by omega
      simp [hi, h0, h8]
  rw [hx, step8_xor, show step8 32 = 549293790 by decide +kernel]
theorem tabf_end16 (i : Nat) (h : i < 256) : tabf 16 256 i = headf 16 i := by
  unfold tabf headf
  by_cases h1 : i % (2 * 16) = 0
  · rw [if_pos h1, if_pos (by omega)]
  · rw [if_neg h1]
    by_cases h2 : i % 16 = 0
    · rw [if_pos ⟨h2, h⟩, if_pos h2]
    · rw [if_neg (by omega), if_neg h2]
theorem tabf_next16 (a i : Nat) (h : a % (2 * 16) = 0) : (if i = a + 16 then step8 (a + 16) else tabf 16 a i) = tabf 16 (a + 2 * 16) i := by
  unfold tabf
  by_cases h1 : i = a + 16
  · subst h1
    rw [if_pos rfl, if_neg (by omega), if_pos (by omega)]
  · rw [if_neg h1]
    by_cases h2 : i % (2 * 16) = 0
    · rw [if_pos h2, if_pos h2]
    · rw [if_neg h2, if_neg h2]
      by_cases h3 : i % 16 = 0 ∧ i < a
      · rw [if_pos h3, if_pos (by omega)]
      · rw [if_neg h3, if_neg (by omega)]
theorem tabf_at16 (a : Nat) (h : a % (2 * 16) = 0) : tabf 16 a a = step8 a := by
  unfold tabf
  rw [if_pos h]
theorem step8_at16 (a : Nat) (h : a % (2 * 16) = 0) : step8 a ^^^ 274646895 = step8 (a + 16) := by
  have hx : a + 16 = a ^^^ 16 := by
    have h2 : (2 : Nat) ^ 5 = 2 * 16 := by decide
    obtain ⟨q, rfl⟩ : ∃ q, a = 2 ^ 5 * q := ⟨a / (2 * 16), by rw [h2]; omega⟩
    apply Nat.eq_of_testBit_eq
    intro i
    rw [Nat.testBit_two_pow_mul_add _ (by decide), Nat.testBit_xor, Nat.testBit_two_pow_mul]
    by_cases hi : i < 5
    · have h8 : ¬ 5 ≤ i := by omega
      simp [hi, h8]
    · have h0 : Nat.testBit 16 i = false := Nat.testBit_lt_two_pow (Nat.lt_of_lt_of_le (by decide : 16 < 2 ^ 5) (Nat.pow_le_pow_right (by decide) (by omega)))
      have h8 : 5 ≤ i := by omega
      simp [hi, h0, h8]
  rw [hx, step8_xor, show step8 16 = 274646895 by decide +kernel]
theorem tabf_end8 (i : Nat) (h : i < 256) : tabf 8 256 i = headf 8 i := by
  unfold tabf headf
  by_cases h1 : i % (2 * 8) = 0
  · rw [if_pos h1, if_pos (by omega)]
  · rw [if_neg h1]
    by_cases h2 : i % 8 = 0
    · rw [if_pos ⟨h2, h⟩, if_pos h2]
    · rw [if_neg (by omega), if_neg h2]
theorem tabf_next8 (a i : Nat) (h : a % (2 * 8) = 0) : (if i = a + 8 then step8 (a + 8) else tabf 8 a i) = tabf 8 (a + 2 * 8) i := by
  unfold tabf
  by_cases h1 : i = a + 8
  · subst h1
    rw [if_pos rfl, if_neg (by omega), if_pos (by omega)]
  · rw [if_neg h1]
    by_cases h2 : i % (2 * 8) = 0
    · rw [if_pos h2, if_pos h2]
    · rw [if_neg h2, if_neg h2]
      by_cases h3 : i % 8 = 0 ∧ i < a
      · rw [if_pos h3, if_pos (by omega)]
      · rw [if_neg h3, if_neg (by omega)]
theorem tabf_at8 (a : Nat) (h : a % (2 * 8) = 0) : tabf 8 a a = step8 a := by
  unfold tabf
  rw [if_pos h]
theorem step8_at8 (a : Nat) (h : a % (2 * 8) = 0) : step8 a ^^^ 2329499855 = step8 (a + 8) := by
  have hx : a + 8 = a ^^^ 8 := by
    have h2 : (2 : Nat) ^ 4 = 2 * 8 := by decide
    obtain ⟨q, rfl⟩ : ∃ q, a = 2 ^ 4 * q := ⟨a / (2 * 8), by rw [h2]; omega⟩
    apply Nat.eq_of_testBit_eq
    intro i
    rw [Nat.testBit_two_pow_mul_add _ (by decide), Nat.testBit_xor, Nat.testBit_two_pow_mul]
    by_cases hi : i < 4
    · have h8 : ¬ 4 ≤ i := by omega
      simp [hi, h8]
    · have h0 : Nat.testBit 8 i = false := Nat.testBit_lt_two_pow (Nat.lt_of_lt_of_le (by decide : 8 < 2 ^ 4) (Nat.pow_le_pow_right (by decide) (by omega)))
      have h8 : 4 ≤ i := by omega
      simp [hi, h0, h8]
  rw [hx, step8_xor, show step8 8 = 2329499855 by decide +kernel]
theorem tabf_end4 (i : Nat) (h : i < 256) : tabf 4 256 i = headf 4 i := by
  unfold tabf headf
  by_cases h1 : i % (2 * 4) = 0
  · rw [if_pos h1, if_pos (by omega)]
  · rw [if_neg h1]
    by_cases h2 : i % 4 = 0
    · rw [if_pos ⟨h2, h⟩, if_pos h2]
    · rw [if_neg (by omega), if_neg h2]
theorem tabf_next4 (a i : Nat) (h : a % (2 * 4) = 0) : (if i = a + 4 then step8 (a + 4) else tabf 4 a i) = tabf 4 (a + 2 * 4) i := by
  unfold tabf
  by_cases h1 : i = a + 4
  · subst h1
    rw [if_pos rfl, if_neg (by omega), if_pos (by omega)]
  · rw [if_neg h1]
    by_cases h2 : i % (2 * 4) = 0
    · rw [if_pos h2, if_pos h2]
    · rw [if_neg h2, if_neg h2]
      by_cases h3 : i % 4 = 0 ∧ i < a
      · rw [if_pos h3, if_pos (by omega)]
      · rw [if_neg h3, if_neg (by omega)]
theorem tabf_at4 (a : Nat) (h : a % (2 * 4) = 0) : tabf 4 a a = step8 a := by
  unfold tabf
  rw [if_pos h]
theorem step8_at4 (a : Nat) (h : a % (2 * 4) = 0) : step8 a ^^^ 3348797215 = step8 (a + 4) := by
  have hx : a + 4 = a ^^^ 4 := by
    have h2 : (2 : Nat) ^ 3 = 2 * 4 := by decide
    obtain ⟨q, rfl⟩ : ∃ q, a = 2 ^ 3 * q := ⟨a / (2 * 4), by rw [h2]; omega⟩
    apply Nat.eq_of_testBit_eq
    intro i
    rw [Nat.testBit_two_pow_mul_add _ (by decide), Nat.testBit_xor, Nat.testBit_two_pow_mul]
    by_cases hi : i < 3
    · have h8 : ¬ 3 ≤ i := by omega
      simp [hi, h8]
    · have h0 : Nat.testBit 4 i = false := Nat.testBit_lt_two_pow (Nat.lt_of_lt_of_le (by decide : 4 < 2 ^ 3) (Nat.pow_le_pow_right (by decide) (by omega)))
      have h8 : 3 ≤ i := by omega
      simp [hi, h0, h8]
  rw [hx, step8_xor, show step8 4 = 3348797215 by decide +kernel]
theorem tabf_end2 (i : Nat) (h : i < 256) : tabf 2 256 i = headf 2 i := by
  unfold tabf headf
  by_cases h1 : i % (2 * 2) = 0
  · rw [if_pos h1, if_pos (by omega)]
  · rw [if_neg h1]
    by_cases h2 : i % 2 = 0
    · rw [if_pos ⟨h2, h⟩, if_pos h2]
    · rw [if_neg (by omega), if_neg h2]
theorem tabf_next2 (a i : Nat) (h : a % (2 * 2) = 0) : (if i = a + 2 then step8 (a + 2) else tabf 2 a i) = tabf 2 (a + 2 * 2) i := by
  unfold tabf
  by_cases h1 : i = a + 2
  · subst h1
    rw [if_pos rfl, if_neg (by omega), if_pos (by omega)]
  · rw [if_neg h1]
    by_cases h2 : i % (2 * 2) = 0
    · rw [if_pos h2, if_pos h2]
    · rw [if_neg h2, if_neg h2]
      by_cases h3 : i % 2 = 0 ∧ i < a
      · rw [if_pos h3, if_pos (by omega)]
      · rw [if_neg h3, if_neg (by omega)]
theorem tabf_at2 (a : Nat) (h : a % (2 * 2) = 0) : tabf 2 a a = step8 a := by
  unfold tabf
  rw [if_pos h]
theorem step8_at2 (a : Nat) (h : a % (2 * 2) = 0) : step8 a ^^^ 3778769143 = step8 (a + 2) := by
  have hx : a + 2 = a ^^^ 2 := by
    have h2 : (2 : Nat) ^ 2 = 2 * 2 := by decide
    obtain ⟨q, rfl⟩ : ∃ q, a = 2 ^ 2 * q := ⟨a / (2 * 2), by rw [h2]; omega⟩
    apply Nat.eq_of_testBit_eq
    intro i
    rw [Nat.testBit_two_pow_mul_add _ (by decide), Nat.testBit_xor, Nat.testBit_two_pow_mul]
    by_cases hi : i < 2
    · have h8 : ¬ 2 ≤ i := by omega
      simp [hi, h8]
    · have h0 : Nat.testBit 2 i = false := Nat.testBit_lt_two_pow (Nat.lt_of_lt_of_le (by decide : 2 < 2 ^ 2) (Nat.pow_le_pow_right (by decide) (by omega)))
      have h8 : 2 ≤ i := by omega
      simp [hi, h0, h8]
  rw [hx, step8_xor, show step8 2 = 3778769143 by decide +kernel]
theorem tabf_end1 (i : Nat) (h : i < 256) : tabf 1 256 i = headf 1 i := by
  unfold tabf headf
  by_cases h1 : i % (2 * 1) = 0
  · rw [if_pos h1, if_pos (by omega)]
  · rw [if_neg h1]
    by_cases h2 : i % 1 = 0
    · rw [if_pos ⟨h2, h⟩, if_pos h2]
    · rw [if_neg (by omega), if_neg h2]
theorem tabf_next1 (a i : Nat) (h : a % (2 * 1) = 0) : (if i = a + 1 then step8 (a + 1) else tabf 1 a i) = tabf 1 (a + 2 * 1) i := by
  unfold tabf
  by_cases h1 : i = a + 1
  · subst h1
    rw [if_pos rfl, if_neg (by omega), if_pos (by omega)]
  · rw [if_neg h1]
    by_cases h2 : i % (2 * 1) = 0
    · rw [if_pos h2, if_pos h2]
    · rw [if_neg h2, if_neg h2]
      by_cases h3 : i % 1 = 0 ∧ i < a
      · rw [if_pos h3, if_pos (by omega)]
      · rw [if_neg h3, if_neg (by omega)]
theorem tabf_at1 (a : Nat) (h : a % (2 * 1) = 0) : tabf 1 a a = step8 a := by
  unfold tabf
  rw [if_pos h]
theorem step8_at1 (a : Nat) (h : a % (2 * 1) = 0) : step8 a ^^^ 4067132163 = step8 (a + 1) := by
  have hx : a + 1 = a ^^^ 1 := by
    have h2 : (2 : Nat) ^ 1 = 2 * 1 := by decide
    obtain ⟨q, rfl⟩ : ∃ q, a = 2 ^ 1 * q := ⟨a / (2 * 1), by rw [h2]; omega⟩
    apply Nat.eq_of_testBit_eq
    intro i
    rw [Nat.testBit_two_pow_mul_add _ (by decide), Nat.testBit_xor, Nat.testBit_two_pow_mul]
    by_cases hi : i < 1
    · have h8 : ¬ 1 ≤ i := by omega
      simp [hi, h8]
    · have h0 : Nat.testBit 1 i = false := Nat.testBit_lt_two_pow (Nat.lt_of_lt_of_le (by decide : 1 < 2 ^ 1) (Nat.pow_le_pow_right (by decide) (by omega)))
      have h8 : 1 ≤ i := by omega
      simp [hi, h0, h8]
  rw [hx, step8_xor, show step8 1 = 4067132163 by decide +kernel]
end Go.Proofs.YtcfieofcnpalgaaGreat.CrcP
end
