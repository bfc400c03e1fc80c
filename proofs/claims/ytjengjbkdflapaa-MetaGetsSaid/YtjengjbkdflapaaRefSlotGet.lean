/-
  The walk of the reference's Get of a slot: which item bytes are.
-/
import Derived.Test.YtjengjbkdflapaaSlotGet
import Derived.Test.YtjengjbkdflapaaRefCellGet
import Derived.Test.YtjengjbkdflapaaRefSlotBytes
namespace Go.Proofs.Ytjengjbkdflapaa.RefSlotGet
open Go.RowKit
attribute [local go_sem ↓] app_fold cut_fold

theorem bytes_none : SlotP.bytes SlotP.none = SlotP.zeros 64 := rfl
theorem bad_zero (l : List UInt8) (h : l ≠ SlotP.zeros 64) (h0 : (l.getD 0 0).toNat = 0) : SlotP.good l = false := by
  have hb : SlotP.bytes (SlotP.seem l) = SlotP.zeros 64 := by
    unfold SlotP.bytes
    rw [if_neg]
    intro hh
    exact hh.1 (by unfold SlotP.seem; rw [h0]; rfl)
  unfold SlotP.good
  rw [hb]
  have : (SlotP.zeros 64 == l) = false := by simpa using fun e => h e.symm
  rw [this]
  simp
theorem val0 (l : List UInt8) (h : l.length = 64) : NumP.val l 0 1 = ((l.getD 0 0).toNat : Int) := by
  match l, h with
  | a :: r, _ => exact NumP.val_one [] r a
theorem val1 (l : List UInt8) (h : l.length = 64) : NumP.val l 1 1 = ((l.getD 1 0).toNat : Int) := by
  match l, h with
  | a :: b :: r, _ => exact NumP.val_one [a] r b

set_option maxRecDepth 100000 in
set_option maxHeartbeats 2000000 in
theorem get_any (A : Option Addr) (c B : Nat) (l : List UInt8) (w : World) (h : Bytes w B A 64 c l) (hB : B ≤ w.heap.size) :
    Calls Try.prog 34 #[.slice A 64 c] w (SlotGet.GotItem w (SlotP.get l)) := by
  have hcm := h.2.2.1
  have hnc := h.2.1
  unfold maxLen at hcm
  have hl := h.len
  have H := Lib.hid h
  have HL := Lib.hid hl
  have HV0 := Lib.hid (val0 l hl)
  have HV1 := Lib.hid (val1 l hl)
  have HT0 := Lib.hid (NumW.there_yes l 0 1 (by omega))
  have HT1 := Lib.hid (NumW.there_yes l 1 1 (by omega))
  obtain ⟨z, hz⟩ : ∃ z, (l.getD 0 0).toNat = z := ⟨_, rfl⟩
  obtain ⟨m, hm⟩ : ∃ m, (l.getD 1 0).toNat = m := ⟨_, rfl⟩
  have hz8 : z < 256 := by rw [← hz]; exact (l.getD 0 0).toNat_lt
  have hm8 : m < 256 := by rw [← hm]; exact (l.getD 1 0).toNat_lt
  rw [hz] at HV0
  rw [hm] at HV1
  have HZ := Lib.hid hz
  have HM := Lib.hid hm
  clear h hl hz hm
  by_cases h0 : z = 0
  · subst h0
    cases hq : (l == SlotP.zeros 64)
    · have HQ := Lib.hid hq
      have hne : l ≠ SlotP.zeros 64 := by simpa using hq
      have HG := Lib.hid (SlotGet.get_big l hne (bad_zero l hne HZ.out))
      clear hne
      clear hq
      go_enter Try.func34, Try.ntmps34
      go_wp2_with fail
      generalize hW0 : (w).alloc (.cells #[.int .i64 0, .string ⟨#[]⟩, .int .i64 0, .slice none 0 0, .int .i64 0, .int .i64 0, .int .i64 0] 38) = W0
      have HS0_0 : Hid (Str W0 (w.heap.size) #[.int .i64 0, .string ⟨#[]⟩, .int .i64 0, .slice none 0 0, .int .i64 0, .int .i64 0, .int .i64 0]) := Lib.hid (by rw [← hW0]; have := Str.new (w) #[.int .i64 0, .string ⟨#[]⟩, .int .i64 0, .slice none 0 0, .int .i64 0, .int .i64 0, .int .i64 0] 38; simpa using this)
      have HB_0 : Hid (Below w.heap.size w W0) := Lib.hid (by rw [← hW0]; exact balloc (bsame w) _)
      have hw_0 := HB_0.out.size
      clear hW0
      obtain ⟨f0_0_0, f0_0_1, f0_0_2, f0_0_3, f0_0_4, f0_0_5, f0_0_6⟩ := str7 HS0_0.out
      have hl0_0 := HS0_0.out.lt
      have hf0_0 := fun j => HS0_0.out.frozen j
      refine (NumW.at_any A 64 c B 0 1 l _ (H.out.below (HB_0.out.mono hB)) (by omega) (by omega) (by omega)).mono ?_
      rintro e W0_ ⟨rfl, rfl⟩
      rw [HT0.out, HV0.out]
      go_wp2_with fail
      refine (NumW.at_any A 64 c B 1 1 l _ (H.out.below (HB_0.out.mono hB)) (by omega) (by omega) (by omega)).mono ?_
      rintro e W0_ ⟨rfl, rfl⟩
      rw [HT1.out, HV1.out]
      go_wp2_with fail
      refine (RefSlotBytes.bytes_any none 0 0 0 SlotP.none _ (Bytes.none_ _ _) (Nat.zero_le _) (by decide)).mono ?_
      rintro e W1 ⟨A1, n1, c1, rfl, hy1, hb1⟩
      rw [bytes_none] at hy1
      have HY1 := Lib.hid hy1
      clear hy1
      have HS0_1 := Lib.hid (HS0_0.out.next hb1)
      have HB_1 := Lib.hid (bstep HB_0.out hb1)
      have hw_1 := HB_1.out.size
      have hws_1 := (hb1).size
      clear f0_0_0 f0_0_1 f0_0_2 f0_0_3 f0_0_4 f0_0_5 f0_0_6 HS0_0 hf0_0
      clear hb1
      obtain ⟨f0_1_0, f0_1_1, f0_1_2, f0_1_3, f0_1_4, f0_1_5, f0_1_6⟩ := str7 HS0_1.out
      have hl0_1 := HS0_1.out.lt
      have hf0_1 := fun j => HS0_1.out.frozen j
      go_wp2_with fail
      refine (Same.same_any A A1 64 c n1 c1 B _ l _ _ (H.out.below (HB_1.out.mono hB)) HY1.out).mono ?_
      rintro e W1_ ⟨rfl, rfl⟩
      rw [HQ.out]
      go_wp2_with fail
      generalize hW2 : (((((((W1).setCell ⟨w.heap.size, 0, none⟩ (.int .i64 0)).setCell ⟨w.heap.size, 1, none⟩ (.string ⟨#[]⟩)).setCell ⟨w.heap.size, 2, none⟩ (.int .i64 0)).setCell ⟨w.heap.size, 3, none⟩ (.slice none 0 0)).setCell ⟨w.heap.size, 4, none⟩ (.int .i64 0)).setCell ⟨w.heap.size, 5, none⟩ (.int .i64 0)).setCell ⟨w.heap.size, 6, none⟩ (.int .i64 0) = W2
      have HS0_2 : Hid (Str W2 (w.heap.size) #[.int .i64 0, .string ⟨#[]⟩, .int .i64 0, .slice none 0 0, .int .i64 0, .int .i64 0, .int .i64 0]) := Lib.hid (by rw [← hW2]; have := (((((((HS0_1.out).set 0 (.int .i64 0)).set 1 (.string ⟨#[]⟩)).set 2 (.int .i64 0)).set 3 (.slice none 0 0)).set 4 (.int .i64 0)).set 5 (.int .i64 0)).set 6 (.int .i64 0); simpa using this)
      have hgr2 : W1.grownBy W2 (some (w.heap.size)) := by rw [← hW2]; exact grown_set (grown_set (grown_set (grown_set (grown_set (grown_set (grown_set (grown_refl W1 (w.heap.size)) 0 (.int .i64 0)) 1 (.string ⟨#[]⟩)) 2 (.int .i64 0)) 3 (.slice none 0 0)) 4 (.int .i64 0)) 5 (.int .i64 0)) 6 (.int .i64 0)
      have HB_2 := Lib.hid (below_grown HB_1.out hgr2 (by omega))
      have hw_2 := HB_2.out.size
      have hws_2 := hgr2.size
      clear hW2
      clear f0_1_0 f0_1_1 f0_1_2 f0_1_3 f0_1_4 f0_1_5 f0_1_6 HS0_1 hf0_1
      clear hgr2
      obtain ⟨f0_2_0, f0_2_1, f0_2_2, f0_2_3, f0_2_4, f0_2_5, f0_2_6⟩ := str7 HS0_2.out
      have hl0_2 := HS0_2.out.lt
      have hf0_2 := fun j => HS0_2.out.frozen j
      refine bodyPost_ret (v := .tuple #[.agg #[.int .i64 0, .string ⟨#[]⟩, .int .i64 0, .slice none 0 0, .int .i64 0, .int .i64 0, .int .i64 0], .int .i64 12]) ?_ rfl ?_
      · simp [results, Try.results34, go_sem, *]
      · rw [HG.out]
        exact SlotGet.got_none _ _ _ HB_2.out
    · have HQ := Lib.hid hq
      have HG : Hid (SlotP.get l = (SlotP.none, 0)) := Lib.hid (by rw [show l = SlotP.zeros 64 by simpa using hq]; exact SlotP.get_zeros)
      clear hq
      go_enter Try.func34, Try.ntmps34
      go_wp2_with fail
      generalize hW0 : (w).alloc (.cells #[.int .i64 0, .string ⟨#[]⟩, .int .i64 0, .slice none 0 0, .int .i64 0, .int .i64 0, .int .i64 0] 38) = W0
      have HS0_0 : Hid (Str W0 (w.heap.size) #[.int .i64 0, .string ⟨#[]⟩, .int .i64 0, .slice none 0 0, .int .i64 0, .int .i64 0, .int .i64 0]) := Lib.hid (by rw [← hW0]; have := Str.new (w) #[.int .i64 0, .string ⟨#[]⟩, .int .i64 0, .slice none 0 0, .int .i64 0, .int .i64 0, .int .i64 0] 38; simpa using this)
      have HB_0 : Hid (Below w.heap.size w W0) := Lib.hid (by rw [← hW0]; exact balloc (bsame w) _)
      have hw_0 := HB_0.out.size
      clear hW0
      obtain ⟨f0_0_0, f0_0_1, f0_0_2, f0_0_3, f0_0_4, f0_0_5, f0_0_6⟩ := str7 HS0_0.out
      have hl0_0 := HS0_0.out.lt
      have hf0_0 := fun j => HS0_0.out.frozen j
      refine (NumW.at_any A 64 c B 0 1 l _ (H.out.below (HB_0.out.mono hB)) (by omega) (by omega) (by omega)).mono ?_
      rintro e W0_ ⟨rfl, rfl⟩
      rw [HT0.out, HV0.out]
      go_wp2_with fail
      refine (NumW.at_any A 64 c B 1 1 l _ (H.out.below (HB_0.out.mono hB)) (by omega) (by omega) (by omega)).mono ?_
      rintro e W0_ ⟨rfl, rfl⟩
      rw [HT1.out, HV1.out]
      go_wp2_with fail
      refine (RefSlotBytes.bytes_any none 0 0 0 SlotP.none _ (Bytes.none_ _ _) (Nat.zero_le _) (by decide)).mono ?_
      rintro e W1 ⟨A1, n1, c1, rfl, hy1, hb1⟩
      rw [bytes_none] at hy1
      have HY1 := Lib.hid hy1
      clear hy1
      have HS0_1 := Lib.hid (HS0_0.out.next hb1)
      have HB_1 := Lib.hid (bstep HB_0.out hb1)
      have hw_1 := HB_1.out.size
      have hws_1 := (hb1).size
      clear f0_0_0 f0_0_1 f0_0_2 f0_0_3 f0_0_4 f0_0_5 f0_0_6 HS0_0 hf0_0
      clear hb1
      obtain ⟨f0_1_0, f0_1_1, f0_1_2, f0_1_3, f0_1_4, f0_1_5, f0_1_6⟩ := str7 HS0_1.out
      have hl0_1 := HS0_1.out.lt
      have hf0_1 := fun j => HS0_1.out.frozen j
      go_wp2_with fail
      refine (Same.same_any A A1 64 c n1 c1 B _ l _ _ (H.out.below (HB_1.out.mono hB)) HY1.out).mono ?_
      rintro e W1_ ⟨rfl, rfl⟩
      rw [HQ.out]
      go_wp2_with fail
      generalize hW2 : (((((((W1).setCell ⟨w.heap.size, 0, none⟩ (.int .i64 0)).setCell ⟨w.heap.size, 1, none⟩ (.string ⟨#[]⟩)).setCell ⟨w.heap.size, 2, none⟩ (.int .i64 0)).setCell ⟨w.heap.size, 3, none⟩ (.slice none 0 0)).setCell ⟨w.heap.size, 4, none⟩ (.int .i64 0)).setCell ⟨w.heap.size, 5, none⟩ (.int .i64 0)).setCell ⟨w.heap.size, 6, none⟩ (.int .i64 0) = W2
      have HS0_2 : Hid (Str W2 (w.heap.size) #[.int .i64 0, .string ⟨#[]⟩, .int .i64 0, .slice none 0 0, .int .i64 0, .int .i64 0, .int .i64 0]) := Lib.hid (by rw [← hW2]; have := (((((((HS0_1.out).set 0 (.int .i64 0)).set 1 (.string ⟨#[]⟩)).set 2 (.int .i64 0)).set 3 (.slice none 0 0)).set 4 (.int .i64 0)).set 5 (.int .i64 0)).set 6 (.int .i64 0); simpa using this)
      have hgr2 : W1.grownBy W2 (some (w.heap.size)) := by rw [← hW2]; exact grown_set (grown_set (grown_set (grown_set (grown_set (grown_set (grown_set (grown_refl W1 (w.heap.size)) 0 (.int .i64 0)) 1 (.string ⟨#[]⟩)) 2 (.int .i64 0)) 3 (.slice none 0 0)) 4 (.int .i64 0)) 5 (.int .i64 0)) 6 (.int .i64 0)
      have HB_2 := Lib.hid (below_grown HB_1.out hgr2 (by omega))
      have hw_2 := HB_2.out.size
      have hws_2 := hgr2.size
      clear hW2
      clear f0_1_0 f0_1_1 f0_1_2 f0_1_3 f0_1_4 f0_1_5 f0_1_6 HS0_1 hf0_1
      clear hgr2
      obtain ⟨f0_2_0, f0_2_1, f0_2_2, f0_2_3, f0_2_4, f0_2_5, f0_2_6⟩ := str7 HS0_2.out
      have hl0_2 := HS0_2.out.lt
      have hf0_2 := fun j => HS0_2.out.frozen j
      refine bodyPost_ret (v := .tuple #[.agg #[.int .i64 0, .string ⟨#[]⟩, .int .i64 0, .slice none 0 0, .int .i64 0, .int .i64 0, .int .i64 0], .int .i64 0]) ?_ rfl ?_
      · simp [results, Try.results34, go_sem, *]
      · rw [HG.out]
        exact SlotGet.got_none _ _ _ HB_2.out
  have hzb : ((z : Int) == 0) = false := by simpa using h0
  have HNZ : Hid (l ≠ SlotP.zeros 64) := Lib.hid (by rintro rfl; exact h0 (by rw [← HZ.out]; rfl))
  by_cases hm16 : 16 < m
  · have HG := Lib.hid (SlotGet.get_big l HNZ.out (by unfold SlotP.good; rw [HM.out, decide_eq_false (by omega)]; rfl))
    clear h0
    go_enter Try.func34, Try.ntmps34
    go_wp2_with fail
    generalize hW0 : (w).alloc (.cells #[.int .i64 0, .string ⟨#[]⟩, .int .i64 0, .slice none 0 0, .int .i64 0, .int .i64 0, .int .i64 0] 38) = W0
    have HS0_0 : Hid (Str W0 (w.heap.size) #[.int .i64 0, .string ⟨#[]⟩, .int .i64 0, .slice none 0 0, .int .i64 0, .int .i64 0, .int .i64 0]) := Lib.hid (by rw [← hW0]; have := Str.new (w) #[.int .i64 0, .string ⟨#[]⟩, .int .i64 0, .slice none 0 0, .int .i64 0, .int .i64 0, .int .i64 0] 38; simpa using this)
    have HB_0 : Hid (Below w.heap.size w W0) := Lib.hid (by rw [← hW0]; exact balloc (bsame w) _)
    have hw_0 := HB_0.out.size
    clear hW0
    obtain ⟨f0_0_0, f0_0_1, f0_0_2, f0_0_3, f0_0_4, f0_0_5, f0_0_6⟩ := str7 HS0_0.out
    have hl0_0 := HS0_0.out.lt
    have hf0_0 := fun j => HS0_0.out.frozen j
    refine (NumW.at_any A 64 c B 0 1 l _ (H.out.below (HB_0.out.mono hB)) (by omega) (by omega) (by omega)).mono ?_
    rintro e W0_ ⟨rfl, rfl⟩
    rw [HT0.out, HV0.out]
    go_wp2_with fail
    refine (NumW.at_any A 64 c B 1 1 l _ (H.out.below (HB_0.out.mono hB)) (by omega) (by omega) (by omega)).mono ?_
    rintro e W0_ ⟨rfl, rfl⟩
    rw [HT1.out, HV1.out]
    go_wp2_with fail
    generalize hW1 : (((((((W0).setCell ⟨w.heap.size, 0, none⟩ (.int .i64 0)).setCell ⟨w.heap.size, 1, none⟩ (.string ⟨#[]⟩)).setCell ⟨w.heap.size, 2, none⟩ (.int .i64 0)).setCell ⟨w.heap.size, 3, none⟩ (.slice none 0 0)).setCell ⟨w.heap.size, 4, none⟩ (.int .i64 0)).setCell ⟨w.heap.size, 5, none⟩ (.int .i64 0)).setCell ⟨w.heap.size, 6, none⟩ (.int .i64 0) = W1
    have HS0_1 : Hid (Str W1 (w.heap.size) #[.int .i64 0, .string ⟨#[]⟩, .int .i64 0, .slice none 0 0, .int .i64 0, .int .i64 0, .int .i64 0]) := Lib.hid (by rw [← hW1]; have := (((((((HS0_0.out).set 0 (.int .i64 0)).set 1 (.string ⟨#[]⟩)).set 2 (.int .i64 0)).set 3 (.slice none 0 0)).set 4 (.int .i64 0)).set 5 (.int .i64 0)).set 6 (.int .i64 0); simpa using this)
    have hgr1 : W0.grownBy W1 (some (w.heap.size)) := by rw [← hW1]; exact grown_set (grown_set (grown_set (grown_set (grown_set (grown_set (grown_set (grown_refl W0 (w.heap.size)) 0 (.int .i64 0)) 1 (.string ⟨#[]⟩)) 2 (.int .i64 0)) 3 (.slice none 0 0)) 4 (.int .i64 0)) 5 (.int .i64 0)) 6 (.int .i64 0)
    have HB_1 := Lib.hid (below_grown HB_0.out hgr1 (by omega))
    have hw_1 := HB_1.out.size
    have hws_1 := hgr1.size
    clear hW1
    clear f0_0_0 f0_0_1 f0_0_2 f0_0_3 f0_0_4 f0_0_5 f0_0_6 HS0_0 hf0_0
    clear hgr1
    obtain ⟨f0_1_0, f0_1_1, f0_1_2, f0_1_3, f0_1_4, f0_1_5, f0_1_6⟩ := str7 HS0_1.out
    have hl0_1 := HS0_1.out.lt
    have hf0_1 := fun j => HS0_1.out.frozen j
    refine bodyPost_ret (v := .tuple #[.agg #[.int .i64 0, .string ⟨#[]⟩, .int .i64 0, .slice none 0 0, .int .i64 0, .int .i64 0, .int .i64 0], .int .i64 12]) ?_ rfl ?_
    · simp [results, Try.results34, go_sem, *]
    · rw [HG.out]
      exact SlotGet.got_none _ _ _ HB_1.out
  clear h0
  have hcut := H.out.cut (2 + m) 64 c (by omega) (Nat.le_refl _) (by omega) (Nat.le_refl _)
  rw [List.take_of_length_le (by rw [List.length_drop, HL.out]; omega)] at hcut
  have hkey := H.out.cut 2 (2 + m) c (by omega) (by omega) (by omega) (Nat.le_refl _)
  rw [show 2 + m - 2 = m by omega] at hkey
  have HCUT := Lib.hid hcut
  have HKEY := Lib.hid hkey
  clear hcut hkey
  go_enter Try.func34, Try.ntmps34
  go_wp2_with fail
  generalize hW0 : (w).alloc (.cells #[.int .i64 0, .string ⟨#[]⟩, .int .i64 0, .slice none 0 0, .int .i64 0, .int .i64 0, .int .i64 0] 38) = W0
  have HS0_0 : Hid (Str W0 (w.heap.size) #[.int .i64 0, .string ⟨#[]⟩, .int .i64 0, .slice none 0 0, .int .i64 0, .int .i64 0, .int .i64 0]) := Lib.hid (by rw [← hW0]; have := Str.new (w) #[.int .i64 0, .string ⟨#[]⟩, .int .i64 0, .slice none 0 0, .int .i64 0, .int .i64 0, .int .i64 0] 38; simpa using this)
  have HB_0 : Hid (Below w.heap.size w W0) := Lib.hid (by rw [← hW0]; exact balloc (bsame w) _)
  have hw_0 := HB_0.out.size
  clear hW0
  obtain ⟨f0_0_0, f0_0_1, f0_0_2, f0_0_3, f0_0_4, f0_0_5, f0_0_6⟩ := str7 HS0_0.out
  have hl0_0 := HS0_0.out.lt
  have hf0_0 := fun j => HS0_0.out.frozen j
  refine (NumW.at_any A 64 c B 0 1 l _ (H.out.below (HB_0.out.mono hB)) (by omega) (by omega) (by omega)).mono ?_
  rintro e W0_ ⟨rfl, rfl⟩
  rw [HT0.out, HV0.out]
  go_wp2_with fail
  refine (NumW.at_any A 64 c B 1 1 l _ (H.out.below (HB_0.out.mono hB)) (by omega) (by omega) (by omega)).mono ?_
  rintro e W0_ ⟨rfl, rfl⟩
  rw [HT1.out, HV1.out]
  go_wp2_with fail
  refine (RefCellGet.get_any _ _ _ B _ _ (HCUT.out.below (HB_0.out.mono hB)) (by omega)).mono ?_
  rintro e W1 ⟨A1, n1, c1, rfl, hy1, hb1⟩
  generalize hcg : CellP.get (l.drop (2 + m)) = r at *
  obtain ⟨⟨ck, cd, clo, chi, cv⟩, cn, ce⟩ := r
  have HCG := Lib.hid hcg
  clear hcg
  dsimp only at *
  have HY1 := Lib.hid hy1
  clear hy1
  have HS0_1 := Lib.hid (HS0_0.out.next hb1)
  have HB_1 := Lib.hid (bstep HB_0.out hb1)
  have hw_1 := HB_1.out.size
  have hws_1 := (hb1).size
  clear f0_0_0 f0_0_1 f0_0_2 f0_0_3 f0_0_4 f0_0_5 f0_0_6 HS0_0 hf0_0
  clear hb1
  obtain ⟨f0_1_0, f0_1_1, f0_1_2, f0_1_3, f0_1_4, f0_1_5, f0_1_6⟩ := str7 HS0_1.out
  have hl0_1 := HS0_1.out.lt
  have hf0_1 := fun j => HS0_1.out.frozen j
  go_wp2_with fail
  generalize hW2 : W1.alloc (.cells #[.int .i64 ck, .slice A1 n1 c1, .int .i64 clo, .int .i64 chi, .int .i64 cv] 24) = W2
  have HS0_2 : Hid (Str W2 (w.heap.size) #[.int .i64 0, .string ⟨#[]⟩, .int .i64 0, .slice none 0 0, .int .i64 0, .int .i64 0, .int .i64 0]) := Lib.hid (by rw [← hW2]; exact HS0_1.out.alloc _)
  have HS1_2 : Hid (Str W2 W1.heap.size #[.int .i64 ck, .slice A1 n1 c1, .int .i64 clo, .int .i64 chi, .int .i64 cv]) := Lib.hid (by rw [← hW2]; exact Str.new W1 #[.int .i64 ck, .slice A1 n1 c1, .int .i64 clo, .int .i64 chi, .int .i64 cv] 24)
  have hba2 : Below W1.heap.size W1 W2 := by rw [← hW2]; exact balloc (bsame _) _
  have HB_2 := Lib.hid (bstep HB_1.out hba2)
  have hw_2 := HB_2.out.size
  have hws_2 := hba2.size
  clear hW2
  clear f0_1_0 f0_1_1 f0_1_2 f0_1_3 f0_1_4 f0_1_5 f0_1_6 HS0_1 hf0_1
  obtain ⟨f0_2_0, f0_2_1, f0_2_2, f0_2_3, f0_2_4, f0_2_5, f0_2_6⟩ := str7 HS0_2.out
  have hl0_2 := HS0_2.out.lt
  have hf0_2 := fun j => HS0_2.out.frozen j
  obtain ⟨f1_2_0, f1_2_1, f1_2_2, f1_2_3, f1_2_4⟩ := str5 HS1_2.out
  have hl1_2 := HS1_2.out.lt
  have HY2 := Lib.hid (HY1.out.next hba2)
  clear hba2
  have HSEEM : Hid (SlotP.seem l = ⟨(z : Int), (SlotP.text ((l.drop 2).take m)), ⟨ck, cd, clo, chi, cv⟩⟩) := Lib.hid (by unfold SlotP.seem; rw [HM.out, HCG.out, HZ.out])
  have hks : ((SlotP.text ((l.drop 2).take m))).size = m := by show ((l.drop 2).take m).toArray.size = m; simp [HL.out]; omega
  have HKS : Hid (((SlotP.text ((l.drop 2).take m))).size ≤ maxLen) := Lib.hid (by rw [hks]; unfold maxLen; omega)
  clear hks
  refine Reg.wp_region_tail (R := ext) (W := W2) [Reg.eqv (.int .i64 (z : Int)), Reg.eqv (.slice A 64 c), Reg.eqv (.int .i64 (m : Int)), Reg.eqv (.int .i64 (2 + (m : Int))), Reg.eqv (.slice (cutA A 2 c 1) m (c - 2)), Reg.eqv (.string (SlotP.text ((l.drop 2).take m))), Reg.eqv (.agg #[.int .i64 ck, .slice A1 n1 c1, .int .i64 clo, .int .i64 chi, .int .i64 cv]), Reg.eqv (.agg #[.int .i64 (z : Int), .string (SlotP.text ((l.drop 2).take m)), .int .i64 ck, .slice A1 n1 c1, .int .i64 clo, .int .i64 chi, .int .i64 cv]), Reg.fresh W2.heap.size #[.int .i64 0, .string ⟨#[]⟩, .int .i64 0, .slice none 0 0, .int .i64 0, .int .i64 0, .int .i64 0]] 66 9 _ [[(4, none)], [(0, none)], [(6, none)], [(44, some 2)], [(43, some 1), (45, some 3)], [(46, some 4)], [(8, none)], [(42, some 0), (47, some 5), (48, some 6)], []] rfl (by kernel_rfl) (by kernel_rfl) (by rfl) (by rfl) rfl (by kernel_rfl) ?_ [some 42, some 43, some 44, some 45, some 46, some 47, some 48, some 49, some 11] (by kernel_rfl) ?_
  · refine ⟨?_, ?_, ?_, ?_, ?_, ?_, ?_, ?_, ?_, trivial⟩
    · intro ax wx hx hs
      obtain ⟨e4, -⟩ := hs
      have g4 := Reg.ev (v := .int .i64 (z : Int)) e4
      exact Reg.obl_free rfl (Reg.wp_eqv (Option.some_ne_none _) (by go_simp) rfl)
    · intro ax wx hx hs
      obtain ⟨e0, -⟩ := hs
      have g0 := Reg.ev (v := .slice A 64 c) e0
      exact Reg.obl_free rfl (Reg.wp_eqv (Option.some_ne_none _) (by go_simp) rfl)
    · intro ax wx hx hs
      obtain ⟨e6, -⟩ := hs
      have g6 := Reg.ev (v := .int .i64 (m : Int)) e6
      exact Reg.obl_free rfl (Reg.wp_eqv (Option.some_ne_none _) (by go_simp) rfl)
    · intro ax wx hx hs
      obtain ⟨e44, -⟩ := hs
      have g44 := Reg.ev (v := .int .i64 (m : Int)) e44
      refine Reg.obl_free rfl ?_
      exact Reg.wp_eqv (Option.some_ne_none _) (by go_simp; exact IntWalk.i64_in _ (by omega)) rfl
    · intro ax wx hx hs
      obtain ⟨e43, e45, -⟩ := hs
      have g43 := Reg.ev (v := .slice A 64 c) e43
      have g45 := Reg.ev (v := .int .i64 (2 + (m : Int))) e45
      refine Reg.obl_free rfl ?_
      have hb2 : (0 : Int) ≤ 2 + (m : Int) := by omega
      have hb3 : (2 + (m : Int)).toNat = 2 + m := by omega
      have hb4 : 2 + (m : Int) ≤ (c : Int) := by omega
      have hb5 : (2 : Int) ≤ 2 + (m : Int) := by omega
      exact Reg.wp_eqv (Option.some_ne_none _) (by go_simp) rfl
    · intro ax wx hx hs
      obtain ⟨e46, -⟩ := hs
      have g46 := Reg.ev (v := .slice (cutA A 2 c 1) m (c - 2)) e46
      refine Reg.obl_free rfl ?_
      have hx' : Below W2.heap.size W2 wx := hx
      have hcv := run_str (P := Try.prog) 22 9 5 Try.underlying22 Try.underlying5 Try.underlying9 (HKEY.out.below ((bstep HB_2.out hx').mono hB))
      exact Reg.wp_eqv (Option.some_ne_none _) (by go_simp; rfl) rfl
    · intro ax wx hx hs
      obtain ⟨e8, -⟩ := hs
      have g8 := Reg.ev (v := .pointer (some ⟨W1.heap.size, 0, none⟩)) e8
      obtain ⟨hc, -⟩ := bcell hx
      exact Reg.obl_free rfl (Reg.wp_eqv (Option.some_ne_none _) (by go_simp) rfl)
    · intro ax wx hx hs
      obtain ⟨e42, e47, e48, -⟩ := hs
      have g42 := Reg.ev (v := .int .i64 (z : Int)) e42
      have g47 := Reg.ev (v := .string (SlotP.text ((l.drop 2).take m))) e47
      have g48 := Reg.ev (v := .agg #[.int .i64 ck, .slice A1 n1 c1, .int .i64 clo, .int .i64 chi, .int .i64 cv]) e48
      exact Reg.obl_free rfl (Reg.wp_eqv (Option.some_ne_none _) (by go_simp) rfl)
    · intro ax wx hx hs
      refine Reg.obl_free rfl ?_
      have hx' : Below W2.heap.size W2 wx := hx
      go_simp
      exact Reg.done (Option.some_ne_none _) ⟨wx.heap.size, rfl, hx'.size, Str.new wx _ _⟩ (balloc (bsame wx) _)
  · intro W3 hwf
    simp only [Reg.Fin]
    rintro _ rfl _ rfl _ rfl _ rfl _ rfl _ rfl _ rfl _ rfl v11 h11
    obtain ⟨g, rfl, hg, hSg⟩ := h11
    have hwf' : Below W2.heap.size W2 W3 := hwf
    have HS2_3 := Lib.hid hSg
    clear hSg
    have HY3 := Lib.hid (HY2.out.next hwf')
    have HS0_3 := Lib.hid (HS0_2.out.next hwf')
    have HS1_3 := Lib.hid (HS1_2.out.next hwf')
    have HB_3 := Lib.hid (bstep HB_2.out hwf')
    have hw_3 := HB_3.out.size
    have hws_3 := (hwf').size
    clear f0_2_0 f0_2_1 f0_2_2 f0_2_3 f0_2_4 f0_2_5 f0_2_6 HS0_2 hf0_2 f1_2_0 f1_2_1 f1_2_2 f1_2_3 f1_2_4 HS1_2
    clear hwf'
    obtain ⟨f0_3_0, f0_3_1, f0_3_2, f0_3_3, f0_3_4, f0_3_5, f0_3_6⟩ := str7 HS0_3.out
    have hl0_3 := HS0_3.out.lt
    have hf0_3 := fun j => HS0_3.out.frozen j
    obtain ⟨f1_3_0, f1_3_1, f1_3_2, f1_3_3, f1_3_4⟩ := str5 HS1_3.out
    have hl1_3 := HS1_3.out.lt
    obtain ⟨f2_3_0, f2_3_1, f2_3_2, f2_3_3, f2_3_4, f2_3_5, f2_3_6⟩ := str7 HS2_3.out
    have hl2_3 := HS2_3.out.lt
    have hf2_3 := fun j => HS2_3.out.frozen j
    by_cases hce : ce = 0
    · subst hce
      refine Reg.Goal.mk ?_
      go_simp
      go_wp2_with fail
      generalize hW4 : (((((((W3).setCell ⟨g, 0, none⟩ (.int .i64 (z : Int))).setCell ⟨g, 1, none⟩ (.string (SlotP.text ((l.drop 2).take m)))).setCell ⟨g, 2, none⟩ (.int .i64 ck)).setCell ⟨g, 3, none⟩ (.slice A1 n1 c1)).setCell ⟨g, 4, none⟩ (.int .i64 clo)).setCell ⟨g, 5, none⟩ (.int .i64 chi)).setCell ⟨g, 6, none⟩ (.int .i64 cv) = W4
      have HS0_4 : Hid (Str W4 (w.heap.size) #[.int .i64 0, .string ⟨#[]⟩, .int .i64 0, .slice none 0 0, .int .i64 0, .int .i64 0, .int .i64 0]) := Lib.hid (by rw [← hW4]; exact (((((((HS0_3.out).other 0 _ (by omega)).other 1 _ (by omega)).other 2 _ (by omega)).other 3 _ (by omega)).other 4 _ (by omega)).other 5 _ (by omega)).other 6 _ (by omega))
      have HS1_4 : Hid (Str W4 (W1.heap.size) #[.int .i64 ck, .slice A1 n1 c1, .int .i64 clo, .int .i64 chi, .int .i64 cv]) := Lib.hid (by rw [← hW4]; exact (((((((HS1_3.out).other 0 _ (by omega)).other 1 _ (by omega)).other 2 _ (by omega)).other 3 _ (by omega)).other 4 _ (by omega)).other 5 _ (by omega)).other 6 _ (by omega))
      have HS2_4 : Hid (Str W4 (g) #[.int .i64 (z : Int), .string (SlotP.text ((l.drop 2).take m)), .int .i64 ck, .slice A1 n1 c1, .int .i64 clo, .int .i64 chi, .int .i64 cv]) := Lib.hid (by rw [← hW4]; have := (((((((HS2_3.out).set 0 (.int .i64 (z : Int))).set 1 (.string (SlotP.text ((l.drop 2).take m)))).set 2 (.int .i64 ck)).set 3 (.slice A1 n1 c1)).set 4 (.int .i64 clo)).set 5 (.int .i64 chi)).set 6 (.int .i64 cv); simpa using this)
      have hgr4 : W3.grownBy W4 (some (g)) := by rw [← hW4]; exact grown_set (grown_set (grown_set (grown_set (grown_set (grown_set (grown_set (grown_refl W3 (g)) 0 (.int .i64 (z : Int))) 1 (.string (SlotP.text ((l.drop 2).take m)))) 2 (.int .i64 ck)) 3 (.slice A1 n1 c1)) 4 (.int .i64 clo)) 5 (.int .i64 chi)) 6 (.int .i64 cv)
      have HB_4 := Lib.hid (below_grown HB_3.out hgr4 (by omega))
      have hw_4 := HB_4.out.size
      have hws_4 := hgr4.size
      have HY4 : Hid (Bytes W4 W4.heap.size A1 n1 c1 cd) := Lib.hid ((Bytes.grown HY3.out (Nat.le_refl _) HS2_3.out rfl hgr4).more hws_4)
      clear hW4
      clear f0_3_0 f0_3_1 f0_3_2 f0_3_3 f0_3_4 f0_3_5 f0_3_6 HS0_3 hf0_3 f1_3_0 f1_3_1 f1_3_2 f1_3_3 f1_3_4 HS1_3 f2_3_0 f2_3_1 f2_3_2 f2_3_3 f2_3_4 f2_3_5 f2_3_6 HS2_3 hf2_3
      clear hgr4
      obtain ⟨f0_4_0, f0_4_1, f0_4_2, f0_4_3, f0_4_4, f0_4_5, f0_4_6⟩ := str7 HS0_4.out
      have hl0_4 := HS0_4.out.lt
      have hf0_4 := fun j => HS0_4.out.frozen j
      obtain ⟨f1_4_0, f1_4_1, f1_4_2, f1_4_3, f1_4_4⟩ := str5 HS1_4.out
      have hl1_4 := HS1_4.out.lt
      obtain ⟨f2_4_0, f2_4_1, f2_4_2, f2_4_3, f2_4_4, f2_4_5, f2_4_6⟩ := str7 HS2_4.out
      have hl2_4 := HS2_4.out.lt
      have hf2_4 := fun j => HS2_4.out.frozen j
      refine (SlotW.right_any A1 n1 c1 W4.heap.size ⟨(z : Int), (SlotP.text ((l.drop 2).take m)), ⟨ck, cd, clo, chi, cv⟩⟩ _ HY4.out (Nat.le_refl _) HKS.out).mono ?_
      rintro e W5 ⟨rfl, hb5⟩
      have HY5 := Lib.hid (HY4.out.next hb5)
      have HS0_5 := Lib.hid (HS0_4.out.next hb5)
      have HS1_5 := Lib.hid (HS1_4.out.next hb5)
      have HS2_5 := Lib.hid (HS2_4.out.next hb5)
      have HB_5 := Lib.hid (bstep HB_4.out hb5)
      have hw_5 := HB_5.out.size
      have hws_5 := (hb5).size
      clear f0_4_0 f0_4_1 f0_4_2 f0_4_3 f0_4_4 f0_4_5 f0_4_6 HS0_4 hf0_4 f1_4_0 f1_4_1 f1_4_2 f1_4_3 f1_4_4 HS1_4 f2_4_0 f2_4_1 f2_4_2 f2_4_3 f2_4_4 f2_4_5 f2_4_6 HS2_4 hf2_4
      clear hb5
      obtain ⟨f0_5_0, f0_5_1, f0_5_2, f0_5_3, f0_5_4, f0_5_5, f0_5_6⟩ := str7 HS0_5.out
      have hl0_5 := HS0_5.out.lt
      have hf0_5 := fun j => HS0_5.out.frozen j
      obtain ⟨f1_5_0, f1_5_1, f1_5_2, f1_5_3, f1_5_4⟩ := str5 HS1_5.out
      have hl1_5 := HS1_5.out.lt
      obtain ⟨f2_5_0, f2_5_1, f2_5_2, f2_5_3, f2_5_4, f2_5_5, f2_5_6⟩ := str7 HS2_5.out
      have hl2_5 := HS2_5.out.lt
      have hf2_5 := fun j => HS2_5.out.frozen j
      cases hr : SlotP.right ⟨(z : Int), (SlotP.text ((l.drop 2).take m)), ⟨ck, cd, clo, chi, cv⟩⟩
      · have HR := Lib.hid hr
        clear hr
        have HG : Hid (SlotP.get l = (SlotP.none, 12)) := Lib.hid (SlotGet.get_big l HNZ.out (by unfold SlotP.good; rw [HSEEM.out, HR.out]; simp))
        go_wp2_with fail
        generalize hW6 : (((((((W5).setCell ⟨w.heap.size, 0, none⟩ (.int .i64 0)).setCell ⟨w.heap.size, 1, none⟩ (.string ⟨#[]⟩)).setCell ⟨w.heap.size, 2, none⟩ (.int .i64 0)).setCell ⟨w.heap.size, 3, none⟩ (.slice none 0 0)).setCell ⟨w.heap.size, 4, none⟩ (.int .i64 0)).setCell ⟨w.heap.size, 5, none⟩ (.int .i64 0)).setCell ⟨w.heap.size, 6, none⟩ (.int .i64 0) = W6
        have HS0_6 : Hid (Str W6 (w.heap.size) #[.int .i64 0, .string ⟨#[]⟩, .int .i64 0, .slice none 0 0, .int .i64 0, .int .i64 0, .int .i64 0]) := Lib.hid (by rw [← hW6]; have := (((((((HS0_5.out).set 0 (.int .i64 0)).set 1 (.string ⟨#[]⟩)).set 2 (.int .i64 0)).set 3 (.slice none 0 0)).set 4 (.int .i64 0)).set 5 (.int .i64 0)).set 6 (.int .i64 0); simpa using this)
        have HS1_6 : Hid (Str W6 (W1.heap.size) #[.int .i64 ck, .slice A1 n1 c1, .int .i64 clo, .int .i64 chi, .int .i64 cv]) := Lib.hid (by rw [← hW6]; exact (((((((HS1_5.out).other 0 _ (by omega)).other 1 _ (by omega)).other 2 _ (by omega)).other 3 _ (by omega)).other 4 _ (by omega)).other 5 _ (by omega)).other 6 _ (by omega))
        have HS2_6 : Hid (Str W6 (g) #[.int .i64 (z : Int), .string (SlotP.text ((l.drop 2).take m)), .int .i64 ck, .slice A1 n1 c1, .int .i64 clo, .int .i64 chi, .int .i64 cv]) := Lib.hid (by rw [← hW6]; exact (((((((HS2_5.out).other 0 _ (by omega)).other 1 _ (by omega)).other 2 _ (by omega)).other 3 _ (by omega)).other 4 _ (by omega)).other 5 _ (by omega)).other 6 _ (by omega))
        have hgr6 : W5.grownBy W6 (some (w.heap.size)) := by rw [← hW6]; exact grown_set (grown_set (grown_set (grown_set (grown_set (grown_set (grown_set (grown_refl W5 (w.heap.size)) 0 (.int .i64 0)) 1 (.string ⟨#[]⟩)) 2 (.int .i64 0)) 3 (.slice none 0 0)) 4 (.int .i64 0)) 5 (.int .i64 0)) 6 (.int .i64 0)
        have HB_6 := Lib.hid (below_grown HB_5.out hgr6 (by omega))
        have hw_6 := HB_6.out.size
        have hws_6 := hgr6.size
        clear hW6
        clear f0_5_0 f0_5_1 f0_5_2 f0_5_3 f0_5_4 f0_5_5 f0_5_6 HS0_5 hf0_5 f1_5_0 f1_5_1 f1_5_2 f1_5_3 f1_5_4 HS1_5 f2_5_0 f2_5_1 f2_5_2 f2_5_3 f2_5_4 f2_5_5 f2_5_6 HS2_5 hf2_5
        clear hgr6
        obtain ⟨f0_6_0, f0_6_1, f0_6_2, f0_6_3, f0_6_4, f0_6_5, f0_6_6⟩ := str7 HS0_6.out
        have hl0_6 := HS0_6.out.lt
        have hf0_6 := fun j => HS0_6.out.frozen j
        obtain ⟨f1_6_0, f1_6_1, f1_6_2, f1_6_3, f1_6_4⟩ := str5 HS1_6.out
        have hl1_6 := HS1_6.out.lt
        obtain ⟨f2_6_0, f2_6_1, f2_6_2, f2_6_3, f2_6_4, f2_6_5, f2_6_6⟩ := str7 HS2_6.out
        have hl2_6 := HS2_6.out.lt
        have hf2_6 := fun j => HS2_6.out.frozen j
        refine bodyPost_ret (v := .tuple #[.agg #[.int .i64 0, .string ⟨#[]⟩, .int .i64 0, .slice none 0 0, .int .i64 0, .int .i64 0, .int .i64 0], .int .i64 12]) ?_ rfl ?_
        · simp [results, Try.results34, go_sem, *]
        · rw [HG.out]
          exact SlotGet.got_none _ _ _ HB_6.out
      · have HR := Lib.hid hr
        clear hr
        go_wp2_with fail
        refine (RefSlotBytes.bytes_any A1 n1 c1 W5.heap.size ⟨(z : Int), (SlotP.text ((l.drop 2).take m)), ⟨ck, cd, clo, chi, cv⟩⟩ _ HY5.out (Nat.le_refl _) HKS.out).mono ?_
        rintro e W6 ⟨A6, n6, c6, rfl, hy6, hb6⟩
        have HY6 := Lib.hid hy6
        have HYC := Lib.hid (HY5.out.next hb6)
        clear hy6
        have HS0_6 := Lib.hid (HS0_5.out.next hb6)
        have HS1_6 := Lib.hid (HS1_5.out.next hb6)
        have HS2_6 := Lib.hid (HS2_5.out.next hb6)
        have HB_6 := Lib.hid (bstep HB_5.out hb6)
        have hw_6 := HB_6.out.size
        have hws_6 := (hb6).size
        clear f0_5_0 f0_5_1 f0_5_2 f0_5_3 f0_5_4 f0_5_5 f0_5_6 HS0_5 hf0_5 f1_5_0 f1_5_1 f1_5_2 f1_5_3 f1_5_4 HS1_5 f2_5_0 f2_5_1 f2_5_2 f2_5_3 f2_5_4 f2_5_5 f2_5_6 HS2_5 hf2_5
        clear hb6
        obtain ⟨f0_6_0, f0_6_1, f0_6_2, f0_6_3, f0_6_4, f0_6_5, f0_6_6⟩ := str7 HS0_6.out
        have hl0_6 := HS0_6.out.lt
        have hf0_6 := fun j => HS0_6.out.frozen j
        obtain ⟨f1_6_0, f1_6_1, f1_6_2, f1_6_3, f1_6_4⟩ := str5 HS1_6.out
        have hl1_6 := HS1_6.out.lt
        obtain ⟨f2_6_0, f2_6_1, f2_6_2, f2_6_3, f2_6_4, f2_6_5, f2_6_6⟩ := str7 HS2_6.out
        have hl2_6 := HS2_6.out.lt
        have hf2_6 := fun j => HS2_6.out.frozen j
        go_wp2_with fail
        refine (Same.same_any A6 A n6 c6 64 c _ B _ l _ HY6.out (H.out.below (HB_6.out.mono hB))).mono ?_
        rintro e W6_ ⟨rfl, rfl⟩
        cases hbl : (SlotP.bytes ⟨(z : Int), (SlotP.text ((l.drop 2).take m)), ⟨ck, cd, clo, chi, cv⟩⟩ == l)
        · have HBL := Lib.hid hbl
          clear hbl
          have HG : Hid (SlotP.get l = (SlotP.none, 12)) := Lib.hid (SlotGet.get_big l HNZ.out (by unfold SlotP.good; rw [HSEEM.out, HBL.out]; simp))
          go_wp2_with fail
          generalize hW7 : (((((((W6).setCell ⟨w.heap.size, 0, none⟩ (.int .i64 0)).setCell ⟨w.heap.size, 1, none⟩ (.string ⟨#[]⟩)).setCell ⟨w.heap.size, 2, none⟩ (.int .i64 0)).setCell ⟨w.heap.size, 3, none⟩ (.slice none 0 0)).setCell ⟨w.heap.size, 4, none⟩ (.int .i64 0)).setCell ⟨w.heap.size, 5, none⟩ (.int .i64 0)).setCell ⟨w.heap.size, 6, none⟩ (.int .i64 0) = W7
          have HS0_7 : Hid (Str W7 (w.heap.size) #[.int .i64 0, .string ⟨#[]⟩, .int .i64 0, .slice none 0 0, .int .i64 0, .int .i64 0, .int .i64 0]) := Lib.hid (by rw [← hW7]; have := (((((((HS0_6.out).set 0 (.int .i64 0)).set 1 (.string ⟨#[]⟩)).set 2 (.int .i64 0)).set 3 (.slice none 0 0)).set 4 (.int .i64 0)).set 5 (.int .i64 0)).set 6 (.int .i64 0); simpa using this)
          have HS1_7 : Hid (Str W7 (W1.heap.size) #[.int .i64 ck, .slice A1 n1 c1, .int .i64 clo, .int .i64 chi, .int .i64 cv]) := Lib.hid (by rw [← hW7]; exact (((((((HS1_6.out).other 0 _ (by omega)).other 1 _ (by omega)).other 2 _ (by omega)).other 3 _ (by omega)).other 4 _ (by omega)).other 5 _ (by omega)).other 6 _ (by omega))
          have HS2_7 : Hid (Str W7 (g) #[.int .i64 (z : Int), .string (SlotP.text ((l.drop 2).take m)), .int .i64 ck, .slice A1 n1 c1, .int .i64 clo, .int .i64 chi, .int .i64 cv]) := Lib.hid (by rw [← hW7]; exact (((((((HS2_6.out).other 0 _ (by omega)).other 1 _ (by omega)).other 2 _ (by omega)).other 3 _ (by omega)).other 4 _ (by omega)).other 5 _ (by omega)).other 6 _ (by omega))
          have hgr7 : W6.grownBy W7 (some (w.heap.size)) := by rw [← hW7]; exact grown_set (grown_set (grown_set (grown_set (grown_set (grown_set (grown_set (grown_refl W6 (w.heap.size)) 0 (.int .i64 0)) 1 (.string ⟨#[]⟩)) 2 (.int .i64 0)) 3 (.slice none 0 0)) 4 (.int .i64 0)) 5 (.int .i64 0)) 6 (.int .i64 0)
          have HB_7 := Lib.hid (below_grown HB_6.out hgr7 (by omega))
          have hw_7 := HB_7.out.size
          have hws_7 := hgr7.size
          clear hW7
          clear f0_6_0 f0_6_1 f0_6_2 f0_6_3 f0_6_4 f0_6_5 f0_6_6 HS0_6 hf0_6 f1_6_0 f1_6_1 f1_6_2 f1_6_3 f1_6_4 HS1_6 f2_6_0 f2_6_1 f2_6_2 f2_6_3 f2_6_4 f2_6_5 f2_6_6 HS2_6 hf2_6
          clear hgr7
          obtain ⟨f0_7_0, f0_7_1, f0_7_2, f0_7_3, f0_7_4, f0_7_5, f0_7_6⟩ := str7 HS0_7.out
          have hl0_7 := HS0_7.out.lt
          have hf0_7 := fun j => HS0_7.out.frozen j
          obtain ⟨f1_7_0, f1_7_1, f1_7_2, f1_7_3, f1_7_4⟩ := str5 HS1_7.out
          have hl1_7 := HS1_7.out.lt
          obtain ⟨f2_7_0, f2_7_1, f2_7_2, f2_7_3, f2_7_4, f2_7_5, f2_7_6⟩ := str7 HS2_7.out
          have hl2_7 := HS2_7.out.lt
          have hf2_7 := fun j => HS2_7.out.frozen j
          refine bodyPost_ret (v := .tuple #[.agg #[.int .i64 0, .string ⟨#[]⟩, .int .i64 0, .slice none 0 0, .int .i64 0, .int .i64 0, .int .i64 0], .int .i64 12]) ?_ rfl ?_
          · simp [results, Try.results34, go_sem, *]
          · rw [HG.out]
            exact SlotGet.got_none _ _ _ HB_7.out
        · have HBL := Lib.hid hbl
          clear hbl
          have HG : Hid (SlotP.get l = (⟨(z : Int), (SlotP.text ((l.drop 2).take m)), ⟨ck, cd, clo, chi, cv⟩⟩, 0)) := Lib.hid (by unfold SlotP.get; rw [if_neg HNZ.out, if_pos (by unfold SlotP.good; rw [HSEEM.out, HBL.out, HR.out, HM.out, HCG.out]; simp; omega), HSEEM.out])
          go_wp2_with fail
          generalize hW7 : (((((((W6).setCell ⟨w.heap.size, 0, none⟩ (.int .i64 (z : Int))).setCell ⟨w.heap.size, 1, none⟩ (.string (SlotP.text ((l.drop 2).take m)))).setCell ⟨w.heap.size, 2, none⟩ (.int .i64 ck)).setCell ⟨w.heap.size, 3, none⟩ (.slice A1 n1 c1)).setCell ⟨w.heap.size, 4, none⟩ (.int .i64 clo)).setCell ⟨w.heap.size, 5, none⟩ (.int .i64 chi)).setCell ⟨w.heap.size, 6, none⟩ (.int .i64 cv) = W7
          have HS0_7 : Hid (Str W7 (w.heap.size) #[.int .i64 (z : Int), .string (SlotP.text ((l.drop 2).take m)), .int .i64 ck, .slice A1 n1 c1, .int .i64 clo, .int .i64 chi, .int .i64 cv]) := Lib.hid (by rw [← hW7]; have := (((((((HS0_6.out).set 0 (.int .i64 (z : Int))).set 1 (.string (SlotP.text ((l.drop 2).take m)))).set 2 (.int .i64 ck)).set 3 (.slice A1 n1 c1)).set 4 (.int .i64 clo)).set 5 (.int .i64 chi)).set 6 (.int .i64 cv); simpa using this)
          have HS1_7 : Hid (Str W7 (W1.heap.size) #[.int .i64 ck, .slice A1 n1 c1, .int .i64 clo, .int .i64 chi, .int .i64 cv]) := Lib.hid (by rw [← hW7]; exact (((((((HS1_6.out).other 0 _ (by omega)).other 1 _ (by omega)).other 2 _ (by omega)).other 3 _ (by omega)).other 4 _ (by omega)).other 5 _ (by omega)).other 6 _ (by omega))
          have HS2_7 : Hid (Str W7 (g) #[.int .i64 (z : Int), .string (SlotP.text ((l.drop 2).take m)), .int .i64 ck, .slice A1 n1 c1, .int .i64 clo, .int .i64 chi, .int .i64 cv]) := Lib.hid (by rw [← hW7]; exact (((((((HS2_6.out).other 0 _ (by omega)).other 1 _ (by omega)).other 2 _ (by omega)).other 3 _ (by omega)).other 4 _ (by omega)).other 5 _ (by omega)).other 6 _ (by omega))
          have hgr7 : W6.grownBy W7 (some (w.heap.size)) := by rw [← hW7]; exact grown_set (grown_set (grown_set (grown_set (grown_set (grown_set (grown_set (grown_refl W6 (w.heap.size)) 0 (.int .i64 (z : Int))) 1 (.string (SlotP.text ((l.drop 2).take m)))) 2 (.int .i64 ck)) 3 (.slice A1 n1 c1)) 4 (.int .i64 clo)) 5 (.int .i64 chi)) 6 (.int .i64 cv)
          have HB_7 := Lib.hid (below_grown HB_6.out hgr7 (by omega))
          have hw_7 := HB_7.out.size
          have hws_7 := hgr7.size
          have HY7 : Hid (Bytes W7 W7.heap.size A1 n1 c1 cd) := Lib.hid ((Bytes.grown HYC.out (Nat.le_refl _) HS0_6.out rfl hgr7).more hws_7)
          clear hW7
          clear f0_6_0 f0_6_1 f0_6_2 f0_6_3 f0_6_4 f0_6_5 f0_6_6 HS0_6 hf0_6 f1_6_0 f1_6_1 f1_6_2 f1_6_3 f1_6_4 HS1_6 f2_6_0 f2_6_1 f2_6_2 f2_6_3 f2_6_4 f2_6_5 f2_6_6 HS2_6 hf2_6
          clear hgr7
          obtain ⟨f0_7_0, f0_7_1, f0_7_2, f0_7_3, f0_7_4, f0_7_5, f0_7_6⟩ := str7 HS0_7.out
          have hl0_7 := HS0_7.out.lt
          have hf0_7 := fun j => HS0_7.out.frozen j
          obtain ⟨f1_7_0, f1_7_1, f1_7_2, f1_7_3, f1_7_4⟩ := str5 HS1_7.out
          have hl1_7 := HS1_7.out.lt
          obtain ⟨f2_7_0, f2_7_1, f2_7_2, f2_7_3, f2_7_4, f2_7_5, f2_7_6⟩ := str7 HS2_7.out
          have hl2_7 := HS2_7.out.lt
          have hf2_7 := fun j => HS2_7.out.frozen j
          refine bodyPost_ret (v := .tuple #[.agg #[.int .i64 (z : Int), .string (SlotP.text ((l.drop 2).take m)), .int .i64 ck, .slice A1 n1 c1, .int .i64 clo, .int .i64 chi, .int .i64 cv], .int .i64 0]) ?_ rfl ?_
          · simp [results, Try.results34, go_sem, *]
          · rw [HG.out]
            exact ⟨A1, n1, c1, rfl, HY7.out, HB_7.out⟩
    · have hce' : (ce != 0) = true := by simpa using hce
      have HG : Hid (SlotP.get l = (SlotP.none, 12)) := Lib.hid (SlotGet.get_big l HNZ.out (by unfold SlotP.good; rw [HM.out, HCG.out]; simp [beq_eq_false_iff_ne.2 hce]))
      refine Reg.Goal.mk ?_
      go_simp
      go_wp2_with fail
      generalize hW4 : (((((((W3).setCell ⟨g, 0, none⟩ (.int .i64 (z : Int))).setCell ⟨g, 1, none⟩ (.string (SlotP.text ((l.drop 2).take m)))).setCell ⟨g, 2, none⟩ (.int .i64 ck)).setCell ⟨g, 3, none⟩ (.slice A1 n1 c1)).setCell ⟨g, 4, none⟩ (.int .i64 clo)).setCell ⟨g, 5, none⟩ (.int .i64 chi)).setCell ⟨g, 6, none⟩ (.int .i64 cv) = W4
      have HS0_4 : Hid (Str W4 (w.heap.size) #[.int .i64 0, .string ⟨#[]⟩, .int .i64 0, .slice none 0 0, .int .i64 0, .int .i64 0, .int .i64 0]) := Lib.hid (by rw [← hW4]; exact (((((((HS0_3.out).other 0 _ (by omega)).other 1 _ (by omega)).other 2 _ (by omega)).other 3 _ (by omega)).other 4 _ (by omega)).other 5 _ (by omega)).other 6 _ (by omega))
      have HS1_4 : Hid (Str W4 (W1.heap.size) #[.int .i64 ck, .slice A1 n1 c1, .int .i64 clo, .int .i64 chi, .int .i64 cv]) := Lib.hid (by rw [← hW4]; exact (((((((HS1_3.out).other 0 _ (by omega)).other 1 _ (by omega)).other 2 _ (by omega)).other 3 _ (by omega)).other 4 _ (by omega)).other 5 _ (by omega)).other 6 _ (by omega))
      have HS2_4 : Hid (Str W4 (g) #[.int .i64 (z : Int), .string (SlotP.text ((l.drop 2).take m)), .int .i64 ck, .slice A1 n1 c1, .int .i64 clo, .int .i64 chi, .int .i64 cv]) := Lib.hid (by rw [← hW4]; have := (((((((HS2_3.out).set 0 (.int .i64 (z : Int))).set 1 (.string (SlotP.text ((l.drop 2).take m)))).set 2 (.int .i64 ck)).set 3 (.slice A1 n1 c1)).set 4 (.int .i64 clo)).set 5 (.int .i64 chi)).set 6 (.int .i64 cv); simpa using this)
      have hgr4 : W3.grownBy W4 (some (g)) := by rw [← hW4]; exact grown_set (grown_set (grown_set (grown_set (grown_set (grown_set (grown_set (grown_refl W3 (g)) 0 (.int .i64 (z : Int))) 1 (.string (SlotP.text ((l.drop 2).take m)))) 2 (.int .i64 ck)) 3 (.slice A1 n1 c1)) 4 (.int .i64 clo)) 5 (.int .i64 chi)) 6 (.int .i64 cv)
      have HB_4 := Lib.hid (below_grown HB_3.out hgr4 (by omega))
      have hw_4 := HB_4.out.size
      have hws_4 := hgr4.size
      clear hW4
      clear f0_3_0 f0_3_1 f0_3_2 f0_3_3 f0_3_4 f0_3_5 f0_3_6 HS0_3 hf0_3 f1_3_0 f1_3_1 f1_3_2 f1_3_3 f1_3_4 HS1_3 f2_3_0 f2_3_1 f2_3_2 f2_3_3 f2_3_4 f2_3_5 f2_3_6 HS2_3 hf2_3
      clear hgr4
      obtain ⟨f0_4_0, f0_4_1, f0_4_2, f0_4_3, f0_4_4, f0_4_5, f0_4_6⟩ := str7 HS0_4.out
      have hl0_4 := HS0_4.out.lt
      have hf0_4 := fun j => HS0_4.out.frozen j
      obtain ⟨f1_4_0, f1_4_1, f1_4_2, f1_4_3, f1_4_4⟩ := str5 HS1_4.out
      have hl1_4 := HS1_4.out.lt
      obtain ⟨f2_4_0, f2_4_1, f2_4_2, f2_4_3, f2_4_4, f2_4_5, f2_4_6⟩ := str7 HS2_4.out
      have hl2_4 := HS2_4.out.lt
      have hf2_4 := fun j => HS2_4.out.frozen j
      generalize hW5 : (((((((W4).setCell ⟨w.heap.size, 0, none⟩ (.int .i64 0)).setCell ⟨w.heap.size, 1, none⟩ (.string ⟨#[]⟩)).setCell ⟨w.heap.size, 2, none⟩ (.int .i64 0)).setCell ⟨w.heap.size, 3, none⟩ (.slice none 0 0)).setCell ⟨w.heap.size, 4, none⟩ (.int .i64 0)).setCell ⟨w.heap.size, 5, none⟩ (.int .i64 0)).setCell ⟨w.heap.size, 6, none⟩ (.int .i64 0) = W5
      have HS0_5 : Hid (Str W5 (w.heap.size) #[.int .i64 0, .string ⟨#[]⟩, .int .i64 0, .slice none 0 0, .int .i64 0, .int .i64 0, .int .i64 0]) := Lib.hid (by rw [← hW5]; have := (((((((HS0_4.out).set 0 (.int .i64 0)).set 1 (.string ⟨#[]⟩)).set 2 (.int .i64 0)).set 3 (.slice none 0 0)).set 4 (.int .i64 0)).set 5 (.int .i64 0)).set 6 (.int .i64 0); simpa using this)
      have HS1_5 : Hid (Str W5 (W1.heap.size) #[.int .i64 ck, .slice A1 n1 c1, .int .i64 clo, .int .i64 chi, .int .i64 cv]) := Lib.hid (by rw [← hW5]; exact (((((((HS1_4.out).other 0 _ (by omega)).other 1 _ (by omega)).other 2 _ (by omega)).other 3 _ (by omega)).other 4 _ (by omega)).other 5 _ (by omega)).other 6 _ (by omega))
      have HS2_5 : Hid (Str W5 (g) #[.int .i64 (z : Int), .string (SlotP.text ((l.drop 2).take m)), .int .i64 ck, .slice A1 n1 c1, .int .i64 clo, .int .i64 chi, .int .i64 cv]) := Lib.hid (by rw [← hW5]; exact (((((((HS2_4.out).other 0 _ (by omega)).other 1 _ (by omega)).other 2 _ (by omega)).other 3 _ (by omega)).other 4 _ (by omega)).other 5 _ (by omega)).other 6 _ (by omega))
      have hgr5 : W4.grownBy W5 (some (w.heap.size)) := by rw [← hW5]; exact grown_set (grown_set (grown_set (grown_set (grown_set (grown_set (grown_set (grown_refl W4 (w.heap.size)) 0 (.int .i64 0)) 1 (.string ⟨#[]⟩)) 2 (.int .i64 0)) 3 (.slice none 0 0)) 4 (.int .i64 0)) 5 (.int .i64 0)) 6 (.int .i64 0)
      have HB_5 := Lib.hid (below_grown HB_4.out hgr5 (by omega))
      have hw_5 := HB_5.out.size
      have hws_5 := hgr5.size
      clear hW5
      clear f0_4_0 f0_4_1 f0_4_2 f0_4_3 f0_4_4 f0_4_5 f0_4_6 HS0_4 hf0_4 f1_4_0 f1_4_1 f1_4_2 f1_4_3 f1_4_4 HS1_4 f2_4_0 f2_4_1 f2_4_2 f2_4_3 f2_4_4 f2_4_5 f2_4_6 HS2_4 hf2_4
      clear hgr5
      obtain ⟨f0_5_0, f0_5_1, f0_5_2, f0_5_3, f0_5_4, f0_5_5, f0_5_6⟩ := str7 HS0_5.out
      have hl0_5 := HS0_5.out.lt
      have hf0_5 := fun j => HS0_5.out.frozen j
      obtain ⟨f1_5_0, f1_5_1, f1_5_2, f1_5_3, f1_5_4⟩ := str5 HS1_5.out
      have hl1_5 := HS1_5.out.lt
      obtain ⟨f2_5_0, f2_5_1, f2_5_2, f2_5_3, f2_5_4, f2_5_5, f2_5_6⟩ := str7 HS2_5.out
      have hl2_5 := HS2_5.out.lt
      have hf2_5 := fun j => HS2_5.out.frozen j
      refine bodyPost_ret (v := .tuple #[.agg #[.int .i64 0, .string ⟨#[]⟩, .int .i64 0, .slice none 0 0, .int .i64 0, .int .i64 0, .int .i64 0], .int .i64 12]) ?_ rfl ?_
      · simp [results, Try.results34, go_sem, *]
      · rw [HG.out]
        exact SlotGet.got_none _ _ _ HB_5.out
end Go.Proofs.Ytjengjbkdflapaa.RefSlotGet
