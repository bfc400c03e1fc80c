/-
  The walk of the reference's Get: the cell with which bytes begin.
-/
import Derived.Test.YtjengjbkdflapaaCellGet
import Derived.Test.YtjengjbkdflapaaBox
namespace Go.Proofs.Ytjengjbkdflapaa.RefCellGet
open Go.RowKit
attribute [local go_sem ↓] app_fold cut_fold

theorem got_none (w : World) (k : Int) (w' : World) (h : Below w.heap.size w w') : CellGet.GotCell w (CellP.none, 0, k) (.returned (.tuple #[.agg #[.int .i64 0, .slice none 0 0, .int .i64 0, .int .i64 0, .int .i64 0], .int .i64 0, .int .i64 k])) w' := ⟨none, 0, 0, rfl, Bytes.none_ _ _, h⟩

set_option maxRecDepth 100000 in
set_option maxHeartbeats 2000000 in
theorem get_any (A : Option Addr) (n c B : Nat) (l : List UInt8) (w : World) (h : Bytes w B A n c l) (hB : B ≤ w.heap.size) :
    Calls Try.prog 86 #[.slice A n c] w (CellGet.GotCell w (CellP.get l)) := by
  have hn := Nat.le_trans h.2.1 h.2.2.1
  have hcm := h.2.2.1
  have hnc := h.2.1
  unfold maxLen at hn hcm
  have hl := h.len
  have hv1 := CellP.val_in l 0 1 (by omega)
  have H := Lib.hid h
  have HL := Lib.hid hl
  clear h
  by_cases h0 : l.length < 1
  · have HG := Lib.hid (CellP.get_short l h0)
    have HT := Lib.hid (NumW.there_no l 0 1 (by omega))
    clear hl
    go_enter Try.func86, Try.ntmps86
    go_wp2_with fail
    generalize hW0 : (w).alloc (.cells #[.int .i64 0, .slice none 0 0, .int .i64 0, .int .i64 0, .int .i64 0] 24) = W0
    have HS0_0 : Hid (Str W0 (w.heap.size) #[.int .i64 0, .slice none 0 0, .int .i64 0, .int .i64 0, .int .i64 0]) := Lib.hid (by rw [← hW0]; have := Str.new (w) #[.int .i64 0, .slice none 0 0, .int .i64 0, .int .i64 0, .int .i64 0] 24; simpa using this)
    have HB_0 : Hid (Below w.heap.size w W0) := Lib.hid (by rw [← hW0]; exact balloc (bsame w) _)
    have hw_0 := HB_0.out.size
    clear hW0
    obtain ⟨f0_0_0, f0_0_1, f0_0_2, f0_0_3, f0_0_4⟩ := str5 HS0_0.out
    have hl0_0 := HS0_0.out.lt
    have hf0_0 := fun j => HS0_0.out.frozen j
    refine (NumW.at_any A n c B 0 1 l _ (H.out.below (HB_0.out.mono hB)) (by omega) (by omega) (by omega)).mono ?_
    rintro e W0_ ⟨rfl, rfl⟩
    rw [HT.out]
    go_wp2_with fail
    generalize hW1 : (((((W0).setCell ⟨w.heap.size, 0, none⟩ (.int .i64 0)).setCell ⟨w.heap.size, 1, none⟩ (.slice none 0 0)).setCell ⟨w.heap.size, 2, none⟩ (.int .i64 0)).setCell ⟨w.heap.size, 3, none⟩ (.int .i64 0)).setCell ⟨w.heap.size, 4, none⟩ (.int .i64 0) = W1
    have HS0_1 : Hid (Str W1 (w.heap.size) #[.int .i64 0, .slice none 0 0, .int .i64 0, .int .i64 0, .int .i64 0]) := Lib.hid (by rw [← hW1]; have := (((((HS0_0.out).set 0 (.int .i64 0)).set 1 (.slice none 0 0)).set 2 (.int .i64 0)).set 3 (.int .i64 0)).set 4 (.int .i64 0); simpa using this)
    have hgr1 : W0.grownBy W1 (some (w.heap.size)) := by rw [← hW1]; exact grown_set (grown_set (grown_set (grown_set (grown_set (grown_refl W0 (w.heap.size)) 0 (.int .i64 0)) 1 (.slice none 0 0)) 2 (.int .i64 0)) 3 (.int .i64 0)) 4 (.int .i64 0)
    have HB_1 := Lib.hid (below_grown HB_0.out hgr1 (by omega))
    have hw_1 := HB_1.out.size
    have hws_1 := hgr1.size
    clear hW1
    clear f0_0_0 f0_0_1 f0_0_2 f0_0_3 f0_0_4 HS0_0 hf0_0
    clear hgr1
    obtain ⟨f0_1_0, f0_1_1, f0_1_2, f0_1_3, f0_1_4⟩ := str5 HS0_1.out
    have hl0_1 := HS0_1.out.lt
    have hf0_1 := fun j => HS0_1.out.frozen j
    refine bodyPost_ret (v := .tuple #[.agg #[.int .i64 0, .slice none 0 0, .int .i64 0, .int .i64 0, .int .i64 0], .int .i64 0, .int .i64 13]) ?_ rfl ?_
    · simp [results, Try.results86, go_sem, *]
    · rw [HG.out]
      exact got_none _ _ _ HB_1.out
  have HT := Lib.hid (NumW.there_yes l 0 1 (by omega))
  by_cases hk2 : NumP.val l 0 1 = 2
  · have HK := Lib.hid hk2
    by_cases h2 : l.length < 25
    · have HG := Lib.hid (CellP.get_cnt_short l h0 hk2 h2)
      have HT3 := Lib.hid (NumW.there_no l 17 8 (by omega))
      clear hk2
      clear hl
      go_enter Try.func86, Try.ntmps86
      go_wp2_with fail
      generalize hW0 : (w).alloc (.cells #[.int .i64 0, .slice none 0 0, .int .i64 0, .int .i64 0, .int .i64 0] 24) = W0
      have HS0_0 : Hid (Str W0 (w.heap.size) #[.int .i64 0, .slice none 0 0, .int .i64 0, .int .i64 0, .int .i64 0]) := Lib.hid (by rw [← hW0]; have := Str.new (w) #[.int .i64 0, .slice none 0 0, .int .i64 0, .int .i64 0, .int .i64 0] 24; simpa using this)
      have HB_0 : Hid (Below w.heap.size w W0) := Lib.hid (by rw [← hW0]; exact balloc (bsame w) _)
      have hw_0 := HB_0.out.size
      clear hW0
      obtain ⟨f0_0_0, f0_0_1, f0_0_2, f0_0_3, f0_0_4⟩ := str5 HS0_0.out
      have hl0_0 := HS0_0.out.lt
      have hf0_0 := fun j => HS0_0.out.frozen j
      refine (NumW.at_any A n c B 0 1 l _ (H.out.below (HB_0.out.mono hB)) (by omega) (by omega) (by omega)).mono ?_
      rintro e W0_ ⟨rfl, rfl⟩
      rw [HT.out, HK.out]
      go_wp2_with fail
      refine (NumW.at_any A n c B 1 8 l _ (H.out.below (HB_0.out.mono hB)) (by omega) (by omega) (by omega)).mono ?_
      rintro e W0_ ⟨rfl, rfl⟩
      generalize NumP.val l 1 8 = x1
      go_wp2_with fail
      refine (NumW.at_any A n c B 9 8 l _ (H.out.below (HB_0.out.mono hB)) (by omega) (by omega) (by omega)).mono ?_
      rintro e W0_ ⟨rfl, rfl⟩
      generalize NumP.val l 9 8 = x2
      go_wp2_with fail
      refine (NumW.at_any A n c B 17 8 l _ (H.out.below (HB_0.out.mono hB)) (by omega) (by omega) (by omega)).mono ?_
      rintro e W0_ ⟨rfl, rfl⟩
      rw [HT3.out]
      generalize NumP.val l 17 8 = x3
      go_wp2_with fail
      generalize hW1 : (((((W0).setCell ⟨w.heap.size, 0, none⟩ (.int .i64 0)).setCell ⟨w.heap.size, 1, none⟩ (.slice none 0 0)).setCell ⟨w.heap.size, 2, none⟩ (.int .i64 0)).setCell ⟨w.heap.size, 3, none⟩ (.int .i64 0)).setCell ⟨w.heap.size, 4, none⟩ (.int .i64 0) = W1
      have HS0_1 : Hid (Str W1 (w.heap.size) #[.int .i64 0, .slice none 0 0, .int .i64 0, .int .i64 0, .int .i64 0]) := Lib.hid (by rw [← hW1]; have := (((((HS0_0.out).set 0 (.int .i64 0)).set 1 (.slice none 0 0)).set 2 (.int .i64 0)).set 3 (.int .i64 0)).set 4 (.int .i64 0); simpa using this)
      have hgr1 : W0.grownBy W1 (some (w.heap.size)) := by rw [← hW1]; exact grown_set (grown_set (grown_set (grown_set (grown_set (grown_refl W0 (w.heap.size)) 0 (.int .i64 0)) 1 (.slice none 0 0)) 2 (.int .i64 0)) 3 (.int .i64 0)) 4 (.int .i64 0)
      have HB_1 := Lib.hid (below_grown HB_0.out hgr1 (by omega))
      have hw_1 := HB_1.out.size
      have hws_1 := hgr1.size
      clear hW1
      clear f0_0_0 f0_0_1 f0_0_2 f0_0_3 f0_0_4 HS0_0 hf0_0
      clear hgr1
      obtain ⟨f0_1_0, f0_1_1, f0_1_2, f0_1_3, f0_1_4⟩ := str5 HS0_1.out
      have hl0_1 := HS0_1.out.lt
      have hf0_1 := fun j => HS0_1.out.frozen j
      refine bodyPost_ret (v := .tuple #[.agg #[.int .i64 0, .slice none 0 0, .int .i64 0, .int .i64 0, .int .i64 0], .int .i64 0, .int .i64 13]) ?_ rfl ?_
      · simp [results, Try.results86, go_sem, *]
      · rw [HG.out]
        exact got_none _ _ _ HB_1.out
    · have HT3 := Lib.hid (NumW.there_yes l 17 8 (by omega))
      have HGY := fun h3 => Lib.hid (CellP.get_cnt l h0 hk2 h2 h3)
      have HGN := fun h3 => Lib.hid (CellP.get_cnt_form l h0 hk2 h2 h3)
      have HX1 := Lib.hid (rfl : NumP.val l 1 8 = NumP.val l 1 8)
      obtain ⟨lo, hlo⟩ : ∃ x, NumP.val l 1 8 = x := ⟨_, rfl⟩
      obtain ⟨hi', hhi⟩ : ∃ x, NumP.val l 9 8 = x := ⟨_, rfl⟩
      obtain ⟨v, hv⟩ : ∃ x, NumP.val l 17 8 = x := ⟨_, rfl⟩
      rw [hlo, hhi, hv] at HGY HGN
      have HLO := Lib.hid hlo
      have HHI := Lib.hid hhi
      have HV := Lib.hid hv
      clear hlo hhi hv hk2 HX1
      by_cases h3 : v < lo
      · have HG := HGN (by omega)
        clear HGY HGN
        clear hl
        go_enter Try.func86, Try.ntmps86
        go_wp2_with fail
        generalize hW0 : (w).alloc (.cells #[.int .i64 0, .slice none 0 0, .int .i64 0, .int .i64 0, .int .i64 0] 24) = W0
        have HS0_0 : Hid (Str W0 (w.heap.size) #[.int .i64 0, .slice none 0 0, .int .i64 0, .int .i64 0, .int .i64 0]) := Lib.hid (by rw [← hW0]; have := Str.new (w) #[.int .i64 0, .slice none 0 0, .int .i64 0, .int .i64 0, .int .i64 0] 24; simpa using this)
        have HB_0 : Hid (Below w.heap.size w W0) := Lib.hid (by rw [← hW0]; exact balloc (bsame w) _)
        have hw_0 := HB_0.out.size
        clear hW0
        obtain ⟨f0_0_0, f0_0_1, f0_0_2, f0_0_3, f0_0_4⟩ := str5 HS0_0.out
        have hl0_0 := HS0_0.out.lt
        have hf0_0 := fun j => HS0_0.out.frozen j
        refine (NumW.at_any A n c B 0 1 l _ (H.out.below (HB_0.out.mono hB)) (by omega) (by omega) (by omega)).mono ?_
        rintro e W0_ ⟨rfl, rfl⟩
        rw [HT.out, HK.out]
        go_wp2_with fail
        refine (NumW.at_any A n c B 1 8 l _ (H.out.below (HB_0.out.mono hB)) (by omega) (by omega) (by omega)).mono ?_
        rintro e W0_ ⟨rfl, rfl⟩
        rw [HLO.out]
        go_wp2_with fail
        refine (NumW.at_any A n c B 9 8 l _ (H.out.below (HB_0.out.mono hB)) (by omega) (by omega) (by omega)).mono ?_
        rintro e W0_ ⟨rfl, rfl⟩
        rw [HHI.out]
        go_wp2_with fail
        refine (NumW.at_any A n c B 17 8 l _ (H.out.below (HB_0.out.mono hB)) (by omega) (by omega) (by omega)).mono ?_
        rintro e W0_ ⟨rfl, rfl⟩
        rw [HT3.out, HV.out]
        go_wp2_with fail
        generalize hW1 : (((((W0).setCell ⟨w.heap.size, 0, none⟩ (.int .i64 0)).setCell ⟨w.heap.size, 1, none⟩ (.slice none 0 0)).setCell ⟨w.heap.size, 2, none⟩ (.int .i64 0)).setCell ⟨w.heap.size, 3, none⟩ (.int .i64 0)).setCell ⟨w.heap.size, 4, none⟩ (.int .i64 0) = W1
        have HS0_1 : Hid (Str W1 (w.heap.size) #[.int .i64 0, .slice none 0 0, .int .i64 0, .int .i64 0, .int .i64 0]) := Lib.hid (by rw [← hW1]; have := (((((HS0_0.out).set 0 (.int .i64 0)).set 1 (.slice none 0 0)).set 2 (.int .i64 0)).set 3 (.int .i64 0)).set 4 (.int .i64 0); simpa using this)
        have hgr1 : W0.grownBy W1 (some (w.heap.size)) := by rw [← hW1]; exact grown_set (grown_set (grown_set (grown_set (grown_set (grown_refl W0 (w.heap.size)) 0 (.int .i64 0)) 1 (.slice none 0 0)) 2 (.int .i64 0)) 3 (.int .i64 0)) 4 (.int .i64 0)
        have HB_1 := Lib.hid (below_grown HB_0.out hgr1 (by omega))
        have hw_1 := HB_1.out.size
        have hws_1 := hgr1.size
        clear hW1
        clear f0_0_0 f0_0_1 f0_0_2 f0_0_3 f0_0_4 HS0_0 hf0_0
        clear hgr1
        obtain ⟨f0_1_0, f0_1_1, f0_1_2, f0_1_3, f0_1_4⟩ := str5 HS0_1.out
        have hl0_1 := HS0_1.out.lt
        have hf0_1 := fun j => HS0_1.out.frozen j
        refine bodyPost_ret (v := .tuple #[.agg #[.int .i64 0, .slice none 0 0, .int .i64 0, .int .i64 0, .int .i64 0], .int .i64 0, .int .i64 12]) ?_ rfl ?_
        · simp [results, Try.results86, go_sem, *]
        · rw [HG.out]
          exact got_none _ _ _ HB_1.out
      · by_cases h4 : hi' < v
        · have HG := HGN (by omega)
          clear HGY HGN
          clear hl
          go_enter Try.func86, Try.ntmps86
          go_wp2_with fail
          generalize hW0 : (w).alloc (.cells #[.int .i64 0, .slice none 0 0, .int .i64 0, .int .i64 0, .int .i64 0] 24) = W0
          have HS0_0 : Hid (Str W0 (w.heap.size) #[.int .i64 0, .slice none 0 0, .int .i64 0, .int .i64 0, .int .i64 0]) := Lib.hid (by rw [← hW0]; have := Str.new (w) #[.int .i64 0, .slice none 0 0, .int .i64 0, .int .i64 0, .int .i64 0] 24; simpa using this)
          have HB_0 : Hid (Below w.heap.size w W0) := Lib.hid (by rw [← hW0]; exact balloc (bsame w) _)
          have hw_0 := HB_0.out.size
          clear hW0
          obtain ⟨f0_0_0, f0_0_1, f0_0_2, f0_0_3, f0_0_4⟩ := str5 HS0_0.out
          have hl0_0 := HS0_0.out.lt
          have hf0_0 := fun j => HS0_0.out.frozen j
          refine (NumW.at_any A n c B 0 1 l _ (H.out.below (HB_0.out.mono hB)) (by omega) (by omega) (by omega)).mono ?_
          rintro e W0_ ⟨rfl, rfl⟩
          rw [HT.out, HK.out]
          go_wp2_with fail
          refine (NumW.at_any A n c B 1 8 l _ (H.out.below (HB_0.out.mono hB)) (by omega) (by omega) (by omega)).mono ?_
          rintro e W0_ ⟨rfl, rfl⟩
          rw [HLO.out]
          go_wp2_with fail
          refine (NumW.at_any A n c B 9 8 l _ (H.out.below (HB_0.out.mono hB)) (by omega) (by omega) (by omega)).mono ?_
          rintro e W0_ ⟨rfl, rfl⟩
          rw [HHI.out]
          go_wp2_with fail
          refine (NumW.at_any A n c B 17 8 l _ (H.out.below (HB_0.out.mono hB)) (by omega) (by omega) (by omega)).mono ?_
          rintro e W0_ ⟨rfl, rfl⟩
          rw [HT3.out, HV.out]
          go_wp2_with fail
          generalize hW1 : (((((W0).setCell ⟨w.heap.size, 0, none⟩ (.int .i64 0)).setCell ⟨w.heap.size, 1, none⟩ (.slice none 0 0)).setCell ⟨w.heap.size, 2, none⟩ (.int .i64 0)).setCell ⟨w.heap.size, 3, none⟩ (.int .i64 0)).setCell ⟨w.heap.size, 4, none⟩ (.int .i64 0) = W1
          have HS0_1 : Hid (Str W1 (w.heap.size) #[.int .i64 0, .slice none 0 0, .int .i64 0, .int .i64 0, .int .i64 0]) := Lib.hid (by rw [← hW1]; have := (((((HS0_0.out).set 0 (.int .i64 0)).set 1 (.slice none 0 0)).set 2 (.int .i64 0)).set 3 (.int .i64 0)).set 4 (.int .i64 0); simpa using this)
          have hgr1 : W0.grownBy W1 (some (w.heap.size)) := by rw [← hW1]; exact grown_set (grown_set (grown_set (grown_set (grown_set (grown_refl W0 (w.heap.size)) 0 (.int .i64 0)) 1 (.slice none 0 0)) 2 (.int .i64 0)) 3 (.int .i64 0)) 4 (.int .i64 0)
          have HB_1 := Lib.hid (below_grown HB_0.out hgr1 (by omega))
          have hw_1 := HB_1.out.size
          have hws_1 := hgr1.size
          clear hW1
          clear f0_0_0 f0_0_1 f0_0_2 f0_0_3 f0_0_4 HS0_0 hf0_0
          clear hgr1
          obtain ⟨f0_1_0, f0_1_1, f0_1_2, f0_1_3, f0_1_4⟩ := str5 HS0_1.out
          have hl0_1 := HS0_1.out.lt
          have hf0_1 := fun j => HS0_1.out.frozen j
          refine bodyPost_ret (v := .tuple #[.agg #[.int .i64 0, .slice none 0 0, .int .i64 0, .int .i64 0, .int .i64 0], .int .i64 0, .int .i64 12]) ?_ rfl ?_
          · simp [results, Try.results86, go_sem, *]
          · rw [HG.out]
            exact got_none _ _ _ HB_1.out
        · have HG := HGY ⟨by omega, by omega⟩
          clear HGY HGN
          clear hl
          go_enter Try.func86, Try.ntmps86
          go_wp2_with fail
          generalize hW0 : (w).alloc (.cells #[.int .i64 0, .slice none 0 0, .int .i64 0, .int .i64 0, .int .i64 0] 24) = W0
          have HS0_0 : Hid (Str W0 (w.heap.size) #[.int .i64 0, .slice none 0 0, .int .i64 0, .int .i64 0, .int .i64 0]) := Lib.hid (by rw [← hW0]; have := Str.new (w) #[.int .i64 0, .slice none 0 0, .int .i64 0, .int .i64 0, .int .i64 0] 24; simpa using this)
          have HB_0 : Hid (Below w.heap.size w W0) := Lib.hid (by rw [← hW0]; exact balloc (bsame w) _)
          have hw_0 := HB_0.out.size
          clear hW0
          obtain ⟨f0_0_0, f0_0_1, f0_0_2, f0_0_3, f0_0_4⟩ := str5 HS0_0.out
          have hl0_0 := HS0_0.out.lt
          have hf0_0 := fun j => HS0_0.out.frozen j
          refine (NumW.at_any A n c B 0 1 l _ (H.out.below (HB_0.out.mono hB)) (by omega) (by omega) (by omega)).mono ?_
          rintro e W0_ ⟨rfl, rfl⟩
          rw [HT.out, HK.out]
          go_wp2_with fail
          refine (NumW.at_any A n c B 1 8 l _ (H.out.below (HB_0.out.mono hB)) (by omega) (by omega) (by omega)).mono ?_
          rintro e W0_ ⟨rfl, rfl⟩
          rw [HLO.out]
          go_wp2_with fail
          refine (NumW.at_any A n c B 9 8 l _ (H.out.below (HB_0.out.mono hB)) (by omega) (by omega) (by omega)).mono ?_
          rintro e W0_ ⟨rfl, rfl⟩
          rw [HHI.out]
          go_wp2_with fail
          refine (NumW.at_any A n c B 17 8 l _ (H.out.below (HB_0.out.mono hB)) (by omega) (by omega) (by omega)).mono ?_
          rintro e W0_ ⟨rfl, rfl⟩
          rw [HT3.out, HV.out]
          go_wp2_with fail
          generalize hW1 : (((((W0).setCell ⟨w.heap.size, 0, none⟩ (.int .i64 2)).setCell ⟨w.heap.size, 1, none⟩ (.slice none 0 0)).setCell ⟨w.heap.size, 2, none⟩ (.int .i64 lo)).setCell ⟨w.heap.size, 3, none⟩ (.int .i64 hi')).setCell ⟨w.heap.size, 4, none⟩ (.int .i64 v) = W1
          have HS0_1 : Hid (Str W1 (w.heap.size) #[.int .i64 2, .slice none 0 0, .int .i64 lo, .int .i64 hi', .int .i64 v]) := Lib.hid (by rw [← hW1]; have := (((((HS0_0.out).set 0 (.int .i64 2)).set 1 (.slice none 0 0)).set 2 (.int .i64 lo)).set 3 (.int .i64 hi')).set 4 (.int .i64 v); simpa using this)
          have hgr1 : W0.grownBy W1 (some (w.heap.size)) := by rw [← hW1]; exact grown_set (grown_set (grown_set (grown_set (grown_set (grown_refl W0 (w.heap.size)) 0 (.int .i64 2)) 1 (.slice none 0 0)) 2 (.int .i64 lo)) 3 (.int .i64 hi')) 4 (.int .i64 v)
          have HB_1 := Lib.hid (below_grown HB_0.out hgr1 (by omega))
          have hw_1 := HB_1.out.size
          have hws_1 := hgr1.size
          clear hW1
          clear f0_0_0 f0_0_1 f0_0_2 f0_0_3 f0_0_4 HS0_0 hf0_0
          clear hgr1
          obtain ⟨f0_1_0, f0_1_1, f0_1_2, f0_1_3, f0_1_4⟩ := str5 HS0_1.out
          have hl0_1 := HS0_1.out.lt
          have hf0_1 := fun j => HS0_1.out.frozen j
          refine bodyPost_ret (v := .tuple #[.agg #[.int .i64 2, .slice none 0 0, .int .i64 lo, .int .i64 hi', .int .i64 v], .int .i64 25, .int .i64 0]) ?_ rfl ?_
          · simp [results, Try.results86, go_sem, *]
          · rw [HG.out]
            exact ⟨none, 0, 0, rfl, Bytes.none_ _ _, HB_1.out⟩
  have hk2b : (NumP.val l 0 1 == 2) = false := by simpa using hk2
  by_cases hk1 : NumP.val l 0 1 = 1
  rotate_left
  · have hk1b : (NumP.val l 0 1 != 1) = true := by simpa using hk1
    have HG := Lib.hid (CellP.get_other l h0 hk1 hk2)
    generalize hkd : NumP.val l 0 1 = kd at hk1b hk2b hv1
    have HKD := Lib.hid hkd
    clear hkd
    clear hl hk1 hk2
    go_enter Try.func86, Try.ntmps86
    go_wp2_with fail
    generalize hW0 : (w).alloc (.cells #[.int .i64 0, .slice none 0 0, .int .i64 0, .int .i64 0, .int .i64 0] 24) = W0
    have HS0_0 : Hid (Str W0 (w.heap.size) #[.int .i64 0, .slice none 0 0, .int .i64 0, .int .i64 0, .int .i64 0]) := Lib.hid (by rw [← hW0]; have := Str.new (w) #[.int .i64 0, .slice none 0 0, .int .i64 0, .int .i64 0, .int .i64 0] 24; simpa using this)
    have HB_0 : Hid (Below w.heap.size w W0) := Lib.hid (by rw [← hW0]; exact balloc (bsame w) _)
    have hw_0 := HB_0.out.size
    clear hW0
    obtain ⟨f0_0_0, f0_0_1, f0_0_2, f0_0_3, f0_0_4⟩ := str5 HS0_0.out
    have hl0_0 := HS0_0.out.lt
    have hf0_0 := fun j => HS0_0.out.frozen j
    refine (NumW.at_any A n c B 0 1 l _ (H.out.below (HB_0.out.mono hB)) (by omega) (by omega) (by omega)).mono ?_
    rintro e W0_ ⟨rfl, rfl⟩
    rw [HT.out, HKD.out]
    go_wp2_with fail
    generalize hW1 : (((((W0).setCell ⟨w.heap.size, 0, none⟩ (.int .i64 0)).setCell ⟨w.heap.size, 1, none⟩ (.slice none 0 0)).setCell ⟨w.heap.size, 2, none⟩ (.int .i64 0)).setCell ⟨w.heap.size, 3, none⟩ (.int .i64 0)).setCell ⟨w.heap.size, 4, none⟩ (.int .i64 0) = W1
    have HS0_1 : Hid (Str W1 (w.heap.size) #[.int .i64 0, .slice none 0 0, .int .i64 0, .int .i64 0, .int .i64 0]) := Lib.hid (by rw [← hW1]; have := (((((HS0_0.out).set 0 (.int .i64 0)).set 1 (.slice none 0 0)).set 2 (.int .i64 0)).set 3 (.int .i64 0)).set 4 (.int .i64 0); simpa using this)
    have hgr1 : W0.grownBy W1 (some (w.heap.size)) := by rw [← hW1]; exact grown_set (grown_set (grown_set (grown_set (grown_set (grown_refl W0 (w.heap.size)) 0 (.int .i64 0)) 1 (.slice none 0 0)) 2 (.int .i64 0)) 3 (.int .i64 0)) 4 (.int .i64 0)
    have HB_1 := Lib.hid (below_grown HB_0.out hgr1 (by omega))
    have hw_1 := HB_1.out.size
    have hws_1 := hgr1.size
    clear hW1
    clear f0_0_0 f0_0_1 f0_0_2 f0_0_3 f0_0_4 HS0_0 hf0_0
    clear hgr1
    obtain ⟨f0_1_0, f0_1_1, f0_1_2, f0_1_3, f0_1_4⟩ := str5 HS0_1.out
    have hl0_1 := HS0_1.out.lt
    have hf0_1 := fun j => HS0_1.out.frozen j
    refine bodyPost_ret (v := .tuple #[.agg #[.int .i64 0, .slice none 0 0, .int .i64 0, .int .i64 0, .int .i64 0], .int .i64 0, .int .i64 12]) ?_ rfl ?_
    · simp [results, Try.results86, go_sem, *]
    · rw [HG.out]
      exact got_none _ _ _ HB_1.out
  have HK := Lib.hid hk1
  by_cases h2 : l.length < 2 ∨ l.length < 2 + CellP.len1 l
  · have HG := Lib.hid (CellP.get_rec_short l h0 hk1 h2)
    clear hk1 hk2 hk2b
    by_cases h2' : l.length < 2
    · have HT2 := Lib.hid (NumW.there_no l 1 1 (by omega))
      have HV2 := Lib.hid (NumW.val_no l 1 1 (by omega))
      clear h2
      clear hl
      go_enter Try.func86, Try.ntmps86
      go_wp2_with fail
      generalize hW0 : (w).alloc (.cells #[.int .i64 0, .slice none 0 0, .int .i64 0, .int .i64 0, .int .i64 0] 24) = W0
      have HS0_0 : Hid (Str W0 (w.heap.size) #[.int .i64 0, .slice none 0 0, .int .i64 0, .int .i64 0, .int .i64 0]) := Lib.hid (by rw [← hW0]; have := Str.new (w) #[.int .i64 0, .slice none 0 0, .int .i64 0, .int .i64 0, .int .i64 0] 24; simpa using this)
      have HB_0 : Hid (Below w.heap.size w W0) := Lib.hid (by rw [← hW0]; exact balloc (bsame w) _)
      have hw_0 := HB_0.out.size
      clear hW0
      obtain ⟨f0_0_0, f0_0_1, f0_0_2, f0_0_3, f0_0_4⟩ := str5 HS0_0.out
      have hl0_0 := HS0_0.out.lt
      have hf0_0 := fun j => HS0_0.out.frozen j
      refine (NumW.at_any A n c B 0 1 l _ (H.out.below (HB_0.out.mono hB)) (by omega) (by omega) (by omega)).mono ?_
      rintro e W0_ ⟨rfl, rfl⟩
      rw [HT.out, HK.out]
      go_wp2_with fail
      refine (NumW.at_any A n c B 1 1 l _ (H.out.below (HB_0.out.mono hB)) (by omega) (by omega) (by omega)).mono ?_
      rintro e W0_ ⟨rfl, rfl⟩
      rw [HT2.out, HV2.out]
      go_wp2_with fail
      generalize hW1 : (((((W0).setCell ⟨w.heap.size, 0, none⟩ (.int .i64 0)).setCell ⟨w.heap.size, 1, none⟩ (.slice none 0 0)).setCell ⟨w.heap.size, 2, none⟩ (.int .i64 0)).setCell ⟨w.heap.size, 3, none⟩ (.int .i64 0)).setCell ⟨w.heap.size, 4, none⟩ (.int .i64 0) = W1
      have HS0_1 : Hid (Str W1 (w.heap.size) #[.int .i64 0, .slice none 0 0, .int .i64 0, .int .i64 0, .int .i64 0]) := Lib.hid (by rw [← hW1]; have := (((((HS0_0.out).set 0 (.int .i64 0)).set 1 (.slice none 0 0)).set 2 (.int .i64 0)).set 3 (.int .i64 0)).set 4 (.int .i64 0); simpa using this)
      have hgr1 : W0.grownBy W1 (some (w.heap.size)) := by rw [← hW1]; exact grown_set (grown_set (grown_set (grown_set (grown_set (grown_refl W0 (w.heap.size)) 0 (.int .i64 0)) 1 (.slice none 0 0)) 2 (.int .i64 0)) 3 (.int .i64 0)) 4 (.int .i64 0)
      have HB_1 := Lib.hid (below_grown HB_0.out hgr1 (by omega))
      have hw_1 := HB_1.out.size
      have hws_1 := hgr1.size
      clear hW1
      clear f0_0_0 f0_0_1 f0_0_2 f0_0_3 f0_0_4 HS0_0 hf0_0
      clear hgr1
      obtain ⟨f0_1_0, f0_1_1, f0_1_2, f0_1_3, f0_1_4⟩ := str5 HS0_1.out
      have hl0_1 := HS0_1.out.lt
      have hf0_1 := fun j => HS0_1.out.frozen j
      refine bodyPost_ret (v := .tuple #[.agg #[.int .i64 0, .slice none 0 0, .int .i64 0, .int .i64 0, .int .i64 0], .int .i64 0, .int .i64 13]) ?_ rfl ?_
      · simp [results, Try.results86, go_sem, *]
      · rw [HG.out]
        exact got_none _ _ _ HB_1.out
    · have HT2 := Lib.hid (NumW.there_yes l 1 1 (by omega))
      have HV2 := Lib.hid (CellP.len1_val l (by omega))
      have hm := CellP.len1_lt l
      have h5 : l.length < 2 + CellP.len1 l := by omega
      clear h2
      generalize CellP.len1 l = m at *
      have h6 : (n : Int) - 2 < (m : Int) := by omega
      clear hl
      go_enter Try.func86, Try.ntmps86
      go_wp2_with fail
      generalize hW0 : (w).alloc (.cells #[.int .i64 0, .slice none 0 0, .int .i64 0, .int .i64 0, .int .i64 0] 24) = W0
      have HS0_0 : Hid (Str W0 (w.heap.size) #[.int .i64 0, .slice none 0 0, .int .i64 0, .int .i64 0, .int .i64 0]) := Lib.hid (by rw [← hW0]; have := Str.new (w) #[.int .i64 0, .slice none 0 0, .int .i64 0, .int .i64 0, .int .i64 0] 24; simpa using this)
      have HB_0 : Hid (Below w.heap.size w W0) := Lib.hid (by rw [← hW0]; exact balloc (bsame w) _)
      have hw_0 := HB_0.out.size
      clear hW0
      obtain ⟨f0_0_0, f0_0_1, f0_0_2, f0_0_3, f0_0_4⟩ := str5 HS0_0.out
      have hl0_0 := HS0_0.out.lt
      have hf0_0 := fun j => HS0_0.out.frozen j
      refine (NumW.at_any A n c B 0 1 l _ (H.out.below (HB_0.out.mono hB)) (by omega) (by omega) (by omega)).mono ?_
      rintro e W0_ ⟨rfl, rfl⟩
      rw [HT.out, HK.out]
      go_wp2_with fail
      refine (NumW.at_any A n c B 1 1 l _ (H.out.below (HB_0.out.mono hB)) (by omega) (by omega) (by omega)).mono ?_
      rintro e W0_ ⟨rfl, rfl⟩
      rw [HT2.out, HV2.out]
      go_wp2_with fail
      generalize hW1 : (((((W0).setCell ⟨w.heap.size, 0, none⟩ (.int .i64 0)).setCell ⟨w.heap.size, 1, none⟩ (.slice none 0 0)).setCell ⟨w.heap.size, 2, none⟩ (.int .i64 0)).setCell ⟨w.heap.size, 3, none⟩ (.int .i64 0)).setCell ⟨w.heap.size, 4, none⟩ (.int .i64 0) = W1
      have HS0_1 : Hid (Str W1 (w.heap.size) #[.int .i64 0, .slice none 0 0, .int .i64 0, .int .i64 0, .int .i64 0]) := Lib.hid (by rw [← hW1]; have := (((((HS0_0.out).set 0 (.int .i64 0)).set 1 (.slice none 0 0)).set 2 (.int .i64 0)).set 3 (.int .i64 0)).set 4 (.int .i64 0); simpa using this)
      have hgr1 : W0.grownBy W1 (some (w.heap.size)) := by rw [← hW1]; exact grown_set (grown_set (grown_set (grown_set (grown_set (grown_refl W0 (w.heap.size)) 0 (.int .i64 0)) 1 (.slice none 0 0)) 2 (.int .i64 0)) 3 (.int .i64 0)) 4 (.int .i64 0)
      have HB_1 := Lib.hid (below_grown HB_0.out hgr1 (by omega))
      have hw_1 := HB_1.out.size
      have hws_1 := hgr1.size
      clear hW1
      clear f0_0_0 f0_0_1 f0_0_2 f0_0_3 f0_0_4 HS0_0 hf0_0
      clear hgr1
      obtain ⟨f0_1_0, f0_1_1, f0_1_2, f0_1_3, f0_1_4⟩ := str5 HS0_1.out
      have hl0_1 := HS0_1.out.lt
      have hf0_1 := fun j => HS0_1.out.frozen j
      refine bodyPost_ret (v := .tuple #[.agg #[.int .i64 0, .slice none 0 0, .int .i64 0, .int .i64 0, .int .i64 0], .int .i64 0, .int .i64 13]) ?_ rfl ?_
      · simp [results, Try.results86, go_sem, *]
      · rw [HG.out]
        exact got_none _ _ _ HB_1.out
  have HT2 := Lib.hid (NumW.there_yes l 1 1 (by omega))
  have HV2 := Lib.hid (CellP.len1_val l (by omega))
  have hm := CellP.len1_lt l
  have HGF := fun h3 => Lib.hid (CellP.get_rec_form l h0 hk1 h2 h3)
  have HGY := fun h3 => Lib.hid (CellP.get_rec l h0 hk1 h2 h3)
  have h5 : 2 + CellP.len1 l ≤ l.length := by omega
  clear hk1 hk2 hk2b h2
  generalize CellP.len1 l = m at *
  have h6 : ¬ (n : Int) - 2 < (m : Int) := by omega
  by_cases h32 : 32 < m
  · have HG := HGF h32
    clear HGF HGY
    clear hl
    go_enter Try.func86, Try.ntmps86
    go_wp2_with fail
    generalize hW0 : (w).alloc (.cells #[.int .i64 0, .slice none 0 0, .int .i64 0, .int .i64 0, .int .i64 0] 24) = W0
    have HS0_0 : Hid (Str W0 (w.heap.size) #[.int .i64 0, .slice none 0 0, .int .i64 0, .int .i64 0, .int .i64 0]) := Lib.hid (by rw [← hW0]; have := Str.new (w) #[.int .i64 0, .slice none 0 0, .int .i64 0, .int .i64 0, .int .i64 0] 24; simpa using this)
    have HB_0 : Hid (Below w.heap.size w W0) := Lib.hid (by rw [← hW0]; exact balloc (bsame w) _)
    have hw_0 := HB_0.out.size
    clear hW0
    obtain ⟨f0_0_0, f0_0_1, f0_0_2, f0_0_3, f0_0_4⟩ := str5 HS0_0.out
    have hl0_0 := HS0_0.out.lt
    have hf0_0 := fun j => HS0_0.out.frozen j
    refine (NumW.at_any A n c B 0 1 l _ (H.out.below (HB_0.out.mono hB)) (by omega) (by omega) (by omega)).mono ?_
    rintro e W0_ ⟨rfl, rfl⟩
    rw [HT.out, HK.out]
    go_wp2_with fail
    refine (NumW.at_any A n c B 1 1 l _ (H.out.below (HB_0.out.mono hB)) (by omega) (by omega) (by omega)).mono ?_
    rintro e W0_ ⟨rfl, rfl⟩
    rw [HT2.out, HV2.out]
    go_wp2_with fail
    generalize hW1 : (((((W0).setCell ⟨w.heap.size, 0, none⟩ (.int .i64 0)).setCell ⟨w.heap.size, 1, none⟩ (.slice none 0 0)).setCell ⟨w.heap.size, 2, none⟩ (.int .i64 0)).setCell ⟨w.heap.size, 3, none⟩ (.int .i64 0)).setCell ⟨w.heap.size, 4, none⟩ (.int .i64 0) = W1
    have HS0_1 : Hid (Str W1 (w.heap.size) #[.int .i64 0, .slice none 0 0, .int .i64 0, .int .i64 0, .int .i64 0]) := Lib.hid (by rw [← hW1]; have := (((((HS0_0.out).set 0 (.int .i64 0)).set 1 (.slice none 0 0)).set 2 (.int .i64 0)).set 3 (.int .i64 0)).set 4 (.int .i64 0); simpa using this)
    have hgr1 : W0.grownBy W1 (some (w.heap.size)) := by rw [← hW1]; exact grown_set (grown_set (grown_set (grown_set (grown_set (grown_refl W0 (w.heap.size)) 0 (.int .i64 0)) 1 (.slice none 0 0)) 2 (.int .i64 0)) 3 (.int .i64 0)) 4 (.int .i64 0)
    have HB_1 := Lib.hid (below_grown HB_0.out hgr1 (by omega))
    have hw_1 := HB_1.out.size
    have hws_1 := hgr1.size
    clear hW1
    clear f0_0_0 f0_0_1 f0_0_2 f0_0_3 f0_0_4 HS0_0 hf0_0
    clear hgr1
    obtain ⟨f0_1_0, f0_1_1, f0_1_2, f0_1_3, f0_1_4⟩ := str5 HS0_1.out
    have hl0_1 := HS0_1.out.lt
    have hf0_1 := fun j => HS0_1.out.frozen j
    refine bodyPost_ret (v := .tuple #[.agg #[.int .i64 0, .slice none 0 0, .int .i64 0, .int .i64 0, .int .i64 0], .int .i64 0, .int .i64 12]) ?_ rfl ?_
    · simp [results, Try.results86, go_sem, *]
    · rw [HG.out]
      exact got_none _ _ _ HB_1.out
  · have HG := HGY h32
    clear HGF HGY
    have hcut := H.out.cut 2 (2 + m) c (by omega) (by omega) (by omega) (Nat.le_refl _)
    rw [show 2 + m - 2 = m by omega] at hcut
    have HCUT := Lib.hid hcut
    clear hcut
    clear hl
    go_enter Try.func86, Try.ntmps86
    go_wp2_with fail
    generalize hW0 : (w).alloc (.cells #[.int .i64 0, .slice none 0 0, .int .i64 0, .int .i64 0, .int .i64 0] 24) = W0
    have HS0_0 : Hid (Str W0 (w.heap.size) #[.int .i64 0, .slice none 0 0, .int .i64 0, .int .i64 0, .int .i64 0]) := Lib.hid (by rw [← hW0]; have := Str.new (w) #[.int .i64 0, .slice none 0 0, .int .i64 0, .int .i64 0, .int .i64 0] 24; simpa using this)
    have HB_0 : Hid (Below w.heap.size w W0) := Lib.hid (by rw [← hW0]; exact balloc (bsame w) _)
    have hw_0 := HB_0.out.size
    clear hW0
    obtain ⟨f0_0_0, f0_0_1, f0_0_2, f0_0_3, f0_0_4⟩ := str5 HS0_0.out
    have hl0_0 := HS0_0.out.lt
    have hf0_0 := fun j => HS0_0.out.frozen j
    refine (NumW.at_any A n c B 0 1 l _ (H.out.below (HB_0.out.mono hB)) (by omega) (by omega) (by omega)).mono ?_
    rintro e W0_ ⟨rfl, rfl⟩
    rw [HT.out, HK.out]
    go_wp2_with fail
    refine (NumW.at_any A n c B 1 1 l _ (H.out.below (HB_0.out.mono hB)) (by omega) (by omega) (by omega)).mono ?_
    rintro e W0_ ⟨rfl, rfl⟩
    rw [HT2.out, HV2.out]
    go_wp2_with fail
    generalize hW1 : (((((W0).setCell ⟨w.heap.size, 0, none⟩ (.int .i64 1)).setCell ⟨w.heap.size, 1, none⟩ (.slice (cutA A 2 c 1) m (c - 2))).setCell ⟨w.heap.size, 2, none⟩ (.int .i64 0)).setCell ⟨w.heap.size, 3, none⟩ (.int .i64 0)).setCell ⟨w.heap.size, 4, none⟩ (.int .i64 0) = W1
    have HS0_1 : Hid (Str W1 (w.heap.size) #[.int .i64 1, .slice (cutA A 2 c 1) m (c - 2), .int .i64 0, .int .i64 0, .int .i64 0]) := Lib.hid (by rw [← hW1]; have := (((((HS0_0.out).set 0 (.int .i64 1)).set 1 (.slice (cutA A 2 c 1) m (c - 2))).set 2 (.int .i64 0)).set 3 (.int .i64 0)).set 4 (.int .i64 0); simpa using this)
    have hgr1 : W0.grownBy W1 (some (w.heap.size)) := by rw [← hW1]; exact grown_set (grown_set (grown_set (grown_set (grown_set (grown_refl W0 (w.heap.size)) 0 (.int .i64 1)) 1 (.slice (cutA A 2 c 1) m (c - 2))) 2 (.int .i64 0)) 3 (.int .i64 0)) 4 (.int .i64 0)
    have HB_1 := Lib.hid (below_grown HB_0.out hgr1 (by omega))
    have hw_1 := HB_1.out.size
    have hws_1 := hgr1.size
    clear hW1
    clear f0_0_0 f0_0_1 f0_0_2 f0_0_3 f0_0_4 HS0_0 hf0_0
    clear hgr1
    obtain ⟨f0_1_0, f0_1_1, f0_1_2, f0_1_3, f0_1_4⟩ := str5 HS0_1.out
    have hl0_1 := HS0_1.out.lt
    have hf0_1 := fun j => HS0_1.out.frozen j
    refine bodyPost_ret (v := .tuple #[.agg #[.int .i64 1, .slice (cutA A 2 c 1) m (c - 2), .int .i64 0, .int .i64 0, .int .i64 0], .int .i64 (2 + (m : Int)), .int .i64 0]) ?_ rfl ?_
    · simp [results, Try.results86, go_sem, *]
    · rw [HG.out]
      exact ⟨_, _, _, rfl, (HCUT.out.below (HB_1.out.mono hB)).more (by omega), HB_1.out⟩
end Go.Proofs.Ytjengjbkdflapaa.RefCellGet
