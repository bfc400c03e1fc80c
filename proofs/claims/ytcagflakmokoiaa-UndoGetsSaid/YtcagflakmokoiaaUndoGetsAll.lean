/-
  The walk of the law, with the texts that it alone needs: RefCellGet, RefSlotGet, Live17, UndoGet1, RefUndoG, UndoGetsW.
-/
import Derived.Test.YtcagflakmokoiaaCellGet
import Derived.Test.YtcagflakmokoiaaBox
import Derived.Test.YtcagflakmokoiaaSlotGet
import Derived.Test.YtcagflakmokoiaaRefSlotBytes
import Derived.Test.YtcagflakmokoiaaUndoOf
import Derived.Test.YtcagflakmokoiaaUndoPut
import Derived.Test.YtcagflakmokoiaaUndoGet
import Derived.Test.YtcagflakmokoiaaCopy
import Derived.Test.YtcagflakmokoiaaOpen3
namespace Go.Proofs.Ytcagflakmokoiaa.RefCellGet
open Go.RowKit
attribute [local go_sem ↓] app_fold cut_fold

theorem got_none (w : World) (k : Int) (w' : World) (h : Below w.heap.size w w') : CellGet.GotCell w (CellP.none, 0, k) (.returned (.tuple #[.agg #[.int .i64 0, .slice none 0 0, .int .i64 0, .int .i64 0, .int .i64 0], .int .i64 0, .int .i64 k])) w' := ⟨none, 0, 0, rfl, Bytes.none_ _ _, h⟩

set_option maxRecDepth 100000 in
set_option maxHeartbeats 2000000 in
theorem get_any (A : Option Addr) (n c B : Nat) (l : List UInt8) (w : World) (h : Bytes w B A n c l) (hB : B ≤ w.heap.size) :
    Calls Try.prog 122 #[.slice A n c] w (CellGet.GotCell w (CellP.get l)) := by
  have hn := Nat.le_trans h.2.1 h.2.2.1
  have hcm := h.2.2.1
  have hnc := h.2.1
  unfold maxLen at hn hcm
  have hl := h.len
  have hv1 := CellP.val_in l 0 1 (by omega)
  have H := Lib.hid h
  have HL := Lib.hid hl
  clear h
  by_cases h0 : l.length < 1
  · have HG := Lib.hid (CellP.get_short l h0)
    have HT := Lib.hid (NumW.there_no l 0 1 (by omega))
    clear hl
    go_enter Try.func122, Try.ntmps122
    go_wp2_with fail
    generalize hW0 : (w).alloc (.cells #[.int .i64 0, .slice none 0 0, .int .i64 0, .int .i64 0, .int .i64 0] 25) = W0
    have HS0_0 : Hid (Str W0 (w.heap.size) #[.int .i64 0, .slice none 0 0, .int .i64 0, .int .i64 0, .int .i64 0]) := Lib.hid (by rw [← hW0]; have := Str.new (w) #[.int .i64 0, .slice none 0 0, .int .i64 0, .int .i64 0, .int .i64 0] 25; simpa using this)
    have HB_0 : Hid (Below w.heap.size w W0) := Lib.hid (by rw [← hW0]; exact balloc (bsame w) _)
    have hw_0 := HB_0.out.size
    clear hW0
    obtain ⟨f0_0_0, f0_0_1, f0_0_2, f0_0_3, f0_0_4⟩ := str5 HS0_0.out
    have hl0_0 := HS0_0.out.lt
    have hf0_0 := fun j => HS0_0.out.frozen j
    refine (NumW.at_any A n c B 0 1 l _ (H.out.below (HB_0.out.mono hB)) (by omega) (by omega) (by omega)).mono ?_
    rintro e W0_ ⟨rfl, rfl⟩
    rw [HT.out]
    go_wp2_with fail
    generalize hW1 : (((((W0).setCell ⟨w.heap.size, 0, none⟩ (.int .i64 0)).setCell ⟨w.heap.size, 1, none⟩ (.slice none 0 0)).setCell ⟨w.heap.size, 2, none⟩ (.int .i64 0)).setCell ⟨w.heap.size, 3, none⟩ (.int .i64 0)).setCell ⟨w.heap.size, 4, none⟩ (.int .i64 0) = W1
    have HS0_1 : Hid (Str W1 (w.heap.size) #[.int .i64 0, .slice none 0 0, .int .i64 0, .int .i64 0, .int .i64 0]) := Lib.hid (by rw [← hW1]; have := (((((HS0_0.out).set 0 (.int .i64 0)).set 1 (.slice none 0 0)).set 2 (.int .i64 0)).set 3 (.int .i64 0)).set 4 (.int .i64 0); simpa using this)
    have hgr1 : W0.grownBy W1 (some (w.heap.size)) := by rw [← hW1]; exact grown_set (grown_set (grown_set (grown_set (grown_set (grown_refl W0 (w.heap.size)) 0 (.int .i64 0)) 1 (.slice none 0 0)) 2 (.int .i64 0)) 3 (.int .i64 0)) 4 (.int .i64 0)
    have HB_1 := Lib.hid (below_grown HB_0.out hgr1 (by omega))
    have hw_1 := HB_1.out.size
    have hws_1 := hgr1.size
    clear hW1
    clear f0_0_0 f0_0_1 f0_0_2 f0_0_3 f0_0_4 HS0_0 hf0_0
    clear hgr1
    obtain ⟨f0_1_0, f0_1_1, f0_1_2, f0_1_3, f0_1_4⟩ := str5 HS0_1.out
    have hl0_1 := HS0_1.out.lt
    have hf0_1 := fun j => HS0_1.out.frozen j
    refine bodyPost_ret (v := .tuple #[.agg #[.int .i64 0, .slice none 0 0, .int .i64 0, .int .i64 0, .int .i64 0], .int .i64 0, .int .i64 13]) ?_ rfl ?_
    · simp [results, Try.results122, go_sem, *]
    · rw [HG.out]
      exact got_none _ _ _ HB_1.out
  have HT := Lib.hid (NumW.there_yes l 0 1 (by omega))
  by_cases hk2 : NumP.val l 0 1 = 2
  · have HK := Lib.hid hk2
    by_cases h2 : l.length < 25
    · have HG := Lib.hid (CellP.get_cnt_short l h0 hk2 h2)
      have HT3 := Lib.hid (NumW.there_no l 17 8 (by omega))
      clear hk2
      clear hl
      go_enter Try.func122, Try.ntmps122
      go_wp2_with fail
      generalize hW0 : (w).alloc (.cells #[.int .i64 0, .slice none 0 0, .int .i64 0, .int .i64 0, .int .i64 0] 25) = W0
      have HS0_0 : Hid (Str W0 (w.heap.size) #[.int .i64 0, .slice none 0 0, .int .i64 0, .int .i64 0, .int .i64 0]) := Lib.hid (by rw [← hW0]; have := Str.new (w) #[.int .i64 0, .slice none 0 0, .int .i64 0, .int .i64 0, .int .i64 0] 25; simpa using this)
      have HB_0 : Hid (Below w.heap.size w W0) := Lib.hid (by rw [← hW0]; exact balloc (bsame w) _)
      have hw_0 := HB_0.out.size
      clear hW0
      obtain ⟨f0_0_0, f0_0_1, f0_0_2, f0_0_3, f0_0_4⟩ := str5 HS0_0.out
      have hl0_0 := HS0_0.out.lt
      have hf0_0 := fun j => HS0_0.out.frozen j
      refine (NumW.at_any A n c B 0 1 l _ (H.out.below (HB_0.out.mono hB)) (by omega) (by omega) (by omega)).mono ?_
      rintro e W0_ ⟨rfl, rfl⟩
      rw [HT.out, HK.out]
      go_wp2_with fail
      refine (NumW.at_any A n c B 1 8 l _ (H.out.below (HB_0.out.mono hB)) (by omega) (by omega) (by omega)).mono ?_
      rintro e W0_ ⟨rfl, rfl⟩
      generalize NumP.val l 1 8 = x1
      go_wp2_with fail
      refine (NumW.at_any A n c B 9 8 l _ (H.out.below (HB_0.out.mono hB)) (by omega) (by omega) (by omega)).mono ?_
      rintro e W0_ ⟨rfl, rfl⟩
      generalize NumP.val l 9 8 = x2
      go_wp2_with fail
      refine (NumW.at_any A n c B 17 8 l _ (H.out.below (HB_0.out.mono hB)) (by omega) (by omega) (by omega)).mono ?_
      rintro e W0_ ⟨rfl, rfl⟩
      rw [HT3.out]
      generalize NumP.val l 17 8 = x3
      go_wp2_with fail
      generalize hW1 : (((((W0).setCell ⟨w.heap.size, 0, none⟩ (.int .i64 0)).setCell ⟨w.heap.size, 1, none⟩ (.slice none 0 0)).setCell ⟨w.heap.size, 2, none⟩ (.int .i64 0)).setCell ⟨w.heap.size, 3, none⟩ (.int .i64 0)).setCell ⟨w.heap.size, 4, none⟩ (.int .i64 0) = W1
      have HS0_1 : Hid (Str W1 (w.heap.size) #[.int .i64 0, .slice none 0 0, .int .i64 0, .int .i64 0, .int .i64 0]) := Lib.hid (by rw [← hW1]; have := (((((HS0_0.out).set 0 (.int .i64 0)).set 1 (.slice none 0 0)).set 2 (.int .i64 0)).set 3 (.int .i64 0)).set 4 (.int .i64 0); simpa using this)
      have hgr1 : W0.grownBy W1 (some (w.heap.size)) := by rw [← hW1]; exact grown_set (grown_set (grown_set (grown_set (grown_set (grown_refl W0 (w.heap.size)) 0 (.int .i64 0)) 1 (.slice none 0 0)) 2 (.int .i64 0)) 3 (.int .i64 0)) 4 (.int .i64 0)
      have HB_1 := Lib.hid (below_grown HB_0.out hgr1 (by omega))
      have hw_1 := HB_1.out.size
      have hws_1 := hgr1.size
      clear hW1
      clear f0_0_0 f0_0_1 f0_0_2 f0_0_3 f0_0_4 HS0_0 hf0_0
      clear hgr1
      obtain ⟨f0_1_0, f0_1_1, f0_1_2, f0_1_3, f0_1_4⟩ := str5 HS0_1.out
      have hl0_1 := HS0_1.out.lt
      have hf0_1 := fun j => HS0_1.out.frozen j
      refine bodyPost_ret (v := .tuple #[.agg #[.int .i64 0, .slice none 0 0, .int .i64 0, .int .i64 0, .int .i64 0], .int .i64 0, .int .i64 13]) ?_ rfl ?_
      · simp [results, Try.results122, go_sem, *]
      · rw [HG.out]
        exact got_none _ _ _ HB_1.out
    · have HT3 := Lib.hid (NumW.there_yes l 17 8 (by omega))
      have HGY := fun h3 => Lib.hid (CellP.get_cnt l h0 hk2 h2 h3)
      have HGN := fun h3 => Lib.hid (CellP.get_cnt_form l h0 hk2 h2 h3)
      have HX1 := Lib.hid (rfl : NumP.val l 1 8 = NumP.val l 1 8)
      obtain ⟨lo, hlo⟩ : ∃ x, NumP.val l 1 8 = x := ⟨_, rfl⟩
      obtain ⟨hi', hhi⟩ : ∃ x, NumP.val l 9 8 = x := ⟨_, rfl⟩
      obtain ⟨v, hv⟩ : ∃ x, NumP.val l 17 8 = x := ⟨_, rfl⟩
      rw [hlo, hhi, hv] at HGY HGN
      have HLO := Lib.hid hlo
      have HHI := Lib.hid hhi
      have HV := Lib.hid hv
      clear hlo hhi hv hk2 HX1
      by_cases h3 : v < lo
      · have HG := HGN (by omega)
        clear HGY HGN
        clear hl
        go_enter Try.func122, Try.ntmps122
        go_wp2_with fail
        generalize hW0 : (w).alloc (.cells #[.int .i64 0, .slice none 0 0, .int .i64 0, .int .i64 0, .int .i64 0] 25) = W0
        have HS0_0 : Hid (Str W0 (w.heap.size) #[.int .i64 0, .slice none 0 0, .int .i64 0, .int .i64 0, .int .i64 0]) := Lib.hid (by rw [← hW0]; have := Str.new (w) #[.int .i64 0, .slice none 0 0, .int .i64 0, .int .i64 0, .int .i64 0] 25; simpa using this)
        have HB_0 : Hid (Below w.heap.size w W0) := Lib.hid (by rw [← hW0]; exact balloc (bsame w) _)
        have hw_0 := HB_0.out.size
        clear hW0
        obtain ⟨f0_0_0, f0_0_1, f0_0_2, f0_0_3, f0_0_4⟩ := str5 HS0_0.out
        have hl0_0 := HS0_0.out.lt
        have hf0_0 := fun j => HS0_0.out.frozen j
        refine (NumW.at_any A n c B 0 1 l _ (H.out.below (HB_0.out.mono hB)) (by omega) (by omega) (by omega)).mono ?_
        rintro e W0_ ⟨rfl, rfl⟩
        rw [HT.out, HK.out]
        go_wp2_with fail
        refine (NumW.at_any A n c B 1 8 l _ (H.out.below (HB_0.out.mono hB)) (by omega) (by omega) (by omega)).mono ?_
        rintro e W0_ ⟨rfl, rfl⟩
        rw [HLO.out]
        go_wp2_with fail
        refine (NumW.at_any A n c B 9 8 l _ (H.out.below (HB_0.out.mono hB)) (by omega) (by omega) (by omega)).mono ?_
        rintro e W0_ ⟨rfl, rfl⟩
        rw [HHI.out]
        go_wp2_with fail
        refine (NumW.at_any A n c B 17 8 l _ (H.out.below (HB_0.out.mono hB)) (by omega) (by omega) (by omega)).mono ?_
        rintro e W0_ ⟨rfl, rfl⟩
        rw [HT3.out, HV.out]
        go_wp2_with fail
        generalize hW1 : (((((W0).setCell ⟨w.heap.size, 0, none⟩ (.int .i64 0)).setCell ⟨w.heap.size, 1, none⟩ (.slice none 0 0)).setCell ⟨w.heap.size, 2, none⟩ (.int .i64 0)).setCell ⟨w.heap.size, 3, none⟩ (.int .i64 0)).setCell ⟨w.heap.size, 4, none⟩ (.int .i64 0) = W1
        have HS0_1 : Hid (Str W1 (w.heap.size) #[.int .i64 0, .slice none 0 0, .int .i64 0, .int .i64 0, .int .i64 0]) := Lib.hid (by rw [← hW1]; have := (((((HS0_0.out).set 0 (.int .i64 0)).set 1 (.slice none 0 0)).set 2 (.int .i64 0)).set 3 (.int .i64 0)).set 4 (.int .i64 0); simpa using this)
        have hgr1 : W0.grownBy W1 (some (w.heap.size)) := by rw [← hW1]; exact grown_set (grown_set (grown_set (grown_set (grown_set (grown_refl W0 (w.heap.size)) 0 (.int .i64 0)) 1 (.slice none 0 0)) 2 (.int .i64 0)) 3 (.int .i64 0)) 4 (.int .i64 0)
        have HB_1 := Lib.hid (below_grown HB_0.out hgr1 (by omega))
        have hw_1 := HB_1.out.size
        have hws_1 := hgr1.size
        clear hW1
        clear f0_0_0 f0_0_1 f0_0_2 f0_0_3 f0_0_4 HS0_0 hf0_0
        clear hgr1
        obtain ⟨f0_1_0, f0_1_1, f0_1_2, f0_1_3, f0_1_4⟩ := str5 HS0_1.out
        have hl0_1 := HS0_1.out.lt
        have hf0_1 := fun j => HS0_1.out.frozen j
        refine bodyPost_ret (v := .tuple #[.agg #[.int .i64 0, .slice none 0 0, .int .i64 0, .int .i64 0, .int .i64 0], .int .i64 0, .int .i64 12]) ?_ rfl ?_
        · simp [results, Try.results122, go_sem, *]
        · rw [HG.out]
          exact got_none _ _ _ HB_1.out
      · by_cases h4 : hi' < v
        · have HG := HGN (by omega)
          clear HGY HGN
          clear hl
          go_enter Try.func122, Try.ntmps122
          go_wp2_with fail
          generalize hW0 : (w).alloc (.cells #[.int .i64 0, .slice none 0 0, .int .i64 0, .int .i64 0, .int .i64 0] 25) = W0
          have HS0_0 : Hid (Str W0 (w.heap.size) #[.int .i64 0, .slice none 0 0, .int .i64 0, .int .i64 0, .int .i64 0]) := Lib.hid (by rw [← hW0]; have := Str.new (w) #[.int .i64 0, .slice none 0 0, .int .i64 0, .int .i64 0, .int .i64 0] 25; simpa using this)
          have HB_0 : Hid (Below w.heap.size w W0) := Lib.hid (by rw [← hW0]; exact balloc (bsame w) _)
          have hw_0 := HB_0.out.size
          clear hW0
          obtain ⟨f0_0_0, f0_0_1, f0_0_2, f0_0_3, f0_0_4⟩ := str5 HS0_0.out
          have hl0_0 := HS0_0.out.lt
          have hf0_0 := fun j => HS0_0.out.frozen j
          refine (NumW.at_any A n c B 0 1 l _ (H.out.below (HB_0.out.mono hB)) (by omega) (by omega) (by omega)).mono ?_
          rintro e W0_ ⟨rfl, rfl⟩
          rw [HT.out, HK.out]
          go_wp2_with fail
          refine (NumW.at_any A n c B 1 8 l _ (H.out.below (HB_0.out.mono hB)) (by omega) (by omega) (by omega)).mono ?_
          rintro e W0_ ⟨rfl, rfl⟩
          rw [HLO.out]
          go_wp2_with fail
          refine (NumW.at_any A n c B 9 8 l _ (H.out.below (HB_0.out.mono hB)) (by omega) (by omega) (by omega)).mono ?_
          rintro e W0_ ⟨rfl, rfl⟩
          rw [HHI.out]
          go_wp2_with fail
          refine (NumW.at_any A n c B 17 8 l _ (H.out.below (HB_0.out.mono hB)) (by omega) (by omega) (by omega)).mono ?_
          rintro e W0_ ⟨rfl, rfl⟩
          rw [HT3.out, HV.out]
          go_wp2_with fail
          generalize hW1 : (((((W0).setCell ⟨w.heap.size, 0, none⟩ (.int .i64 0)).setCell ⟨w.heap.size, 1, none⟩ (.slice none 0 0)).setCell ⟨w.heap.size, 2, none⟩ (.int .i64 0)).setCell ⟨w.heap.size, 3, none⟩ (.int .i64 0)).setCell ⟨w.heap.size, 4, none⟩ (.int .i64 0) = W1
          have HS0_1 : Hid (Str W1 (w.heap.size) #[.int .i64 0, .slice none 0 0, .int .i64 0, .int .i64 0, .int .i64 0]) := Lib.hid (by rw [← hW1]; have := (((((HS0_0.out).set 0 (.int .i64 0)).set 1 (.slice none 0 0)).set 2 (.int .i64 0)).set 3 (.int .i64 0)).set 4 (.int .i64 0); simpa using this)
          have hgr1 : W0.grownBy W1 (some (w.heap.size)) := by rw [← hW1]; exact grown_set (grown_set (grown_set (grown_set (grown_set (grown_refl W0 (w.heap.size)) 0 (.int .i64 0)) 1 (.slice none 0 0)) 2 (.int .i64 0)) 3 (.int .i64 0)) 4 (.int .i64 0)
          have HB_1 := Lib.hid (below_grown HB_0.out hgr1 (by omega))
          have hw_1 := HB_1.out.size
          have hws_1 := hgr1.size
          clear hW1
          clear f0_0_0 f0_0_1 f0_0_2 f0_0_3 f0_0_4 HS0_0 hf0_0
          clear hgr1
          obtain ⟨f0_1_0, f0_1_1, f0_1_2, f0_1_3, f0_1_4⟩ := str5 HS0_1.out
          have hl0_1 := HS0_1.out.lt
          have hf0_1 := fun j => HS0_1.out.frozen j
          refine bodyPost_ret (v := .tuple #[.agg #[.int .i64 0, .slice none 0 0, .int .i64 0, .int .i64 0, .int .i64 0], .int .i64 0, .int .i64 12]) ?_ rfl ?_
          · simp [results, Try.results122, go_sem, *]
          · rw [HG.out]
            exact got_none _ _ _ HB_1.out
        · have HG := HGY ⟨by omega, by omega⟩
          clear HGY HGN
          clear hl
          go_enter Try.func122, Try.ntmps122
          go_wp2_with fail
          generalize hW0 : (w).alloc (.cells #[.int .i64 0, .slice none 0 0, .int .i64 0, .int .i64 0, .int .i64 0] 25) = W0
          have HS0_0 : Hid (Str W0 (w.heap.size) #[.int .i64 0, .slice none 0 0, .int .i64 0, .int .i64 0, .int .i64 0]) := Lib.hid (by rw [← hW0]; have := Str.new (w) #[.int .i64 0, .slice none 0 0, .int .i64 0, .int .i64 0, .int .i64 0] 25; simpa using this)
          have HB_0 : Hid (Below w.heap.size w W0) := Lib.hid (by rw [← hW0]; exact balloc (bsame w) _)
          have hw_0 := HB_0.out.size
          clear hW0
          obtain ⟨f0_0_0, f0_0_1, f0_0_2, f0_0_3, f0_0_4⟩ := str5 HS0_0.out
          have hl0_0 := HS0_0.out.lt
          have hf0_0 := fun j => HS0_0.out.frozen j
          refine (NumW.at_any A n c B 0 1 l _ (H.out.below (HB_0.out.mono hB)) (by omega) (by omega) (by omega)).mono ?_
          rintro e W0_ ⟨rfl, rfl⟩
          rw [HT.out, HK.out]
          go_wp2_with fail
          refine (NumW.at_any A n c B 1 8 l _ (H.out.below (HB_0.out.mono hB)) (by omega) (by omega) (by omega)).mono ?_
          rintro e W0_ ⟨rfl, rfl⟩
          rw [HLO.out]
          go_wp2_with fail
          refine (NumW.at_any A n c B 9 8 l _ (H.out.below (HB_0.out.mono hB)) (by omega) (by omega) (by omega)).mono ?_
          rintro e W0_ ⟨rfl, rfl⟩
          rw [HHI.out]
          go_wp2_with fail
          refine (NumW.at_any A n c B 17 8 l _ (H.out.below (HB_0.out.mono hB)) (by omega) (by omega) (by omega)).mono ?_
          rintro e W0_ ⟨rfl, rfl⟩
          rw [HT3.out, HV.out]
          go_wp2_with fail
          generalize hW1 : (((((W0).setCell ⟨w.heap.size, 0, none⟩ (.int .i64 2)).setCell ⟨w.heap.size, 1, none⟩ (.slice none 0 0)).setCell ⟨w.heap.size, 2, none⟩ (.int .i64 lo)).setCell ⟨w.heap.size, 3, none⟩ (.int .i64 hi')).setCell ⟨w.heap.size, 4, none⟩ (.int .i64 v) = W1
          have HS0_1 : Hid (Str W1 (w.heap.size) #[.int .i64 2, .slice none 0 0, .int .i64 lo, .int .i64 hi', .int .i64 v]) := Lib.hid (by rw [← hW1]; have := (((((HS0_0.out).set 0 (.int .i64 2)).set 1 (.slice none 0 0)).set 2 (.int .i64 lo)).set 3 (.int .i64 hi')).set 4 (.int .i64 v); simpa using this)
          have hgr1 : W0.grownBy W1 (some (w.heap.size)) := by rw [← hW1]; exact grown_set (grown_set (grown_set (grown_set (grown_set (grown_refl W0 (w.heap.size)) 0 (.int .i64 2)) 1 (.slice none 0 0)) 2 (.int .i64 lo)) 3 (.int .i64 hi')) 4 (.int .i64 v)
          have HB_1 := Lib.hid (below_grown HB_0.out hgr1 (by omega))
          have hw_1 := HB_1.out.size
          have hws_1 := hgr1.size
          clear hW1
          clear f0_0_0 f0_0_1 f0_0_2 f0_0_3 f0_0_4 HS0_0 hf0_0
          clear hgr1
          obtain ⟨f0_1_0, f0_1_1, f0_1_2, f0_1_3, f0_1_4⟩ := str5 HS0_1.out
          have hl0_1 := HS0_1.out.lt
          have hf0_1 := fun j => HS0_1.out.frozen j
          refine bodyPost_ret (v := .tuple #[.agg #[.int .i64 2, .slice none 0 0, .int .i64 lo, .int .i64 hi', .int .i64 v], .int .i64 25, .int .i64 0]) ?_ rfl ?_
          · simp [results, Try.results122, go_sem, *]
          · rw [HG.out]
            exact ⟨none, 0, 0, rfl, Bytes.none_ _ _, HB_1.out⟩
  have hk2b : (NumP.val l 0 1 == 2) = false := by simpa using hk2
  by_cases hk1 : NumP.val l 0 1 = 1
  rotate_left
  · have hk1b : (NumP.val l 0 1 != 1) = true := by simpa using hk1
    have HG := Lib.hid (CellP.get_other l h0 hk1 hk2)
    generalize hkd : NumP.val l 0 1 = kd at hk1b hk2b hv1
    have HKD := Lib.hid hkd
    clear hkd
    clear hl hk1 hk2
    go_enter Try.func122, Try.ntmps122
    go_wp2_with fail
    generalize hW0 : (w).alloc (.cells #[.int .i64 0, .slice none 0 0, .int .i64 0, .int .i64 0, .int .i64 0] 25) = W0
    have HS0_0 : Hid (Str W0 (w.heap.size) #[.int .i64 0, .slice none 0 0, .int .i64 0, .int .i64 0, .int .i64 0]) := Lib.hid (by rw [← hW0]; have := Str.new (w) #[.int .i64 0, .slice none 0 0, .int .i64 0, .int .i64 0, .int .i64 0] 25; simpa using this)
    have HB_0 : Hid (Below w.heap.size w W0) := Lib.hid (by rw [← hW0]; exact balloc (bsame w) _)
    have hw_0 := HB_0.out.size
    clear hW0
    obtain ⟨f0_0_0, f0_0_1, f0_0_2, f0_0_3, f0_0_4⟩ := str5 HS0_0.out
    have hl0_0 := HS0_0.out.lt
    have hf0_0 := fun j => HS0_0.out.frozen j
    refine (NumW.at_any A n c B 0 1 l _ (H.out.below (HB_0.out.mono hB)) (by omega) (by omega) (by omega)).mono ?_
    rintro e W0_ ⟨rfl, rfl⟩
    rw [HT.out, HKD.out]
    go_wp2_with fail
    generalize hW1 : (((((W0).setCell ⟨w.heap.size, 0, none⟩ (.int .i64 0)).setCell ⟨w.heap.size, 1, none⟩ (.slice none 0 0)).setCell ⟨w.heap.size, 2, none⟩ (.int .i64 0)).setCell ⟨w.heap.size, 3, none⟩ (.int .i64 0)).setCell ⟨w.heap.size, 4, none⟩ (.int .i64 0) = W1
    have HS0_1 : Hid (Str W1 (w.heap.size) #[.int .i64 0, .slice none 0 0, .int .i64 0, .int .i64 0, .int .i64 0]) := Lib.hid (by rw [← hW1]; have := (((((HS0_0.out).set 0 (.int .i64 0)).set 1 (.slice none 0 0)).set 2 (.int .i64 0)).set 3 (.int .i64 0)).set 4 (.int .i64 0); simpa using this)
    have hgr1 : W0.grownBy W1 (some (w.heap.size)) := by rw [← hW1]; exact grown_set (grown_set (grown_set (grown_set (grown_set (grown_refl W0 (w.heap.size)) 0 (.int .i64 0)) 1 (.slice none 0 0)) 2 (.int .i64 0)) 3 (.int .i64 0)) 4 (.int .i64 0)
    have HB_1 := Lib.hid (below_grown HB_0.out hgr1 (by omega))
    have hw_1 := HB_1.out.size
    have hws_1 := hgr1.size
    clear hW1
    clear f0_0_0 f0_0_1 f0_0_2 f0_0_3 f0_0_4 HS0_0 hf0_0
    clear hgr1
    obtain ⟨f0_1_0, f0_1_1, f0_1_2, f0_1_3, f0_1_4⟩ := str5 HS0_1.out
    have hl0_1 := HS0_1.out.lt
    have hf0_1 := fun j => HS0_1.out.frozen j
    refine bodyPost_ret (v := .tuple #[.agg #[.int .i64 0, .slice none 0 0, .int .i64 0, .int .i64 0, .int .i64 0], .int .i64 0, .int .i64 12]) ?_ rfl ?_
    · simp [results, Try.results122, go_sem, *]
    · rw [HG.out]
      exact got_none _ _ _ HB_1.out
  have HK := Lib.hid hk1
  by_cases h2 : l.length < 2 ∨ l.length < 2 + CellP.len1 l
  · have HG := Lib.hid (CellP.get_rec_short l h0 hk1 h2)
    clear hk1 hk2 hk2b
    by_cases h2' : l.length < 2
    · have HT2 := Lib.hid (NumW.there_no l 1 1 (by omega))
      have HV2 := Lib.hid (NumW.val_no l 1 1 (by omega))
      clear h2
      clear hl
      go_enter Try.func122, Try.ntmps122
      go_wp2_with fail
      generalize hW0 : (w).alloc (.cells #[.int .i64 0, .slice none 0 0, .int .i64 0, .int .i64 0, .int .i64 0] 25) = W0
      have HS0_0 : Hid (Str W0 (w.heap.size) #[.int .i64 0, .slice none 0 0, .int .i64 0, .int .i64 0, .int .i64 0]) := Lib.hid (by rw [← hW0]; have := Str.new (w) #[.int .i64 0, .slice none 0 0, .int .i64 0, .int .i64 0, .int .i64 0] 25; simpa using this)
      have HB_0 : Hid (Below w.heap.size w W0) := Lib.hid (by rw [← hW0]; exact balloc (bsame w) _)
      have hw_0 := HB_0.out.size
      clear hW0
      obtain ⟨f0_0_0, f0_0_1, f0_0_2, f0_0_3, f0_0_4⟩ := str5 HS0_0.out
      have hl0_0 := HS0_0.out.lt
      have hf0_0 := fun j => HS0_0.out.frozen j
      refine (NumW.at_any A n c B 0 1 l _ (H.out.below (HB_0.out.mono hB)) (by omega) (by omega) (by omega)).mono ?_
      rintro e W0_ ⟨rfl, rfl⟩
      rw [HT.out, HK.out]
      go_wp2_with fail
      refine (NumW.at_any A n c B 1 1 l _ (H.out.below (HB_0.out.mono hB)) (by omega) (by omega) (by omega)).mono ?_
      rintro e W0_ ⟨rfl, rfl⟩
      rw [HT2.out, HV2.out]
      go_wp2_with fail
      generalize hW1 : (((((W0).setCell ⟨w.heap.size, 0, none⟩ (.int .i64 0)).setCell ⟨w.heap.size, 1, none⟩ (.slice none 0 0)).setCell ⟨w.heap.size, 2, none⟩ (.int .i64 0)).setCell ⟨w.heap.size, 3, none⟩ (.int .i64 0)).setCell ⟨w.heap.size, 4, none⟩ (.int .i64 0) = W1
      have HS0_1 : Hid (Str W1 (w.heap.size) #[.int .i64 0, .slice none 0 0, .int .i64 0, .int .i64 0, .int .i64 0]) := Lib.hid (by rw [← hW1]; have := (((((HS0_0.out).set 0 (.int .i64 0)).set 1 (.slice none 0 0)).set 2 (.int .i64 0)).set 3 (.int .i64 0)).set 4 (.int .i64 0); simpa using this)
      have hgr1 : W0.grownBy W1 (some (w.heap.size)) := by rw [← hW1]; exact grown_set (grown_set (grown_set (grown_set (grown_set (grown_refl W0 (w.heap.size)) 0 (.int .i64 0)) 1 (.slice none 0 0)) 2 (.int .i64 0)) 3 (.int .i64 0)) 4 (.int .i64 0)
      have HB_1 := Lib.hid (below_grown HB_0.out hgr1 (by omega))
      have hw_1 := HB_1.out.size
      have hws_1 := hgr1.size
      clear hW1
      clear f0_0_0 f0_0_1 f0_0_2 f0_0_3 f0_0_4 HS0_0 hf0_0
      clear hgr1
      obtain ⟨f0_1_0, f0_1_1, f0_1_2, f0_1_3, f0_1_4⟩ := str5 HS0_1.out
      have hl0_1 := HS0_1.out.lt
      have hf0_1 := fun j => HS0_1.out.frozen j
      refine bodyPost_ret (v := .tuple #[.agg #[.int .i64 0, .slice none 0 0, .int .i64 0, .int .i64 0, .int .i64 0], .int .i64 0, .int .i64 13]) ?_ rfl ?_
      · simp [results, Try.results122, go_sem, *]
      · rw [HG.out]
        exact got_none _ _ _ HB_1.out
    · have HT2 := Lib.hid (NumW.there_yes l 1 1 (by omega))
      have HV2 := Lib.hid (CellP.len1_val l (by omega))
      have hm := CellP.len1_lt l
      have h5 : l.length < 2 + CellP.len1 l := by omega
      clear h2
      generalize CellP.len1 l = m at *
      have h6 : (n : Int) - 2 < (m : Int) := by omega
      clear hl
      go_enter Try.func122, Try.ntmps122
      go_wp2_with fail
      generalize hW0 : (w).alloc (.cells #[.int .i64 0, .slice none 0 0, .int .i64 0, .int .i64 0, .int .i64 0] 25) = W0
      have HS0_0 : Hid (Str W0 (w.heap.size) #[.int .i64 0, .slice none 0 0, .int .i64 0, .int .i64 0, .int .i64 0]) := Lib.hid (by rw [← hW0]; have := Str.new (w) #[.int .i64 0, .slice none 0 0, .int .i64 0, .int .i64 0, .int .i64 0] 25; simpa using this)
      have HB_0 : Hid (Below w.heap.size w W0) := Lib.hid (by rw [← hW0]; exact balloc (bsame w) _)
      have hw_0 := HB_0.out.size
      clear hW0
      obtain ⟨f0_0_0, f0_0_1, f0_0_2, f0_0_3, f0_0_4⟩ := str5 HS0_0.out
      have hl0_0 := HS0_0.out.lt
      have hf0_0 := fun j => HS0_0.out.frozen j
      refine (NumW.at_any A n c B 0 1 l _ (H.out.below (HB_0.out.mono hB)) (by omega) (by omega) (by omega)).mono ?_
      rintro e W0_ ⟨rfl, rfl⟩
      rw [HT.out, HK.out]
      go_wp2_with fail
      refine (NumW.at_any A n c B 1 1 l _ (H.out.below (HB_0.out.mono hB)) (by omega) (by omega) (by omega)).mono ?_
      rintro e W0_ ⟨rfl, rfl⟩
      rw [HT2.out, HV2.out]
      go_wp2_with fail
      generalize hW1 : (((((W0).setCell ⟨w.heap.size, 0, none⟩ (.int .i64 0)).setCell ⟨w.heap.size, 1, none⟩ (.slice none 0 0)).setCell ⟨w.heap.size, 2, none⟩ (.int .i64 0)).setCell ⟨w.heap.size, 3, none⟩ (.int .i64 0)).setCell ⟨w.heap.size, 4, none⟩ (.int .i64 0) = W1
      have HS0_1 : Hid (Str W1 (w.heap.size) #[.int .i64 0, .slice none 0 0, .int .i64 0, .int .i64 0, .int .i64 0]) := Lib.hid (by rw [← hW1]; have := (((((HS0_0.out).set 0 (.int .i64 0)).set 1 (.slice none 0 0)).set 2 (.int .i64 0)).set 3 (.int .i64 0)).set 4 (.int .i64 0); simpa using this)
      have hgr1 : W0.grownBy W1 (some (w.heap.size)) := by rw [← hW1]; exact grown_set (grown_set (grown_set (grown_set (grown_set (grown_refl W0 (w.heap.size)) 0 (.int .i64 0)) 1 (.slice none 0 0)) 2 (.int .i64 0)) 3 (.int .i64 0)) 4 (.int .i64 0)
      have HB_1 := Lib.hid (below_grown HB_0.out hgr1 (by omega))
      have hw_1 := HB_1.out.size
      have hws_1 := hgr1.size
      clear hW1
      clear f0_0_0 f0_0_1 f0_0_2 f0_0_3 f0_0_4 HS0_0 hf0_0
      clear hgr1
      obtain ⟨f0_1_0, f0_1_1, f0_1_2, f0_1_3, f0_1_4⟩ := str5 HS0_1.out
      have hl0_1 := HS0_1.out.lt
      have hf0_1 := fun j => HS0_1.out.frozen j
      refine bodyPost_ret (v := .tuple #[.agg #[.int .i64 0, .slice none 0 0, .int .i64 0, .int .i64 0, .int .i64 0], .int .i64 0, .int .i64 13]) ?_ rfl ?_
      · simp [results, Try.results122, go_sem, *]
      · rw [HG.out]
        exact got_none _ _ _ HB_1.out
  have HT2 := Lib.hid (NumW.there_yes l 1 1 (by omega))
  have HV2 := Lib.hid (CellP.len1_val l (by omega))
  have hm := CellP.len1_lt l
  have HGF := fun h3 => Lib.hid (CellP.get_rec_form l h0 hk1 h2 h3)
  have HGY := fun h3 => Lib.hid (CellP.get_rec l h0 hk1 h2 h3)
  have h5 : 2 + CellP.len1 l ≤ l.length := by omega
  clear hk1 hk2 hk2b h2
  generalize CellP.len1 l = m at *
  have h6 : ¬ (n : Int) - 2 < (m : Int) := by omega
  by_cases h32 : 32 < m
  · have HG := HGF h32
    clear HGF HGY
    clear hl
    go_enter Try.func122, Try.ntmps122
    go_wp2_with fail
    generalize hW0 : (w).alloc (.cells #[.int .i64 0, .slice none 0 0, .int .i64 0, .int .i64 0, .int .i64 0] 25) = W0
    have HS0_0 : Hid (Str W0 (w.heap.size) #[.int .i64 0, .slice none 0 0, .int .i64 0, .int .i64 0, .int .i64 0]) := Lib.hid (by rw [← hW0]; have := Str.new (w) #[.int .i64 0, .slice none 0 0, .int .i64 0, .int .i64 0, .int .i64 0] 25; simpa using this)
    have HB_0 : Hid (Below w.heap.size w W0) := Lib.hid (by rw [← hW0]; exact balloc (bsame w) _)
    have hw_0 := HB_0.out.size
    clear hW0
    obtain ⟨f0_0_0, f0_0_1, f0_0_2, f0_0_3, f0_0_4⟩ := str5 HS0_0.out
    have hl0_0 := HS0_0.out.lt
    have hf0_0 := fun j => HS0_0.out.frozen j
    refine (NumW.at_any A n c B 0 1 l _ (H.out.below (HB_0.out.mono hB)) (by omega) (by omega) (by omega)).mono ?_
    rintro e W0_ ⟨rfl, rfl⟩
    rw [HT.out, HK.out]
    go_wp2_with fail
    refine (NumW.at_any A n c B 1 1 l _ (H.out.below (HB_0.out.mono hB)) (by omega) (by omega) (by omega)).mono ?_
    rintro e W0_ ⟨rfl, rfl⟩
    rw [HT2.out, HV2.out]
    go_wp2_with fail
    generalize hW1 : (((((W0).setCell ⟨w.heap.size, 0, none⟩ (.int .i64 0)).setCell ⟨w.heap.size, 1, none⟩ (.slice none 0 0)).setCell ⟨w.heap.size, 2, none⟩ (.int .i64 0)).setCell ⟨w.heap.size, 3, none⟩ (.int .i64 0)).setCell ⟨w.heap.size, 4, none⟩ (.int .i64 0) = W1
    have HS0_1 : Hid (Str W1 (w.heap.size) #[.int .i64 0, .slice none 0 0, .int .i64 0, .int .i64 0, .int .i64 0]) := Lib.hid (by rw [← hW1]; have := (((((HS0_0.out).set 0 (.int .i64 0)).set 1 (.slice none 0 0)).set 2 (.int .i64 0)).set 3 (.int .i64 0)).set 4 (.int .i64 0); simpa using this)
    have hgr1 : W0.grownBy W1 (some (w.heap.size)) := by rw [← hW1]; exact grown_set (grown_set (grown_set (grown_set (grown_set (grown_refl W0 (w.heap.size)) 0 (.int .i64 0)) 1 (.slice none 0 0)) 2 (.int .i64 0)) 3 (.int .i64 0)) 4 (.int .i64 0)
    have HB_1 := Lib.hid (below_grown HB_0.out hgr1 (by omega))
    have hw_1 := HB_1.out.size
    have hws_1 := hgr1.size
    clear hW1
    clear f0_0_0 f0_0_1 f0_0_2 f0_0_3 f0_0_4 HS0_0 hf0_0
    clear hgr1
    obtain ⟨f0_1_0, f0_1_1, f0_1_2, f0_1_3, f0_1_4⟩ := str5 HS0_1.out
    have hl0_1 := HS0_1.out.lt
    have hf0_1 := fun j => HS0_1.out.frozen j
    refine bodyPost_ret (v := .tuple #[.agg #[.int .i64 0, .slice none 0 0, .int .i64 0, .int .i64 0, .int .i64 0], .int .i64 0, .int .i64 12]) ?_ rfl ?_
    · simp [results, Try.results122, go_sem, *]
    · rw [HG.out]
      exact got_none _ _ _ HB_1.out
  · have HG := HGY h32
    clear HGF HGY
    have hcut := H.out.cut 2 (2 + m) c (by omega) (by omega) (by omega) (Nat.le_refl _)
    rw [show 2 + m - 2 = m by omega] at hcut
    have HCUT := Lib.hid hcut
    clear hcut
    clear hl
    go_enter Try.func122, Try.ntmps122
    go_wp2_with fail
    generalize hW0 : (w).alloc (.cells #[.int .i64 0, .slice none 0 0, .int .i64 0, .int .i64 0, .int .i64 0] 25) = W0
    have HS0_0 : Hid (Str W0 (w.heap.size) #[.int .i64 0, .slice none 0 0, .int .i64 0, .int .i64 0, .int .i64 0]) := Lib.hid (by rw [← hW0]; have := Str.new (w) #[.int .i64 0, .slice none 0 0, .int .i64 0, .int .i64 0, .int .i64 0] 25; simpa using this)
    have HB_0 : Hid (Below w.heap.size w W0) := Lib.hid (by rw [← hW0]; exact balloc (bsame w) _)
    have hw_0 := HB_0.out.size
    clear hW0
    obtain ⟨f0_0_0, f0_0_1, f0_0_2, f0_0_3, f0_0_4⟩ := str5 HS0_0.out
    have hl0_0 := HS0_0.out.lt
    have hf0_0 := fun j => HS0_0.out.frozen j
    refine (NumW.at_any A n c B 0 1 l _ (H.out.below (HB_0.out.mono hB)) (by omega) (by omega) (by omega)).mono ?_
    rintro e W0_ ⟨rfl, rfl⟩
    rw [HT.out, HK.out]
    go_wp2_with fail
    refine (NumW.at_any A n c B 1 1 l _ (H.out.below (HB_0.out.mono hB)) (by omega) (by omega) (by omega)).mono ?_
    rintro e W0_ ⟨rfl, rfl⟩
    rw [HT2.out, HV2.out]
    go_wp2_with fail
    generalize hW1 : (((((W0).setCell ⟨w.heap.size, 0, none⟩ (.int .i64 1)).setCell ⟨w.heap.size, 1, none⟩ (.slice (cutA A 2 c 1) m (c - 2))).setCell ⟨w.heap.size, 2, none⟩ (.int .i64 0)).setCell ⟨w.heap.size, 3, none⟩ (.int .i64 0)).setCell ⟨w.heap.size, 4, none⟩ (.int .i64 0) = W1
    have HS0_1 : Hid (Str W1 (w.heap.size) #[.int .i64 1, .slice (cutA A 2 c 1) m (c - 2), .int .i64 0, .int .i64 0, .int .i64 0]) := Lib.hid (by rw [← hW1]; have := (((((HS0_0.out).set 0 (.int .i64 1)).set 1 (.slice (cutA A 2 c 1) m (c - 2))).set 2 (.int .i64 0)).set 3 (.int .i64 0)).set 4 (.int .i64 0); simpa using this)
    have hgr1 : W0.grownBy W1 (some (w.heap.size)) := by rw [← hW1]; exact grown_set (grown_set (grown_set (grown_set (grown_set (grown_refl W0 (w.heap.size)) 0 (.int .i64 1)) 1 (.slice (cutA A 2 c 1) m (c - 2))) 2 (.int .i64 0)) 3 (.int .i64 0)) 4 (.int .i64 0)
    have HB_1 := Lib.hid (below_grown HB_0.out hgr1 (by omega))
    have hw_1 := HB_1.out.size
    have hws_1 := hgr1.size
    clear hW1
    clear f0_0_0 f0_0_1 f0_0_2 f0_0_3 f0_0_4 HS0_0 hf0_0
    clear hgr1
    obtain ⟨f0_1_0, f0_1_1, f0_1_2, f0_1_3, f0_1_4⟩ := str5 HS0_1.out
    have hl0_1 := HS0_1.out.lt
    have hf0_1 := fun j => HS0_1.out.frozen j
    refine bodyPost_ret (v := .tuple #[.agg #[.int .i64 1, .slice (cutA A 2 c 1) m (c - 2), .int .i64 0, .int .i64 0, .int .i64 0], .int .i64 (2 + (m : Int)), .int .i64 0]) ?_ rfl ?_
    · simp [results, Try.results122, go_sem, *]
    · rw [HG.out]
      exact ⟨_, _, _, rfl, (HCUT.out.below (HB_1.out.mono hB)).more (by omega), HB_1.out⟩
end Go.Proofs.Ytcagflakmokoiaa.RefCellGet
namespace Go.Proofs.Ytcagflakmokoiaa.RefSlotGet
open Go.RowKit
attribute [local go_sem ↓] app_fold cut_fold

theorem bytes_none : SlotP.bytes SlotP.none = SlotP.zeros 64 := rfl
theorem bad_zero (l : List UInt8) (h : l ≠ SlotP.zeros 64) (h0 : (l.getD 0 0).toNat = 0) : SlotP.good l = false := by
  have hb : SlotP.bytes (SlotP.seem l) = SlotP.zeros 64 := by
    unfold SlotP.bytes
    rw [if_neg]
    intro hh
    exact hh.1 (by unfold SlotP.seem; rw [h0]; rfl)
  unfold SlotP.good
  rw [hb]
  have : (SlotP.zeros 64 == l) = false := by simpa using fun e => h e.symm
  rw [this]
  simp
theorem val0 (l : List UInt8) (h : l.length = 64) : NumP.val l 0 1 = ((l.getD 0 0).toNat : Int) := by
  match l, h with
  | a :: r, _ => exact NumP.val_one [] r a
theorem val1 (l : List UInt8) (h : l.length = 64) : NumP.val l 1 1 = ((l.getD 1 0).toNat : Int) := by
  match l, h with
  | a :: b :: r, _ => exact NumP.val_one [a] r b

set_option maxRecDepth 100000 in
set_option maxHeartbeats 2000000 in
theorem get_any (A : Option Addr) (c B : Nat) (l : List UInt8) (w : World) (h : Bytes w B A 64 c l) (hB : B ≤ w.heap.size) :
    Calls Try.prog 84 #[.slice A 64 c] w (SlotGet.GotItem w (SlotP.get l)) := by
  have hcm := h.2.2.1
  have hnc := h.2.1
  unfold maxLen at hcm
  have hl := h.len
  have H := Lib.hid h
  have HL := Lib.hid hl
  have HV0 := Lib.hid (val0 l hl)
  have HV1 := Lib.hid (val1 l hl)
  have HT0 := Lib.hid (NumW.there_yes l 0 1 (by omega))
  have HT1 := Lib.hid (NumW.there_yes l 1 1 (by omega))
  obtain ⟨z, hz⟩ : ∃ z, (l.getD 0 0).toNat = z := ⟨_, rfl⟩
  obtain ⟨m, hm⟩ : ∃ m, (l.getD 1 0).toNat = m := ⟨_, rfl⟩
  have hz8 : z < 256 := by rw [← hz]; exact (l.getD 0 0).toNat_lt
  have hm8 : m < 256 := by rw [← hm]; exact (l.getD 1 0).toNat_lt
  rw [hz] at HV0
  rw [hm] at HV1
  have HZ := Lib.hid hz
  have HM := Lib.hid hm
  clear h hl hz hm
  by_cases h0 : z = 0
  · subst h0
    cases hq : (l == SlotP.zeros 64)
    · have HQ := Lib.hid hq
      have hne : l ≠ SlotP.zeros 64 := by simpa using hq
      have HG := Lib.hid (SlotGet.get_big l hne (bad_zero l hne HZ.out))
      clear hne
      clear hq
      go_enter Try.func84, Try.ntmps84
      go_wp2_with fail
      generalize hW0 : (w).alloc (.cells #[.int .i64 0, .string ⟨#[]⟩, .int .i64 0, .slice none 0 0, .int .i64 0, .int .i64 0, .int .i64 0] 27) = W0
      have HS0_0 : Hid (Str W0 (w.heap.size) #[.int .i64 0, .string ⟨#[]⟩, .int .i64 0, .slice none 0 0, .int .i64 0, .int .i64 0, .int .i64 0]) := Lib.hid (by rw [← hW0]; have := Str.new (w) #[.int .i64 0, .string ⟨#[]⟩, .int .i64 0, .slice none 0 0, .int .i64 0, .int .i64 0, .int .i64 0] 27; simpa using this)
      have HB_0 : Hid (Below w.heap.size w W0) := Lib.hid (by rw [← hW0]; exact balloc (bsame w) _)
      have hw_0 := HB_0.out.size
      clear hW0
      obtain ⟨f0_0_0, f0_0_1, f0_0_2, f0_0_3, f0_0_4, f0_0_5, f0_0_6⟩ := str7 HS0_0.out
      have hl0_0 := HS0_0.out.lt
      have hf0_0 := fun j => HS0_0.out.frozen j
      refine (NumW.at_any A 64 c B 0 1 l _ (H.out.below (HB_0.out.mono hB)) (by omega) (by omega) (by omega)).mono ?_
      rintro e W0_ ⟨rfl, rfl⟩
      rw [HT0.out, HV0.out]
      go_wp2_with fail
      refine (NumW.at_any A 64 c B 1 1 l _ (H.out.below (HB_0.out.mono hB)) (by omega) (by omega) (by omega)).mono ?_
      rintro e W0_ ⟨rfl, rfl⟩
      rw [HT1.out, HV1.out]
      go_wp2_with fail
      refine (RefSlotBytes.bytes_any none 0 0 0 SlotP.none _ (Bytes.none_ _ _) (Nat.zero_le _) (by decide)).mono ?_
      rintro e W1 ⟨A1, n1, c1, rfl, hy1, hb1⟩
      rw [bytes_none] at hy1
      have HY1 := Lib.hid hy1
      clear hy1
      have HS0_1 := Lib.hid (HS0_0.out.next hb1)
      have HB_1 := Lib.hid (bstep HB_0.out hb1)
      have hw_1 := HB_1.out.size
      have hws_1 := (hb1).size
      clear f0_0_0 f0_0_1 f0_0_2 f0_0_3 f0_0_4 f0_0_5 f0_0_6 HS0_0 hf0_0
      clear hb1
      obtain ⟨f0_1_0, f0_1_1, f0_1_2, f0_1_3, f0_1_4, f0_1_5, f0_1_6⟩ := str7 HS0_1.out
      have hl0_1 := HS0_1.out.lt
      have hf0_1 := fun j => HS0_1.out.frozen j
      go_wp2_with fail
      refine (Same.same_any A A1 64 c n1 c1 B _ l _ _ (H.out.below (HB_1.out.mono hB)) HY1.out).mono ?_
      rintro e W1_ ⟨rfl, rfl⟩
      rw [HQ.out]
      go_wp2_with fail
      generalize hW2 : (((((((W1).setCell ⟨w.heap.size, 0, none⟩ (.int .i64 0)).setCell ⟨w.heap.size, 1, none⟩ (.string ⟨#[]⟩)).setCell ⟨w.heap.size, 2, none⟩ (.int .i64 0)).setCell ⟨w.heap.size, 3, none⟩ (.slice none 0 0)).setCell ⟨w.heap.size, 4, none⟩ (.int .i64 0)).setCell ⟨w.heap.size, 5, none⟩ (.int .i64 0)).setCell ⟨w.heap.size, 6, none⟩ (.int .i64 0) = W2
      have HS0_2 : Hid (Str W2 (w.heap.size) #[.int .i64 0, .string ⟨#[]⟩, .int .i64 0, .slice none 0 0, .int .i64 0, .int .i64 0, .int .i64 0]) := Lib.hid (by rw [← hW2]; have := (((((((HS0_1.out).set 0 (.int .i64 0)).set 1 (.string ⟨#[]⟩)).set 2 (.int .i64 0)).set 3 (.slice none 0 0)).set 4 (.int .i64 0)).set 5 (.int .i64 0)).set 6 (.int .i64 0); simpa using this)
      have hgr2 : W1.grownBy W2 (some (w.heap.size)) := by rw [← hW2]; exact grown_set (grown_set (grown_set (grown_set (grown_set (grown_set (grown_set (grown_refl W1 (w.heap.size)) 0 (.int .i64 0)) 1 (.string ⟨#[]⟩)) 2 (.int .i64 0)) 3 (.slice none 0 0)) 4 (.int .i64 0)) 5 (.int .i64 0)) 6 (.int .i64 0)
      have HB_2 := Lib.hid (below_grown HB_1.out hgr2 (by omega))
      have hw_2 := HB_2.out.size
      have hws_2 := hgr2.size
      clear hW2
      clear f0_1_0 f0_1_1 f0_1_2 f0_1_3 f0_1_4 f0_1_5 f0_1_6 HS0_1 hf0_1
      clear hgr2
      obtain ⟨f0_2_0, f0_2_1, f0_2_2, f0_2_3, f0_2_4, f0_2_5, f0_2_6⟩ := str7 HS0_2.out
      have hl0_2 := HS0_2.out.lt
      have hf0_2 := fun j => HS0_2.out.frozen j
      refine bodyPost_ret (v := .tuple #[.agg #[.int .i64 0, .string ⟨#[]⟩, .int .i64 0, .slice none 0 0, .int .i64 0, .int .i64 0, .int .i64 0], .int .i64 12]) ?_ rfl ?_
      · simp [results, Try.results84, go_sem, *]
      · rw [HG.out]
        exact SlotGet.got_none _ _ _ HB_2.out
    · have HQ := Lib.hid hq
      have HG : Hid (SlotP.get l = (SlotP.none, 0)) := Lib.hid (by rw [show l = SlotP.zeros 64 by simpa using hq]; exact SlotP.get_zeros)
      clear hq
      go_enter Try.func84, Try.ntmps84
      go_wp2_with fail
      generalize hW0 : (w).alloc (.cells #[.int .i64 0, .string ⟨#[]⟩, .int .i64 0, .slice none 0 0, .int .i64 0, .int .i64 0, .int .i64 0] 27) = W0
      have HS0_0 : Hid (Str W0 (w.heap.size) #[.int .i64 0, .string ⟨#[]⟩, .int .i64 0, .slice none 0 0, .int .i64 0, .int .i64 0, .int .i64 0]) := Lib.hid (by rw [← hW0]; have := Str.new (w) #[.int .i64 0, .string ⟨#[]⟩, .int .i64 0, .slice none 0 0, .int .i64 0, .int .i64 0, .int .i64 0] 27; simpa using this)
      have HB_0 : Hid (Below w.heap.size w W0) := Lib.hid (by rw [← hW0]; exact balloc (bsame w) _)
      have hw_0 := HB_0.out.size
      clear hW0
      obtain ⟨f0_0_0, f0_0_1, f0_0_2, f0_0_3, f0_0_4, f0_0_5, f0_0_6⟩ := str7 HS0_0.out
      have hl0_0 := HS0_0.out.lt
      have hf0_0 := fun j => HS0_0.out.frozen j
      refine (NumW.at_any A 64 c B 0 1 l _ (H.out.below (HB_0.out.mono hB)) (by omega) (by omega) (by omega)).mono ?_
      rintro e W0_ ⟨rfl, rfl⟩
      rw [HT0.out, HV0.out]
      go_wp2_with fail
      refine (NumW.at_any A 64 c B 1 1 l _ (H.out.below (HB_0.out.mono hB)) (by omega) (by omega) (by omega)).mono ?_
      rintro e W0_ ⟨rfl, rfl⟩
      rw [HT1.out, HV1.out]
      go_wp2_with fail
      refine (RefSlotBytes.bytes_any none 0 0 0 SlotP.none _ (Bytes.none_ _ _) (Nat.zero_le _) (by decide)).mono ?_
      rintro e W1 ⟨A1, n1, c1, rfl, hy1, hb1⟩
      rw [bytes_none] at hy1
      have HY1 := Lib.hid hy1
      clear hy1
      have HS0_1 := Lib.hid (HS0_0.out.next hb1)
      have HB_1 := Lib.hid (bstep HB_0.out hb1)
      have hw_1 := HB_1.out.size
      have hws_1 := (hb1).size
      clear f0_0_0 f0_0_1 f0_0_2 f0_0_3 f0_0_4 f0_0_5 f0_0_6 HS0_0 hf0_0
      clear hb1
      obtain ⟨f0_1_0, f0_1_1, f0_1_2, f0_1_3, f0_1_4, f0_1_5, f0_1_6⟩ := str7 HS0_1.out
      have hl0_1 := HS0_1.out.lt
      have hf0_1 := fun j => HS0_1.out.frozen j
      go_wp2_with fail
      refine (Same.same_any A A1 64 c n1 c1 B _ l _ _ (H.out.below (HB_1.out.mono hB)) HY1.out).mono ?_
      rintro e W1_ ⟨rfl, rfl⟩
      rw [HQ.out]
      go_wp2_with fail
      generalize hW2 : (((((((W1).setCell ⟨w.heap.size, 0, none⟩ (.int .i64 0)).setCell ⟨w.heap.size, 1, none⟩ (.string ⟨#[]⟩)).setCell ⟨w.heap.size, 2, none⟩ (.int .i64 0)).setCell ⟨w.heap.size, 3, none⟩ (.slice none 0 0)).setCell ⟨w.heap.size, 4, none⟩ (.int .i64 0)).setCell ⟨w.heap.size, 5, none⟩ (.int .i64 0)).setCell ⟨w.heap.size, 6, none⟩ (.int .i64 0) = W2
      have HS0_2 : Hid (Str W2 (w.heap.size) #[.int .i64 0, .string ⟨#[]⟩, .int .i64 0, .slice none 0 0, .int .i64 0, .int .i64 0, .int .i64 0]) := Lib.hid (by rw [← hW2]; have := (((((((HS0_1.out).set 0 (.int .i64 0)).set 1 (.string ⟨#[]⟩)).set 2 (.int .i64 0)).set 3 (.slice none 0 0)).set 4 (.int .i64 0)).set 5 (.int .i64 0)).set 6 (.int .i64 0); simpa using this)
      have hgr2 : W1.grownBy W2 (some (w.heap.size)) := by rw [← hW2]; exact grown_set (grown_set (grown_set (grown_set (grown_set (grown_set (grown_set (grown_refl W1 (w.heap.size)) 0 (.int .i64 0)) 1 (.string ⟨#[]⟩)) 2 (.int .i64 0)) 3 (.slice none 0 0)) 4 (.int .i64 0)) 5 (.int .i64 0)) 6 (.int .i64 0)
      have HB_2 := Lib.hid (below_grown HB_1.out hgr2 (by omega))
      have hw_2 := HB_2.out.size
      have hws_2 := hgr2.size
      clear hW2
      clear f0_1_0 f0_1_1 f0_1_2 f0_1_3 f0_1_4 f0_1_5 f0_1_6 HS0_1 hf0_1
      clear hgr2
      obtain ⟨f0_2_0, f0_2_1, f0_2_2, f0_2_3, f0_2_4, f0_2_5, f0_2_6⟩ := str7 HS0_2.out
      have hl0_2 := HS0_2.out.lt
      have hf0_2 := fun j => HS0_2.out.frozen j
      refine bodyPost_ret (v := .tuple #[.agg #[.int .i64 0, .string ⟨#[]⟩, .int .i64 0, .slice none 0 0, .int .i64 0, .int .i64 0, .int .i64 0], .int .i64 0]) ?_ rfl ?_
      · simp [results, Try.results84, go_sem, *]
      · rw [HG.out]
        exact SlotGet.got_none _ _ _ HB_2.out
  have hzb : ((z : Int) == 0) = false := by simpa using h0
  have HNZ : Hid (l ≠ SlotP.zeros 64) := Lib.hid (by rintro rfl; exact h0 (by rw [← HZ.out]; rfl))
  by_cases hm16 : 16 < m
  · have HG := Lib.hid (SlotGet.get_big l HNZ.out (by unfold SlotP.good; rw [HM.out, decide_eq_false (by omega)]; rfl))
    clear h0
    go_enter Try.func84, Try.ntmps84
    go_wp2_with fail
    generalize hW0 : (w).alloc (.cells #[.int .i64 0, .string ⟨#[]⟩, .int .i64 0, .slice none 0 0, .int .i64 0, .int .i64 0, .int .i64 0] 27) = W0
    have HS0_0 : Hid (Str W0 (w.heap.size) #[.int .i64 0, .string ⟨#[]⟩, .int .i64 0, .slice none 0 0, .int .i64 0, .int .i64 0, .int .i64 0]) := Lib.hid (by rw [← hW0]; have := Str.new (w) #[.int .i64 0, .string ⟨#[]⟩, .int .i64 0, .slice none 0 0, .int .i64 0, .int .i64 0, .int .i64 0] 27; simpa using this)
    have HB_0 : Hid (Below w.heap.size w W0) := Lib.hid (by rw [← hW0]; exact balloc (bsame w) _)
    have hw_0 := HB_0.out.size
    clear hW0
    obtain ⟨f0_0_0, f0_0_1, f0_0_2, f0_0_3, f0_0_4, f0_0_5, f0_0_6⟩ := str7 HS0_0.out
    have hl0_0 := HS0_0.out.lt
    have hf0_0 := fun j => HS0_0.out.frozen j
    refine (NumW.at_any A 64 c B 0 1 l _ (H.out.below (HB_0.out.mono hB)) (by omega) (by omega) (by omega)).mono ?_
    rintro e W0_ ⟨rfl, rfl⟩
    rw [HT0.out, HV0.out]
    go_wp2_with fail
    refine (NumW.at_any A 64 c B 1 1 l _ (H.out.below (HB_0.out.mono hB)) (by omega) (by omega) (by omega)).mono ?_
    rintro e W0_ ⟨rfl, rfl⟩
    rw [HT1.out, HV1.out]
    go_wp2_with fail
    generalize hW1 : (((((((W0).setCell ⟨w.heap.size, 0, none⟩ (.int .i64 0)).setCell ⟨w.heap.size, 1, none⟩ (.string ⟨#[]⟩)).setCell ⟨w.heap.size, 2, none⟩ (.int .i64 0)).setCell ⟨w.heap.size, 3, none⟩ (.slice none 0 0)).setCell ⟨w.heap.size, 4, none⟩ (.int .i64 0)).setCell ⟨w.heap.size, 5, none⟩ (.int .i64 0)).setCell ⟨w.heap.size, 6, none⟩ (.int .i64 0) = W1
    have HS0_1 : Hid (Str W1 (w.heap.size) #[.int .i64 0, .string ⟨#[]⟩, .int .i64 0, .slice none 0 0, .int .i64 0, .int .i64 0, .int .i64 0]) := Lib.hid (by rw [← hW1]; have := (((((((HS0_0.out).set 0 (.int .i64 0)).set 1 (.string ⟨#[]⟩)).set 2 (.int .i64 0)).set 3 (.slice none 0 0)).set 4 (.int .i64 0)).set 5 (.int .i64 0)).set 6 (.int .i64 0); simpa using this)
    have hgr1 : W0.grownBy W1 (some (w.heap.size)) := by rw [← hW1]; exact grown_set (grown_set (grown_set (grown_set (grown_set (grown_set (grown_set (grown_refl W0 (w.heap.size)) 0 (.int .i64 0)) 1 (.string ⟨#[]⟩)) 2 (.int .i64 0)) 3 (.slice none 0 0)) 4 (.int .i64 0)) 5 (.int .i64 0)) 6 (.int .i64 0)
    have HB_1 := Lib.hid (below_grown HB_0.out hgr1 (by omega))
    have hw_1 := HB_1.out.size
    have hws_1 := hgr1.size
    clear hW1
    clear f0_0_0 f0_0_1 f0_0_2 f0_0_3 f0_0_4 f0_0_5 f0_0_6 HS0_0 hf0_0
    clear hgr1
    obtain ⟨f0_1_0, f0_1_1, f0_1_2, f0_1_3, f0_1_4, f0_1_5, f0_1_6⟩ := str7 HS0_1.out
    have hl0_1 := HS0_1.out.lt
    have hf0_1 := fun j => HS0_1.out.frozen j
    refine bodyPost_ret (v := .tuple #[.agg #[.int .i64 0, .string ⟨#[]⟩, .int .i64 0, .slice none 0 0, .int .i64 0, .int .i64 0, .int .i64 0], .int .i64 12]) ?_ rfl ?_
    · simp [results, Try.results84, go_sem, *]
    · rw [HG.out]
      exact SlotGet.got_none _ _ _ HB_1.out
  clear h0
  have hcut := H.out.cut (2 + m) 64 c (by omega) (Nat.le_refl _) (by omega) (Nat.le_refl _)
  rw [List.take_of_length_le (by rw [List.length_drop, HL.out]; omega)] at hcut
  have hkey := H.out.cut 2 (2 + m) c (by omega) (by omega) (by omega) (Nat.le_refl _)
  rw [show 2 + m - 2 = m by omega] at hkey
  have HCUT := Lib.hid hcut
  have HKEY := Lib.hid hkey
  clear hcut hkey
  go_enter Try.func84, Try.ntmps84
  go_wp2_with fail
  generalize hW0 : (w).alloc (.cells #[.int .i64 0, .string ⟨#[]⟩, .int .i64 0, .slice none 0 0, .int .i64 0, .int .i64 0, .int .i64 0] 27) = W0
  have HS0_0 : Hid (Str W0 (w.heap.size) #[.int .i64 0, .string ⟨#[]⟩, .int .i64 0, .slice none 0 0, .int .i64 0, .int .i64 0, .int .i64 0]) := Lib.hid (by rw [← hW0]; have := Str.new (w) #[.int .i64 0, .string ⟨#[]⟩, .int .i64 0, .slice none 0 0, .int .i64 0, .int .i64 0, .int .i64 0] 27; simpa using this)
  have HB_0 : Hid (Below w.heap.size w W0) := Lib.hid (by rw [← hW0]; exact balloc (bsame w) _)
  have hw_0 := HB_0.out.size
  clear hW0
  obtain ⟨f0_0_0, f0_0_1, f0_0_2, f0_0_3, f0_0_4, f0_0_5, f0_0_6⟩ := str7 HS0_0.out
  have hl0_0 := HS0_0.out.lt
  have hf0_0 := fun j => HS0_0.out.frozen j
  refine (NumW.at_any A 64 c B 0 1 l _ (H.out.below (HB_0.out.mono hB)) (by omega) (by omega) (by omega)).mono ?_
  rintro e W0_ ⟨rfl, rfl⟩
  rw [HT0.out, HV0.out]
  go_wp2_with fail
  refine (NumW.at_any A 64 c B 1 1 l _ (H.out.below (HB_0.out.mono hB)) (by omega) (by omega) (by omega)).mono ?_
  rintro e W0_ ⟨rfl, rfl⟩
  rw [HT1.out, HV1.out]
  go_wp2_with fail
  refine (RefCellGet.get_any _ _ _ B _ _ (HCUT.out.below (HB_0.out.mono hB)) (by omega)).mono ?_
  rintro e W1 ⟨A1, n1, c1, rfl, hy1, hb1⟩
  generalize hcg : CellP.get (l.drop (2 + m)) = r at *
  obtain ⟨⟨ck, cd, clo, chi, cv⟩, cn, ce⟩ := r
  have HCG := Lib.hid hcg
  clear hcg
  dsimp only at *
  have HY1 := Lib.hid hy1
  clear hy1
  have HS0_1 := Lib.hid (HS0_0.out.next hb1)
  have HB_1 := Lib.hid (bstep HB_0.out hb1)
  have hw_1 := HB_1.out.size
  have hws_1 := (hb1).size
  clear f0_0_0 f0_0_1 f0_0_2 f0_0_3 f0_0_4 f0_0_5 f0_0_6 HS0_0 hf0_0
  clear hb1
  obtain ⟨f0_1_0, f0_1_1, f0_1_2, f0_1_3, f0_1_4, f0_1_5, f0_1_6⟩ := str7 HS0_1.out
  have hl0_1 := HS0_1.out.lt
  have hf0_1 := fun j => HS0_1.out.frozen j
  go_wp2_with fail
  generalize hW2 : W1.alloc (.cells #[.int .i64 ck, .slice A1 n1 c1, .int .i64 clo, .int .i64 chi, .int .i64 cv] 25) = W2
  have HS0_2 : Hid (Str W2 (w.heap.size) #[.int .i64 0, .string ⟨#[]⟩, .int .i64 0, .slice none 0 0, .int .i64 0, .int .i64 0, .int .i64 0]) := Lib.hid (by rw [← hW2]; exact HS0_1.out.alloc _)
  have HS1_2 : Hid (Str W2 W1.heap.size #[.int .i64 ck, .slice A1 n1 c1, .int .i64 clo, .int .i64 chi, .int .i64 cv]) := Lib.hid (by rw [← hW2]; exact Str.new W1 #[.int .i64 ck, .slice A1 n1 c1, .int .i64 clo, .int .i64 chi, .int .i64 cv] 25)
  have hba2 : Below W1.heap.size W1 W2 := by rw [← hW2]; exact balloc (bsame _) _
  have HB_2 := Lib.hid (bstep HB_1.out hba2)
  have hw_2 := HB_2.out.size
  have hws_2 := hba2.size
  clear hW2
  clear f0_1_0 f0_1_1 f0_1_2 f0_1_3 f0_1_4 f0_1_5 f0_1_6 HS0_1 hf0_1
  obtain ⟨f0_2_0, f0_2_1, f0_2_2, f0_2_3, f0_2_4, f0_2_5, f0_2_6⟩ := str7 HS0_2.out
  have hl0_2 := HS0_2.out.lt
  have hf0_2 := fun j => HS0_2.out.frozen j
  obtain ⟨f1_2_0, f1_2_1, f1_2_2, f1_2_3, f1_2_4⟩ := str5 HS1_2.out
  have hl1_2 := HS1_2.out.lt
  have HY2 := Lib.hid (HY1.out.next hba2)
  clear hba2
  have HSEEM : Hid (SlotP.seem l = ⟨(z : Int), (SlotP.text ((l.drop 2).take m)), ⟨ck, cd, clo, chi, cv⟩⟩) := Lib.hid (by unfold SlotP.seem; rw [HM.out, HCG.out, HZ.out])
  have hks : ((SlotP.text ((l.drop 2).take m))).size = m := by show ((l.drop 2).take m).toArray.size = m; simp [HL.out]; omega
  have HKS : Hid (((SlotP.text ((l.drop 2).take m))).size ≤ maxLen) := Lib.hid (by rw [hks]; unfold maxLen; omega)
  clear hks
  refine Reg.wp_region_tail (R := ext) (W := W2) [Reg.eqv (.int .i64 (z : Int)), Reg.eqv (.slice A 64 c), Reg.eqv (.int .i64 (m : Int)), Reg.eqv (.int .i64 (2 + (m : Int))), Reg.eqv (.slice (cutA A 2 c 1) m (c - 2)), Reg.eqv (.string (SlotP.text ((l.drop 2).take m))), Reg.eqv (.agg #[.int .i64 ck, .slice A1 n1 c1, .int .i64 clo, .int .i64 chi, .int .i64 cv]), Reg.eqv (.agg #[.int .i64 (z : Int), .string (SlotP.text ((l.drop 2).take m)), .int .i64 ck, .slice A1 n1 c1, .int .i64 clo, .int .i64 chi, .int .i64 cv]), Reg.fresh W2.heap.size #[.int .i64 0, .string ⟨#[]⟩, .int .i64 0, .slice none 0 0, .int .i64 0, .int .i64 0, .int .i64 0]] 66 9 _ [[(4, none)], [(0, none)], [(6, none)], [(44, some 2)], [(43, some 1), (45, some 3)], [(46, some 4)], [(8, none)], [(42, some 0), (47, some 5), (48, some 6)], []] rfl (by kernel_rfl) (by kernel_rfl) (by rfl) (by rfl) rfl (by kernel_rfl) ?_ [some 42, some 43, some 44, some 45, some 46, some 47, some 48, some 49, some 11] (by kernel_rfl) ?_
  · refine ⟨?_, ?_, ?_, ?_, ?_, ?_, ?_, ?_, ?_, trivial⟩
    · intro ax wx hx hs
      obtain ⟨e4, -⟩ := hs
      have g4 := Reg.ev (v := .int .i64 (z : Int)) e4
      exact Reg.obl_free rfl (Reg.wp_eqv (Option.some_ne_none _) (by go_simp) rfl)
    · intro ax wx hx hs
      obtain ⟨e0, -⟩ := hs
      have g0 := Reg.ev (v := .slice A 64 c) e0
      exact Reg.obl_free rfl (Reg.wp_eqv (Option.some_ne_none _) (by go_simp) rfl)
    · intro ax wx hx hs
      obtain ⟨e6, -⟩ := hs
      have g6 := Reg.ev (v := .int .i64 (m : Int)) e6
      exact Reg.obl_free rfl (Reg.wp_eqv (Option.some_ne_none _) (by go_simp) rfl)
    · intro ax wx hx hs
      obtain ⟨e44, -⟩ := hs
      have g44 := Reg.ev (v := .int .i64 (m : Int)) e44
      refine Reg.obl_free rfl ?_
      exact Reg.wp_eqv (Option.some_ne_none _) (by go_simp; exact IntWalk.i64_in _ (by omega)) rfl
    · intro ax wx hx hs
      obtain ⟨e43, e45, -⟩ := hs
      have g43 := Reg.ev (v := .slice A 64 c) e43
      have g45 := Reg.ev (v := .int .i64 (2 + (m : Int))) e45
      refine Reg.obl_free rfl ?_
      have hb2 : (0 : Int) ≤ 2 + (m : Int) := by omega
      have hb3 : (2 + (m : Int)).toNat = 2 + m := by omega
      have hb4 : 2 + (m : Int) ≤ (c : Int) := by omega
      have hb5 : (2 : Int) ≤ 2 + (m : Int) := by omega
      exact Reg.wp_eqv (Option.some_ne_none _) (by go_simp) rfl
    · intro ax wx hx hs
      obtain ⟨e46, -⟩ := hs
      have g46 := Reg.ev (v := .slice (cutA A 2 c 1) m (c - 2)) e46
      refine Reg.obl_free rfl ?_
      have hx' : Below W2.heap.size W2 wx := hx
      have hcv := run_str (P := Try.prog) 22 9 5 Try.underlying22 Try.underlying5 Try.underlying9 (HKEY.out.below ((bstep HB_2.out hx').mono hB))
      exact Reg.wp_eqv (Option.some_ne_none _) (by go_simp; rfl) rfl
    · intro ax wx hx hs
      obtain ⟨e8, -⟩ := hs
      have g8 := Reg.ev (v := .pointer (some ⟨W1.heap.size, 0, none⟩)) e8
      obtain ⟨hc, -⟩ := bcell hx
      exact Reg.obl_free rfl (Reg.wp_eqv (Option.some_ne_none _) (by go_simp) rfl)
    · intro ax wx hx hs
      obtain ⟨e42, e47, e48, -⟩ := hs
      have g42 := Reg.ev (v := .int .i64 (z : Int)) e42
      have g47 := Reg.ev (v := .string (SlotP.text ((l.drop 2).take m))) e47
      have g48 := Reg.ev (v := .agg #[.int .i64 ck, .slice A1 n1 c1, .int .i64 clo, .int .i64 chi, .int .i64 cv]) e48
      exact Reg.obl_free rfl (Reg.wp_eqv (Option.some_ne_none _) (by go_simp) rfl)
    · intro ax wx hx hs
      refine Reg.obl_free rfl ?_
      have hx' : Below W2.heap.size W2 wx := hx
      go_simp
      exact Reg.done (Option.some_ne_none _) ⟨wx.heap.size, rfl, hx'.size, Str.new wx _ _⟩ (balloc (bsame wx) _)
  · intro W3 hwf
    simp only [Reg.Fin]
    rintro _ rfl _ rfl _ rfl _ rfl _ rfl _ rfl _ rfl _ rfl v11 h11
    obtain ⟨g, rfl, hg, hSg⟩ := h11
    have hwf' : Below W2.heap.size W2 W3 := hwf
    have HS2_3 := Lib.hid hSg
    clear hSg
    have HY3 := Lib.hid (HY2.out.next hwf')
    have HS0_3 := Lib.hid (HS0_2.out.next hwf')
    have HS1_3 := Lib.hid (HS1_2.out.next hwf')
    have HB_3 := Lib.hid (bstep HB_2.out hwf')
    have hw_3 := HB_3.out.size
    have hws_3 := (hwf').size
    clear f0_2_0 f0_2_1 f0_2_2 f0_2_3 f0_2_4 f0_2_5 f0_2_6 HS0_2 hf0_2 f1_2_0 f1_2_1 f1_2_2 f1_2_3 f1_2_4 HS1_2
    clear hwf'
    obtain ⟨f0_3_0, f0_3_1, f0_3_2, f0_3_3, f0_3_4, f0_3_5, f0_3_6⟩ := str7 HS0_3.out
    have hl0_3 := HS0_3.out.lt
    have hf0_3 := fun j => HS0_3.out.frozen j
    obtain ⟨f1_3_0, f1_3_1, f1_3_2, f1_3_3, f1_3_4⟩ := str5 HS1_3.out
    have hl1_3 := HS1_3.out.lt
    obtain ⟨f2_3_0, f2_3_1, f2_3_2, f2_3_3, f2_3_4, f2_3_5, f2_3_6⟩ := str7 HS2_3.out
    have hl2_3 := HS2_3.out.lt
    have hf2_3 := fun j => HS2_3.out.frozen j
    by_cases hce : ce = 0
    · subst hce
      refine Reg.Goal.mk ?_
      go_simp
      go_wp2_with fail
      generalize hW4 : (((((((W3).setCell ⟨g, 0, none⟩ (.int .i64 (z : Int))).setCell ⟨g, 1, none⟩ (.string (SlotP.text ((l.drop 2).take m)))).setCell ⟨g, 2, none⟩ (.int .i64 ck)).setCell ⟨g, 3, none⟩ (.slice A1 n1 c1)).setCell ⟨g, 4, none⟩ (.int .i64 clo)).setCell ⟨g, 5, none⟩ (.int .i64 chi)).setCell ⟨g, 6, none⟩ (.int .i64 cv) = W4
      have HS0_4 : Hid (Str W4 (w.heap.size) #[.int .i64 0, .string ⟨#[]⟩, .int .i64 0, .slice none 0 0, .int .i64 0, .int .i64 0, .int .i64 0]) := Lib.hid (by rw [← hW4]; exact (((((((HS0_3.out).other 0 _ (by omega)).other 1 _ (by omega)).other 2 _ (by omega)).other 3 _ (by omega)).other 4 _ (by omega)).other 5 _ (by omega)).other 6 _ (by omega))
      have HS1_4 : Hid (Str W4 (W1.heap.size) #[.int .i64 ck, .slice A1 n1 c1, .int .i64 clo, .int .i64 chi, .int .i64 cv]) := Lib.hid (by rw [← hW4]; exact (((((((HS1_3.out).other 0 _ (by omega)).other 1 _ (by omega)).other 2 _ (by omega)).other 3 _ (by omega)).other 4 _ (by omega)).other 5 _ (by omega)).other 6 _ (by omega))
      have HS2_4 : Hid (Str W4 (g) #[.int .i64 (z : Int), .string (SlotP.text ((l.drop 2).take m)), .int .i64 ck, .slice A1 n1 c1, .int .i64 clo, .int .i64 chi, .int .i64 cv]) := Lib.hid (by rw [← hW4]; have := (((((((HS2_3.out).set 0 (.int .i64 (z : Int))).set 1 (.string (SlotP.text ((l.drop 2).take m)))).set 2 (.int .i64 ck)).set 3 (.slice A1 n1 c1)).set 4 (.int .i64 clo)).set 5 (.int .i64 chi)).set 6 (.int .i64 cv); simpa using this)
      have hgr4 : W3.grownBy W4 (some (g)) := by rw [← hW4]; exact grown_set (grown_set (grown_set (grown_set (grown_set (grown_set (grown_set (grown_refl W3 (g)) 0 (.int .i64 (z : Int))) 1 (.string (SlotP.text ((l.drop 2).take m)))) 2 (.int .i64 ck)) 3 (.slice A1 n1 c1)) 4 (.int .i64 clo)) 5 (.int .i64 chi)) 6 (.int .i64 cv)
      have HB_4 := Lib.hid (below_grown HB_3.out hgr4 (by omega))
      have hw_4 := HB_4.out.size
      have hws_4 := hgr4.size
      have HY4 : Hid (Bytes W4 W4.heap.size A1 n1 c1 cd) := Lib.hid ((Bytes.grown HY3.out (Nat.le_refl _) HS2_3.out rfl hgr4).more hws_4)
      clear hW4
      clear f0_3_0 f0_3_1 f0_3_2 f0_3_3 f0_3_4 f0_3_5 f0_3_6 HS0_3 hf0_3 f1_3_0 f1_3_1 f1_3_2 f1_3_3 f1_3_4 HS1_3 f2_3_0 f2_3_1 f2_3_2 f2_3_3 f2_3_4 f2_3_5 f2_3_6 HS2_3 hf2_3
      clear hgr4
      obtain ⟨f0_4_0, f0_4_1, f0_4_2, f0_4_3, f0_4_4, f0_4_5, f0_4_6⟩ := str7 HS0_4.out
      have hl0_4 := HS0_4.out.lt
      have hf0_4 := fun j => HS0_4.out.frozen j
      obtain ⟨f1_4_0, f1_4_1, f1_4_2, f1_4_3, f1_4_4⟩ := str5 HS1_4.out
      have hl1_4 := HS1_4.out.lt
      obtain ⟨f2_4_0, f2_4_1, f2_4_2, f2_4_3, f2_4_4, f2_4_5, f2_4_6⟩ := str7 HS2_4.out
      have hl2_4 := HS2_4.out.lt
      have hf2_4 := fun j => HS2_4.out.frozen j
      refine (SlotW.right_any A1 n1 c1 W4.heap.size ⟨(z : Int), (SlotP.text ((l.drop 2).take m)), ⟨ck, cd, clo, chi, cv⟩⟩ _ HY4.out (Nat.le_refl _) HKS.out).mono ?_
      rintro e W5 ⟨rfl, hb5⟩
      have HY5 := Lib.hid (HY4.out.next hb5)
      have HS0_5 := Lib.hid (HS0_4.out.next hb5)
      have HS1_5 := Lib.hid (HS1_4.out.next hb5)
      have HS2_5 := Lib.hid (HS2_4.out.next hb5)
      have HB_5 := Lib.hid (bstep HB_4.out hb5)
      have hw_5 := HB_5.out.size
      have hws_5 := (hb5).size
      clear f0_4_0 f0_4_1 f0_4_2 f0_4_3 f0_4_4 f0_4_5 f0_4_6 HS0_4 hf0_4 f1_4_0 f1_4_1 f1_4_2 f1_4_3 f1_4_4 HS1_4 f2_4_0 f2_4_1 f2_4_2 f2_4_3 f2_4_4 f2_4_5 f2_4_6 HS2_4 hf2_4
      clear hb5
      obtain ⟨f0_5_0, f0_5_1, f0_5_2, f0_5_3, f0_5_4, f0_5_5, f0_5_6⟩ := str7 HS0_5.out
      have hl0_5 := HS0_5.out.lt
      have hf0_5 := fun j => HS0_5.out.frozen j
      obtain ⟨f1_5_0, f1_5_1, f1_5_2, f1_5_3, f1_5_4⟩ := str5 HS1_5.out
      have hl1_5 := HS1_5.out.lt
      obtain ⟨f2_5_0, f2_5_1, f2_5_2, f2_5_3, f2_5_4, f2_5_5, f2_5_6⟩ := str7 HS2_5.out
      have hl2_5 := HS2_5.out.lt
      have hf2_5 := fun j => HS2_5.out.frozen j
      cases hr : SlotP.right ⟨(z : Int), (SlotP.text ((l.drop 2).take m)), ⟨ck, cd, clo, chi, cv⟩⟩
      · have HR := Lib.hid hr
        clear hr
        have HG : Hid (SlotP.get l = (SlotP.none, 12)) := Lib.hid (SlotGet.get_big l HNZ.out (by unfold SlotP.good; rw [HSEEM.out, HR.out]; simp))
        go_wp2_with fail
        generalize hW6 : (((((((W5).setCell ⟨w.heap.size, 0, none⟩ (.int .i64 0)).setCell ⟨w.heap.size, 1, none⟩ (.string ⟨#[]⟩)).setCell ⟨w.heap.size, 2, none⟩ (.int .i64 0)).setCell ⟨w.heap.size, 3, none⟩ (.slice none 0 0)).setCell ⟨w.heap.size, 4, none⟩ (.int .i64 0)).setCell ⟨w.heap.size, 5, none⟩ (.int .i64 0)).setCell ⟨w.heap.size, 6, none⟩ (.int .i64 0) = W6
        have HS0_6 : Hid (Str W6 (w.heap.size) #[.int .i64 0, .string ⟨#[]⟩, .int .i64 0, .slice none 0 0, .int .i64 0, .int .i64 0, .int .i64 0]) := Lib.hid (by rw [← hW6]; have := (((((((HS0_5.out).set 0 (.int .i64 0)).set 1 (.string ⟨#[]⟩)).set 2 (.int .i64 0)).set 3 (.slice none 0 0)).set 4 (.int .i64 0)).set 5 (.int .i64 0)).set 6 (.int .i64 0); simpa using this)
        have HS1_6 : Hid (Str W6 (W1.heap.size) #[.int .i64 ck, .slice A1 n1 c1, .int .i64 clo, .int .i64 chi, .int .i64 cv]) := Lib.hid (by rw [← hW6]; exact (((((((HS1_5.out).other 0 _ (by omega)).other 1 _ (by omega)).other 2 _ (by omega)).other 3 _ (by omega)).other 4 _ (by omega)).other 5 _ (by omega)).other 6 _ (by omega))
        have HS2_6 : Hid (Str W6 (g) #[.int .i64 (z : Int), .string (SlotP.text ((l.drop 2).take m)), .int .i64 ck, .slice A1 n1 c1, .int .i64 clo, .int .i64 chi, .int .i64 cv]) := Lib.hid (by rw [← hW6]; exact (((((((HS2_5.out).other 0 _ (by omega)).other 1 _ (by omega)).other 2 _ (by omega)).other 3 _ (by omega)).other 4 _ (by omega)).other 5 _ (by omega)).other 6 _ (by omega))
        have hgr6 : W5.grownBy W6 (some (w.heap.size)) := by rw [← hW6]; exact grown_set (grown_set (grown_set (grown_set (grown_set (grown_set (grown_set (grown_refl W5 (w.heap.size)) 0 (.int .i64 0)) 1 (.string ⟨#[]⟩)) 2 (.int .i64 0)) 3 (.slice none 0 0)) 4 (.int .i64 0)) 5 (.int .i64 0)) 6 (.int .i64 0)
        have HB_6 := Lib.hid (below_grown HB_5.out hgr6 (by omega))
        have hw_6 := HB_6.out.size
        have hws_6 := hgr6.size
        clear hW6
        clear f0_5_0 f0_5_1 f0_5_2 f0_5_3 f0_5_4 f0_5_5 f0_5_6 HS0_5 hf0_5 f1_5_0 f1_5_1 f1_5_2 f1_5_3 f1_5_4 HS1_5 f2_5_0 f2_5_1 f2_5_2 f2_5_3 f2_5_4 f2_5_5 f2_5_6 HS2_5 hf2_5
        clear hgr6
        obtain ⟨f0_6_0, f0_6_1, f0_6_2, f0_6_3, f0_6_4, f0_6_5, f0_6_6⟩ := str7 HS0_6.out
        have hl0_6 := HS0_6.out.lt
        have hf0_6 := fun j => HS0_6.out.frozen j
        obtain ⟨f1_6_0, f1_6_1, f1_6_2, f1_6_3, f1_6_4⟩ := str5 HS1_6.out
        have hl1_6 := HS1_6.out.lt
        obtain ⟨f2_6_0, f2_6_1, f2_6_2, f2_6_3, f2_6_4, f2_6_5, f2_6_6⟩ := str7 HS2_6.out
        have hl2_6 := HS2_6.out.lt
        have hf2_6 := fun j => HS2_6.out.frozen j
        refine bodyPost_ret (v := .tuple #[.agg #[.int .i64 0, .string ⟨#[]⟩, .int .i64 0, .slice none 0 0, .int .i64 0, .int .i64 0, .int .i64 0], .int .i64 12]) ?_ rfl ?_
        · simp [results, Try.results84, go_sem, *]
        · rw [HG.out]
          exact SlotGet.got_none _ _ _ HB_6.out
      · have HR := Lib.hid hr
        clear hr
        go_wp2_with fail
        refine (RefSlotBytes.bytes_any A1 n1 c1 W5.heap.size ⟨(z : Int), (SlotP.text ((l.drop 2).take m)), ⟨ck, cd, clo, chi, cv⟩⟩ _ HY5.out (Nat.le_refl _) HKS.out).mono ?_
        rintro e W6 ⟨A6, n6, c6, rfl, hy6, hb6⟩
        have HY6 := Lib.hid hy6
        have HYC := Lib.hid (HY5.out.next hb6)
        clear hy6
        have HS0_6 := Lib.hid (HS0_5.out.next hb6)
        have HS1_6 := Lib.hid (HS1_5.out.next hb6)
        have HS2_6 := Lib.hid (HS2_5.out.next hb6)
        have HB_6 := Lib.hid (bstep HB_5.out hb6)
        have hw_6 := HB_6.out.size
        have hws_6 := (hb6).size
        clear f0_5_0 f0_5_1 f0_5_2 f0_5_3 f0_5_4 f0_5_5 f0_5_6 HS0_5 hf0_5 f1_5_0 f1_5_1 f1_5_2 f1_5_3 f1_5_4 HS1_5 f2_5_0 f2_5_1 f2_5_2 f2_5_3 f2_5_4 f2_5_5 f2_5_6 HS2_5 hf2_5
        clear hb6
        obtain ⟨f0_6_0, f0_6_1, f0_6_2, f0_6_3, f0_6_4, f0_6_5, f0_6_6⟩ := str7 HS0_6.out
        have hl0_6 := HS0_6.out.lt
        have hf0_6 := fun j => HS0_6.out.frozen j
        obtain ⟨f1_6_0, f1_6_1, f1_6_2, f1_6_3, f1_6_4⟩ := str5 HS1_6.out
        have hl1_6 := HS1_6.out.lt
        obtain ⟨f2_6_0, f2_6_1, f2_6_2, f2_6_3, f2_6_4, f2_6_5, f2_6_6⟩ := str7 HS2_6.out
        have hl2_6 := HS2_6.out.lt
        have hf2_6 := fun j => HS2_6.out.frozen j
        go_wp2_with fail
        refine (Same.same_any A6 A n6 c6 64 c _ B _ l _ HY6.out (H.out.below (HB_6.out.mono hB))).mono ?_
        rintro e W6_ ⟨rfl, rfl⟩
        cases hbl : (SlotP.bytes ⟨(z : Int), (SlotP.text ((l.drop 2).take m)), ⟨ck, cd, clo, chi, cv⟩⟩ == l)
        · have HBL := Lib.hid hbl
          clear hbl
          have HG : Hid (SlotP.get l = (SlotP.none, 12)) := Lib.hid (SlotGet.get_big l HNZ.out (by unfold SlotP.good; rw [HSEEM.out, HBL.out]; simp))
          go_wp2_with fail
          generalize hW7 : (((((((W6).setCell ⟨w.heap.size, 0, none⟩ (.int .i64 0)).setCell ⟨w.heap.size, 1, none⟩ (.string ⟨#[]⟩)).setCell ⟨w.heap.size, 2, none⟩ (.int .i64 0)).setCell ⟨w.heap.size, 3, none⟩ (.slice none 0 0)).setCell ⟨w.heap.size, 4, none⟩ (.int .i64 0)).setCell ⟨w.heap.size, 5, none⟩ (.int .i64 0)).setCell ⟨w.heap.size, 6, none⟩ (.int .i64 0) = W7
          have HS0_7 : Hid (Str W7 (w.heap.size) #[.int .i64 0, .string ⟨#[]⟩, .int .i64 0, .slice none 0 0, .int .i64 0, .int .i64 0, .int .i64 0]) := Lib.hid (by rw [← hW7]; have := (((((((HS0_6.out).set 0 (.int .i64 0)).set 1 (.string ⟨#[]⟩)).set 2 (.int .i64 0)).set 3 (.slice none 0 0)).set 4 (.int .i64 0)).set 5 (.int .i64 0)).set 6 (.int .i64 0); simpa using this)
          have HS1_7 : Hid (Str W7 (W1.heap.size) #[.int .i64 ck, .slice A1 n1 c1, .int .i64 clo, .int .i64 chi, .int .i64 cv]) := Lib.hid (by rw [← hW7]; exact (((((((HS1_6.out).other 0 _ (by omega)).other 1 _ (by omega)).other 2 _ (by omega)).other 3 _ (by omega)).other 4 _ (by omega)).other 5 _ (by omega)).other 6 _ (by omega))
          have HS2_7 : Hid (Str W7 (g) #[.int .i64 (z : Int), .string (SlotP.text ((l.drop 2).take m)), .int .i64 ck, .slice A1 n1 c1, .int .i64 clo, .int .i64 chi, .int .i64 cv]) := Lib.hid (by rw [← hW7]; exact (((((((HS2_6.out).other 0 _ (by omega)).other 1 _ (by omega)).other 2 _ (by omega)).other 3 _ (by omega)).other 4 _ (by omega)).other 5 _ (by omega)).other 6 _ (by omega))
          have hgr7 : W6.grownBy W7 (some (w.heap.size)) := by rw [← hW7]; exact grown_set (grown_set (grown_set (grown_set (grown_set (grown_set (grown_set (grown_refl W6 (w.heap.size)) 0 (.int .i64 0)) 1 (.string ⟨#[]⟩)) 2 (.int .i64 0)) 3 (.slice none 0 0)) 4 (.int .i64 0)) 5 (.int .i64 0)) 6 (.int .i64 0)
          have HB_7 := Lib.hid (below_grown HB_6.out hgr7 (by omega))
          have hw_7 := HB_7.out.size
          have hws_7 := hgr7.size
          clear hW7
          clear f0_6_0 f0_6_1 f0_6_2 f0_6_3 f0_6_4 f0_6_5 f0_6_6 HS0_6 hf0_6 f1_6_0 f1_6_1 f1_6_2 f1_6_3 f1_6_4 HS1_6 f2_6_0 f2_6_1 f2_6_2 f2_6_3 f2_6_4 f2_6_5 f2_6_6 HS2_6 hf2_6
          clear hgr7
          obtain ⟨f0_7_0, f0_7_1, f0_7_2, f0_7_3, f0_7_4, f0_7_5, f0_7_6⟩ := str7 HS0_7.out
          have hl0_7 := HS0_7.out.lt
          have hf0_7 := fun j => HS0_7.out.frozen j
          obtain ⟨f1_7_0, f1_7_1, f1_7_2, f1_7_3, f1_7_4⟩ := str5 HS1_7.out
          have hl1_7 := HS1_7.out.lt
          obtain ⟨f2_7_0, f2_7_1, f2_7_2, f2_7_3, f2_7_4, f2_7_5, f2_7_6⟩ := str7 HS2_7.out
          have hl2_7 := HS2_7.out.lt
          have hf2_7 := fun j => HS2_7.out.frozen j
          refine bodyPost_ret (v := .tuple #[.agg #[.int .i64 0, .string ⟨#[]⟩, .int .i64 0, .slice none 0 0, .int .i64 0, .int .i64 0, .int .i64 0], .int .i64 12]) ?_ rfl ?_
          · simp [results, Try.results84, go_sem, *]
          · rw [HG.out]
            exact SlotGet.got_none _ _ _ HB_7.out
        · have HBL := Lib.hid hbl
          clear hbl
          have HG : Hid (SlotP.get l = (⟨(z : Int), (SlotP.text ((l.drop 2).take m)), ⟨ck, cd, clo, chi, cv⟩⟩, 0)) := Lib.hid (by unfold SlotP.get; rw [if_neg HNZ.out, if_pos (by unfold SlotP.good; rw [HSEEM.out, HBL.out, HR.out, HM.out, HCG.out]; simp; omega), HSEEM.out])
          go_wp2_with fail
          generalize hW7 : (((((((W6).setCell ⟨w.heap.size, 0, none⟩ (.int .i64 (z : Int))).setCell ⟨w.heap.size, 1, none⟩ (.string (SlotP.text ((l.drop 2).take m)))).setCell ⟨w.heap.size, 2, none⟩ (.int .i64 ck)).setCell ⟨w.heap.size, 3, none⟩ (.slice A1 n1 c1)).setCell ⟨w.heap.size, 4, none⟩ (.int .i64 clo)).setCell ⟨w.heap.size, 5, none⟩ (.int .i64 chi)).setCell ⟨w.heap.size, 6, none⟩ (.int .i64 cv) = W7
          have HS0_7 : Hid (Str W7 (w.heap.size) #[.int .i64 (z : Int), .string (SlotP.text ((l.drop 2).take m)), .int .i64 ck, .slice A1 n1 c1, .int .i64 clo, .int .i64 chi, .int .i64 cv]) := Lib.hid (by rw [← hW7]; have := (((((((HS0_6.out).set 0 (.int .i64 (z : Int))).set 1 (.string (SlotP.text ((l.drop 2).take m)))).set 2 (.int .i64 ck)).set 3 (.slice A1 n1 c1)).set 4 (.int .i64 clo)).set 5 (.int .i64 chi)).set 6 (.int .i64 cv); simpa using this)
          have HS1_7 : Hid (Str W7 (W1.heap.size) #[.int .i64 ck, .slice A1 n1 c1, .int .i64 clo, .int .i64 chi, .int .i64 cv]) := Lib.hid (by rw [← hW7]; exact (((((((HS1_6.out).other 0 _ (by omega)).other 1 _ (by omega)).other 2 _ (by omega)).other 3 _ (by omega)).other 4 _ (by omega)).other 5 _ (by omega)).other 6 _ (by omega))
          have HS2_7 : Hid (Str W7 (g) #[.int .i64 (z : Int), .string (SlotP.text ((l.drop 2).take m)), .int .i64 ck, .slice A1 n1 c1, .int .i64 clo, .int .i64 chi, .int .i64 cv]) := Lib.hid (by rw [← hW7]; exact (((((((HS2_6.out).other 0 _ (by omega)).other 1 _ (by omega)).other 2 _ (by omega)).other 3 _ (by omega)).other 4 _ (by omega)).other 5 _ (by omega)).other 6 _ (by omega))
          have hgr7 : W6.grownBy W7 (some (w.heap.size)) := by rw [← hW7]; exact grown_set (grown_set (grown_set (grown_set (grown_set (grown_set (grown_set (grown_refl W6 (w.heap.size)) 0 (.int .i64 (z : Int))) 1 (.string (SlotP.text ((l.drop 2).take m)))) 2 (.int .i64 ck)) 3 (.slice A1 n1 c1)) 4 (.int .i64 clo)) 5 (.int .i64 chi)) 6 (.int .i64 cv)
          have HB_7 := Lib.hid (below_grown HB_6.out hgr7 (by omega))
          have hw_7 := HB_7.out.size
          have hws_7 := hgr7.size
          have HY7 : Hid (Bytes W7 W7.heap.size A1 n1 c1 cd) := Lib.hid ((Bytes.grown HYC.out (Nat.le_refl _) HS0_6.out rfl hgr7).more hws_7)
          clear hW7
          clear f0_6_0 f0_6_1 f0_6_2 f0_6_3 f0_6_4 f0_6_5 f0_6_6 HS0_6 hf0_6 f1_6_0 f1_6_1 f1_6_2 f1_6_3 f1_6_4 HS1_6 f2_6_0 f2_6_1 f2_6_2 f2_6_3 f2_6_4 f2_6_5 f2_6_6 HS2_6 hf2_6
          clear hgr7
          obtain ⟨f0_7_0, f0_7_1, f0_7_2, f0_7_3, f0_7_4, f0_7_5, f0_7_6⟩ := str7 HS0_7.out
          have hl0_7 := HS0_7.out.lt
          have hf0_7 := fun j => HS0_7.out.frozen j
          obtain ⟨f1_7_0, f1_7_1, f1_7_2, f1_7_3, f1_7_4⟩ := str5 HS1_7.out
          have hl1_7 := HS1_7.out.lt
          obtain ⟨f2_7_0, f2_7_1, f2_7_2, f2_7_3, f2_7_4, f2_7_5, f2_7_6⟩ := str7 HS2_7.out
          have hl2_7 := HS2_7.out.lt
          have hf2_7 := fun j => HS2_7.out.frozen j
          refine bodyPost_ret (v := .tuple #[.agg #[.int .i64 (z : Int), .string (SlotP.text ((l.drop 2).take m)), .int .i64 ck, .slice A1 n1 c1, .int .i64 clo, .int .i64 chi, .int .i64 cv], .int .i64 0]) ?_ rfl ?_
          · simp [results, Try.results84, go_sem, *]
          · rw [HG.out]
            exact ⟨A1, n1, c1, rfl, HY7.out, HB_7.out⟩
    · have hce' : (ce != 0) = true := by simpa using hce
      have HG : Hid (SlotP.get l = (SlotP.none, 12)) := Lib.hid (SlotGet.get_big l HNZ.out (by unfold SlotP.good; rw [HM.out, HCG.out]; simp [beq_eq_false_iff_ne.2 hce]))
      refine Reg.Goal.mk ?_
      go_simp
      go_wp2_with fail
      generalize hW4 : (((((((W3).setCell ⟨g, 0, none⟩ (.int .i64 (z : Int))).setCell ⟨g, 1, none⟩ (.string (SlotP.text ((l.drop 2).take m)))).setCell ⟨g, 2, none⟩ (.int .i64 ck)).setCell ⟨g, 3, none⟩ (.slice A1 n1 c1)).setCell ⟨g, 4, none⟩ (.int .i64 clo)).setCell ⟨g, 5, none⟩ (.int .i64 chi)).setCell ⟨g, 6, none⟩ (.int .i64 cv) = W4
      have HS0_4 : Hid (Str W4 (w.heap.size) #[.int .i64 0, .string ⟨#[]⟩, .int .i64 0, .slice none 0 0, .int .i64 0, .int .i64 0, .int .i64 0]) := Lib.hid (by rw [← hW4]; exact (((((((HS0_3.out).other 0 _ (by omega)).other 1 _ (by omega)).other 2 _ (by omega)).other 3 _ (by omega)).other 4 _ (by omega)).other 5 _ (by omega)).other 6 _ (by omega))
      have HS1_4 : Hid (Str W4 (W1.heap.size) #[.int .i64 ck, .slice A1 n1 c1, .int .i64 clo, .int .i64 chi, .int .i64 cv]) := Lib.hid (by rw [← hW4]; exact (((((((HS1_3.out).other 0 _ (by omega)).other 1 _ (by omega)).other 2 _ (by omega)).other 3 _ (by omega)).other 4 _ (by omega)).other 5 _ (by omega)).other 6 _ (by omega))
      have HS2_4 : Hid (Str W4 (g) #[.int .i64 (z : Int), .string (SlotP.text ((l.drop 2).take m)), .int .i64 ck, .slice A1 n1 c1, .int .i64 clo, .int .i64 chi, .int .i64 cv]) := Lib.hid (by rw [← hW4]; have := (((((((HS2_3.out).set 0 (.int .i64 (z : Int))).set 1 (.string (SlotP.text ((l.drop 2).take m)))).set 2 (.int .i64 ck)).set 3 (.slice A1 n1 c1)).set 4 (.int .i64 clo)).set 5 (.int .i64 chi)).set 6 (.int .i64 cv); simpa using this)
      have hgr4 : W3.grownBy W4 (some (g)) := by rw [← hW4]; exact grown_set (grown_set (grown_set (grown_set (grown_set (grown_set (grown_set (grown_refl W3 (g)) 0 (.int .i64 (z : Int))) 1 (.string (SlotP.text ((l.drop 2).take m)))) 2 (.int .i64 ck)) 3 (.slice A1 n1 c1)) 4 (.int .i64 clo)) 5 (.int .i64 chi)) 6 (.int .i64 cv)
      have HB_4 := Lib.hid (below_grown HB_3.out hgr4 (by omega))
      have hw_4 := HB_4.out.size
      have hws_4 := hgr4.size
      clear hW4
      clear f0_3_0 f0_3_1 f0_3_2 f0_3_3 f0_3_4 f0_3_5 f0_3_6 HS0_3 hf0_3 f1_3_0 f1_3_1 f1_3_2 f1_3_3 f1_3_4 HS1_3 f2_3_0 f2_3_1 f2_3_2 f2_3_3 f2_3_4 f2_3_5 f2_3_6 HS2_3 hf2_3
      clear hgr4
      obtain ⟨f0_4_0, f0_4_1, f0_4_2, f0_4_3, f0_4_4, f0_4_5, f0_4_6⟩ := str7 HS0_4.out
      have hl0_4 := HS0_4.out.lt
      have hf0_4 := fun j => HS0_4.out.frozen j
      obtain ⟨f1_4_0, f1_4_1, f1_4_2, f1_4_3, f1_4_4⟩ := str5 HS1_4.out
      have hl1_4 := HS1_4.out.lt
      obtain ⟨f2_4_0, f2_4_1, f2_4_2, f2_4_3, f2_4_4, f2_4_5, f2_4_6⟩ := str7 HS2_4.out
      have hl2_4 := HS2_4.out.lt
      have hf2_4 := fun j => HS2_4.out.frozen j
      generalize hW5 : (((((((W4).setCell ⟨w.heap.size, 0, none⟩ (.int .i64 0)).setCell ⟨w.heap.size, 1, none⟩ (.string ⟨#[]⟩)).setCell ⟨w.heap.size, 2, none⟩ (.int .i64 0)).setCell ⟨w.heap.size, 3, none⟩ (.slice none 0 0)).setCell ⟨w.heap.size, 4, none⟩ (.int .i64 0)).setCell ⟨w.heap.size, 5, none⟩ (.int .i64 0)).setCell ⟨w.heap.size, 6, none⟩ (.int .i64 0) = W5
      have HS0_5 : Hid (Str W5 (w.heap.size) #[.int .i64 0, .string ⟨#[]⟩, .int .i64 0, .slice none 0 0, .int .i64 0, .int .i64 0, .int .i64 0]) := Lib.hid (by rw [← hW5]; have := (((((((HS0_4.out).set 0 (.int .i64 0)).set 1 (.string ⟨#[]⟩)).set 2 (.int .i64 0)).set 3 (.slice none 0 0)).set 4 (.int .i64 0)).set 5 (.int .i64 0)).set 6 (.int .i64 0); simpa using this)
      have HS1_5 : Hid (Str W5 (W1.heap.size) #[.int .i64 ck, .slice A1 n1 c1, .int .i64 clo, .int .i64 chi, .int .i64 cv]) := Lib.hid (by rw [← hW5]; exact (((((((HS1_4.out).other 0 _ (by omega)).other 1 _ (by omega)).other 2 _ (by omega)).other 3 _ (by omega)).other 4 _ (by omega)).other 5 _ (by omega)).other 6 _ (by omega))
      have HS2_5 : Hid (Str W5 (g) #[.int .i64 (z : Int), .string (SlotP.text ((l.drop 2).take m)), .int .i64 ck, .slice A1 n1 c1, .int .i64 clo, .int .i64 chi, .int .i64 cv]) := Lib.hid (by rw [← hW5]; exact (((((((HS2_4.out).other 0 _ (by omega)).other 1 _ (by omega)).other 2 _ (by omega)).other 3 _ (by omega)).other 4 _ (by omega)).other 5 _ (by omega)).other 6 _ (by omega))
      have hgr5 : W4.grownBy W5 (some (w.heap.size)) := by rw [← hW5]; exact grown_set (grown_set (grown_set (grown_set (grown_set (grown_set (grown_set (grown_refl W4 (w.heap.size)) 0 (.int .i64 0)) 1 (.string ⟨#[]⟩)) 2 (.int .i64 0)) 3 (.slice none 0 0)) 4 (.int .i64 0)) 5 (.int .i64 0)) 6 (.int .i64 0)
      have HB_5 := Lib.hid (below_grown HB_4.out hgr5 (by omega))
      have hw_5 := HB_5.out.size
      have hws_5 := hgr5.size
      clear hW5
      clear f0_4_0 f0_4_1 f0_4_2 f0_4_3 f0_4_4 f0_4_5 f0_4_6 HS0_4 hf0_4 f1_4_0 f1_4_1 f1_4_2 f1_4_3 f1_4_4 HS1_4 f2_4_0 f2_4_1 f2_4_2 f2_4_3 f2_4_4 f2_4_5 f2_4_6 HS2_4 hf2_4
      clear hgr5
      obtain ⟨f0_5_0, f0_5_1, f0_5_2, f0_5_3, f0_5_4, f0_5_5, f0_5_6⟩ := str7 HS0_5.out
      have hl0_5 := HS0_5.out.lt
      have hf0_5 := fun j => HS0_5.out.frozen j
      obtain ⟨f1_5_0, f1_5_1, f1_5_2, f1_5_3, f1_5_4⟩ := str5 HS1_5.out
      have hl1_5 := HS1_5.out.lt
      obtain ⟨f2_5_0, f2_5_1, f2_5_2, f2_5_3, f2_5_4, f2_5_5, f2_5_6⟩ := str7 HS2_5.out
      have hl2_5 := HS2_5.out.lt
      have hf2_5 := fun j => HS2_5.out.frozen j
      refine bodyPost_ret (v := .tuple #[.agg #[.int .i64 0, .string ⟨#[]⟩, .int .i64 0, .slice none 0 0, .int .i64 0, .int .i64 0, .int .i64 0], .int .i64 12]) ?_ rfl ?_
      · simp [results, Try.results84, go_sem, *]
      · rw [HG.out]
        exact SlotGet.got_none _ _ _ HB_5.out
end Go.Proofs.Ytcagflakmokoiaa.RefSlotGet
namespace Go.Proofs.Ytcagflakmokoiaa.UndoP
theorem same_self (u : Undo) : same u u = true := by
  have h : CellP.same u.item.cell u.item.cell = true := by simp [CellP.same]
  simp [same, SlotP.same, h]
end Go.Proofs.Ytcagflakmokoiaa.UndoP
namespace Go.Proofs.Ytcagflakmokoiaa.Live17
open Go.RowKit UndoW
theorem code_any (n : Int) (w : World) : Calls Try.prog 19 #[.int .i64 n] w fun e w' => e = .returned (.int .i64 n) ∧ w = w' := by
  go_enter Try.func19, Try.ntmps19
  go_wp2
  go_ret
  exact ⟨rfl, rfl⟩

/-- more than is asked? -/
def big (k : ByteArray) (n : Nat) : Bool := decide (300 < k.size) || decide (300 < n)
set_option maxHeartbeats 400000 in
theorem big_any (A : Option Addr) (n cap : Nat) (st : Int) (k : ByteArray) (kd lo hi va : Int) (w : World) (hk : k.size ≤ maxLen) (hn : n ≤ maxLen) : Calls Try.prog 71 #[.agg #[.int .i64 st, .string k, .int .i64 kd, .slice A n cap, .int .i64 lo, .int .i64 hi, .int .i64 va]] w fun e w' => e = .returned (.bool (big k n)) ∧ Below w.heap.size w w' := by
  unfold maxLen at hk hn
  by_cases h : 300 < k.size
  · have HE : Hid (big k n = true) := Lib.hid (by simp [big, h])
    rw [HE.out]
    go_enter Try.func71, Try.ntmps71
    go_wp2
    go_ret
    exact ⟨rfl, balloc (bsame w) _⟩
  by_cases h2 : 300 < n
  · have HE : Hid (big k n = true) := Lib.hid (by simp [big, h2])
    rw [HE.out]
    go_enter Try.func71, Try.ntmps71
    go_wp2
    go_ret
    exact ⟨by simp; omega, balloc (bsame w) _⟩
  · have HE : Hid (big k n = false) := Lib.hid (by simp [big]; omega)
    rw [HE.out]
    go_enter Try.func71, Try.ntmps71
    go_wp2
    go_ret
    exact ⟨by simp; omega, balloc (bsame w) _⟩

/-- the page's example -/
def ex : Undo := ⟨3, ⟨#[97]⟩, SlotP.none, 3⟩
theorem ex_bytes : ([] ++ UndoP.bytes ex == [3, 1, 97, 0, 0, 0, 0, 0, 0, 0, 3]) = true := by decide +kernel

set_option maxRecDepth 100000 in
set_option maxHeartbeats 1000000 in
theorem live_any (w : World) : Calls Try.prog 15 #[] w fun e w' => e = .returned (.bool true) ∧ Below w.heap.size w w' := by
  go_enter Try.func15, Try.ntmps15
  go_wp2_with fail
  have HB_0 := Lib.hid (bsame w)
  have hw_0 := HB_0.out.size
  refine (of_any none 0 0 4 ⟨#[97]⟩ [] 0 0 3 none 0 0 0 0 ⟨#[]⟩ 0 [] 0 0 0 none 0 0 0 0 ⟨#[]⟩ 0 [] 0 0 0 w (Bytes.none_ _ _) (Nat.zero_le _) (by omega) (Bytes.none_ _ _) (Nat.zero_le _) (by omega)).mono ?_
  rw [UndoP.of_inc _ _ _ rfl]
  rintro e W1 ⟨A1, n1, c1, rfl, hy1, hb1⟩
  dsimp only [SlotP.none, CellP.none] at *
  have HB_1 := Lib.hid (bstep HB_0.out hb1)
  have hw_1 := HB_1.out.size
  have hws_1 := (hb1).size
  clear hb1
  have HYa_1 := Lib.hid (hy1)
  have hn1 := hy1.len
  simp only [List.length_nil] at hn1
  subst hn1
  clear hy1
  go_wp2_with fail
  generalize hW2 : W1.alloc (.cells #[.int .i64 3, .string ⟨#[97]⟩, .int .i64 0, .string ByteArray.empty, .int .i64 0, .slice A1 0 c1, .int .i64 0, .int .i64 0, .int .i64 0, .int .i64 3] 29) = W2
  have HS0_2 : Hid (Str W2 W1.heap.size #[.int .i64 3, .string ⟨#[97]⟩, .int .i64 0, .string ByteArray.empty, .int .i64 0, .slice A1 0 c1, .int .i64 0, .int .i64 0, .int .i64 0, .int .i64 3]) := Lib.hid (by rw [← hW2]; exact Str.new W1 #[.int .i64 3, .string ⟨#[97]⟩, .int .i64 0, .string ByteArray.empty, .int .i64 0, .slice A1 0 c1, .int .i64 0, .int .i64 0, .int .i64 0, .int .i64 3] 29)
  have hba2 : Below W1.heap.size W1 W2 := by rw [← hW2]; exact balloc (bsame _) _
  have HB_2 := Lib.hid (bstep HB_1.out hba2)
  have hw_2 := HB_2.out.size
  have hws_2 := hba2.size
  have HYa_2 := Lib.hid (HYa_1.out.next hba2)
  clear HYa_1
  clear hW2
  obtain ⟨f0_2_0, f0_2_1, f0_2_2, f0_2_3, f0_2_4, f0_2_5, f0_2_6, f0_2_7, f0_2_8, f0_2_9⟩ := str10 HS0_2.out
  have hl0_2 := HS0_2.out.lt
  clear hba2
  go_wp2_with fail
  refine (put_any none 0 0 0 [] 3 ⟨#[97]⟩ A1 0 c1 W2.heap.size 0 ByteArray.empty 0 [] 0 0 0 3 _ (Bytes.none_ _ _) (Nat.zero_le _) (by omega) HYa_2.out (Nat.le_refl _) (by decide) (by decide)).mono ?_
  rintro e W3 ⟨A3, n3, c3, rfl, hy3, hb3⟩
  have HS0_3 := Lib.hid (HS0_2.out.next hb3)
  have HB_3 := Lib.hid (bstep HB_2.out hb3)
  have hw_3 := HB_3.out.size
  have hws_3 := (hb3).size
  have HYa_3 := Lib.hid (HYa_2.out.next hb3)
  clear HYa_2
  clear f0_2_0 f0_2_1 f0_2_2 f0_2_3 f0_2_4 f0_2_5 f0_2_6 f0_2_7 f0_2_8 f0_2_9 HS0_2
  clear hb3
  obtain ⟨f0_3_0, f0_3_1, f0_3_2, f0_3_3, f0_3_4, f0_3_5, f0_3_6, f0_3_7, f0_3_8, f0_3_9⟩ := str10 HS0_3.out
  have hl0_3 := HS0_3.out.lt
  have HYb_3 := Lib.hid (hy3)
  clear hy3
  go_wp2_with fail
  have HE := Lib.hid ex_bytes
  have hlb := litBytes W3 [3, 1, 97, 0, 0, 0, 0, 0, 0, 0, 3] _ rfl 5 (0, 0) (by decide)
  refine (Same.same_any _ _ _ _ _ _ _ _ _ [3, 1, 97, 0, 0, 0, 0, 0, 0, 0, 3] _ (HYb_3.out.alloc (Nat.le_refl _) _) hlb).mono ?_
  rintro e w4 ⟨rfl, rfl⟩
  rw [show ([] ++ UndoP.bytes ⟨3, ⟨#[97]⟩, ⟨0, ByteArray.empty, ⟨0, [], 0, 0, 0⟩⟩, 3⟩ == [3, 1, 97, 0, 0, 0, 0, 0, 0, 0, 3]) = true from HE.out]
  go_wp2_with fail
  go_ret
  exact ⟨rfl, balloc HB_3.out _⟩
end Go.Proofs.Ytcagflakmokoiaa.Live17
namespace Go.Proofs.Ytcagflakmokoiaa.UndoW
open Go.RowKit
set_option linter.unusedVariables false
attribute [local go_sem ↓] al64_fold ld64_fold st64_fold bd64_fold sl64_fold cp_fold
theorem _root_.Go.Proofs.Ytcagflakmokoiaa.Rd.above {w w1 : World} {b g : Nat} {l : List UInt8} {bad : Bool} (h : Rd w b l bad) (hg : w.grownBy w1 (some g)) (hlt : b < g) : Rd w1 b l bad := by
  obtain ⟨A, n, c, hS, hy⟩ := h
  have hl := hS.lt
  exact ⟨A, n, c, hS.grown hg (by omega), hy.keep fun p hp => World.cell?_of_block (a := p) (hg.block p.block (by omega) (by intro e; injection e; omega))⟩
theorem key_le (l : List UInt8) : (SlotP.get l).1.key.size ≤ l.length := by
  unfold SlotP.get
  split
  · exact Nat.zero_le _
  · split
    · show ((l.drop 2).take _).length ≤ _
      simp
      omega
    · exact Nat.zero_le _

set_option maxRecDepth 100000 in
set_option maxHeartbeats 4000000 in
theorem get_1 (A : Option Addr) (n c B : Nat) (x : UInt8) (l : List UInt8) (w : World) (h : Bytes w B A n c (x :: l)) (hB : B ≤ w.heap.size) (hn : n ≤ 1000000) (hx : (x.toNat : Int) = 1) : Calls Try.prog 16 #[.slice A n c] w (GotUndo w (UndoP.get (x :: l))) := by
  have Hh := Lib.hid h
  have hln := h.len
  have HLN := Lib.hid hln
  clear h hln
  go_enter Try.func16, Try.ntmps16
  go_wp2_with fail
  generalize hW0 : (w).alloc (.cells #[.int .i64 0, .string ⟨#[]⟩, .int .i64 0, .string ⟨#[]⟩, .int .i64 0, .slice none 0 0, .int .i64 0, .int .i64 0, .int .i64 0, .int .i64 0] 29) = W0
  have HS0_0 : Hid (Str W0 (w.heap.size) #[.int .i64 0, .string ⟨#[]⟩, .int .i64 0, .string ⟨#[]⟩, .int .i64 0, .slice none 0 0, .int .i64 0, .int .i64 0, .int .i64 0, .int .i64 0]) := Lib.hid (by rw [← hW0]; have := Str.new (w) #[.int .i64 0, .string ⟨#[]⟩, .int .i64 0, .string ⟨#[]⟩, .int .i64 0, .slice none 0 0, .int .i64 0, .int .i64 0, .int .i64 0, .int .i64 0] 29; simpa using this)
  have HB_0 : Hid (Below w.heap.size w W0) := Lib.hid (by rw [← hW0]; exact balloc (bsame w) _)
  have hw_0 := HB_0.out.size
  clear hW0
  obtain ⟨f0_0_0, f0_0_1, f0_0_2, f0_0_3, f0_0_4, f0_0_5, f0_0_6, f0_0_7, f0_0_8, f0_0_9⟩ := str10 HS0_0.out
  have hl0_0 := HS0_0.out.lt
  have hf0_0 := fun j => HS0_0.out.frozen j
  refine (RdW.read_any A n c B (x :: l) _ (Hh.out.below (HB_0.out.mono hB)) (by omega) (by omega)).mono ?_
  rintro e W1 ⟨b, rfl, hbb, hR, hb1⟩
  have HS0_1 := Lib.hid (HS0_0.out.next hb1)
  have HB_1 := Lib.hid (bstep HB_0.out hb1)
  have hw_1 := HB_1.out.size
  have hws_1 := (hb1).size
  clear f0_0_0 f0_0_1 f0_0_2 f0_0_3 f0_0_4 f0_0_5 f0_0_6 f0_0_7 f0_0_8 f0_0_9 HS0_0 hf0_0
  clear hb1
  obtain ⟨f0_1_0, f0_1_1, f0_1_2, f0_1_3, f0_1_4, f0_1_5, f0_1_6, f0_1_7, f0_1_8, f0_1_9⟩ := str10 HS0_1.out
  have hl0_1 := HS0_1.out.lt
  have hf0_1 := fun j => HS0_1.out.frozen j
  have HR_1 := Lib.hid hR
  have hbl := hR.lt
  clear hR
  go_wp2_with fail
  refine (RdW.num_any b _ _ 1 _ HR_1.out (by omega) (by omega)).mono ?_
  rintro e W2 ⟨rfl, hR, hg⟩
  have HR_2 := Lib.hid hR
  clear HR_1 hR
  have HS0_2 := Lib.hid (HS0_1.out.grown hg (by omega))
  have HB_2 := Lib.hid (below_grown HB_1.out hg (by omega))
  have hw_2 := HB_2.out.size
  have hws_2 := (hg).size
  clear f0_1_0 f0_1_1 f0_1_2 f0_1_3 f0_1_4 f0_1_5 f0_1_6 f0_1_7 f0_1_8 f0_1_9 HS0_1 hf0_1
  clear hg
  obtain ⟨f0_2_0, f0_2_1, f0_2_2, f0_2_3, f0_2_4, f0_2_5, f0_2_6, f0_2_7, f0_2_8, f0_2_9⟩ := str10 HS0_2.out
  have hl0_2 := HS0_2.out.lt
  have hf0_2 := fun j => HS0_2.out.frozen j
  rw [(num1 x l).2.1, (num1 x l).2.2] at HR_2
  rw [(num1 x l).1, hx]
  go_wp2_with fail
  generalize hW3 : W2.alloc (.cells #[.int .i64 1, .string ⟨#[]⟩, .int .i64 0, .string ⟨#[]⟩, .int .i64 0, .slice none 0 0, .int .i64 0, .int .i64 0, .int .i64 0, .int .i64 0] 29) = W3
  have HS0_3 : Hid (Str W3 (w.heap.size) #[.int .i64 0, .string ⟨#[]⟩, .int .i64 0, .string ⟨#[]⟩, .int .i64 0, .slice none 0 0, .int .i64 0, .int .i64 0, .int .i64 0, .int .i64 0]) := Lib.hid (by rw [← hW3]; exact HS0_2.out.alloc _)
  have HS1_3 : Hid (Str W3 W2.heap.size #[.int .i64 1, .string ⟨#[]⟩, .int .i64 0, .string ⟨#[]⟩, .int .i64 0, .slice none 0 0, .int .i64 0, .int .i64 0, .int .i64 0, .int .i64 0]) := Lib.hid (by rw [← hW3]; exact Str.new W2 #[.int .i64 1, .string ⟨#[]⟩, .int .i64 0, .string ⟨#[]⟩, .int .i64 0, .slice none 0 0, .int .i64 0, .int .i64 0, .int .i64 0, .int .i64 0] 29)
  have hba3 : Below W2.heap.size W2 W3 := by rw [← hW3]; exact balloc (bsame _) _
  have HB_3 := Lib.hid (bstep HB_2.out hba3)
  have hw_3 := HB_3.out.size
  have hws_3 := hba3.size
  have HR_3 := Lib.hid (HR_2.out.below hba3)
  clear HR_2
  clear hW3
  clear f0_2_0 f0_2_1 f0_2_2 f0_2_3 f0_2_4 f0_2_5 f0_2_6 f0_2_7 f0_2_8 f0_2_9 HS0_2 hf0_2
  obtain ⟨f0_3_0, f0_3_1, f0_3_2, f0_3_3, f0_3_4, f0_3_5, f0_3_6, f0_3_7, f0_3_8, f0_3_9⟩ := str10 HS0_3.out
  have hl0_3 := HS0_3.out.lt
  have hf0_3 := fun j => HS0_3.out.frozen j
  obtain ⟨f1_3_0, f1_3_1, f1_3_2, f1_3_3, f1_3_4, f1_3_5, f1_3_6, f1_3_7, f1_3_8, f1_3_9⟩ := str10 HS1_3.out
  have hl1_3 := HS1_3.out.lt
  clear hba3
  refine (ok_rd HR_3.out).mono ?_
  rintro e w_ ⟨rfl, rfl⟩
  go_wp2_with fail
  refine (RdW.num_any b _ _ 1 _ HR_3.out (by omega) (by omega)).mono ?_
  rintro e W4 ⟨rfl, hR, hg⟩
  have HR_4 := Lib.hid hR
  clear HR_3 hR
  have HS0_4 := Lib.hid (HS0_3.out.grown hg (by omega))
  have HS1_4 := Lib.hid (HS1_3.out.grown hg (by omega))
  have HB_4 := Lib.hid (below_grown HB_3.out hg (by omega))
  have hw_4 := HB_4.out.size
  have hws_4 := (hg).size
  clear f0_3_0 f0_3_1 f0_3_2 f0_3_3 f0_3_4 f0_3_5 f0_3_6 f0_3_7 f0_3_8 f0_3_9 HS0_3 hf0_3 f1_3_0 f1_3_1 f1_3_2 f1_3_3 f1_3_4 f1_3_5 f1_3_6 f1_3_7 f1_3_8 f1_3_9 HS1_3
  clear hg
  obtain ⟨f0_4_0, f0_4_1, f0_4_2, f0_4_3, f0_4_4, f0_4_5, f0_4_6, f0_4_7, f0_4_8, f0_4_9⟩ := str10 HS0_4.out
  have hl0_4 := HS0_4.out.lt
  have hf0_4 := fun j => HS0_4.out.frozen j
  obtain ⟨f1_4_0, f1_4_1, f1_4_2, f1_4_3, f1_4_4, f1_4_5, f1_4_6, f1_4_7, f1_4_8, f1_4_9⟩ := str10 HS1_4.out
  have hl1_4 := HS1_4.out.lt
  rw [UndoP.numV_k1 l]
  have hk1 := UndoP.k1_le l
  go_wp2_with fail
  refine (RdW.bytes_any b (UndoP.L2 l) (UndoP.b2 l) (UndoP.k1 l) _ HR_4.out (by omega)).mono ?_
  rintro e W5 ⟨A5, n5, c5, rfl, hy5, hR, hg⟩
  have HR_5 := Lib.hid hR
  clear HR_4 hR
  have HS0_5 := Lib.hid (HS0_4.out.grown hg (by omega))
  have HS1_5 := Lib.hid (HS1_4.out.grown hg (by omega))
  have HB_5 := Lib.hid (below_grown HB_4.out hg (by omega))
  have hw_5 := HB_5.out.size
  have hws_5 := (hg).size
  clear f0_4_0 f0_4_1 f0_4_2 f0_4_3 f0_4_4 f0_4_5 f0_4_6 f0_4_7 f0_4_8 f0_4_9 HS0_4 hf0_4 f1_4_0 f1_4_1 f1_4_2 f1_4_3 f1_4_4 f1_4_5 f1_4_6 f1_4_7 f1_4_8 f1_4_9 HS1_4
  clear hg
  obtain ⟨f0_5_0, f0_5_1, f0_5_2, f0_5_3, f0_5_4, f0_5_5, f0_5_6, f0_5_7, f0_5_8, f0_5_9⟩ := str10 HS0_5.out
  have hl0_5 := HS0_5.out.lt
  have hf0_5 := fun j => HS0_5.out.frozen j
  obtain ⟨f1_5_0, f1_5_1, f1_5_2, f1_5_3, f1_5_4, f1_5_5, f1_5_6, f1_5_7, f1_5_8, f1_5_9⟩ := str10 HS1_5.out
  have hl1_5 := HS1_5.out.lt
  have hy6 : Bytes W5 W5.heap.size A5 n5 c5 (UndoP.K l) := hy5
  have hcv := run_str (P := Try.prog) 22 9 5 Try.underlying22 Try.underlying5 Try.underlying9 hy6
  have HKS : Hid ((strOf (UndoP.K l)).size ≤ maxLen) := Lib.hid (by show (UndoP.K l).length ≤ maxLen; rw [hy6.len]; exact Nat.le_trans hy6.2.1 hy6.2.2.1)
  clear hy5 hy6
  have hfu := fun j => HS1_5.out.frozen j
  have hal := fun W => run_al (P := Try.prog) arr64 W
  go_wp2_with fail
  generalize hW6 : (W5).setCell ⟨W2.heap.size, 1, none⟩ (.string (strOf (UndoP.K l))) = W6
  have HS0_6 : Hid (Str W6 (w.heap.size) #[.int .i64 0, .string ⟨#[]⟩, .int .i64 0, .string ⟨#[]⟩, .int .i64 0, .slice none 0 0, .int .i64 0, .int .i64 0, .int .i64 0, .int .i64 0]) := Lib.hid (by rw [← hW6]; exact (HS0_5.out).other 1 _ (by omega))
  have HS1_6 : Hid (Str W6 (W2.heap.size) #[.int .i64 1, .string (strOf (UndoP.K l)), .int .i64 0, .string ⟨#[]⟩, .int .i64 0, .slice none 0 0, .int .i64 0, .int .i64 0, .int .i64 0, .int .i64 0]) := Lib.hid (by rw [← hW6]; have := (HS1_5.out).set 1 (.string (strOf (UndoP.K l))); simpa using this)
  have hgr6 : W5.grownBy W6 (some (W2.heap.size)) := by rw [← hW6]; exact grown_set (grown_refl W5 (W2.heap.size)) 1 (.string (strOf (UndoP.K l)))
  have HB_6 := Lib.hid (below_grown HB_5.out hgr6 (by omega))
  have hw_6 := HB_6.out.size
  have hws_6 := hgr6.size
  have HR_6 := Lib.hid ((Rd.grown HR_5.out (Nat.le_refl _) HS1_5.out rfl hgr6 (by omega)))
  clear HR_5
  have hz6 : W6.heap.size = W5.heap.size := by rw [← hW6]; simp
  clear hW6
  clear f0_5_0 f0_5_1 f0_5_2 f0_5_3 f0_5_4 f0_5_5 f0_5_6 f0_5_7 f0_5_8 f0_5_9 HS0_5 hf0_5 f1_5_0 f1_5_1 f1_5_2 f1_5_3 f1_5_4 f1_5_5 f1_5_6 f1_5_7 f1_5_8 f1_5_9 HS1_5
  clear hgr6
  obtain ⟨f0_6_0, f0_6_1, f0_6_2, f0_6_3, f0_6_4, f0_6_5, f0_6_6, f0_6_7, f0_6_8, f0_6_9⟩ := str10 HS0_6.out
  have hl0_6 := HS0_6.out.lt
  have hf0_6 := fun j => HS0_6.out.frozen j
  obtain ⟨f1_6_0, f1_6_1, f1_6_2, f1_6_3, f1_6_4, f1_6_5, f1_6_6, f1_6_7, f1_6_8, f1_6_9⟩ := str10 HS1_6.out
  have hl1_6 := HS1_6.out.lt
  clear hcv hfu
  generalize hW7 : W6.alloc (.cells (rowV (SlotP.zeros 64)) 117) = W7
  have HS0_7 : Hid (Str W7 (w.heap.size) #[.int .i64 0, .string ⟨#[]⟩, .int .i64 0, .string ⟨#[]⟩, .int .i64 0, .slice none 0 0, .int .i64 0, .int .i64 0, .int .i64 0, .int .i64 0]) := Lib.hid (by rw [← hW7]; exact HS0_6.out.alloc _)
  have HS1_7 : Hid (Str W7 (W2.heap.size) #[.int .i64 1, .string (strOf (UndoP.K l)), .int .i64 0, .string ⟨#[]⟩, .int .i64 0, .slice none 0 0, .int .i64 0, .int .i64 0, .int .i64 0, .int .i64 0]) := Lib.hid (by rw [← hW7]; exact HS1_6.out.alloc _)
  have HS2_7 : Hid (Str W7 W6.heap.size (rowV (SlotP.zeros 64))) := Lib.hid (by rw [← hW7]; exact Str.new W6 (rowV (SlotP.zeros 64)) 117)
  have hba7 : Below W6.heap.size W6 W7 := by rw [← hW7]; exact balloc (bsame _) _
  have HB_7 := Lib.hid (bstep HB_6.out hba7)
  have hw_7 := HB_7.out.size
  have hws_7 := hba7.size
  have HR_7 := Lib.hid (HR_6.out.below hba7)
  clear HR_6
  clear hW7
  clear f0_6_0 f0_6_1 f0_6_2 f0_6_3 f0_6_4 f0_6_5 f0_6_6 f0_6_7 f0_6_8 f0_6_9 HS0_6 hf0_6 f1_6_0 f1_6_1 f1_6_2 f1_6_3 f1_6_4 f1_6_5 f1_6_6 f1_6_7 f1_6_8 f1_6_9 HS1_6
  obtain ⟨f0_7_0, f0_7_1, f0_7_2, f0_7_3, f0_7_4, f0_7_5, f0_7_6, f0_7_7, f0_7_8, f0_7_9⟩ := str10 HS0_7.out
  have hl0_7 := HS0_7.out.lt
  have hf0_7 := fun j => HS0_7.out.frozen j
  obtain ⟨f1_7_0, f1_7_1, f1_7_2, f1_7_3, f1_7_4, f1_7_5, f1_7_6, f1_7_7, f1_7_8, f1_7_9⟩ := str10 HS1_7.out
  have hl1_7 := HS1_7.out.lt
  have hl2_7 := HS2_7.out.lt
  clear hba7 hal
  rw [hz6] at HS2_7 hl2_7
  have hR : Rd W7 b (UndoP.L3 l) (UndoP.b3 l) := HR_7.out
  clear HR_7
  have HR_7 := Lib.hid hR
  clear hR
  have hsl := fun W => run_sl_all (P := Try.prog) arr64 W5.heap.size W
  have HRD : Hid (∀ m, Rd (W7.drewN m) b (UndoP.L3 l) (UndoP.b3 l)) := Lib.hid (fun _ => HR_7.out)
  have HZ : Hid ((SlotP.zeros 64).length = 64) := Lib.hid (SlotPut.zeros_len 64)
  go_region_with (go_at_call 80; refine (RdW.bytes_any b (UndoP.L3 l) (UndoP.b3 l) 64 _ (by first | exact HR_7.out | exact HRD.out _) (by omega)).mono ?_; rintro e W8 ⟨A7, n7, c7, rfl, hy7, hR, hg⟩; have hg' : W7.grownBy W8 (some b) := ⟨hg.os, hg.tape, hg.output, hg.size, hg.block⟩; obtain ⟨W9, hcp, hV9, hg9⟩ := copy_bytes (P := Try.prog) 22 22 3 5 Try.underlying22 Be.sizeU8 (dLen := 64) (dCap := 64) (off := 0) (HS2_7.out.grown hg' (by omega)) hy7 (by rw [HZ.out]; omega))
  all_goals
    clear hcp hg hsl HRD
    have HR8 := Lib.hid hR
    clear HR_7 hR
    have HS0_8 := Lib.hid (HS0_7.out.grown hg' (by omega))
    have HS1_8 := Lib.hid (HS1_7.out.grown hg' (by omega))
    have HS2_8 := Lib.hid (HS2_7.out.grown hg' (by omega))
    have HB_8 := Lib.hid (below_grown HB_7.out hg' (by omega))
    have hw_8 := HB_8.out.size
    have hws_8 := (hg').size
    clear f0_7_0 f0_7_1 f0_7_2 f0_7_3 f0_7_4 f0_7_5 f0_7_6 f0_7_7 f0_7_8 f0_7_9 HS0_7 hf0_7 f1_7_0 f1_7_1 f1_7_2 f1_7_3 f1_7_4 f1_7_5 f1_7_6 f1_7_7 f1_7_8 f1_7_9 HS1_7 HS2_7
    clear hg'
    obtain ⟨f0_8_0, f0_8_1, f0_8_2, f0_8_3, f0_8_4, f0_8_5, f0_8_6, f0_8_7, f0_8_8, f0_8_9⟩ := str10 HS0_8.out
    have hl0_8 := HS0_8.out.lt
    have hf0_8 := fun j => HS0_8.out.frozen j
    obtain ⟨f1_8_0, f1_8_1, f1_8_2, f1_8_3, f1_8_4, f1_8_5, f1_8_6, f1_8_7, f1_8_8, f1_8_9⟩ := str10 HS1_8.out
    have hl1_8 := HS1_8.out.lt
    have hl2_8 := HS2_8.out.lt
    have hV : Str W9 W5.heap.size (rowV (UndoP.raw l)) := by
      have h9 : (UndoP.S5 l).take 64 = UndoP.S5 l := List.take_of_length_le (UndoP.S5_le l)
      have h8 := hV9
      rw [show RdP.th (UndoP.L3 l) (UndoP.b3 l) 64 = UndoP.S5 l from rfl, h9] at h8
      exact h8
    clear hV9 hy7
    have HS0_9 := Lib.hid (HS0_8.out.grown hg9 (by omega))
    have HS1_9 := Lib.hid (HS1_8.out.grown hg9 (by omega))
    have HS2_9 := Lib.hid hV
    have HB_9 := Lib.hid (below_grown HB_8.out hg9 (by omega))
    have hw_9 := HB_9.out.size
    have hws_9 := hg9.size
    have hRR : Rd W9 b (UndoP.L5 l) (UndoP.b5 l) := HR8.out.above hg9 (by omega)
    have HR_9 := Lib.hid hRR
    clear HR8 hRR hV hg9
    clear f0_8_0 f0_8_1 f0_8_2 f0_8_3 f0_8_4 f0_8_5 f0_8_6 f0_8_7 f0_8_8 f0_8_9 HS0_8 hf0_8 f1_8_0 f1_8_1 f1_8_2 f1_8_3 f1_8_4 f1_8_5 f1_8_6 f1_8_7 f1_8_8 f1_8_9 HS1_8 HS2_8
    obtain ⟨f0_9_0, f0_9_1, f0_9_2, f0_9_3, f0_9_4, f0_9_5, f0_9_6, f0_9_7, f0_9_8, f0_9_9⟩ := str10 HS0_9.out
    have hl0_9 := HS0_9.out.lt
    have hf0_9 := fun j => HS0_9.out.frozen j
    obtain ⟨f1_9_0, f1_9_1, f1_9_2, f1_9_3, f1_9_4, f1_9_5, f1_9_6, f1_9_7, f1_9_8, f1_9_9⟩ := str10 HS1_9.out
    have hl1_9 := HS1_9.out.lt
    have hl2_9 := HS2_9.out.lt
    have HLR := Lib.hid (UndoP.raw_length l)
    have hld := run_ld (P := Try.prog) arr64 HS2_9.out HLR.out
    go_wp2_with fail
    have HGI := Lib.hid (fun W => SlotGet.get_any (UndoP.raw l) HLR.out W)
    have HU5 : Hid (UndoP.U5 l = ⟨1, SlotP.text (UndoP.K l), (SlotP.get (UndoP.raw l)).1, 0⟩) := Lib.hid rfl
    generalize hrr : SlotP.get (UndoP.raw l) = r at HGI HU5
    have HRR := Lib.hid hrr
    clear hrr
    obtain ⟨⟨rs, rk, rkind, rdata, rlo, rhi, rval⟩, er⟩ := r
    refine (HGI.out _).mono ?_
    rintro e W10 ⟨A10, n10, c10, rfl, hy10, hb10⟩
    dsimp only at *
    clear hld HGI
    have HS0_10 := Lib.hid (HS0_9.out.next hb10)
    have HS1_10 := Lib.hid (HS1_9.out.next hb10)
    have HS2_10 := Lib.hid (HS2_9.out.next hb10)
    have HB_10 := Lib.hid (bstep HB_9.out hb10)
    have hw_10 := HB_10.out.size
    have hws_10 := (hb10).size
    have HR_10 := Lib.hid (HR_9.out.below hb10)
    clear HR_9
    clear f0_9_0 f0_9_1 f0_9_2 f0_9_3 f0_9_4 f0_9_5 f0_9_6 f0_9_7 f0_9_8 f0_9_9 HS0_9 hf0_9 f1_9_0 f1_9_1 f1_9_2 f1_9_3 f1_9_4 f1_9_5 f1_9_6 f1_9_7 f1_9_8 f1_9_9 HS1_9 HS2_9
    clear hb10
    obtain ⟨f0_10_0, f0_10_1, f0_10_2, f0_10_3, f0_10_4, f0_10_5, f0_10_6, f0_10_7, f0_10_8, f0_10_9⟩ := str10 HS0_10.out
    have hl0_10 := HS0_10.out.lt
    have hf0_10 := fun j => HS0_10.out.frozen j
    obtain ⟨f1_10_0, f1_10_1, f1_10_2, f1_10_3, f1_10_4, f1_10_5, f1_10_6, f1_10_7, f1_10_8, f1_10_9⟩ := str10 HS1_10.out
    have hl1_10 := HS1_10.out.lt
    have hl2_10 := HS2_10.out.lt
    have HYz_10 := Lib.hid (hy10)
    clear hy10
    have hfu := fun j => HS1_10.out.frozen j
    go_wp2_with fail
    have hrk : rk.size ≤ maxLen := by have h1 := key_le (UndoP.raw l); rw [HRR.out, HLR.out] at h1; exact Nat.le_trans h1 (by decide)
    generalize hW11 : (((((((W10).setCell ⟨W2.heap.size, 2, none⟩ (.int .i64 rs)).setCell ⟨W2.heap.size, 3, none⟩ (.string rk)).setCell ⟨W2.heap.size, 4, none⟩ (.int .i64 rkind)).setCell ⟨W2.heap.size, 5, none⟩ (.slice A10 n10 c10)).setCell ⟨W2.heap.size, 6, none⟩ (.int .i64 rlo)).setCell ⟨W2.heap.size, 7, none⟩ (.int .i64 rhi)).setCell ⟨W2.heap.size, 8, none⟩ (.int .i64 rval) = W11
    have HS0_11 : Hid (Str W11 (w.heap.size) #[.int .i64 0, .string ⟨#[]⟩, .int .i64 0, .string ⟨#[]⟩, .int .i64 0, .slice none 0 0, .int .i64 0, .int .i64 0, .int .i64 0, .int .i64 0]) := Lib.hid (by rw [← hW11]; exact (((((((HS0_10.out).other 2 _ (by omega)).other 3 _ (by omega)).other 4 _ (by omega)).other 5 _ (by omega)).other 6 _ (by omega)).other 7 _ (by omega)).other 8 _ (by omega))
    have HS1_11 : Hid (Str W11 (W2.heap.size) #[.int .i64 1, .string (strOf (UndoP.K l)), .int .i64 rs, .string rk, .int .i64 rkind, .slice A10 n10 c10, .int .i64 rlo, .int .i64 rhi, .int .i64 rval, .int .i64 0]) := Lib.hid (by rw [← hW11]; have := (((((((HS1_10.out).set 2 (.int .i64 rs)).set 3 (.string rk)).set 4 (.int .i64 rkind)).set 5 (.slice A10 n10 c10)).set 6 (.int .i64 rlo)).set 7 (.int .i64 rhi)).set 8 (.int .i64 rval); simpa using this)
    have HS2_11 : Hid (Str W11 (W5.heap.size) (rowV (UndoP.raw l))) := Lib.hid (by rw [← hW11]; exact (((((((HS2_10.out).other 2 _ (by omega)).other 3 _ (by omega)).other 4 _ (by omega)).other 5 _ (by omega)).other 6 _ (by omega)).other 7 _ (by omega)).other 8 _ (by omega))
    have hgr11 : W10.grownBy W11 (some (W2.heap.size)) := by rw [← hW11]; exact grown_set (grown_set (grown_set (grown_set (grown_set (grown_set (grown_set (grown_refl W10 (W2.heap.size)) 2 (.int .i64 rs)) 3 (.string rk)) 4 (.int .i64 rkind)) 5 (.slice A10 n10 c10)) 6 (.int .i64 rlo)) 7 (.int .i64 rhi)) 8 (.int .i64 rval)
    have HB_11 := Lib.hid (below_grown HB_10.out hgr11 (by omega))
    have hw_11 := HB_11.out.size
    have hws_11 := hgr11.size
    have HYz_11 := Lib.hid ((Bytes.grown HYz_10.out (Nat.le_refl _) HS1_10.out rfl hgr11).more hws_11)
    clear HYz_10
    have HR_11 := Lib.hid ((Rd.grown HR_10.out (Nat.le_refl _) HS1_10.out rfl hgr11 (by omega)))
    clear HR_10
    clear hW11
    clear f0_10_0 f0_10_1 f0_10_2 f0_10_3 f0_10_4 f0_10_5 f0_10_6 f0_10_7 f0_10_8 f0_10_9 HS0_10 hf0_10 f1_10_0 f1_10_1 f1_10_2 f1_10_3 f1_10_4 f1_10_5 f1_10_6 f1_10_7 f1_10_8 f1_10_9 HS1_10 HS2_10
    clear hgr11
    obtain ⟨f0_11_0, f0_11_1, f0_11_2, f0_11_3, f0_11_4, f0_11_5, f0_11_6, f0_11_7, f0_11_8, f0_11_9⟩ := str10 HS0_11.out
    have hl0_11 := HS0_11.out.lt
    have hf0_11 := fun j => HS0_11.out.frozen j
    obtain ⟨f1_11_0, f1_11_1, f1_11_2, f1_11_3, f1_11_4, f1_11_5, f1_11_6, f1_11_7, f1_11_8, f1_11_9⟩ := str10 HS1_11.out
    have hl1_11 := HS1_11.out.lt
    have hl2_11 := HS2_11.out.lt
    clear hfu
    generalize hW12 : W11.alloc (.cells #[.int .i64 rs, .string rk, .int .i64 rkind, .slice A10 n10 c10, .int .i64 rlo, .int .i64 rhi, .int .i64 rval] 27) = W12
    have HS0_12 : Hid (Str W12 (w.heap.size) #[.int .i64 0, .string ⟨#[]⟩, .int .i64 0, .string ⟨#[]⟩, .int .i64 0, .slice none 0 0, .int .i64 0, .int .i64 0, .int .i64 0, .int .i64 0]) := Lib.hid (by rw [← hW12]; exact HS0_11.out.alloc _)
    have HS1_12 : Hid (Str W12 (W2.heap.size) #[.int .i64 1, .string (strOf (UndoP.K l)), .int .i64 rs, .string rk, .int .i64 rkind, .slice A10 n10 c10, .int .i64 rlo, .int .i64 rhi, .int .i64 rval, .int .i64 0]) := Lib.hid (by rw [← hW12]; exact HS1_11.out.alloc _)
    have HS2_12 : Hid (Str W12 (W5.heap.size) (rowV (UndoP.raw l))) := Lib.hid (by rw [← hW12]; exact HS2_11.out.alloc _)
    have HS3_12 : Hid (Str W12 W11.heap.size #[.int .i64 rs, .string rk, .int .i64 rkind, .slice A10 n10 c10, .int .i64 rlo, .int .i64 rhi, .int .i64 rval]) := Lib.hid (by rw [← hW12]; exact Str.new W11 #[.int .i64 rs, .string rk, .int .i64 rkind, .slice A10 n10 c10, .int .i64 rlo, .int .i64 rhi, .int .i64 rval] 27)
    have hba12 : Below W11.heap.size W11 W12 := by rw [← hW12]; exact balloc (bsame _) _
    have HB_12 := Lib.hid (bstep HB_11.out hba12)
    have hw_12 := HB_12.out.size
    have hws_12 := hba12.size
    have HYz_12 := Lib.hid (HYz_11.out.next hba12)
    clear HYz_11
    have HR_12 := Lib.hid (HR_11.out.below hba12)
    clear HR_11
    clear hW12
    clear f0_11_0 f0_11_1 f0_11_2 f0_11_3 f0_11_4 f0_11_5 f0_11_6 f0_11_7 f0_11_8 f0_11_9 HS0_11 hf0_11 f1_11_0 f1_11_1 f1_11_2 f1_11_3 f1_11_4 f1_11_5 f1_11_6 f1_11_7 f1_11_8 f1_11_9 HS1_11 HS2_11
    obtain ⟨f0_12_0, f0_12_1, f0_12_2, f0_12_3, f0_12_4, f0_12_5, f0_12_6, f0_12_7, f0_12_8, f0_12_9⟩ := str10 HS0_12.out
    have hl0_12 := HS0_12.out.lt
    have hf0_12 := fun j => HS0_12.out.frozen j
    obtain ⟨f1_12_0, f1_12_1, f1_12_2, f1_12_3, f1_12_4, f1_12_5, f1_12_6, f1_12_7, f1_12_8, f1_12_9⟩ := str10 HS1_12.out
    have hl1_12 := HS1_12.out.lt
    have hl2_12 := HS2_12.out.lt
    obtain ⟨f3_12_0, f3_12_1, f3_12_2, f3_12_3, f3_12_4, f3_12_5, f3_12_6⟩ := str7 HS3_12.out
    have hl3_12 := HS3_12.out.lt
    clear hba12
    refine (ok_rd HR_12.out).mono ?_
    rintro e w_ ⟨rfl, rfl⟩
    cases hb5 : UndoP.b5 l
    case true =>
      have HE : Hid (UndoP.get (x :: l) = (UndoP.none, 0, 13)) := Lib.hid (UndoP.get_short5 x l (by omega) hb5)
      clear HR_12
      go_wp2_with fail
      generalize hW13 : ((((((((((W12).setCell ⟨w.heap.size, 0, none⟩ (.int .i64 0)).setCell ⟨w.heap.size, 1, none⟩ (.string ⟨#[]⟩)).setCell ⟨w.heap.size, 2, none⟩ (.int .i64 0)).setCell ⟨w.heap.size, 3, none⟩ (.string ⟨#[]⟩)).setCell ⟨w.heap.size, 4, none⟩ (.int .i64 0)).setCell ⟨w.heap.size, 5, none⟩ (.slice none 0 0)).setCell ⟨w.heap.size, 6, none⟩ (.int .i64 0)).setCell ⟨w.heap.size, 7, none⟩ (.int .i64 0)).setCell ⟨w.heap.size, 8, none⟩ (.int .i64 0)).setCell ⟨w.heap.size, 9, none⟩ (.int .i64 0) = W13
      have HS0_13 : Hid (Str W13 (w.heap.size) #[.int .i64 0, .string ⟨#[]⟩, .int .i64 0, .string ⟨#[]⟩, .int .i64 0, .slice none 0 0, .int .i64 0, .int .i64 0, .int .i64 0, .int .i64 0]) := Lib.hid (by rw [← hW13]; have := ((((((((((HS0_12.out).set 0 (.int .i64 0)).set 1 (.string ⟨#[]⟩)).set 2 (.int .i64 0)).set 3 (.string ⟨#[]⟩)).set 4 (.int .i64 0)).set 5 (.slice none 0 0)).set 6 (.int .i64 0)).set 7 (.int .i64 0)).set 8 (.int .i64 0)).set 9 (.int .i64 0); simpa using this)
      have HS1_13 : Hid (Str W13 (W2.heap.size) #[.int .i64 1, .string (strOf (UndoP.K l)), .int .i64 rs, .string rk, .int .i64 rkind, .slice A10 n10 c10, .int .i64 rlo, .int .i64 rhi, .int .i64 rval, .int .i64 0]) := Lib.hid (by rw [← hW13]; exact ((((((((((HS1_12.out).other 0 _ (by omega)).other 1 _ (by omega)).other 2 _ (by omega)).other 3 _ (by omega)).other 4 _ (by omega)).other 5 _ (by omega)).other 6 _ (by omega)).other 7 _ (by omega)).other 8 _ (by omega)).other 9 _ (by omega))
      have HS2_13 : Hid (Str W13 (W5.heap.size) (rowV (UndoP.raw l))) := Lib.hid (by rw [← hW13]; exact ((((((((((HS2_12.out).other 0 _ (by omega)).other 1 _ (by omega)).other 2 _ (by omega)).other 3 _ (by omega)).other 4 _ (by omega)).other 5 _ (by omega)).other 6 _ (by omega)).other 7 _ (by omega)).other 8 _ (by omega)).other 9 _ (by omega))
      have HS3_13 : Hid (Str W13 (W11.heap.size) #[.int .i64 rs, .string rk, .int .i64 rkind, .slice A10 n10 c10, .int .i64 rlo, .int .i64 rhi, .int .i64 rval]) := Lib.hid (by rw [← hW13]; exact ((((((((((HS3_12.out).other 0 _ (by omega)).other 1 _ (by omega)).other 2 _ (by omega)).other 3 _ (by omega)).other 4 _ (by omega)).other 5 _ (by omega)).other 6 _ (by omega)).other 7 _ (by omega)).other 8 _ (by omega)).other 9 _ (by omega))
      have hgr13 : W12.grownBy W13 (some (w.heap.size)) := by rw [← hW13]; exact grown_set (grown_set (grown_set (grown_set (grown_set (grown_set (grown_set (grown_set (grown_set (grown_set (grown_refl W12 (w.heap.size)) 0 (.int .i64 0)) 1 (.string ⟨#[]⟩)) 2 (.int .i64 0)) 3 (.string ⟨#[]⟩)) 4 (.int .i64 0)) 5 (.slice none 0 0)) 6 (.int .i64 0)) 7 (.int .i64 0)) 8 (.int .i64 0)) 9 (.int .i64 0)
      have HB_13 := Lib.hid (below_grown HB_12.out hgr13 (by omega))
      have hw_13 := HB_13.out.size
      have hws_13 := hgr13.size
      have HYz_13 := Lib.hid ((Bytes.grown HYz_12.out (Nat.le_refl _) HS0_12.out rfl hgr13).more hws_13)
      clear HYz_12
      clear hW13
      clear f0_12_0 f0_12_1 f0_12_2 f0_12_3 f0_12_4 f0_12_5 f0_12_6 f0_12_7 f0_12_8 f0_12_9 HS0_12 hf0_12 f1_12_0 f1_12_1 f1_12_2 f1_12_3 f1_12_4 f1_12_5 f1_12_6 f1_12_7 f1_12_8 f1_12_9 HS1_12 HS2_12 f3_12_0 f3_12_1 f3_12_2 f3_12_3 f3_12_4 f3_12_5 f3_12_6 HS3_12
      clear hgr13
      obtain ⟨f0_13_0, f0_13_1, f0_13_2, f0_13_3, f0_13_4, f0_13_5, f0_13_6, f0_13_7, f0_13_8, f0_13_9⟩ := str10 HS0_13.out
      have hl0_13 := HS0_13.out.lt
      have hf0_13 := fun j => HS0_13.out.frozen j
      obtain ⟨f1_13_0, f1_13_1, f1_13_2, f1_13_3, f1_13_4, f1_13_5, f1_13_6, f1_13_7, f1_13_8, f1_13_9⟩ := str10 HS1_13.out
      have hl1_13 := HS1_13.out.lt
      have hl2_13 := HS2_13.out.lt
      obtain ⟨f3_13_0, f3_13_1, f3_13_2, f3_13_3, f3_13_4, f3_13_5, f3_13_6⟩ := str7 HS3_13.out
      have hl3_13 := HS3_13.out.lt
      refine bodyPost_ret (v := .tuple #[.agg #[.int .i64 0, .string ⟨#[]⟩, .int .i64 0, .string ⟨#[]⟩, .int .i64 0, .slice none 0 0, .int .i64 0, .int .i64 0, .int .i64 0, .int .i64 0], .int .i64 0, .int .i64 13]) (by simp [results, Try.results16, go_sem, *]) rfl ?_
      rw [HE.out]
      exact ⟨none, 0, 0, rfl, Bytes.none_ _ _, HB_13.out⟩
    have HG5 := Lib.hid (UndoP.get_full5 x l (by omega) hb5)
    rw [HRR.out] at HG5
    rw [hb5] at HR_12
    clear hb5
    by_cases her : er = 0
    case neg =>
      have HE : Hid (UndoP.get (x :: l) = (UndoP.none, 0, 12)) := Lib.hid (by rw [HG5.out, if_neg (fun h => her h.1)])
      clear HR_12
      have her2 : (er == 0) = false := by simpa using her
      go_wp2_with fail
      generalize hW13 : ((((((((((W12).setCell ⟨w.heap.size, 0, none⟩ (.int .i64 0)).setCell ⟨w.heap.size, 1, none⟩ (.string ⟨#[]⟩)).setCell ⟨w.heap.size, 2, none⟩ (.int .i64 0)).setCell ⟨w.heap.size, 3, none⟩ (.string ⟨#[]⟩)).setCell ⟨w.heap.size, 4, none⟩ (.int .i64 0)).setCell ⟨w.heap.size, 5, none⟩ (.slice none 0 0)).setCell ⟨w.heap.size, 6, none⟩ (.int .i64 0)).setCell ⟨w.heap.size, 7, none⟩ (.int .i64 0)).setCell ⟨w.heap.size, 8, none⟩ (.int .i64 0)).setCell ⟨w.heap.size, 9, none⟩ (.int .i64 0) = W13
      have HS0_13 : Hid (Str W13 (w.heap.size) #[.int .i64 0, .string ⟨#[]⟩, .int .i64 0, .string ⟨#[]⟩, .int .i64 0, .slice none 0 0, .int .i64 0, .int .i64 0, .int .i64 0, .int .i64 0]) := Lib.hid (by rw [← hW13]; have := ((((((((((HS0_12.out).set 0 (.int .i64 0)).set 1 (.string ⟨#[]⟩)).set 2 (.int .i64 0)).set 3 (.string ⟨#[]⟩)).set 4 (.int .i64 0)).set 5 (.slice none 0 0)).set 6 (.int .i64 0)).set 7 (.int .i64 0)).set 8 (.int .i64 0)).set 9 (.int .i64 0); simpa using this)
      have HS1_13 : Hid (Str W13 (W2.heap.size) #[.int .i64 1, .string (strOf (UndoP.K l)), .int .i64 rs, .string rk, .int .i64 rkind, .slice A10 n10 c10, .int .i64 rlo, .int .i64 rhi, .int .i64 rval, .int .i64 0]) := Lib.hid (by rw [← hW13]; exact ((((((((((HS1_12.out).other 0 _ (by omega)).other 1 _ (by omega)).other 2 _ (by omega)).other 3 _ (by omega)).other 4 _ (by omega)).other 5 _ (by omega)).other 6 _ (by omega)).other 7 _ (by omega)).other 8 _ (by omega)).other 9 _ (by omega))
      have HS2_13 : Hid (Str W13 (W5.heap.size) (rowV (UndoP.raw l))) := Lib.hid (by rw [← hW13]; exact ((((((((((HS2_12.out).other 0 _ (by omega)).other 1 _ (by omega)).other 2 _ (by omega)).other 3 _ (by omega)).other 4 _ (by omega)).other 5 _ (by omega)).other 6 _ (by omega)).other 7 _ (by omega)).other 8 _ (by omega)).other 9 _ (by omega))
      have HS3_13 : Hid (Str W13 (W11.heap.size) #[.int .i64 rs, .string rk, .int .i64 rkind, .slice A10 n10 c10, .int .i64 rlo, .int .i64 rhi, .int .i64 rval]) := Lib.hid (by rw [← hW13]; exact ((((((((((HS3_12.out).other 0 _ (by omega)).other 1 _ (by omega)).other 2 _ (by omega)).other 3 _ (by omega)).other 4 _ (by omega)).other 5 _ (by omega)).other 6 _ (by omega)).other 7 _ (by omega)).other 8 _ (by omega)).other 9 _ (by omega))
      have hgr13 : W12.grownBy W13 (some (w.heap.size)) := by rw [← hW13]; exact grown_set (grown_set (grown_set (grown_set (grown_set (grown_set (grown_set (grown_set (grown_set (grown_set (grown_refl W12 (w.heap.size)) 0 (.int .i64 0)) 1 (.string ⟨#[]⟩)) 2 (.int .i64 0)) 3 (.string ⟨#[]⟩)) 4 (.int .i64 0)) 5 (.slice none 0 0)) 6 (.int .i64 0)) 7 (.int .i64 0)) 8 (.int .i64 0)) 9 (.int .i64 0)
      have HB_13 := Lib.hid (below_grown HB_12.out hgr13 (by omega))
      have hw_13 := HB_13.out.size
      have hws_13 := hgr13.size
      have HYz_13 := Lib.hid ((Bytes.grown HYz_12.out (Nat.le_refl _) HS0_12.out rfl hgr13).more hws_13)
      clear HYz_12
      clear hW13
      clear f0_12_0 f0_12_1 f0_12_2 f0_12_3 f0_12_4 f0_12_5 f0_12_6 f0_12_7 f0_12_8 f0_12_9 HS0_12 hf0_12 f1_12_0 f1_12_1 f1_12_2 f1_12_3 f1_12_4 f1_12_5 f1_12_6 f1_12_7 f1_12_8 f1_12_9 HS1_12 HS2_12 f3_12_0 f3_12_1 f3_12_2 f3_12_3 f3_12_4 f3_12_5 f3_12_6 HS3_12
      clear hgr13
      obtain ⟨f0_13_0, f0_13_1, f0_13_2, f0_13_3, f0_13_4, f0_13_5, f0_13_6, f0_13_7, f0_13_8, f0_13_9⟩ := str10 HS0_13.out
      have hl0_13 := HS0_13.out.lt
      have hf0_13 := fun j => HS0_13.out.frozen j
      obtain ⟨f1_13_0, f1_13_1, f1_13_2, f1_13_3, f1_13_4, f1_13_5, f1_13_6, f1_13_7, f1_13_8, f1_13_9⟩ := str10 HS1_13.out
      have hl1_13 := HS1_13.out.lt
      have hl2_13 := HS2_13.out.lt
      obtain ⟨f3_13_0, f3_13_1, f3_13_2, f3_13_3, f3_13_4, f3_13_5, f3_13_6⟩ := str7 HS3_13.out
      have hl3_13 := HS3_13.out.lt
      refine bodyPost_ret (v := .tuple #[.agg #[.int .i64 0, .string ⟨#[]⟩, .int .i64 0, .string ⟨#[]⟩, .int .i64 0, .slice none 0 0, .int .i64 0, .int .i64 0, .int .i64 0, .int .i64 0], .int .i64 0, .int .i64 12]) (by simp [results, Try.results16, go_sem, *]) rfl ?_
      rw [HE.out]
      exact ⟨none, 0, 0, rfl, Bytes.none_ _ _, HB_13.out⟩
    subst her
    go_wp2_with fail
    refine (check_any 1 (strOf (UndoP.K l)) A10 n10 c10 W12.heap.size rs rk rkind rdata rlo rhi rval 0 _ HYz_12.out (Nat.le_refl _) hrk HKS.out).mono ?_
    rintro e W13 ⟨rfl, hb13⟩
    rw [show UndoP.right ⟨1, strOf (UndoP.K l), ⟨rs, rk, ⟨rkind, rdata, rlo, rhi, rval⟩⟩, 0⟩ = UndoP.right (UndoP.U5 l) from by rw [HU5.out]; rfl]
    have HS0_13 := Lib.hid (HS0_12.out.next hb13)
    have HS1_13 := Lib.hid (HS1_12.out.next hb13)
    have HS2_13 := Lib.hid (HS2_12.out.next hb13)
    have HS3_13 := Lib.hid (HS3_12.out.next hb13)
    have HB_13 := Lib.hid (bstep HB_12.out hb13)
    have hw_13 := HB_13.out.size
    have hws_13 := (hb13).size
    have HYz_13 := Lib.hid (HYz_12.out.next hb13)
    clear HYz_12
    have HR_13 := Lib.hid (HR_12.out.below hb13)
    clear HR_12
    clear f0_12_0 f0_12_1 f0_12_2 f0_12_3 f0_12_4 f0_12_5 f0_12_6 f0_12_7 f0_12_8 f0_12_9 HS0_12 hf0_12 f1_12_0 f1_12_1 f1_12_2 f1_12_3 f1_12_4 f1_12_5 f1_12_6 f1_12_7 f1_12_8 f1_12_9 HS1_12 HS2_12 f3_12_0 f3_12_1 f3_12_2 f3_12_3 f3_12_4 f3_12_5 f3_12_6 HS3_12
    clear hb13
    obtain ⟨f0_13_0, f0_13_1, f0_13_2, f0_13_3, f0_13_4, f0_13_5, f0_13_6, f0_13_7, f0_13_8, f0_13_9⟩ := str10 HS0_13.out
    have hl0_13 := HS0_13.out.lt
    have hf0_13 := fun j => HS0_13.out.frozen j
    obtain ⟨f1_13_0, f1_13_1, f1_13_2, f1_13_3, f1_13_4, f1_13_5, f1_13_6, f1_13_7, f1_13_8, f1_13_9⟩ := str10 HS1_13.out
    have hl1_13 := HS1_13.out.lt
    have hl2_13 := HS2_13.out.lt
    obtain ⟨f3_13_0, f3_13_1, f3_13_2, f3_13_3, f3_13_4, f3_13_5, f3_13_6⟩ := str7 HS3_13.out
    have hl3_13 := HS3_13.out.lt
    cases hr : UndoP.right (UndoP.U5 l)
    case false =>
      have HE : Hid (UndoP.get (x :: l) = (UndoP.none, 0, 12)) := Lib.hid (by rw [HG5.out, if_neg (by rw [hr]; simp)])
      rw [show CellP.code false = 1 from rfl]
      clear HR_13
      go_wp2_with fail
      generalize hW14 : ((((((((((W13).setCell ⟨w.heap.size, 0, none⟩ (.int .i64 0)).setCell ⟨w.heap.size, 1, none⟩ (.string ⟨#[]⟩)).setCell ⟨w.heap.size, 2, none⟩ (.int .i64 0)).setCell ⟨w.heap.size, 3, none⟩ (.string ⟨#[]⟩)).setCell ⟨w.heap.size, 4, none⟩ (.int .i64 0)).setCell ⟨w.heap.size, 5, none⟩ (.slice none 0 0)).setCell ⟨w.heap.size, 6, none⟩ (.int .i64 0)).setCell ⟨w.heap.size, 7, none⟩ (.int .i64 0)).setCell ⟨w.heap.size, 8, none⟩ (.int .i64 0)).setCell ⟨w.heap.size, 9, none⟩ (.int .i64 0) = W14
      have HS0_14 : Hid (Str W14 (w.heap.size) #[.int .i64 0, .string ⟨#[]⟩, .int .i64 0, .string ⟨#[]⟩, .int .i64 0, .slice none 0 0, .int .i64 0, .int .i64 0, .int .i64 0, .int .i64 0]) := Lib.hid (by rw [← hW14]; have := ((((((((((HS0_13.out).set 0 (.int .i64 0)).set 1 (.string ⟨#[]⟩)).set 2 (.int .i64 0)).set 3 (.string ⟨#[]⟩)).set 4 (.int .i64 0)).set 5 (.slice none 0 0)).set 6 (.int .i64 0)).set 7 (.int .i64 0)).set 8 (.int .i64 0)).set 9 (.int .i64 0); simpa using this)
      have HS1_14 : Hid (Str W14 (W2.heap.size) #[.int .i64 1, .string (strOf (UndoP.K l)), .int .i64 rs, .string rk, .int .i64 rkind, .slice A10 n10 c10, .int .i64 rlo, .int .i64 rhi, .int .i64 rval, .int .i64 0]) := Lib.hid (by rw [← hW14]; exact ((((((((((HS1_13.out).other 0 _ (by omega)).other 1 _ (by omega)).other 2 _ (by omega)).other 3 _ (by omega)).other 4 _ (by omega)).other 5 _ (by omega)).other 6 _ (by omega)).other 7 _ (by omega)).other 8 _ (by omega)).other 9 _ (by omega))
      have HS2_14 : Hid (Str W14 (W5.heap.size) (rowV (UndoP.raw l))) := Lib.hid (by rw [← hW14]; exact ((((((((((HS2_13.out).other 0 _ (by omega)).other 1 _ (by omega)).other 2 _ (by omega)).other 3 _ (by omega)).other 4 _ (by omega)).other 5 _ (by omega)).other 6 _ (by omega)).other 7 _ (by omega)).other 8 _ (by omega)).other 9 _ (by omega))
      have HS3_14 : Hid (Str W14 (W11.heap.size) #[.int .i64 rs, .string rk, .int .i64 rkind, .slice A10 n10 c10, .int .i64 rlo, .int .i64 rhi, .int .i64 rval]) := Lib.hid (by rw [← hW14]; exact ((((((((((HS3_13.out).other 0 _ (by omega)).other 1 _ (by omega)).other 2 _ (by omega)).other 3 _ (by omega)).other 4 _ (by omega)).other 5 _ (by omega)).other 6 _ (by omega)).other 7 _ (by omega)).other 8 _ (by omega)).other 9 _ (by omega))
      have hgr14 : W13.grownBy W14 (some (w.heap.size)) := by rw [← hW14]; exact grown_set (grown_set (grown_set (grown_set (grown_set (grown_set (grown_set (grown_set (grown_set (grown_set (grown_refl W13 (w.heap.size)) 0 (.int .i64 0)) 1 (.string ⟨#[]⟩)) 2 (.int .i64 0)) 3 (.string ⟨#[]⟩)) 4 (.int .i64 0)) 5 (.slice none 0 0)) 6 (.int .i64 0)) 7 (.int .i64 0)) 8 (.int .i64 0)) 9 (.int .i64 0)
      have HB_14 := Lib.hid (below_grown HB_13.out hgr14 (by omega))
      have hw_14 := HB_14.out.size
      have hws_14 := hgr14.size
      have HYz_14 := Lib.hid ((Bytes.grown HYz_13.out (Nat.le_refl _) HS0_13.out rfl hgr14).more hws_14)
      clear HYz_13
      clear hW14
      clear f0_13_0 f0_13_1 f0_13_2 f0_13_3 f0_13_4 f0_13_5 f0_13_6 f0_13_7 f0_13_8 f0_13_9 HS0_13 hf0_13 f1_13_0 f1_13_1 f1_13_2 f1_13_3 f1_13_4 f1_13_5 f1_13_6 f1_13_7 f1_13_8 f1_13_9 HS1_13 HS2_13 f3_13_0 f3_13_1 f3_13_2 f3_13_3 f3_13_4 f3_13_5 f3_13_6 HS3_13
      clear hgr14
      obtain ⟨f0_14_0, f0_14_1, f0_14_2, f0_14_3, f0_14_4, f0_14_5, f0_14_6, f0_14_7, f0_14_8, f0_14_9⟩ := str10 HS0_14.out
      have hl0_14 := HS0_14.out.lt
      have hf0_14 := fun j => HS0_14.out.frozen j
      obtain ⟨f1_14_0, f1_14_1, f1_14_2, f1_14_3, f1_14_4, f1_14_5, f1_14_6, f1_14_7, f1_14_8, f1_14_9⟩ := str10 HS1_14.out
      have hl1_14 := HS1_14.out.lt
      have hl2_14 := HS2_14.out.lt
      obtain ⟨f3_14_0, f3_14_1, f3_14_2, f3_14_3, f3_14_4, f3_14_5, f3_14_6⟩ := str7 HS3_14.out
      have hl3_14 := HS3_14.out.lt
      refine bodyPost_ret (v := .tuple #[.agg #[.int .i64 0, .string ⟨#[]⟩, .int .i64 0, .string ⟨#[]⟩, .int .i64 0, .slice none 0 0, .int .i64 0, .int .i64 0, .int .i64 0, .int .i64 0], .int .i64 0, .int .i64 12]) (by simp [results, Try.results16, go_sem, *]) rfl ?_
      rw [HE.out]
      exact ⟨none, 0, 0, rfl, Bytes.none_ _ _, HB_14.out⟩
    have HE : Hid (UndoP.get (x :: l) = (UndoP.U5 l, ((l.length + 1 : Nat) : Int) - ((UndoP.L5 l).length : Int), 0)) := Lib.hid (by rw [HG5.out, if_pos (by simp [hr])])
    rw [show CellP.code true = 0 from rfl]
    have hn9 : n = l.length + 1 := by have := HLN.out; simp at this; omega
    have HNL : Hid ((n : Int) = ((l.length + 1 : Nat) : Int)) := Lib.hid (by omega)
    have hL5 : (UndoP.L5 l).length ≤ 1000000 := by have := UndoP.L5_le l; omega
    clear hn9
    go_wp2_with fail
    obtain ⟨tr, htr⟩ := HS0_13.out
    have HT := Lib.hid htr
    clear htr
    have HG := Lib.hid (HS0_13.out.lt)
    refine Reg.wp_region_vals (R := (Reg.putW w.heap.size (.cells #[.int .i64 1, .string (strOf (UndoP.K l)), .int .i64 rs, .string rk, .int .i64 rkind, .slice A10 n10 c10, .int .i64 rlo, .int .i64 rhi, .int .i64 rval, .int .i64 0] tr (0, 0)))) (W := W13) [Reg.eqv (.agg #[.int .i64 1, .string (strOf (UndoP.K l)), .int .i64 rs, .string rk, .int .i64 rkind, .slice A10 n10 c10, .int .i64 rlo, .int .i64 rhi, .int .i64 rval, .int .i64 0]), Reg.eqv (.slice A n c), Reg.eqv (.int .i64 (n : Int)), Reg.eqv (.pointer (some ⟨b, 0, none⟩)), Reg.eqv (.int .i64 ((UndoP.L5 l).length : Int)), Reg.eqv (.int .i64 ((n : Int) - ((UndoP.L5 l).length : Int))), Reg.written w.heap.size (.cells #[.int .i64 1, .string (strOf (UndoP.K l)), .int .i64 rs, .string rk, .int .i64 rkind, .slice A10 n10 c10, .int .i64 rlo, .int .i64 rhi, .int .i64 rval, .int .i64 0] tr (0, 0)), Reg.eqv (.int .i64 ((n : Int) - ((UndoP.L5 l).length : Int))), Reg.eqv (.int .i64 0)] 77 [[(6, none)], [(0, none)], [(72, some 1)], [(5, none)], [(74, some 3)], [(73, some 2), (75, some 4)], [(2, none), (71, some 0)], [(76, some 5)], []] rfl (by kernel_rfl) (by kernel_rfl) (by kernel_rfl) ?_ [some 71, some 72, some 73, some 74, some 75, some 76, none, some 3, some 4] (by kernel_rfl) ?_
    · refine ⟨?_, ?_, ?_, ?_, ?_, ?_, ?_, ?_, ?_, trivial⟩
      · intro ax wx hx hs
        obtain ⟨e6, -⟩ := hs
        have g6 := Reg.ev (v := .pointer (some ⟨W2.heap.size, 0, none⟩)) e6
        refine Reg.obl_free rfl ?_
        have hc := fun j => Reg.put_cell hx HG.out (W2.heap.size) j (by omega) (by omega)
        exact Reg.wp_eqv (Option.some_ne_none _) (by go_simp) rfl
      · intro ax wx hx hs
        obtain ⟨e0, -⟩ := hs
        have g0 := Reg.ev (v := .slice A n c) e0
        exact Reg.obl_free rfl (Reg.wp_eqv (Option.some_ne_none _) (by go_simp) rfl)
      · intro ax wx hx hs
        obtain ⟨e72, -⟩ := hs
        have g72 := Reg.ev (v := .slice A n c) e72
        exact Reg.obl_free rfl (Reg.wp_eqv (Option.some_ne_none _) (by go_simp) rfl)
      · intro ax wx hx hs
        obtain ⟨e5, -⟩ := hs
        have g5 := Reg.ev (v := .pointer (some ⟨b, 0, none⟩)) e5
        exact Reg.obl_free rfl (Reg.wp_eqv (Option.some_ne_none _) (by go_simp) rfl)
      · intro ax wx hx hs
        obtain ⟨e74, -⟩ := hs
        have g74 := Reg.ev (v := .pointer (some ⟨b, 0, none⟩)) e74
        refine Reg.obl_free rfl ?_
        have hrd := Rd.grown HR_13.out (Nat.le_refl _) HS0_13.out rfl (Reg.put_grown hx HG.out) (by omega)
        go_simp
        refine (RdW.left_any b _ _ _ hrd).mono ?_
        rintro e wy ⟨rfl, rfl⟩
        exact Reg.done (Option.some_ne_none _) (by first | rfl | simp) (Reg.put_below (bsame _))
      · intro ax wx hx hs
        obtain ⟨e73, e75, -⟩ := hs
        have g73 := Reg.ev (v := .int .i64 (n : Int)) e73
        have g75 := Reg.ev (v := .int .i64 ((UndoP.L5 l).length : Int)) e75
        refine Reg.obl_free rfl ?_
        exact Reg.wp_eqv (Option.some_ne_none _) (by go_simp; exact IntWalk.i64_in _ (by omega)) rfl
      · intro ax wx hx hs
        obtain ⟨e2, e71, -⟩ := hs
        have g2 := Reg.ev (v := .pointer (some ⟨w.heap.size, 0, none⟩)) e2
        have g71 := Reg.ev (v := .agg #[.int .i64 1, .string (strOf (UndoP.K l)), .int .i64 rs, .string rk, .int .i64 rkind, .slice A10 n10 c10, .int .i64 rlo, .int .i64 rhi, .int .i64 rval, .int .i64 0]) e71
        refine Reg.obl_free rfl ?_
        rcases Reg.put_str hx HT.out with hgs | hgs
        all_goals
          have hS : Str wx w.heap.size _ := ⟨_, hgs⟩
          obtain ⟨y0, y1, y2, y3, y4, y5, y6, y7, y8, y9⟩ := str10 hS
          have hfz := fun j => hS.frozen j
          have ho : _ := Reg.setStr_heap (Reg.setStr_heap (Reg.setStr_heap (Reg.setStr_heap (Reg.setStr_heap (Reg.setStr_heap (Reg.setStr_heap (Reg.setStr_heap (Reg.setStr_heap (Reg.setStr_heap (hgs) 0 (.int .i64 1)) 1 (.string (strOf (UndoP.K l)))) 2 (.int .i64 rs)) 3 (.string rk)) 4 (.int .i64 rkind)) 5 (.slice A10 n10 c10)) 6 (.int .i64 rlo)) 7 (.int .i64 rhi)) 8 (.int .i64 rval)) 9 (.int .i64 0)
          go_simp
          exact ⟨undef, rfl, fun _ => rfl, (show _ = some _ from (by simpa using ho)), Reg.put_set (grown_set (grown_set (grown_set (grown_set (grown_set (grown_set (grown_set (grown_set (grown_set (grown_set (grown_refl wx _) 0 _) 1 _) 2 _) 3 _) 4 _) 5 _) 6 _) 7 _) 8 _) 9 _) (by simpa using ho)⟩
      · intro ax wx hx hs
        obtain ⟨e76, -⟩ := hs
        have g76 := Reg.ev (v := .int .i64 ((n : Int) - ((UndoP.L5 l).length : Int))) e76
        exact Reg.obl_free rfl (Reg.wp_eqv (Option.some_ne_none _) (by go_simp) rfl)
      · intro ax wx hx hs
        exact Reg.obl_free rfl (Reg.wp_eqv (Option.some_ne_none _) (by go_simp) rfl)
    · intro W14 hwf
      simp only [Reg.Fin]
      rintro _ rfl _ rfl _ rfl _ rfl _ rfl _ rfl vn6 hn6 _ rfl _ rfl
      go_simp
      have hgr := Reg.put_grown hwf HG.out
      have HSF : Hid (Str W14 w.heap.size #[.int .i64 1, .string (strOf (UndoP.K l)), .int .i64 rs, .string rk, .int .i64 rkind, .slice A10 n10 c10, .int .i64 rlo, .int .i64 rhi, .int .i64 rval, .int .i64 0]) := Lib.hid ⟨_, hn6⟩
      have HBF := Lib.hid (below_grown HB_13.out hgr (by omega))
      have HYF := Lib.hid ((Bytes.grown HYz_13.out (Nat.le_refl _) HS0_13.out rfl hgr).more hgr.size)
      clear hgr hwf hn6
      obtain ⟨z0, z1, z2, z3, z4, z5, z6, z7, z8, z9⟩ := str10 HSF.out
      have hlk := HSF.out.lt
      go_wp2_with fail
      refine bodyPost_ret (v := .tuple #[.agg #[.int .i64 1, .string (strOf (UndoP.K l)), .int .i64 rs, .string rk, .int .i64 rkind, .slice A10 n10 c10, .int .i64 rlo, .int .i64 rhi, .int .i64 rval, .int .i64 0], .int .i64 ((n : Int) - ((UndoP.L5 l).length : Int)), .int .i64 0]) (by simp [results, Try.results16, go_sem, z0, z1, z2, z3, z4, z5, z6, z7, z8, z9]) rfl ?_
      rw [HE.out, HNL.out, HU5.out]
      exact ⟨A10, n10, c10, rfl, HYF.out, HBF.out⟩

set_option maxRecDepth 100000 in
set_option maxHeartbeats 4000000 in
theorem get_any (A : Option Addr) (n c B : Nat) (l : List UInt8) (w : World) (h : Bytes w B A n c l) (hB : B ≤ w.heap.size) (hn : n ≤ 1000000)  : Calls Try.prog 16 #[.slice A n c] w (GotUndo w (UndoP.get l)) := by
  cases l with
  | nil => exact get_nil A n c B w h hB hn
  | cons x l =>
    by_cases h0 : (x.toNat : Int) = 0
    · exact get_0 A n c B x l w h hB hn h0
    by_cases h1 : (x.toNat : Int) = 1
    · exact get_1 A n c B x l w h hB hn h1
    by_cases h2 : (x.toNat : Int) = 2
    · exact get_2 A n c B x l w h hB hn h2
    by_cases h3 : (x.toNat : Int) = 3
    · exact get_3 A n c B x l w h hB hn h3
    exact get_big A n c B x l w h hB hn (by omega)
end Go.Proofs.Ytcagflakmokoiaa.UndoW
namespace Go.Proofs.Ytcagflakmokoiaa.UndoP
theorem get_one (x : UInt8) (h1 : 1 ≤ x.toNat) (h3 : x.toNat ≤ 3) : get [x] = (none, 0, 13) := by
  unfold get
  rw [if_neg (by simp), if_neg (by simp; omega), if_neg (by simp; omega), if_pos (by left; simp)]
theorem get_two (x y : UInt8) (l : List UInt8) (h1 : 1 ≤ x.toNat) (h3 : x.toNat ≤ 3) : get (x :: y :: l) = (if (x :: y :: l).length < 2 + y.toNat + size x.toNat then (none, 0, 13) else if err x.toNat (x :: y :: l) = 0 ∧ right (seem x.toNat (x :: y :: l)) = true then (seem x.toNat (x :: y :: l), ((2 + y.toNat + size x.toNat : Nat) : Int), 0) else (none, 0, 12)) := by
  unfold get
  rw [if_neg (by simp), if_neg (by simp; omega), if_neg (by simp; omega), show ((x :: y :: l).getD 0 0) = x from rfl, show ((x :: y :: l).getD 1 0) = y from rfl]
  by_cases h : (x :: y :: l).length < 2 + y.toNat + size x.toNat
  · rw [if_pos (.inr h), if_pos h]
  · rw [if_neg (by simp at h ⊢; omega), if_neg h]
end Go.Proofs.Ytcagflakmokoiaa.UndoP
namespace Go.Proofs.Ytcagflakmokoiaa.RefUndoG
open Go.RowKit UndoW
set_option linter.unusedVariables false
attribute [local go_sem ↓] cut_fold
theorem key_le2 (l : List UInt8) : (SlotP.get l).1.key.size ≤ l.length := by
  unfold SlotP.get
  split
  · exact Nat.zero_le _
  · split
    · show ((l.drop 2).take _).length ≤ _
      simp
      omega
    · exact Nat.zero_le _
theorem val0 (x : UInt8) (l : List UInt8) : NumP.val (x :: l) 0 1 = (x.toNat : Int) := (num1 x l).1
theorem val1 (x y : UInt8) (l : List UInt8) : NumP.val (x :: y :: l) 1 1 = (y.toNat : Int) := by
  rw [← val0 y l]
  unfold NumP.val
  rw [if_pos (by simp), if_pos (by simp)]
  rfl

set_option maxRecDepth 100000 in
set_option maxHeartbeats 2000000 in
theorem get_nil (A : Option Addr) (n c B : Nat)  (w : World) (h : Bytes w B A n c []) (hB : B ≤ w.heap.size) (hn : n ≤ 1000000)  : Calls Try.prog 17 #[.slice A n c] w (GotUndo w (UndoP.get [])) := by
  rw [UndoP.get_nil]
  have Hh := Lib.hid h
  have hln := h.len
  have HLN := Lib.hid hln
  have hcm := h.2.2.1
  have hnc := h.2.1
  unfold maxLen at hcm
  clear h hln
  go_enter Try.func17, Try.ntmps17
  go_wp2_with fail
  generalize hW0 : (w).alloc (.cells #[.int .i64 0, .string ⟨#[]⟩, .int .i64 0, .string ⟨#[]⟩, .int .i64 0, .slice none 0 0, .int .i64 0, .int .i64 0, .int .i64 0, .int .i64 0] 29) = W0
  have HS0_0 : Hid (Str W0 (w.heap.size) #[.int .i64 0, .string ⟨#[]⟩, .int .i64 0, .string ⟨#[]⟩, .int .i64 0, .slice none 0 0, .int .i64 0, .int .i64 0, .int .i64 0, .int .i64 0]) := Lib.hid (by rw [← hW0]; have := Str.new (w) #[.int .i64 0, .string ⟨#[]⟩, .int .i64 0, .string ⟨#[]⟩, .int .i64 0, .slice none 0 0, .int .i64 0, .int .i64 0, .int .i64 0, .int .i64 0] 29; simpa using this)
  have HB_0 : Hid (Below w.heap.size w W0) := Lib.hid (by rw [← hW0]; exact balloc (bsame w) _)
  have hw_0 := HB_0.out.size
  clear hW0
  obtain ⟨f0_0_0, f0_0_1, f0_0_2, f0_0_3, f0_0_4, f0_0_5, f0_0_6, f0_0_7, f0_0_8, f0_0_9⟩ := str10 HS0_0.out
  have hl0_0 := HS0_0.out.lt
  have hf0_0 := fun j => HS0_0.out.frozen j
  refine (NumW.at_any A n c B 0 1 [] _ (Hh.out.below (HB_0.out.mono hB)) (by omega) (by omega) (by omega)).mono ?_
  rintro e W0_ ⟨rfl, rfl⟩
  rw [show NumP.there [] 0 1 = false from rfl]
  go_wp2_with fail
  generalize hW1 : ((((((((((W0).setCell ⟨w.heap.size, 0, none⟩ (.int .i64 0)).setCell ⟨w.heap.size, 1, none⟩ (.string ⟨#[]⟩)).setCell ⟨w.heap.size, 2, none⟩ (.int .i64 0)).setCell ⟨w.heap.size, 3, none⟩ (.string ⟨#[]⟩)).setCell ⟨w.heap.size, 4, none⟩ (.int .i64 0)).setCell ⟨w.heap.size, 5, none⟩ (.slice none 0 0)).setCell ⟨w.heap.size, 6, none⟩ (.int .i64 0)).setCell ⟨w.heap.size, 7, none⟩ (.int .i64 0)).setCell ⟨w.heap.size, 8, none⟩ (.int .i64 0)).setCell ⟨w.heap.size, 9, none⟩ (.int .i64 0) = W1
  have HS0_1 : Hid (Str W1 (w.heap.size) #[.int .i64 0, .string ⟨#[]⟩, .int .i64 0, .string ⟨#[]⟩, .int .i64 0, .slice none 0 0, .int .i64 0, .int .i64 0, .int .i64 0, .int .i64 0]) := Lib.hid (by rw [← hW1]; have := ((((((((((HS0_0.out).set 0 (.int .i64 0)).set 1 (.string ⟨#[]⟩)).set 2 (.int .i64 0)).set 3 (.string ⟨#[]⟩)).set 4 (.int .i64 0)).set 5 (.slice none 0 0)).set 6 (.int .i64 0)).set 7 (.int .i64 0)).set 8 (.int .i64 0)).set 9 (.int .i64 0); simpa using this)
  have hgr1 : W0.grownBy W1 (some (w.heap.size)) := by rw [← hW1]; exact grown_set (grown_set (grown_set (grown_set (grown_set (grown_set (grown_set (grown_set (grown_set (grown_set (grown_refl W0 (w.heap.size)) 0 (.int .i64 0)) 1 (.string ⟨#[]⟩)) 2 (.int .i64 0)) 3 (.string ⟨#[]⟩)) 4 (.int .i64 0)) 5 (.slice none 0 0)) 6 (.int .i64 0)) 7 (.int .i64 0)) 8 (.int .i64 0)) 9 (.int .i64 0)
  have HB_1 := Lib.hid (below_grown HB_0.out hgr1 (by omega))
  have hw_1 := HB_1.out.size
  have hws_1 := hgr1.size
  clear hW1
  clear f0_0_0 f0_0_1 f0_0_2 f0_0_3 f0_0_4 f0_0_5 f0_0_6 f0_0_7 f0_0_8 f0_0_9 HS0_0 hf0_0
  clear hgr1
  obtain ⟨f0_1_0, f0_1_1, f0_1_2, f0_1_3, f0_1_4, f0_1_5, f0_1_6, f0_1_7, f0_1_8, f0_1_9⟩ := str10 HS0_1.out
  have hl0_1 := HS0_1.out.lt
  have hf0_1 := fun j => HS0_1.out.frozen j
  exact bodyPost_ret (v := .tuple #[.agg #[.int .i64 0, .string ⟨#[]⟩, .int .i64 0, .string ⟨#[]⟩, .int .i64 0, .slice none 0 0, .int .i64 0, .int .i64 0, .int .i64 0, .int .i64 0], .int .i64 0, .int .i64 13]) (by simp [results, Try.results17, go_sem, *]) rfl ⟨none, 0, 0, rfl, Bytes.none_ _ _, HB_1.out⟩

set_option maxRecDepth 100000 in
set_option maxHeartbeats 2000000 in
theorem get_big (A : Option Addr) (n c B : Nat) (x : UInt8) (l : List UInt8) (w : World) (h : Bytes w B A n c (x :: l)) (hB : B ≤ w.heap.size) (hn : n ≤ 1000000) (hx : 3 < x.toNat) : Calls Try.prog 17 #[.slice A n c] w (GotUndo w (UndoP.get (x :: l))) := by
  rw [UndoP.get_form x l hx]
  obtain ⟨xv, hxv, hx3⟩ : ∃ xv : Int, (x.toNat : Int) = xv ∧ 3 < xv := ⟨_, rfl, by omega⟩
  clear hx
  have Hh := Lib.hid h
  have hln := h.len
  have HLN := Lib.hid hln
  have hcm := h.2.2.1
  have hnc := h.2.1
  unfold maxLen at hcm
  clear h hln
  go_enter Try.func17, Try.ntmps17
  go_wp2_with fail
  generalize hW0 : (w).alloc (.cells #[.int .i64 0, .string ⟨#[]⟩, .int .i64 0, .string ⟨#[]⟩, .int .i64 0, .slice none 0 0, .int .i64 0, .int .i64 0, .int .i64 0, .int .i64 0] 29) = W0
  have HS0_0 : Hid (Str W0 (w.heap.size) #[.int .i64 0, .string ⟨#[]⟩, .int .i64 0, .string ⟨#[]⟩, .int .i64 0, .slice none 0 0, .int .i64 0, .int .i64 0, .int .i64 0, .int .i64 0]) := Lib.hid (by rw [← hW0]; have := Str.new (w) #[.int .i64 0, .string ⟨#[]⟩, .int .i64 0, .string ⟨#[]⟩, .int .i64 0, .slice none 0 0, .int .i64 0, .int .i64 0, .int .i64 0, .int .i64 0] 29; simpa using this)
  have HB_0 : Hid (Below w.heap.size w W0) := Lib.hid (by rw [← hW0]; exact balloc (bsame w) _)
  have hw_0 := HB_0.out.size
  clear hW0
  obtain ⟨f0_0_0, f0_0_1, f0_0_2, f0_0_3, f0_0_4, f0_0_5, f0_0_6, f0_0_7, f0_0_8, f0_0_9⟩ := str10 HS0_0.out
  have hl0_0 := HS0_0.out.lt
  have hf0_0 := fun j => HS0_0.out.frozen j
  refine (NumW.at_any A n c B 0 1 (x :: l) _ (Hh.out.below (HB_0.out.mono hB)) (by omega) (by omega) (by omega)).mono ?_
  rintro e W0_ ⟨rfl, rfl⟩
  rw [show NumP.there (x :: l) 0 1 = true from by simp [NumP.there], val0, hxv]
  go_wp2_with fail
  generalize hW1 : ((((((((((W0).setCell ⟨w.heap.size, 0, none⟩ (.int .i64 0)).setCell ⟨w.heap.size, 1, none⟩ (.string ⟨#[]⟩)).setCell ⟨w.heap.size, 2, none⟩ (.int .i64 0)).setCell ⟨w.heap.size, 3, none⟩ (.string ⟨#[]⟩)).setCell ⟨w.heap.size, 4, none⟩ (.int .i64 0)).setCell ⟨w.heap.size, 5, none⟩ (.slice none 0 0)).setCell ⟨w.heap.size, 6, none⟩ (.int .i64 0)).setCell ⟨w.heap.size, 7, none⟩ (.int .i64 0)).setCell ⟨w.heap.size, 8, none⟩ (.int .i64 0)).setCell ⟨w.heap.size, 9, none⟩ (.int .i64 0) = W1
  have HS0_1 : Hid (Str W1 (w.heap.size) #[.int .i64 0, .string ⟨#[]⟩, .int .i64 0, .string ⟨#[]⟩, .int .i64 0, .slice none 0 0, .int .i64 0, .int .i64 0, .int .i64 0, .int .i64 0]) := Lib.hid (by rw [← hW1]; have := ((((((((((HS0_0.out).set 0 (.int .i64 0)).set 1 (.string ⟨#[]⟩)).set 2 (.int .i64 0)).set 3 (.string ⟨#[]⟩)).set 4 (.int .i64 0)).set 5 (.slice none 0 0)).set 6 (.int .i64 0)).set 7 (.int .i64 0)).set 8 (.int .i64 0)).set 9 (.int .i64 0); simpa using this)
  have hgr1 : W0.grownBy W1 (some (w.heap.size)) := by rw [← hW1]; exact grown_set (grown_set (grown_set (grown_set (grown_set (grown_set (grown_set (grown_set (grown_set (grown_set (grown_refl W0 (w.heap.size)) 0 (.int .i64 0)) 1 (.string ⟨#[]⟩)) 2 (.int .i64 0)) 3 (.string ⟨#[]⟩)) 4 (.int .i64 0)) 5 (.slice none 0 0)) 6 (.int .i64 0)) 7 (.int .i64 0)) 8 (.int .i64 0)) 9 (.int .i64 0)
  have HB_1 := Lib.hid (below_grown HB_0.out hgr1 (by omega))
  have hw_1 := HB_1.out.size
  have hws_1 := hgr1.size
  clear hW1
  clear f0_0_0 f0_0_1 f0_0_2 f0_0_3 f0_0_4 f0_0_5 f0_0_6 f0_0_7 f0_0_8 f0_0_9 HS0_0 hf0_0
  clear hgr1
  obtain ⟨f0_1_0, f0_1_1, f0_1_2, f0_1_3, f0_1_4, f0_1_5, f0_1_6, f0_1_7, f0_1_8, f0_1_9⟩ := str10 HS0_1.out
  have hl0_1 := HS0_1.out.lt
  have hf0_1 := fun j => HS0_1.out.frozen j
  exact bodyPost_ret (v := .tuple #[.agg #[.int .i64 0, .string ⟨#[]⟩, .int .i64 0, .string ⟨#[]⟩, .int .i64 0, .slice none 0 0, .int .i64 0, .int .i64 0, .int .i64 0, .int .i64 0], .int .i64 0, .int .i64 12]) (by simp [results, Try.results17, go_sem, *]) rfl ⟨none, 0, 0, rfl, Bytes.none_ _ _, HB_1.out⟩

set_option maxRecDepth 100000 in
set_option maxHeartbeats 2000000 in
theorem get_0 (A : Option Addr) (n c B : Nat) (x : UInt8) (l : List UInt8) (w : World) (h : Bytes w B A n c (x :: l)) (hB : B ≤ w.heap.size) (hn : n ≤ 1000000) (hx : (x.toNat : Int) = 0) : Calls Try.prog 17 #[.slice A n c] w (GotUndo w (UndoP.get (x :: l))) := by
  rw [UndoP.get_zero x l (by omega)]
  have Hh := Lib.hid h
  have hln := h.len
  have HLN := Lib.hid hln
  have hcm := h.2.2.1
  have hnc := h.2.1
  unfold maxLen at hcm
  clear h hln
  go_enter Try.func17, Try.ntmps17
  go_wp2_with fail
  generalize hW0 : (w).alloc (.cells #[.int .i64 0, .string ⟨#[]⟩, .int .i64 0, .string ⟨#[]⟩, .int .i64 0, .slice none 0 0, .int .i64 0, .int .i64 0, .int .i64 0, .int .i64 0] 29) = W0
  have HS0_0 : Hid (Str W0 (w.heap.size) #[.int .i64 0, .string ⟨#[]⟩, .int .i64 0, .string ⟨#[]⟩, .int .i64 0, .slice none 0 0, .int .i64 0, .int .i64 0, .int .i64 0, .int .i64 0]) := Lib.hid (by rw [← hW0]; have := Str.new (w) #[.int .i64 0, .string ⟨#[]⟩, .int .i64 0, .string ⟨#[]⟩, .int .i64 0, .slice none 0 0, .int .i64 0, .int .i64 0, .int .i64 0, .int .i64 0] 29; simpa using this)
  have HB_0 : Hid (Below w.heap.size w W0) := Lib.hid (by rw [← hW0]; exact balloc (bsame w) _)
  have hw_0 := HB_0.out.size
  clear hW0
  obtain ⟨f0_0_0, f0_0_1, f0_0_2, f0_0_3, f0_0_4, f0_0_5, f0_0_6, f0_0_7, f0_0_8, f0_0_9⟩ := str10 HS0_0.out
  have hl0_0 := HS0_0.out.lt
  have hf0_0 := fun j => HS0_0.out.frozen j
  refine (NumW.at_any A n c B 0 1 (x :: l) _ (Hh.out.below (HB_0.out.mono hB)) (by omega) (by omega) (by omega)).mono ?_
  rintro e W0_ ⟨rfl, rfl⟩
  rw [show NumP.there (x :: l) 0 1 = true from by simp [NumP.there], val0, hx]
  go_wp2_with fail
  generalize hW1 : ((((((((((W0).setCell ⟨w.heap.size, 0, none⟩ (.int .i64 0)).setCell ⟨w.heap.size, 1, none⟩ (.string ⟨#[]⟩)).setCell ⟨w.heap.size, 2, none⟩ (.int .i64 0)).setCell ⟨w.heap.size, 3, none⟩ (.string ⟨#[]⟩)).setCell ⟨w.heap.size, 4, none⟩ (.int .i64 0)).setCell ⟨w.heap.size, 5, none⟩ (.slice none 0 0)).setCell ⟨w.heap.size, 6, none⟩ (.int .i64 0)).setCell ⟨w.heap.size, 7, none⟩ (.int .i64 0)).setCell ⟨w.heap.size, 8, none⟩ (.int .i64 0)).setCell ⟨w.heap.size, 9, none⟩ (.int .i64 0) = W1
  have HS0_1 : Hid (Str W1 (w.heap.size) #[.int .i64 0, .string ⟨#[]⟩, .int .i64 0, .string ⟨#[]⟩, .int .i64 0, .slice none 0 0, .int .i64 0, .int .i64 0, .int .i64 0, .int .i64 0]) := Lib.hid (by rw [← hW1]; have := ((((((((((HS0_0.out).set 0 (.int .i64 0)).set 1 (.string ⟨#[]⟩)).set 2 (.int .i64 0)).set 3 (.string ⟨#[]⟩)).set 4 (.int .i64 0)).set 5 (.slice none 0 0)).set 6 (.int .i64 0)).set 7 (.int .i64 0)).set 8 (.int .i64 0)).set 9 (.int .i64 0); simpa using this)
  have hgr1 : W0.grownBy W1 (some (w.heap.size)) := by rw [← hW1]; exact grown_set (grown_set (grown_set (grown_set (grown_set (grown_set (grown_set (grown_set (grown_set (grown_set (grown_refl W0 (w.heap.size)) 0 (.int .i64 0)) 1 (.string ⟨#[]⟩)) 2 (.int .i64 0)) 3 (.string ⟨#[]⟩)) 4 (.int .i64 0)) 5 (.slice none 0 0)) 6 (.int .i64 0)) 7 (.int .i64 0)) 8 (.int .i64 0)) 9 (.int .i64 0)
  have HB_1 := Lib.hid (below_grown HB_0.out hgr1 (by omega))
  have hw_1 := HB_1.out.size
  have hws_1 := hgr1.size
  clear hW1
  clear f0_0_0 f0_0_1 f0_0_2 f0_0_3 f0_0_4 f0_0_5 f0_0_6 f0_0_7 f0_0_8 f0_0_9 HS0_0 hf0_0
  clear hgr1
  obtain ⟨f0_1_0, f0_1_1, f0_1_2, f0_1_3, f0_1_4, f0_1_5, f0_1_6, f0_1_7, f0_1_8, f0_1_9⟩ := str10 HS0_1.out
  have hl0_1 := HS0_1.out.lt
  have hf0_1 := fun j => HS0_1.out.frozen j
  exact bodyPost_ret (v := .tuple #[.agg #[.int .i64 0, .string ⟨#[]⟩, .int .i64 0, .string ⟨#[]⟩, .int .i64 0, .slice none 0 0, .int .i64 0, .int .i64 0, .int .i64 0, .int .i64 0], .int .i64 1, .int .i64 0]) (by simp [results, Try.results17, go_sem, *]) rfl ⟨none, 0, 0, rfl, Bytes.none_ _ _, HB_1.out⟩

set_option maxRecDepth 100000 in
set_option maxHeartbeats 2000000 in
theorem get_1_one (A : Option Addr) (n c B : Nat) (x : UInt8) (w : World) (h : Bytes w B A n c [x]) (hB : B ≤ w.heap.size) (hn : n ≤ 1000000) (hx : (x.toNat : Int) = 1) : Calls Try.prog 17 #[.slice A n c] w (GotUndo w (UndoP.get [x])) := by
  rw [UndoP.get_one x (by omega) (by omega)]
  have Hh := Lib.hid h
  have hln := h.len
  have HLN := Lib.hid hln
  have hcm := h.2.2.1
  have hnc := h.2.1
  unfold maxLen at hcm
  clear h hln
  go_enter Try.func17, Try.ntmps17
  go_wp2_with fail
  generalize hW0 : (w).alloc (.cells #[.int .i64 0, .string ⟨#[]⟩, .int .i64 0, .string ⟨#[]⟩, .int .i64 0, .slice none 0 0, .int .i64 0, .int .i64 0, .int .i64 0, .int .i64 0] 29) = W0
  have HS0_0 : Hid (Str W0 (w.heap.size) #[.int .i64 0, .string ⟨#[]⟩, .int .i64 0, .string ⟨#[]⟩, .int .i64 0, .slice none 0 0, .int .i64 0, .int .i64 0, .int .i64 0, .int .i64 0]) := Lib.hid (by rw [← hW0]; have := Str.new (w) #[.int .i64 0, .string ⟨#[]⟩, .int .i64 0, .string ⟨#[]⟩, .int .i64 0, .slice none 0 0, .int .i64 0, .int .i64 0, .int .i64 0, .int .i64 0] 29; simpa using this)
  have HB_0 : Hid (Below w.heap.size w W0) := Lib.hid (by rw [← hW0]; exact balloc (bsame w) _)
  have hw_0 := HB_0.out.size
  clear hW0
  obtain ⟨f0_0_0, f0_0_1, f0_0_2, f0_0_3, f0_0_4, f0_0_5, f0_0_6, f0_0_7, f0_0_8, f0_0_9⟩ := str10 HS0_0.out
  have hl0_0 := HS0_0.out.lt
  have hf0_0 := fun j => HS0_0.out.frozen j
  refine (NumW.at_any A n c B 0 1 [x] _ (Hh.out.below (HB_0.out.mono hB)) (by omega) (by omega) (by omega)).mono ?_
  rintro e W0_ ⟨rfl, rfl⟩
  rw [show NumP.there [x] 0 1 = true from rfl, val0, hx]
  go_wp2_with fail
  refine (NumW.at_any A n c B 1 1 [x] _ (Hh.out.below (HB_0.out.mono hB)) (by omega) (by omega) (by omega)).mono ?_
  rintro e W0_ ⟨rfl, rfl⟩
  rw [show NumP.there [x] 1 1 = false from rfl]
  go_wp2_with fail
  generalize hW1 : ((((((((((W0).setCell ⟨w.heap.size, 0, none⟩ (.int .i64 0)).setCell ⟨w.heap.size, 1, none⟩ (.string ⟨#[]⟩)).setCell ⟨w.heap.size, 2, none⟩ (.int .i64 0)).setCell ⟨w.heap.size, 3, none⟩ (.string ⟨#[]⟩)).setCell ⟨w.heap.size, 4, none⟩ (.int .i64 0)).setCell ⟨w.heap.size, 5, none⟩ (.slice none 0 0)).setCell ⟨w.heap.size, 6, none⟩ (.int .i64 0)).setCell ⟨w.heap.size, 7, none⟩ (.int .i64 0)).setCell ⟨w.heap.size, 8, none⟩ (.int .i64 0)).setCell ⟨w.heap.size, 9, none⟩ (.int .i64 0) = W1
  have HS0_1 : Hid (Str W1 (w.heap.size) #[.int .i64 0, .string ⟨#[]⟩, .int .i64 0, .string ⟨#[]⟩, .int .i64 0, .slice none 0 0, .int .i64 0, .int .i64 0, .int .i64 0, .int .i64 0]) := Lib.hid (by rw [← hW1]; have := ((((((((((HS0_0.out).set 0 (.int .i64 0)).set 1 (.string ⟨#[]⟩)).set 2 (.int .i64 0)).set 3 (.string ⟨#[]⟩)).set 4 (.int .i64 0)).set 5 (.slice none 0 0)).set 6 (.int .i64 0)).set 7 (.int .i64 0)).set 8 (.int .i64 0)).set 9 (.int .i64 0); simpa using this)
  have hgr1 : W0.grownBy W1 (some (w.heap.size)) := by rw [← hW1]; exact grown_set (grown_set (grown_set (grown_set (grown_set (grown_set (grown_set (grown_set (grown_set (grown_set (grown_refl W0 (w.heap.size)) 0 (.int .i64 0)) 1 (.string ⟨#[]⟩)) 2 (.int .i64 0)) 3 (.string ⟨#[]⟩)) 4 (.int .i64 0)) 5 (.slice none 0 0)) 6 (.int .i64 0)) 7 (.int .i64 0)) 8 (.int .i64 0)) 9 (.int .i64 0)
  have HB_1 := Lib.hid (below_grown HB_0.out hgr1 (by omega))
  have hw_1 := HB_1.out.size
  have hws_1 := hgr1.size
  clear hW1
  clear f0_0_0 f0_0_1 f0_0_2 f0_0_3 f0_0_4 f0_0_5 f0_0_6 f0_0_7 f0_0_8 f0_0_9 HS0_0 hf0_0
  clear hgr1
  obtain ⟨f0_1_0, f0_1_1, f0_1_2, f0_1_3, f0_1_4, f0_1_5, f0_1_6, f0_1_7, f0_1_8, f0_1_9⟩ := str10 HS0_1.out
  have hl0_1 := HS0_1.out.lt
  have hf0_1 := fun j => HS0_1.out.frozen j
  exact bodyPost_ret (v := .tuple #[.agg #[.int .i64 0, .string ⟨#[]⟩, .int .i64 0, .string ⟨#[]⟩, .int .i64 0, .slice none 0 0, .int .i64 0, .int .i64 0, .int .i64 0, .int .i64 0], .int .i64 0, .int .i64 13]) (by simp [results, Try.results17, go_sem, *]) rfl ⟨none, 0, 0, rfl, Bytes.none_ _ _, HB_1.out⟩

set_option maxRecDepth 100000 in
set_option maxHeartbeats 2000000 in
theorem get_1_short (A : Option Addr) (n c B : Nat) (x y : UInt8) (l : List UInt8) (w : World) (h : Bytes w B A n c (x :: y :: l)) (hB : B ≤ w.heap.size) (hn : n ≤ 1000000) (hx : (x.toNat : Int) = 1) (hs : n < 2 + y.toNat + 64) : Calls Try.prog 17 #[.slice A n c] w (GotUndo w (UndoP.get (x :: y :: l))) := by
  have hxn : x.toNat = 1 := by omega
  have HGG : Hid (UndoP.get (x :: y :: l) = (UndoP.none, 0, 13)) := Lib.hid (by rw [UndoP.get_two x y l (by omega) (by omega), if_pos (by rw [h.len, hxn]; exact hs)])
  rw [HGG.out]
  have hy := y.toNat_lt
  clear hxn
  have Hh := Lib.hid h
  have hln := h.len
  have HLN := Lib.hid hln
  have hcm := h.2.2.1
  have hnc := h.2.1
  unfold maxLen at hcm
  clear h hln
  go_enter Try.func17, Try.ntmps17
  go_wp2_with fail
  generalize hW0 : (w).alloc (.cells #[.int .i64 0, .string ⟨#[]⟩, .int .i64 0, .string ⟨#[]⟩, .int .i64 0, .slice none 0 0, .int .i64 0, .int .i64 0, .int .i64 0, .int .i64 0] 29) = W0
  have HS0_0 : Hid (Str W0 (w.heap.size) #[.int .i64 0, .string ⟨#[]⟩, .int .i64 0, .string ⟨#[]⟩, .int .i64 0, .slice none 0 0, .int .i64 0, .int .i64 0, .int .i64 0, .int .i64 0]) := Lib.hid (by rw [← hW0]; have := Str.new (w) #[.int .i64 0, .string ⟨#[]⟩, .int .i64 0, .string ⟨#[]⟩, .int .i64 0, .slice none 0 0, .int .i64 0, .int .i64 0, .int .i64 0, .int .i64 0] 29; simpa using this)
  have HB_0 : Hid (Below w.heap.size w W0) := Lib.hid (by rw [← hW0]; exact balloc (bsame w) _)
  have hw_0 := HB_0.out.size
  clear hW0
  obtain ⟨f0_0_0, f0_0_1, f0_0_2, f0_0_3, f0_0_4, f0_0_5, f0_0_6, f0_0_7, f0_0_8, f0_0_9⟩ := str10 HS0_0.out
  have hl0_0 := HS0_0.out.lt
  have hf0_0 := fun j => HS0_0.out.frozen j
  refine (NumW.at_any A n c B 0 1 (x :: y :: l) _ (Hh.out.below (HB_0.out.mono hB)) (by omega) (by omega) (by omega)).mono ?_
  rintro e W0_ ⟨rfl, rfl⟩
  rw [show NumP.there (x :: y :: l) 0 1 = true from by simp [NumP.there], val0, hx]
  go_wp2_with fail
  refine (NumW.at_any A n c B 1 1 (x :: y :: l) _ (Hh.out.below (HB_0.out.mono hB)) (by omega) (by omega) (by omega)).mono ?_
  rintro e W0_ ⟨rfl, rfl⟩
  rw [show NumP.there (x :: y :: l) 1 1 = true from by simp [NumP.there], val1]
  skip
  go_wp2_with fail
  generalize hW1 : ((((((((((W0).setCell ⟨w.heap.size, 0, none⟩ (.int .i64 0)).setCell ⟨w.heap.size, 1, none⟩ (.string ⟨#[]⟩)).setCell ⟨w.heap.size, 2, none⟩ (.int .i64 0)).setCell ⟨w.heap.size, 3, none⟩ (.string ⟨#[]⟩)).setCell ⟨w.heap.size, 4, none⟩ (.int .i64 0)).setCell ⟨w.heap.size, 5, none⟩ (.slice none 0 0)).setCell ⟨w.heap.size, 6, none⟩ (.int .i64 0)).setCell ⟨w.heap.size, 7, none⟩ (.int .i64 0)).setCell ⟨w.heap.size, 8, none⟩ (.int .i64 0)).setCell ⟨w.heap.size, 9, none⟩ (.int .i64 0) = W1
  have HS0_1 : Hid (Str W1 (w.heap.size) #[.int .i64 0, .string ⟨#[]⟩, .int .i64 0, .string ⟨#[]⟩, .int .i64 0, .slice none 0 0, .int .i64 0, .int .i64 0, .int .i64 0, .int .i64 0]) := Lib.hid (by rw [← hW1]; have := ((((((((((HS0_0.out).set 0 (.int .i64 0)).set 1 (.string ⟨#[]⟩)).set 2 (.int .i64 0)).set 3 (.string ⟨#[]⟩)).set 4 (.int .i64 0)).set 5 (.slice none 0 0)).set 6 (.int .i64 0)).set 7 (.int .i64 0)).set 8 (.int .i64 0)).set 9 (.int .i64 0); simpa using this)
  have hgr1 : W0.grownBy W1 (some (w.heap.size)) := by rw [← hW1]; exact grown_set (grown_set (grown_set (grown_set (grown_set (grown_set (grown_set (grown_set (grown_set (grown_set (grown_refl W0 (w.heap.size)) 0 (.int .i64 0)) 1 (.string ⟨#[]⟩)) 2 (.int .i64 0)) 3 (.string ⟨#[]⟩)) 4 (.int .i64 0)) 5 (.slice none 0 0)) 6 (.int .i64 0)) 7 (.int .i64 0)) 8 (.int .i64 0)) 9 (.int .i64 0)
  have HB_1 := Lib.hid (below_grown HB_0.out hgr1 (by omega))
  have hw_1 := HB_1.out.size
  have hws_1 := hgr1.size
  clear hW1
  clear f0_0_0 f0_0_1 f0_0_2 f0_0_3 f0_0_4 f0_0_5 f0_0_6 f0_0_7 f0_0_8 f0_0_9 HS0_0 hf0_0
  clear hgr1
  obtain ⟨f0_1_0, f0_1_1, f0_1_2, f0_1_3, f0_1_4, f0_1_5, f0_1_6, f0_1_7, f0_1_8, f0_1_9⟩ := str10 HS0_1.out
  have hl0_1 := HS0_1.out.lt
  have hf0_1 := fun j => HS0_1.out.frozen j
  exact bodyPost_ret (v := .tuple #[.agg #[.int .i64 0, .string ⟨#[]⟩, .int .i64 0, .string ⟨#[]⟩, .int .i64 0, .slice none 0 0, .int .i64 0, .int .i64 0, .int .i64 0, .int .i64 0], .int .i64 0, .int .i64 13]) (by simp [results, Try.results17, go_sem, *]) rfl ⟨none, 0, 0, rfl, Bytes.none_ _ _, HB_1.out⟩

set_option maxRecDepth 100000 in
set_option maxHeartbeats 2000000 in
theorem get_1_full (A : Option Addr) (n c B : Nat) (x y : UInt8) (l : List UInt8) (w : World) (h : Bytes w B A n c (x :: y :: l)) (hB : B ≤ w.heap.size) (hn : n ≤ 1000000) (hx : (x.toNat : Int) = 1) (hs : ¬ n < 2 + y.toNat + 64) : Calls Try.prog 17 #[.slice A n c] w (GotUndo w (UndoP.get (x :: y :: l))) := by
  have hxn : x.toNat = 1 := by omega
  have HGG := Lib.hid (UndoP.get_two x y l (by omega) (by omega))
  rw [if_neg (by rw [h.len, hxn]; exact hs), hxn] at HGG
  have hy := y.toNat_lt
  clear hxn
  have Hh := Lib.hid h
  have hln := h.len
  have HLN := Lib.hid hln
  have hcm := h.2.2.1
  have hnc := h.2.1
  unfold maxLen at hcm
  clear h hln
  go_enter Try.func17, Try.ntmps17
  go_wp2_with fail
  generalize hW0 : (w).alloc (.cells #[.int .i64 0, .string ⟨#[]⟩, .int .i64 0, .string ⟨#[]⟩, .int .i64 0, .slice none 0 0, .int .i64 0, .int .i64 0, .int .i64 0, .int .i64 0] 29) = W0
  have HS0_0 : Hid (Str W0 (w.heap.size) #[.int .i64 0, .string ⟨#[]⟩, .int .i64 0, .string ⟨#[]⟩, .int .i64 0, .slice none 0 0, .int .i64 0, .int .i64 0, .int .i64 0, .int .i64 0]) := Lib.hid (by rw [← hW0]; have := Str.new (w) #[.int .i64 0, .string ⟨#[]⟩, .int .i64 0, .string ⟨#[]⟩, .int .i64 0, .slice none 0 0, .int .i64 0, .int .i64 0, .int .i64 0, .int .i64 0] 29; simpa using this)
  have HB_0 : Hid (Below w.heap.size w W0) := Lib.hid (by rw [← hW0]; exact balloc (bsame w) _)
  have hw_0 := HB_0.out.size
  clear hW0
  obtain ⟨f0_0_0, f0_0_1, f0_0_2, f0_0_3, f0_0_4, f0_0_5, f0_0_6, f0_0_7, f0_0_8, f0_0_9⟩ := str10 HS0_0.out
  have hl0_0 := HS0_0.out.lt
  have hf0_0 := fun j => HS0_0.out.frozen j
  refine (NumW.at_any A n c B 0 1 (x :: y :: l) _ (Hh.out.below (HB_0.out.mono hB)) (by omega) (by omega) (by omega)).mono ?_
  rintro e W0_ ⟨rfl, rfl⟩
  rw [show NumP.there (x :: y :: l) 0 1 = true from by simp [NumP.there], val0, hx]
  go_wp2_with fail
  refine (NumW.at_any A n c B 1 1 (x :: y :: l) _ (Hh.out.below (HB_0.out.mono hB)) (by omega) (by omega) (by omega)).mono ?_
  rintro e W0_ ⟨rfl, rfl⟩
  rw [show NumP.there (x :: y :: l) 1 1 = true from by simp [NumP.there], val1]
  skip
  have hcut := (Hh.out.cut 2 (2 + y.toNat) c (by omega) (by omega) (by omega) (Nat.le_refl _)).below (HB_0.out.mono hB)
  rw [show (x :: y :: l).drop 2 = l from rfl, show 2 + y.toNat - 2 = y.toNat by omega] at hcut
  have hcv := run_str (P := Try.prog) 22 9 5 Try.underlying22 Try.underlying5 Try.underlying9 hcut
  have HKS : Hid ((strOf (l.take y.toNat)).size ≤ maxLen) := Lib.hid (by show (l.take y.toNat).length ≤ maxLen; rw [List.length_take]; unfold maxLen; omega)
  clear hcut
  have hct2 := Hh.out.cut (2 + y.toNat) (66 + y.toNat) c (by omega) (by omega) (by omega) (Nat.le_refl _)
  rw [show 66 + y.toNat - (2 + y.toNat) = 64 by omega] at hct2
  have HC2 := Lib.hid hct2
  clear hct2
  have h66 : 66 + y.toNat ≤ c := by omega
  go_wp2_with fail
  generalize hW1 : W0.alloc (.cells #[.int .i64 1, .string (strOf (l.take y.toNat)), .int .i64 0, .string ⟨#[]⟩, .int .i64 0, .slice none 0 0, .int .i64 0, .int .i64 0, .int .i64 0, .int .i64 0] 29) = W1
  have HS0_1 : Hid (Str W1 (w.heap.size) #[.int .i64 0, .string ⟨#[]⟩, .int .i64 0, .string ⟨#[]⟩, .int .i64 0, .slice none 0 0, .int .i64 0, .int .i64 0, .int .i64 0, .int .i64 0]) := Lib.hid (by rw [← hW1]; exact HS0_0.out.alloc _)
  have HS1_1 : Hid (Str W1 W0.heap.size #[.int .i64 1, .string (strOf (l.take y.toNat)), .int .i64 0, .string ⟨#[]⟩, .int .i64 0, .slice none 0 0, .int .i64 0, .int .i64 0, .int .i64 0, .int .i64 0]) := Lib.hid (by rw [← hW1]; exact Str.new W0 #[.int .i64 1, .string (strOf (l.take y.toNat)), .int .i64 0, .string ⟨#[]⟩, .int .i64 0, .slice none 0 0, .int .i64 0, .int .i64 0, .int .i64 0, .int .i64 0] 29)
  have hba1 : Below W0.heap.size W0 W1 := by rw [← hW1]; exact balloc (bsame _) _
  have HB_1 := Lib.hid (bstep HB_0.out hba1)
  have hw_1 := HB_1.out.size
  have hws_1 := hba1.size
  clear hW1
  clear f0_0_0 f0_0_1 f0_0_2 f0_0_3 f0_0_4 f0_0_5 f0_0_6 f0_0_7 f0_0_8 f0_0_9 HS0_0 hf0_0
  obtain ⟨f0_1_0, f0_1_1, f0_1_2, f0_1_3, f0_1_4, f0_1_5, f0_1_6, f0_1_7, f0_1_8, f0_1_9⟩ := str10 HS0_1.out
  have hl0_1 := HS0_1.out.lt
  have hf0_1 := fun j => HS0_1.out.frozen j
  obtain ⟨f1_1_0, f1_1_1, f1_1_2, f1_1_3, f1_1_4, f1_1_5, f1_1_6, f1_1_7, f1_1_8, f1_1_9⟩ := str10 HS1_1.out
  have hl1_1 := HS1_1.out.lt
  clear hba1 hcv
  have hfu := fun j => HS1_1.out.frozen j
  rw [show 66 + y.toNat - (2 + y.toNat) = 64 by omega]
  have HGI := Lib.hid (fun W (h : Bytes W B (cutA A (2 + y.toNat) c 1) 64 (c - (2 + y.toNat)) (((x :: y :: l).drop (2 + y.toNat)).take 64)) hB => RefSlotGet.get_any _ _ B _ W h hB)
  have HSE : Hid ((UndoP.seem 1 (x :: y :: l)) = ⟨1, strOf (l.take y.toNat), (SlotP.get (((x :: y :: l).drop (2 + y.toNat)).take 64)).1, 0⟩ ∧ UndoP.err 1 (x :: y :: l) = (SlotP.get (((x :: y :: l).drop (2 + y.toNat)).take 64)).2) := Lib.hid ⟨rfl, rfl⟩
  have hrk0 := key_le2 (((x :: y :: l).drop (2 + y.toNat)).take 64)
  have hrk1 : (((x :: y :: l).drop (2 + y.toNat)).take 64).length ≤ 64 := by simp; omega
  generalize hrr : SlotP.get (((x :: y :: l).drop (2 + y.toNat)).take 64) = r at HGI HSE hrk0
  obtain ⟨⟨rs, rk, rkind, rdata, rlo, rhi, rval⟩, er⟩ := r
  clear hrr
  refine (HGI.out _ (HC2.out.below (HB_1.out.mono hB)) (by omega)).mono ?_
  rintro e W2 ⟨A2, n2, c2, rfl, hy2, hb2⟩
  dsimp only at *
  clear HGI HC2
  have HS0_2 := Lib.hid (HS0_1.out.next hb2)
  have HS1_2 := Lib.hid (HS1_1.out.next hb2)
  have HB_2 := Lib.hid (bstep HB_1.out hb2)
  have hw_2 := HB_2.out.size
  have hws_2 := (hb2).size
  clear f0_1_0 f0_1_1 f0_1_2 f0_1_3 f0_1_4 f0_1_5 f0_1_6 f0_1_7 f0_1_8 f0_1_9 HS0_1 hf0_1 f1_1_0 f1_1_1 f1_1_2 f1_1_3 f1_1_4 f1_1_5 f1_1_6 f1_1_7 f1_1_8 f1_1_9 HS1_1
  clear hb2
  obtain ⟨f0_2_0, f0_2_1, f0_2_2, f0_2_3, f0_2_4, f0_2_5, f0_2_6, f0_2_7, f0_2_8, f0_2_9⟩ := str10 HS0_2.out
  have hl0_2 := HS0_2.out.lt
  have hf0_2 := fun j => HS0_2.out.frozen j
  obtain ⟨f1_2_0, f1_2_1, f1_2_2, f1_2_3, f1_2_4, f1_2_5, f1_2_6, f1_2_7, f1_2_8, f1_2_9⟩ := str10 HS1_2.out
  have hl1_2 := HS1_2.out.lt
  have HYz_2 := Lib.hid (hy2)
  clear hy2 hfu
  have hfu := fun j => HS1_2.out.frozen j
  have hrk : rk.size ≤ maxLen := Nat.le_trans hrk0 (Nat.le_trans hrk1 (by decide))
  clear hrk0 hrk1
  by_cases her : er = 0
  case neg =>
    have HE : Hid (UndoP.get (x :: y :: l) = (UndoP.none, 0, 12)) := Lib.hid (by rw [HGG.out, if_neg (fun h => her (HSE.out.2.symm.trans h.1))])
    have her2 : (er != 0) = true := by simpa using her
    go_wp2_with fail
    generalize hW3 : (((((((W2).setCell ⟨W0.heap.size, 2, none⟩ (.int .i64 rs)).setCell ⟨W0.heap.size, 3, none⟩ (.string rk)).setCell ⟨W0.heap.size, 4, none⟩ (.int .i64 rkind)).setCell ⟨W0.heap.size, 5, none⟩ (.slice A2 n2 c2)).setCell ⟨W0.heap.size, 6, none⟩ (.int .i64 rlo)).setCell ⟨W0.heap.size, 7, none⟩ (.int .i64 rhi)).setCell ⟨W0.heap.size, 8, none⟩ (.int .i64 rval) = W3
    have HS0_3 : Hid (Str W3 (w.heap.size) #[.int .i64 0, .string ⟨#[]⟩, .int .i64 0, .string ⟨#[]⟩, .int .i64 0, .slice none 0 0, .int .i64 0, .int .i64 0, .int .i64 0, .int .i64 0]) := Lib.hid (by rw [← hW3]; exact (((((((HS0_2.out).other 2 _ (by omega)).other 3 _ (by omega)).other 4 _ (by omega)).other 5 _ (by omega)).other 6 _ (by omega)).other 7 _ (by omega)).other 8 _ (by omega))
    have HS1_3 : Hid (Str W3 (W0.heap.size) #[.int .i64 1, .string (strOf (l.take y.toNat)), .int .i64 rs, .string rk, .int .i64 rkind, .slice A2 n2 c2, .int .i64 rlo, .int .i64 rhi, .int .i64 rval, .int .i64 0]) := Lib.hid (by rw [← hW3]; have := (((((((HS1_2.out).set 2 (.int .i64 rs)).set 3 (.string rk)).set 4 (.int .i64 rkind)).set 5 (.slice A2 n2 c2)).set 6 (.int .i64 rlo)).set 7 (.int .i64 rhi)).set 8 (.int .i64 rval); simpa using this)
    have hgr3 : W2.grownBy W3 (some (W0.heap.size)) := by rw [← hW3]; exact grown_set (grown_set (grown_set (grown_set (grown_set (grown_set (grown_set (grown_refl W2 (W0.heap.size)) 2 (.int .i64 rs)) 3 (.string rk)) 4 (.int .i64 rkind)) 5 (.slice A2 n2 c2)) 6 (.int .i64 rlo)) 7 (.int .i64 rhi)) 8 (.int .i64 rval)
    have HB_3 := Lib.hid (below_grown HB_2.out hgr3 (by omega))
    have hw_3 := HB_3.out.size
    have hws_3 := hgr3.size
    have HYz_3 := Lib.hid ((Bytes.grown HYz_2.out (Nat.le_refl _) HS1_2.out rfl hgr3).more hws_3)
    clear HYz_2
    clear hW3
    clear f0_2_0 f0_2_1 f0_2_2 f0_2_3 f0_2_4 f0_2_5 f0_2_6 f0_2_7 f0_2_8 f0_2_9 HS0_2 hf0_2 f1_2_0 f1_2_1 f1_2_2 f1_2_3 f1_2_4 f1_2_5 f1_2_6 f1_2_7 f1_2_8 f1_2_9 HS1_2
    clear hgr3
    obtain ⟨f0_3_0, f0_3_1, f0_3_2, f0_3_3, f0_3_4, f0_3_5, f0_3_6, f0_3_7, f0_3_8, f0_3_9⟩ := str10 HS0_3.out
    have hl0_3 := HS0_3.out.lt
    have hf0_3 := fun j => HS0_3.out.frozen j
    obtain ⟨f1_3_0, f1_3_1, f1_3_2, f1_3_3, f1_3_4, f1_3_5, f1_3_6, f1_3_7, f1_3_8, f1_3_9⟩ := str10 HS1_3.out
    have hl1_3 := HS1_3.out.lt
    generalize hW4 : ((((((((((W3).setCell ⟨w.heap.size, 0, none⟩ (.int .i64 0)).setCell ⟨w.heap.size, 1, none⟩ (.string ⟨#[]⟩)).setCell ⟨w.heap.size, 2, none⟩ (.int .i64 0)).setCell ⟨w.heap.size, 3, none⟩ (.string ⟨#[]⟩)).setCell ⟨w.heap.size, 4, none⟩ (.int .i64 0)).setCell ⟨w.heap.size, 5, none⟩ (.slice none 0 0)).setCell ⟨w.heap.size, 6, none⟩ (.int .i64 0)).setCell ⟨w.heap.size, 7, none⟩ (.int .i64 0)).setCell ⟨w.heap.size, 8, none⟩ (.int .i64 0)).setCell ⟨w.heap.size, 9, none⟩ (.int .i64 0) = W4
    have HS0_4 : Hid (Str W4 (w.heap.size) #[.int .i64 0, .string ⟨#[]⟩, .int .i64 0, .string ⟨#[]⟩, .int .i64 0, .slice none 0 0, .int .i64 0, .int .i64 0, .int .i64 0, .int .i64 0]) := Lib.hid (by rw [← hW4]; have := ((((((((((HS0_3.out).set 0 (.int .i64 0)).set 1 (.string ⟨#[]⟩)).set 2 (.int .i64 0)).set 3 (.string ⟨#[]⟩)).set 4 (.int .i64 0)).set 5 (.slice none 0 0)).set 6 (.int .i64 0)).set 7 (.int .i64 0)).set 8 (.int .i64 0)).set 9 (.int .i64 0); simpa using this)
    have HS1_4 : Hid (Str W4 (W0.heap.size) #[.int .i64 1, .string (strOf (l.take y.toNat)), .int .i64 rs, .string rk, .int .i64 rkind, .slice A2 n2 c2, .int .i64 rlo, .int .i64 rhi, .int .i64 rval, .int .i64 0]) := Lib.hid (by rw [← hW4]; exact ((((((((((HS1_3.out).other 0 _ (by omega)).other 1 _ (by omega)).other 2 _ (by omega)).other 3 _ (by omega)).other 4 _ (by omega)).other 5 _ (by omega)).other 6 _ (by omega)).other 7 _ (by omega)).other 8 _ (by omega)).other 9 _ (by omega))
    have hgr4 : W3.grownBy W4 (some (w.heap.size)) := by rw [← hW4]; exact grown_set (grown_set (grown_set (grown_set (grown_set (grown_set (grown_set (grown_set (grown_set (grown_set (grown_refl W3 (w.heap.size)) 0 (.int .i64 0)) 1 (.string ⟨#[]⟩)) 2 (.int .i64 0)) 3 (.string ⟨#[]⟩)) 4 (.int .i64 0)) 5 (.slice none 0 0)) 6 (.int .i64 0)) 7 (.int .i64 0)) 8 (.int .i64 0)) 9 (.int .i64 0)
    have HB_4 := Lib.hid (below_grown HB_3.out hgr4 (by omega))
    have hw_4 := HB_4.out.size
    have hws_4 := hgr4.size
    have HYz_4 := Lib.hid ((Bytes.grown HYz_3.out (Nat.le_refl _) HS0_3.out rfl hgr4).more hws_4)
    clear HYz_3
    clear hW4
    clear f0_3_0 f0_3_1 f0_3_2 f0_3_3 f0_3_4 f0_3_5 f0_3_6 f0_3_7 f0_3_8 f0_3_9 HS0_3 hf0_3 f1_3_0 f1_3_1 f1_3_2 f1_3_3 f1_3_4 f1_3_5 f1_3_6 f1_3_7 f1_3_8 f1_3_9 HS1_3
    clear hgr4
    obtain ⟨f0_4_0, f0_4_1, f0_4_2, f0_4_3, f0_4_4, f0_4_5, f0_4_6, f0_4_7, f0_4_8, f0_4_9⟩ := str10 HS0_4.out
    have hl0_4 := HS0_4.out.lt
    have hf0_4 := fun j => HS0_4.out.frozen j
    obtain ⟨f1_4_0, f1_4_1, f1_4_2, f1_4_3, f1_4_4, f1_4_5, f1_4_6, f1_4_7, f1_4_8, f1_4_9⟩ := str10 HS1_4.out
    have hl1_4 := HS1_4.out.lt
    refine bodyPost_ret (v := .tuple #[.agg #[.int .i64 0, .string ⟨#[]⟩, .int .i64 0, .string ⟨#[]⟩, .int .i64 0, .slice none 0 0, .int .i64 0, .int .i64 0, .int .i64 0, .int .i64 0], .int .i64 0, .int .i64 12]) (by simp [results, Try.results17, go_sem, *]) rfl ?_
    rw [HE.out]
    exact ⟨none, 0, 0, rfl, Bytes.none_ _ _, HB_4.out⟩
  subst her
  go_wp2_with fail
  generalize hW3 : (((((((W2).setCell ⟨W0.heap.size, 2, none⟩ (.int .i64 rs)).setCell ⟨W0.heap.size, 3, none⟩ (.string rk)).setCell ⟨W0.heap.size, 4, none⟩ (.int .i64 rkind)).setCell ⟨W0.heap.size, 5, none⟩ (.slice A2 n2 c2)).setCell ⟨W0.heap.size, 6, none⟩ (.int .i64 rlo)).setCell ⟨W0.heap.size, 7, none⟩ (.int .i64 rhi)).setCell ⟨W0.heap.size, 8, none⟩ (.int .i64 rval) = W3
  have HS0_3 : Hid (Str W3 (w.heap.size) #[.int .i64 0, .string ⟨#[]⟩, .int .i64 0, .string ⟨#[]⟩, .int .i64 0, .slice none 0 0, .int .i64 0, .int .i64 0, .int .i64 0, .int .i64 0]) := Lib.hid (by rw [← hW3]; exact (((((((HS0_2.out).other 2 _ (by omega)).other 3 _ (by omega)).other 4 _ (by omega)).other 5 _ (by omega)).other 6 _ (by omega)).other 7 _ (by omega)).other 8 _ (by omega))
  have HS1_3 : Hid (Str W3 (W0.heap.size) #[.int .i64 1, .string (strOf (l.take y.toNat)), .int .i64 rs, .string rk, .int .i64 rkind, .slice A2 n2 c2, .int .i64 rlo, .int .i64 rhi, .int .i64 rval, .int .i64 0]) := Lib.hid (by rw [← hW3]; have := (((((((HS1_2.out).set 2 (.int .i64 rs)).set 3 (.string rk)).set 4 (.int .i64 rkind)).set 5 (.slice A2 n2 c2)).set 6 (.int .i64 rlo)).set 7 (.int .i64 rhi)).set 8 (.int .i64 rval); simpa using this)
  have hgr3 : W2.grownBy W3 (some (W0.heap.size)) := by rw [← hW3]; exact grown_set (grown_set (grown_set (grown_set (grown_set (grown_set (grown_set (grown_refl W2 (W0.heap.size)) 2 (.int .i64 rs)) 3 (.string rk)) 4 (.int .i64 rkind)) 5 (.slice A2 n2 c2)) 6 (.int .i64 rlo)) 7 (.int .i64 rhi)) 8 (.int .i64 rval)
  have HB_3 := Lib.hid (below_grown HB_2.out hgr3 (by omega))
  have hw_3 := HB_3.out.size
  have hws_3 := hgr3.size
  have HYz_3 := Lib.hid ((Bytes.grown HYz_2.out (Nat.le_refl _) HS1_2.out rfl hgr3).more hws_3)
  clear HYz_2
  clear hW3
  clear f0_2_0 f0_2_1 f0_2_2 f0_2_3 f0_2_4 f0_2_5 f0_2_6 f0_2_7 f0_2_8 f0_2_9 HS0_2 hf0_2 f1_2_0 f1_2_1 f1_2_2 f1_2_3 f1_2_4 f1_2_5 f1_2_6 f1_2_7 f1_2_8 f1_2_9 HS1_2
  clear hgr3
  obtain ⟨f0_3_0, f0_3_1, f0_3_2, f0_3_3, f0_3_4, f0_3_5, f0_3_6, f0_3_7, f0_3_8, f0_3_9⟩ := str10 HS0_3.out
  have hl0_3 := HS0_3.out.lt
  have hf0_3 := fun j => HS0_3.out.frozen j
  obtain ⟨f1_3_0, f1_3_1, f1_3_2, f1_3_3, f1_3_4, f1_3_5, f1_3_6, f1_3_7, f1_3_8, f1_3_9⟩ := str10 HS1_3.out
  have hl1_3 := HS1_3.out.lt
  clear hfu
  refine (right_any 1 (strOf (l.take y.toNat)) A2 n2 c2 W3.heap.size rs rk rkind rdata rlo rhi rval 0 _ HYz_3.out (Nat.le_refl _) hrk HKS.out).mono ?_
  rintro e W4 ⟨rfl, hb4⟩
  rw [show UndoP.right ⟨1, strOf (l.take y.toNat), ⟨rs, rk, ⟨rkind, rdata, rlo, rhi, rval⟩⟩, 0⟩ = UndoP.right (UndoP.seem 1 (x :: y :: l)) from by rw [HSE.out.1]]
  have HS0_4 := Lib.hid (HS0_3.out.next hb4)
  have HS1_4 := Lib.hid (HS1_3.out.next hb4)
  have HB_4 := Lib.hid (bstep HB_3.out hb4)
  have hw_4 := HB_4.out.size
  have hws_4 := (hb4).size
  have HYz_4 := Lib.hid (HYz_3.out.next hb4)
  clear HYz_3
  clear f0_3_0 f0_3_1 f0_3_2 f0_3_3 f0_3_4 f0_3_5 f0_3_6 f0_3_7 f0_3_8 f0_3_9 HS0_3 hf0_3 f1_3_0 f1_3_1 f1_3_2 f1_3_3 f1_3_4 f1_3_5 f1_3_6 f1_3_7 f1_3_8 f1_3_9 HS1_3
  clear hb4
  obtain ⟨f0_4_0, f0_4_1, f0_4_2, f0_4_3, f0_4_4, f0_4_5, f0_4_6, f0_4_7, f0_4_8, f0_4_9⟩ := str10 HS0_4.out
  have hl0_4 := HS0_4.out.lt
  have hf0_4 := fun j => HS0_4.out.frozen j
  obtain ⟨f1_4_0, f1_4_1, f1_4_2, f1_4_3, f1_4_4, f1_4_5, f1_4_6, f1_4_7, f1_4_8, f1_4_9⟩ := str10 HS1_4.out
  have hl1_4 := HS1_4.out.lt
  cases hr : UndoP.right (UndoP.seem 1 (x :: y :: l))
  case false =>
    have HE : Hid (UndoP.get (x :: y :: l) = (UndoP.none, 0, 12)) := Lib.hid (by rw [HGG.out, if_neg (by rw [hr]; simp)])
    go_wp2_with fail
    generalize hW5 : ((((((((((W4).setCell ⟨w.heap.size, 0, none⟩ (.int .i64 0)).setCell ⟨w.heap.size, 1, none⟩ (.string ⟨#[]⟩)).setCell ⟨w.heap.size, 2, none⟩ (.int .i64 0)).setCell ⟨w.heap.size, 3, none⟩ (.string ⟨#[]⟩)).setCell ⟨w.heap.size, 4, none⟩ (.int .i64 0)).setCell ⟨w.heap.size, 5, none⟩ (.slice none 0 0)).setCell ⟨w.heap.size, 6, none⟩ (.int .i64 0)).setCell ⟨w.heap.size, 7, none⟩ (.int .i64 0)).setCell ⟨w.heap.size, 8, none⟩ (.int .i64 0)).setCell ⟨w.heap.size, 9, none⟩ (.int .i64 0) = W5
    have HS0_5 : Hid (Str W5 (w.heap.size) #[.int .i64 0, .string ⟨#[]⟩, .int .i64 0, .string ⟨#[]⟩, .int .i64 0, .slice none 0 0, .int .i64 0, .int .i64 0, .int .i64 0, .int .i64 0]) := Lib.hid (by rw [← hW5]; have := ((((((((((HS0_4.out).set 0 (.int .i64 0)).set 1 (.string ⟨#[]⟩)).set 2 (.int .i64 0)).set 3 (.string ⟨#[]⟩)).set 4 (.int .i64 0)).set 5 (.slice none 0 0)).set 6 (.int .i64 0)).set 7 (.int .i64 0)).set 8 (.int .i64 0)).set 9 (.int .i64 0); simpa using this)
    have HS1_5 : Hid (Str W5 (W0.heap.size) #[.int .i64 1, .string (strOf (l.take y.toNat)), .int .i64 rs, .string rk, .int .i64 rkind, .slice A2 n2 c2, .int .i64 rlo, .int .i64 rhi, .int .i64 rval, .int .i64 0]) := Lib.hid (by rw [← hW5]; exact ((((((((((HS1_4.out).other 0 _ (by omega)).other 1 _ (by omega)).other 2 _ (by omega)).other 3 _ (by omega)).other 4 _ (by omega)).other 5 _ (by omega)).other 6 _ (by omega)).other 7 _ (by omega)).other 8 _ (by omega)).other 9 _ (by omega))
    have hgr5 : W4.grownBy W5 (some (w.heap.size)) := by rw [← hW5]; exact grown_set (grown_set (grown_set (grown_set (grown_set (grown_set (grown_set (grown_set (grown_set (grown_set (grown_refl W4 (w.heap.size)) 0 (.int .i64 0)) 1 (.string ⟨#[]⟩)) 2 (.int .i64 0)) 3 (.string ⟨#[]⟩)) 4 (.int .i64 0)) 5 (.slice none 0 0)) 6 (.int .i64 0)) 7 (.int .i64 0)) 8 (.int .i64 0)) 9 (.int .i64 0)
    have HB_5 := Lib.hid (below_grown HB_4.out hgr5 (by omega))
    have hw_5 := HB_5.out.size
    have hws_5 := hgr5.size
    have HYz_5 := Lib.hid ((Bytes.grown HYz_4.out (Nat.le_refl _) HS0_4.out rfl hgr5).more hws_5)
    clear HYz_4
    clear hW5
    clear f0_4_0 f0_4_1 f0_4_2 f0_4_3 f0_4_4 f0_4_5 f0_4_6 f0_4_7 f0_4_8 f0_4_9 HS0_4 hf0_4 f1_4_0 f1_4_1 f1_4_2 f1_4_3 f1_4_4 f1_4_5 f1_4_6 f1_4_7 f1_4_8 f1_4_9 HS1_4
    clear hgr5
    obtain ⟨f0_5_0, f0_5_1, f0_5_2, f0_5_3, f0_5_4, f0_5_5, f0_5_6, f0_5_7, f0_5_8, f0_5_9⟩ := str10 HS0_5.out
    have hl0_5 := HS0_5.out.lt
    have hf0_5 := fun j => HS0_5.out.frozen j
    obtain ⟨f1_5_0, f1_5_1, f1_5_2, f1_5_3, f1_5_4, f1_5_5, f1_5_6, f1_5_7, f1_5_8, f1_5_9⟩ := str10 HS1_5.out
    have hl1_5 := HS1_5.out.lt
    refine bodyPost_ret (v := .tuple #[.agg #[.int .i64 0, .string ⟨#[]⟩, .int .i64 0, .string ⟨#[]⟩, .int .i64 0, .slice none 0 0, .int .i64 0, .int .i64 0, .int .i64 0, .int .i64 0], .int .i64 0, .int .i64 12]) (by simp [results, Try.results17, go_sem, *]) rfl ?_
    rw [HE.out]
    exact ⟨none, 0, 0, rfl, Bytes.none_ _ _, HB_5.out⟩
  case true =>
    have HE : Hid (UndoP.get (x :: y :: l) = ((UndoP.seem 1 (x :: y :: l)), ((2 + y.toNat + UndoP.size 1 : Nat) : Int), 0)) := Lib.hid (by rw [HGG.out, if_pos ⟨HSE.out.2, hr⟩])
    go_wp2_with fail
    generalize hW5 : ((((((((((W4).setCell ⟨w.heap.size, 0, none⟩ (.int .i64 1)).setCell ⟨w.heap.size, 1, none⟩ (.string (strOf (l.take y.toNat)))).setCell ⟨w.heap.size, 2, none⟩ (.int .i64 rs)).setCell ⟨w.heap.size, 3, none⟩ (.string rk)).setCell ⟨w.heap.size, 4, none⟩ (.int .i64 rkind)).setCell ⟨w.heap.size, 5, none⟩ (.slice A2 n2 c2)).setCell ⟨w.heap.size, 6, none⟩ (.int .i64 rlo)).setCell ⟨w.heap.size, 7, none⟩ (.int .i64 rhi)).setCell ⟨w.heap.size, 8, none⟩ (.int .i64 rval)).setCell ⟨w.heap.size, 9, none⟩ (.int .i64 0) = W5
    have HS0_5 : Hid (Str W5 (w.heap.size) #[.int .i64 1, .string (strOf (l.take y.toNat)), .int .i64 rs, .string rk, .int .i64 rkind, .slice A2 n2 c2, .int .i64 rlo, .int .i64 rhi, .int .i64 rval, .int .i64 0]) := Lib.hid (by rw [← hW5]; have := ((((((((((HS0_4.out).set 0 (.int .i64 1)).set 1 (.string (strOf (l.take y.toNat)))).set 2 (.int .i64 rs)).set 3 (.string rk)).set 4 (.int .i64 rkind)).set 5 (.slice A2 n2 c2)).set 6 (.int .i64 rlo)).set 7 (.int .i64 rhi)).set 8 (.int .i64 rval)).set 9 (.int .i64 0); simpa using this)
    have HS1_5 : Hid (Str W5 (W0.heap.size) #[.int .i64 1, .string (strOf (l.take y.toNat)), .int .i64 rs, .string rk, .int .i64 rkind, .slice A2 n2 c2, .int .i64 rlo, .int .i64 rhi, .int .i64 rval, .int .i64 0]) := Lib.hid (by rw [← hW5]; exact ((((((((((HS1_4.out).other 0 _ (by omega)).other 1 _ (by omega)).other 2 _ (by omega)).other 3 _ (by omega)).other 4 _ (by omega)).other 5 _ (by omega)).other 6 _ (by omega)).other 7 _ (by omega)).other 8 _ (by omega)).other 9 _ (by omega))
    have hgr5 : W4.grownBy W5 (some (w.heap.size)) := by rw [← hW5]; exact grown_set (grown_set (grown_set (grown_set (grown_set (grown_set (grown_set (grown_set (grown_set (grown_set (grown_refl W4 (w.heap.size)) 0 (.int .i64 1)) 1 (.string (strOf (l.take y.toNat)))) 2 (.int .i64 rs)) 3 (.string rk)) 4 (.int .i64 rkind)) 5 (.slice A2 n2 c2)) 6 (.int .i64 rlo)) 7 (.int .i64 rhi)) 8 (.int .i64 rval)) 9 (.int .i64 0)
    have HB_5 := Lib.hid (below_grown HB_4.out hgr5 (by omega))
    have hw_5 := HB_5.out.size
    have hws_5 := hgr5.size
    have HYz_5 := Lib.hid ((Bytes.grown HYz_4.out (Nat.le_refl _) HS0_4.out rfl hgr5).more hws_5)
    clear HYz_4
    clear hW5
    clear f0_4_0 f0_4_1 f0_4_2 f0_4_3 f0_4_4 f0_4_5 f0_4_6 f0_4_7 f0_4_8 f0_4_9 HS0_4 hf0_4 f1_4_0 f1_4_1 f1_4_2 f1_4_3 f1_4_4 f1_4_5 f1_4_6 f1_4_7 f1_4_8 f1_4_9 HS1_4
    clear hgr5
    obtain ⟨f0_5_0, f0_5_1, f0_5_2, f0_5_3, f0_5_4, f0_5_5, f0_5_6, f0_5_7, f0_5_8, f0_5_9⟩ := str10 HS0_5.out
    have hl0_5 := HS0_5.out.lt
    have hf0_5 := fun j => HS0_5.out.frozen j
    obtain ⟨f1_5_0, f1_5_1, f1_5_2, f1_5_3, f1_5_4, f1_5_5, f1_5_6, f1_5_7, f1_5_8, f1_5_9⟩ := str10 HS1_5.out
    have hl1_5 := HS1_5.out.lt
    refine bodyPost_ret (v := .tuple #[.agg #[.int .i64 1, .string (strOf (l.take y.toNat)), .int .i64 rs, .string rk, .int .i64 rkind, .slice A2 n2 c2, .int .i64 rlo, .int .i64 rhi, .int .i64 rval, .int .i64 0], .int .i64 (2 + (y.toNat : Int) + 64), .int .i64 0]) (by simp [results, Try.results17, go_sem, *]) rfl ?_
    rw [HE.out, HSE.out.1, show ((2 + y.toNat + UndoP.size 1 : Nat) : Int) = 2 + (y.toNat : Int) + 64 by simp [UndoP.size]]
    exact ⟨A2, n2, c2, rfl, HYz_5.out, HB_5.out⟩

set_option maxRecDepth 100000 in
set_option maxHeartbeats 2000000 in
theorem get_2_one (A : Option Addr) (n c B : Nat) (x : UInt8) (w : World) (h : Bytes w B A n c [x]) (hB : B ≤ w.heap.size) (hn : n ≤ 1000000) (hx : (x.toNat : Int) = 2) : Calls Try.prog 17 #[.slice A n c] w (GotUndo w (UndoP.get [x])) := by
  rw [UndoP.get_one x (by omega) (by omega)]
  have Hh := Lib.hid h
  have hln := h.len
  have HLN := Lib.hid hln
  have hcm := h.2.2.1
  have hnc := h.2.1
  unfold maxLen at hcm
  clear h hln
  go_enter Try.func17, Try.ntmps17
  go_wp2_with fail
  generalize hW0 : (w).alloc (.cells #[.int .i64 0, .string ⟨#[]⟩, .int .i64 0, .string ⟨#[]⟩, .int .i64 0, .slice none 0 0, .int .i64 0, .int .i64 0, .int .i64 0, .int .i64 0] 29) = W0
  have HS0_0 : Hid (Str W0 (w.heap.size) #[.int .i64 0, .string ⟨#[]⟩, .int .i64 0, .string ⟨#[]⟩, .int .i64 0, .slice none 0 0, .int .i64 0, .int .i64 0, .int .i64 0, .int .i64 0]) := Lib.hid (by rw [← hW0]; have := Str.new (w) #[.int .i64 0, .string ⟨#[]⟩, .int .i64 0, .string ⟨#[]⟩, .int .i64 0, .slice none 0 0, .int .i64 0, .int .i64 0, .int .i64 0, .int .i64 0] 29; simpa using this)
  have HB_0 : Hid (Below w.heap.size w W0) := Lib.hid (by rw [← hW0]; exact balloc (bsame w) _)
  have hw_0 := HB_0.out.size
  clear hW0
  obtain ⟨f0_0_0, f0_0_1, f0_0_2, f0_0_3, f0_0_4, f0_0_5, f0_0_6, f0_0_7, f0_0_8, f0_0_9⟩ := str10 HS0_0.out
  have hl0_0 := HS0_0.out.lt
  have hf0_0 := fun j => HS0_0.out.frozen j
  refine (NumW.at_any A n c B 0 1 [x] _ (Hh.out.below (HB_0.out.mono hB)) (by omega) (by omega) (by omega)).mono ?_
  rintro e W0_ ⟨rfl, rfl⟩
  rw [show NumP.there [x] 0 1 = true from rfl, val0, hx]
  go_wp2_with fail
  refine (NumW.at_any A n c B 1 1 [x] _ (Hh.out.below (HB_0.out.mono hB)) (by omega) (by omega) (by omega)).mono ?_
  rintro e W0_ ⟨rfl, rfl⟩
  rw [show NumP.there [x] 1 1 = false from rfl]
  go_wp2_with fail
  generalize hW1 : ((((((((((W0).setCell ⟨w.heap.size, 0, none⟩ (.int .i64 0)).setCell ⟨w.heap.size, 1, none⟩ (.string ⟨#[]⟩)).setCell ⟨w.heap.size, 2, none⟩ (.int .i64 0)).setCell ⟨w.heap.size, 3, none⟩ (.string ⟨#[]⟩)).setCell ⟨w.heap.size, 4, none⟩ (.int .i64 0)).setCell ⟨w.heap.size, 5, none⟩ (.slice none 0 0)).setCell ⟨w.heap.size, 6, none⟩ (.int .i64 0)).setCell ⟨w.heap.size, 7, none⟩ (.int .i64 0)).setCell ⟨w.heap.size, 8, none⟩ (.int .i64 0)).setCell ⟨w.heap.size, 9, none⟩ (.int .i64 0) = W1
  have HS0_1 : Hid (Str W1 (w.heap.size) #[.int .i64 0, .string ⟨#[]⟩, .int .i64 0, .string ⟨#[]⟩, .int .i64 0, .slice none 0 0, .int .i64 0, .int .i64 0, .int .i64 0, .int .i64 0]) := Lib.hid (by rw [← hW1]; have := ((((((((((HS0_0.out).set 0 (.int .i64 0)).set 1 (.string ⟨#[]⟩)).set 2 (.int .i64 0)).set 3 (.string ⟨#[]⟩)).set 4 (.int .i64 0)).set 5 (.slice none 0 0)).set 6 (.int .i64 0)).set 7 (.int .i64 0)).set 8 (.int .i64 0)).set 9 (.int .i64 0); simpa using this)
  have hgr1 : W0.grownBy W1 (some (w.heap.size)) := by rw [← hW1]; exact grown_set (grown_set (grown_set (grown_set (grown_set (grown_set (grown_set (grown_set (grown_set (grown_set (grown_refl W0 (w.heap.size)) 0 (.int .i64 0)) 1 (.string ⟨#[]⟩)) 2 (.int .i64 0)) 3 (.string ⟨#[]⟩)) 4 (.int .i64 0)) 5 (.slice none 0 0)) 6 (.int .i64 0)) 7 (.int .i64 0)) 8 (.int .i64 0)) 9 (.int .i64 0)
  have HB_1 := Lib.hid (below_grown HB_0.out hgr1 (by omega))
  have hw_1 := HB_1.out.size
  have hws_1 := hgr1.size
  clear hW1
  clear f0_0_0 f0_0_1 f0_0_2 f0_0_3 f0_0_4 f0_0_5 f0_0_6 f0_0_7 f0_0_8 f0_0_9 HS0_0 hf0_0
  clear hgr1
  obtain ⟨f0_1_0, f0_1_1, f0_1_2, f0_1_3, f0_1_4, f0_1_5, f0_1_6, f0_1_7, f0_1_8, f0_1_9⟩ := str10 HS0_1.out
  have hl0_1 := HS0_1.out.lt
  have hf0_1 := fun j => HS0_1.out.frozen j
  exact bodyPost_ret (v := .tuple #[.agg #[.int .i64 0, .string ⟨#[]⟩, .int .i64 0, .string ⟨#[]⟩, .int .i64 0, .slice none 0 0, .int .i64 0, .int .i64 0, .int .i64 0, .int .i64 0], .int .i64 0, .int .i64 13]) (by simp [results, Try.results17, go_sem, *]) rfl ⟨none, 0, 0, rfl, Bytes.none_ _ _, HB_1.out⟩

set_option maxRecDepth 100000 in
set_option maxHeartbeats 2000000 in
theorem get_2_short (A : Option Addr) (n c B : Nat) (x y : UInt8) (l : List UInt8) (w : World) (h : Bytes w B A n c (x :: y :: l)) (hB : B ≤ w.heap.size) (hn : n ≤ 1000000) (hx : (x.toNat : Int) = 2) (hs : n < 2 + y.toNat + 8) : Calls Try.prog 17 #[.slice A n c] w (GotUndo w (UndoP.get (x :: y :: l))) := by
  have hxn : x.toNat = 2 := by omega
  have HGG : Hid (UndoP.get (x :: y :: l) = (UndoP.none, 0, 13)) := Lib.hid (by rw [UndoP.get_two x y l (by omega) (by omega), if_pos (by rw [h.len, hxn]; exact hs)])
  rw [HGG.out]
  have hy := y.toNat_lt
  clear hxn
  have Hh := Lib.hid h
  have hln := h.len
  have HLN := Lib.hid hln
  have hcm := h.2.2.1
  have hnc := h.2.1
  unfold maxLen at hcm
  clear h hln
  go_enter Try.func17, Try.ntmps17
  go_wp2_with fail
  generalize hW0 : (w).alloc (.cells #[.int .i64 0, .string ⟨#[]⟩, .int .i64 0, .string ⟨#[]⟩, .int .i64 0, .slice none 0 0, .int .i64 0, .int .i64 0, .int .i64 0, .int .i64 0] 29) = W0
  have HS0_0 : Hid (Str W0 (w.heap.size) #[.int .i64 0, .string ⟨#[]⟩, .int .i64 0, .string ⟨#[]⟩, .int .i64 0, .slice none 0 0, .int .i64 0, .int .i64 0, .int .i64 0, .int .i64 0]) := Lib.hid (by rw [← hW0]; have := Str.new (w) #[.int .i64 0, .string ⟨#[]⟩, .int .i64 0, .string ⟨#[]⟩, .int .i64 0, .slice none 0 0, .int .i64 0, .int .i64 0, .int .i64 0, .int .i64 0] 29; simpa using this)
  have HB_0 : Hid (Below w.heap.size w W0) := Lib.hid (by rw [← hW0]; exact balloc (bsame w) _)
  have hw_0 := HB_0.out.size
  clear hW0
  obtain ⟨f0_0_0, f0_0_1, f0_0_2, f0_0_3, f0_0_4, f0_0_5, f0_0_6, f0_0_7, f0_0_8, f0_0_9⟩ := str10 HS0_0.out
  have hl0_0 := HS0_0.out.lt
  have hf0_0 := fun j => HS0_0.out.frozen j
  refine (NumW.at_any A n c B 0 1 (x :: y :: l) _ (Hh.out.below (HB_0.out.mono hB)) (by omega) (by omega) (by omega)).mono ?_
  rintro e W0_ ⟨rfl, rfl⟩
  rw [show NumP.there (x :: y :: l) 0 1 = true from by simp [NumP.there], val0, hx]
  go_wp2_with fail
  refine (NumW.at_any A n c B 1 1 (x :: y :: l) _ (Hh.out.below (HB_0.out.mono hB)) (by omega) (by omega) (by omega)).mono ?_
  rintro e W0_ ⟨rfl, rfl⟩
  rw [show NumP.there (x :: y :: l) 1 1 = true from by simp [NumP.there], val1]
  skip
  go_wp2_with fail
  generalize hW1 : ((((((((((W0).setCell ⟨w.heap.size, 0, none⟩ (.int .i64 0)).setCell ⟨w.heap.size, 1, none⟩ (.string ⟨#[]⟩)).setCell ⟨w.heap.size, 2, none⟩ (.int .i64 0)).setCell ⟨w.heap.size, 3, none⟩ (.string ⟨#[]⟩)).setCell ⟨w.heap.size, 4, none⟩ (.int .i64 0)).setCell ⟨w.heap.size, 5, none⟩ (.slice none 0 0)).setCell ⟨w.heap.size, 6, none⟩ (.int .i64 0)).setCell ⟨w.heap.size, 7, none⟩ (.int .i64 0)).setCell ⟨w.heap.size, 8, none⟩ (.int .i64 0)).setCell ⟨w.heap.size, 9, none⟩ (.int .i64 0) = W1
  have HS0_1 : Hid (Str W1 (w.heap.size) #[.int .i64 0, .string ⟨#[]⟩, .int .i64 0, .string ⟨#[]⟩, .int .i64 0, .slice none 0 0, .int .i64 0, .int .i64 0, .int .i64 0, .int .i64 0]) := Lib.hid (by rw [← hW1]; have := ((((((((((HS0_0.out).set 0 (.int .i64 0)).set 1 (.string ⟨#[]⟩)).set 2 (.int .i64 0)).set 3 (.string ⟨#[]⟩)).set 4 (.int .i64 0)).set 5 (.slice none 0 0)).set 6 (.int .i64 0)).set 7 (.int .i64 0)).set 8 (.int .i64 0)).set 9 (.int .i64 0); simpa using this)
  have hgr1 : W0.grownBy W1 (some (w.heap.size)) := by rw [← hW1]; exact grown_set (grown_set (grown_set (grown_set (grown_set (grown_set (grown_set (grown_set (grown_set (grown_set (grown_refl W0 (w.heap.size)) 0 (.int .i64 0)) 1 (.string ⟨#[]⟩)) 2 (.int .i64 0)) 3 (.string ⟨#[]⟩)) 4 (.int .i64 0)) 5 (.slice none 0 0)) 6 (.int .i64 0)) 7 (.int .i64 0)) 8 (.int .i64 0)) 9 (.int .i64 0)
  have HB_1 := Lib.hid (below_grown HB_0.out hgr1 (by omega))
  have hw_1 := HB_1.out.size
  have hws_1 := hgr1.size
  clear hW1
  clear f0_0_0 f0_0_1 f0_0_2 f0_0_3 f0_0_4 f0_0_5 f0_0_6 f0_0_7 f0_0_8 f0_0_9 HS0_0 hf0_0
  clear hgr1
  obtain ⟨f0_1_0, f0_1_1, f0_1_2, f0_1_3, f0_1_4, f0_1_5, f0_1_6, f0_1_7, f0_1_8, f0_1_9⟩ := str10 HS0_1.out
  have hl0_1 := HS0_1.out.lt
  have hf0_1 := fun j => HS0_1.out.frozen j
  exact bodyPost_ret (v := .tuple #[.agg #[.int .i64 0, .string ⟨#[]⟩, .int .i64 0, .string ⟨#[]⟩, .int .i64 0, .slice none 0 0, .int .i64 0, .int .i64 0, .int .i64 0, .int .i64 0], .int .i64 0, .int .i64 13]) (by simp [results, Try.results17, go_sem, *]) rfl ⟨none, 0, 0, rfl, Bytes.none_ _ _, HB_1.out⟩

set_option maxRecDepth 100000 in
set_option maxHeartbeats 2000000 in
theorem get_2_full (A : Option Addr) (n c B : Nat) (x y : UInt8) (l : List UInt8) (w : World) (h : Bytes w B A n c (x :: y :: l)) (hB : B ≤ w.heap.size) (hn : n ≤ 1000000) (hx : (x.toNat : Int) = 2) (hs : ¬ n < 2 + y.toNat + 8) : Calls Try.prog 17 #[.slice A n c] w (GotUndo w (UndoP.get (x :: y :: l))) := by
  have hxn : x.toNat = 2 := by omega
  have HGG := Lib.hid (UndoP.get_two x y l (by omega) (by omega))
  rw [if_neg (by rw [h.len, hxn]; exact hs), hxn] at HGG
  have hy := y.toNat_lt
  clear hxn
  have Hh := Lib.hid h
  have hln := h.len
  have HLN := Lib.hid hln
  have hcm := h.2.2.1
  have hnc := h.2.1
  unfold maxLen at hcm
  clear h hln
  go_enter Try.func17, Try.ntmps17
  go_wp2_with fail
  generalize hW0 : (w).alloc (.cells #[.int .i64 0, .string ⟨#[]⟩, .int .i64 0, .string ⟨#[]⟩, .int .i64 0, .slice none 0 0, .int .i64 0, .int .i64 0, .int .i64 0, .int .i64 0] 29) = W0
  have HS0_0 : Hid (Str W0 (w.heap.size) #[.int .i64 0, .string ⟨#[]⟩, .int .i64 0, .string ⟨#[]⟩, .int .i64 0, .slice none 0 0, .int .i64 0, .int .i64 0, .int .i64 0, .int .i64 0]) := Lib.hid (by rw [← hW0]; have := Str.new (w) #[.int .i64 0, .string ⟨#[]⟩, .int .i64 0, .string ⟨#[]⟩, .int .i64 0, .slice none 0 0, .int .i64 0, .int .i64 0, .int .i64 0, .int .i64 0] 29; simpa using this)
  have HB_0 : Hid (Below w.heap.size w W0) := Lib.hid (by rw [← hW0]; exact balloc (bsame w) _)
  have hw_0 := HB_0.out.size
  clear hW0
  obtain ⟨f0_0_0, f0_0_1, f0_0_2, f0_0_3, f0_0_4, f0_0_5, f0_0_6, f0_0_7, f0_0_8, f0_0_9⟩ := str10 HS0_0.out
  have hl0_0 := HS0_0.out.lt
  have hf0_0 := fun j => HS0_0.out.frozen j
  refine (NumW.at_any A n c B 0 1 (x :: y :: l) _ (Hh.out.below (HB_0.out.mono hB)) (by omega) (by omega) (by omega)).mono ?_
  rintro e W0_ ⟨rfl, rfl⟩
  rw [show NumP.there (x :: y :: l) 0 1 = true from by simp [NumP.there], val0, hx]
  go_wp2_with fail
  refine (NumW.at_any A n c B 1 1 (x :: y :: l) _ (Hh.out.below (HB_0.out.mono hB)) (by omega) (by omega) (by omega)).mono ?_
  rintro e W0_ ⟨rfl, rfl⟩
  rw [show NumP.there (x :: y :: l) 1 1 = true from by simp [NumP.there], val1]
  skip
  have hcut := (Hh.out.cut 2 (2 + y.toNat) c (by omega) (by omega) (by omega) (Nat.le_refl _)).below (HB_0.out.mono hB)
  rw [show (x :: y :: l).drop 2 = l from rfl, show 2 + y.toNat - 2 = y.toNat by omega] at hcut
  have hcv := run_str (P := Try.prog) 22 9 5 Try.underlying22 Try.underlying5 Try.underlying9 hcut
  have HKS : Hid ((strOf (l.take y.toNat)).size ≤ maxLen) := Lib.hid (by show (l.take y.toNat).length ≤ maxLen; rw [List.length_take]; unfold maxLen; omega)
  clear hcut
  go_wp2_with fail
  generalize hW1 : W0.alloc (.cells #[.int .i64 2, .string (strOf (l.take y.toNat)), .int .i64 0, .string ⟨#[]⟩, .int .i64 0, .slice none 0 0, .int .i64 0, .int .i64 0, .int .i64 0, .int .i64 0] 29) = W1
  have HS0_1 : Hid (Str W1 (w.heap.size) #[.int .i64 0, .string ⟨#[]⟩, .int .i64 0, .string ⟨#[]⟩, .int .i64 0, .slice none 0 0, .int .i64 0, .int .i64 0, .int .i64 0, .int .i64 0]) := Lib.hid (by rw [← hW1]; exact HS0_0.out.alloc _)
  have HS1_1 : Hid (Str W1 W0.heap.size #[.int .i64 2, .string (strOf (l.take y.toNat)), .int .i64 0, .string ⟨#[]⟩, .int .i64 0, .slice none 0 0, .int .i64 0, .int .i64 0, .int .i64 0, .int .i64 0]) := Lib.hid (by rw [← hW1]; exact Str.new W0 #[.int .i64 2, .string (strOf (l.take y.toNat)), .int .i64 0, .string ⟨#[]⟩, .int .i64 0, .slice none 0 0, .int .i64 0, .int .i64 0, .int .i64 0, .int .i64 0] 29)
  have hba1 : Below W0.heap.size W0 W1 := by rw [← hW1]; exact balloc (bsame _) _
  have HB_1 := Lib.hid (bstep HB_0.out hba1)
  have hw_1 := HB_1.out.size
  have hws_1 := hba1.size
  clear hW1
  clear f0_0_0 f0_0_1 f0_0_2 f0_0_3 f0_0_4 f0_0_5 f0_0_6 f0_0_7 f0_0_8 f0_0_9 HS0_0 hf0_0
  obtain ⟨f0_1_0, f0_1_1, f0_1_2, f0_1_3, f0_1_4, f0_1_5, f0_1_6, f0_1_7, f0_1_8, f0_1_9⟩ := str10 HS0_1.out
  have hl0_1 := HS0_1.out.lt
  have hf0_1 := fun j => HS0_1.out.frozen j
  obtain ⟨f1_1_0, f1_1_1, f1_1_2, f1_1_3, f1_1_4, f1_1_5, f1_1_6, f1_1_7, f1_1_8, f1_1_9⟩ := str10 HS1_1.out
  have hl1_1 := HS1_1.out.lt
  clear hba1 hcv
  have hfu := fun j => HS1_1.out.frozen j
  rw [show (2 : Int) + (y.toNat : Int) = ((2 + y.toNat : Nat) : Int) by omega]
  refine (NumW.at_any A n c B (2 + y.toNat) 8 (x :: y :: l) _ (Hh.out.below (HB_1.out.mono hB)) (by omega) (by omega) (by omega)).mono ?_
  rintro e W1_ ⟨rfl, rfl⟩
  go_wp2_with fail
  generalize hW2 : (W1).setCell ⟨W0.heap.size, 9, none⟩ (.int .i64 (NumP.val (x :: y :: l) (2 + y.toNat) 8)) = W2
  have HS0_2 : Hid (Str W2 (w.heap.size) #[.int .i64 0, .string ⟨#[]⟩, .int .i64 0, .string ⟨#[]⟩, .int .i64 0, .slice none 0 0, .int .i64 0, .int .i64 0, .int .i64 0, .int .i64 0]) := Lib.hid (by rw [← hW2]; exact (HS0_1.out).other 9 _ (by omega))
  have HS1_2 : Hid (Str W2 (W0.heap.size) #[.int .i64 2, .string (strOf (l.take y.toNat)), .int .i64 0, .string ⟨#[]⟩, .int .i64 0, .slice none 0 0, .int .i64 0, .int .i64 0, .int .i64 0, .int .i64 (NumP.val (x :: y :: l) (2 + y.toNat) 8)]) := Lib.hid (by rw [← hW2]; have := (HS1_1.out).set 9 (.int .i64 (NumP.val (x :: y :: l) (2 + y.toNat) 8)); simpa using this)
  have hgr2 : W1.grownBy W2 (some (W0.heap.size)) := by rw [← hW2]; exact grown_set (grown_refl W1 (W0.heap.size)) 9 (.int .i64 (NumP.val (x :: y :: l) (2 + y.toNat) 8))
  have HB_2 := Lib.hid (below_grown HB_1.out hgr2 (by omega))
  have hw_2 := HB_2.out.size
  have hws_2 := hgr2.size
  clear hW2
  clear f0_1_0 f0_1_1 f0_1_2 f0_1_3 f0_1_4 f0_1_5 f0_1_6 f0_1_7 f0_1_8 f0_1_9 HS0_1 hf0_1 f1_1_0 f1_1_1 f1_1_2 f1_1_3 f1_1_4 f1_1_5 f1_1_6 f1_1_7 f1_1_8 f1_1_9 HS1_1
  clear hgr2
  obtain ⟨f0_2_0, f0_2_1, f0_2_2, f0_2_3, f0_2_4, f0_2_5, f0_2_6, f0_2_7, f0_2_8, f0_2_9⟩ := str10 HS0_2.out
  have hl0_2 := HS0_2.out.lt
  have hf0_2 := fun j => HS0_2.out.frozen j
  obtain ⟨f1_2_0, f1_2_1, f1_2_2, f1_2_3, f1_2_4, f1_2_5, f1_2_6, f1_2_7, f1_2_8, f1_2_9⟩ := str10 HS1_2.out
  have hl1_2 := HS1_2.out.lt
  clear hfu
  refine (right_any 2 (strOf (l.take y.toNat)) none 0 0 0 0 ⟨#[]⟩ 0 [] 0 0 0 (NumP.val (x :: y :: l) (2 + y.toNat) 8) _ (Bytes.none_ _ _) (Nat.zero_le _) (by decide) HKS.out).mono ?_
  rintro e W3 ⟨rfl, hb3⟩
  rw [show UndoP.right ⟨2, strOf (l.take y.toNat), ⟨0, ⟨#[]⟩, ⟨0, [], 0, 0, 0⟩⟩, NumP.val (x :: y :: l) (2 + y.toNat) 8⟩ = UndoP.right (UndoP.seem 2 (x :: y :: l)) from rfl]
  have HS0_3 := Lib.hid (HS0_2.out.next hb3)
  have HS1_3 := Lib.hid (HS1_2.out.next hb3)
  have HB_3 := Lib.hid (bstep HB_2.out hb3)
  have hw_3 := HB_3.out.size
  have hws_3 := (hb3).size
  clear f0_2_0 f0_2_1 f0_2_2 f0_2_3 f0_2_4 f0_2_5 f0_2_6 f0_2_7 f0_2_8 f0_2_9 HS0_2 hf0_2 f1_2_0 f1_2_1 f1_2_2 f1_2_3 f1_2_4 f1_2_5 f1_2_6 f1_2_7 f1_2_8 f1_2_9 HS1_2
  clear hb3
  obtain ⟨f0_3_0, f0_3_1, f0_3_2, f0_3_3, f0_3_4, f0_3_5, f0_3_6, f0_3_7, f0_3_8, f0_3_9⟩ := str10 HS0_3.out
  have hl0_3 := HS0_3.out.lt
  have hf0_3 := fun j => HS0_3.out.frozen j
  obtain ⟨f1_3_0, f1_3_1, f1_3_2, f1_3_3, f1_3_4, f1_3_5, f1_3_6, f1_3_7, f1_3_8, f1_3_9⟩ := str10 HS1_3.out
  have hl1_3 := HS1_3.out.lt
  cases hr : UndoP.right (UndoP.seem 2 (x :: y :: l))
  case false =>
    have HE : Hid (UndoP.get (x :: y :: l) = (UndoP.none, 0, 12)) := Lib.hid (by rw [HGG.out, if_neg (by rw [hr]; simp)])
    go_wp2_with fail
    generalize hW4 : ((((((((((W3).setCell ⟨w.heap.size, 0, none⟩ (.int .i64 0)).setCell ⟨w.heap.size, 1, none⟩ (.string ⟨#[]⟩)).setCell ⟨w.heap.size, 2, none⟩ (.int .i64 0)).setCell ⟨w.heap.size, 3, none⟩ (.string ⟨#[]⟩)).setCell ⟨w.heap.size, 4, none⟩ (.int .i64 0)).setCell ⟨w.heap.size, 5, none⟩ (.slice none 0 0)).setCell ⟨w.heap.size, 6, none⟩ (.int .i64 0)).setCell ⟨w.heap.size, 7, none⟩ (.int .i64 0)).setCell ⟨w.heap.size, 8, none⟩ (.int .i64 0)).setCell ⟨w.heap.size, 9, none⟩ (.int .i64 0) = W4
    have HS0_4 : Hid (Str W4 (w.heap.size) #[.int .i64 0, .string ⟨#[]⟩, .int .i64 0, .string ⟨#[]⟩, .int .i64 0, .slice none 0 0, .int .i64 0, .int .i64 0, .int .i64 0, .int .i64 0]) := Lib.hid (by rw [← hW4]; have := ((((((((((HS0_3.out).set 0 (.int .i64 0)).set 1 (.string ⟨#[]⟩)).set 2 (.int .i64 0)).set 3 (.string ⟨#[]⟩)).set 4 (.int .i64 0)).set 5 (.slice none 0 0)).set 6 (.int .i64 0)).set 7 (.int .i64 0)).set 8 (.int .i64 0)).set 9 (.int .i64 0); simpa using this)
    have HS1_4 : Hid (Str W4 (W0.heap.size) #[.int .i64 2, .string (strOf (l.take y.toNat)), .int .i64 0, .string ⟨#[]⟩, .int .i64 0, .slice none 0 0, .int .i64 0, .int .i64 0, .int .i64 0, .int .i64 (NumP.val (x :: y :: l) (2 + y.toNat) 8)]) := Lib.hid (by rw [← hW4]; exact ((((((((((HS1_3.out).other 0 _ (by omega)).other 1 _ (by omega)).other 2 _ (by omega)).other 3 _ (by omega)).other 4 _ (by omega)).other 5 _ (by omega)).other 6 _ (by omega)).other 7 _ (by omega)).other 8 _ (by omega)).other 9 _ (by omega))
    have hgr4 : W3.grownBy W4 (some (w.heap.size)) := by rw [← hW4]; exact grown_set (grown_set (grown_set (grown_set (grown_set (grown_set (grown_set (grown_set (grown_set (grown_set (grown_refl W3 (w.heap.size)) 0 (.int .i64 0)) 1 (.string ⟨#[]⟩)) 2 (.int .i64 0)) 3 (.string ⟨#[]⟩)) 4 (.int .i64 0)) 5 (.slice none 0 0)) 6 (.int .i64 0)) 7 (.int .i64 0)) 8 (.int .i64 0)) 9 (.int .i64 0)
    have HB_4 := Lib.hid (below_grown HB_3.out hgr4 (by omega))
    have hw_4 := HB_4.out.size
    have hws_4 := hgr4.size
    clear hW4
    clear f0_3_0 f0_3_1 f0_3_2 f0_3_3 f0_3_4 f0_3_5 f0_3_6 f0_3_7 f0_3_8 f0_3_9 HS0_3 hf0_3 f1_3_0 f1_3_1 f1_3_2 f1_3_3 f1_3_4 f1_3_5 f1_3_6 f1_3_7 f1_3_8 f1_3_9 HS1_3
    clear hgr4
    obtain ⟨f0_4_0, f0_4_1, f0_4_2, f0_4_3, f0_4_4, f0_4_5, f0_4_6, f0_4_7, f0_4_8, f0_4_9⟩ := str10 HS0_4.out
    have hl0_4 := HS0_4.out.lt
    have hf0_4 := fun j => HS0_4.out.frozen j
    obtain ⟨f1_4_0, f1_4_1, f1_4_2, f1_4_3, f1_4_4, f1_4_5, f1_4_6, f1_4_7, f1_4_8, f1_4_9⟩ := str10 HS1_4.out
    have hl1_4 := HS1_4.out.lt
    refine bodyPost_ret (v := .tuple #[.agg #[.int .i64 0, .string ⟨#[]⟩, .int .i64 0, .string ⟨#[]⟩, .int .i64 0, .slice none 0 0, .int .i64 0, .int .i64 0, .int .i64 0, .int .i64 0], .int .i64 0, .int .i64 12]) (by simp [results, Try.results17, go_sem, *]) rfl ?_
    rw [HE.out]
    exact ⟨none, 0, 0, rfl, Bytes.none_ _ _, HB_4.out⟩
  case true =>
    have HE : Hid (UndoP.get (x :: y :: l) = ((UndoP.seem 2 (x :: y :: l)), ((2 + y.toNat + UndoP.size 2 : Nat) : Int), 0)) := Lib.hid (by rw [HGG.out, if_pos ⟨rfl, hr⟩])
    go_wp2_with fail
    generalize hW4 : ((((((((((W3).setCell ⟨w.heap.size, 0, none⟩ (.int .i64 2)).setCell ⟨w.heap.size, 1, none⟩ (.string (strOf (l.take y.toNat)))).setCell ⟨w.heap.size, 2, none⟩ (.int .i64 0)).setCell ⟨w.heap.size, 3, none⟩ (.string ⟨#[]⟩)).setCell ⟨w.heap.size, 4, none⟩ (.int .i64 0)).setCell ⟨w.heap.size, 5, none⟩ (.slice none 0 0)).setCell ⟨w.heap.size, 6, none⟩ (.int .i64 0)).setCell ⟨w.heap.size, 7, none⟩ (.int .i64 0)).setCell ⟨w.heap.size, 8, none⟩ (.int .i64 0)).setCell ⟨w.heap.size, 9, none⟩ (.int .i64 (NumP.val (x :: y :: l) (2 + y.toNat) 8)) = W4
    have HS0_4 : Hid (Str W4 (w.heap.size) #[.int .i64 2, .string (strOf (l.take y.toNat)), .int .i64 0, .string ⟨#[]⟩, .int .i64 0, .slice none 0 0, .int .i64 0, .int .i64 0, .int .i64 0, .int .i64 (NumP.val (x :: y :: l) (2 + y.toNat) 8)]) := Lib.hid (by rw [← hW4]; have := ((((((((((HS0_3.out).set 0 (.int .i64 2)).set 1 (.string (strOf (l.take y.toNat)))).set 2 (.int .i64 0)).set 3 (.string ⟨#[]⟩)).set 4 (.int .i64 0)).set 5 (.slice none 0 0)).set 6 (.int .i64 0)).set 7 (.int .i64 0)).set 8 (.int .i64 0)).set 9 (.int .i64 (NumP.val (x :: y :: l) (2 + y.toNat) 8)); simpa using this)
    have HS1_4 : Hid (Str W4 (W0.heap.size) #[.int .i64 2, .string (strOf (l.take y.toNat)), .int .i64 0, .string ⟨#[]⟩, .int .i64 0, .slice none 0 0, .int .i64 0, .int .i64 0, .int .i64 0, .int .i64 (NumP.val (x :: y :: l) (2 + y.toNat) 8)]) := Lib.hid (by rw [← hW4]; exact ((((((((((HS1_3.out).other 0 _ (by omega)).other 1 _ (by omega)).other 2 _ (by omega)).other 3 _ (by omega)).other 4 _ (by omega)).other 5 _ (by omega)).other 6 _ (by omega)).other 7 _ (by omega)).other 8 _ (by omega)).other 9 _ (by omega))
    have hgr4 : W3.grownBy W4 (some (w.heap.size)) := by rw [← hW4]; exact grown_set (grown_set (grown_set (grown_set (grown_set (grown_set (grown_set (grown_set (grown_set (grown_set (grown_refl W3 (w.heap.size)) 0 (.int .i64 2)) 1 (.string (strOf (l.take y.toNat)))) 2 (.int .i64 0)) 3 (.string ⟨#[]⟩)) 4 (.int .i64 0)) 5 (.slice none 0 0)) 6 (.int .i64 0)) 7 (.int .i64 0)) 8 (.int .i64 0)) 9 (.int .i64 (NumP.val (x :: y :: l) (2 + y.toNat) 8))
    have HB_4 := Lib.hid (below_grown HB_3.out hgr4 (by omega))
    have hw_4 := HB_4.out.size
    have hws_4 := hgr4.size
    clear hW4
    clear f0_3_0 f0_3_1 f0_3_2 f0_3_3 f0_3_4 f0_3_5 f0_3_6 f0_3_7 f0_3_8 f0_3_9 HS0_3 hf0_3 f1_3_0 f1_3_1 f1_3_2 f1_3_3 f1_3_4 f1_3_5 f1_3_6 f1_3_7 f1_3_8 f1_3_9 HS1_3
    clear hgr4
    obtain ⟨f0_4_0, f0_4_1, f0_4_2, f0_4_3, f0_4_4, f0_4_5, f0_4_6, f0_4_7, f0_4_8, f0_4_9⟩ := str10 HS0_4.out
    have hl0_4 := HS0_4.out.lt
    have hf0_4 := fun j => HS0_4.out.frozen j
    obtain ⟨f1_4_0, f1_4_1, f1_4_2, f1_4_3, f1_4_4, f1_4_5, f1_4_6, f1_4_7, f1_4_8, f1_4_9⟩ := str10 HS1_4.out
    have hl1_4 := HS1_4.out.lt
    refine bodyPost_ret (v := .tuple #[.agg #[.int .i64 2, .string (strOf (l.take y.toNat)), .int .i64 0, .string ⟨#[]⟩, .int .i64 0, .slice none 0 0, .int .i64 0, .int .i64 0, .int .i64 0, .int .i64 (NumP.val (x :: y :: l) (2 + y.toNat) 8)], .int .i64 (2 + (y.toNat : Int) + 8), .int .i64 0]) (by simp [results, Try.results17, go_sem, *]) rfl ?_
    rw [HE.out, show ((2 + y.toNat + UndoP.size 2 : Nat) : Int) = 2 + (y.toNat : Int) + 8 by simp [UndoP.size]]
    exact ⟨none, 0, 0, rfl, Bytes.none_ _ _, HB_4.out⟩

set_option maxRecDepth 100000 in
set_option maxHeartbeats 2000000 in
theorem get_3_one (A : Option Addr) (n c B : Nat) (x : UInt8) (w : World) (h : Bytes w B A n c [x]) (hB : B ≤ w.heap.size) (hn : n ≤ 1000000) (hx : (x.toNat : Int) = 3) : Calls Try.prog 17 #[.slice A n c] w (GotUndo w (UndoP.get [x])) := by
  rw [UndoP.get_one x (by omega) (by omega)]
  have Hh := Lib.hid h
  have hln := h.len
  have HLN := Lib.hid hln
  have hcm := h.2.2.1
  have hnc := h.2.1
  unfold maxLen at hcm
  clear h hln
  go_enter Try.func17, Try.ntmps17
  go_wp2_with fail
  generalize hW0 : (w).alloc (.cells #[.int .i64 0, .string ⟨#[]⟩, .int .i64 0, .string ⟨#[]⟩, .int .i64 0, .slice none 0 0, .int .i64 0, .int .i64 0, .int .i64 0, .int .i64 0] 29) = W0
  have HS0_0 : Hid (Str W0 (w.heap.size) #[.int .i64 0, .string ⟨#[]⟩, .int .i64 0, .string ⟨#[]⟩, .int .i64 0, .slice none 0 0, .int .i64 0, .int .i64 0, .int .i64 0, .int .i64 0]) := Lib.hid (by rw [← hW0]; have := Str.new (w) #[.int .i64 0, .string ⟨#[]⟩, .int .i64 0, .string ⟨#[]⟩, .int .i64 0, .slice none 0 0, .int .i64 0, .int .i64 0, .int .i64 0, .int .i64 0] 29; simpa using this)
  have HB_0 : Hid (Below w.heap.size w W0) := Lib.hid (by rw [← hW0]; exact balloc (bsame w) _)
  have hw_0 := HB_0.out.size
  clear hW0
  obtain ⟨f0_0_0, f0_0_1, f0_0_2, f0_0_3, f0_0_4, f0_0_5, f0_0_6, f0_0_7, f0_0_8, f0_0_9⟩ := str10 HS0_0.out
  have hl0_0 := HS0_0.out.lt
  have hf0_0 := fun j => HS0_0.out.frozen j
  refine (NumW.at_any A n c B 0 1 [x] _ (Hh.out.below (HB_0.out.mono hB)) (by omega) (by omega) (by omega)).mono ?_
  rintro e W0_ ⟨rfl, rfl⟩
  rw [show NumP.there [x] 0 1 = true from rfl, val0, hx]
  go_wp2_with fail
  refine (NumW.at_any A n c B 1 1 [x] _ (Hh.out.below (HB_0.out.mono hB)) (by omega) (by omega) (by omega)).mono ?_
  rintro e W0_ ⟨rfl, rfl⟩
  rw [show NumP.there [x] 1 1 = false from rfl]
  go_wp2_with fail
  generalize hW1 : ((((((((((W0).setCell ⟨w.heap.size, 0, none⟩ (.int .i64 0)).setCell ⟨w.heap.size, 1, none⟩ (.string ⟨#[]⟩)).setCell ⟨w.heap.size, 2, none⟩ (.int .i64 0)).setCell ⟨w.heap.size, 3, none⟩ (.string ⟨#[]⟩)).setCell ⟨w.heap.size, 4, none⟩ (.int .i64 0)).setCell ⟨w.heap.size, 5, none⟩ (.slice none 0 0)).setCell ⟨w.heap.size, 6, none⟩ (.int .i64 0)).setCell ⟨w.heap.size, 7, none⟩ (.int .i64 0)).setCell ⟨w.heap.size, 8, none⟩ (.int .i64 0)).setCell ⟨w.heap.size, 9, none⟩ (.int .i64 0) = W1
  have HS0_1 : Hid (Str W1 (w.heap.size) #[.int .i64 0, .string ⟨#[]⟩, .int .i64 0, .string ⟨#[]⟩, .int .i64 0, .slice none 0 0, .int .i64 0, .int .i64 0, .int .i64 0, .int .i64 0]) := Lib.hid (by rw [← hW1]; have := ((((((((((HS0_0.out).set 0 (.int .i64 0)).set 1 (.string ⟨#[]⟩)).set 2 (.int .i64 0)).set 3 (.string ⟨#[]⟩)).set 4 (.int .i64 0)).set 5 (.slice none 0 0)).set 6 (.int .i64 0)).set 7 (.int .i64 0)).set 8 (.int .i64 0)).set 9 (.int .i64 0); simpa using this)
  have hgr1 : W0.grownBy W1 (some (w.heap.size)) := by rw [← hW1]; exact grown_set (grown_set (grown_set (grown_set (grown_set (grown_set (grown_set (grown_set (grown_set (grown_set (grown_refl W0 (w.heap.size)) 0 (.int .i64 0)) 1 (.string ⟨#[]⟩)) 2 (.int .i64 0)) 3 (.string ⟨#[]⟩)) 4 (.int .i64 0)) 5 (.slice none 0 0)) 6 (.int .i64 0)) 7 (.int .i64 0)) 8 (.int .i64 0)) 9 (.int .i64 0)
  have HB_1 := Lib.hid (below_grown HB_0.out hgr1 (by omega))
  have hw_1 := HB_1.out.size
  have hws_1 := hgr1.size
  clear hW1
  clear f0_0_0 f0_0_1 f0_0_2 f0_0_3 f0_0_4 f0_0_5 f0_0_6 f0_0_7 f0_0_8 f0_0_9 HS0_0 hf0_0
  clear hgr1
  obtain ⟨f0_1_0, f0_1_1, f0_1_2, f0_1_3, f0_1_4, f0_1_5, f0_1_6, f0_1_7, f0_1_8, f0_1_9⟩ := str10 HS0_1.out
  have hl0_1 := HS0_1.out.lt
  have hf0_1 := fun j => HS0_1.out.frozen j
  exact bodyPost_ret (v := .tuple #[.agg #[.int .i64 0, .string ⟨#[]⟩, .int .i64 0, .string ⟨#[]⟩, .int .i64 0, .slice none 0 0, .int .i64 0, .int .i64 0, .int .i64 0, .int .i64 0], .int .i64 0, .int .i64 13]) (by simp [results, Try.results17, go_sem, *]) rfl ⟨none, 0, 0, rfl, Bytes.none_ _ _, HB_1.out⟩

set_option maxRecDepth 100000 in
set_option maxHeartbeats 2000000 in
theorem get_3_short (A : Option Addr) (n c B : Nat) (x y : UInt8) (l : List UInt8) (w : World) (h : Bytes w B A n c (x :: y :: l)) (hB : B ≤ w.heap.size) (hn : n ≤ 1000000) (hx : (x.toNat : Int) = 3) (hs : n < 2 + y.toNat + 8) : Calls Try.prog 17 #[.slice A n c] w (GotUndo w (UndoP.get (x :: y :: l))) := by
  have hxn : x.toNat = 3 := by omega
  have HGG : Hid (UndoP.get (x :: y :: l) = (UndoP.none, 0, 13)) := Lib.hid (by rw [UndoP.get_two x y l (by omega) (by omega), if_pos (by rw [h.len, hxn]; exact hs)])
  rw [HGG.out]
  have hy := y.toNat_lt
  clear hxn
  have Hh := Lib.hid h
  have hln := h.len
  have HLN := Lib.hid hln
  have hcm := h.2.2.1
  have hnc := h.2.1
  unfold maxLen at hcm
  clear h hln
  go_enter Try.func17, Try.ntmps17
  go_wp2_with fail
  generalize hW0 : (w).alloc (.cells #[.int .i64 0, .string ⟨#[]⟩, .int .i64 0, .string ⟨#[]⟩, .int .i64 0, .slice none 0 0, .int .i64 0, .int .i64 0, .int .i64 0, .int .i64 0] 29) = W0
  have HS0_0 : Hid (Str W0 (w.heap.size) #[.int .i64 0, .string ⟨#[]⟩, .int .i64 0, .string ⟨#[]⟩, .int .i64 0, .slice none 0 0, .int .i64 0, .int .i64 0, .int .i64 0, .int .i64 0]) := Lib.hid (by rw [← hW0]; have := Str.new (w) #[.int .i64 0, .string ⟨#[]⟩, .int .i64 0, .string ⟨#[]⟩, .int .i64 0, .slice none 0 0, .int .i64 0, .int .i64 0, .int .i64 0, .int .i64 0] 29; simpa using this)
  have HB_0 : Hid (Below w.heap.size w W0) := Lib.hid (by rw [← hW0]; exact balloc (bsame w) _)
  have hw_0 := HB_0.out.size
  clear hW0
  obtain ⟨f0_0_0, f0_0_1, f0_0_2, f0_0_3, f0_0_4, f0_0_5, f0_0_6, f0_0_7, f0_0_8, f0_0_9⟩ := str10 HS0_0.out
  have hl0_0 := HS0_0.out.lt
  have hf0_0 := fun j => HS0_0.out.frozen j
  refine (NumW.at_any A n c B 0 1 (x :: y :: l) _ (Hh.out.below (HB_0.out.mono hB)) (by omega) (by omega) (by omega)).mono ?_
  rintro e W0_ ⟨rfl, rfl⟩
  rw [show NumP.there (x :: y :: l) 0 1 = true from by simp [NumP.there], val0, hx]
  go_wp2_with fail
  refine (NumW.at_any A n c B 1 1 (x :: y :: l) _ (Hh.out.below (HB_0.out.mono hB)) (by omega) (by omega) (by omega)).mono ?_
  rintro e W0_ ⟨rfl, rfl⟩
  rw [show NumP.there (x :: y :: l) 1 1 = true from by simp [NumP.there], val1]
  skip
  go_wp2_with fail
  generalize hW1 : ((((((((((W0).setCell ⟨w.heap.size, 0, none⟩ (.int .i64 0)).setCell ⟨w.heap.size, 1, none⟩ (.string ⟨#[]⟩)).setCell ⟨w.heap.size, 2, none⟩ (.int .i64 0)).setCell ⟨w.heap.size, 3, none⟩ (.string ⟨#[]⟩)).setCell ⟨w.heap.size, 4, none⟩ (.int .i64 0)).setCell ⟨w.heap.size, 5, none⟩ (.slice none 0 0)).setCell ⟨w.heap.size, 6, none⟩ (.int .i64 0)).setCell ⟨w.heap.size, 7, none⟩ (.int .i64 0)).setCell ⟨w.heap.size, 8, none⟩ (.int .i64 0)).setCell ⟨w.heap.size, 9, none⟩ (.int .i64 0) = W1
  have HS0_1 : Hid (Str W1 (w.heap.size) #[.int .i64 0, .string ⟨#[]⟩, .int .i64 0, .string ⟨#[]⟩, .int .i64 0, .slice none 0 0, .int .i64 0, .int .i64 0, .int .i64 0, .int .i64 0]) := Lib.hid (by rw [← hW1]; have := ((((((((((HS0_0.out).set 0 (.int .i64 0)).set 1 (.string ⟨#[]⟩)).set 2 (.int .i64 0)).set 3 (.string ⟨#[]⟩)).set 4 (.int .i64 0)).set 5 (.slice none 0 0)).set 6 (.int .i64 0)).set 7 (.int .i64 0)).set 8 (.int .i64 0)).set 9 (.int .i64 0); simpa using this)
  have hgr1 : W0.grownBy W1 (some (w.heap.size)) := by rw [← hW1]; exact grown_set (grown_set (grown_set (grown_set (grown_set (grown_set (grown_set (grown_set (grown_set (grown_set (grown_refl W0 (w.heap.size)) 0 (.int .i64 0)) 1 (.string ⟨#[]⟩)) 2 (.int .i64 0)) 3 (.string ⟨#[]⟩)) 4 (.int .i64 0)) 5 (.slice none 0 0)) 6 (.int .i64 0)) 7 (.int .i64 0)) 8 (.int .i64 0)) 9 (.int .i64 0)
  have HB_1 := Lib.hid (below_grown HB_0.out hgr1 (by omega))
  have hw_1 := HB_1.out.size
  have hws_1 := hgr1.size
  clear hW1
  clear f0_0_0 f0_0_1 f0_0_2 f0_0_3 f0_0_4 f0_0_5 f0_0_6 f0_0_7 f0_0_8 f0_0_9 HS0_0 hf0_0
  clear hgr1
  obtain ⟨f0_1_0, f0_1_1, f0_1_2, f0_1_3, f0_1_4, f0_1_5, f0_1_6, f0_1_7, f0_1_8, f0_1_9⟩ := str10 HS0_1.out
  have hl0_1 := HS0_1.out.lt
  have hf0_1 := fun j => HS0_1.out.frozen j
  exact bodyPost_ret (v := .tuple #[.agg #[.int .i64 0, .string ⟨#[]⟩, .int .i64 0, .string ⟨#[]⟩, .int .i64 0, .slice none 0 0, .int .i64 0, .int .i64 0, .int .i64 0, .int .i64 0], .int .i64 0, .int .i64 13]) (by simp [results, Try.results17, go_sem, *]) rfl ⟨none, 0, 0, rfl, Bytes.none_ _ _, HB_1.out⟩

set_option maxRecDepth 100000 in
set_option maxHeartbeats 2000000 in
theorem get_3_full (A : Option Addr) (n c B : Nat) (x y : UInt8) (l : List UInt8) (w : World) (h : Bytes w B A n c (x :: y :: l)) (hB : B ≤ w.heap.size) (hn : n ≤ 1000000) (hx : (x.toNat : Int) = 3) (hs : ¬ n < 2 + y.toNat + 8) : Calls Try.prog 17 #[.slice A n c] w (GotUndo w (UndoP.get (x :: y :: l))) := by
  have hxn : x.toNat = 3 := by omega
  have HGG := Lib.hid (UndoP.get_two x y l (by omega) (by omega))
  rw [if_neg (by rw [h.len, hxn]; exact hs), hxn] at HGG
  have hy := y.toNat_lt
  clear hxn
  have Hh := Lib.hid h
  have hln := h.len
  have HLN := Lib.hid hln
  have hcm := h.2.2.1
  have hnc := h.2.1
  unfold maxLen at hcm
  clear h hln
  go_enter Try.func17, Try.ntmps17
  go_wp2_with fail
  generalize hW0 : (w).alloc (.cells #[.int .i64 0, .string ⟨#[]⟩, .int .i64 0, .string ⟨#[]⟩, .int .i64 0, .slice none 0 0, .int .i64 0, .int .i64 0, .int .i64 0, .int .i64 0] 29) = W0
  have HS0_0 : Hid (Str W0 (w.heap.size) #[.int .i64 0, .string ⟨#[]⟩, .int .i64 0, .string ⟨#[]⟩, .int .i64 0, .slice none 0 0, .int .i64 0, .int .i64 0, .int .i64 0, .int .i64 0]) := Lib.hid (by rw [← hW0]; have := Str.new (w) #[.int .i64 0, .string ⟨#[]⟩, .int .i64 0, .string ⟨#[]⟩, .int .i64 0, .slice none 0 0, .int .i64 0, .int .i64 0, .int .i64 0, .int .i64 0] 29; simpa using this)
  have HB_0 : Hid (Below w.heap.size w W0) := Lib.hid (by rw [← hW0]; exact balloc (bsame w) _)
  have hw_0 := HB_0.out.size
  clear hW0
  obtain ⟨f0_0_0, f0_0_1, f0_0_2, f0_0_3, f0_0_4, f0_0_5, f0_0_6, f0_0_7, f0_0_8, f0_0_9⟩ := str10 HS0_0.out
  have hl0_0 := HS0_0.out.lt
  have hf0_0 := fun j => HS0_0.out.frozen j
  refine (NumW.at_any A n c B 0 1 (x :: y :: l) _ (Hh.out.below (HB_0.out.mono hB)) (by omega) (by omega) (by omega)).mono ?_
  rintro e W0_ ⟨rfl, rfl⟩
  rw [show NumP.there (x :: y :: l) 0 1 = true from by simp [NumP.there], val0, hx]
  go_wp2_with fail
  refine (NumW.at_any A n c B 1 1 (x :: y :: l) _ (Hh.out.below (HB_0.out.mono hB)) (by omega) (by omega) (by omega)).mono ?_
  rintro e W0_ ⟨rfl, rfl⟩
  rw [show NumP.there (x :: y :: l) 1 1 = true from by simp [NumP.there], val1]
  skip
  have hcut := (Hh.out.cut 2 (2 + y.toNat) c (by omega) (by omega) (by omega) (Nat.le_refl _)).below (HB_0.out.mono hB)
  rw [show (x :: y :: l).drop 2 = l from rfl, show 2 + y.toNat - 2 = y.toNat by omega] at hcut
  have hcv := run_str (P := Try.prog) 22 9 5 Try.underlying22 Try.underlying5 Try.underlying9 hcut
  have HKS : Hid ((strOf (l.take y.toNat)).size ≤ maxLen) := Lib.hid (by show (l.take y.toNat).length ≤ maxLen; rw [List.length_take]; unfold maxLen; omega)
  clear hcut
  go_wp2_with fail
  generalize hW1 : W0.alloc (.cells #[.int .i64 3, .string (strOf (l.take y.toNat)), .int .i64 0, .string ⟨#[]⟩, .int .i64 0, .slice none 0 0, .int .i64 0, .int .i64 0, .int .i64 0, .int .i64 0] 29) = W1
  have HS0_1 : Hid (Str W1 (w.heap.size) #[.int .i64 0, .string ⟨#[]⟩, .int .i64 0, .string ⟨#[]⟩, .int .i64 0, .slice none 0 0, .int .i64 0, .int .i64 0, .int .i64 0, .int .i64 0]) := Lib.hid (by rw [← hW1]; exact HS0_0.out.alloc _)
  have HS1_1 : Hid (Str W1 W0.heap.size #[.int .i64 3, .string (strOf (l.take y.toNat)), .int .i64 0, .string ⟨#[]⟩, .int .i64 0, .slice none 0 0, .int .i64 0, .int .i64 0, .int .i64 0, .int .i64 0]) := Lib.hid (by rw [← hW1]; exact Str.new W0 #[.int .i64 3, .string (strOf (l.take y.toNat)), .int .i64 0, .string ⟨#[]⟩, .int .i64 0, .slice none 0 0, .int .i64 0, .int .i64 0, .int .i64 0, .int .i64 0] 29)
  have hba1 : Below W0.heap.size W0 W1 := by rw [← hW1]; exact balloc (bsame _) _
  have HB_1 := Lib.hid (bstep HB_0.out hba1)
  have hw_1 := HB_1.out.size
  have hws_1 := hba1.size
  clear hW1
  clear f0_0_0 f0_0_1 f0_0_2 f0_0_3 f0_0_4 f0_0_5 f0_0_6 f0_0_7 f0_0_8 f0_0_9 HS0_0 hf0_0
  obtain ⟨f0_1_0, f0_1_1, f0_1_2, f0_1_3, f0_1_4, f0_1_5, f0_1_6, f0_1_7, f0_1_8, f0_1_9⟩ := str10 HS0_1.out
  have hl0_1 := HS0_1.out.lt
  have hf0_1 := fun j => HS0_1.out.frozen j
  obtain ⟨f1_1_0, f1_1_1, f1_1_2, f1_1_3, f1_1_4, f1_1_5, f1_1_6, f1_1_7, f1_1_8, f1_1_9⟩ := str10 HS1_1.out
  have hl1_1 := HS1_1.out.lt
  clear hba1 hcv
  have hfu := fun j => HS1_1.out.frozen j
  rw [show (2 : Int) + (y.toNat : Int) = ((2 + y.toNat : Nat) : Int) by omega]
  refine (NumW.at_any A n c B (2 + y.toNat) 8 (x :: y :: l) _ (Hh.out.below (HB_1.out.mono hB)) (by omega) (by omega) (by omega)).mono ?_
  rintro e W1_ ⟨rfl, rfl⟩
  go_wp2_with fail
  generalize hW2 : (W1).setCell ⟨W0.heap.size, 9, none⟩ (.int .i64 (NumP.val (x :: y :: l) (2 + y.toNat) 8)) = W2
  have HS0_2 : Hid (Str W2 (w.heap.size) #[.int .i64 0, .string ⟨#[]⟩, .int .i64 0, .string ⟨#[]⟩, .int .i64 0, .slice none 0 0, .int .i64 0, .int .i64 0, .int .i64 0, .int .i64 0]) := Lib.hid (by rw [← hW2]; exact (HS0_1.out).other 9 _ (by omega))
  have HS1_2 : Hid (Str W2 (W0.heap.size) #[.int .i64 3, .string (strOf (l.take y.toNat)), .int .i64 0, .string ⟨#[]⟩, .int .i64 0, .slice none 0 0, .int .i64 0, .int .i64 0, .int .i64 0, .int .i64 (NumP.val (x :: y :: l) (2 + y.toNat) 8)]) := Lib.hid (by rw [← hW2]; have := (HS1_1.out).set 9 (.int .i64 (NumP.val (x :: y :: l) (2 + y.toNat) 8)); simpa using this)
  have hgr2 : W1.grownBy W2 (some (W0.heap.size)) := by rw [← hW2]; exact grown_set (grown_refl W1 (W0.heap.size)) 9 (.int .i64 (NumP.val (x :: y :: l) (2 + y.toNat) 8))
  have HB_2 := Lib.hid (below_grown HB_1.out hgr2 (by omega))
  have hw_2 := HB_2.out.size
  have hws_2 := hgr2.size
  clear hW2
  clear f0_1_0 f0_1_1 f0_1_2 f0_1_3 f0_1_4 f0_1_5 f0_1_6 f0_1_7 f0_1_8 f0_1_9 HS0_1 hf0_1 f1_1_0 f1_1_1 f1_1_2 f1_1_3 f1_1_4 f1_1_5 f1_1_6 f1_1_7 f1_1_8 f1_1_9 HS1_1
  clear hgr2
  obtain ⟨f0_2_0, f0_2_1, f0_2_2, f0_2_3, f0_2_4, f0_2_5, f0_2_6, f0_2_7, f0_2_8, f0_2_9⟩ := str10 HS0_2.out
  have hl0_2 := HS0_2.out.lt
  have hf0_2 := fun j => HS0_2.out.frozen j
  obtain ⟨f1_2_0, f1_2_1, f1_2_2, f1_2_3, f1_2_4, f1_2_5, f1_2_6, f1_2_7, f1_2_8, f1_2_9⟩ := str10 HS1_2.out
  have hl1_2 := HS1_2.out.lt
  clear hfu
  refine (right_any 3 (strOf (l.take y.toNat)) none 0 0 0 0 ⟨#[]⟩ 0 [] 0 0 0 (NumP.val (x :: y :: l) (2 + y.toNat) 8) _ (Bytes.none_ _ _) (Nat.zero_le _) (by decide) HKS.out).mono ?_
  rintro e W3 ⟨rfl, hb3⟩
  rw [show UndoP.right ⟨3, strOf (l.take y.toNat), ⟨0, ⟨#[]⟩, ⟨0, [], 0, 0, 0⟩⟩, NumP.val (x :: y :: l) (2 + y.toNat) 8⟩ = UndoP.right (UndoP.seem 3 (x :: y :: l)) from rfl]
  have HS0_3 := Lib.hid (HS0_2.out.next hb3)
  have HS1_3 := Lib.hid (HS1_2.out.next hb3)
  have HB_3 := Lib.hid (bstep HB_2.out hb3)
  have hw_3 := HB_3.out.size
  have hws_3 := (hb3).size
  clear f0_2_0 f0_2_1 f0_2_2 f0_2_3 f0_2_4 f0_2_5 f0_2_6 f0_2_7 f0_2_8 f0_2_9 HS0_2 hf0_2 f1_2_0 f1_2_1 f1_2_2 f1_2_3 f1_2_4 f1_2_5 f1_2_6 f1_2_7 f1_2_8 f1_2_9 HS1_2
  clear hb3
  obtain ⟨f0_3_0, f0_3_1, f0_3_2, f0_3_3, f0_3_4, f0_3_5, f0_3_6, f0_3_7, f0_3_8, f0_3_9⟩ := str10 HS0_3.out
  have hl0_3 := HS0_3.out.lt
  have hf0_3 := fun j => HS0_3.out.frozen j
  obtain ⟨f1_3_0, f1_3_1, f1_3_2, f1_3_3, f1_3_4, f1_3_5, f1_3_6, f1_3_7, f1_3_8, f1_3_9⟩ := str10 HS1_3.out
  have hl1_3 := HS1_3.out.lt
  cases hr : UndoP.right (UndoP.seem 3 (x :: y :: l))
  case false =>
    have HE : Hid (UndoP.get (x :: y :: l) = (UndoP.none, 0, 12)) := Lib.hid (by rw [HGG.out, if_neg (by rw [hr]; simp)])
    go_wp2_with fail
    generalize hW4 : ((((((((((W3).setCell ⟨w.heap.size, 0, none⟩ (.int .i64 0)).setCell ⟨w.heap.size, 1, none⟩ (.string ⟨#[]⟩)).setCell ⟨w.heap.size, 2, none⟩ (.int .i64 0)).setCell ⟨w.heap.size, 3, none⟩ (.string ⟨#[]⟩)).setCell ⟨w.heap.size, 4, none⟩ (.int .i64 0)).setCell ⟨w.heap.size, 5, none⟩ (.slice none 0 0)).setCell ⟨w.heap.size, 6, none⟩ (.int .i64 0)).setCell ⟨w.heap.size, 7, none⟩ (.int .i64 0)).setCell ⟨w.heap.size, 8, none⟩ (.int .i64 0)).setCell ⟨w.heap.size, 9, none⟩ (.int .i64 0) = W4
    have HS0_4 : Hid (Str W4 (w.heap.size) #[.int .i64 0, .string ⟨#[]⟩, .int .i64 0, .string ⟨#[]⟩, .int .i64 0, .slice none 0 0, .int .i64 0, .int .i64 0, .int .i64 0, .int .i64 0]) := Lib.hid (by rw [← hW4]; have := ((((((((((HS0_3.out).set 0 (.int .i64 0)).set 1 (.string ⟨#[]⟩)).set 2 (.int .i64 0)).set 3 (.string ⟨#[]⟩)).set 4 (.int .i64 0)).set 5 (.slice none 0 0)).set 6 (.int .i64 0)).set 7 (.int .i64 0)).set 8 (.int .i64 0)).set 9 (.int .i64 0); simpa using this)
    have HS1_4 : Hid (Str W4 (W0.heap.size) #[.int .i64 3, .string (strOf (l.take y.toNat)), .int .i64 0, .string ⟨#[]⟩, .int .i64 0, .slice none 0 0, .int .i64 0, .int .i64 0, .int .i64 0, .int .i64 (NumP.val (x :: y :: l) (2 + y.toNat) 8)]) := Lib.hid (by rw [← hW4]; exact ((((((((((HS1_3.out).other 0 _ (by omega)).other 1 _ (by omega)).other 2 _ (by omega)).other 3 _ (by omega)).other 4 _ (by omega)).other 5 _ (by omega)).other 6 _ (by omega)).other 7 _ (by omega)).other 8 _ (by omega)).other 9 _ (by omega))
    have hgr4 : W3.grownBy W4 (some (w.heap.size)) := by rw [← hW4]; exact grown_set (grown_set (grown_set (grown_set (grown_set (grown_set (grown_set (grown_set (grown_set (grown_set (grown_refl W3 (w.heap.size)) 0 (.int .i64 0)) 1 (.string ⟨#[]⟩)) 2 (.int .i64 0)) 3 (.string ⟨#[]⟩)) 4 (.int .i64 0)) 5 (.slice none 0 0)) 6 (.int .i64 0)) 7 (.int .i64 0)) 8 (.int .i64 0)) 9 (.int .i64 0)
    have HB_4 := Lib.hid (below_grown HB_3.out hgr4 (by omega))
    have hw_4 := HB_4.out.size
    have hws_4 := hgr4.size
    clear hW4
    clear f0_3_0 f0_3_1 f0_3_2 f0_3_3 f0_3_4 f0_3_5 f0_3_6 f0_3_7 f0_3_8 f0_3_9 HS0_3 hf0_3 f1_3_0 f1_3_1 f1_3_2 f1_3_3 f1_3_4 f1_3_5 f1_3_6 f1_3_7 f1_3_8 f1_3_9 HS1_3
    clear hgr4
    obtain ⟨f0_4_0, f0_4_1, f0_4_2, f0_4_3, f0_4_4, f0_4_5, f0_4_6, f0_4_7, f0_4_8, f0_4_9⟩ := str10 HS0_4.out
    have hl0_4 := HS0_4.out.lt
    have hf0_4 := fun j => HS0_4.out.frozen j
    obtain ⟨f1_4_0, f1_4_1, f1_4_2, f1_4_3, f1_4_4, f1_4_5, f1_4_6, f1_4_7, f1_4_8, f1_4_9⟩ := str10 HS1_4.out
    have hl1_4 := HS1_4.out.lt
    refine bodyPost_ret (v := .tuple #[.agg #[.int .i64 0, .string ⟨#[]⟩, .int .i64 0, .string ⟨#[]⟩, .int .i64 0, .slice none 0 0, .int .i64 0, .int .i64 0, .int .i64 0, .int .i64 0], .int .i64 0, .int .i64 12]) (by simp [results, Try.results17, go_sem, *]) rfl ?_
    rw [HE.out]
    exact ⟨none, 0, 0, rfl, Bytes.none_ _ _, HB_4.out⟩
  case true =>
    have HE : Hid (UndoP.get (x :: y :: l) = ((UndoP.seem 3 (x :: y :: l)), ((2 + y.toNat + UndoP.size 3 : Nat) : Int), 0)) := Lib.hid (by rw [HGG.out, if_pos ⟨rfl, hr⟩])
    go_wp2_with fail
    generalize hW4 : ((((((((((W3).setCell ⟨w.heap.size, 0, none⟩ (.int .i64 3)).setCell ⟨w.heap.size, 1, none⟩ (.string (strOf (l.take y.toNat)))).setCell ⟨w.heap.size, 2, none⟩ (.int .i64 0)).setCell ⟨w.heap.size, 3, none⟩ (.string ⟨#[]⟩)).setCell ⟨w.heap.size, 4, none⟩ (.int .i64 0)).setCell ⟨w.heap.size, 5, none⟩ (.slice none 0 0)).setCell ⟨w.heap.size, 6, none⟩ (.int .i64 0)).setCell ⟨w.heap.size, 7, none⟩ (.int .i64 0)).setCell ⟨w.heap.size, 8, none⟩ (.int .i64 0)).setCell ⟨w.heap.size, 9, none⟩ (.int .i64 (NumP.val (x :: y :: l) (2 + y.toNat) 8)) = W4
    have HS0_4 : Hid (Str W4 (w.heap.size) #[.int .i64 3, .string (strOf (l.take y.toNat)), .int .i64 0, .string ⟨#[]⟩, .int .i64 0, .slice none 0 0, .int .i64 0, .int .i64 0, .int .i64 0, .int .i64 (NumP.val (x :: y :: l) (2 + y.toNat) 8)]) := Lib.hid (by rw [← hW4]; have := ((((((((((HS0_3.out).set 0 (.int .i64 3)).set 1 (.string (strOf (l.take y.toNat)))).set 2 (.int .i64 0)).set 3 (.string ⟨#[]⟩)).set 4 (.int .i64 0)).set 5 (.slice none 0 0)).set 6 (.int .i64 0)).set 7 (.int .i64 0)).set 8 (.int .i64 0)).set 9 (.int .i64 (NumP.val (x :: y :: l) (2 + y.toNat) 8)); simpa using this)
    have HS1_4 : Hid (Str W4 (W0.heap.size) #[.int .i64 3, .string (strOf (l.take y.toNat)), .int .i64 0, .string ⟨#[]⟩, .int .i64 0, .slice none 0 0, .int .i64 0, .int .i64 0, .int .i64 0, .int .i64 (NumP.val (x :: y :: l) (2 + y.toNat) 8)]) := Lib.hid (by rw [← hW4]; exact ((((((((((HS1_3.out).other 0 _ (by omega)).other 1 _ (by omega)).other 2 _ (by omega)).other 3 _ (by omega)).other 4 _ (by omega)).other 5 _ (by omega)).other 6 _ (by omega)).other 7 _ (by omega)).other 8 _ (by omega)).other 9 _ (by omega))
    have hgr4 : W3.grownBy W4 (some (w.heap.size)) := by rw [← hW4]; exact grown_set (grown_set (grown_set (grown_set (grown_set (grown_set (grown_set (grown_set (grown_set (grown_set (grown_refl W3 (w.heap.size)) 0 (.int .i64 3)) 1 (.string (strOf (l.take y.toNat)))) 2 (.int .i64 0)) 3 (.string ⟨#[]⟩)) 4 (.int .i64 0)) 5 (.slice none 0 0)) 6 (.int .i64 0)) 7 (.int .i64 0)) 8 (.int .i64 0)) 9 (.int .i64 (NumP.val (x :: y :: l) (2 + y.toNat) 8))
    have HB_4 := Lib.hid (below_grown HB_3.out hgr4 (by omega))
    have hw_4 := HB_4.out.size
    have hws_4 := hgr4.size
    clear hW4
    clear f0_3_0 f0_3_1 f0_3_2 f0_3_3 f0_3_4 f0_3_5 f0_3_6 f0_3_7 f0_3_8 f0_3_9 HS0_3 hf0_3 f1_3_0 f1_3_1 f1_3_2 f1_3_3 f1_3_4 f1_3_5 f1_3_6 f1_3_7 f1_3_8 f1_3_9 HS1_3
    clear hgr4
    obtain ⟨f0_4_0, f0_4_1, f0_4_2, f0_4_3, f0_4_4, f0_4_5, f0_4_6, f0_4_7, f0_4_8, f0_4_9⟩ := str10 HS0_4.out
    have hl0_4 := HS0_4.out.lt
    have hf0_4 := fun j => HS0_4.out.frozen j
    obtain ⟨f1_4_0, f1_4_1, f1_4_2, f1_4_3, f1_4_4, f1_4_5, f1_4_6, f1_4_7, f1_4_8, f1_4_9⟩ := str10 HS1_4.out
    have hl1_4 := HS1_4.out.lt
    refine bodyPost_ret (v := .tuple #[.agg #[.int .i64 3, .string (strOf (l.take y.toNat)), .int .i64 0, .string ⟨#[]⟩, .int .i64 0, .slice none 0 0, .int .i64 0, .int .i64 0, .int .i64 0, .int .i64 (NumP.val (x :: y :: l) (2 + y.toNat) 8)], .int .i64 (2 + (y.toNat : Int) + 8), .int .i64 0]) (by simp [results, Try.results17, go_sem, *]) rfl ?_
    rw [HE.out, show ((2 + y.toNat + UndoP.size 3 : Nat) : Int) = 2 + (y.toNat : Int) + 8 by simp [UndoP.size]]
    exact ⟨none, 0, 0, rfl, Bytes.none_ _ _, HB_4.out⟩

set_option maxRecDepth 100000 in
set_option maxHeartbeats 2000000 in
theorem get_any (A : Option Addr) (n c B : Nat) (l : List UInt8) (w : World) (h : Bytes w B A n c l) (hB : B ≤ w.heap.size) (hn : n ≤ 1000000)  : Calls Try.prog 17 #[.slice A n c] w (GotUndo w (UndoP.get l)) := by
  match l, h with
  | [], h => exact get_nil A n c B w h hB hn
  | x :: l, h =>
    by_cases h0 : (x.toNat : Int) = 0
    · exact get_0 A n c B x l w h hB hn h0
    by_cases hb : 3 < x.toNat
    · exact get_big A n c B x l w h hB hn hb
    by_cases h1 : (x.toNat : Int) = 1
    · match l, h with
      | [], h => exact get_1_one A n c B x w h hB hn h1
      | y :: l, h =>
        by_cases hs : n < 2 + y.toNat + 64
        · exact get_1_short A n c B x y l w h hB hn h1 hs
        · exact get_1_full A n c B x y l w h hB hn h1 hs
    by_cases h2 : (x.toNat : Int) = 2
    · match l, h with
      | [], h => exact get_2_one A n c B x w h hB hn h2
      | y :: l, h =>
        by_cases hs : n < 2 + y.toNat + 8
        · exact get_2_short A n c B x y l w h hB hn h2 hs
        · exact get_2_full A n c B x y l w h hB hn h2 hs
    by_cases h3 : (x.toNat : Int) = 3
    · match l, h with
      | [], h => exact get_3_one A n c B x w h hB hn h3
      | y :: l, h =>
        by_cases hs : n < 2 + y.toNat + 8
        · exact get_3_short A n c B x y l w h hB hn h3 hs
        · exact get_3_full A n c B x y l w h hB hn h3 hs
    exfalso
    omega
end Go.Proofs.Ytcagflakmokoiaa.RefUndoG
namespace Go.Proofs.Ytcagflakmokoiaa.undoGets
open Go.RowKit UndoW
set_option linter.unusedVariables false

set_option maxRecDepth 100000 in
set_option maxHeartbeats 4000000 in
theorem walk (v0 : Value) (lb : List UInt8) (w : World) (g0 : RBytes w w.heap.size v0 lb) :
    Calls Try.prog 3 #[v0] w fun e w' => e = .returned (.bool true) ∧ Below w.heap.size w w' := by
  obtain ⟨Ab, nb, cb, rfl, hb⟩ := g0
  have Hb := Lib.hid hb
  have hb2 := Nat.le_trans hb.2.1 hb.2.2.1
  unfold maxLen at hb2
  clear hb
  by_cases hbig : 600 < nb
  · go_enter Try.func3, Try.ntmps3
    go_wp2_with (go_at_call 15; refine (Live17.live_any _).mono ?_; rintro e w' ⟨rfl, hb⟩)
    go_ret
    exact ⟨rfl, hb⟩
  have HA := Lib.hid (fun W (hbw : Below w.heap.size w W) => get_any Ab nb cb w.heap.size lb W (Hb.out.below hbw) hbw.size (by omega))
  have HG := Lib.hid (fun W (hbw : Below w.heap.size w W) => RefUndoG.get_any Ab nb cb w.heap.size lb W (Hb.out.below hbw) hbw.size (by omega))
  generalize UndoP.get lb = r at HA HG
  obtain ⟨⟨ua, uk, ⟨ust, uik, ⟨ukd, uda, ulo, uhi, uva⟩⟩, un⟩, rn, re⟩ := r
  go_enter Try.func3, Try.ntmps3
  go_wp2_with fail
  obtain ⟨W0, hW0⟩ : ∃ W0, w = W0 := ⟨_, rfl⟩
  have HB_0 : Hid (Below w.heap.size w W0) := Lib.hid (by rw [← hW0]; exact bsame w)
  have hw_0 := HB_0.out.size
  refine (HA.out w (bsame w)).mono ?_
  rintro e W1 ⟨A1, n1, c1, rfl, hy1, hb1⟩
  dsimp only at *
  have HB_1 := Lib.hid hb1
  have hw_1 := hb1.size
  clear hW0 HB_0 hw_0 hb1 HA
  have HYa_1 := Lib.hid (hy1)
  clear hy1
  go_wp2_with fail
  generalize hW2 : W1.alloc (.cells #[.int .i64 ua, .string uk, .int .i64 ust, .string uik, .int .i64 ukd, .slice A1 n1 c1, .int .i64 ulo, .int .i64 uhi, .int .i64 uva, .int .i64 un] 29) = W2
  have HS0_2 : Hid (Str W2 W1.heap.size #[.int .i64 ua, .string uk, .int .i64 ust, .string uik, .int .i64 ukd, .slice A1 n1 c1, .int .i64 ulo, .int .i64 uhi, .int .i64 uva, .int .i64 un]) := Lib.hid (by rw [← hW2]; exact Str.new W1 #[.int .i64 ua, .string uk, .int .i64 ust, .string uik, .int .i64 ukd, .slice A1 n1 c1, .int .i64 ulo, .int .i64 uhi, .int .i64 uva, .int .i64 un] 29)
  have hba2 : Below W1.heap.size W1 W2 := by rw [← hW2]; exact balloc (bsame _) _
  have HB_2 := Lib.hid (bstep HB_1.out hba2)
  have hw_2 := HB_2.out.size
  have hws_2 := hba2.size
  have HYa_2 := Lib.hid (HYa_1.out.next hba2)
  clear HYa_1
  clear hW2
  obtain ⟨f0_2_0, f0_2_1, f0_2_2, f0_2_3, f0_2_4, f0_2_5, f0_2_6, f0_2_7, f0_2_8, f0_2_9⟩ := str10 HS0_2.out
  have hl0_2 := HS0_2.out.lt
  clear hba2
  refine (HG.out _ HB_2.out).mono ?_
  rintro e W3 ⟨A3, n3, c3, rfl, hy3, hb3⟩
  dsimp only at *
  have HS0_3 := Lib.hid (HS0_2.out.next hb3)
  have HB_3 := Lib.hid (bstep HB_2.out hb3)
  have hw_3 := HB_3.out.size
  have hws_3 := (hb3).size
  have HYa_3 := Lib.hid (HYa_2.out.next hb3)
  clear HYa_2
  clear f0_2_0 f0_2_1 f0_2_2 f0_2_3 f0_2_4 f0_2_5 f0_2_6 f0_2_7 f0_2_8 f0_2_9 HS0_2
  clear hb3
  obtain ⟨f0_3_0, f0_3_1, f0_3_2, f0_3_3, f0_3_4, f0_3_5, f0_3_6, f0_3_7, f0_3_8, f0_3_9⟩ := str10 HS0_3.out
  have hl0_3 := HS0_3.out.lt
  have HYb_3 := Lib.hid (hy3)
  clear hy3 HG
  go_wp2_with fail
  generalize hW4 : W3.alloc (.cells #[.int .i64 ua, .string uk, .int .i64 ust, .string uik, .int .i64 ukd, .slice A3 n3 c3, .int .i64 ulo, .int .i64 uhi, .int .i64 uva, .int .i64 un] 29) = W4
  have HS0_4 : Hid (Str W4 (W1.heap.size) #[.int .i64 ua, .string uk, .int .i64 ust, .string uik, .int .i64 ukd, .slice A1 n1 c1, .int .i64 ulo, .int .i64 uhi, .int .i64 uva, .int .i64 un]) := Lib.hid (by rw [← hW4]; exact HS0_3.out.alloc _)
  have HS1_4 : Hid (Str W4 W3.heap.size #[.int .i64 ua, .string uk, .int .i64 ust, .string uik, .int .i64 ukd, .slice A3 n3 c3, .int .i64 ulo, .int .i64 uhi, .int .i64 uva, .int .i64 un]) := Lib.hid (by rw [← hW4]; exact Str.new W3 #[.int .i64 ua, .string uk, .int .i64 ust, .string uik, .int .i64 ukd, .slice A3 n3 c3, .int .i64 ulo, .int .i64 uhi, .int .i64 uva, .int .i64 un] 29)
  have hba4 : Below W3.heap.size W3 W4 := by rw [← hW4]; exact balloc (bsame _) _
  have HB_4 := Lib.hid (bstep HB_3.out hba4)
  have hw_4 := HB_4.out.size
  have hws_4 := hba4.size
  have HYa_4 := Lib.hid (HYa_3.out.next hba4)
  have HYb_4 := Lib.hid (HYb_3.out.next hba4)
  clear HYa_3 HYb_3
  clear hW4
  clear f0_3_0 f0_3_1 f0_3_2 f0_3_3 f0_3_4 f0_3_5 f0_3_6 f0_3_7 f0_3_8 f0_3_9 HS0_3
  obtain ⟨f0_4_0, f0_4_1, f0_4_2, f0_4_3, f0_4_4, f0_4_5, f0_4_6, f0_4_7, f0_4_8, f0_4_9⟩ := str10 HS0_4.out
  have hl0_4 := HS0_4.out.lt
  obtain ⟨f1_4_0, f1_4_1, f1_4_2, f1_4_3, f1_4_4, f1_4_5, f1_4_6, f1_4_7, f1_4_8, f1_4_9⟩ := str10 HS1_4.out
  have hl1_4 := HS1_4.out.lt
  clear hba4
  go_wp2_with fail
  refine (refSame_any ua uk A1 n1 c1 W4.heap.size ust uik ukd uda ulo uhi uva un ua uk A3 n3 c3 W4.heap.size ust uik ukd uda ulo uhi uva un _ HYa_4.out (Nat.le_refl _) HYb_4.out (Nat.le_refl _)).mono ?_
  rintro e W5 ⟨rfl, hb5⟩
  rw [UndoP.same_self]
  have HS0_5 := Lib.hid (HS0_4.out.next hb5)
  have HS1_5 := Lib.hid (HS1_4.out.next hb5)
  have HB_5 := Lib.hid (bstep HB_4.out hb5)
  have hw_5 := HB_5.out.size
  have hws_5 := (hb5).size
  have HYa_5 := Lib.hid (HYa_4.out.next hb5)
  have HYb_5 := Lib.hid (HYb_4.out.next hb5)
  clear HYa_4 HYb_4
  clear f0_4_0 f0_4_1 f0_4_2 f0_4_3 f0_4_4 f0_4_5 f0_4_6 f0_4_7 f0_4_8 f0_4_9 HS0_4 f1_4_0 f1_4_1 f1_4_2 f1_4_3 f1_4_4 f1_4_5 f1_4_6 f1_4_7 f1_4_8 f1_4_9 HS1_4
  clear hb5
  obtain ⟨f0_5_0, f0_5_1, f0_5_2, f0_5_3, f0_5_4, f0_5_5, f0_5_6, f0_5_7, f0_5_8, f0_5_9⟩ := str10 HS0_5.out
  have hl0_5 := HS0_5.out.lt
  obtain ⟨f1_5_0, f1_5_1, f1_5_2, f1_5_3, f1_5_4, f1_5_5, f1_5_6, f1_5_7, f1_5_8, f1_5_9⟩ := str10 HS1_5.out
  have hl1_5 := HS1_5.out.lt
  go_wp2_with fail
  refine (Live17.code_any _ _).mono ?_
  rintro e w_ ⟨rfl, rfl⟩
  go_wp2_with fail
  refine (Live17.live_any _).mono ?_
  rintro e W6 ⟨rfl, hb6⟩
  have HS0_6 := Lib.hid (HS0_5.out.next hb6)
  have HS1_6 := Lib.hid (HS1_5.out.next hb6)
  have HB_6 := Lib.hid (bstep HB_5.out hb6)
  have hw_6 := HB_6.out.size
  have hws_6 := (hb6).size
  have HYa_6 := Lib.hid (HYa_5.out.next hb6)
  have HYb_6 := Lib.hid (HYb_5.out.next hb6)
  clear HYa_5 HYb_5
  clear f0_5_0 f0_5_1 f0_5_2 f0_5_3 f0_5_4 f0_5_5 f0_5_6 f0_5_7 f0_5_8 f0_5_9 HS0_5 f1_5_0 f1_5_1 f1_5_2 f1_5_3 f1_5_4 f1_5_5 f1_5_6 f1_5_7 f1_5_8 f1_5_9 HS1_5
  clear hb6
  obtain ⟨f0_6_0, f0_6_1, f0_6_2, f0_6_3, f0_6_4, f0_6_5, f0_6_6, f0_6_7, f0_6_8, f0_6_9⟩ := str10 HS0_6.out
  have hl0_6 := HS0_6.out.lt
  obtain ⟨f1_6_0, f1_6_1, f1_6_2, f1_6_3, f1_6_4, f1_6_5, f1_6_6, f1_6_7, f1_6_8, f1_6_9⟩ := str10 HS1_6.out
  have hl1_6 := HS1_6.out.lt
  go_wp2_with fail
  go_ret
  exact ⟨rfl, HB_6.out⟩
end Go.Proofs.Ytcagflakmokoiaa.undoGets
