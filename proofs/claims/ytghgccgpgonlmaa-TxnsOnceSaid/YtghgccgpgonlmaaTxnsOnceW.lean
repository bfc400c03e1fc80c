/-
  The walk of TxnsOnce: each number once, and a table that is nil.
-/
import Derived.Test.YtghgccgpgonlmaaLive24
import Derived.Test.YtghgccgpgonlmaaOpenT
import Derived.Test.YtghgccgpgonlmaaOpen
namespace Go.Proofs.Ytghgccgpgonlmaa.txnsOnce
open Go.RowKit Go.Maps TxnW
set_option linter.unusedVariables false
set_option linter.unusedSimpArgs false
theorem has_put (L : List TxnX) (t : TxnX) : TxnP.has (TxnP.put L t) t.id = true := TxnP.has_iff.2 ⟨t, TxnP.mem_put.2 (.inl rfl), rfl⟩
set_option maxRecDepth 100000 in
set_option maxHeartbeats 1000000 in
theorem way_long (a : Int) (A : Option Addr) (n c : Nat) (w : World) (hn : 60 < n) (hm : n ≤ maxLen) : Calls Try.prog 11 #[.int .i64 a, .slice A n c] w fun e w' => e = .returned (.bool true) ∧ Below w.heap.size w w' := by
  unfold maxLen at hm
  have HB_0 := Lib.hid (bsame w)
  have hw_0 := HB_0.out.size
  have hd : ((60 : Int) < (n : Int)) = True := by simp; omega
  go_enter Try.func11, Try.ntmps11
  go_wp2_with fail
  refine (Live24.live_any _).mono ?_
  rintro e W1 ⟨rfl, hb1⟩
  have HB_1 := Lib.hid (bstep HB_0.out hb1)
  have hw_1 := HB_1.out.size
  have hws_1 := (hb1).size
  clear hb1
  go_wp2_with fail
  go_ret
  exact ⟨rfl, HB_1.out⟩
set_option maxRecDepth 100000 in
set_option maxHeartbeats 1000000 in
theorem way_main (a : Int) (ha : In64 a) (A : Option Addr) (n c : Nat) (l : List Bool) (w : World) (hE : Elems BoolE w w.heap.size A n c l) (hn : n ≤ 60) : Calls Try.prog 11 #[.int .i64 a, .slice A n c] w fun e w' => e = .returned (.bool true) ∧ Below w.heap.size w w' := by
  have HE := Lib.hid hE
  have HA := Lib.hid ha
  clear hE ha
  have HB_0 := Lib.hid (bsame w)
  have hw_0 := HB_0.out.size
  have hd60 : ((60 : Int) < (n : Int)) = False := by simp; omega
  go_enter Try.func11, Try.ntmps11
  go_wp2_with fail
  refine (new_any a HA.out _).mono ?_
  rintro e W1 ⟨tb, bm, rfl, hT, hg1, hg2, hb1⟩
  have HB_1 := Lib.hid (bstep HB_0.out hb1)
  have hw_1 := HB_1.out.size
  have hws_1 := (hb1).size
  obtain ⟨nx, hnx⟩ : ∃ x, min (max a 1) 281474976710656 = x := ⟨_, rfl⟩
  have hx1 : 1 ≤ nx := by omega
  have hx2 : nx ≤ 281474976710656 := by omega
  rw [hnx] at hT
  clear hnx hb1 hd60
  have HTt_1 := Lib.hid (hT)
  have htlt := HTt_1.out.lt
  have htmt := HTt_1.out.mlt
  clear hT
  go_wp2_with fail
  go_loopw [6, 7] (fun was i wr => ∃ (k : Nat) (L : List TxnX) (wasv : Int), k ≤ n ∧ was = .int .i64 wasv ∧ i = .int .i64 (k : Int) ∧ Hid (Tab wr tb bm k (nx + (k : Int)) L ∧ wasv < nx + (k : Int) ∧ Below w.heap.size w wr)) (fun _ i _ => n - (intOf i).toNat)
  case atStart => exact ⟨0, [], 0, Nat.zero_le _, rfl, rfl, Lib.hid ⟨by simpa using HTt_1.out, by simp; omega, HB_1.out⟩⟩
  case round =>
    obtain ⟨k, L, wasv, hk, rfl, rfl, HK⟩ := hrel
    have hwv := HK.out.2.1
    have HB_9 := Lib.hid HK.out.2.2
    have hw_9 := HB_9.out.size
    have HTt_9 := Lib.hid HK.out.1
    have htlt := HTt_9.out.lt
    have htmt := HTt_9.out.mlt
    clear HK HTt_1 HB_1
    by_cases hlt : k < n
    · obtain ⟨b, o, x, rfl, hbB, hx, hc⟩ := bool_at HE.out hlt
      have hd : (nx + (k : Int) ≤ wasv) = False := by simp; omega
      have hd2 : ((k : Int) < (n : Int)) = True := by simp; omega
      clear hx
      go_wp2_with fail
      refine (begin_any _ HTt_9.out (by unfold maxLen; omega) (by omega) (by omega)).mono ?_
      rintro e W10 ⟨rfl, ht10, hk10⟩
      have HB_10 := Lib.hid (HB_9.out.trans (hk10.below (M := w.heap.size) (by omega) (by intro b hb; simp only [List.mem_cons, List.not_mem_nil, or_false] at hb; rcases hb with rfl | rfl <;> omega)))
      have hw_10 := HB_10.out.size
      have hws_10 := hk10.size
      clear HTt_9 htlt htmt
      have HTt_10 := Lib.hid ht10
      have htlt := HTt_10.out.lt
      have htmt := HTt_10.out.mlt
      clear ht10 hk10
      have hc1 := (HB_10.out.cell (p := ⟨b, o + k, none⟩) hbB).trans hc
      have hbl : b < W10.heap.size := by omega
      cases x
      · have hcx := hc1
        clear hc1 hc
        go_wp2_with fail
        have HTN : Hid (Tab W10 tb bm (k + 1) (nx + ((k + 1 : Nat) : Int)) _) := Lib.hid (by rw [show nx + ((k + 1 : Nat) : Int) = nx + (k : Int) + 1 by omega]; exact HTt_10.out)
        go_roundw
        case rel => exact ⟨k + 1, _, nx + (k : Int), by omega, rfl, by go_num, Lib.hid ⟨HTN.out, by omega, HB_10.out⟩⟩
        case measure => simp [intOf]; omega
      · have hcx := hc1
        clear hc1 hc
        go_wp2_with fail
        refine (end_yes (nx + (k : Int)) _ HTt_10.out (by unfold In64; omega) (has_put L ⟨nx + (k : Int), 0, 0, 0⟩)).mono ?_
        rintro e W11 ⟨rfl, ht11, hk11⟩
        have HB_11 := Lib.hid (HB_10.out.trans (hk11.below (M := w.heap.size) (by omega) (by intro b hb; simp only [List.mem_cons, List.not_mem_nil, or_false] at hb; rcases hb with rfl | rfl <;> omega)))
        have hw_11 := HB_11.out.size
        have hws_11 := hk11.size
        clear HTt_10 htlt htmt
        have HTt_11 := Lib.hid ht11
        have htlt := HTt_11.out.lt
        have htmt := HTt_11.out.mlt
        clear ht11 hk11
        go_wp2_with fail
        have HTN : Hid (Tab W11 tb bm (k + 1) (nx + ((k + 1 : Nat) : Int)) _) := Lib.hid (by rw [show nx + ((k + 1 : Nat) : Int) = nx + (k : Int) + 1 by omega]; exact HTt_11.out)
        go_roundw
        case rel => exact ⟨k + 1, _, nx + (k : Int), by omega, rfl, by go_num, Lib.hid ⟨HTN.out, by omega, HB_11.out⟩⟩
        case measure => simp [intOf]; omega
    · have hd2 : ((k : Int) < (n : Int)) = False := by simp; omega
      go_wp2_with fail
      refine (get_nil 1 _).mono ?_
      rintro e W10 ⟨rfl, hb10⟩
      have HB_10 := Lib.hid (bstep HB_9.out hb10)
      have HTt_10 := Lib.hid (HTt_9.out.below hb10)
      clear HTt_9 htlt htmt
      have htlt := HTt_10.out.lt
      have htmt := HTt_10.out.mlt
      have hw_10 := HB_10.out.size
      have hws_10 := (hb10).size
      clear hb10
      go_wp2_with fail
      generalize hW11 : W10.alloc (.cells #[.int .i64 0, .int .i64 0, .int .i64 0, .int .i64 0] 89) = W11
      have hba11 : Below W10.heap.size W10 W11 := by rw [← hW11]; exact balloc (bsame _) _
      clear hW11
      have HB_11 := Lib.hid (bstep HB_10.out hba11)
      have HTt_11 := Lib.hid (HTt_10.out.below hba11)
      clear HTt_10 htlt htmt
      have htlt := HTt_11.out.lt
      have htmt := HTt_11.out.mlt
      have hw_11 := HB_11.out.size
      have hws_11 := (hba11).size
      refine (oldest_nil _).mono ?_
      rintro e W12 ⟨rfl, hb12⟩
      have HB_12 := Lib.hid (bstep HB_11.out hb12)
      have HTt_12 := Lib.hid (HTt_11.out.below hb12)
      clear HTt_11 htlt htmt
      have htlt := HTt_12.out.lt
      have htmt := HTt_12.out.mlt
      have hw_12 := HB_12.out.size
      have hws_12 := (hb12).size
      clear hb12
      go_wp2_with fail
      refine (begin_nil _).mono ?_
      rintro e W13 ⟨rfl, hb13⟩
      have HB_13 := Lib.hid (bstep HB_12.out hb13)
      have HTt_13 := Lib.hid (HTt_12.out.below hb13)
      clear HTt_12 htlt htmt
      have htlt := HTt_13.out.lt
      have htmt := HTt_13.out.mlt
      have hw_13 := HB_13.out.size
      have hws_13 := (hb13).size
      clear hb13
      go_wp2_with fail
      refine (next_nil _).mono ?_
      rintro e W14 ⟨rfl, hb14⟩
      have HB_14 := Lib.hid (bstep HB_13.out hb14)
      have HTt_14 := Lib.hid (HTt_13.out.below hb14)
      clear HTt_13 htlt htmt
      have htlt := HTt_14.out.lt
      have htmt := HTt_14.out.mlt
      have hw_14 := HB_14.out.size
      have hws_14 := (hb14).size
      clear hb14
      go_wp2_with fail
      refine (live_nil _).mono ?_
      rintro e W15 ⟨rfl, hb15⟩
      have HB_15 := Lib.hid (bstep HB_14.out hb15)
      have HTt_15 := Lib.hid (HTt_14.out.below hb15)
      clear HTt_14 htlt htmt
      have htlt := HTt_15.out.lt
      have htmt := HTt_15.out.mlt
      have hw_15 := HB_15.out.size
      have hws_15 := (hb15).size
      clear hb15
      go_wp2_with fail
      refine (note_nil 1 0 0 0 _).mono ?_
      rintro e W16 ⟨rfl, hb16⟩
      have HB_16 := Lib.hid (bstep HB_15.out hb16)
      have HTt_16 := Lib.hid (HTt_15.out.below hb16)
      clear HTt_15 htlt htmt
      have htlt := HTt_16.out.lt
      have htmt := HTt_16.out.mlt
      have hw_16 := HB_16.out.size
      have hws_16 := (hb16).size
      clear hb16
      go_wp2_with fail
      refine (put_nil 0 0 0 0 _).mono ?_
      rintro e W17 ⟨rfl, hb17⟩
      have HB_17 := Lib.hid (bstep HB_16.out hb17)
      have HTt_17 := Lib.hid (HTt_16.out.below hb17)
      clear HTt_16 htlt htmt
      have htlt := HTt_17.out.lt
      have htmt := HTt_17.out.mlt
      have hw_17 := HB_17.out.size
      have hws_17 := (hb17).size
      clear hb17
      go_wp2_with fail
      refine (end_nil 1 _).mono ?_
      rintro e W18 ⟨rfl, hb18⟩
      have HB_18 := Lib.hid (bstep HB_17.out hb18)
      have HTt_18 := Lib.hid (HTt_17.out.below hb18)
      clear HTt_17 htlt htmt
      have htlt := HTt_18.out.lt
      have htmt := HTt_18.out.mlt
      have hw_18 := HB_18.out.size
      have hws_18 := (hb18).size
      clear hb18
      go_wp2_with fail
      refine (Live24.live_any _).mono ?_
      rintro e W19 ⟨rfl, hb19⟩
      have HB_19 := Lib.hid (bstep HB_18.out hb19)
      have HTt_19 := Lib.hid (HTt_18.out.below hb19)
      clear HTt_18 htlt htmt
      have htlt := HTt_19.out.lt
      have htmt := HTt_19.out.mlt
      have hw_19 := HB_19.out.size
      have hws_19 := (hb19).size
      clear hb19
      go_wp2_with fail
      go_ret
      exact ⟨rfl, HB_19.out⟩
theorem walk (v0 v1 : Value) (a0 : Int) (a1 : List Bool) (w : World) (g0 : RInt w v0 a0) (g1 : RBools w w.heap.size v1 a1) : Calls Try.prog 11 #[v0, v1] w fun e w' => e = .returned (.bool true) ∧ Below w.heap.size w w' := by
  obtain ⟨rfl, ha⟩ := g0
  obtain ⟨A, n, c, rfl, hE⟩ := g1
  by_cases hn : 60 < n
  · exact way_long a0 A n c w hn (Nat.le_trans hE.cap.1 hE.cap.2)
  · exact way_main a0 ha A n c a1 w hE (by omega)
end Go.Proofs.Ytghgccgpgonlmaa.txnsOnce
