/-
  The walk of TxnsSteps: what each step of any script tells.
-/
import Derived.Test.YtbcpepjedhafbaaLive24
import Derived.Test.YtbcpepjedhafbaaTxnsInv
import Derived.Test.YtbcpepjedhafbaaOpen
import Derived.BigQuiet
namespace Go.Proofs.Ytbcpepjedhafbaa.txnsSteps
open Go.RowKit Go.Maps TxnW
set_option linter.unusedVariables false
set_option linter.unusedSimpArgs false
set_option maxRecDepth 100000 in
set_option maxHeartbeats 1000000 in
theorem way_long (a : Int) (A : Option Addr) (n c : Nat) (w : World) (hn : 60 < n) (hm : n ≤ maxLen) : Calls Try.prog 3 #[.int .i64 a, .slice A n c] w fun e w' => e = .returned (.bool true) ∧ Below w.heap.size w w' := by
  unfold maxLen at hm
  have HB_0 := Lib.hid (bsame w)
  have hw_0 := HB_0.out.size
  have hd : ((60 : Int) < (n : Int)) = True := by simp; omega
  go_enter Try.func3, Try.ntmps3
  go_wp2_with fail
  refine (Live24.live_any _).mono ?_
  rintro e W1 ⟨rfl, hb1⟩
  have HB_1 := Lib.hid (bstep HB_0.out hb1)
  have hw_1 := HB_1.out.size
  have hws_1 := (hb1).size
  clear hb1
  go_wp2_with fail
  go_ret
  exact ⟨rfl, HB_1.out⟩
set_option maxRecDepth 100000 in
set_option maxHeartbeats 8000000 in
theorem way_main (a : Int) (ha : In64 a) (A : Option Addr) (n c : Nat) (l : List StepX) (w : World) (hE : Elems StepE w w.heap.size A n c l) (hn : n ≤ 60) : Calls Try.prog 3 #[.int .i64 a, .slice A n c] w fun e w' => e = .returned (.bool true) ∧ Below w.heap.size w w' := by
  have HE := Lib.hid hE
  have HA := Lib.hid ha
  clear hE ha
  have HB_0 := Lib.hid (bsame w)
  have hw_0 := HB_0.out.size
  have hd60 : ((60 : Int) < (n : Int)) = False := by simp; omega
  go_enter Try.func3, Try.ntmps3
  go_wp2_with fail
  refine (new_any a HA.out _).mono ?_
  rintro e W1 ⟨tb, bm, rfl, hT, hg1, hg2, hb1⟩
  have HB_1 := Lib.hid (bstep HB_0.out hb1)
  have hw_1 := HB_1.out.size
  have hws_1 := (hb1).size
  obtain ⟨nx, hnx⟩ : ∃ x, min (max a 1) 281474976710656 = x := ⟨_, rfl⟩
  have hx1 : 1 ≤ nx := by omega
  have hx2 : nx ≤ 281474976710656 := by omega
  rw [hnx] at hT
  clear hb1 hd60
  have HTt_1 := Lib.hid (hT)
  have htlt := HTt_1.out.lt
  have htmt := HTt_1.out.mlt
  have hp1 := hT.lt
  have hp2 := hT.mlt
  clear hT
  go_wp2_with fail
  refine (RefTxn.new_any a HA.out _).mono ?_
  rintro e W2 ⟨rfl, hb2⟩
  rw [hnx]
  clear hnx
  have HB_2 := Lib.hid (bstep HB_1.out hb2)
  have HTt_2 := Lib.hid (HTt_1.out.below hb2)
  clear HTt_1 htlt htmt
  have htlt := HTt_2.out.lt
  have htmt := HTt_2.out.mlt
  have hw_2 := HB_2.out.size
  have hws_2 := (hb2).size
  clear hb2
  have hp3 : tb < W2.heap.size := by omega
  have hp4 : bm < W2.heap.size := by omega
  clear hp1 hp2
  go_wp2_with fail
  generalize hW3 : W2.alloc (.cells #[.slice none 0 0, .int .i64 nx] 28) = W3
  have HS0_3 := sEq hW3 (Str.new _ _ _)
  have hba3 : Below W2.heap.size W2 W3 := by rw [← hW3]; exact balloc (bsame _) _
  have HB_3 := Lib.hid (bstep HB_2.out hba3)
  have HTt_3 := Lib.hid (HTt_2.out.below hba3)
  clear HTt_2 htlt htmt
  have htlt := HTt_3.out.lt
  have htmt := HTt_3.out.mlt
  have hw_3 := HB_3.out.size
  have hws_3 := hba3.size
  clear hW3
  have f0_3 := str2 HS0_3.out
  have hl0_3 := HS0_3.out.lt
  go_loopw [7] (fun iv wr => ∃ (k m : Nat) (L : List TxnX) (nxv : Int) (A6 : Option Addr) (n6 c6 : Nat), k ≤ n ∧ iv = .int .i64 (k : Int) ∧ Hid (Tab wr tb bm m nxv L ∧ m ≤ k ∧ Str wr W2.heap.size #[.slice A6 n6 c6, .int .i64 nxv] ∧ Elems TxnE wr wr.heap.size A6 n6 c6 L ∧ TxnP.InvS L nxv k ∧ Below w.heap.size w wr)) (fun iv _ => n - (intOf iv).toNat)
  case atStart => exact ⟨0, 0, [], nx, none, 0, 0, Nat.zero_le _, rfl, Lib.hid ⟨HTt_3.out, Nat.le_refl _, HS0_3.out, Elems.none_ _ _ _, TxnP.invS_nil hx1 hx2, HB_3.out⟩⟩
  case round =>
    obtain ⟨k, m, L, nxv, A6, n6, c6, hk, rfl, HK⟩ := hrel
    have hmk := HK.out.2.1
    have HB_9 := Lib.hid HK.out.2.2.2.2.2
    have hw_9 := HB_9.out.size
    have HTt_9 := Lib.hid HK.out.1
    have htlt := HTt_9.out.lt
    have htmt := HTt_9.out.mlt
    have HS0_9 := Lib.hid HK.out.2.2.1
    have f0_9 := str2 HS0_9.out
    have hl0_9 := HS0_9.out.lt
    have hf0_9 := fun j => HS0_9.out.frozen j
    have HE_9 := Lib.hid HK.out.2.2.2.1
    have HI := Lib.hid HK.out.2.2.2.2.1
    have hlo := HI.out.lo
    have hhi := HI.out.hi
    have hln := HI.out.len
    have hln6 := HE_9.out.len
    clear HK f0_3 hl0_3
    by_cases hlt : k < n
    · obtain ⟨b, o, ⟨act, id, first, last, keep⟩, rfl, hbB, hs, ⟨hi0, hi1, hi2, hi3, hi4⟩, q0, q1, q2, q3, q4⟩ := step_at HE.out hlt
      dsimp only at hi0 hi1 hi2 hi3 hi4 q0 q1 q2 q3 q4
      replace q0 := (HB_9.out.cell (p := ⟨b, o + k * 5, none⟩) hbB).trans q0
      replace q1 := (HB_9.out.cell (p := ⟨b, o + k * 5 + 1, none⟩) hbB).trans q1
      replace q2 := (HB_9.out.cell (p := ⟨b, o + k * 5 + 2, none⟩) hbB).trans q2
      replace q3 := (HB_9.out.cell (p := ⟨b, o + k * 5 + 3, none⟩) hbB).trans q3
      replace q4 := (HB_9.out.cell (p := ⟨b, o + k * 5 + 4, none⟩) hbB).trans q4
      have hbl : b < wr.heap.size := by omega
      have HID := Lib.hid hi1
      have hdk : decide ((k : Int) < (n : Int)) = true := by simpa using hlt
      clear hi0 hi1 hi2 hi3 hi4 hs
      by_cases ha0 : act < 0
      · have hda : decide (act < 0) = true := by simpa using ha0
        go_wp2_with fail
        go_roundw
        case rel => exact ⟨k + 1, m, L, nxv, A6, n6, c6, by omega, by go_num, Lib.hid ⟨HTt_9.out.below (balloc (bsame _) _), by omega, HS0_9.out.alloc _, HE_9.out.next (balloc (bsame _) _), TxnP.invS_more HI.out, balloc HB_9.out _⟩⟩
        case measure => simp [intOf]; omega
      · have hda : decide (act < 0) = false := by simp; omega
        by_cases ha3 : 3 < act
        · have hdb : decide (3 < act) = true := by simpa using ha3
          go_wp2_with fail
          go_roundw
          case rel => exact ⟨k + 1, m, L, nxv, A6, n6, c6, by omega, by go_num, Lib.hid ⟨HTt_9.out.below (balloc (bsame _) _), by omega, HS0_9.out.alloc _, HE_9.out.next (balloc (bsame _) _), TxnP.invS_more HI.out, balloc HB_9.out _⟩⟩
          case measure => simp [intOf]; omega
        · have hdb : decide (3 < act) = false := by simp; omega
          have hact : act = 0 ∨ act = 1 ∨ act = 2 ∨ act = 3 := by omega
          clear ha0 ha3
          have hcase : keep < -1099511627776 ∨ 1099511627776 < keep ∨ (-1099511627776 ≤ keep ∧ keep ≤ 1099511627776) := by omega
          rcases hcase with hk1 | hk1 | hk1
          case' inl =>
            have hdc : decide (keep < -1099511627776) = true := by simpa using hk1
            go_wp2_with fail
            generalize hW10 : wr.alloc (.cells #[.int .i64 act, .int .i64 id, .int .i64 first, .int .i64 last, .int .i64 0] 31) = W10
            have HS0_10 := sEq hW10 (HS0_9.out.alloc _)
            have HS1_10 := sEq hW10 (Str.new _ _ _)
            have hba10 : Below wr.heap.size wr W10 := by rw [← hW10]; exact balloc (bsame _) _
            have HB_10 := Lib.hid (bstep HB_9.out hba10)
            have HTt_10 := Lib.hid (HTt_9.out.below hba10)
            clear HTt_9 htlt htmt
            have htlt := HTt_10.out.lt
            have htmt := HTt_10.out.mlt
            have hw_10 := HB_10.out.size
            have hws_10 := hba10.size
            clear hW10
            clear f0_9 HS0_9 hf0_9
            have f0_10 := str2 HS0_10.out
            have hl0_10 := HS0_10.out.lt
            have hf0_10 := fun j => HS0_10.out.frozen j
            have f1_10 := str5 HS1_10.out
            have hl1_10 := HS1_10.out.lt
            obtain ⟨kk, hkk⟩ : ∃ kk : Int, kk = 0 := ⟨_, rfl⟩
            rw [← hkk]
            have HKK : -1099511627776 ≤ kk ∧ kk ≤ 1099511627776 := by omega
            have HS1k : Hid (Str W10 wr.heap.size #[.int .i64 act, .int .i64 id, .int .i64 first, .int .i64 last, .int .i64 kk]) := Lib.hid (by rw [hkk]; exact HS1_10.out)
            clear HS1_10 f1_10
            have HS1_10 := HS1k
            clear HS1k
            have f1_10 := str5 HS1_10.out
            clear hkk hdc hk1
          case' inr.inl =>
            have hdc : decide (keep < -1099511627776) = false := by simp; omega
            have hdd : decide (1099511627776 < keep) = true := by simpa using hk1
            go_wp2_with fail
            generalize hW10 : wr.alloc (.cells #[.int .i64 act, .int .i64 id, .int .i64 first, .int .i64 last, .int .i64 0] 31) = W10
            have HS0_10 := sEq hW10 (HS0_9.out.alloc _)
            have HS1_10 := sEq hW10 (Str.new _ _ _)
            have hba10 : Below wr.heap.size wr W10 := by rw [← hW10]; exact balloc (bsame _) _
            have HB_10 := Lib.hid (bstep HB_9.out hba10)
            have HTt_10 := Lib.hid (HTt_9.out.below hba10)
            clear HTt_9 htlt htmt
            have htlt := HTt_10.out.lt
            have htmt := HTt_10.out.mlt
            have hw_10 := HB_10.out.size
            have hws_10 := hba10.size
            clear hW10
            clear f0_9 HS0_9 hf0_9
            have f0_10 := str2 HS0_10.out
            have hl0_10 := HS0_10.out.lt
            have hf0_10 := fun j => HS0_10.out.frozen j
            have f1_10 := str5 HS1_10.out
            have hl1_10 := HS1_10.out.lt
            obtain ⟨kk, hkk⟩ : ∃ kk : Int, kk = 0 := ⟨_, rfl⟩
            rw [← hkk]
            have HKK : -1099511627776 ≤ kk ∧ kk ≤ 1099511627776 := by omega
            have HS1k : Hid (Str W10 wr.heap.size #[.int .i64 act, .int .i64 id, .int .i64 first, .int .i64 last, .int .i64 kk]) := Lib.hid (by rw [hkk]; exact HS1_10.out)
            clear HS1_10 f1_10
            have HS1_10 := HS1k
            clear HS1k
            have f1_10 := str5 HS1_10.out
            clear hkk hdc hk1 hdd
          case' inr.inr =>
            have hdc : decide (keep < -1099511627776) = false := by simp; omega
            have hdd : decide (1099511627776 < keep) = false := by simp; omega
            go_wp2_with fail
            generalize hW10 : wr.alloc (.cells #[.int .i64 act, .int .i64 id, .int .i64 first, .int .i64 last, .int .i64 keep] 31) = W10
            have HS0_10 := sEq hW10 (HS0_9.out.alloc _)
            have HS1_10 := sEq hW10 (Str.new _ _ _)
            have hba10 : Below wr.heap.size wr W10 := by rw [← hW10]; exact balloc (bsame _) _
            have HB_10 := Lib.hid (bstep HB_9.out hba10)
            have HTt_10 := Lib.hid (HTt_9.out.below hba10)
            clear HTt_9 htlt htmt
            have htlt := HTt_10.out.lt
            have htmt := HTt_10.out.mlt
            have hw_10 := HB_10.out.size
            have hws_10 := hba10.size
            clear hW10
            clear f0_9 HS0_9 hf0_9
            have f0_10 := str2 HS0_10.out
            have hl0_10 := HS0_10.out.lt
            have hf0_10 := fun j => HS0_10.out.frozen j
            have f1_10 := str5 HS1_10.out
            have hl1_10 := HS1_10.out.lt
            obtain ⟨kk, hkk⟩ : ∃ kk : Int, kk = keep := ⟨_, rfl⟩
            rw [← hkk]
            have HKK : -1099511627776 ≤ kk ∧ kk ≤ 1099511627776 := by omega
            have HS1k : Hid (Str W10 wr.heap.size #[.int .i64 act, .int .i64 id, .int .i64 first, .int .i64 last, .int .i64 kk]) := Lib.hid (by rw [hkk]; exact HS1_10.out)
            clear HS1_10 f1_10
            have HS1_10 := HS1k
            clear HS1k
            have f1_10 := str5 HS1_10.out
            clear hkk hdc hk1 hdd
          all_goals
            have hE10 := HE_9.out.next hba10
            have hn6 : n6 ≤ 1000 := by omega
            have hxh : nxv ≤ 1000000000000000 := by omega
            have HE10 := Lib.hid hE10
            clear hE10 HE_9
            rcases hact with rfl | rfl | rfl | rfl
            · as_aux_lemma =>
              refine (RefTxn.go_begin_any first last kk id _ HE10.out hn6 hlo hxh HI.out.below).mono ?_
              rintro e W11 ⟨A7, n7, c7, rfl, hE7, hb11⟩
              have HS0_11 := Lib.hid (HS0_10.out.next hb11)
              have HS1_11 := Lib.hid (HS1_10.out.next hb11)
              have HB_11 := Lib.hid (bstep HB_10.out hb11)
              have HTt_11 := Lib.hid (HTt_10.out.below hb11)
              clear HTt_10 htlt htmt
              have htlt := HTt_11.out.lt
              have htmt := HTt_11.out.mlt
              have hw_11 := HB_11.out.size
              have hws_11 := (hb11).size
              clear f0_10 HS0_10 hf0_10 f1_10 HS1_10
              clear hb11
              have f0_11 := str2 HS0_11.out
              have hl0_11 := HS0_11.out.lt
              have hf0_11 := fun j => HS0_11.out.frozen j
              have f1_11 := str5 HS1_11.out
              have hl1_11 := HS1_11.out.lt
              have HE11 := Lib.hid hE7
              have HI2 : Hid (TxnP.InvS (TxnP.put L ⟨nxv, 0, 0, 0⟩) (nxv + 1) (k + 1)) := Lib.hid (TxnP.invS_begin HI.out)
              clear hE7 HE10
              obtain ⟨L2, hL2⟩ : ∃ x, (TxnP.put L ⟨nxv, 0, 0, 0⟩) = x := ⟨_, rfl⟩
              rw [hL2] at HE11 HI2
              go_wp2_with fail
              generalize hW12 : ((W11).setCell ⟨W2.heap.size, 0, none⟩ (.slice A7 n7 c7)).setCell ⟨W2.heap.size, 1, none⟩ (.int .i64 (nxv + 1)) = W12
              have HS0_12 : Hid (Str W12 (W2.heap.size) #[.slice A7 n7 c7, .int .i64 (nxv + 1)]) := Lib.hid (by rw [← hW12]; have := ((HS0_11.out).set 0 (.slice A7 n7 c7)).set 1 (.int .i64 (nxv + 1)); simpa using this)
              have hgr12 : W11.grownBy W12 (some (W2.heap.size)) := by rw [← hW12]; exact grown_set (grown_set (grown_refl W11 (W2.heap.size)) 0 (_)) 1 (_)
              have HS1_12 := Lib.hid (HS1_11.out.grown hgr12 (by omega))
              have HB_12 := Lib.hid (below_grown HB_11.out hgr12 (by omega))
              have HTt_12 := Lib.hid (HTt_11.out.grown hgr12 (by omega) (by omega))
              clear HTt_11 htlt htmt
              have htlt := HTt_12.out.lt
              have htmt := HTt_12.out.mlt
              have hw_12 := HB_12.out.size
              have hws_12 := hgr12.size
              have HE12 : Hid (Elems TxnE W12 W12.heap.size A7 n7 c7 L2) := Lib.hid (TxnE.grownS HE11.out hgr12 HS0_11.out (by simp))
              clear hW12
              clear f0_11 HS0_11 hf0_11 f1_11 HS1_11
              clear hgr12
              have f0_12 := str2 HS0_12.out
              have hl0_12 := HS0_12.out.lt
              have hf0_12 := fun j => HS0_12.out.frozen j
              have f1_12 := str5 HS1_12.out
              have hl1_12 := HS1_12.out.lt
              generalize hW13 : W12.alloc (.cells #[.slice A7 n7 c7, .int .i64 (nxv + 1)] 28) = W13
              have HS0_13 := sEq hW13 (HS0_12.out.alloc _)
              have HS1_13 := sEq hW13 (HS1_12.out.alloc _)
              have HS2_13 := sEq hW13 (Str.new _ _ _)
              have hba13 : Below W12.heap.size W12 W13 := by rw [← hW13]; exact balloc (bsame _) _
              have HB_13 := Lib.hid (bstep HB_12.out hba13)
              have HTt_13 := Lib.hid (HTt_12.out.below hba13)
              clear HTt_12 htlt htmt
              have htlt := HTt_13.out.lt
              have htmt := HTt_13.out.mlt
              have hw_13 := HB_13.out.size
              have hws_13 := hba13.size
              clear hW13
              clear f0_12 HS0_12 hf0_12 f1_12 HS1_12
              have f0_13 := str2 HS0_13.out
              have hl0_13 := HS0_13.out.lt
              have hf0_13 := fun j => HS0_13.out.frozen j
              have f1_13 := str5 HS1_13.out
              have hl1_13 := HS1_13.out.lt
              have f2_13 := str2 HS2_13.out
              have hl2_13 := HS2_13.out.lt
              have HE13 := Lib.hid (HE12.out.next hba13)
              refine (begin_any _ HTt_13.out (by unfold maxLen; omega) (by omega) (by omega)).mono ?_
              rintro e W14 ⟨rfl, ht14, hk14⟩
              have HE14 := Lib.hid (TxnE.nextK HE13.out hk14 HTt_13.out)
              rw [hL2] at ht14
              have HS0_14 := Lib.hid (HS0_13.out.keepB hk14 (by simp only [List.mem_cons, List.not_mem_nil, or_false, not_or]; omega))
              have HS1_14 := Lib.hid (HS1_13.out.keepB hk14 (by simp only [List.mem_cons, List.not_mem_nil, or_false, not_or]; omega))
              have HS2_14 := Lib.hid (HS2_13.out.keepB hk14 (by simp only [List.mem_cons, List.not_mem_nil, or_false, not_or]; omega))
              have HB_14 := Lib.hid (HB_13.out.trans (hk14.below (M := w.heap.size) (by omega) (by intro b hb; simp only [List.mem_cons, List.not_mem_nil, or_false] at hb; rcases hb with rfl | rfl <;> omega)))
              have hw_14 := HB_14.out.size
              have hws_14 := hk14.size
              clear HTt_13 htlt htmt
              have HTt_14 := Lib.hid ht14
              have htlt := HTt_14.out.lt
              have htmt := HTt_14.out.mlt
              clear f0_13 HS0_13 hf0_13 f1_13 HS1_13 f2_13 HS2_13
              clear ht14 hk14
              have f0_14 := str2 HS0_14.out
              have hl0_14 := HS0_14.out.lt
              have hf0_14 := fun j => HS0_14.out.frozen j
              have f1_14 := str5 HS1_14.out
              have hl1_14 := HS1_14.out.lt
              have f2_14 := str2 HS2_14.out
              have hl2_14 := HS2_14.out.lt
              clear HE11 HE12 HE13 hL2
              go_wp2_with fail
              refine Reg.wp_region_vals (R := ext) (W := W14) [Reg.eqv (.int .i64 nxv), Reg.eqv (.int .i64 nxv), Reg.eqv (.bool false), Reg.eqv (.bool false), Reg.eqv (.bool true), Reg.eqv (.bool true), Reg.eqv (.bool false), Reg.eqv (.bool false), Reg.eqv (.bool false), Reg.eqv (.pointer (some ⟨tb, 0, none⟩)), Reg.eqv (.int .i64 (nxv + 1)), Reg.eqv (.pointer (some ⟨W2.heap.size, 1, none⟩)), Reg.eqv (.int .i64 (nxv + 1)), Reg.eqv (.bool false), Reg.eqv (.bool false), Reg.eqv (.bool false), Reg.eqv (.pointer (some ⟨tb, 0, none⟩)), Reg.intS (TxnP.ids L2), Reg.eqv (.agg #[.slice A7 n7 c7, .int .i64 (nxv + 1)]), Reg.intS (TxnP.ids L2), Reg.eqv (.bool true), Reg.eqv (.bool false), Reg.eqv (.bool false)] 171 [[(12, none)], [(10, none)], [(100, some 0), (101, some 1)], [(102, some 2)], [(13, none), (103, some 3)], [(11, none), (103, some 3)], [(104, some 4), (105, some 5), (103, some 3)], [(103, some 3), (106, some 6)], [(107, some 7)], [(5, none), (108, some 8)], [(109, some 9), (108, some 8)], [(6, none), (108, some 8)], [(111, some 11), (108, some 8)], [(110, some 10), (112, some 12), (108, some 8)], [(108, some 8), (113, some 13)], [(114, some 14)], [(5, none), (115, some 15)], [(116, some 16), (115, some 15)], [(6, none), (115, some 15)], [(118, some 18), (115, some 15)], [(117, some 17), (119, some 19), (115, some 15)], [(120, some 20), (115, some 15)], [(115, some 15), (121, some 21)]] rfl (by kernel_rfl) (by kernel_rfl) (by kernel_rfl) ?_ [some 100, some 101, some 102, some 103, some 104, some 105, some 106, some 107, some 108, some 109, some 110, some 111, some 112, some 113, some 114, some 115, some 116, some 117, some 118, some 119, some 120, some 121, some 122] (by kernel_rfl) ?_
              · refine ⟨?_, ?_, ?_, ?_, ?_, ?_, ?_, ?_, ?_, ?_, ?_, ?_, ?_, ?_, ?_, ?_, ?_, ?_, ?_, ?_, ?_, ?_, ?_, trivial⟩
                · intro ax wx hx hs
                  obtain ⟨e12, -⟩ := hs
                  have g12 := Reg.ev (v := .int .i64 nxv) e12
                  exact Reg.obl_free rfl (Reg.wp_eqv (Option.some_ne_none _) (by go_simp) rfl)
                · intro ax wx hx hs
                  obtain ⟨e10, -⟩ := hs
                  have g10 := Reg.ev (v := .int .i64 nxv) e10
                  exact Reg.obl_free rfl (Reg.wp_eqv (Option.some_ne_none _) (by go_simp) rfl)
                · intro ax wx hx hs
                  obtain ⟨e100, e101, -⟩ := hs
                  have g100 := Reg.ev (v := .int .i64 nxv) e100
                  have g101 := Reg.ev (v := .int .i64 nxv) e101
                  exact Reg.obl_free rfl (Reg.wp_eqv (Option.some_ne_none _) (by go_simp) rfl)
                · intro ax wx hx hs
                  obtain ⟨e102, -⟩ := hs
                  have g102 := Reg.ev (v := .bool false) e102
                  exact Reg.obl_free rfl (Reg.wp_eqv (Option.some_ne_none _) (by go_simp) rfl)
                · intro ax wx hx hs
                  obtain ⟨e13, e103, -⟩ := hs
                  have g13 := Reg.ev (v := .bool true) e13
                  have g103 := Reg.ev (v := .bool false) e103
                  exact Reg.obl_want rfl rfl e103 (Reg.wp_eqv (Option.some_ne_none _) (by go_simp) rfl)
                · intro ax wx hx hs
                  obtain ⟨e11, e103, -⟩ := hs
                  have g11 := Reg.ev (v := .bool true) e11
                  have g103 := Reg.ev (v := .bool false) e103
                  exact Reg.obl_want rfl rfl e103 (Reg.wp_eqv (Option.some_ne_none _) (by go_simp) rfl)
                · intro ax wx hx hs
                  obtain ⟨e104, e105, e103, -⟩ := hs
                  have g104 := Reg.ev (v := .bool true) e104
                  have g105 := Reg.ev (v := .bool true) e105
                  have g103 := Reg.ev (v := .bool false) e103
                  exact Reg.obl_want rfl rfl e103 (Reg.wp_eqv (Option.some_ne_none _) (by go_simp) rfl)
                · intro ax wx hx hs
                  obtain ⟨e103, e106, -⟩ := hs
                  have g103 := Reg.ev (v := .bool false) e103
                  have g106 := Reg.ev (v := .bool false) e106
                  exact Reg.obl_free rfl (Reg.wp_eqv (Option.some_ne_none _) (by go_simp) rfl)
                · intro ax wx hx hs
                  obtain ⟨e107, -⟩ := hs
                  have g107 := Reg.ev (v := .bool false) e107
                  exact Reg.obl_free rfl (Reg.wp_eqv (Option.some_ne_none _) (by go_simp) rfl)
                · intro ax wx hx hs
                  obtain ⟨e5, e108, -⟩ := hs
                  have g5 := Reg.ev (v := .pointer (some ⟨tb, 0, none⟩)) e5
                  have g108 := Reg.ev (v := .bool false) e108
                  exact Reg.obl_want rfl rfl e108 (Reg.wp_eqv (Option.some_ne_none _) (by go_simp) rfl)
                · intro ax wx hx hs
                  obtain ⟨e109, e108, -⟩ := hs
                  have g109 := Reg.ev (v := .pointer (some ⟨tb, 0, none⟩)) e109
                  have g108 := Reg.ev (v := .bool false) e108
                  refine Reg.obl_want rfl rfl e108 ?_
                  have hx' : Below W14.heap.size W14 wx := hx
                  go_simp
                  refine (next_any _ (HTt_14.out.below hx')).mono ?_
                  rintro e wy ⟨rfl, rfl⟩
                  exact Reg.done (Option.some_ne_none _) rfl (bsame _)
                · intro ax wx hx hs
                  obtain ⟨e6, e108, -⟩ := hs
                  have g6 := Reg.ev (v := .pointer (some ⟨W2.heap.size, 0, none⟩)) e6
                  have g108 := Reg.ev (v := .bool false) e108
                  exact Reg.obl_want rfl rfl e108 (Reg.wp_eqv (Option.some_ne_none _) (by go_simp) rfl)
                · intro ax wx hx hs
                  obtain ⟨e111, e108, -⟩ := hs
                  have g111 := Reg.ev (v := .pointer (some ⟨W2.heap.size, 1, none⟩)) e111
                  have g108 := Reg.ev (v := .bool false) e108
                  obtain ⟨l0, l1⟩ := str2 (HS0_14.out.next hx)
                  exact Reg.obl_want rfl rfl e108 (Reg.wp_eqv (Option.some_ne_none _) (by go_simp) rfl)
                · intro ax wx hx hs
                  obtain ⟨e110, e112, e108, -⟩ := hs
                  have g110 := Reg.ev (v := .int .i64 (nxv + 1)) e110
                  have g112 := Reg.ev (v := .int .i64 (nxv + 1)) e112
                  have g108 := Reg.ev (v := .bool false) e108
                  exact Reg.obl_want rfl rfl e108 (Reg.wp_eqv (Option.some_ne_none _) (by go_simp) rfl)
                · intro ax wx hx hs
                  obtain ⟨e108, e113, -⟩ := hs
                  have g108 := Reg.ev (v := .bool false) e108
                  have g113 := Reg.ev (v := .bool false) e113
                  exact Reg.obl_free rfl (Reg.wp_eqv (Option.some_ne_none _) (by go_simp) rfl)
                · intro ax wx hx hs
                  obtain ⟨e114, -⟩ := hs
                  have g114 := Reg.ev (v := .bool false) e114
                  exact Reg.obl_free rfl (Reg.wp_eqv (Option.some_ne_none _) (by go_simp) rfl)
                · intro ax wx hx hs
                  obtain ⟨e5, e115, -⟩ := hs
                  have g5 := Reg.ev (v := .pointer (some ⟨tb, 0, none⟩)) e5
                  have g115 := Reg.ev (v := .bool false) e115
                  exact Reg.obl_want rfl rfl e115 (Reg.wp_eqv (Option.some_ne_none _) (by go_simp) rfl)
                · intro ax wx hx hs
                  obtain ⟨e116, e115, -⟩ := hs
                  have g116 := Reg.ev (v := .pointer (some ⟨tb, 0, none⟩)) e116
                  have g115 := Reg.ev (v := .bool false) e115
                  refine Reg.obl_want rfl rfl e115 ?_
                  have hx' : Below W14.heap.size W14 wx := hx
                  go_simp
                  refine (TxnW.live_any _ (HTt_14.out.below hx') HI2.out.rises (by have := HI2.out.len; omega)).mono ?_
                  rintro e wy ⟨A8, n8, c8, rfl, hy8, hby⟩
                  exact Reg.done (Option.some_ne_none _) ⟨A8, n8, c8, rfl, hy8⟩ hby
                · intro ax wx hx hs
                  obtain ⟨e6, e115, -⟩ := hs
                  have g6 := Reg.ev (v := .pointer (some ⟨W2.heap.size, 0, none⟩)) e6
                  have g115 := Reg.ev (v := .bool false) e115
                  obtain ⟨l0, l1⟩ := str2 (HS0_14.out.next hx)
                  exact Reg.obl_want rfl rfl e115 (Reg.wp_eqv (Option.some_ne_none _) (by go_simp) rfl)
                · intro ax wx hx hs
                  obtain ⟨e118, e115, -⟩ := hs
                  have g118 := Reg.ev (v := .agg #[.slice A7 n7 c7, .int .i64 (nxv + 1)]) e118
                  have g115 := Reg.ev (v := .bool false) e115
                  refine Reg.obl_want rfl rfl e115 ?_
                  have hx' : Below W14.heap.size W14 wx := hx
                  go_simp
                  refine (RefTxn.live_any _ (HE14.out.next hx') (by have := HI2.out.len; have := HE14.out.len; omega)).mono ?_
                  rintro e wy ⟨A8, n8, c8, rfl, hy8, hby⟩
                  exact Reg.done (Option.some_ne_none _) ⟨A8, n8, c8, rfl, hy8⟩ hby
                · intro ax wx hx hs
                  obtain ⟨e117, e119, e115, -⟩ := hs
                  have g115 := Reg.ev (v := .bool false) e115
                  refine Reg.obl_want rfl rfl e115 ?_
                  have hx' : Below W14.heap.size W14 wx := hx
                  obtain ⟨A8, n8, c8, e117, hy8⟩ := e117
                  obtain ⟨A9, n9, c9, e119, hy9⟩ := e119
                  have g117 := Reg.ev e117
                  have g119 := Reg.ev e119
                  go_simp
                  refine (RefTxn.sameList_any _ hy8 hy9).mono ?_
                  rw [decide_eq_true rfl]
                  rintro e wy ⟨rfl, hby⟩
                  exact Reg.done (Option.some_ne_none _) rfl hby
                · intro ax wx hx hs
                  obtain ⟨e120, e115, -⟩ := hs
                  have g120 := Reg.ev (v := .bool true) e120
                  have g115 := Reg.ev (v := .bool false) e115
                  exact Reg.obl_want rfl rfl e115 (Reg.wp_eqv (Option.some_ne_none _) (by go_simp) rfl)
                · intro ax wx hx hs
                  obtain ⟨e115, e121, -⟩ := hs
                  have g115 := Reg.ev (v := .bool false) e115
                  have g121 := Reg.ev (v := .bool false) e121
                  exact Reg.obl_free rfl (Reg.wp_eqv (Option.some_ne_none _) (by go_simp) rfl)
              · intro W15 hwf
                simp only [Reg.Fin]
                rintro _ rfl _ rfl _ rfl _ rfl _ rfl _ rfl _ rfl _ rfl _ rfl _ rfl _ rfl _ rfl _ rfl _ rfl _ rfl _ rfl _ rfl v117 h117 _ rfl v119 h119 _ rfl _ rfl _ rfl
                go_simp
                have hwf' : Below W14.heap.size W14 W15 := hwf
                clear hwf
                have HS0_15 := Lib.hid (HS0_14.out.next hwf')
                have HS1_15 := Lib.hid (HS1_14.out.next hwf')
                have HS2_15 := Lib.hid (HS2_14.out.next hwf')
                have HB_15 := Lib.hid (bstep HB_14.out hwf')
                have HTt_15 := Lib.hid (HTt_14.out.below hwf')
                clear HTt_14 htlt htmt
                have htlt := HTt_15.out.lt
                have htmt := HTt_15.out.mlt
                have hw_15 := HB_15.out.size
                have hws_15 := (hwf').size
                clear f0_14 HS0_14 hf0_14 f1_14 HS1_14 f2_14 HS2_14
                have f0_15 := str2 HS0_15.out
                have hl0_15 := HS0_15.out.lt
                have hf0_15 := fun j => HS0_15.out.frozen j
                have f1_15 := str5 HS1_15.out
                have hl1_15 := HS1_15.out.lt
                have f2_15 := str2 HS2_15.out
                have hl2_15 := HS2_15.out.lt
                have HE15 := Lib.hid (HE14.out.next hwf')
                clear HE14 hwf'
                go_wp2_with fail
                have hln7 := HE15.out.len
                have hn7 : n7 ≤ 61 := by have := HI2.out.len; omega
                go_loopw [14] (fun jv wq => ∃ j : Nat, j ≤ n7 ∧ jv = .int .i64 (j : Int) ∧ Hid (Below W15.heap.size W15 wq)) (fun jv _ => n7 - (intOf jv).toNat)
                case atStart => exact ⟨0, Nat.zero_le _, rfl, Lib.hid (bsame W15)⟩
                case round =>
                  obtain ⟨j, hj, rfl, HG⟩ := hrel
                  have hgz := HG.out.size
                  have HBq := Lib.hid (bstep HB_15.out HG.out)
                  have HSq := Lib.hid (HS0_15.out.next HG.out)
                  have HTq := Lib.hid (HTt_15.out.below HG.out)
                  have HEq := Lib.hid (HE15.out.next HG.out)
                  have fq := str2 HSq.out
                  have hlq := HSq.out.lt
                  clear f0_15 f1_15 f2_15
                  by_cases hjl : j < n7
                  · have hdj : decide ((j : Int) < (n7 : Int)) = true := by simpa using hjl
                    obtain ⟨bb, oo, x, rfl, hbb, hx7, y0, y1, y2, y3⟩ := txn_at HEq.out hjl
                    have HGX : Hid (TxnP.get L2 x.id = x) := Lib.hid (TxnP.get_of HI2.out.rises (List.mem_of_getElem? hx7))
                    have HHX : Hid (TxnP.has L2 x.id = true) := Lib.hid (TxnP.has_iff.2 ⟨x, List.mem_of_getElem? hx7, rfl⟩)
                    have HIX := Lib.hid (TxnP.invS_in HI2.out (by omega) (List.mem_of_getElem? hx7))
                    clear hx7
                    go_wp2_with fail
                    refine (get_any x.id _ HTq.out HIX.out).mono ?_
                    rintro e W17 ⟨rfl, hb17⟩
                    rw [HGX.out, HHX.out]
                    have z0 := (hb17.cell (p := ⟨bb, oo + j * 4, none⟩) hbb).trans y0
                    have z1 := (hb17.cell (p := ⟨bb, oo + j * 4 + 1, none⟩) hbb).trans y1
                    have z2 := (hb17.cell (p := ⟨bb, oo + j * 4 + 2, none⟩) hbb).trans y2
                    have z3 := (hb17.cell (p := ⟨bb, oo + j * 4 + 3, none⟩) hbb).trans y3
                    have fr := str2 (HSq.out.next hb17)
                    have hlr := (HSq.out.next hb17).lt
                    have hbbr : bb < W17.heap.size := by have := hb17.size; omega
                    have HB17 := Lib.hid (bstep HG.out hb17)
                    clear y0 y1 y2 y3 hb17 fq hlq
                    go_wp2_with (first | go_quiet (fail) | go_in)
                    go_wp2
                    go_roundw
                    case rel => exact ⟨j + 1, by omega, by go_num, Lib.hid (drewN_below (balloc HB17.out _) _)⟩
                    case measure => simp [intOf]; omega
                  · have hdj : decide ((j : Int) < (n7 : Int)) = false := by simp; omega
                    go_wp2_with fail
                    refine (TxnW.oldest_any _ HTq.out HI2.out.rises).mono ?_
                    rintro e W17 ⟨v1, b1, rfl, hO1, hb17⟩
                    have HB17 := Lib.hid (bstep HG.out hb17)
                    have fr := str2 (HSq.out.next hb17)
                    have hlr := (HSq.out.next hb17).lt
                    have HE17 := Lib.hid (HEq.out.next hb17)
                    have HT17 := Lib.hid (HTq.out.below hb17)
                    have HS17 := Lib.hid (HSq.out.next hb17)
                    have HW17 := Lib.hid (bstep HBq.out hb17)
                    clear hb17 fq hlq
                    go_wp2_with fail
                    refine (RefTxn.oldest_any _ HE17.out).mono ?_
                    rintro e W18 ⟨v2, b2, rfl, hO2, hb18⟩
                    obtain ⟨rfl, rfl⟩ := TxnP.old_uniq hO1 hO2
                    have HT18 := Lib.hid (HT17.out.below hb18)
                    have HS18 := Lib.hid (HS17.out.next hb18)
                    have HE18 := Lib.hid (HE17.out.next hb18)
                    have HW18 := Lib.hid (bstep HW17.out hb18)
                    clear hb18 hO1 hO2 fr hlr
                    go_wp2
                    go_roundw
                    case rel => exact ⟨k + 1, m + 1, L2, (nxv + 1), _, n7, c7, by omega, by go_num, Lib.hid ⟨HT18.out, by omega, HS18.out, HE18.out, HI2.out, HW18.out⟩⟩
                    case measure => simp [intOf]; omega
            · as_aux_lemma =>
              refine (RefTxn.go_note_any first last kk id _ HE10.out hn6 hlo hxh HI.out.rises (TxnP.invS_kept HI.out (by omega) HKK)).mono ?_
              rintro e W11 ⟨A7, n7, c7, rfl, hE7, hb11⟩
              have HS0_11 := Lib.hid (HS0_10.out.next hb11)
              have HS1_11 := Lib.hid (HS1_10.out.next hb11)
              have HB_11 := Lib.hid (bstep HB_10.out hb11)
              have HTt_11 := Lib.hid (HTt_10.out.below hb11)
              clear HTt_10 htlt htmt
              have htlt := HTt_11.out.lt
              have htmt := HTt_11.out.mlt
              have hw_11 := HB_11.out.size
              have hws_11 := (hb11).size
              clear f0_10 HS0_10 hf0_10 f1_10 HS1_10
              clear hb11
              have f0_11 := str2 HS0_11.out
              have hl0_11 := HS0_11.out.lt
              have hf0_11 := fun j => HS0_11.out.frozen j
              have f1_11 := str5 HS1_11.out
              have hl1_11 := HS1_11.out.lt
              have HE11 := Lib.hid hE7
              have HI2 : Hid (TxnP.InvS (noteL L id first last kk) nxv (k + 1)) := Lib.hid (TxnP.invS_note HI.out HKK)
              clear hE7 HE10
              obtain ⟨L2, hL2⟩ : ∃ x, (noteL L id first last kk) = x := ⟨_, rfl⟩
              rw [hL2] at HE11 HI2
              go_wp2_with fail
              generalize hW12 : ((W11).setCell ⟨W2.heap.size, 0, none⟩ (.slice A7 n7 c7)).setCell ⟨W2.heap.size, 1, none⟩ (.int .i64 nxv) = W12
              have HS0_12 : Hid (Str W12 (W2.heap.size) #[.slice A7 n7 c7, .int .i64 nxv]) := Lib.hid (by rw [← hW12]; have := ((HS0_11.out).set 0 (.slice A7 n7 c7)).set 1 (.int .i64 nxv); simpa using this)
              have hgr12 : W11.grownBy W12 (some (W2.heap.size)) := by rw [← hW12]; exact grown_set (grown_set (grown_refl W11 (W2.heap.size)) 0 (_)) 1 (_)
              have HS1_12 := Lib.hid (HS1_11.out.grown hgr12 (by omega))
              have HB_12 := Lib.hid (below_grown HB_11.out hgr12 (by omega))
              have HTt_12 := Lib.hid (HTt_11.out.grown hgr12 (by omega) (by omega))
              clear HTt_11 htlt htmt
              have htlt := HTt_12.out.lt
              have htmt := HTt_12.out.mlt
              have hw_12 := HB_12.out.size
              have hws_12 := hgr12.size
              have HE12 : Hid (Elems TxnE W12 W12.heap.size A7 n7 c7 L2) := Lib.hid (TxnE.grownS HE11.out hgr12 HS0_11.out (by simp))
              clear hW12
              clear f0_11 HS0_11 hf0_11 f1_11 HS1_11
              clear hgr12
              have f0_12 := str2 HS0_12.out
              have hl0_12 := HS0_12.out.lt
              have hf0_12 := fun j => HS0_12.out.frozen j
              have f1_12 := str5 HS1_12.out
              have hl1_12 := HS1_12.out.lt
              generalize hW13 : W12.alloc (.cells #[.slice A7 n7 c7, .int .i64 nxv] 28) = W13
              have HS0_13 := sEq hW13 (HS0_12.out.alloc _)
              have HS1_13 := sEq hW13 (HS1_12.out.alloc _)
              have HS2_13 := sEq hW13 (Str.new _ _ _)
              have hba13 : Below W12.heap.size W12 W13 := by rw [← hW13]; exact balloc (bsame _) _
              have HB_13 := Lib.hid (bstep HB_12.out hba13)
              have HTt_13 := Lib.hid (HTt_12.out.below hba13)
              clear HTt_12 htlt htmt
              have htlt := HTt_13.out.lt
              have htmt := HTt_13.out.mlt
              have hw_13 := HB_13.out.size
              have hws_13 := hba13.size
              clear hW13
              clear f0_12 HS0_12 hf0_12 f1_12 HS1_12
              have f0_13 := str2 HS0_13.out
              have hl0_13 := HS0_13.out.lt
              have hf0_13 := fun j => HS0_13.out.frozen j
              have f1_13 := str5 HS1_13.out
              have hl1_13 := HS1_13.out.lt
              have f2_13 := str2 HS2_13.out
              have hl2_13 := HS2_13.out.lt
              have HE13 := Lib.hid (HE12.out.next hba13)
              refine (note_any id first last kk _ HTt_13.out (by unfold maxLen; omega) HID.out (TxnP.invS_kept HI.out (by omega) HKK)).mono ?_
              rintro e W14 ⟨rfl, ht14, hk14⟩
              have HE14 := Lib.hid (TxnE.nextK HE13.out hk14 HTt_13.out)
              rw [hL2] at ht14
              have HS0_14 := Lib.hid (HS0_13.out.keepB hk14 (by simp only [List.mem_cons, List.not_mem_nil, or_false, not_or]; omega))
              have HS1_14 := Lib.hid (HS1_13.out.keepB hk14 (by simp only [List.mem_cons, List.not_mem_nil, or_false, not_or]; omega))
              have HS2_14 := Lib.hid (HS2_13.out.keepB hk14 (by simp only [List.mem_cons, List.not_mem_nil, or_false, not_or]; omega))
              have HB_14 := Lib.hid (HB_13.out.trans (hk14.below (M := w.heap.size) (by omega) (by intro b hb; simp only [List.mem_cons, List.not_mem_nil, or_false] at hb; rcases hb with rfl | rfl <;> omega)))
              have hw_14 := HB_14.out.size
              have hws_14 := hk14.size
              clear HTt_13 htlt htmt
              have HTt_14 := Lib.hid ht14
              have htlt := HTt_14.out.lt
              have htmt := HTt_14.out.mlt
              clear f0_13 HS0_13 hf0_13 f1_13 HS1_13 f2_13 HS2_13
              clear ht14 hk14
              have f0_14 := str2 HS0_14.out
              have hl0_14 := HS0_14.out.lt
              have hf0_14 := fun j => HS0_14.out.frozen j
              have f1_14 := str5 HS1_14.out
              have hl1_14 := HS1_14.out.lt
              have f2_14 := str2 HS2_14.out
              have hl2_14 := HS2_14.out.lt
              clear HE11 HE12 HE13 hL2
              go_wp2_with fail
              refine Reg.wp_region_vals (R := ext) (W := W14) [Reg.eqv (.int .i64 0), Reg.eqv (.int .i64 0), Reg.eqv (.bool false), Reg.eqv (.bool false), Reg.eqv (.bool (TxnP.has L id)), Reg.eqv (.bool (TxnP.has L id)), Reg.eqv (.bool false), Reg.eqv (.bool false), Reg.eqv (.bool false), Reg.eqv (.pointer (some ⟨tb, 0, none⟩)), Reg.eqv (.int .i64 nxv), Reg.eqv (.pointer (some ⟨W2.heap.size, 1, none⟩)), Reg.eqv (.int .i64 nxv), Reg.eqv (.bool false), Reg.eqv (.bool false), Reg.eqv (.bool false), Reg.eqv (.pointer (some ⟨tb, 0, none⟩)), Reg.intS (TxnP.ids L2), Reg.eqv (.agg #[.slice A7 n7 c7, .int .i64 nxv]), Reg.intS (TxnP.ids L2), Reg.eqv (.bool true), Reg.eqv (.bool false), Reg.eqv (.bool false)] 171 [[(12, none)], [(10, none)], [(100, some 0), (101, some 1)], [(102, some 2)], [(13, none), (103, some 3)], [(11, none), (103, some 3)], [(104, some 4), (105, some 5), (103, some 3)], [(103, some 3), (106, some 6)], [(107, some 7)], [(5, none), (108, some 8)], [(109, some 9), (108, some 8)], [(6, none), (108, some 8)], [(111, some 11), (108, some 8)], [(110, some 10), (112, some 12), (108, some 8)], [(108, some 8), (113, some 13)], [(114, some 14)], [(5, none), (115, some 15)], [(116, some 16), (115, some 15)], [(6, none), (115, some 15)], [(118, some 18), (115, some 15)], [(117, some 17), (119, some 19), (115, some 15)], [(120, some 20), (115, some 15)], [(115, some 15), (121, some 21)]] rfl (by kernel_rfl) (by kernel_rfl) (by kernel_rfl) ?_ [some 100, some 101, some 102, some 103, some 104, some 105, some 106, some 107, some 108, some 109, some 110, some 111, some 112, some 113, some 114, some 115, some 116, some 117, some 118, some 119, some 120, some 121, some 122] (by kernel_rfl) ?_
              · refine ⟨?_, ?_, ?_, ?_, ?_, ?_, ?_, ?_, ?_, ?_, ?_, ?_, ?_, ?_, ?_, ?_, ?_, ?_, ?_, ?_, ?_, ?_, ?_, trivial⟩
                · intro ax wx hx hs
                  obtain ⟨e12, -⟩ := hs
                  have g12 := Reg.ev (v := .int .i64 0) e12
                  exact Reg.obl_free rfl (Reg.wp_eqv (Option.some_ne_none _) (by go_simp) rfl)
                · intro ax wx hx hs
                  obtain ⟨e10, -⟩ := hs
                  have g10 := Reg.ev (v := .int .i64 0) e10
                  exact Reg.obl_free rfl (Reg.wp_eqv (Option.some_ne_none _) (by go_simp) rfl)
                · intro ax wx hx hs
                  obtain ⟨e100, e101, -⟩ := hs
                  have g100 := Reg.ev (v := .int .i64 0) e100
                  have g101 := Reg.ev (v := .int .i64 0) e101
                  exact Reg.obl_free rfl (Reg.wp_eqv (Option.some_ne_none _) (by go_simp) rfl)
                · intro ax wx hx hs
                  obtain ⟨e102, -⟩ := hs
                  have g102 := Reg.ev (v := .bool false) e102
                  exact Reg.obl_free rfl (Reg.wp_eqv (Option.some_ne_none _) (by go_simp) rfl)
                · intro ax wx hx hs
                  obtain ⟨e13, e103, -⟩ := hs
                  have g13 := Reg.ev (v := .bool (TxnP.has L id)) e13
                  have g103 := Reg.ev (v := .bool false) e103
                  exact Reg.obl_want rfl rfl e103 (Reg.wp_eqv (Option.some_ne_none _) (by go_simp) rfl)
                · intro ax wx hx hs
                  obtain ⟨e11, e103, -⟩ := hs
                  have g11 := Reg.ev (v := .bool (TxnP.has L id)) e11
                  have g103 := Reg.ev (v := .bool false) e103
                  exact Reg.obl_want rfl rfl e103 (Reg.wp_eqv (Option.some_ne_none _) (by go_simp) rfl)
                · intro ax wx hx hs
                  obtain ⟨e104, e105, e103, -⟩ := hs
                  have g104 := Reg.ev (v := .bool (TxnP.has L id)) e104
                  have g105 := Reg.ev (v := .bool (TxnP.has L id)) e105
                  have g103 := Reg.ev (v := .bool false) e103
                  exact Reg.obl_want rfl rfl e103 (Reg.wp_eqv (Option.some_ne_none _) (by go_simp) rfl)
                · intro ax wx hx hs
                  obtain ⟨e103, e106, -⟩ := hs
                  have g103 := Reg.ev (v := .bool false) e103
                  have g106 := Reg.ev (v := .bool false) e106
                  exact Reg.obl_free rfl (Reg.wp_eqv (Option.some_ne_none _) (by go_simp) rfl)
                · intro ax wx hx hs
                  obtain ⟨e107, -⟩ := hs
                  have g107 := Reg.ev (v := .bool false) e107
                  exact Reg.obl_free rfl (Reg.wp_eqv (Option.some_ne_none _) (by go_simp) rfl)
                · intro ax wx hx hs
                  obtain ⟨e5, e108, -⟩ := hs
                  have g5 := Reg.ev (v := .pointer (some ⟨tb, 0, none⟩)) e5
                  have g108 := Reg.ev (v := .bool false) e108
                  exact Reg.obl_want rfl rfl e108 (Reg.wp_eqv (Option.some_ne_none _) (by go_simp) rfl)
                · intro ax wx hx hs
                  obtain ⟨e109, e108, -⟩ := hs
                  have g109 := Reg.ev (v := .pointer (some ⟨tb, 0, none⟩)) e109
                  have g108 := Reg.ev (v := .bool false) e108
                  refine Reg.obl_want rfl rfl e108 ?_
                  have hx' : Below W14.heap.size W14 wx := hx
                  go_simp
                  refine (next_any _ (HTt_14.out.below hx')).mono ?_
                  rintro e wy ⟨rfl, rfl⟩
                  exact Reg.done (Option.some_ne_none _) rfl (bsame _)
                · intro ax wx hx hs
                  obtain ⟨e6, e108, -⟩ := hs
                  have g6 := Reg.ev (v := .pointer (some ⟨W2.heap.size, 0, none⟩)) e6
                  have g108 := Reg.ev (v := .bool false) e108
                  exact Reg.obl_want rfl rfl e108 (Reg.wp_eqv (Option.some_ne_none _) (by go_simp) rfl)
                · intro ax wx hx hs
                  obtain ⟨e111, e108, -⟩ := hs
                  have g111 := Reg.ev (v := .pointer (some ⟨W2.heap.size, 1, none⟩)) e111
                  have g108 := Reg.ev (v := .bool false) e108
                  obtain ⟨l0, l1⟩ := str2 (HS0_14.out.next hx)
                  exact Reg.obl_want rfl rfl e108 (Reg.wp_eqv (Option.some_ne_none _) (by go_simp) rfl)
                · intro ax wx hx hs
                  obtain ⟨e110, e112, e108, -⟩ := hs
                  have g110 := Reg.ev (v := .int .i64 nxv) e110
                  have g112 := Reg.ev (v := .int .i64 nxv) e112
                  have g108 := Reg.ev (v := .bool false) e108
                  exact Reg.obl_want rfl rfl e108 (Reg.wp_eqv (Option.some_ne_none _) (by go_simp) rfl)
                · intro ax wx hx hs
                  obtain ⟨e108, e113, -⟩ := hs
                  have g108 := Reg.ev (v := .bool false) e108
                  have g113 := Reg.ev (v := .bool false) e113
                  exact Reg.obl_free rfl (Reg.wp_eqv (Option.some_ne_none _) (by go_simp) rfl)
                · intro ax wx hx hs
                  obtain ⟨e114, -⟩ := hs
                  have g114 := Reg.ev (v := .bool false) e114
                  exact Reg.obl_free rfl (Reg.wp_eqv (Option.some_ne_none _) (by go_simp) rfl)
                · intro ax wx hx hs
                  obtain ⟨e5, e115, -⟩ := hs
                  have g5 := Reg.ev (v := .pointer (some ⟨tb, 0, none⟩)) e5
                  have g115 := Reg.ev (v := .bool false) e115
                  exact Reg.obl_want rfl rfl e115 (Reg.wp_eqv (Option.some_ne_none _) (by go_simp) rfl)
                · intro ax wx hx hs
                  obtain ⟨e116, e115, -⟩ := hs
                  have g116 := Reg.ev (v := .pointer (some ⟨tb, 0, none⟩)) e116
                  have g115 := Reg.ev (v := .bool false) e115
                  refine Reg.obl_want rfl rfl e115 ?_
                  have hx' : Below W14.heap.size W14 wx := hx
                  go_simp
                  refine (TxnW.live_any _ (HTt_14.out.below hx') HI2.out.rises (by have := HI2.out.len; omega)).mono ?_
                  rintro e wy ⟨A8, n8, c8, rfl, hy8, hby⟩
                  exact Reg.done (Option.some_ne_none _) ⟨A8, n8, c8, rfl, hy8⟩ hby
                · intro ax wx hx hs
                  obtain ⟨e6, e115, -⟩ := hs
                  have g6 := Reg.ev (v := .pointer (some ⟨W2.heap.size, 0, none⟩)) e6
                  have g115 := Reg.ev (v := .bool false) e115
                  obtain ⟨l0, l1⟩ := str2 (HS0_14.out.next hx)
                  exact Reg.obl_want rfl rfl e115 (Reg.wp_eqv (Option.some_ne_none _) (by go_simp) rfl)
                · intro ax wx hx hs
                  obtain ⟨e118, e115, -⟩ := hs
                  have g118 := Reg.ev (v := .agg #[.slice A7 n7 c7, .int .i64 nxv]) e118
                  have g115 := Reg.ev (v := .bool false) e115
                  refine Reg.obl_want rfl rfl e115 ?_
                  have hx' : Below W14.heap.size W14 wx := hx
                  go_simp
                  refine (RefTxn.live_any _ (HE14.out.next hx') (by have := HI2.out.len; have := HE14.out.len; omega)).mono ?_
                  rintro e wy ⟨A8, n8, c8, rfl, hy8, hby⟩
                  exact Reg.done (Option.some_ne_none _) ⟨A8, n8, c8, rfl, hy8⟩ hby
                · intro ax wx hx hs
                  obtain ⟨e117, e119, e115, -⟩ := hs
                  have g115 := Reg.ev (v := .bool false) e115
                  refine Reg.obl_want rfl rfl e115 ?_
                  have hx' : Below W14.heap.size W14 wx := hx
                  obtain ⟨A8, n8, c8, e117, hy8⟩ := e117
                  obtain ⟨A9, n9, c9, e119, hy9⟩ := e119
                  have g117 := Reg.ev e117
                  have g119 := Reg.ev e119
                  go_simp
                  refine (RefTxn.sameList_any _ hy8 hy9).mono ?_
                  rw [decide_eq_true rfl]
                  rintro e wy ⟨rfl, hby⟩
                  exact Reg.done (Option.some_ne_none _) rfl hby
                · intro ax wx hx hs
                  obtain ⟨e120, e115, -⟩ := hs
                  have g120 := Reg.ev (v := .bool true) e120
                  have g115 := Reg.ev (v := .bool false) e115
                  exact Reg.obl_want rfl rfl e115 (Reg.wp_eqv (Option.some_ne_none _) (by go_simp) rfl)
                · intro ax wx hx hs
                  obtain ⟨e115, e121, -⟩ := hs
                  have g115 := Reg.ev (v := .bool false) e115
                  have g121 := Reg.ev (v := .bool false) e121
                  exact Reg.obl_free rfl (Reg.wp_eqv (Option.some_ne_none _) (by go_simp) rfl)
              · intro W15 hwf
                simp only [Reg.Fin]
                rintro _ rfl _ rfl _ rfl _ rfl _ rfl _ rfl _ rfl _ rfl _ rfl _ rfl _ rfl _ rfl _ rfl _ rfl _ rfl _ rfl _ rfl v117 h117 _ rfl v119 h119 _ rfl _ rfl _ rfl
                go_simp
                have hwf' : Below W14.heap.size W14 W15 := hwf
                clear hwf
                have HS0_15 := Lib.hid (HS0_14.out.next hwf')
                have HS1_15 := Lib.hid (HS1_14.out.next hwf')
                have HS2_15 := Lib.hid (HS2_14.out.next hwf')
                have HB_15 := Lib.hid (bstep HB_14.out hwf')
                have HTt_15 := Lib.hid (HTt_14.out.below hwf')
                clear HTt_14 htlt htmt
                have htlt := HTt_15.out.lt
                have htmt := HTt_15.out.mlt
                have hw_15 := HB_15.out.size
                have hws_15 := (hwf').size
                clear f0_14 HS0_14 hf0_14 f1_14 HS1_14 f2_14 HS2_14
                have f0_15 := str2 HS0_15.out
                have hl0_15 := HS0_15.out.lt
                have hf0_15 := fun j => HS0_15.out.frozen j
                have f1_15 := str5 HS1_15.out
                have hl1_15 := HS1_15.out.lt
                have f2_15 := str2 HS2_15.out
                have hl2_15 := HS2_15.out.lt
                have HE15 := Lib.hid (HE14.out.next hwf')
                clear HE14 hwf'
                go_wp2_with fail
                have hln7 := HE15.out.len
                have hn7 : n7 ≤ 61 := by have := HI2.out.len; omega
                go_loopw [14] (fun jv wq => ∃ j : Nat, j ≤ n7 ∧ jv = .int .i64 (j : Int) ∧ Hid (Below W15.heap.size W15 wq)) (fun jv _ => n7 - (intOf jv).toNat)
                case atStart => exact ⟨0, Nat.zero_le _, rfl, Lib.hid (bsame W15)⟩
                case round =>
                  obtain ⟨j, hj, rfl, HG⟩ := hrel
                  have hgz := HG.out.size
                  have HBq := Lib.hid (bstep HB_15.out HG.out)
                  have HSq := Lib.hid (HS0_15.out.next HG.out)
                  have HTq := Lib.hid (HTt_15.out.below HG.out)
                  have HEq := Lib.hid (HE15.out.next HG.out)
                  have fq := str2 HSq.out
                  have hlq := HSq.out.lt
                  clear f0_15 f1_15 f2_15
                  by_cases hjl : j < n7
                  · have hdj : decide ((j : Int) < (n7 : Int)) = true := by simpa using hjl
                    obtain ⟨bb, oo, x, rfl, hbb, hx7, y0, y1, y2, y3⟩ := txn_at HEq.out hjl
                    have HGX : Hid (TxnP.get L2 x.id = x) := Lib.hid (TxnP.get_of HI2.out.rises (List.mem_of_getElem? hx7))
                    have HHX : Hid (TxnP.has L2 x.id = true) := Lib.hid (TxnP.has_iff.2 ⟨x, List.mem_of_getElem? hx7, rfl⟩)
                    have HIX := Lib.hid (TxnP.invS_in HI2.out (by omega) (List.mem_of_getElem? hx7))
                    clear hx7
                    go_wp2_with fail
                    refine (get_any x.id _ HTq.out HIX.out).mono ?_
                    rintro e W17 ⟨rfl, hb17⟩
                    rw [HGX.out, HHX.out]
                    have z0 := (hb17.cell (p := ⟨bb, oo + j * 4, none⟩) hbb).trans y0
                    have z1 := (hb17.cell (p := ⟨bb, oo + j * 4 + 1, none⟩) hbb).trans y1
                    have z2 := (hb17.cell (p := ⟨bb, oo + j * 4 + 2, none⟩) hbb).trans y2
                    have z3 := (hb17.cell (p := ⟨bb, oo + j * 4 + 3, none⟩) hbb).trans y3
                    have fr := str2 (HSq.out.next hb17)
                    have hlr := (HSq.out.next hb17).lt
                    have hbbr : bb < W17.heap.size := by have := hb17.size; omega
                    have HB17 := Lib.hid (bstep HG.out hb17)
                    clear y0 y1 y2 y3 hb17 fq hlq
                    go_wp2_with (first | go_quiet (fail) | go_in)
                    go_wp2
                    go_roundw
                    case rel => exact ⟨j + 1, by omega, by go_num, Lib.hid (drewN_below (balloc HB17.out _) _)⟩
                    case measure => simp [intOf]; omega
                  · have hdj : decide ((j : Int) < (n7 : Int)) = false := by simp; omega
                    go_wp2_with fail
                    refine (TxnW.oldest_any _ HTq.out HI2.out.rises).mono ?_
                    rintro e W17 ⟨v1, b1, rfl, hO1, hb17⟩
                    have HB17 := Lib.hid (bstep HG.out hb17)
                    have fr := str2 (HSq.out.next hb17)
                    have hlr := (HSq.out.next hb17).lt
                    have HE17 := Lib.hid (HEq.out.next hb17)
                    have HT17 := Lib.hid (HTq.out.below hb17)
                    have HS17 := Lib.hid (HSq.out.next hb17)
                    have HW17 := Lib.hid (bstep HBq.out hb17)
                    clear hb17 fq hlq
                    go_wp2_with fail
                    refine (RefTxn.oldest_any _ HE17.out).mono ?_
                    rintro e W18 ⟨v2, b2, rfl, hO2, hb18⟩
                    obtain ⟨rfl, rfl⟩ := TxnP.old_uniq hO1 hO2
                    have HT18 := Lib.hid (HT17.out.below hb18)
                    have HS18 := Lib.hid (HS17.out.next hb18)
                    have HE18 := Lib.hid (HE17.out.next hb18)
                    have HW18 := Lib.hid (bstep HW17.out hb18)
                    clear hb18 hO1 hO2 fr hlr
                    go_wp2
                    go_roundw
                    case rel => exact ⟨k + 1, m + 1, L2, nxv, _, n7, c7, by omega, by go_num, Lib.hid ⟨HT18.out, by omega, HS18.out, HE18.out, HI2.out, HW18.out⟩⟩
                    case measure => simp [intOf]; omega
            · as_aux_lemma =>
              refine (RefTxn.go_end_any first last kk id _ HE10.out hn6 hlo hxh HI.out.rises).mono ?_
              rintro e W11 ⟨A7, n7, c7, rfl, hE7, hb11⟩
              have HS0_11 := Lib.hid (HS0_10.out.next hb11)
              have HS1_11 := Lib.hid (HS1_10.out.next hb11)
              have HB_11 := Lib.hid (bstep HB_10.out hb11)
              have HTt_11 := Lib.hid (HTt_10.out.below hb11)
              clear HTt_10 htlt htmt
              have htlt := HTt_11.out.lt
              have htmt := HTt_11.out.mlt
              have hw_11 := HB_11.out.size
              have hws_11 := (hb11).size
              clear f0_10 HS0_10 hf0_10 f1_10 HS1_10
              clear hb11
              have f0_11 := str2 HS0_11.out
              have hl0_11 := HS0_11.out.lt
              have hf0_11 := fun j => HS0_11.out.frozen j
              have f1_11 := str5 HS1_11.out
              have hl1_11 := HS1_11.out.lt
              have HE11 := Lib.hid hE7
              have HI2 : Hid (TxnP.InvS (TxnP.del L id) nxv (k + 1)) := Lib.hid (TxnP.invS_del HI.out)
              clear hE7 HE10
              obtain ⟨L2, hL2⟩ : ∃ x, (TxnP.del L id) = x := ⟨_, rfl⟩
              rw [hL2] at HE11 HI2
              go_wp2_with fail
              generalize hW12 : ((W11).setCell ⟨W2.heap.size, 0, none⟩ (.slice A7 n7 c7)).setCell ⟨W2.heap.size, 1, none⟩ (.int .i64 nxv) = W12
              have HS0_12 : Hid (Str W12 (W2.heap.size) #[.slice A7 n7 c7, .int .i64 nxv]) := Lib.hid (by rw [← hW12]; have := ((HS0_11.out).set 0 (.slice A7 n7 c7)).set 1 (.int .i64 nxv); simpa using this)
              have hgr12 : W11.grownBy W12 (some (W2.heap.size)) := by rw [← hW12]; exact grown_set (grown_set (grown_refl W11 (W2.heap.size)) 0 (_)) 1 (_)
              have HS1_12 := Lib.hid (HS1_11.out.grown hgr12 (by omega))
              have HB_12 := Lib.hid (below_grown HB_11.out hgr12 (by omega))
              have HTt_12 := Lib.hid (HTt_11.out.grown hgr12 (by omega) (by omega))
              clear HTt_11 htlt htmt
              have htlt := HTt_12.out.lt
              have htmt := HTt_12.out.mlt
              have hw_12 := HB_12.out.size
              have hws_12 := hgr12.size
              have HE12 : Hid (Elems TxnE W12 W12.heap.size A7 n7 c7 L2) := Lib.hid (TxnE.grownS HE11.out hgr12 HS0_11.out (by simp))
              clear hW12
              clear f0_11 HS0_11 hf0_11 f1_11 HS1_11
              clear hgr12
              have f0_12 := str2 HS0_12.out
              have hl0_12 := HS0_12.out.lt
              have hf0_12 := fun j => HS0_12.out.frozen j
              have f1_12 := str5 HS1_12.out
              have hl1_12 := HS1_12.out.lt
              generalize hW13 : W12.alloc (.cells #[.slice A7 n7 c7, .int .i64 nxv] 28) = W13
              have HS0_13 := sEq hW13 (HS0_12.out.alloc _)
              have HS1_13 := sEq hW13 (HS1_12.out.alloc _)
              have HS2_13 := sEq hW13 (Str.new _ _ _)
              have hba13 : Below W12.heap.size W12 W13 := by rw [← hW13]; exact balloc (bsame _) _
              have HB_13 := Lib.hid (bstep HB_12.out hba13)
              have HTt_13 := Lib.hid (HTt_12.out.below hba13)
              clear HTt_12 htlt htmt
              have htlt := HTt_13.out.lt
              have htmt := HTt_13.out.mlt
              have hw_13 := HB_13.out.size
              have hws_13 := hba13.size
              clear hW13
              clear f0_12 HS0_12 hf0_12 f1_12 HS1_12
              have f0_13 := str2 HS0_13.out
              have hl0_13 := HS0_13.out.lt
              have hf0_13 := fun j => HS0_13.out.frozen j
              have f1_13 := str5 HS1_13.out
              have hl1_13 := HS1_13.out.lt
              have f2_13 := str2 HS2_13.out
              have hl2_13 := HS2_13.out.lt
              have HE13 := Lib.hid (HE12.out.next hba13)
              refine (end_any id _ HTt_13.out HID.out).mono ?_
              rintro e W14 ⟨rfl, ht14, hk14⟩
              have HE14 := Lib.hid (TxnE.nextK HE13.out hk14 HTt_13.out)
              rw [hL2] at ht14
              have HS0_14 := Lib.hid (HS0_13.out.keepB hk14 (by simp only [List.mem_cons, List.not_mem_nil, or_false, not_or]; omega))
              have HS1_14 := Lib.hid (HS1_13.out.keepB hk14 (by simp only [List.mem_cons, List.not_mem_nil, or_false, not_or]; omega))
              have HS2_14 := Lib.hid (HS2_13.out.keepB hk14 (by simp only [List.mem_cons, List.not_mem_nil, or_false, not_or]; omega))
              have HB_14 := Lib.hid (HB_13.out.trans (hk14.below (M := w.heap.size) (by omega) (by intro b hb; simp only [List.mem_cons, List.not_mem_nil, or_false] at hb; rcases hb with rfl | rfl <;> omega)))
              have hw_14 := HB_14.out.size
              have hws_14 := hk14.size
              clear HTt_13 htlt htmt
              have HTt_14 := Lib.hid ht14
              have htlt := HTt_14.out.lt
              have htmt := HTt_14.out.mlt
              clear f0_13 HS0_13 hf0_13 f1_13 HS1_13 f2_13 HS2_13
              clear ht14 hk14
              have f0_14 := str2 HS0_14.out
              have hl0_14 := HS0_14.out.lt
              have hf0_14 := fun j => HS0_14.out.frozen j
              have f1_14 := str5 HS1_14.out
              have hl1_14 := HS1_14.out.lt
              have f2_14 := str2 HS2_14.out
              have hl2_14 := HS2_14.out.lt
              clear HE11 HE12 HE13 hL2
              go_wp2_with fail
              refine Reg.wp_region_vals (R := ext) (W := W14) [Reg.eqv (.int .i64 0), Reg.eqv (.int .i64 0), Reg.eqv (.bool false), Reg.eqv (.bool false), Reg.eqv (.bool (TxnP.has L id)), Reg.eqv (.bool (TxnP.has L id)), Reg.eqv (.bool false), Reg.eqv (.bool false), Reg.eqv (.bool false), Reg.eqv (.pointer (some ⟨tb, 0, none⟩)), Reg.eqv (.int .i64 nxv), Reg.eqv (.pointer (some ⟨W2.heap.size, 1, none⟩)), Reg.eqv (.int .i64 nxv), Reg.eqv (.bool false), Reg.eqv (.bool false), Reg.eqv (.bool false), Reg.eqv (.pointer (some ⟨tb, 0, none⟩)), Reg.intS (TxnP.ids L2), Reg.eqv (.agg #[.slice A7 n7 c7, .int .i64 nxv]), Reg.intS (TxnP.ids L2), Reg.eqv (.bool true), Reg.eqv (.bool false), Reg.eqv (.bool false)] 171 [[(12, none)], [(10, none)], [(100, some 0), (101, some 1)], [(102, some 2)], [(13, none), (103, some 3)], [(11, none), (103, some 3)], [(104, some 4), (105, some 5), (103, some 3)], [(103, some 3), (106, some 6)], [(107, some 7)], [(5, none), (108, some 8)], [(109, some 9), (108, some 8)], [(6, none), (108, some 8)], [(111, some 11), (108, some 8)], [(110, some 10), (112, some 12), (108, some 8)], [(108, some 8), (113, some 13)], [(114, some 14)], [(5, none), (115, some 15)], [(116, some 16), (115, some 15)], [(6, none), (115, some 15)], [(118, some 18), (115, some 15)], [(117, some 17), (119, some 19), (115, some 15)], [(120, some 20), (115, some 15)], [(115, some 15), (121, some 21)]] rfl (by kernel_rfl) (by kernel_rfl) (by kernel_rfl) ?_ [some 100, some 101, some 102, some 103, some 104, some 105, some 106, some 107, some 108, some 109, some 110, some 111, some 112, some 113, some 114, some 115, some 116, some 117, some 118, some 119, some 120, some 121, some 122] (by kernel_rfl) ?_
              · refine ⟨?_, ?_, ?_, ?_, ?_, ?_, ?_, ?_, ?_, ?_, ?_, ?_, ?_, ?_, ?_, ?_, ?_, ?_, ?_, ?_, ?_, ?_, ?_, trivial⟩
                · intro ax wx hx hs
                  obtain ⟨e12, -⟩ := hs
                  have g12 := Reg.ev (v := .int .i64 0) e12
                  exact Reg.obl_free rfl (Reg.wp_eqv (Option.some_ne_none _) (by go_simp) rfl)
                · intro ax wx hx hs
                  obtain ⟨e10, -⟩ := hs
                  have g10 := Reg.ev (v := .int .i64 0) e10
                  exact Reg.obl_free rfl (Reg.wp_eqv (Option.some_ne_none _) (by go_simp) rfl)
                · intro ax wx hx hs
                  obtain ⟨e100, e101, -⟩ := hs
                  have g100 := Reg.ev (v := .int .i64 0) e100
                  have g101 := Reg.ev (v := .int .i64 0) e101
                  exact Reg.obl_free rfl (Reg.wp_eqv (Option.some_ne_none _) (by go_simp) rfl)
                · intro ax wx hx hs
                  obtain ⟨e102, -⟩ := hs
                  have g102 := Reg.ev (v := .bool false) e102
                  exact Reg.obl_free rfl (Reg.wp_eqv (Option.some_ne_none _) (by go_simp) rfl)
                · intro ax wx hx hs
                  obtain ⟨e13, e103, -⟩ := hs
                  have g13 := Reg.ev (v := .bool (TxnP.has L id)) e13
                  have g103 := Reg.ev (v := .bool false) e103
                  exact Reg.obl_want rfl rfl e103 (Reg.wp_eqv (Option.some_ne_none _) (by go_simp) rfl)
                · intro ax wx hx hs
                  obtain ⟨e11, e103, -⟩ := hs
                  have g11 := Reg.ev (v := .bool (TxnP.has L id)) e11
                  have g103 := Reg.ev (v := .bool false) e103
                  exact Reg.obl_want rfl rfl e103 (Reg.wp_eqv (Option.some_ne_none _) (by go_simp) rfl)
                · intro ax wx hx hs
                  obtain ⟨e104, e105, e103, -⟩ := hs
                  have g104 := Reg.ev (v := .bool (TxnP.has L id)) e104
                  have g105 := Reg.ev (v := .bool (TxnP.has L id)) e105
                  have g103 := Reg.ev (v := .bool false) e103
                  exact Reg.obl_want rfl rfl e103 (Reg.wp_eqv (Option.some_ne_none _) (by go_simp) rfl)
                · intro ax wx hx hs
                  obtain ⟨e103, e106, -⟩ := hs
                  have g103 := Reg.ev (v := .bool false) e103
                  have g106 := Reg.ev (v := .bool false) e106
                  exact Reg.obl_free rfl (Reg.wp_eqv (Option.some_ne_none _) (by go_simp) rfl)
                · intro ax wx hx hs
                  obtain ⟨e107, -⟩ := hs
                  have g107 := Reg.ev (v := .bool false) e107
                  exact Reg.obl_free rfl (Reg.wp_eqv (Option.some_ne_none _) (by go_simp) rfl)
                · intro ax wx hx hs
                  obtain ⟨e5, e108, -⟩ := hs
                  have g5 := Reg.ev (v := .pointer (some ⟨tb, 0, none⟩)) e5
                  have g108 := Reg.ev (v := .bool false) e108
                  exact Reg.obl_want rfl rfl e108 (Reg.wp_eqv (Option.some_ne_none _) (by go_simp) rfl)
                · intro ax wx hx hs
                  obtain ⟨e109, e108, -⟩ := hs
                  have g109 := Reg.ev (v := .pointer (some ⟨tb, 0, none⟩)) e109
                  have g108 := Reg.ev (v := .bool false) e108
                  refine Reg.obl_want rfl rfl e108 ?_
                  have hx' : Below W14.heap.size W14 wx := hx
                  go_simp
                  refine (next_any _ (HTt_14.out.below hx')).mono ?_
                  rintro e wy ⟨rfl, rfl⟩
                  exact Reg.done (Option.some_ne_none _) rfl (bsame _)
                · intro ax wx hx hs
                  obtain ⟨e6, e108, -⟩ := hs
                  have g6 := Reg.ev (v := .pointer (some ⟨W2.heap.size, 0, none⟩)) e6
                  have g108 := Reg.ev (v := .bool false) e108
                  exact Reg.obl_want rfl rfl e108 (Reg.wp_eqv (Option.some_ne_none _) (by go_simp) rfl)
                · intro ax wx hx hs
                  obtain ⟨e111, e108, -⟩ := hs
                  have g111 := Reg.ev (v := .pointer (some ⟨W2.heap.size, 1, none⟩)) e111
                  have g108 := Reg.ev (v := .bool false) e108
                  obtain ⟨l0, l1⟩ := str2 (HS0_14.out.next hx)
                  exact Reg.obl_want rfl rfl e108 (Reg.wp_eqv (Option.some_ne_none _) (by go_simp) rfl)
                · intro ax wx hx hs
                  obtain ⟨e110, e112, e108, -⟩ := hs
                  have g110 := Reg.ev (v := .int .i64 nxv) e110
                  have g112 := Reg.ev (v := .int .i64 nxv) e112
                  have g108 := Reg.ev (v := .bool false) e108
                  exact Reg.obl_want rfl rfl e108 (Reg.wp_eqv (Option.some_ne_none _) (by go_simp) rfl)
                · intro ax wx hx hs
                  obtain ⟨e108, e113, -⟩ := hs
                  have g108 := Reg.ev (v := .bool false) e108
                  have g113 := Reg.ev (v := .bool false) e113
                  exact Reg.obl_free rfl (Reg.wp_eqv (Option.some_ne_none _) (by go_simp) rfl)
                · intro ax wx hx hs
                  obtain ⟨e114, -⟩ := hs
                  have g114 := Reg.ev (v := .bool false) e114
                  exact Reg.obl_free rfl (Reg.wp_eqv (Option.some_ne_none _) (by go_simp) rfl)
                · intro ax wx hx hs
                  obtain ⟨e5, e115, -⟩ := hs
                  have g5 := Reg.ev (v := .pointer (some ⟨tb, 0, none⟩)) e5
                  have g115 := Reg.ev (v := .bool false) e115
                  exact Reg.obl_want rfl rfl e115 (Reg.wp_eqv (Option.some_ne_none _) (by go_simp) rfl)
                · intro ax wx hx hs
                  obtain ⟨e116, e115, -⟩ := hs
                  have g116 := Reg.ev (v := .pointer (some ⟨tb, 0, none⟩)) e116
                  have g115 := Reg.ev (v := .bool false) e115
                  refine Reg.obl_want rfl rfl e115 ?_
                  have hx' : Below W14.heap.size W14 wx := hx
                  go_simp
                  refine (TxnW.live_any _ (HTt_14.out.below hx') HI2.out.rises (by have := HI2.out.len; omega)).mono ?_
                  rintro e wy ⟨A8, n8, c8, rfl, hy8, hby⟩
                  exact Reg.done (Option.some_ne_none _) ⟨A8, n8, c8, rfl, hy8⟩ hby
                · intro ax wx hx hs
                  obtain ⟨e6, e115, -⟩ := hs
                  have g6 := Reg.ev (v := .pointer (some ⟨W2.heap.size, 0, none⟩)) e6
                  have g115 := Reg.ev (v := .bool false) e115
                  obtain ⟨l0, l1⟩ := str2 (HS0_14.out.next hx)
                  exact Reg.obl_want rfl rfl e115 (Reg.wp_eqv (Option.some_ne_none _) (by go_simp) rfl)
                · intro ax wx hx hs
                  obtain ⟨e118, e115, -⟩ := hs
                  have g118 := Reg.ev (v := .agg #[.slice A7 n7 c7, .int .i64 nxv]) e118
                  have g115 := Reg.ev (v := .bool false) e115
                  refine Reg.obl_want rfl rfl e115 ?_
                  have hx' : Below W14.heap.size W14 wx := hx
                  go_simp
                  refine (RefTxn.live_any _ (HE14.out.next hx') (by have := HI2.out.len; have := HE14.out.len; omega)).mono ?_
                  rintro e wy ⟨A8, n8, c8, rfl, hy8, hby⟩
                  exact Reg.done (Option.some_ne_none _) ⟨A8, n8, c8, rfl, hy8⟩ hby
                · intro ax wx hx hs
                  obtain ⟨e117, e119, e115, -⟩ := hs
                  have g115 := Reg.ev (v := .bool false) e115
                  refine Reg.obl_want rfl rfl e115 ?_
                  have hx' : Below W14.heap.size W14 wx := hx
                  obtain ⟨A8, n8, c8, e117, hy8⟩ := e117
                  obtain ⟨A9, n9, c9, e119, hy9⟩ := e119
                  have g117 := Reg.ev e117
                  have g119 := Reg.ev e119
                  go_simp
                  refine (RefTxn.sameList_any _ hy8 hy9).mono ?_
                  rw [decide_eq_true rfl]
                  rintro e wy ⟨rfl, hby⟩
                  exact Reg.done (Option.some_ne_none _) rfl hby
                · intro ax wx hx hs
                  obtain ⟨e120, e115, -⟩ := hs
                  have g120 := Reg.ev (v := .bool true) e120
                  have g115 := Reg.ev (v := .bool false) e115
                  exact Reg.obl_want rfl rfl e115 (Reg.wp_eqv (Option.some_ne_none _) (by go_simp) rfl)
                · intro ax wx hx hs
                  obtain ⟨e115, e121, -⟩ := hs
                  have g115 := Reg.ev (v := .bool false) e115
                  have g121 := Reg.ev (v := .bool false) e121
                  exact Reg.obl_free rfl (Reg.wp_eqv (Option.some_ne_none _) (by go_simp) rfl)
              · intro W15 hwf
                simp only [Reg.Fin]
                rintro _ rfl _ rfl _ rfl _ rfl _ rfl _ rfl _ rfl _ rfl _ rfl _ rfl _ rfl _ rfl _ rfl _ rfl _ rfl _ rfl _ rfl v117 h117 _ rfl v119 h119 _ rfl _ rfl _ rfl
                go_simp
                have hwf' : Below W14.heap.size W14 W15 := hwf
                clear hwf
                have HS0_15 := Lib.hid (HS0_14.out.next hwf')
                have HS1_15 := Lib.hid (HS1_14.out.next hwf')
                have HS2_15 := Lib.hid (HS2_14.out.next hwf')
                have HB_15 := Lib.hid (bstep HB_14.out hwf')
                have HTt_15 := Lib.hid (HTt_14.out.below hwf')
                clear HTt_14 htlt htmt
                have htlt := HTt_15.out.lt
                have htmt := HTt_15.out.mlt
                have hw_15 := HB_15.out.size
                have hws_15 := (hwf').size
                clear f0_14 HS0_14 hf0_14 f1_14 HS1_14 f2_14 HS2_14
                have f0_15 := str2 HS0_15.out
                have hl0_15 := HS0_15.out.lt
                have hf0_15 := fun j => HS0_15.out.frozen j
                have f1_15 := str5 HS1_15.out
                have hl1_15 := HS1_15.out.lt
                have f2_15 := str2 HS2_15.out
                have hl2_15 := HS2_15.out.lt
                have HE15 := Lib.hid (HE14.out.next hwf')
                clear HE14 hwf'
                go_wp2_with fail
                have hln7 := HE15.out.len
                have hn7 : n7 ≤ 61 := by have := HI2.out.len; omega
                go_loopw [14] (fun jv wq => ∃ j : Nat, j ≤ n7 ∧ jv = .int .i64 (j : Int) ∧ Hid (Below W15.heap.size W15 wq)) (fun jv _ => n7 - (intOf jv).toNat)
                case atStart => exact ⟨0, Nat.zero_le _, rfl, Lib.hid (bsame W15)⟩
                case round =>
                  obtain ⟨j, hj, rfl, HG⟩ := hrel
                  have hgz := HG.out.size
                  have HBq := Lib.hid (bstep HB_15.out HG.out)
                  have HSq := Lib.hid (HS0_15.out.next HG.out)
                  have HTq := Lib.hid (HTt_15.out.below HG.out)
                  have HEq := Lib.hid (HE15.out.next HG.out)
                  have fq := str2 HSq.out
                  have hlq := HSq.out.lt
                  clear f0_15 f1_15 f2_15
                  by_cases hjl : j < n7
                  · have hdj : decide ((j : Int) < (n7 : Int)) = true := by simpa using hjl
                    obtain ⟨bb, oo, x, rfl, hbb, hx7, y0, y1, y2, y3⟩ := txn_at HEq.out hjl
                    have HGX : Hid (TxnP.get L2 x.id = x) := Lib.hid (TxnP.get_of HI2.out.rises (List.mem_of_getElem? hx7))
                    have HHX : Hid (TxnP.has L2 x.id = true) := Lib.hid (TxnP.has_iff.2 ⟨x, List.mem_of_getElem? hx7, rfl⟩)
                    have HIX := Lib.hid (TxnP.invS_in HI2.out (by omega) (List.mem_of_getElem? hx7))
                    clear hx7
                    go_wp2_with fail
                    refine (get_any x.id _ HTq.out HIX.out).mono ?_
                    rintro e W17 ⟨rfl, hb17⟩
                    rw [HGX.out, HHX.out]
                    have z0 := (hb17.cell (p := ⟨bb, oo + j * 4, none⟩) hbb).trans y0
                    have z1 := (hb17.cell (p := ⟨bb, oo + j * 4 + 1, none⟩) hbb).trans y1
                    have z2 := (hb17.cell (p := ⟨bb, oo + j * 4 + 2, none⟩) hbb).trans y2
                    have z3 := (hb17.cell (p := ⟨bb, oo + j * 4 + 3, none⟩) hbb).trans y3
                    have fr := str2 (HSq.out.next hb17)
                    have hlr := (HSq.out.next hb17).lt
                    have hbbr : bb < W17.heap.size := by have := hb17.size; omega
                    have HB17 := Lib.hid (bstep HG.out hb17)
                    clear y0 y1 y2 y3 hb17 fq hlq
                    go_wp2_with (first | go_quiet (fail) | go_in)
                    go_wp2
                    go_roundw
                    case rel => exact ⟨j + 1, by omega, by go_num, Lib.hid (drewN_below (balloc HB17.out _) _)⟩
                    case measure => simp [intOf]; omega
                  · have hdj : decide ((j : Int) < (n7 : Int)) = false := by simp; omega
                    go_wp2_with fail
                    refine (TxnW.oldest_any _ HTq.out HI2.out.rises).mono ?_
                    rintro e W17 ⟨v1, b1, rfl, hO1, hb17⟩
                    have HB17 := Lib.hid (bstep HG.out hb17)
                    have fr := str2 (HSq.out.next hb17)
                    have hlr := (HSq.out.next hb17).lt
                    have HE17 := Lib.hid (HEq.out.next hb17)
                    have HT17 := Lib.hid (HTq.out.below hb17)
                    have HS17 := Lib.hid (HSq.out.next hb17)
                    have HW17 := Lib.hid (bstep HBq.out hb17)
                    clear hb17 fq hlq
                    go_wp2_with fail
                    refine (RefTxn.oldest_any _ HE17.out).mono ?_
                    rintro e W18 ⟨v2, b2, rfl, hO2, hb18⟩
                    obtain ⟨rfl, rfl⟩ := TxnP.old_uniq hO1 hO2
                    have HT18 := Lib.hid (HT17.out.below hb18)
                    have HS18 := Lib.hid (HS17.out.next hb18)
                    have HE18 := Lib.hid (HE17.out.next hb18)
                    have HW18 := Lib.hid (bstep HW17.out hb18)
                    clear hb18 hO1 hO2 fr hlr
                    go_wp2
                    go_roundw
                    case rel => exact ⟨k + 1, m + 1, L2, nxv, _, n7, c7, by omega, by go_num, Lib.hid ⟨(HT18.out.mono (Nat.le_succ _)), by omega, HS18.out, HE18.out, HI2.out, HW18.out⟩⟩
                    case measure => simp [intOf]; omega
            · as_aux_lemma =>
              refine (RefTxn.go_put_any first last kk id _ HE10.out hn6 hlo hxh).mono ?_
              rintro e W11 ⟨A7, n7, c7, rfl, hE7, hb11⟩
              have HS0_11 := Lib.hid (HS0_10.out.next hb11)
              have HS1_11 := Lib.hid (HS1_10.out.next hb11)
              have HB_11 := Lib.hid (bstep HB_10.out hb11)
              have HTt_11 := Lib.hid (HTt_10.out.below hb11)
              clear HTt_10 htlt htmt
              have htlt := HTt_11.out.lt
              have htmt := HTt_11.out.mlt
              have hw_11 := HB_11.out.size
              have hws_11 := (hb11).size
              clear f0_10 HS0_10 hf0_10 f1_10 HS1_10
              clear hb11
              have f0_11 := str2 HS0_11.out
              have hl0_11 := HS0_11.out.lt
              have hf0_11 := fun j => HS0_11.out.frozen j
              have f1_11 := str5 HS1_11.out
              have hl1_11 := HS1_11.out.lt
              have HE11 := Lib.hid hE7
              have HI2 : Hid (TxnP.InvS (if mayPut L nxv id = true then TxnP.put L ⟨id, first, last, kk⟩ else L) nxv (k + 1)) := Lib.hid (TxnP.invS_add HI.out HKK)
              clear hE7 HE10
              obtain ⟨L2, hL2⟩ : ∃ x, (if mayPut L nxv id = true then TxnP.put L ⟨id, first, last, kk⟩ else L) = x := ⟨_, rfl⟩
              rw [hL2] at HE11 HI2
              go_wp2_with fail
              generalize hW12 : ((W11).setCell ⟨W2.heap.size, 0, none⟩ (.slice A7 n7 c7)).setCell ⟨W2.heap.size, 1, none⟩ (.int .i64 nxv) = W12
              have HS0_12 : Hid (Str W12 (W2.heap.size) #[.slice A7 n7 c7, .int .i64 nxv]) := Lib.hid (by rw [← hW12]; have := ((HS0_11.out).set 0 (.slice A7 n7 c7)).set 1 (.int .i64 nxv); simpa using this)
              have hgr12 : W11.grownBy W12 (some (W2.heap.size)) := by rw [← hW12]; exact grown_set (grown_set (grown_refl W11 (W2.heap.size)) 0 (_)) 1 (_)
              have HS1_12 := Lib.hid (HS1_11.out.grown hgr12 (by omega))
              have HB_12 := Lib.hid (below_grown HB_11.out hgr12 (by omega))
              have HTt_12 := Lib.hid (HTt_11.out.grown hgr12 (by omega) (by omega))
              clear HTt_11 htlt htmt
              have htlt := HTt_12.out.lt
              have htmt := HTt_12.out.mlt
              have hw_12 := HB_12.out.size
              have hws_12 := hgr12.size
              have HE12 : Hid (Elems TxnE W12 W12.heap.size A7 n7 c7 L2) := Lib.hid (TxnE.grownS HE11.out hgr12 HS0_11.out (by simp))
              clear hW12
              clear f0_11 HS0_11 hf0_11 f1_11 HS1_11
              clear hgr12
              have f0_12 := str2 HS0_12.out
              have hl0_12 := HS0_12.out.lt
              have hf0_12 := fun j => HS0_12.out.frozen j
              have f1_12 := str5 HS1_12.out
              have hl1_12 := HS1_12.out.lt
              generalize hW13 : W12.alloc (.cells #[.slice A7 n7 c7, .int .i64 nxv] 28) = W13
              have HS0_13 := sEq hW13 (HS0_12.out.alloc _)
              have HS1_13 := sEq hW13 (HS1_12.out.alloc _)
              have HS2_13 := sEq hW13 (Str.new _ _ _)
              have hba13 : Below W12.heap.size W12 W13 := by rw [← hW13]; exact balloc (bsame _) _
              have HB_13 := Lib.hid (bstep HB_12.out hba13)
              have HTt_13 := Lib.hid (HTt_12.out.below hba13)
              clear HTt_12 htlt htmt
              have htlt := HTt_13.out.lt
              have htmt := HTt_13.out.mlt
              have hw_13 := HB_13.out.size
              have hws_13 := hba13.size
              clear hW13
              clear f0_12 HS0_12 hf0_12 f1_12 HS1_12
              have f0_13 := str2 HS0_13.out
              have hl0_13 := HS0_13.out.lt
              have hf0_13 := fun j => HS0_13.out.frozen j
              have f1_13 := str5 HS1_13.out
              have hl1_13 := HS1_13.out.lt
              have f2_13 := str2 HS2_13.out
              have hl2_13 := HS2_13.out.lt
              have HE13 := Lib.hid (HE12.out.next hba13)
              refine (put_any ⟨id, first, last, kk⟩ _ HTt_13.out (by unfold maxLen; omega) HID.out hlo hxh).mono ?_
              rintro e W14 ⟨rfl, ht14, hk14⟩
              have HE14 := Lib.hid (TxnE.nextK HE13.out hk14 HTt_13.out)
              rw [hL2] at ht14
              have HS0_14 := Lib.hid (HS0_13.out.keepB hk14 (by simp only [List.mem_cons, List.not_mem_nil, or_false, not_or]; omega))
              have HS1_14 := Lib.hid (HS1_13.out.keepB hk14 (by simp only [List.mem_cons, List.not_mem_nil, or_false, not_or]; omega))
              have HS2_14 := Lib.hid (HS2_13.out.keepB hk14 (by simp only [List.mem_cons, List.not_mem_nil, or_false, not_or]; omega))
              have HB_14 := Lib.hid (HB_13.out.trans (hk14.below (M := w.heap.size) (by omega) (by intro b hb; simp only [List.mem_cons, List.not_mem_nil, or_false] at hb; rcases hb with rfl | rfl <;> omega)))
              have hw_14 := HB_14.out.size
              have hws_14 := hk14.size
              clear HTt_13 htlt htmt
              have HTt_14 := Lib.hid ht14
              have htlt := HTt_14.out.lt
              have htmt := HTt_14.out.mlt
              clear f0_13 HS0_13 hf0_13 f1_13 HS1_13 f2_13 HS2_13
              clear ht14 hk14
              have f0_14 := str2 HS0_14.out
              have hl0_14 := HS0_14.out.lt
              have hf0_14 := fun j => HS0_14.out.frozen j
              have f1_14 := str5 HS1_14.out
              have hl1_14 := HS1_14.out.lt
              have f2_14 := str2 HS2_14.out
              have hl2_14 := HS2_14.out.lt
              clear HE11 HE12 HE13 hL2
              go_wp2_with fail
              refine Reg.wp_region_vals (R := ext) (W := W14) [Reg.eqv (.int .i64 0), Reg.eqv (.int .i64 0), Reg.eqv (.bool false), Reg.eqv (.bool false), Reg.eqv (.bool (mayPut L nxv id)), Reg.eqv (.bool (mayPut L nxv id)), Reg.eqv (.bool false), Reg.eqv (.bool false), Reg.eqv (.bool false), Reg.eqv (.pointer (some ⟨tb, 0, none⟩)), Reg.eqv (.int .i64 nxv), Reg.eqv (.pointer (some ⟨W2.heap.size, 1, none⟩)), Reg.eqv (.int .i64 nxv), Reg.eqv (.bool false), Reg.eqv (.bool false), Reg.eqv (.bool false), Reg.eqv (.pointer (some ⟨tb, 0, none⟩)), Reg.intS (TxnP.ids L2), Reg.eqv (.agg #[.slice A7 n7 c7, .int .i64 nxv]), Reg.intS (TxnP.ids L2), Reg.eqv (.bool true), Reg.eqv (.bool false), Reg.eqv (.bool false)] 171 [[(12, none)], [(10, none)], [(100, some 0), (101, some 1)], [(102, some 2)], [(13, none), (103, some 3)], [(11, none), (103, some 3)], [(104, some 4), (105, some 5), (103, some 3)], [(103, some 3), (106, some 6)], [(107, some 7)], [(5, none), (108, some 8)], [(109, some 9), (108, some 8)], [(6, none), (108, some 8)], [(111, some 11), (108, some 8)], [(110, some 10), (112, some 12), (108, some 8)], [(108, some 8), (113, some 13)], [(114, some 14)], [(5, none), (115, some 15)], [(116, some 16), (115, some 15)], [(6, none), (115, some 15)], [(118, some 18), (115, some 15)], [(117, some 17), (119, some 19), (115, some 15)], [(120, some 20), (115, some 15)], [(115, some 15), (121, some 21)]] rfl (by kernel_rfl) (by kernel_rfl) (by kernel_rfl) ?_ [some 100, some 101, some 102, some 103, some 104, some 105, some 106, some 107, some 108, some 109, some 110, some 111, some 112, some 113, some 114, some 115, some 116, some 117, some 118, some 119, some 120, some 121, some 122] (by kernel_rfl) ?_
              · refine ⟨?_, ?_, ?_, ?_, ?_, ?_, ?_, ?_, ?_, ?_, ?_, ?_, ?_, ?_, ?_, ?_, ?_, ?_, ?_, ?_, ?_, ?_, ?_, trivial⟩
                · intro ax wx hx hs
                  obtain ⟨e12, -⟩ := hs
                  have g12 := Reg.ev (v := .int .i64 0) e12
                  exact Reg.obl_free rfl (Reg.wp_eqv (Option.some_ne_none _) (by go_simp) rfl)
                · intro ax wx hx hs
                  obtain ⟨e10, -⟩ := hs
                  have g10 := Reg.ev (v := .int .i64 0) e10
                  exact Reg.obl_free rfl (Reg.wp_eqv (Option.some_ne_none _) (by go_simp) rfl)
                · intro ax wx hx hs
                  obtain ⟨e100, e101, -⟩ := hs
                  have g100 := Reg.ev (v := .int .i64 0) e100
                  have g101 := Reg.ev (v := .int .i64 0) e101
                  exact Reg.obl_free rfl (Reg.wp_eqv (Option.some_ne_none _) (by go_simp) rfl)
                · intro ax wx hx hs
                  obtain ⟨e102, -⟩ := hs
                  have g102 := Reg.ev (v := .bool false) e102
                  exact Reg.obl_free rfl (Reg.wp_eqv (Option.some_ne_none _) (by go_simp) rfl)
                · intro ax wx hx hs
                  obtain ⟨e13, e103, -⟩ := hs
                  have g13 := Reg.ev (v := .bool (mayPut L nxv id)) e13
                  have g103 := Reg.ev (v := .bool false) e103
                  exact Reg.obl_want rfl rfl e103 (Reg.wp_eqv (Option.some_ne_none _) (by go_simp) rfl)
                · intro ax wx hx hs
                  obtain ⟨e11, e103, -⟩ := hs
                  have g11 := Reg.ev (v := .bool (mayPut L nxv id)) e11
                  have g103 := Reg.ev (v := .bool false) e103
                  exact Reg.obl_want rfl rfl e103 (Reg.wp_eqv (Option.some_ne_none _) (by go_simp) rfl)
                · intro ax wx hx hs
                  obtain ⟨e104, e105, e103, -⟩ := hs
                  have g104 := Reg.ev (v := .bool (mayPut L nxv id)) e104
                  have g105 := Reg.ev (v := .bool (mayPut L nxv id)) e105
                  have g103 := Reg.ev (v := .bool false) e103
                  exact Reg.obl_want rfl rfl e103 (Reg.wp_eqv (Option.some_ne_none _) (by go_simp) rfl)
                · intro ax wx hx hs
                  obtain ⟨e103, e106, -⟩ := hs
                  have g103 := Reg.ev (v := .bool false) e103
                  have g106 := Reg.ev (v := .bool false) e106
                  exact Reg.obl_free rfl (Reg.wp_eqv (Option.some_ne_none _) (by go_simp) rfl)
                · intro ax wx hx hs
                  obtain ⟨e107, -⟩ := hs
                  have g107 := Reg.ev (v := .bool false) e107
                  exact Reg.obl_free rfl (Reg.wp_eqv (Option.some_ne_none _) (by go_simp) rfl)
                · intro ax wx hx hs
                  obtain ⟨e5, e108, -⟩ := hs
                  have g5 := Reg.ev (v := .pointer (some ⟨tb, 0, none⟩)) e5
                  have g108 := Reg.ev (v := .bool false) e108
                  exact Reg.obl_want rfl rfl e108 (Reg.wp_eqv (Option.some_ne_none _) (by go_simp) rfl)
                · intro ax wx hx hs
                  obtain ⟨e109, e108, -⟩ := hs
                  have g109 := Reg.ev (v := .pointer (some ⟨tb, 0, none⟩)) e109
                  have g108 := Reg.ev (v := .bool false) e108
                  refine Reg.obl_want rfl rfl e108 ?_
                  have hx' : Below W14.heap.size W14 wx := hx
                  go_simp
                  refine (next_any _ (HTt_14.out.below hx')).mono ?_
                  rintro e wy ⟨rfl, rfl⟩
                  exact Reg.done (Option.some_ne_none _) rfl (bsame _)
                · intro ax wx hx hs
                  obtain ⟨e6, e108, -⟩ := hs
                  have g6 := Reg.ev (v := .pointer (some ⟨W2.heap.size, 0, none⟩)) e6
                  have g108 := Reg.ev (v := .bool false) e108
                  exact Reg.obl_want rfl rfl e108 (Reg.wp_eqv (Option.some_ne_none _) (by go_simp) rfl)
                · intro ax wx hx hs
                  obtain ⟨e111, e108, -⟩ := hs
                  have g111 := Reg.ev (v := .pointer (some ⟨W2.heap.size, 1, none⟩)) e111
                  have g108 := Reg.ev (v := .bool false) e108
                  obtain ⟨l0, l1⟩ := str2 (HS0_14.out.next hx)
                  exact Reg.obl_want rfl rfl e108 (Reg.wp_eqv (Option.some_ne_none _) (by go_simp) rfl)
                · intro ax wx hx hs
                  obtain ⟨e110, e112, e108, -⟩ := hs
                  have g110 := Reg.ev (v := .int .i64 nxv) e110
                  have g112 := Reg.ev (v := .int .i64 nxv) e112
                  have g108 := Reg.ev (v := .bool false) e108
                  exact Reg.obl_want rfl rfl e108 (Reg.wp_eqv (Option.some_ne_none _) (by go_simp) rfl)
                · intro ax wx hx hs
                  obtain ⟨e108, e113, -⟩ := hs
                  have g108 := Reg.ev (v := .bool false) e108
                  have g113 := Reg.ev (v := .bool false) e113
                  exact Reg.obl_free rfl (Reg.wp_eqv (Option.some_ne_none _) (by go_simp) rfl)
                · intro ax wx hx hs
                  obtain ⟨e114, -⟩ := hs
                  have g114 := Reg.ev (v := .bool false) e114
                  exact Reg.obl_free rfl (Reg.wp_eqv (Option.some_ne_none _) (by go_simp) rfl)
                · intro ax wx hx hs
                  obtain ⟨e5, e115, -⟩ := hs
                  have g5 := Reg.ev (v := .pointer (some ⟨tb, 0, none⟩)) e5
                  have g115 := Reg.ev (v := .bool false) e115
                  exact Reg.obl_want rfl rfl e115 (Reg.wp_eqv (Option.some_ne_none _) (by go_simp) rfl)
                · intro ax wx hx hs
                  obtain ⟨e116, e115, -⟩ := hs
                  have g116 := Reg.ev (v := .pointer (some ⟨tb, 0, none⟩)) e116
                  have g115 := Reg.ev (v := .bool false) e115
                  refine Reg.obl_want rfl rfl e115 ?_
                  have hx' : Below W14.heap.size W14 wx := hx
                  go_simp
                  refine (TxnW.live_any _ (HTt_14.out.below hx') HI2.out.rises (by have := HI2.out.len; omega)).mono ?_
                  rintro e wy ⟨A8, n8, c8, rfl, hy8, hby⟩
                  exact Reg.done (Option.some_ne_none _) ⟨A8, n8, c8, rfl, hy8⟩ hby
                · intro ax wx hx hs
                  obtain ⟨e6, e115, -⟩ := hs
                  have g6 := Reg.ev (v := .pointer (some ⟨W2.heap.size, 0, none⟩)) e6
                  have g115 := Reg.ev (v := .bool false) e115
                  obtain ⟨l0, l1⟩ := str2 (HS0_14.out.next hx)
                  exact Reg.obl_want rfl rfl e115 (Reg.wp_eqv (Option.some_ne_none _) (by go_simp) rfl)
                · intro ax wx hx hs
                  obtain ⟨e118, e115, -⟩ := hs
                  have g118 := Reg.ev (v := .agg #[.slice A7 n7 c7, .int .i64 nxv]) e118
                  have g115 := Reg.ev (v := .bool false) e115
                  refine Reg.obl_want rfl rfl e115 ?_
                  have hx' : Below W14.heap.size W14 wx := hx
                  go_simp
                  refine (RefTxn.live_any _ (HE14.out.next hx') (by have := HI2.out.len; have := HE14.out.len; omega)).mono ?_
                  rintro e wy ⟨A8, n8, c8, rfl, hy8, hby⟩
                  exact Reg.done (Option.some_ne_none _) ⟨A8, n8, c8, rfl, hy8⟩ hby
                · intro ax wx hx hs
                  obtain ⟨e117, e119, e115, -⟩ := hs
                  have g115 := Reg.ev (v := .bool false) e115
                  refine Reg.obl_want rfl rfl e115 ?_
                  have hx' : Below W14.heap.size W14 wx := hx
                  obtain ⟨A8, n8, c8, e117, hy8⟩ := e117
                  obtain ⟨A9, n9, c9, e119, hy9⟩ := e119
                  have g117 := Reg.ev e117
                  have g119 := Reg.ev e119
                  go_simp
                  refine (RefTxn.sameList_any _ hy8 hy9).mono ?_
                  rw [decide_eq_true rfl]
                  rintro e wy ⟨rfl, hby⟩
                  exact Reg.done (Option.some_ne_none _) rfl hby
                · intro ax wx hx hs
                  obtain ⟨e120, e115, -⟩ := hs
                  have g120 := Reg.ev (v := .bool true) e120
                  have g115 := Reg.ev (v := .bool false) e115
                  exact Reg.obl_want rfl rfl e115 (Reg.wp_eqv (Option.some_ne_none _) (by go_simp) rfl)
                · intro ax wx hx hs
                  obtain ⟨e115, e121, -⟩ := hs
                  have g115 := Reg.ev (v := .bool false) e115
                  have g121 := Reg.ev (v := .bool false) e121
                  exact Reg.obl_free rfl (Reg.wp_eqv (Option.some_ne_none _) (by go_simp) rfl)
              · intro W15 hwf
                simp only [Reg.Fin]
                rintro _ rfl _ rfl _ rfl _ rfl _ rfl _ rfl _ rfl _ rfl _ rfl _ rfl _ rfl _ rfl _ rfl _ rfl _ rfl _ rfl _ rfl v117 h117 _ rfl v119 h119 _ rfl _ rfl _ rfl
                go_simp
                have hwf' : Below W14.heap.size W14 W15 := hwf
                clear hwf
                have HS0_15 := Lib.hid (HS0_14.out.next hwf')
                have HS1_15 := Lib.hid (HS1_14.out.next hwf')
                have HS2_15 := Lib.hid (HS2_14.out.next hwf')
                have HB_15 := Lib.hid (bstep HB_14.out hwf')
                have HTt_15 := Lib.hid (HTt_14.out.below hwf')
                clear HTt_14 htlt htmt
                have htlt := HTt_15.out.lt
                have htmt := HTt_15.out.mlt
                have hw_15 := HB_15.out.size
                have hws_15 := (hwf').size
                clear f0_14 HS0_14 hf0_14 f1_14 HS1_14 f2_14 HS2_14
                have f0_15 := str2 HS0_15.out
                have hl0_15 := HS0_15.out.lt
                have hf0_15 := fun j => HS0_15.out.frozen j
                have f1_15 := str5 HS1_15.out
                have hl1_15 := HS1_15.out.lt
                have f2_15 := str2 HS2_15.out
                have hl2_15 := HS2_15.out.lt
                have HE15 := Lib.hid (HE14.out.next hwf')
                clear HE14 hwf'
                go_wp2_with fail
                have hln7 := HE15.out.len
                have hn7 : n7 ≤ 61 := by have := HI2.out.len; omega
                go_loopw [14] (fun jv wq => ∃ j : Nat, j ≤ n7 ∧ jv = .int .i64 (j : Int) ∧ Hid (Below W15.heap.size W15 wq)) (fun jv _ => n7 - (intOf jv).toNat)
                case atStart => exact ⟨0, Nat.zero_le _, rfl, Lib.hid (bsame W15)⟩
                case round =>
                  obtain ⟨j, hj, rfl, HG⟩ := hrel
                  have hgz := HG.out.size
                  have HBq := Lib.hid (bstep HB_15.out HG.out)
                  have HSq := Lib.hid (HS0_15.out.next HG.out)
                  have HTq := Lib.hid (HTt_15.out.below HG.out)
                  have HEq := Lib.hid (HE15.out.next HG.out)
                  have fq := str2 HSq.out
                  have hlq := HSq.out.lt
                  clear f0_15 f1_15 f2_15
                  by_cases hjl : j < n7
                  · have hdj : decide ((j : Int) < (n7 : Int)) = true := by simpa using hjl
                    obtain ⟨bb, oo, x, rfl, hbb, hx7, y0, y1, y2, y3⟩ := txn_at HEq.out hjl
                    have HGX : Hid (TxnP.get L2 x.id = x) := Lib.hid (TxnP.get_of HI2.out.rises (List.mem_of_getElem? hx7))
                    have HHX : Hid (TxnP.has L2 x.id = true) := Lib.hid (TxnP.has_iff.2 ⟨x, List.mem_of_getElem? hx7, rfl⟩)
                    have HIX := Lib.hid (TxnP.invS_in HI2.out (by omega) (List.mem_of_getElem? hx7))
                    clear hx7
                    go_wp2_with fail
                    refine (get_any x.id _ HTq.out HIX.out).mono ?_
                    rintro e W17 ⟨rfl, hb17⟩
                    rw [HGX.out, HHX.out]
                    have z0 := (hb17.cell (p := ⟨bb, oo + j * 4, none⟩) hbb).trans y0
                    have z1 := (hb17.cell (p := ⟨bb, oo + j * 4 + 1, none⟩) hbb).trans y1
                    have z2 := (hb17.cell (p := ⟨bb, oo + j * 4 + 2, none⟩) hbb).trans y2
                    have z3 := (hb17.cell (p := ⟨bb, oo + j * 4 + 3, none⟩) hbb).trans y3
                    have fr := str2 (HSq.out.next hb17)
                    have hlr := (HSq.out.next hb17).lt
                    have hbbr : bb < W17.heap.size := by have := hb17.size; omega
                    have HB17 := Lib.hid (bstep HG.out hb17)
                    clear y0 y1 y2 y3 hb17 fq hlq
                    go_wp2_with (first | go_quiet (fail) | go_in)
                    go_wp2
                    go_roundw
                    case rel => exact ⟨j + 1, by omega, by go_num, Lib.hid (drewN_below (balloc HB17.out _) _)⟩
                    case measure => simp [intOf]; omega
                  · have hdj : decide ((j : Int) < (n7 : Int)) = false := by simp; omega
                    go_wp2_with fail
                    refine (TxnW.oldest_any _ HTq.out HI2.out.rises).mono ?_
                    rintro e W17 ⟨v1, b1, rfl, hO1, hb17⟩
                    have HB17 := Lib.hid (bstep HG.out hb17)
                    have fr := str2 (HSq.out.next hb17)
                    have hlr := (HSq.out.next hb17).lt
                    have HE17 := Lib.hid (HEq.out.next hb17)
                    have HT17 := Lib.hid (HTq.out.below hb17)
                    have HS17 := Lib.hid (HSq.out.next hb17)
                    have HW17 := Lib.hid (bstep HBq.out hb17)
                    clear hb17 fq hlq
                    go_wp2_with fail
                    refine (RefTxn.oldest_any _ HE17.out).mono ?_
                    rintro e W18 ⟨v2, b2, rfl, hO2, hb18⟩
                    obtain ⟨rfl, rfl⟩ := TxnP.old_uniq hO1 hO2
                    have HT18 := Lib.hid (HT17.out.below hb18)
                    have HS18 := Lib.hid (HS17.out.next hb18)
                    have HE18 := Lib.hid (HE17.out.next hb18)
                    have HW18 := Lib.hid (bstep HW17.out hb18)
                    clear hb18 hO1 hO2 fr hlr
                    go_wp2
                    go_roundw
                    case rel => exact ⟨k + 1, m + 1, L2, nxv, _, n7, c7, by omega, by go_num, Lib.hid ⟨HT18.out, by omega, HS18.out, HE18.out, HI2.out, HW18.out⟩⟩
                    case measure => simp [intOf]; omega
    · have hdk : decide ((k : Int) < (n : Int)) = false := by simp; omega
      go_wp2_with fail
      refine (Live24.live_any _).mono ?_
      rintro e W10 ⟨rfl, hb10⟩
      have HB_10 := Lib.hid (bstep HB_9.out hb10)
      have HTt_10 := Lib.hid (HTt_9.out.below hb10)
      clear HTt_9 htlt htmt
      have htlt := HTt_10.out.lt
      have htmt := HTt_10.out.mlt
      have hw_10 := HB_10.out.size
      have hws_10 := (hb10).size
      clear hb10
      go_wp2_with fail
      go_ret
      exact ⟨rfl, HB_10.out⟩
theorem walk (v0 v1 : Value) (a0 : Int) (a1 : List StepX) (w : World) (g0 : RInt w v0 a0) (g1 : RSteps w w.heap.size v1 a1) : Calls Try.prog 3 #[v0, v1] w fun e w' => e = .returned (.bool true) ∧ Below w.heap.size w w' := by
  obtain ⟨rfl, ha⟩ := g0
  obtain ⟨A, n, c, rfl, hE⟩ := g1
  by_cases hn : 60 < n
  · exact way_long a0 A n c w hn (Nat.le_trans hE.cap.1 hE.cap.2)
  · exact way_main a0 ha A n c a1 w hE (by omega)
end Go.Proofs.Ytbcpepjedhafbaa.txnsSteps
