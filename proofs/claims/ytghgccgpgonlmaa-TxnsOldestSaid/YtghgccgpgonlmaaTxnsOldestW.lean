/-
  The walk of TxnsOldest: where the log must begin.
-/
import Derived.Test.YtghgccgpgonlmaaLive24
import Derived.Test.YtghgccgpgonlmaaTxnLive
import Derived.Test.YtghgccgpgonlmaaPTxnO
import Derived.Test.YtghgccgpgonlmaaOpen
import Derived.Test.YtghgccgpgonlmaaOpen2
namespace Go.Proofs.Ytghgccgpgonlmaa.txnsOldest
open Go.RowKit Go.Maps TxnW
set_option linter.unusedVariables false
set_option linter.unusedSimpArgs false
set_option maxRecDepth 100000 in
set_option maxHeartbeats 1000000 in
theorem way_long (a : Int) (A : Option Addr) (n c : Nat) (l : List UInt8) (A2 : Option Addr) (n2 c2 : Nat) (l2 : List UInt8) (w : World) (ha : 0 ≤ a ∧ a ≤ 255) (h1 : Bytes w w.heap.size A n c l) (h2 : Bytes w w.heap.size A2 n2 c2 l2) (hn : 60 < n) : Calls Try.prog 9 #[.int .u8 a, .slice A n c, .slice A2 n2 c2] w fun e w' => e = .returned (.bool true) ∧ Below w.heap.size w w' := by
  have hm1 := Nat.le_trans h1.2.1 h1.2.2.1
  have hm2 := Nat.le_trans h2.2.1 h2.2.2.1
  unfold maxLen at hm1 hm2
  clear h1 h2
  have HB_0 := Lib.hid (bsame w)
  have hw_0 := HB_0.out.size
  have hd : ((60 : Int) < (n : Int)) = True := by simp; omega
  go_enter Try.func9, Try.ntmps9
  go_wp2_with fail
  refine (Live24.live_any _).mono ?_
  rintro e W1 ⟨rfl, hb1⟩
  have HB_1 := Lib.hid (bstep HB_0.out hb1)
  have hw_1 := HB_1.out.size
  have hws_1 := (hb1).size
  clear hb1
  go_wp2_with fail
  go_ret
  exact ⟨rfl, HB_1.out⟩
set_option maxRecDepth 100000 in
set_option maxHeartbeats 1000000 in
theorem way_long2 (a : Int) (A : Option Addr) (n c : Nat) (l : List UInt8) (A2 : Option Addr) (n2 c2 : Nat) (l2 : List UInt8) (w : World) (ha : 0 ≤ a ∧ a ≤ 255) (h1 : Bytes w w.heap.size A n c l) (h2 : Bytes w w.heap.size A2 n2 c2 l2) (hn : n ≤ 60) (hn2 : 60 < n2) : Calls Try.prog 9 #[.int .u8 a, .slice A n c, .slice A2 n2 c2] w fun e w' => e = .returned (.bool true) ∧ Below w.heap.size w w' := by
  have hm1 := Nat.le_trans h1.2.1 h1.2.2.1
  have hm2 := Nat.le_trans h2.2.1 h2.2.2.1
  unfold maxLen at hm1 hm2
  clear h1 h2
  have HB_0 := Lib.hid (bsame w)
  have hw_0 := HB_0.out.size
  have hd : ((60 : Int) < (n : Int)) = False := by simp; omega
  have hd2 : ((60 : Int) < (n2 : Int)) = True := by simp; omega
  go_enter Try.func9, Try.ntmps9
  go_wp2_with fail
  refine (Live24.live_any _).mono ?_
  rintro e W1 ⟨rfl, hb1⟩
  have HB_1 := Lib.hid (bstep HB_0.out hb1)
  have hw_1 := HB_1.out.size
  have hws_1 := (hb1).size
  clear hb1
  go_wp2_with fail
  go_ret
  exact ⟨rfl, HB_1.out⟩
/-- a row of numbers -/
def rowI (F : List Int) : Array Value := (F.map (Value.int .i64)).toArray
theorem rowI_at (F : List Int) (id : Int) (h : id.toNat < F.length) (h0 : 0 ≤ id) : (rowI F)[id.toNat]? = some (.int .i64 (TxnP.f F id)) := by
  unfold rowI TxnP.f
  rw [List.getElem?_toArray, List.getElem?_map, List.getElem?_eq_getElem h, List.getD_eq_getElem?_getD, List.getElem?_eq_getElem h]
  rfl
theorem rowI_set {w : World} {b i : Nat} {F : List Int} {x : Int} (h : Str w b ((rowI F).setIfInBounds i (.int .i64 x))) : Str w b (rowI (F.set i x)) := by
  have e : (rowI F).setIfInBounds i (.int .i64 x) = rowI (F.set i x) := by
    unfold rowI
    rw [List.setIfInBounds_toArray, List.map_set]
  rw [← e]
  exact h
theorem wrap64_in {x : Int} (h1 : -9223372036854775808 ≤ x) (h2 : x ≤ 9223372036854775807) : wrap64 x = x := by
  unfold wrap64
  omega
theorem rem_in (x N : Int) (hN : 1 ≤ N) : 1 ≤ 1 + x % N ∧ 1 + x % N ≤ N := by
  have h1 := Int.emod_nonneg x (show N ≠ 0 by omega)
  have h2 := Int.emod_lt_of_pos x (show 0 < N by omega)
  generalize x % N = y at *
  omega
theorem rem_wrap (x N : Int) (hN : 1 ≤ N) (h6 : N ≤ 6) : wrap64 (1 + x % N) = 1 + x % N := by
  obtain ⟨h1, h2⟩ := rem_in x N hN
  exact wrap64_in (by omega) (by omega)
set_option maxRecDepth 100000 in
set_option maxHeartbeats 1000000 in
theorem way_main (a : Int) (A : Option Addr) (n c : Nat) (l : List UInt8) (A2 : Option Addr) (n2 c2 : Nat) (l2 : List UInt8) (w : World) (ha : 0 ≤ a ∧ a ≤ 255) (h1 : Bytes w w.heap.size A n c l) (h2 : Bytes w w.heap.size A2 n2 c2 l2) (hn : n ≤ 60) (hn2 : n2 ≤ 60) : Calls Try.prog 9 #[.int .u8 a, .slice A n c, .slice A2 n2 c2] w fun e w' => e = .returned (.bool true) ∧ Below w.heap.size w w' := by
  have H1 := Lib.hid h1
  have H2 := Lib.hid h2
  obtain ⟨ha1, ha2⟩ := ha
  clear h1 h2
  have HB_0 := Lib.hid (bsame w)
  have hw_0 := HB_0.out.size
  have hd1 : ((60 : Int) < (n : Int)) = False := by simp; omega
  have hd2 : ((60 : Int) < (n2 : Int)) = False := by simp; omega
  go_enter Try.func9, Try.ntmps9
  go_wp2_with fail
  generalize hN : 1 + a % 6 = N
  have hN1 : 1 ≤ N := by omega
  have hN2 : N ≤ 6 := by omega
  clear hN hd1 hd2
  refine (new_any 1 (by unfold In64; omega) _).mono ?_
  rintro e W1 ⟨tb, bm, rfl, hT, hg1, hg2, hb1⟩
  have HB_1 := Lib.hid (bstep HB_0.out hb1)
  have hw_1 := HB_1.out.size
  have hws_1 := (hb1).size
  have e5 : min (max (1 : Int) 1) 281474976710656 = 1 := by decide
  rw [e5] at hT
  clear e5 hb1
  have HTt_1 := Lib.hid (hT)
  have htlt := HTt_1.out.lt
  have htmt := HTt_1.out.mlt
  clear hT
  go_wp2_with fail
  go_loopw [9] (fun i wr => ∃ (k : Nat) (L : List TxnX), (k : Int) ≤ N ∧ i = .int .i64 (k : Int) ∧ Hid (Tab wr tb bm k (1 + (k : Int)) L ∧ TxnP.Inv0 L (k : Int) ∧ Below w.heap.size w wr)) (fun i _ => (N - intOf i).toNat)
  case atStart => exact ⟨0, [], by simp; omega, rfl, Lib.hid ⟨by simpa using HTt_1.out, by simpa using TxnP.inv0_nil, HB_1.out⟩⟩
  case round =>
    obtain ⟨k, L, hk, rfl, HK⟩ := hrel
    have HB_9 := Lib.hid HK.out.2.2
    have hw_9 := HB_9.out.size
    have HTt_9 := Lib.hid HK.out.1
    have htlt := HTt_9.out.lt
    have htmt := HTt_9.out.mlt
    have HI := Lib.hid HK.out.2.1
    clear HK HTt_1 HB_1
    by_cases hlt : (k : Int) < N
    case pos =>
      have hd : ((k : Int) < N) = True := by simp; omega
      go_wp2_with fail
      refine (begin_any _ HTt_9.out (by unfold maxLen; omega) (by omega) (by omega)).mono ?_
      rintro e W10 ⟨rfl, ht10, hk10⟩
      have HB_10 := Lib.hid (HB_9.out.trans (hk10.below (M := w.heap.size) (by omega) (by intro b hb; simp only [List.mem_cons, List.not_mem_nil, or_false] at hb; rcases hb with rfl | rfl <;> omega)))
      have hw_10 := HB_10.out.size
      have hws_10 := hk10.size
      clear HTt_9 htlt htmt
      have HTt_10 := Lib.hid ht10
      have htlt := HTt_10.out.lt
      have htmt := HTt_10.out.mlt
      clear ht10 hk10
      go_wp2_with fail
      have HTN : Hid (Tab W10 tb bm (k + 1) (1 + ((k + 1 : Nat) : Int)) (TxnP.put L ⟨((k : Nat) : Int) + 1, 0, 0, 0⟩)) := Lib.hid (by have h := HTt_10.out; rw [show 1 + (k : Int) = (k : Int) + 1 by omega] at h; rw [show 1 + ((k + 1 : Nat) : Int) = (k : Int) + 1 + 1 by omega]; exact h)
      have HIN := Lib.hid (TxnP.inv0_step HI.out (by omega))
      go_roundw
      case rel => exact ⟨k + 1, _, by omega, by go_num, Lib.hid ⟨HTN.out, by rw [show ((k + 1 : Nat) : Int) = (k : Int) + 1 by omega]; exact HIN.out, HB_10.out⟩⟩
      case measure => simp [intOf]; omega
    case neg =>
      have hkN : (k : Int) = N := by omega
      have HI2 := Lib.hid (TxnP.invF_start (n := N) (by rw [← hkN]; exact HI.out))
      have hd : ((k : Int) < N) = False := by simp; omega
      have hk6 : k ≤ 6 := by omega
      clear HI hkN hlt hk
      go_wp2
      generalize hWA : wr.alloc (.cells #[.int .i64 0, .int .i64 0, .int .i64 0, .int .i64 0, .int .i64 0, .int .i64 0, .int .i64 0] 70) = WA
      have hba : Below wr.heap.size wr WA := by rw [← hWA]; exact balloc (bsame _) _
      have HSA : Hid (Str WA wr.heap.size (rowI TxnP.zero7)) := Lib.hid (by rw [← hWA]; exact Str.new wr _ _)
      have HTA := Lib.hid (HTt_9.out.below hba)
      have HBA := Lib.hid (bstep HB_9.out hba)
      have hwa := hba.size
      clear hWA hba HTt_9 HB_9
      generalize hab : wr.heap.size = ab at *
      clear hab
      go_loopw [11] (fun i wr => ∃ (k2 : Nat) (L : List TxnX) (F : List Int), k2 ≤ n ∧ i = .int .i64 (k2 : Int) ∧ Hid (Tab wr tb bm (6 + k2) (1 + (k : Int)) L ∧ TxnP.InvF L F N ∧ TxnP.InvK L N (k2 : Int) ∧ Str wr ab (rowI F) ∧ Below w.heap.size w wr)) (fun i _ => n - (intOf i).toNat)
      case atStart => exact ⟨0, L, TxnP.zero7, Nat.zero_le _, rfl, Lib.hid ⟨HTA.out.mono (by omega), HI2.out.1, HI2.out.2, HSA.out, HBA.out⟩⟩
      case round =>
        clear HI2 HTA HSA HBA
        obtain ⟨k2, L, F, hk2, rfl, HK⟩ := hrel
        have HB_9 := Lib.hid HK.out.2.2.2.2
        have hw_9 := HB_9.out.size
        have HTt_9 := Lib.hid HK.out.1
        have htlt := HTt_9.out.lt
        have htmt := HTt_9.out.mlt
        have HS0_9 := Lib.hid HK.out.2.2.2.1
        have hl0_9 := HS0_9.out.lt
        have hf0_9 := fun j => HS0_9.out.frozen j
        have HF := Lib.hid HK.out.2.1
        have HKK := Lib.hid HK.out.2.2.1
        clear HK
        by_cases hlt2 : k2 < n
        case pos =>
          have hd2 : ((k2 : Int) < (n : Int)) = True := by simp; omega
          obtain ⟨b, o, rfl, hbB, hc⟩ := (H1.out.below HB_9.out).at_ hlt2
          generalize hu : l[k2]'(by rw [(H1.out).1]; exact hlt2) = u at hc
          have hc2 : wr.cell? ⟨b, o + k2, none⟩ = some (.int .u8 (u.toNat : Int)) := hc
          have hu1 : (0 : Int) ≤ (u.toNat : Int) := by omega
          have hu2 : (u.toNat : Int) ≤ 255 := by have := u.toNat_lt; omega
          have hbl : b < wr.heap.size := by omega
          clear hc hu
          go_wp2_with fail
          rw [rem_wrap _ N hN1 hN2]
          obtain ⟨hid1, hid2⟩ := rem_in (u.toNat : Int) N hN1
          generalize 1 + (u.toNat : Int) % N = id at *
          have hhas := HKK.out.1 id hid1 hid2
          have hmem := TxnP.get_mem hhas
          have hkp := HKK.out.2 _ hmem.1
          have HFI := Lib.hid (TxnP.first_iff HF.out hid1 hid2 hhas)
          have HIN := Lib.hid (TxnP.inv_note HF.out HKK.out hN2 hid1 hid2 (show 0 ≤ (k2 : Int) by omega) (by omega))
          have HHAS := Lib.hid hhas
          clear hhas hmem
          refine (note_any id (10 * (k2 : Int)) (10 * (k2 : Int) + 9) 1 _ HTt_9.out (by unfold maxLen; omega) (by unfold In64; omega) (by intro _; omega)).mono ?_
          rintro e W10 ⟨rfl, ht10, hk10⟩
          rw [HHAS.out]
          unfold noteL at ht10
          rw [if_pos HHAS.out] at ht10
          have HS0_10 := Lib.hid (HS0_9.out.keepB hk10 (by simp only [List.mem_cons, List.not_mem_nil, or_false, not_or]; omega))
          have HB_10 := Lib.hid (HB_9.out.trans (hk10.below (M := w.heap.size) (by omega) (by intro b hb; simp only [List.mem_cons, List.not_mem_nil, or_false] at hb; rcases hb with rfl | rfl <;> omega)))
          have hw_10 := HB_10.out.size
          have hws_10 := hk10.size
          clear HTt_9 htlt htmt
          have HTt_10 := Lib.hid ht10
          have htlt := HTt_10.out.lt
          have htmt := HTt_10.out.mlt
          clear HS0_9 hf0_9
          clear ht10 hk10
          have hl0_10 := HS0_10.out.lt
          have hf0_10 := fun j => HS0_10.out.frozen j
          have hcl := HS0_10.out.cell id.toNat
          rw [rowI_at _ _ (by rw [HF.out.1]; omega) (by omega)] at hcl
          by_cases hz : TxnP.f F id = 0
          case pos =>
              have hz2 : (TxnP.f F id == 0) = true := by simpa using hz
              have HIN2 := Lib.hid (show _ ∧ _ from ⟨HIN.out.1, HIN.out.2⟩)
              rw [if_pos hz] at HIN2
              clear hz HIN
              go_wp2_with fail
              generalize hW11 : W10.setCell ⟨ab, id.toNat, none⟩ (.int .i64 (10 * (k2 : Int) + 1)) = W11
              have HS0_11 : Hid (Str W11 ab (rowI (F.set id.toNat (10 * (k2 : Int) + 1)))) := Lib.hid (by rw [← hW11]; exact rowI_set (HS0_10.out.set id.toNat (.int .i64 (10 * (k2 : Int) + 1))))
              have hgr11 : W10.grownBy W11 (some ab) := by rw [← hW11]; exact grown_set (grown_refl W10 ab) _ _
              have HT_11 := Lib.hid (HTt_10.out.grown hgr11 (by omega) (by omega))
              have HB_11 := Lib.hid (below_grown HB_10.out hgr11 (by omega))
              have HTt_11 := Lib.hid (HTt_10.out.grown hgr11 (by omega) (by omega))
              clear HTt_10 htlt htmt
              have htlt := HTt_11.out.lt
              have htmt := HTt_11.out.mlt
              clear hW11 hgr11
              go_roundw
              case rel => exact ⟨k2 + 1, _, _, by omega, by go_num, Lib.hid ⟨HT_11.out.mono (by omega), HIN2.out.1, by rw [show ((k2 + 1 : Nat) : Int) = (k2 : Int) + 1 by omega]; exact HIN2.out.2, HS0_11.out, HB_11.out⟩⟩
              case measure => simp [intOf]; omega
          case neg =>
              have hz2 : (TxnP.f F id == 0) = false := by simpa using hz
              have HIN2 := Lib.hid (show _ ∧ _ from ⟨HIN.out.1, HIN.out.2⟩)
              rw [if_neg hz] at HIN2
              clear hz HIN
              go_wp2_with fail
              have HS0_11 := HS0_10
              have HT_11 := HTt_10
              have HB_11 := HB_10
              go_roundw
              case rel => exact ⟨k2 + 1, _, _, by omega, by go_num, Lib.hid ⟨HT_11.out.mono (by omega), HIN2.out.1, by rw [show ((k2 + 1 : Nat) : Int) = (k2 : Int) + 1 by omega]; exact HIN2.out.2, HS0_11.out, HB_11.out⟩⟩
              case measure => simp [intOf]; omega
        case neg =>
          have hk2n : k2 = n := by omega
          subst hk2n
          have hd2 : ((k2 : Int) < (k2 : Int)) = False := by simp
          have HKP : Hid (TxnP.Gone L 0) := Lib.hid (fun id h1 h2 => by omega)
          clear HKK hlt2 hk2
          go_wp2
          go_loopw [13] (fun i wr => ∃ (k3 : Nat) (L : List TxnX) (F : List Int), (k3 : Int) ≤ (n2 : Int) + N ∧ i = .int .i64 (k3 : Int) ∧ Hid (Tab wr tb bm 66 (1 + (k : Int)) L ∧ TxnP.InvF L F N ∧ TxnP.Gone L ((k3 : Int) - (n2 : Int)) ∧ Str wr ab (rowI F) ∧ Below w.heap.size w wr)) (fun i _ => ((n2 : Int) + N - intOf i).toNat)
          case atStart => exact ⟨0, L, F, by omega, rfl, Lib.hid ⟨HTt_9.out.mono (by omega), HF.out, fun id h1 h2 => by omega, HS0_9.out, HB_9.out⟩⟩
          case round =>
            clear HTt_9 HS0_9 HB_9 HF HKP
            obtain ⟨k3, L, F, hk3, rfl, HK⟩ := hrel
            have HB_9 := Lib.hid HK.out.2.2.2.2
            have hw_9 := HB_9.out.size
            have HTt_9 := Lib.hid HK.out.1
            have htlt := HTt_9.out.lt
            have htmt := HTt_9.out.mlt
            have HS0_9 := Lib.hid HK.out.2.2.2.1
            have hl0_9 := HS0_9.out.lt
            have hf0_9 := fun j => HS0_9.out.frozen j
            have HF := Lib.hid HK.out.2.1
            have HG := Lib.hid HK.out.2.2.1
            clear HK
            by_cases hlt3 : (k3 : Int) < (n2 : Int) + N
            case pos =>
              have hd3 : ((k3 : Int) < (n2 : Int) + N) = True := by simp; omega
              go_wp2_with fail
              refine (oldest_any _ HTt_9.out HF.out.2.1).mono ?_
              rintro e W10 ⟨oa, ob, rfl, ho, hb10⟩
              have HO := Lib.hid ho
              clear ho
              have HS0_10 := Lib.hid (HS0_9.out.next hb10)
              have HB_10 := Lib.hid (bstep HB_9.out hb10)
              have HTt_10 := Lib.hid (HTt_9.out.below hb10)
              clear HTt_9 htlt htmt
              have htlt := HTt_10.out.lt
              have htmt := HTt_10.out.mlt
              have hw_10 := HB_10.out.size
              have hws_10 := (hb10).size
              clear HS0_9 hf0_9
              clear hb10
              have hl0_10 := HS0_10.out.lt
              have hf0_10 := fun j => HS0_10.out.frozen j
              go_wp2_with fail
              go_loop [16, 17] (fun wv iv => ∃ (v idv : Int), wv = .int .i64 v ∧ iv = .int .i64 idv ∧ 1 ≤ idv ∧ idv ≤ N + 1 ∧ Hid (TxnP.Want F idv v)) (fun _ i => (N + 1 - intOf i).toNat)
              case atStart => exact ⟨0, 1, rfl, rfl, by omega, by omega, Lib.hid (TxnP.want_start F)⟩
              case round =>
                obtain ⟨v, idv, rfl, rfl, hi1, hi2, HW⟩ := hrel
                by_cases hle : idv ≤ N
                case pos =>
                  have hd4 : (idv ≤ N) = True := by simp; omega
                  have hcl := HS0_10.out.cell idv.toNat
                  rw [rowI_at _ _ (by rw [HF.out.1]; omega) (by omega)] at hcl
                  by_cases hz : TxnP.f F idv = 0
                  case pos =>
                    have hz2 : (TxnP.f F idv != 0) = false := by simpa using hz
                    have HN := Lib.hid (TxnP.want_stay HW.out (.inl hz))
                    clear hz
                    go_wp2
                    go_round
                    case rel => exact ⟨v, idv + 1, rfl, by go_num, by omega, by omega, HN⟩
                    case measure => simp [intOf]; omega
                  case neg =>
                    have hz2 : (TxnP.f F idv != 0) = true := by simpa using hz
                    by_cases hv : v = 0
                    case pos =>
                      have hv2 : (v == 0) = true := by simpa using hv
                      have HN := Lib.hid (TxnP.want_take HW.out hi1 hz (.inl hv))
                      clear hz hv
                      go_wp2
                      go_round
                      case rel => exact ⟨_, idv + 1, rfl, by go_num, by omega, by omega, HN⟩
                      case measure => simp [intOf]; omega
                    case neg =>
                      have hv2 : (v == 0) = false := by simpa using hv
                      by_cases hf : TxnP.f F idv < v
                      case pos =>
                        have hf2 : decide (TxnP.f F idv < v) = true := by simpa using hf
                        have HN := Lib.hid (TxnP.want_take HW.out hi1 hz (.inr hf))
                        clear hz hv hf
                        go_wp2
                        go_round
                        case rel => exact ⟨_, idv + 1, rfl, by go_num, by omega, by omega, HN⟩
                        case measure => simp [intOf]; omega
                      case neg =>
                        have hf2 : decide (TxnP.f F idv < v) = false := by simpa using hf
                        have HN := Lib.hid (TxnP.want_stay HW.out (.inr ⟨hv, hf⟩))
                        clear hz hv hf
                        go_wp2
                        go_round
                        case rel => exact ⟨v, idv + 1, rfl, by go_num, by omega, by omega, HN⟩
                        case measure => simp [intOf]; omega
                case neg =>
                  have hd4 : (idv ≤ N) = False := by simp; omega
                  have hW2 : TxnP.Want F (N + 1) v := by rw [show N + 1 = idv by omega]; exact HW.out
                  obtain ⟨⟨ho1, ho2, ho3⟩, hv1, hv2⟩ := TxnP.old_want HF.out HO.out hW2
                  have HO1 := Lib.hid ho1
                  have HO2 := Lib.hid ho2
                  have HO3 := Lib.hid ho3
                  clear ho1 ho2 ho3 hW2 HW HO hle
                  have HOB : Hid ((ob = true ∧ (v != 0) = true ∧ oa = v - 1) ∨ (ob = false ∧ v = 0 ∧ oa = 0)) := Lib.hid (by
                    cases ob with
                    | true => exact .inl ⟨rfl, by simpa using HO1.out.1 rfl, HO2.out rfl⟩
                    | false =>
                      refine .inr ⟨rfl, ?_, HO3.out rfl⟩
                      by_cases h : v = 0
                      · exact h
                      · exact absurd (HO1.out.2 h) (by simp))
                  clear HO1 HO2 HO3
                  by_cases hA : k3 < n2
                  case pos =>
                    obtain ⟨b, o, rfl, hbB, hc⟩ := (H2.out.below HB_10.out).at_ hA
                    generalize hu : l2[k3]'(by rw [(H2.out).1]; exact hA) = u at hc
                    have hc2 : W10.cell? ⟨b, o + k3, none⟩ = some (.int .u8 (u.toNat : Int)) := hc
                    have hu1 : (0 : Int) ≤ (u.toNat : Int) := by omega
                    have hu2 : (u.toNat : Int) ≤ 255 := by have := u.toNat_lt; omega
                    have hbl : b < W10.heap.size := by omega
                    have hd5 : ((k3 : Int) < (n2 : Int)) = True := by simp; omega
                    clear hc hu
                    rcases HOB.out with ⟨rfl, hvn, rfl⟩ | ⟨rfl, rfl, rfl⟩
                    all_goals
                      go_wp2_with fail
                      rw [rem_wrap _ N hN1 hN2]
                      obtain ⟨hid1, hid2⟩ := rem_in (u.toNat : Int) N hN1
                      generalize 1 + (u.toNat : Int) % N = id at *
                      have HIN := Lib.hid (TxnP.inv_end HF.out hN2 hid1 hid2)
                      have HGN : Hid (TxnP.Gone (TxnP.del L id) (((k3 + 1 : Nat) : Int) - (n2 : Int))) := Lib.hid (fun q q1 q2 => by omega)
                      refine (end_any id _ HTt_10.out (by unfold In64; omega)).mono ?_
                      rintro e W11 ⟨rfl, ht11, hk11⟩
                      have HS0_11 := Lib.hid (HS0_10.out.keepB hk11 (by simp only [List.mem_cons, List.not_mem_nil, or_false, not_or]; omega))
                      have HB_11 := Lib.hid (HB_10.out.trans (hk11.below (M := w.heap.size) (by omega) (by intro b hb; simp only [List.mem_cons, List.not_mem_nil, or_false] at hb; rcases hb with rfl | rfl <;> omega)))
                      have hw_11 := HB_11.out.size
                      have hws_11 := hk11.size
                      clear HTt_10 htlt htmt
                      have HTt_11 := Lib.hid ht11
                      have htlt := HTt_11.out.lt
                      have htmt := HTt_11.out.mlt
                      clear HS0_10 hf0_10
                      clear ht11 hk11
                      have hl0_11 := HS0_11.out.lt
                      have hf0_11 := fun j => HS0_11.out.frozen j
                      have hcl2 := HS0_11.out.cell id.toNat
                      rw [rowI_at _ _ (by rw [HF.out.1]; omega) (by omega)] at hcl2
                      go_wp2_with fail
                      clear hcl2
                      generalize hW12 : W11.setCell ⟨ab, id.toNat, none⟩ (.int .i64 0) = W12
                      have HS0_12 : Hid (Str W12 ab (rowI (F.set id.toNat 0))) := Lib.hid (by rw [← hW12]; exact rowI_set (HS0_11.out.set id.toNat (.int .i64 0)))
                      have hgr12 : W11.grownBy W12 (some ab) := by rw [← hW12]; exact grown_set (grown_refl W11 ab) _ _
                      have HT_12 := Lib.hid (HTt_11.out.grown hgr12 (by omega) (by omega))
                      have HB_12 := Lib.hid (below_grown HB_11.out hgr12 (by omega))
                      have HTt_12 := Lib.hid (HTt_11.out.grown hgr12 (by omega) (by omega))
                      clear HTt_11 htlt htmt
                      have htlt := HTt_12.out.lt
                      have htmt := HTt_12.out.mlt
                      clear hW12 hgr12
                      go_roundw
                      case rel => exact ⟨k3 + 1, _, _, by omega, by go_num, Lib.hid ⟨HT_12.out, HIN.out, HGN.out, HS0_12.out, HB_12.out⟩⟩
                      case measure => simp [intOf]; omega
                  case neg =>
                    have hd5 : ((k3 : Int) < (n2 : Int)) = False := by simp; omega
                    rcases HOB.out with ⟨rfl, hvn, rfl⟩ | ⟨rfl, rfl, rfl⟩
                    all_goals
                      go_wp2_with fail
                      generalize hid : 1 + (k3 : Int) - (n2 : Int) = id at *
                      have hid1 : 1 ≤ id := by omega
                      have hid2 : id ≤ N := by omega
                      have hid3 : id = (k3 : Int) - (n2 : Int) + 1 := by omega
                      have HIN := Lib.hid (TxnP.inv_end HF.out hN2 hid1 hid2)
                      have HGN : Hid (TxnP.Gone (TxnP.del L id) (((k3 + 1 : Nat) : Int) - (n2 : Int))) := Lib.hid (by rw [hid3, show ((k3 + 1 : Nat) : Int) - (n2 : Int) = (k3 : Int) - (n2 : Int) + 1 by omega]; exact TxnP.gone_step HG.out)
                      clear hid hid3
                      refine (end_any id _ HTt_10.out (by unfold In64; omega)).mono ?_
                      rintro e W11 ⟨rfl, ht11, hk11⟩
                      have HS0_11 := Lib.hid (HS0_10.out.keepB hk11 (by simp only [List.mem_cons, List.not_mem_nil, or_false, not_or]; omega))
                      have HB_11 := Lib.hid (HB_10.out.trans (hk11.below (M := w.heap.size) (by omega) (by intro b hb; simp only [List.mem_cons, List.not_mem_nil, or_false] at hb; rcases hb with rfl | rfl <;> omega)))
                      have hw_11 := HB_11.out.size
                      have hws_11 := hk11.size
                      clear HTt_10 htlt htmt
                      have HTt_11 := Lib.hid ht11
                      have htlt := HTt_11.out.lt
                      have htmt := HTt_11.out.mlt
                      clear HS0_10 hf0_10
                      clear ht11 hk11
                      have hl0_11 := HS0_11.out.lt
                      have hf0_11 := fun j => HS0_11.out.frozen j
                      have hcl2 := HS0_11.out.cell id.toNat
                      rw [rowI_at _ _ (by rw [HF.out.1]; omega) (by omega)] at hcl2
                      go_wp2_with fail
                      clear hcl2
                      generalize hW12 : W11.setCell ⟨ab, id.toNat, none⟩ (.int .i64 0) = W12
                      have HS0_12 : Hid (Str W12 ab (rowI (F.set id.toNat 0))) := Lib.hid (by rw [← hW12]; exact rowI_set (HS0_11.out.set id.toNat (.int .i64 0)))
                      have hgr12 : W11.grownBy W12 (some ab) := by rw [← hW12]; exact grown_set (grown_refl W11 ab) _ _
                      have HT_12 := Lib.hid (HTt_11.out.grown hgr12 (by omega) (by omega))
                      have HB_12 := Lib.hid (below_grown HB_11.out hgr12 (by omega))
                      have HTt_12 := Lib.hid (HTt_11.out.grown hgr12 (by omega) (by omega))
                      clear HTt_11 htlt htmt
                      have htlt := HTt_12.out.lt
                      have htmt := HTt_12.out.mlt
                      clear hW12 hgr12
                      go_roundw
                      case rel => exact ⟨k3 + 1, _, _, by omega, by go_num, Lib.hid ⟨HT_12.out, HIN.out, HGN.out, HS0_12.out, HB_12.out⟩⟩
                      case measure => simp [intOf]; omega
            case neg =>
            have hd3 : ((k3 : Int) < (n2 : Int) + N) = False := by simp; omega
            have HGA : Hid (L = []) := Lib.hid (TxnP.gone_all HF.out (by have h := HG.out; rw [show (k3 : Int) - (n2 : Int) = N by omega] at h; exact h))
            rw [HGA.out] at HTt_9
            clear HF HG HGA hlt3
            go_wp2_with fail
            refine (oldest_any _ HTt_9.out List.Pairwise.nil).mono ?_
            rintro e W10 ⟨oa, ob, rfl, ho, hb10⟩
            obtain ⟨rfl, rfl, -⟩ | ⟨-, ⟨x, hx, -⟩, -⟩ := ho
            rotate_left
            · cases hx
            have HS0_10 := Lib.hid (HS0_9.out.next hb10)
            have HB_10 := Lib.hid (bstep HB_9.out hb10)
            have HTt_10 := Lib.hid (HTt_9.out.below hb10)
            clear HTt_9 htlt htmt
            have htlt := HTt_10.out.lt
            have htmt := HTt_10.out.mlt
            have hw_10 := HB_10.out.size
            have hws_10 := (hb10).size
            clear HS0_9 hf0_9
            clear hb10
            have hl0_10 := HS0_10.out.lt
            have hf0_10 := fun j => HS0_10.out.frozen j
            go_wp2_with fail
            refine (live_any _ HTt_10.out List.Pairwise.nil (by simp)).mono ?_
            rintro e W11 ⟨A3, n3, c3, rfl, hE, hb11⟩
            have hn3 : n3 = 0 := hE.len.symm
            subst hn3
            clear hE
            have HS0_11 := Lib.hid (HS0_10.out.next hb11)
            have HB_11 := Lib.hid (bstep HB_10.out hb11)
            have HTt_11 := Lib.hid (HTt_10.out.below hb11)
            clear HTt_10 htlt htmt
            have htlt := HTt_11.out.lt
            have htmt := HTt_11.out.mlt
            have hw_11 := HB_11.out.size
            have hws_11 := (hb11).size
            clear HS0_10 hf0_10
            clear hb11
            have hl0_11 := HS0_11.out.lt
            have hf0_11 := fun j => HS0_11.out.frozen j
            go_wp2_with fail
            refine (Live24.live_any _).mono ?_
            rintro e W12 ⟨rfl, hb12⟩
            have HS0_12 := Lib.hid (HS0_11.out.next hb12)
            have HB_12 := Lib.hid (bstep HB_11.out hb12)
            have HTt_12 := Lib.hid (HTt_11.out.below hb12)
            clear HTt_11 htlt htmt
            have htlt := HTt_12.out.lt
            have htmt := HTt_12.out.mlt
            have hw_12 := HB_12.out.size
            have hws_12 := (hb12).size
            clear HS0_11 hf0_11
            clear hb12
            have hl0_12 := HS0_12.out.lt
            have hf0_12 := fun j => HS0_12.out.frozen j
            go_wp2_with fail
            go_ret
            exact ⟨rfl, HB_12.out⟩
theorem walk (v0 v1 v2 : Value) (a0 : Int) (a1 a2 : List UInt8) (w : World) (g0 : RU8 w v0 a0) (g1 : RBytes w w.heap.size v1 a1) (g2 : RBytes w w.heap.size v2 a2) : Calls Try.prog 9 #[v0, v1, v2] w fun e w' => e = .returned (.bool true) ∧ Below w.heap.size w w' := by
  obtain ⟨rfl, ha⟩ := g0
  obtain ⟨A, n, c, rfl, h1⟩ := g1
  obtain ⟨A2, n2, c2, rfl, h2⟩ := g2
  by_cases hn : 60 < n
  · exact way_long a0 A n c a1 A2 n2 c2 a2 w ha h1 h2 hn
  · by_cases hn2 : 60 < n2
    · exact way_long2 a0 A n c a1 A2 n2 c2 a2 w ha h1 h2 (by omega) hn2
    · exact way_main a0 A n c a1 A2 n2 c2 a2 w ha h1 h2 (by omega) (by omega)
end Go.Proofs.Ytghgccgpgonlmaa.txnsOldest
