/-
  The walks of the reference's table: New, Place, Live, Oldest; SameList.
-/
import Derived.Test.YtbcpepjedhafbaaTxnE
import Derived.BigQuiet
namespace Go.Proofs.Ytbcpepjedhafbaa.RefTxn
open Go.RowKit Go.Maps TxnW
set_option linter.unusedVariables false
set_option linter.unusedSimpArgs false
/-- the reference's table -/
def RTab (w : World) (nx : Int) (L : List TxnX) (v : Value) : Prop := ∃ A n c, v = .agg #[.slice A n c, .int .i64 nx] ∧ Elems TxnE w w.heap.size A n c L
variable {A : Option Addr} {n c : Nat} {nx : Int} {L : List TxnX}
set_option maxRecDepth 100000 in
set_option maxHeartbeats 1000000 in
theorem new_any (a : Int) (ha : In64 a) (w : World) :
    Calls Try.prog 6 #[.int .i64 a] w fun e w' => e = .returned (.agg #[.slice none 0 0, .int .i64 (min (max a 1) 281474976710656)]) ∧ Below w.heap.size w w' := by
  obtain ⟨h1, h2⟩ := ha
  have HF : Hid (∀ v : Int, v = min (max a 1) 281474976710656 → (Ending.returned (.agg #[.slice none 0 0, .int .i64 v]) = Ending.returned (.agg #[.slice none 0 0, .int .i64 (min (max a 1) 281474976710656)]))) := Lib.hid (by rintro v rfl; rfl)
  by_cases ca : a < 1
  · have d1 : decide (a < 1) = true := by simpa using ca
    have HE := Lib.hid (HF.out 1 (by omega))
    clear HF h1 h2
    go_enter Try.func6, Try.ntmps6
    go_wp2
    refine bodyPost_ret (v := .agg #[.slice none 0 0, .int .i64 1]) (by simp [results, Try.results6, go_sem, *]) rfl ⟨HE.out, balloc (bsame w) _⟩
  · have d1 : decide (a < 1) = false := by simp; omega
    by_cases cb : 281474976710656 < a
    · have d2 : decide (281474976710656 < a) = true := by simpa using cb
      have HE := Lib.hid (HF.out 281474976710656 (by omega))
      clear HF h1 h2
      go_enter Try.func6, Try.ntmps6
      go_wp2
      refine bodyPost_ret (v := .agg #[.slice none 0 0, .int .i64 281474976710656]) (by simp [results, Try.results6, go_sem, *]) rfl ⟨HE.out, balloc (bsame w) _⟩
    · have d2 : decide (281474976710656 < a) = false := by simp; omega
      have HE := Lib.hid (HF.out a (by omega))
      clear HF h1 h2
      go_enter Try.func6, Try.ntmps6
      go_wp2
      refine bodyPost_ret (v := .agg #[.slice none 0 0, .int .i64 a]) (by simp [results, Try.results6, go_sem, *]) rfl ⟨HE.out, balloc (bsame w) _⟩
set_option maxRecDepth 100000 in
set_option maxHeartbeats 1000000 in
theorem place_any (k : Int) (w : World) (hE : Elems TxnE w w.heap.size A n c L) :
    Calls Try.prog 19 #[.agg #[.slice A n c, .int .i64 nx], .int .i64 k] w fun e w' => ∃ v, e = .returned (.int .i64 v) ∧ TxnP.At L k v ∧ Below w.heap.size w w' := by
  have HE := Lib.hid hE
  have hcap := Nat.le_trans hE.cap.1 hE.cap.2
  unfold maxLen at hcap
  clear hE
  go_enter Try.func19, Try.ntmps19
  go_wp2_with fail
  generalize hW0 : (w).alloc (.cells #[.slice A n c, .int .i64 nx] 28) = W0
  obtain ⟨HS0_0, HB_0, hw_0, hz0⟩ := new1 hW0
  clear hW0 hz0
  have f0_0 := str2 HS0_0.out
  have hl0_0 := HS0_0.out.lt
  go_loopw [5] (fun i wr => ∃ k' : Nat, k' ≤ n ∧ i = .int .i64 (k' : Int) ∧ wr = W0 ∧ Hid (TxnP.Gone' L k k')) (fun i _ => n - (intOf i).toNat)
  case atStart => exact ⟨0, Nat.zero_le _, rfl, rfl, Lib.hid (TxnP.gone_start L k)⟩
  case round =>
    obtain ⟨i, hi, rfl, rfl, HG⟩ := hrel
    by_cases hlt : i < n
    · have hd : decide ((i : Int) < (n : Int)) = true := by simpa using hlt
      obtain ⟨b, o, x, rfl, hb, hx, q0, q1, q2, q3⟩ := txn_at HE.out hlt
      replace q0 := (HB_0.out.cell (p := ⟨b, o + i * 4, none⟩) hb).trans q0
      have hbl : b < wr.heap.size := by omega
      clear q1 q2 q3
      by_cases he : x.id = k
      · have hd2 : (x.id == k) = true := by simpa using he
        have HA : Hid (TxnP.At L k (i : Int)) := Lib.hid (.inr ⟨i, x, rfl, hx, he⟩)
        clear HG hx he
        go_wp2
        go_ret
        exact ⟨_, rfl, HA.out, HB_0.out⟩
      · have hd2 : (x.id == k) = false := by simpa using he
        have HN := Lib.hid (TxnP.gone_next HG.out hx he)
        clear HG hx he
        go_wp2
        go_roundw
        case rel => exact ⟨i + 1, by omega, by go_num, by trivial, HN.out⟩
        case measure => simp [intOf]; omega
    · have hd : decide ((i : Int) < (n : Int)) = false := by simp; omega
      have hin : i = n := by omega
      have HA := Lib.hid (TxnP.gone_end (by rw [← hin]; exact HG.out) HE.out.len)
      clear HG
      go_wp2
      go_ret
      exact ⟨_, rfl, HA.out, HB_0.out⟩
section
attribute [local go_sem ↓] app_fold
set_option maxRecDepth 100000 in
set_option maxHeartbeats 1000000 in
theorem live_any (w : World) (hE : Elems TxnE w w.heap.size A n c L) (hn : n ≤ 1000) :
    Calls Try.prog 15 #[.agg #[.slice A n c, .int .i64 nx]] w (GivesInts w (TxnP.ids L)) := by
  obtain ⟨i0, hi0, hz0, hz1, hz2⟩ := info_parts infoI
  have HI0 := Lib.hid hi0
  have HE := Lib.hid hE
  clear hE hi0
  go_enter Try.func15, Try.ntmps15
  go_wp2_with fail
  generalize hW0 : (w).alloc (.cells #[.slice A n c, .int .i64 nx] 28) = W0
  obtain ⟨HS0_0, HB_0, hw_0, hz0⟩ := new1 hW0
  clear hW0 hz0
  have f0_0 := str2 HS0_0.out
  have hl0_0 := HS0_0.out.lt
  go_loopw [3, 4] (fun sv i wr => ∃ (k m c' : Nat) (A' : Option Addr), k ≤ n ∧ sv = .slice A' k c' ∧ i = .int .i64 (k : Int) ∧ Hid (OwnE IntE 3 wr W0.heap.size A' k c' (TxnP.ids (L.take k)) ∧ Below W0.heap.size W0 wr)) (fun _ i _ => n - (intOf i).toNat)
  case atStart => exact ⟨0, 0, 0, none, Nat.zero_le _, rfl, rfl, Lib.hid ⟨OwnE.none_ _ _ _ _, bsame W0⟩⟩
  case round =>
    obtain ⟨i, m, c', A', hi, rfl, rfl, HK⟩ := hrel
    have f0_9 := str2 (HS0_0.out.next HK.out.2)
    have hl9 := (HS0_0.out.next HK.out.2).lt
    have hsz := HK.out.2.size
    by_cases hlt : i < n
    · have hd : decide ((i : Int) < (n : Int)) = true := by simpa using hlt
      obtain ⟨b, o, x, rfl, hb, hx, q0, q1, q2, q3⟩ := txn_at HE.out hlt
      replace q0 := ((bstep HB_0.out HK.out.2).cell (p := ⟨b, o + i * 4, none⟩) hb).trans q0
      have hbl : b < wr.heap.size := by omega
      have hO2 := HK.out.1.next (balloc (bsame wr) (.cells #[.int .i64 x.id] 3))
      obtain ⟨A2, c2, w3, happ, hO3, hb3, hg3, hA3⟩ := hO2.app (P := Try.prog) 41 41 i0 _ 8 Try.underlying41 HI0.out hz0 hz1 hz2 rfl (IntE.lit (wr := hid A' (wr.alloc (.cells #[.int .i64 x.id] 3))) (x := x.id) (Str.new wr _ _)) (by unfold maxLen; omega) (by omega) (by simp; omega)
      have HN : Hid (OwnE IntE 3 w3 W0.heap.size A2 (i + 1) c2 (TxnP.ids (L.take (i + 1)))) := Lib.hid (by rw [TxnP.take_succ_of hx]; simpa [TxnP.ids] using hO3)
      have HB3 := Lib.hid ((HK.out.2.trans ((balloc (bsame wr) (.cells #[.int .i64 x.id] 3)).mono hsz)).trans hb3)
      clear q1 q2 q3 hx hO2 hO3 hb3 hg3 hA3
      go_wp2
      go_roundw
      case rel => exact ⟨i + 1, 0, c2, A2, by omega, rfl, by go_num, Lib.hid ⟨HN.out, HB3.out⟩⟩
      case measure => simp [intOf]; omega
    · have hd : decide ((i : Int) < (n : Int)) = false := by simp; omega
      have hin : i = n := by omega
      subst hin
      have HL : Hid (L.take i = L) := Lib.hid (List.take_of_length_le (by rw [HE.out.len]; exact Nat.le_refl _))
      go_wp2
      go_ret
      exact ⟨A', i, c', rfl, by rw [← HL.out]; exact HK.out.1.elems, bstep HB_0.out (HK.out.2.mono (by omega))⟩
end
set_option maxRecDepth 100000 in
set_option maxHeartbeats 1000000 in
theorem oldest_any (w : World) (hE : Elems TxnE w w.heap.size A n c L) :
    Calls Try.prog 18 #[.agg #[.slice A n c, .int .i64 nx]] w (GivesOld w L) := by
  have HE := Lib.hid hE
  have hcap := Nat.le_trans hE.cap.1 hE.cap.2
  unfold maxLen at hcap
  clear hE
  go_enter Try.func18, Try.ntmps18
  go_wp2_with fail
  generalize hW0 : (w).alloc (.cells #[.slice A n c, .int .i64 nx] 28) = W0
  obtain ⟨HS0_0, HB_0, hw_0, hz0⟩ := new1 hW0
  clear hW0 hz0
  have f0_0 := str2 HS0_0.out
  have hl0_0 := HS0_0.out.lt
  go_loopw [4, 5, 6] (fun fv bv i wr => ∃ (k : Nat) (v : Int) (b : Bool), k ≤ n ∧ fv = .int .i64 v ∧ bv = .bool b ∧ i = .int .i64 (k : Int) ∧ wr = W0 ∧ Hid (TxnP.Old (L.take k) v b)) (fun _ _ i _ => n - (intOf i).toNat)
  case atStart => exact ⟨0, 0, false, Nat.zero_le _, rfl, rfl, rfl, rfl, Lib.hid (TxnP.old_take_none L)⟩
  case round =>
    obtain ⟨i, v, b, hi, rfl, rfl, rfl, rfl, HG⟩ := hrel
    by_cases hlt : i < n
    · have hd : decide ((i : Int) < (n : Int)) = true := by simpa using hlt
      obtain ⟨bb, o, x, rfl, hb, hx, q0, q1, q2, q3⟩ := txn_at HE.out hlt
      replace q1 := (HB_0.out.cell (p := ⟨bb, o + i * 4 + 1, none⟩) hb).trans q1
      replace q2 := (HB_0.out.cell (p := ⟨bb, o + i * 4 + 2, none⟩) hb).trans q2
      have hbl : bb < wr.heap.size := by omega
      clear q0 q3
      by_cases hl0 : x.last = 0
      · have hd2 : (x.last != 0) = false := by simpa using hl0
        have HN := Lib.hid (TxnP.olds_stay HG.out hx (.inl hl0))
        clear HG hx hl0
        go_wp2
        go_roundw
        case rel => exact ⟨i + 1, v, b, by omega, rfl, rfl, by go_num, by trivial, HN.out⟩
        case measure => simp [intOf]; omega
      · have hd2 : (x.last != 0) = true := by simpa using hl0
        by_cases hbv : b = false
        · subst hbv
          have HN := Lib.hid (TxnP.olds_take HG.out hx hl0 (.inl rfl))
          clear HG hx hl0
          go_wp2
          go_roundw
          case rel => exact ⟨i + 1, x.first, true, by omega, rfl, rfl, by go_num, by trivial, HN.out⟩
          case measure => simp [intOf]; omega
        · obtain rfl : b = true := by simpa using hbv
          by_cases hv : x.first < v
          · have hd3 : decide (x.first < v) = true := by simpa using hv
            have HN := Lib.hid (TxnP.olds_take HG.out hx hl0 (.inr hv))
            clear HG hx hl0 hbv hv
            go_wp2
            go_roundw
            case rel => exact ⟨i + 1, x.first, true, by omega, rfl, rfl, by go_num, by trivial, HN.out⟩
            case measure => simp [intOf]; omega
          · have hd3 : decide (x.first < v) = false := by simpa using hv
            have HN := Lib.hid (TxnP.olds_stay HG.out hx (.inr ⟨rfl, hv⟩))
            clear HG hx hl0 hbv hv
            go_wp2
            go_roundw
            case rel => exact ⟨i + 1, v, true, by omega, rfl, rfl, by go_num, by trivial, HN.out⟩
            case measure => simp [intOf]; omega
    · have hd : decide ((i : Int) < (n : Int)) = false := by simp; omega
      have hin : i = n := by omega
      subst hin
      have HL : Hid (L.take i = L) := Lib.hid (List.take_of_length_le (by rw [HE.out.len]; exact Nat.le_refl _))
      go_wp2
      refine bodyPost_ret (v := .tuple #[.int .i64 v, .bool b]) (by simp [results, Try.results18, go_sem, *]) rfl ⟨v, b, rfl, by rw [← HL.out]; exact HG.out, HB_0.out⟩
set_option maxRecDepth 100000 in
set_option maxHeartbeats 1000000 in
theorem sameList_any {A' : Option Addr} {n' c' : Nat} {l l' : List Int} (w : World) (hE : Elems IntE w w.heap.size A n c l) (hE' : Elems IntE w w.heap.size A' n' c' l') :
    Calls Try.prog 13 #[.slice A n c, .slice A' n' c'] w fun e w' => e = .returned (.bool (decide (l = l'))) ∧ Below w.heap.size w w' := by
  have HE := Lib.hid hE
  have HE' := Lib.hid hE'
  have hcap := Nat.le_trans hE.cap.1 hE.cap.2
  unfold maxLen at hcap
  have hln := hE.len
  have hln' := hE'.len
  clear hE hE'
  by_cases hnn : n = n'
  · subst hnn
    go_enter Try.func13, Try.ntmps13
    go_wp2
    go_loopw [5] (fun i wr => ∃ k : Nat, k ≤ n ∧ i = .int .i64 (k : Int) ∧ Hid (l.take k = l'.take k ∧ Below w.heap.size w wr)) (fun i _ => n - (intOf i).toNat)
    case atStart => exact ⟨0, Nat.zero_le _, rfl, Lib.hid ⟨rfl, bsame w⟩⟩
    case round =>
      obtain ⟨i, hi, rfl, HG⟩ := hrel
      have HB := Lib.hid HG.out.2
      have hsz := HB.out.size
      by_cases hlt : i < n
      · have hd : decide ((i : Int) < (n : Int)) = true := by simpa using hlt
        obtain ⟨b, o, x, rfl, hb, hx, q0⟩ := int_at HE.out hlt
        obtain ⟨b', o', x', rfl, hb', hx', q0'⟩ := int_at HE'.out hlt
        replace q0 := (HB.out.cell (p := ⟨b, o + i, none⟩) hb).trans q0
        replace q0' := (HB.out.cell (p := ⟨b', o' + i, none⟩) hb').trans q0'
        by_cases he : x = x'
        · subst he
          have hd2 : (x != x) = false := by simp
          have HN : Hid (l.take (i + 1) = l'.take (i + 1)) := Lib.hid (by rw [List.take_add_one, List.take_add_one, hx, hx', HG.out.1])
          clear HG hx hx' hln hln'
          go_wp2_with (first | go_quiet (fail) | go_in)
          go_wp2
          go_roundw
          case rel => exact ⟨i + 1, by omega, by go_num, Lib.hid ⟨HN.out, drewN_below HB.out _⟩⟩
          case measure => simp [intOf]; omega
        · have hd2 : (x != x') = true := by simpa using he
          have HN : Hid (decide (l = l') = false) := Lib.hid (by simp only [decide_eq_false_iff_not]; rintro rfl; rw [hx] at hx'; cases hx'; exact he rfl)
          clear HG hx hx' hln hln' he
          go_wp2_with (first | go_quiet (fail) | go_in)
          go_wp2
          go_ret
          exact ⟨by rw [HN.out]; rfl, drewN_below HB.out _⟩
      · have hd : decide ((i : Int) < (n : Int)) = false := by simp; omega
        have hin : i = n := by omega
        subst hin
        have HN : Hid (decide (l = l') = true) := Lib.hid (by
          have := HG.out.1
          rw [List.take_of_length_le (by omega), List.take_of_length_le (by omega)] at this
          simpa using this)
        go_wp2
        go_ret
        exact ⟨by rw [HN.out]; rfl, HB.out⟩
  · have hd : ((n : Int) != (n' : Int)) = true := by simp; omega
    have HN : Hid (decide (l = l') = false) := Lib.hid (by simp only [decide_eq_false_iff_not]; rintro rfl; omega)
    go_enter Try.func13, Try.ntmps13
    go_wp2
    go_ret
    exact ⟨by rw [HN.out]; rfl, bsame _⟩
end Go.Proofs.Ytbcpepjedhafbaa.RefTxn
