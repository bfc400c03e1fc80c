/-
  The walks of package key and of its reference: what each function gives, said once.
-/
import Derived.Test.YtmjpdbogpeokkaaProg
import Derived.Test.YtmjpdbogpeokkaaPKey
import Derived.Test.YtmjpdbogpeokkaaMem
namespace Go.Proofs.Ytmjpdbogpeokkaa.Key
open Go.RowKit

set_option maxHeartbeats 400000 in
theorem seen_any (c : Int) (w : World) :
    Calls Try.prog 22 #[.int .i32 c] w fun e w' => e = .returned (.bool (decide (33 ≤ c) && decide (c ≤ 126))) ∧ w = w' := by
  go_enter Try.func22, Try.ntmps22
  go_wp2
  all_goals go_ret
  all_goals simp_all
  all_goals omega

set_option maxHeartbeats 400000 in
theorem hash_any (s : ByteArray) (w : World) (hs : s.size ≤ maxLen) :
    Calls Try.prog 11 #[.string s] w fun e w' => e = .returned (.int .u32 (KeyP.hash s.data.toList)) ∧ w = w' := by
  unfold maxLen at hs
  go_enter Try.func11, Try.ntmps11
  go_wp2
  go_loop [3, 7] (fun n i => ∃ k : Nat, k ≤ s.size ∧ i = .int .i64 k ∧ n = .int .u32 (KeyP.hash (s.data.toList.take k))) (fun _ i => s.size - (intOf i).toNat)
  case atStart => exact ⟨0, Nat.zero_le _, rfl, rfl⟩
  case round =>
    obtain ⟨k, hk, rfl, rfl⟩ := hrel
    by_cases hlt : k < s.size
    · have hh := KeyP.hash_lt (s.data.toList.take k)
      have HS := Lib.hid (KeyP.hash_take s k hlt)
      have HR := Lib.hid (KeyP.round32 _ hh s[k])
      go_wp2
      go_round
      case rel => exact ⟨k + 1, by omega, by go_num, by rw [HS.out, ← HR.out]⟩
      case measure => simp [intOf]; omega
    · go_wp2
      go_ret
      rw [KeyP.hash_all s k hlt]
      exact ⟨rfl, rfl⟩

set_option maxHeartbeats 400000 in
theorem refHash_any (s : ByteArray) (w : World) (hs : s.size ≤ maxLen) :
    Calls Try.prog 12 #[.string s] w fun e w' => e = .returned (.int .u32 (KeyP.hash s.data.toList)) ∧ w = w' := by
  unfold maxLen at hs
  go_enter Try.func12, Try.ntmps12
  go_wp2
  go_loop [3, 4] (fun n i => ∃ k : Nat, k ≤ s.size ∧ i = .int .i64 k ∧ n = .int .u64 (KeyP.hash (s.data.toList.take k))) (fun _ i => s.size - (intOf i).toNat)
  case atStart => exact ⟨0, Nat.zero_le _, rfl, rfl⟩
  case round =>
    obtain ⟨k, hk, rfl, rfl⟩ := hrel
    by_cases hlt : k < s.size
    · have hh := KeyP.hash_lt (s.data.toList.take k)
      have HS := Lib.hid (KeyP.hash_take s k hlt)
      have HR := Lib.hid (KeyP.round64 _ hh s[k])
      go_wp2
      go_round
      case rel => exact ⟨k + 1, by omega, by go_num, by rw [HS.out, ← HR.out]⟩
      case measure => simp [intOf]; omega
    · have hh := KeyP.hash_lt (s.data.toList.take k)
      go_wp2
      go_ret
      rw [KeyP.hash_all s k hlt]
      exact ⟨rfl, rfl⟩

set_option maxHeartbeats 400000 in
theorem right_any (s : ByteArray) (w : World) (hs : s.size ≤ maxLen) :
    Calls Try.prog 10 #[.string s] w fun e w' => e = .returned (.bool (KeyP.right s.data.toList)) ∧ w = w' := by
  unfold maxLen at hs
  go_enter Try.func10, Try.ntmps10
  go_wp2
  go_loop [3] (fun i => ∃ k : Nat, k ≤ s.size ∧ i = .int .i64 k ∧ (s.data.toList.take k).all KeyP.okB = true) (fun i => s.size - (intOf i).toNat)
  case atStart => exact ⟨0, Nat.zero_le _, rfl, rfl⟩
  case round =>
    obtain ⟨k, hk, rfl, ha⟩ := hrel
    have HA := Lib.hid ha
    clear ha
    by_cases hlt : k < s.size
    · have hlo := KeyP.okB_lo s[k]
      have hhi := KeyP.okB_hi s[k]
      have hok := KeyP.okB_true s[k]
      have HLO := Lib.hid hlo
      have HHI := Lib.hid hhi
      have HOK := Lib.hid hok
      clear hlo hhi hok
      go_wp2
      · go_ret
        have h : ((s[k].toNat : Int) < 33) ∨ (126 < (s[k].toNat : Int)) := by assumption
        rw [KeyP.not_right_at s k hlt (by rcases h with h | h; exact HLO.out (by omega); exact HHI.out (by omega))]
        exact ⟨rfl, rfl⟩
      · go_round
        case rel => exact ⟨k + 1, by omega, by go_num, by rw [KeyP.all_take s k hlt, HA.out, HOK.out (by omega) (by omega)]; rfl⟩
        case measure => simp [intOf]; omega
      · go_ret
        have h : ((s[k].toNat : Int) < 33) := by assumption
        rw [KeyP.not_right_at s k hlt (HLO.out (by omega))]
        exact ⟨rfl, rfl⟩
    · go_wp2
      · go_ret
        have h : 0 < s.size := by assumption
        rw [KeyP.right_eq s (KeyP.all_of_take s k hlt HA.out) h]
        exact ⟨rfl, rfl⟩
      · go_ret
        have h : ¬ 0 < s.size := by assumption
        rw [KeyP.not_right_len s (by omega)]
        exact ⟨rfl, rfl⟩

set_option maxHeartbeats 400000 in
theorem check_any (s : ByteArray) (w : World) (hs : s.size ≤ maxLen) :
    Calls Try.prog 9 #[.string s] w fun e w' => e = .returned (.int .i64 (KeyP.code (KeyP.right s.data.toList))) ∧ Below w.heap.size w w' := by
  unfold maxLen at hs
  by_cases h0 : s.size < 1
  · go_enter Try.func9, Try.ntmps9
    go_wp2
    go_ret
    rw [KeyP.not_right_len s (by omega)]
    exact ⟨rfl, Below.refl _ _⟩
  by_cases h1 : 16 < s.size
  · go_enter Try.func9, Try.ntmps9
    go_wp2
    go_ret
    rw [KeyP.not_right_len s (by omega)]
    exact ⟨rfl, Below.refl _ _⟩
  go_enter Try.func9, Try.ntmps9
  go_wp2
  go_loopw [2] (fun n w' => ∃ (pos : Nat), w' = w.iter s pos ∧ n = .int .i64 0 ∧ pos ≤ s.size ∧ (s.data.toList.take pos).all KeyP.okB = true) (fun _ w' => s.size - w'.iterPos w.heap.size)
  case atStart => exact ⟨0, rfl, rfl, Nat.zero_le _, rfl⟩
  case round =>
    obtain ⟨pos, rfl, rfl, hp, ha⟩ := hrel
    have HA := Lib.hid ha
    clear ha
    by_cases hlt : pos < s.size
    · by_cases hascii : s[pos].toNat < 128
      · have hnx : ∀ ty, (Instr.next (.pointer (some ⟨w.heap.size, 0, none⟩)) true ty).run Try.prog (w.iter s pos) = _ := fun ty => run_next_ascii w s pos ty hlt hascii
        go_wp2_with (go_at_call 22; refine (seen_any _ _).mono ?_; rintro e w' ⟨rfl, rfl⟩)
        · go_ret
          have h : (!decide (33 ≤ (s[pos].toNat : Int))) = true ∨ (!decide ((s[pos].toNat : Int) ≤ 126)) = true := by assumption
          rw [KeyP.not_right_at s pos hlt (by rcases h with h | h; exact KeyP.okB_lo _ (by simp at h; omega); exact KeyP.okB_hi _ (by simp at h; omega))]
          exact ⟨rfl, (Below.refl _ _).alloc (Nat.le_refl _) _⟩
        · have h : (!decide (33 ≤ (s[pos].toNat : Int))) = false ∧ (!decide ((s[pos].toNat : Int) ≤ 126)) = false := by assumption
          have hok : KeyP.okB s[pos] = true := KeyP.okB_true _ (by simp at h; omega) (by simp at h; omega)
          go_roundw
          case rel => exact ⟨pos + 1, rfl, rfl, by omega, by rw [KeyP.all_take s pos hlt, HA.out, hok]; rfl⟩
          case measure => simp; omega
      · have hnx : ∀ ty, (Instr.next (.pointer (some ⟨w.heap.size, 0, none⟩)) true ty).run Try.prog (w.iter s pos) = _ := fun ty => run_next_any w s pos ty hlt
        have hd := (decode_high s pos hlt (by omega)).1
        go_wp2_with (go_at_call 22; refine (seen_any _ _).mono ?_; rintro e w' ⟨rfl, rfl⟩)
        · go_ret
          rw [KeyP.not_right_at s pos hlt (KeyP.okB_hi _ (by omega))]
          exact ⟨rfl, (Below.refl _ _).alloc (Nat.le_refl _) _⟩
        · have h : (!decide (33 ≤ ((Utf8.decode s pos).1 : Int))) = false ∧ (!decide (((Utf8.decode s pos).1 : Int) ≤ 126)) = false := by assumption
          simp at h
          omega
    · have hnx : ∀ ty, (Instr.next (.pointer (some ⟨w.heap.size, 0, none⟩)) true ty).run Try.prog (w.iter s pos) = _ := fun ty => run_next_end w s pos ty hlt
      go_wp2
      go_ret
      rw [KeyP.right_of s (KeyP.all_of_take s pos hlt HA.out) (by omega) (by omega)]
      exact ⟨rfl, (Below.refl _ _).alloc (Nat.le_refl _) _⟩

set_option maxHeartbeats 400000 in
theorem bucket_any (s : ByteArray) (n : Int) (w : World) (hs : s.size ≤ maxLen) (h1 : -9223372036854775808 ≤ n) (h2 : n ≤ 9223372036854775807) :
    Calls Try.prog 13 #[.string s, .int .i64 n] w fun e w' => e = .returned (.int .i64 (KeyP.bucket s.data.toList n)) ∧ w = w' := by
  by_cases hn : n < 1
  · go_enter Try.func13, Try.ntmps13
    go_wp2
    go_ret
    rw [KeyP.bucket_lo _ _ hn]
    exact ⟨rfl, rfl⟩
  · have hh := KeyP.hash_lt s.data.toList
    have hge : 1 ≤ n := by omega
    go_enter Try.func13, Try.ntmps13
    go_wp2_with (go_at_call 11; refine (hash_any _ _ hs).mono ?_; rintro e w' ⟨rfl, rfl⟩)
    go_ret
    rw [KeyP.bucket_hi _ _ (by omega)]
    exact ⟨rfl, rfl⟩
set_option maxHeartbeats 400000 in
theorem refBucket_any (s : ByteArray) (n : Int) (w : World) (hs : s.size ≤ maxLen) (h1 : -9223372036854775808 ≤ n) (h2 : n ≤ 9223372036854775807) :
    Calls Try.prog 14 #[.string s, .int .i64 n] w fun e w' => e = .returned (.int .i64 (KeyP.bucket s.data.toList n)) ∧ w = w' := by
  by_cases hn : n < 1
  · go_enter Try.func14, Try.ntmps14
    go_wp2
    go_ret
    rw [KeyP.bucket_lo _ _ hn]
    exact ⟨rfl, rfl⟩
  · have hh := KeyP.hash_lt s.data.toList
    have hge : 1 ≤ n := by omega
    have hm1 : 0 ≤ (KeyP.hash s.data.toList : Int) % n := Int.emod_nonneg _ (by omega)
    have hm2 : (KeyP.hash s.data.toList : Int) % n < n := Int.emod_lt_of_pos _ (by omega)
    go_enter Try.func14, Try.ntmps14
    go_wp2_with (go_at_call 12; refine (refHash_any _ _ hs).mono ?_; rintro e w' ⟨rfl, rfl⟩)
    go_ret
    rw [KeyP.bucket_hi _ _ (by omega)]
    exact ⟨rfl, rfl⟩
end Go.Proofs.Ytmjpdbogpeokkaa.Key
