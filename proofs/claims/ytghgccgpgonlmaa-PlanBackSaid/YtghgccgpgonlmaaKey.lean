/-
  The walks of package key and of its reference: what each function gives, said once.
-/
import Derived.Test.YtghgccgpgonlmaaProg
import Derived.Test.YtghgccgpgonlmaaPKey
import Derived.Test.YtghgccgpgonlmaaMem
namespace Go.Proofs.Ytghgccgpgonlmaa.Key
open Go.RowKit

set_option maxHeartbeats 400000 in
theorem seen_any (c : Int) (w : World) :
    Calls Try.prog 82 #[.int .i32 c] w fun e w' => e = .returned (.bool (decide (33 ≤ c) && decide (c ≤ 126))) ∧ w = w' := by
  go_enter Try.func82, Try.ntmps82
  go_wp2
  all_goals go_ret
  all_goals simp_all
  all_goals omega

set_option maxHeartbeats 400000 in
theorem right_any (s : ByteArray) (w : World) (hs : s.size ≤ maxLen) :
    Calls Try.prog 60 #[.string s] w fun e w' => e = .returned (.bool (KeyP.right s.data.toList)) ∧ w = w' := by
  unfold maxLen at hs
  go_enter Try.func60, Try.ntmps60
  go_wp2
  go_loop [3] (fun i => ∃ k : Nat, k ≤ s.size ∧ i = .int .i64 k ∧ (s.data.toList.take k).all KeyP.okB = true) (fun i => s.size - (intOf i).toNat)
  case atStart => exact ⟨0, Nat.zero_le _, rfl, rfl⟩
  case round =>
    obtain ⟨k, hk, rfl, ha⟩ := hrel
    have HA := Lib.hid ha
    clear ha
    by_cases hlt : k < s.size
    · have hlo := KeyP.okB_lo s[k]
      have hhi := KeyP.okB_hi s[k]
      have hok := KeyP.okB_true s[k]
      have HLO := Lib.hid hlo
      have HHI := Lib.hid hhi
      have HOK := Lib.hid hok
      clear hlo hhi hok
      go_wp2
      · go_ret
        have h : ((s[k].toNat : Int) < 33) ∨ (126 < (s[k].toNat : Int)) := by assumption
        rw [KeyP.not_right_at s k hlt (by rcases h with h | h; exact HLO.out (by omega); exact HHI.out (by omega))]
        exact ⟨rfl, rfl⟩
      · go_round
        case rel => exact ⟨k + 1, by omega, by go_num, by rw [KeyP.all_take s k hlt, HA.out, HOK.out (by omega) (by omega)]; rfl⟩
        case measure => simp [intOf]; omega
      · go_ret
        have h : ((s[k].toNat : Int) < 33) := by assumption
        rw [KeyP.not_right_at s k hlt (HLO.out (by omega))]
        exact ⟨rfl, rfl⟩
    · go_wp2
      · go_ret
        have h : 0 < s.size := by assumption
        rw [KeyP.right_eq s (KeyP.all_of_take s k hlt HA.out) h]
        exact ⟨rfl, rfl⟩
      · go_ret
        have h : ¬ 0 < s.size := by assumption
        rw [KeyP.not_right_len s (by omega)]
        exact ⟨rfl, rfl⟩

set_option maxHeartbeats 400000 in
theorem check_any (s : ByteArray) (w : World) (hs : s.size ≤ maxLen) :
    Calls Try.prog 59 #[.string s] w fun e w' => e = .returned (.int .i64 (KeyP.code (KeyP.right s.data.toList))) ∧ Below w.heap.size w w' := by
  unfold maxLen at hs
  by_cases h0 : s.size < 1
  · go_enter Try.func59, Try.ntmps59
    go_wp2
    go_ret
    rw [KeyP.not_right_len s (by omega)]
    exact ⟨rfl, Below.refl _ _⟩
  by_cases h1 : 16 < s.size
  · go_enter Try.func59, Try.ntmps59
    go_wp2
    go_ret
    rw [KeyP.not_right_len s (by omega)]
    exact ⟨rfl, Below.refl _ _⟩
  go_enter Try.func59, Try.ntmps59
  go_wp2
  go_loopw [2] (fun n w' => ∃ (pos : Nat), w' = w.iter s pos ∧ n = .int .i64 0 ∧ pos ≤ s.size ∧ (s.data.toList.take pos).all KeyP.okB = true) (fun _ w' => s.size - w'.iterPos w.heap.size)
  case atStart => exact ⟨0, rfl, rfl, Nat.zero_le _, rfl⟩
  case round =>
    obtain ⟨pos, rfl, rfl, hp, ha⟩ := hrel
    have HA := Lib.hid ha
    clear ha
    by_cases hlt : pos < s.size
    · by_cases hascii : s[pos].toNat < 128
      · have hnx : ∀ ty, (Instr.next (.pointer (some ⟨w.heap.size, 0, none⟩)) true ty).run Try.prog (w.iter s pos) = _ := fun ty => run_next_ascii w s pos ty hlt hascii
        go_wp2_with (go_at_call 82; refine (seen_any _ _).mono ?_; rintro e w' ⟨rfl, rfl⟩)
        · go_ret
          have h : (!decide (33 ≤ (s[pos].toNat : Int))) = true ∨ (!decide ((s[pos].toNat : Int) ≤ 126)) = true := by assumption
          rw [KeyP.not_right_at s pos hlt (by rcases h with h | h; exact KeyP.okB_lo _ (by simp at h; omega); exact KeyP.okB_hi _ (by simp at h; omega))]
          exact ⟨rfl, (Below.refl _ _).alloc (Nat.le_refl _) _⟩
        · have h : (!decide (33 ≤ (s[pos].toNat : Int))) = false ∧ (!decide ((s[pos].toNat : Int) ≤ 126)) = false := by assumption
          have hok : KeyP.okB s[pos] = true := KeyP.okB_true _ (by simp at h; omega) (by simp at h; omega)
          go_roundw
          case rel => exact ⟨pos + 1, rfl, rfl, by omega, by rw [KeyP.all_take s pos hlt, HA.out, hok]; rfl⟩
          case measure => simp; omega
      · have hnx : ∀ ty, (Instr.next (.pointer (some ⟨w.heap.size, 0, none⟩)) true ty).run Try.prog (w.iter s pos) = _ := fun ty => run_next_any w s pos ty hlt
        have hd := (decode_high s pos hlt (by omega)).1
        go_wp2_with (go_at_call 82; refine (seen_any _ _).mono ?_; rintro e w' ⟨rfl, rfl⟩)
        · go_ret
          rw [KeyP.not_right_at s pos hlt (KeyP.okB_hi _ (by omega))]
          exact ⟨rfl, (Below.refl _ _).alloc (Nat.le_refl _) _⟩
        · have h : (!decide (33 ≤ ((Utf8.decode s pos).1 : Int))) = false ∧ (!decide (((Utf8.decode s pos).1 : Int) ≤ 126)) = false := by assumption
          simp at h
          omega
    · have hnx : ∀ ty, (Instr.next (.pointer (some ⟨w.heap.size, 0, none⟩)) true ty).run Try.prog (w.iter s pos) = _ := fun ty => run_next_end w s pos ty hlt
      go_wp2
      go_ret
      rw [KeyP.right_of s (KeyP.all_of_take s pos hlt HA.out) (by omega) (by omega)]
      exact ⟨rfl, (Below.refl _ _).alloc (Nat.le_refl _) _⟩

end Go.Proofs.Ytghgccgpgonlmaa.Key
