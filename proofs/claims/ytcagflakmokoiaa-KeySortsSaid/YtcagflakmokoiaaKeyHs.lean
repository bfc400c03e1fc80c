/-
  The walks of package key and of its reference: hashes and buckets.
-/
import Derived.Test.YtcagflakmokoiaaProg
import Derived.Test.YtcagflakmokoiaaPKey
import Derived.Test.YtcagflakmokoiaaKey
import Derived.Test.YtcagflakmokoiaaMem
namespace Go.Proofs.Ytcagflakmokoiaa.Key
open Go.RowKit

set_option maxHeartbeats 400000 in
theorem hash_any (s : ByteArray) (w : World) (hs : s.size ≤ maxLen) :
    Calls Try.prog 103 #[.string s] w fun e w' => e = .returned (.int .u32 (KeyP.hash s.data.toList)) ∧ w = w' := by
  unfold maxLen at hs
  go_enter Try.func103, Try.ntmps103
  go_wp2
  go_loop [3, 7] (fun n i => ∃ k : Nat, k ≤ s.size ∧ i = .int .i64 k ∧ n = .int .u32 (KeyP.hash (s.data.toList.take k))) (fun _ i => s.size - (intOf i).toNat)
  case atStart => exact ⟨0, Nat.zero_le _, rfl, rfl⟩
  case round =>
    obtain ⟨k, hk, rfl, rfl⟩ := hrel
    by_cases hlt : k < s.size
    · have hh := KeyP.hash_lt (s.data.toList.take k)
      have HS := Lib.hid (KeyP.hash_take s k hlt)
      have HR := Lib.hid (KeyP.round32 _ hh s[k])
      go_wp2
      go_round
      case rel => exact ⟨k + 1, by omega, by go_num, by rw [HS.out, ← HR.out]⟩
      case measure => simp [intOf]; omega
    · go_wp2
      go_ret
      rw [KeyP.hash_all s k hlt]
      exact ⟨rfl, rfl⟩
end Go.Proofs.Ytcagflakmokoiaa.Key
