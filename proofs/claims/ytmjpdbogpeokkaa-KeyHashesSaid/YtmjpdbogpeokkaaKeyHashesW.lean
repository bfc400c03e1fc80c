/-
  The walk of KeyHashes: the Go text returns true for every two texts and every number, and writes nothing that was there.
-/
import Derived.Test.YtmjpdbogpeokkaaOpen
import Derived.Test.YtmjpdbogpeokkaaLive04
namespace Go.Proofs.Ytmjpdbogpeokkaa.keyHashes
open Go.RowKit

theorem step64 (a b : List UInt8) (s : ByteArray) (k : Nat) (h : k < s.size) (e : s.data.toList = b) :
    KeyP.hash (a ++ b.take (k + 1)) = KeyP.hstep (KeyP.hash (a ++ b.take k)) s[k] := by
  subst e
  rw [KeyP.hash_append, KeyP.hash_append]
  exact KeyP.foldl_take KeyP.hstep _ s k h

theorem bucket_ok (l : List UInt8) (n : Int) : (n < 1 → KeyP.bucket l n = 0) ∧ (1 ≤ n → 0 ≤ KeyP.bucket l n ∧ KeyP.bucket l n < n) := by
  refine ⟨fun h => KeyP.bucket_lo l n h, fun h => ?_⟩
  rw [KeyP.bucket_hi l n (by omega)]
  exact ⟨Int.emod_nonneg _ (by omega), Int.emod_lt_of_pos _ (by omega)⟩

set_option maxHeartbeats 1000000 in
theorem walk (v0 v1 v2 : Value) (a0 a1 : ByteArray) (a2 : Int) (w : World) (g0 : RStr w v0 a0) (g1 : RStr w v1 a1) (g2 : RInt w v2 a2) :
    Calls Try.prog 4 #[v0, v1, v2] w fun e w' => e = .returned (.bool true) ∧ Below w.heap.size w w' := by
  obtain ⟨rfl, w0⟩ := g0
  obtain ⟨rfl, w1⟩ := g1
  obtain ⟨rfl, hx1, hx2⟩ := g2
  by_cases hbig : 300 < a0.size
  · go_enter Try.func4, Try.ntmps4
    go_wp2_with (go_at_call 7; refine (Live04.live_any _).mono ?_; rintro e w' ⟨rfl, hb⟩)
    go_ret
    exact ⟨rfl, hb⟩
  by_cases hbig1 : 300 < a1.size
  · go_enter Try.func4, Try.ntmps4
    go_wp2_with (go_at_call 7; refine (Live04.live_any _).mono ?_; rintro e w' ⟨rfl, hb⟩)
    go_ret
    exact ⟨rfl, hb⟩
  have d0 : decide ((300 : Int) < (a0.size : Int)) = false := by simp; omega
  have d1 : decide ((300 : Int) < (a1.size : Int)) = false := by simp; omega
  go_enter Try.func4, Try.ntmps4
  have hh0 := KeyP.hash_lt a0.data.toList
  go_wp2_with (go_at_call 11; refine (Key.hash_any _ _ w0).mono ?_; rintro e w' ⟨rfl, rfl⟩)
  go_loop [7, 8] (fun n i => ∃ k : Nat, k ≤ a1.size ∧ i = .int .i64 k ∧ n = .int .u64 (KeyP.hash (a0.data.toList ++ a1.data.toList.take k))) (fun _ i => a1.size - (intOf i).toNat)
  case atStart => exact ⟨0, Nat.zero_le _, rfl, by simp⟩
  case round =>
    obtain ⟨k, hk, rfl, rfl⟩ := hrel
    by_cases hlt : k < a1.size
    · have hh := KeyP.hash_lt (a0.data.toList ++ a1.data.toList.take k)
      have HS := Lib.hid (step64 a0.data.toList a1.data.toList a1 k hlt rfl)
      have HR := Lib.hid (KeyP.round64 _ hh a1[k])
      go_wp2
      go_round
      case rel => exact ⟨k + 1, by omega, by go_num, by rw [HS.out, ← HR.out]⟩
      case measure => simp [intOf]; omega
    · have et : a1.data.toList.take k = a1.data.toList := List.take_of_length_le (by simp; omega)
      rw [et]
      clear et
      have hb1 := KeyP.bucket_one a0.data.toList
      have hh2 := KeyP.hash_lt (a0.data.toList ++ a1.data.toList)
      have hsz : (a0 ++ a1).size ≤ maxLen := by unfold maxLen; simp; omega
      by_cases hn : a2 < 1
      · have hbn := KeyP.bucket_lo a0.data.toList a2 hn
        go_wp2_with (first
          | (go_at_call 13; refine (Key.bucket_any _ _ _ w0 (by omega) (by omega)).mono ?_; rintro e w' ⟨rfl, rfl⟩)
          | (go_at_call 11; refine (Key.hash_any _ _ hsz).mono ?_; rintro e w' ⟨rfl, rfl⟩)
          | (go_at_call 7; refine (Live04.live_any _).mono ?_; rintro e w' ⟨rfl, hb⟩))
        go_ret
        exact ⟨rfl, hb⟩
      · obtain ⟨hb2, hb3⟩ := (bucket_ok a0.data.toList a2).2 (by omega)
        go_wp2_with (first
          | (go_at_call 13; refine (Key.bucket_any _ _ _ w0 (by omega) (by omega)).mono ?_; rintro e w' ⟨rfl, rfl⟩)
          | (go_at_call 11; refine (Key.hash_any _ _ hsz).mono ?_; rintro e w' ⟨rfl, rfl⟩)
          | (go_at_call 7; refine (Live04.live_any _).mono ?_; rintro e w' ⟨rfl, hb⟩))
        go_ret
        exact ⟨rfl, hb⟩
end Go.Proofs.Ytmjpdbogpeokkaa.keyHashes
