/-
  The walk of KeyChecks: the Go text returns true for every text and every number, and writes nothing that was there.
-/
import Derived.Test.YtmjpdbogpeokkaaOpen
import Derived.Test.YtmjpdbogpeokkaaLive04
namespace Go.Proofs.Ytmjpdbogpeokkaa.keyChecks
open Go.RowKit

set_option maxHeartbeats 1000000 in
theorem walk (v0 v1 : Value) (a0 : ByteArray) (a1 : Int) (w : World) (g0 : RStr w v0 a0) (g1 : RInt w v1 a1) :
    Calls Try.prog 3 #[v0, v1] w fun e w' => e = .returned (.bool true) ∧ Below w.heap.size w w' := by
  obtain ⟨rfl, w0⟩ := g0
  obtain ⟨rfl, hx1, hx2⟩ := g1
  by_cases hbig : 300 < a0.size
  · go_enter Try.func3, Try.ntmps3
    go_wp2_with (go_at_call 7; refine (Live04.live_any _).mono ?_; rintro e w' ⟨rfl, hb⟩)
    go_ret
    exact ⟨rfl, hb⟩
  · cases hr : KeyP.right a0.data.toList
    all_goals
      have hc := KeyP.code_true
      have hd := KeyP.code_false
      go_enter Try.func3, Try.ntmps3
      go_wp2_with (first
        | (go_at_call 11; refine (Key.hash_any _ _ w0).mono ?_; rintro e w' ⟨rfl, rfl⟩)
        | (go_at_call 12; refine (Key.refHash_any _ _ w0).mono ?_; rintro e w' ⟨rfl, rfl⟩)
        | (go_at_call 10; refine (Key.right_any _ _ w0).mono ?_; rintro e w' ⟨rfl, rfl⟩)
        | (go_at_call 13; refine (Key.bucket_any _ _ _ w0 hx1 hx2).mono ?_; rintro e w' ⟨rfl, rfl⟩)
        | (go_at_call 14; refine (Key.refBucket_any _ _ _ w0 hx1 hx2).mono ?_; rintro e w' ⟨rfl, rfl⟩)
        | (go_at_call 9; refine (Key.check_any _ _ w0).mono ?_; rintro e w1 ⟨rfl, hb⟩)
        | (go_at_call 7; refine (Live04.live_any _).mono ?_; rintro e w1 ⟨rfl, hb⟩)
        | (go_at_call 8; refine (Live04.code_any _ _).mono ?_; rintro e w' ⟨rfl, rfl⟩))
      go_ret
      exact ⟨rfl, by repeat (first | exact Below.refl _ _ | refine bstep ?_ (by assumption))⟩

end Go.Proofs.Ytmjpdbogpeokkaa.keyChecks
