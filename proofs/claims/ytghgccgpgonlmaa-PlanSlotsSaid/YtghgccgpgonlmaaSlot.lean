/-
  The walks of package slot and of its reference that make no array.
-/
import Derived.Test.YtghgccgpgonlmaaProg
import Derived.Test.YtghgccgpgonlmaaCellF
import Derived.Test.YtghgccgpgonlmaaKey
import Derived.Test.YtghgccgpgonlmaaPSlot
import Derived.Test.YtghgccgpgonlmaaHeld
namespace Go.Proofs.Ytghgccgpgonlmaa.SlotW
open Go.RowKit

/-- an item as a value -/
abbrev itemV (A : Option Addr) (n cap : Nat) (x : Item) : Value := .agg #[.int .i64 x.state, .string x.key, .int .i64 x.cell.kind, .slice A n cap, .int .i64 x.cell.lo, .int .i64 x.cell.hi, .int .i64 x.cell.val]

set_option maxHeartbeats 1000000 in
theorem refSame_any (A A' : Option Addr) (n cap n' cap' B B' : Nat) (x y : Item) (w : World) (h : Bytes w B A n cap x.cell.data) (h' : Bytes w B' A' n' cap' y.cell.data) (hB : B ≤ w.heap.size) (hB' : B' ≤ w.heap.size) :
    Calls Try.prog 38 #[itemV A n cap x, itemV A' n' cap' y] w fun e w' => e = .returned (.bool (SlotP.same x y)) ∧ Below w.heap.size w w' := by
  obtain ⟨s, k, kind, data, lo, hi, val⟩ := x
  obtain ⟨s', k', kind', data', lo', hi', val'⟩ := y
  dsimp only at *
  have H := Lib.hid h
  have H' := Lib.hid h'
  clear h h'
  go_enter Try.func38, Try.ntmps38
  go_wp2_with (go_at_call 30; refine (CellF.refSame _ _ _ _ _ _ _ _ _ _ _ _ _ _ _ _ _ _ _ ((H.out.alloc hB _).alloc (by simp; omega) _) ((H'.out.alloc hB' _).alloc (by simp; omega) _) (by simp; omega) (by simp; omega)).mono ?_; rintro e w' ⟨rfl, hb⟩)
  all_goals go_ret
  all_goals refine ⟨congrArg (fun b => Ending.returned (.bool b)) ?_, by first | exact bstep (balloc (balloc (bsame _) _) _) hb | exact balloc (balloc (bsame _) _) _⟩
  all_goals simp_all [SlotP.same]

/-- against the empty slot -/
theorem empty_bytes (w : World) : Bytes w 0 none 0 0 (SlotP.none).cell.data := Bytes.none_ _ _

set_option maxHeartbeats 1000000 in
theorem right_any (A : Option Addr) (n cap B : Nat) (x : Item) (w : World) (h : Bytes w B A n cap x.cell.data) (hB : B ≤ w.heap.size) (hk : x.key.size ≤ maxLen) :
    Calls Try.prog 34 #[itemV A n cap x] w fun e w' => e = .returned (.bool (SlotP.right x)) ∧ Below w.heap.size w w' := by
  have HS := Lib.hid (fun W (hW : Bytes W B A n cap x.cell.data) (hB : B ≤ W.heap.size) => refSame_any A none n cap 0 0 B 0 x SlotP.none W hW (empty_bytes W) hB (Nat.zero_le _))
  have HC := Lib.hid (fun W => CellW.right_any A n cap x.cell W h.len (Nat.le_trans h.2.1 h.2.2.1))
  have HK := Lib.hid (fun W => Key.right_any x.key W hk)
  have H := Lib.hid h
  clear h
  obtain ⟨s, k, kind, data, lo, hi, val⟩ := x
  dsimp only at *
  by_cases hs : s = 0
  · subst hs
    have HR : Hid (SlotP.same ⟨0, k, kind, data, lo, hi, val⟩ SlotP.none = SlotP.right ⟨0, k, kind, data, lo, hi, val⟩) := Lib.hid (by simp [SlotP.right])
    go_enter Try.func34, Try.ntmps34
    go_wp2_with fail
    refine (HS.out _ (H.out.alloc hB _) (by simp; omega)).mono ?_
    rintro e w1 ⟨rfl, hb⟩
    go_wp2_with fail
    go_ret
    exact ⟨congrArg (fun b => Ending.returned (.bool b)) HR.out, bstep (balloc (bsame _) _) hb⟩
  · have hs0 : (s == 0) = false := by simpa using hs
    go_enter Try.func34, Try.ntmps34
    go_wp2_with (first
      | (go_at_call 60; refine (HK.out _).mono ?_; rintro e w1 ⟨rfl, rfl⟩)
      | (go_at_call 63; refine (HC.out _).mono ?_; rintro e w1 ⟨rfl, hb⟩))
    all_goals go_ret
    all_goals refine ⟨congrArg (fun b => Ending.returned (.bool b)) ?_, by first | exact bstep (balloc (bsame _) _) hb | exact balloc (bsame _) _⟩
    all_goals simp_all [SlotP.right]
end Go.Proofs.Ytghgccgpgonlmaa.SlotW
