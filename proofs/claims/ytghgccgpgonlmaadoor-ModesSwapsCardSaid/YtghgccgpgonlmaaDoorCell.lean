/-
  The walks of package cell and of its reference.
-/
import Derived.Test.YtghgccgpgonlmaaDoorProg
import Derived.Test.YtghgccgpgonlmaaDoorSame
import Derived.Test.YtghgccgpgonlmaaDoorBe
import Derived.Test.YtghgccgpgonlmaaDoorPCell
namespace Go.Proofs.YtghgccgpgonlmaaDoor.CellW
open Go.RowKit

set_option maxHeartbeats 1000000 in
theorem right_any (A : Option Addr) (n cap : Nat) (c : Cell) (w : World) (hl : c.data.length = n) (hn : n ≤ maxLen) :
    Calls Tryd.prog 16 #[.agg #[.int .i64 c.kind, .slice A n cap, .int .i64 c.lo, .int .i64 c.hi, .int .i64 c.val]] w fun e w' => e = .returned (.bool (CellP.right c)) ∧ Below w.heap.size w w' := by
  obtain ⟨kind, data, lo, hi, val⟩ := c
  dsimp only at *
  subst hl
  unfold maxLen at hn
  by_cases hk : kind = 1
  · subst hk
    go_enter Tryd.func16, Tryd.ntmps16
    go_wp2
    all_goals go_ret
    all_goals refine ⟨congrArg (fun b => Ending.returned (.bool b)) ?_, balloc (bsame _) _⟩
    all_goals simp_all [CellP.right]
    all_goals omega
  · go_enter Tryd.func16, Tryd.ntmps16
    go_wp2
    all_goals go_ret
    all_goals refine ⟨congrArg (fun b => Ending.returned (.bool b)) ?_, balloc (bsame _) _⟩
    all_goals simp_all [CellP.right]
    all_goals omega

theorem code_of (b : Bool) (n : Int) (h : n = CellP.code b) : Ending.returned (.int .i64 n) = Ending.returned (.int .i64 (CellP.code b)) := by rw [h]

set_option maxHeartbeats 1000000 in
theorem refSame_any (A A' : Option Addr) (n cap n' cap' B B' : Nat) (c d : Cell) (w : World) (h : Bytes w B A n cap c.data) (h' : Bytes w B' A' n' cap' d.data) (hB : B ≤ w.heap.size) (hB' : B' ≤ w.heap.size) :
    Calls Tryd.prog 31 #[.agg #[.int .i64 c.kind, .slice A n cap, .int .i64 c.lo, .int .i64 c.hi, .int .i64 c.val], .agg #[.int .i64 d.kind, .slice A' n' cap', .int .i64 d.lo, .int .i64 d.hi, .int .i64 d.val]] w
      fun e w' => e = .returned (.bool (CellP.same c d)) ∧ Below w.heap.size w w' := by
  obtain ⟨kind, data, lo, hi, val⟩ := c
  obtain ⟨kind', data', lo', hi', val'⟩ := d
  dsimp only at *
  have H := Lib.hid h
  have H' := Lib.hid h'
  clear h h'
  go_enter Tryd.func31, Tryd.ntmps31
  go_wp2_with (go_at_call 43; refine (Same.same_any _ _ _ _ _ _ _ _ _ _ _ ((H.out.alloc hB _).alloc (by simp; omega) _) ((H'.out.alloc hB' _).alloc (by simp; omega) _)).mono ?_; rintro e w' ⟨rfl, rfl⟩)
  all_goals go_ret
  all_goals refine ⟨congrArg (fun b => Ending.returned (.bool b)) ?_, balloc (balloc (bsame _) _) _⟩
  all_goals simp_all [CellP.same]

set_option maxHeartbeats 1000000 in
theorem same_any (A A' : Option Addr) (n cap n' cap' B B' : Nat) (c d : Cell) (w : World) (h : Bytes w B A n cap c.data) (h' : Bytes w B' A' n' cap' d.data) (hB : B ≤ w.heap.size) (hB' : B' ≤ w.heap.size) :
    Calls Tryd.prog 27 #[.agg #[.int .i64 c.kind, .slice A n cap, .int .i64 c.lo, .int .i64 c.hi, .int .i64 c.val], .agg #[.int .i64 d.kind, .slice A' n' cap', .int .i64 d.lo, .int .i64 d.hi, .int .i64 d.val]] w
      fun e w' => e = .returned (.bool (CellP.same c d)) ∧ Below w.heap.size w w' := by
  obtain ⟨kind, data, lo, hi, val⟩ := c
  obtain ⟨kind', data', lo', hi', val'⟩ := d
  dsimp only at *
  have H := Lib.hid h
  have H' := Lib.hid h'
  clear h h'
  go_enter Tryd.func27, Tryd.ntmps27
  go_wp2_with (go_at_call 38; refine (Same.equal_any _ _ _ _ _ _ _ _ _ _ _ ((H.out.alloc hB _).alloc (by simp; omega) _) ((H'.out.alloc hB' _).alloc (by simp; omega) _)).mono ?_; rintro e w' ⟨rfl, rfl⟩)
  all_goals go_ret
  all_goals refine ⟨congrArg (fun b => Ending.returned (.bool b)) ?_, balloc (balloc (bsame _) _) _⟩
  all_goals simp_all [CellP.same]

end Go.Proofs.YtghgccgpgonlmaaDoor.CellW
