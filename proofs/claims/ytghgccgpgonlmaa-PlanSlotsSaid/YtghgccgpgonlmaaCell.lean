/-
  The walks of package cell and of its reference.
-/
import Derived.Test.YtghgccgpgonlmaaProg
import Derived.Test.YtghgccgpgonlmaaSame
import Derived.Test.YtghgccgpgonlmaaBe
import Derived.Test.YtghgccgpgonlmaaPCell
namespace Go.Proofs.Ytghgccgpgonlmaa.CellW
open Go.RowKit

set_option maxHeartbeats 1000000 in
theorem right_any (A : Option Addr) (n cap : Nat) (c : Cell) (w : World) (hl : c.data.length = n) (hn : n ≤ maxLen) :
    Calls Try.prog 63 #[.agg #[.int .i64 c.kind, .slice A n cap, .int .i64 c.lo, .int .i64 c.hi, .int .i64 c.val]] w fun e w' => e = .returned (.bool (CellP.right c)) ∧ Below w.heap.size w w' := by
  obtain ⟨kind, data, lo, hi, val⟩ := c
  dsimp only at *
  subst hl
  unfold maxLen at hn
  by_cases hk : kind = 1
  · subst hk
    go_enter Try.func63, Try.ntmps63
    go_wp2
    all_goals go_ret
    all_goals refine ⟨congrArg (fun b => Ending.returned (.bool b)) ?_, balloc (bsame _) _⟩
    all_goals simp_all [CellP.right]
    all_goals omega
  · go_enter Try.func63, Try.ntmps63
    go_wp2
    all_goals go_ret
    all_goals refine ⟨congrArg (fun b => Ending.returned (.bool b)) ?_, balloc (bsame _) _⟩
    all_goals simp_all [CellP.right]
    all_goals omega

theorem code_of (b : Bool) (n : Int) (h : n = CellP.code b) : Ending.returned (.int .i64 n) = Ending.returned (.int .i64 (CellP.code b)) := by rw [h]

set_option maxHeartbeats 1000000 in
theorem check_any (A : Option Addr) (n cap : Nat) (c : Cell) (w : World) (hl : c.data.length = n) (hn : n ≤ maxLen) :
    Calls Try.prog 68 #[.agg #[.int .i64 c.kind, .slice A n cap, .int .i64 c.lo, .int .i64 c.hi, .int .i64 c.val]] w fun e w' => e = .returned (.int .i64 (CellP.code (CellP.right c))) ∧ Below w.heap.size w w' := by
  obtain ⟨kind, data, lo, hi, val⟩ := c
  dsimp only at *
  subst hl
  unfold maxLen at hn
  by_cases hk : kind = 1
  · subst hk
    by_cases h1 : lo = 0
    · subst h1
      by_cases h2 : hi = 0
      · subst h2
        by_cases h3 : val = 0
        · subst h3
          by_cases h4 : data.length ≤ 32
          · have HR : Hid (0 = CellP.code (CellP.right ⟨1, data, 0, 0, 0⟩)) := Lib.hid (by simp [CellP.right, CellP.code, h4])
            go_enter Try.func68, Try.ntmps68
            go_wp2
            go_ret
            exact ⟨code_of _ _ HR.out, balloc (bsame _) _⟩
          · have HR : Hid (1 = CellP.code (CellP.right ⟨1, data, 0, 0, 0⟩)) := Lib.hid (by simp [CellP.right, CellP.code, h4])
            go_enter Try.func68, Try.ntmps68
            go_wp2
            go_ret
            exact ⟨code_of _ _ HR.out, balloc (bsame _) _⟩
        · have hb : (val != 0) = true := by simpa using h3
          have HR : Hid (1 = CellP.code (CellP.right ⟨1, data, 0, 0, val⟩)) := Lib.hid (by simp [CellP.right, CellP.code, h3])
          go_enter Try.func68, Try.ntmps68
          go_wp2
          go_ret
          exact ⟨code_of _ _ HR.out, balloc (bsame _) _⟩
      · have hb : (hi != 0) = true := by simpa using h2
        have HR : Hid (1 = CellP.code (CellP.right ⟨1, data, 0, hi, val⟩)) := Lib.hid (by simp [CellP.right, CellP.code, h2])
        go_enter Try.func68, Try.ntmps68
        go_wp2
        go_ret
        exact ⟨code_of _ _ HR.out, balloc (bsame _) _⟩
    · have hb : (lo != 0) = true := by simpa using h1
      have HR : Hid (1 = CellP.code (CellP.right ⟨1, data, lo, hi, val⟩)) := Lib.hid (by simp [CellP.right, CellP.code, h1])
      go_enter Try.func68, Try.ntmps68
      go_wp2
      go_ret
      exact ⟨code_of _ _ HR.out, balloc (bsame _) _⟩
  by_cases hk2 : kind = 2
  · subst hk2
    by_cases h1 : 0 < data.length
    · have hz : data.length ≠ 0 := by omega
      have HR : Hid (1 = CellP.code (CellP.right ⟨2, data, lo, hi, val⟩)) := Lib.hid (by simp [CellP.right, CellP.code]; intro h; simp [h] at h1)
      clear hz
      go_enter Try.func68, Try.ntmps68
      go_wp2
      go_ret
      exact ⟨code_of _ _ HR.out, balloc (bsame _) _⟩
    · have h1' : data = [] := List.eq_nil_of_length_eq_zero (by omega)
      subst h1'
      clear h1
      by_cases h2 : val < lo
      · have HR : Hid (1 = CellP.code (CellP.right ⟨2, [], lo, hi, val⟩)) := Lib.hid (by simp [CellP.right, CellP.code]; omega)
        go_enter Try.func68, Try.ntmps68
        go_wp2
        go_ret
        exact ⟨code_of _ _ HR.out, balloc (bsame _) _⟩
      · by_cases h3 : hi < val
        · have HR : Hid (1 = CellP.code (CellP.right ⟨2, [], lo, hi, val⟩)) := Lib.hid (by simp [CellP.right, CellP.code]; omega)
          go_enter Try.func68, Try.ntmps68
          go_wp2
          go_ret
          exact ⟨code_of _ _ HR.out, balloc (bsame _) _⟩
        · have HR : Hid (0 = CellP.code (CellP.right ⟨2, [], lo, hi, val⟩)) := Lib.hid (by
            have e1 : lo ≤ val := by omega
            have e2 : val ≤ hi := by omega
            simp [CellP.right, CellP.code, e1, e2])
          go_enter Try.func68, Try.ntmps68
          go_wp2
          go_ret
          exact ⟨code_of _ _ HR.out, balloc (bsame _) _⟩
  · have HR : Hid (1 = CellP.code (CellP.right ⟨kind, data, lo, hi, val⟩)) := Lib.hid (by simp [CellP.right, CellP.code, hk, hk2])
    have hb1 : (kind == 1) = false := by simpa using hk
    have hb2 : (kind == 2) = false := by simpa using hk2
    go_enter Try.func68, Try.ntmps68
    go_wp2
    go_ret
    exact ⟨code_of _ _ HR.out, balloc (bsame _) _⟩

set_option maxHeartbeats 1000000 in
theorem refSame_any (A A' : Option Addr) (n cap n' cap' B B' : Nat) (c d : Cell) (w : World) (h : Bytes w B A n cap c.data) (h' : Bytes w B' A' n' cap' d.data) (hB : B ≤ w.heap.size) (hB' : B' ≤ w.heap.size) :
    Calls Try.prog 30 #[.agg #[.int .i64 c.kind, .slice A n cap, .int .i64 c.lo, .int .i64 c.hi, .int .i64 c.val], .agg #[.int .i64 d.kind, .slice A' n' cap', .int .i64 d.lo, .int .i64 d.hi, .int .i64 d.val]] w
      fun e w' => e = .returned (.bool (CellP.same c d)) ∧ Below w.heap.size w w' := by
  obtain ⟨kind, data, lo, hi, val⟩ := c
  obtain ⟨kind', data', lo', hi', val'⟩ := d
  dsimp only at *
  have H := Lib.hid h
  have H' := Lib.hid h'
  clear h h'
  go_enter Try.func30, Try.ntmps30
  go_wp2_with (go_at_call 61; refine (Same.same_any _ _ _ _ _ _ _ _ _ _ _ ((H.out.alloc hB _).alloc (by simp; omega) _) ((H'.out.alloc hB' _).alloc (by simp; omega) _)).mono ?_; rintro e w' ⟨rfl, rfl⟩)
  all_goals go_ret
  all_goals refine ⟨congrArg (fun b => Ending.returned (.bool b)) ?_, balloc (balloc (bsame _) _) _⟩
  all_goals simp_all [CellP.same]

set_option maxHeartbeats 1000000 in
theorem same_any (A A' : Option Addr) (n cap n' cap' B B' : Nat) (c d : Cell) (w : World) (h : Bytes w B A n cap c.data) (h' : Bytes w B' A' n' cap' d.data) (hB : B ≤ w.heap.size) (hB' : B' ≤ w.heap.size) :
    Calls Try.prog 72 #[.agg #[.int .i64 c.kind, .slice A n cap, .int .i64 c.lo, .int .i64 c.hi, .int .i64 c.val], .agg #[.int .i64 d.kind, .slice A' n' cap', .int .i64 d.lo, .int .i64 d.hi, .int .i64 d.val]] w
      fun e w' => e = .returned (.bool (CellP.same c d)) ∧ Below w.heap.size w w' := by
  obtain ⟨kind, data, lo, hi, val⟩ := c
  obtain ⟨kind', data', lo', hi', val'⟩ := d
  dsimp only at *
  have H := Lib.hid h
  have H' := Lib.hid h'
  clear h h'
  go_enter Try.func72, Try.ntmps72
  go_wp2_with (go_at_call 92; refine (Same.equal_any _ _ _ _ _ _ _ _ _ _ _ ((H.out.alloc hB _).alloc (by simp; omega) _) ((H'.out.alloc hB' _).alloc (by simp; omega) _)).mono ?_; rintro e w' ⟨rfl, rfl⟩)
  all_goals go_ret
  all_goals refine ⟨congrArg (fun b => Ending.returned (.bool b)) ?_, balloc (balloc (bsame _) _) _⟩
  all_goals simp_all [CellP.same]

end Go.Proofs.Ytghgccgpgonlmaa.CellW
