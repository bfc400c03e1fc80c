/-
  The reference's small words: which operations may be, whether all fields are the same, more than is asked.
-/
import Derived.Test.YtghgccgpgonlmaaModelH
import Derived.RegionTactic
namespace Go.Proofs.Ytghgccgpgonlmaa.ModelP
def muchP (p : Pair) : Bool := decide (300 < p.key.size) || decide (300 < p.cell.data.length)
def muchO (p : OpX) : Bool := decide (300 < p.key.size) || decide (300 < p.data.length)
def muchS (l : List Pair) : Bool := (l.take 100).any muchP || decide (60 < l.length)
def muchL (l : List OpX) : Bool := (l.take 100).any muchO || decide (60 < l.length)
end Go.Proofs.Ytghgccgpgonlmaa.ModelP
namespace Go.Proofs.Ytghgccgpgonlmaa.ModelW
open Go.RowKit
set_option linter.unusedVariables false
set_option maxRecDepth 100000 in
set_option maxHeartbeats 400000 in
theorem good_low (act : Int) (xk : ByteArray) (Ax : Option Addr) (nx cx : Nat) (xdata : List UInt8) (xlo xhi xn : Int) (w : World) (hxk : xk.size ≤ maxLen) (hl : xdata.length = nx) (h : act < 0) :
    Calls Try.prog 16 #[.agg #[.int .i64 act, .string xk, .slice Ax nx cx, .int .i64 xlo, .int .i64 xhi, .int .i64 xn]] w fun e w' => e = .returned (.bool (false)) ∧ Below w.heap.size w w' := by
  have d0 : decide (act < 0) = true := by simpa using h
  go_enter Try.func16, Try.ntmps16
  go_wp2_with (go_at_call 60; refine (Key.right_any xk _ hxk).mono ?_; rintro e w1 ⟨rfl, rfl⟩)
  go_ret
  exact ⟨by rfl, balloc (bsame w) _⟩
set_option maxRecDepth 100000 in
set_option maxHeartbeats 400000 in
theorem good_high (act : Int) (xk : ByteArray) (Ax : Option Addr) (nx cx : Nat) (xdata : List UInt8) (xlo xhi xn : Int) (w : World) (hxk : xk.size ≤ maxLen) (hl : xdata.length = nx) (h : 5 < act) :
    Calls Try.prog 16 #[.agg #[.int .i64 act, .string xk, .slice Ax nx cx, .int .i64 xlo, .int .i64 xhi, .int .i64 xn]] w fun e w' => e = .returned (.bool (false)) ∧ Below w.heap.size w w' := by
  have d0 : decide (act < 0) = false := by simp; omega
  have d1 : decide (5 < act) = true := by simpa using h
  go_enter Try.func16, Try.ntmps16
  go_wp2_with (go_at_call 60; refine (Key.right_any xk _ hxk).mono ?_; rintro e w1 ⟨rfl, rfl⟩)
  go_ret
  exact ⟨by rfl, balloc (bsame w) _⟩
set_option maxRecDepth 100000 in
set_option maxHeartbeats 400000 in
theorem good_wrong0 (xk : ByteArray) (Ax : Option Addr) (nx cx : Nat) (xdata : List UInt8) (xlo xhi xn : Int) (w : World) (hxk : xk.size ≤ maxLen) (hl : xdata.length = nx) (hr : KeyP.right xk.data.toList = false) :
    Calls Try.prog 16 #[.agg #[.int .i64 0, .string xk, .slice Ax nx cx, .int .i64 xlo, .int .i64 xhi, .int .i64 xn]] w fun e w' => e = .returned (.bool (false)) ∧ Below w.heap.size w w' := by
  go_enter Try.func16, Try.ntmps16
  go_wp2_with (go_at_call 60; refine (Key.right_any xk _ hxk).mono ?_; rintro e w1 ⟨rfl, rfl⟩)
  go_ret
  exact ⟨by rfl, balloc (bsame w) _⟩
set_option maxRecDepth 100000 in
set_option maxHeartbeats 400000 in
theorem good_wrong1 (xk : ByteArray) (Ax : Option Addr) (nx cx : Nat) (xdata : List UInt8) (xlo xhi xn : Int) (w : World) (hxk : xk.size ≤ maxLen) (hl : xdata.length = nx) (hr : KeyP.right xk.data.toList = false) :
    Calls Try.prog 16 #[.agg #[.int .i64 1, .string xk, .slice Ax nx cx, .int .i64 xlo, .int .i64 xhi, .int .i64 xn]] w fun e w' => e = .returned (.bool (false)) ∧ Below w.heap.size w w' := by
  go_enter Try.func16, Try.ntmps16
  go_wp2_with (go_at_call 60; refine (Key.right_any xk _ hxk).mono ?_; rintro e w1 ⟨rfl, rfl⟩)
  go_ret
  exact ⟨by rfl, balloc (bsame w) _⟩
set_option maxRecDepth 100000 in
set_option maxHeartbeats 400000 in
theorem good_wrong2 (xk : ByteArray) (Ax : Option Addr) (nx cx : Nat) (xdata : List UInt8) (xlo xhi xn : Int) (w : World) (hxk : xk.size ≤ maxLen) (hl : xdata.length = nx) (hr : KeyP.right xk.data.toList = false) :
    Calls Try.prog 16 #[.agg #[.int .i64 2, .string xk, .slice Ax nx cx, .int .i64 xlo, .int .i64 xhi, .int .i64 xn]] w fun e w' => e = .returned (.bool (false)) ∧ Below w.heap.size w w' := by
  go_enter Try.func16, Try.ntmps16
  go_wp2_with (go_at_call 60; refine (Key.right_any xk _ hxk).mono ?_; rintro e w1 ⟨rfl, rfl⟩)
  go_ret
  exact ⟨by rfl, balloc (bsame w) _⟩
set_option maxRecDepth 100000 in
set_option maxHeartbeats 400000 in
theorem good_wrong3 (xk : ByteArray) (Ax : Option Addr) (nx cx : Nat) (xdata : List UInt8) (xlo xhi xn : Int) (w : World) (hxk : xk.size ≤ maxLen) (hl : xdata.length = nx) (hr : KeyP.right xk.data.toList = false) :
    Calls Try.prog 16 #[.agg #[.int .i64 3, .string xk, .slice Ax nx cx, .int .i64 xlo, .int .i64 xhi, .int .i64 xn]] w fun e w' => e = .returned (.bool (false)) ∧ Below w.heap.size w w' := by
  go_enter Try.func16, Try.ntmps16
  go_wp2_with (go_at_call 60; refine (Key.right_any xk _ hxk).mono ?_; rintro e w1 ⟨rfl, rfl⟩)
  go_ret
  exact ⟨by rfl, balloc (bsame w) _⟩
set_option maxRecDepth 100000 in
set_option maxHeartbeats 400000 in
theorem good_wrong4 (xk : ByteArray) (Ax : Option Addr) (nx cx : Nat) (xdata : List UInt8) (xlo xhi xn : Int) (w : World) (hxk : xk.size ≤ maxLen) (hl : xdata.length = nx) (hr : KeyP.right xk.data.toList = false) :
    Calls Try.prog 16 #[.agg #[.int .i64 4, .string xk, .slice Ax nx cx, .int .i64 xlo, .int .i64 xhi, .int .i64 xn]] w fun e w' => e = .returned (.bool (false)) ∧ Below w.heap.size w w' := by
  go_enter Try.func16, Try.ntmps16
  go_wp2_with (go_at_call 60; refine (Key.right_any xk _ hxk).mono ?_; rintro e w1 ⟨rfl, rfl⟩)
  go_ret
  exact ⟨by rfl, balloc (bsame w) _⟩
set_option maxRecDepth 100000 in
set_option maxHeartbeats 400000 in
theorem good_wrong5 (xk : ByteArray) (Ax : Option Addr) (nx cx : Nat) (xdata : List UInt8) (xlo xhi xn : Int) (w : World) (hxk : xk.size ≤ maxLen) (hl : xdata.length = nx) (hr : KeyP.right xk.data.toList = false) :
    Calls Try.prog 16 #[.agg #[.int .i64 5, .string xk, .slice Ax nx cx, .int .i64 xlo, .int .i64 xhi, .int .i64 xn]] w fun e w' => e = .returned (.bool (false)) ∧ Below w.heap.size w w' := by
  go_enter Try.func16, Try.ntmps16
  go_wp2_with (go_at_call 60; refine (Key.right_any xk _ hxk).mono ?_; rintro e w1 ⟨rfl, rfl⟩)
  go_ret
  exact ⟨by rfl, balloc (bsame w) _⟩
set_option maxRecDepth 100000 in
set_option maxHeartbeats 400000 in
theorem good_a0 (xk : ByteArray) (Ax : Option Addr) (nx cx : Nat) (xdata : List UInt8) (xlo xhi xn : Int) (w : World) (hxk : xk.size ≤ maxLen) (hl : xdata.length = nx) (hr : KeyP.right xk.data.toList = true) :
    Calls Try.prog 16 #[.agg #[.int .i64 0, .string xk, .slice Ax nx cx, .int .i64 xlo, .int .i64 xhi, .int .i64 xn]] w fun e w' => e = .returned (.bool (true)) ∧ Below w.heap.size w w' := by
  go_enter Try.func16, Try.ntmps16
  go_wp2_with (go_at_call 60; refine (Key.right_any xk _ hxk).mono ?_; rintro e w1 ⟨rfl, rfl⟩)
  go_ret
  exact ⟨by rfl, balloc (bsame w) _⟩
set_option maxRecDepth 100000 in
set_option maxHeartbeats 400000 in
theorem good_a3 (xk : ByteArray) (Ax : Option Addr) (nx cx : Nat) (xdata : List UInt8) (xlo xhi xn : Int) (w : World) (hxk : xk.size ≤ maxLen) (hl : xdata.length = nx) (hr : KeyP.right xk.data.toList = true) :
    Calls Try.prog 16 #[.agg #[.int .i64 3, .string xk, .slice Ax nx cx, .int .i64 xlo, .int .i64 xhi, .int .i64 xn]] w fun e w' => e = .returned (.bool (true)) ∧ Below w.heap.size w w' := by
  go_enter Try.func16, Try.ntmps16
  go_wp2_with (go_at_call 60; refine (Key.right_any xk _ hxk).mono ?_; rintro e w1 ⟨rfl, rfl⟩)
  go_ret
  exact ⟨by rfl, balloc (bsame w) _⟩
set_option maxRecDepth 100000 in
set_option maxHeartbeats 400000 in
theorem good_w (xk : ByteArray) (Ax : Option Addr) (nx cx : Nat) (xdata : List UInt8) (xlo xhi xn : Int) (w : World) (hxk : xk.size ≤ maxLen) (hl : xdata.length = nx) (hr : KeyP.right xk.data.toList = true) (h : nx ≤ 32) :
    Calls Try.prog 16 #[.agg #[.int .i64 1, .string xk, .slice Ax nx cx, .int .i64 xlo, .int .i64 xhi, .int .i64 xn]] w fun e w' => e = .returned (.bool (true)) ∧ Below w.heap.size w w' := by
  have d : decide ((nx : Int) ≤ 32) = true := by simp; omega
  go_enter Try.func16, Try.ntmps16
  go_wp2_with (go_at_call 60; refine (Key.right_any xk _ hxk).mono ?_; rintro e w1 ⟨rfl, rfl⟩)
  go_ret
  exact ⟨by rfl, balloc (bsame w) _⟩
set_option maxRecDepth 100000 in
set_option maxHeartbeats 400000 in
theorem good_wN (xk : ByteArray) (Ax : Option Addr) (nx cx : Nat) (xdata : List UInt8) (xlo xhi xn : Int) (w : World) (hxk : xk.size ≤ maxLen) (hl : xdata.length = nx) (hr : KeyP.right xk.data.toList = true) (h : 32 < nx) :
    Calls Try.prog 16 #[.agg #[.int .i64 1, .string xk, .slice Ax nx cx, .int .i64 xlo, .int .i64 xhi, .int .i64 xn]] w fun e w' => e = .returned (.bool (false)) ∧ Below w.heap.size w w' := by
  have d : decide ((nx : Int) ≤ 32) = false := by simp; omega
  go_enter Try.func16, Try.ntmps16
  go_wp2_with (go_at_call 60; refine (Key.right_any xk _ hxk).mono ?_; rintro e w1 ⟨rfl, rfl⟩)
  go_ret
  exact ⟨by rfl, balloc (bsame w) _⟩
set_option maxRecDepth 100000 in
set_option maxHeartbeats 400000 in
theorem good_c (xk : ByteArray) (Ax : Option Addr) (nx cx : Nat) (xdata : List UInt8) (xlo xhi xn : Int) (w : World) (hxk : xk.size ≤ maxLen) (hl : xdata.length = nx) (hr : KeyP.right xk.data.toList = true) (h1 : xlo ≤ xn) (h2 : xn ≤ xhi) :
    Calls Try.prog 16 #[.agg #[.int .i64 2, .string xk, .slice Ax nx cx, .int .i64 xlo, .int .i64 xhi, .int .i64 xn]] w fun e w' => e = .returned (.bool (true)) ∧ Below w.heap.size w w' := by
  go_enter Try.func16, Try.ntmps16
  go_wp2_with (go_at_call 60; refine (Key.right_any xk _ hxk).mono ?_; rintro e w1 ⟨rfl, rfl⟩)
  go_ret
  exact ⟨by rfl, balloc (bsame w) _⟩
set_option maxRecDepth 100000 in
set_option maxHeartbeats 400000 in
theorem good_cN1 (xk : ByteArray) (Ax : Option Addr) (nx cx : Nat) (xdata : List UInt8) (xlo xhi xn : Int) (w : World) (hxk : xk.size ≤ maxLen) (hl : xdata.length = nx) (hr : KeyP.right xk.data.toList = true) (h1 : xn < xlo) :
    Calls Try.prog 16 #[.agg #[.int .i64 2, .string xk, .slice Ax nx cx, .int .i64 xlo, .int .i64 xhi, .int .i64 xn]] w fun e w' => e = .returned (.bool (false)) ∧ Below w.heap.size w w' := by
  have d : decide (xlo ≤ xn) = false := by simp; omega
  go_enter Try.func16, Try.ntmps16
  go_wp2_with (go_at_call 60; refine (Key.right_any xk _ hxk).mono ?_; rintro e w1 ⟨rfl, rfl⟩)
  go_ret
  exact ⟨by rfl, balloc (bsame w) _⟩
set_option maxRecDepth 100000 in
set_option maxHeartbeats 400000 in
theorem good_cN2 (xk : ByteArray) (Ax : Option Addr) (nx cx : Nat) (xdata : List UInt8) (xlo xhi xn : Int) (w : World) (hxk : xk.size ≤ maxLen) (hl : xdata.length = nx) (hr : KeyP.right xk.data.toList = true) (h1 : xlo ≤ xn) (h2 : xhi < xn) :
    Calls Try.prog 16 #[.agg #[.int .i64 2, .string xk, .slice Ax nx cx, .int .i64 xlo, .int .i64 xhi, .int .i64 xn]] w fun e w' => e = .returned (.bool (false)) ∧ Below w.heap.size w w' := by
  have d : decide (xn ≤ xhi) = false := by simp; omega
  go_enter Try.func16, Try.ntmps16
  go_wp2_with (go_at_call 60; refine (Key.right_any xk _ hxk).mono ?_; rintro e w1 ⟨rfl, rfl⟩)
  go_ret
  exact ⟨by rfl, balloc (bsame w) _⟩
set_option maxRecDepth 100000 in
set_option maxHeartbeats 400000 in
theorem good_i4 (xk : ByteArray) (Ax : Option Addr) (nx cx : Nat) (xdata : List UInt8) (xlo xhi xn : Int) (w : World) (hxk : xk.size ≤ maxLen) (hl : xdata.length = nx) (hr : KeyP.right xk.data.toList = true) (h : 0 ≤ xn) :
    Calls Try.prog 16 #[.agg #[.int .i64 4, .string xk, .slice Ax nx cx, .int .i64 xlo, .int .i64 xhi, .int .i64 xn]] w fun e w' => e = .returned (.bool (true)) ∧ Below w.heap.size w w' := by
  go_enter Try.func16, Try.ntmps16
  go_wp2_with (go_at_call 60; refine (Key.right_any xk _ hxk).mono ?_; rintro e w1 ⟨rfl, rfl⟩)
  go_ret
  exact ⟨by rfl, balloc (bsame w) _⟩
set_option maxRecDepth 100000 in
set_option maxHeartbeats 400000 in
theorem good_iN4 (xk : ByteArray) (Ax : Option Addr) (nx cx : Nat) (xdata : List UInt8) (xlo xhi xn : Int) (w : World) (hxk : xk.size ≤ maxLen) (hl : xdata.length = nx) (hr : KeyP.right xk.data.toList = true) (h : xn < 0) :
    Calls Try.prog 16 #[.agg #[.int .i64 4, .string xk, .slice Ax nx cx, .int .i64 xlo, .int .i64 xhi, .int .i64 xn]] w fun e w' => e = .returned (.bool (false)) ∧ Below w.heap.size w w' := by
  have d : decide (0 ≤ xn) = false := by simp; omega
  go_enter Try.func16, Try.ntmps16
  go_wp2_with (go_at_call 60; refine (Key.right_any xk _ hxk).mono ?_; rintro e w1 ⟨rfl, rfl⟩)
  go_ret
  exact ⟨by rfl, balloc (bsame w) _⟩
set_option maxRecDepth 100000 in
set_option maxHeartbeats 400000 in
theorem good_i5 (xk : ByteArray) (Ax : Option Addr) (nx cx : Nat) (xdata : List UInt8) (xlo xhi xn : Int) (w : World) (hxk : xk.size ≤ maxLen) (hl : xdata.length = nx) (hr : KeyP.right xk.data.toList = true) (h : 0 ≤ xn) :
    Calls Try.prog 16 #[.agg #[.int .i64 5, .string xk, .slice Ax nx cx, .int .i64 xlo, .int .i64 xhi, .int .i64 xn]] w fun e w' => e = .returned (.bool (true)) ∧ Below w.heap.size w w' := by
  go_enter Try.func16, Try.ntmps16
  go_wp2_with (go_at_call 60; refine (Key.right_any xk _ hxk).mono ?_; rintro e w1 ⟨rfl, rfl⟩)
  go_ret
  exact ⟨by rfl, balloc (bsame w) _⟩
set_option maxRecDepth 100000 in
set_option maxHeartbeats 400000 in
theorem good_iN5 (xk : ByteArray) (Ax : Option Addr) (nx cx : Nat) (xdata : List UInt8) (xlo xhi xn : Int) (w : World) (hxk : xk.size ≤ maxLen) (hl : xdata.length = nx) (hr : KeyP.right xk.data.toList = true) (h : xn < 0) :
    Calls Try.prog 16 #[.agg #[.int .i64 5, .string xk, .slice Ax nx cx, .int .i64 xlo, .int .i64 xhi, .int .i64 xn]] w fun e w' => e = .returned (.bool (false)) ∧ Below w.heap.size w w' := by
  have d : decide (0 ≤ xn) = false := by simp; omega
  go_enter Try.func16, Try.ntmps16
  go_wp2_with (go_at_call 60; refine (Key.right_any xk _ hxk).mono ?_; rintro e w1 ⟨rfl, rfl⟩)
  go_ret
  exact ⟨by rfl, balloc (bsame w) _⟩
/-- ref09.Good -/
theorem good_any (x : OpX) (Ax : Option Addr) (nx cx : Nat) (w : World) (hxk : x.key.size ≤ maxLen) (hl : x.data.length = nx) :
    Calls Try.prog 16 #[.agg (opV x Ax nx cx).toArray] w fun e w' => e = .returned (.bool (ModelP.good x)) ∧ Below w.heap.size w w' := by
  obtain ⟨act, xk, xdata, xlo, xhi, xn⟩ := x
  dsimp only at hxk hl
  by_cases h0 : act < 0
  · rw [show ModelP.good ⟨act, xk, xdata, xlo, xhi, xn⟩ = false from by have : ¬ (0 ≤ act ∧ act ≤ 5) := by omega
                                                                        simp [ModelP.good, this]]
    exact good_low act xk Ax nx cx xdata xlo xhi xn w hxk hl h0
  by_cases h5 : 5 < act
  · rw [show ModelP.good ⟨act, xk, xdata, xlo, xhi, xn⟩ = false from by have : ¬ (0 ≤ act ∧ act ≤ 5) := by omega
                                                                        simp [ModelP.good, this]]
    exact good_high act xk Ax nx cx xdata xlo xhi xn w hxk hl h5
  have hcase : act = 0 ∨ act = 1 ∨ act = 2 ∨ act = 3 ∨ act = 4 ∨ act = 5 := by omega
  clear h0 h5
  by_cases hr : KeyP.right xk.data.toList = true
  · rcases hcase with rfl | rfl | rfl | rfl | rfl | rfl
    · rw [show ModelP.good ⟨0, xk, xdata, xlo, xhi, xn⟩ = true from by simp [ModelP.good, hr]]
      exact good_a0 xk Ax nx cx xdata xlo xhi xn w hxk hl hr
    · by_cases h : nx ≤ 32
      · rw [show ModelP.good ⟨1, xk, xdata, xlo, xhi, xn⟩ = true from by simp [ModelP.good, hr, hl, h]]
        exact good_w xk Ax nx cx xdata xlo xhi xn w hxk hl hr h
      · rw [show ModelP.good ⟨1, xk, xdata, xlo, xhi, xn⟩ = false from by simp [ModelP.good, hr, hl, h]]
        exact good_wN xk Ax nx cx xdata xlo xhi xn w hxk hl hr (by omega)
    · by_cases h : xlo ≤ xn
      · by_cases h2 : xn ≤ xhi
        · rw [show ModelP.good ⟨2, xk, xdata, xlo, xhi, xn⟩ = true from by simp [ModelP.good, hr, h, h2]]
          exact good_c xk Ax nx cx xdata xlo xhi xn w hxk hl hr h h2
        · rw [show ModelP.good ⟨2, xk, xdata, xlo, xhi, xn⟩ = false from by simp [ModelP.good, h2]]
          exact good_cN2 xk Ax nx cx xdata xlo xhi xn w hxk hl hr h (by omega)
      · rw [show ModelP.good ⟨2, xk, xdata, xlo, xhi, xn⟩ = false from by simp [ModelP.good, h]]
        exact good_cN1 xk Ax nx cx xdata xlo xhi xn w hxk hl hr (by omega)
    · rw [show ModelP.good ⟨3, xk, xdata, xlo, xhi, xn⟩ = true from by simp [ModelP.good, hr]]
      exact good_a3 xk Ax nx cx xdata xlo xhi xn w hxk hl hr
    · by_cases h : 0 ≤ xn
      · rw [show ModelP.good ⟨4, xk, xdata, xlo, xhi, xn⟩ = true from by simp [ModelP.good, hr, h]]
        exact good_i4 xk Ax nx cx xdata xlo xhi xn w hxk hl hr h
      · rw [show ModelP.good ⟨4, xk, xdata, xlo, xhi, xn⟩ = false from by simp [ModelP.good, h]]
        exact good_iN4 xk Ax nx cx xdata xlo xhi xn w hxk hl hr (by omega)
    · by_cases h : 0 ≤ xn
      · rw [show ModelP.good ⟨5, xk, xdata, xlo, xhi, xn⟩ = true from by simp [ModelP.good, hr, h]]
        exact good_i5 xk Ax nx cx xdata xlo xhi xn w hxk hl hr h
      · rw [show ModelP.good ⟨5, xk, xdata, xlo, xhi, xn⟩ = false from by simp [ModelP.good, h]]
        exact good_iN5 xk Ax nx cx xdata xlo xhi xn w hxk hl hr (by omega)
  · have hr : KeyP.right xk.data.toList = false := by simpa using hr
    rw [show ModelP.good ⟨act, xk, xdata, xlo, xhi, xn⟩ = false from by simp [ModelP.good, hr]]
    rcases hcase with rfl | rfl | rfl | rfl | rfl | rfl
    · exact good_wrong0 xk Ax nx cx xdata xlo xhi xn w hxk hl hr
    · exact good_wrong1 xk Ax nx cx xdata xlo xhi xn w hxk hl hr
    · exact good_wrong2 xk Ax nx cx xdata xlo xhi xn w hxk hl hr
    · exact good_wrong3 xk Ax nx cx xdata xlo xhi xn w hxk hl hr
    · exact good_wrong4 xk Ax nx cx xdata xlo xhi xn w hxk hl hr
    · exact good_wrong5 xk Ax nx cx xdata xlo xhi xn w hxk hl hr
set_option maxRecDepth 100000 in
set_option maxHeartbeats 1000000 in
theorem exact_any (a b : OpX) (Aa Ab : Option Addr) (na ca nb cb Ba Bb : Nat) (w : World) (h : Bytes w Ba Aa na ca a.data) (hB : Ba ≤ w.heap.size) (h' : Bytes w Bb Ab nb cb b.data) (hB' : Bb ≤ w.heap.size) :
    Calls Try.prog 17 #[.agg (opV a Aa na ca).toArray, .agg (opV b Ab nb cb).toArray] w fun e w' => e = .returned (.bool (ModelP.same a b)) ∧ Below w.heap.size w w' := by
  obtain ⟨a0, ak, ad, a1, a2, a3⟩ := a
  obtain ⟨b0, bk, bd, b1, b2, b3⟩ := b
  dsimp only [opV] at *
  have H := Lib.hid h
  have H' := Lib.hid h'
  clear h h'
  go_enter Try.func17, Try.ntmps17
  go_wp2_with (go_at_call 61; refine (Same.same_any _ _ _ _ _ _ _ _ _ _ _ ((H.out.alloc hB _).alloc (by simp; omega) _) ((H'.out.alloc hB' _).alloc (by simp; omega) _)).mono ?_; rintro e w' ⟨rfl, rfl⟩)
  all_goals go_ret
  all_goals refine ⟨congrArg (fun b => Ending.returned (.bool b)) ?_, balloc (balloc (bsame _) _) _⟩
  all_goals simp_all [ModelP.same]
theorem muchP_hit {l : List Pair} {k : Nat} {p : Pair} (hk : k < 100) (hp : l[k]? = some p) (h : ModelP.muchP p = true) : ModelP.muchS l = true := by
  unfold ModelP.muchS
  rw [Bool.or_eq_true]
  left
  exact List.any_eq_true.2 ⟨p, List.mem_of_getElem? (i := k) (by rw [List.getElem?_take, if_pos hk]; exact hp), h⟩
theorem muchP_miss {l : List Pair} {k : Nat} (h : ∀ (j : Nat) p, j < k → l[j]? = some p → ModelP.muchP p = false) (hk : l.length ≤ k ∨ 100 ≤ k) : ModelP.muchS l = decide (60 < l.length) := by
  unfold ModelP.muchS
  have : (l.take 100).any ModelP.muchP = false := by
    rw [List.any_eq_false]
    intro p hp
    obtain ⟨j, hj, rfl⟩ := List.getElem_of_mem hp
    have hj' : j < 100 ∧ j < l.length := by simp at hj; omega
    rw [List.getElem_take, h j _ (by omega) (List.getElem?_eq_getElem _)]
    simp
  rw [this, Bool.false_or]
set_option maxRecDepth 100000 in
set_option maxHeartbeats 1000000 in
theorem muchState_any (A : Option Addr) (n c B : Nat) (l : List Pair) (w : World) (h : Elems PairE w B A n c l) (hB : B ≤ w.heap.size) :
    Calls Try.prog 20 #[.slice A n c] w fun e w' => e = .returned (.bool (ModelP.muchS l)) ∧ Below w.heap.size w w' := by
  have H := Lib.hid h
  have HL := Lib.hid h.len
  have hcm := h.cap
  unfold maxLen at hcm
  clear h
  go_enter Try.func20, Try.ntmps20
  go_wp2
  go_loopw [3] (fun i wr => ∃ k : Nat, k ≤ n ∧ k ≤ 100 ∧ i = .int .i64 (k : Int) ∧ Hid (Below w.heap.size w wr ∧ ∀ (j : Nat) p, j < k → l[j]? = some p → ModelP.muchP p = false)) (fun i _ => n - (intOf i).toNat)
  case atStart => exact ⟨0, Nat.zero_le _, by omega, rfl, Lib.hid ⟨bsame w, fun j q hj => absurd hj (by omega)⟩⟩
  case round =>
    obtain ⟨k, hk, hk2, rfl, HK⟩ := hrel
    have hsz := HK.out.1.size
    by_cases hlt : k < n
    · by_cases hlt2 : k < 100
      · obtain ⟨b, o, p, Ap, np, cp, rfl, hbB, hp, hby, hpk, -, -, -, -, c0, c1, c2, c3, c4, c5⟩ := pair_at (H.out.below (HK.out.1.mono hB)) hlt
        have HP := Lib.hid hp
        have hnp := hby.len
        have hnc := hby.2.1
        have hnm := hby.2.2.1
        clear hp hby
        obtain ⟨pk, pkd, pda, plo, phi, pva⟩ := p
        dsimp only at *
        unfold maxLen at hpk hnm
        have hbw : b < wr.heap.size := by omega
        by_cases h1 : 300 < pk.size
        · have HE := Lib.hid (muchP_hit hlt2 HP.out (by simp [ModelP.muchP, h1]))
          go_wp2
          go_ret
          exact ⟨by rw [HE.out]; rfl, HK.out.1⟩
        · by_cases h2 : 300 < np
          · have HE := Lib.hid (muchP_hit hlt2 HP.out (by simp [ModelP.muchP, hnp, h2]))
            have d1 : decide (300 < (pk.size : Int)) = false := by simp; omega
            go_wp2
            go_ret
            exact ⟨by rw [HE.out]; rfl, HK.out.1⟩
          · have HN : Hid (ModelP.muchP ⟨pk, ⟨pkd, pda, plo, phi, pva⟩⟩ = false) := Lib.hid (by simp [ModelP.muchP, hnp]; omega)
            have d1 : decide (300 < (pk.size : Int)) = false := by simp; omega
            have d2 : decide (300 < (np : Int)) = false := by simp; omega
            go_wp2
            go_roundw
            case rel => exact ⟨k + 1, by omega, by omega, by go_num, Lib.hid ⟨HK.out.1, fun j q hj hq => by
              rcases Nat.lt_or_ge j k with h3 | h3
              · exact HK.out.2 j q h3 hq
              · have : j = k := by omega
                subst this
                rw [HP.out] at hq
                cases hq
                exact HN.out⟩⟩
            case measure => simp [intOf]; omega
      · have HE := Lib.hid (muchP_miss (k := k) HK.out.2 (by omega))
        have d1 : decide ((k : Int) < 100) = false := by simp; omega
        go_wp2
        go_ret
        exact ⟨by rw [HE.out, HL.out]; simp; omega, HK.out.1⟩
    · have HE := Lib.hid (muchP_miss (k := k) HK.out.2 (by left; rw [HL.out]; omega))
      have d1 : decide ((k : Int) < (n : Int)) = false := by simp; omega
      go_wp2
      go_ret
      exact ⟨by rw [HE.out, HL.out]; simp; omega, HK.out.1⟩
theorem muchO_hit {l : List OpX} {k : Nat} {p : OpX} (hk : k < 100) (hp : l[k]? = some p) (h : ModelP.muchO p = true) : ModelP.muchL l = true := by
  unfold ModelP.muchL
  rw [Bool.or_eq_true]
  left
  exact List.any_eq_true.2 ⟨p, List.mem_of_getElem? (i := k) (by rw [List.getElem?_take, if_pos hk]; exact hp), h⟩
theorem muchO_miss {l : List OpX} {k : Nat} (h : ∀ (j : Nat) p, j < k → l[j]? = some p → ModelP.muchO p = false) (hk : l.length ≤ k ∨ 100 ≤ k) : ModelP.muchL l = decide (60 < l.length) := by
  unfold ModelP.muchL
  have : (l.take 100).any ModelP.muchO = false := by
    rw [List.any_eq_false]
    intro p hp
    obtain ⟨j, hj, rfl⟩ := List.getElem_of_mem hp
    have hj' : j < 100 ∧ j < l.length := by simp at hj; omega
    rw [List.getElem_take, h j _ (by omega) (List.getElem?_eq_getElem _)]
    simp
  rw [this, Bool.false_or]
set_option maxRecDepth 100000 in
set_option maxHeartbeats 1000000 in
theorem much_any (A : Option Addr) (n c B : Nat) (l : List OpX) (w : World) (h : Elems OpE w B A n c l) (hB : B ≤ w.heap.size) :
    Calls Try.prog 12 #[.slice A n c] w fun e w' => e = .returned (.bool (ModelP.muchL l)) ∧ Below w.heap.size w w' := by
  have H := Lib.hid h
  have HL := Lib.hid h.len
  have hcm := h.cap
  unfold maxLen at hcm
  clear h
  go_enter Try.func12, Try.ntmps12
  go_wp2
  go_loopw [3] (fun i wr => ∃ k : Nat, k ≤ n ∧ k ≤ 100 ∧ i = .int .i64 (k : Int) ∧ Hid (Below w.heap.size w wr ∧ ∀ (j : Nat) p, j < k → l[j]? = some p → ModelP.muchO p = false)) (fun i _ => n - (intOf i).toNat)
  case atStart => exact ⟨0, Nat.zero_le _, by omega, rfl, Lib.hid ⟨bsame w, fun j q hj => absurd hj (by omega)⟩⟩
  case round =>
    obtain ⟨k, hk, hk2, rfl, HK⟩ := hrel
    have hsz := HK.out.1.size
    by_cases hlt : k < n
    · by_cases hlt2 : k < 100
      · obtain ⟨b, o, p, Ap, np, cp, rfl, hbB, hp, hby, hpk, -, -, -, -, c0, c1, c2, c3, c4, c5⟩ := op_at (H.out.below (HK.out.1.mono hB)) hlt
        have HP := Lib.hid hp
        have hnp := hby.len
        have hnc := hby.2.1
        have hnm := hby.2.2.1
        clear hp hby
        obtain ⟨pact, pk, pda, plo, phi, pn⟩ := p
        dsimp only at *
        unfold maxLen at hpk hnm
        have hbw : b < wr.heap.size := by omega
        by_cases h1 : 300 < pk.size
        · have HE := Lib.hid (muchO_hit hlt2 HP.out (by simp [ModelP.muchO, h1]))
          go_wp2
          go_ret
          exact ⟨by rw [HE.out]; rfl, HK.out.1⟩
        · by_cases h2 : 300 < np
          · have HE := Lib.hid (muchO_hit hlt2 HP.out (by simp [ModelP.muchO, hnp, h2]))
            have d1 : decide (300 < (pk.size : Int)) = false := by simp; omega
            go_wp2
            go_ret
            exact ⟨by rw [HE.out]; rfl, HK.out.1⟩
          · have HN : Hid (ModelP.muchO ⟨pact, pk, pda, plo, phi, pn⟩ = false) := Lib.hid (by simp [ModelP.muchO, hnp]; omega)
            have d1 : decide (300 < (pk.size : Int)) = false := by simp; omega
            have d2 : decide (300 < (np : Int)) = false := by simp; omega
            go_wp2
            go_roundw
            case rel => exact ⟨k + 1, by omega, by omega, by go_num, Lib.hid ⟨HK.out.1, fun j q hj hq => by
              rcases Nat.lt_or_ge j k with h3 | h3
              · exact HK.out.2 j q h3 hq
              · have : j = k := by omega
                subst this
                rw [HP.out] at hq
                cases hq
                exact HN.out⟩⟩
            case measure => simp [intOf]; omega
      · have HE := Lib.hid (muchO_miss (k := k) HK.out.2 (by omega))
        have d1 : decide ((k : Int) < 100) = false := by simp; omega
        go_wp2
        go_ret
        exact ⟨by rw [HE.out, HL.out]; simp; omega, HK.out.1⟩
    · have HE := Lib.hid (muchO_miss (k := k) HK.out.2 (by left; rw [HL.out]; omega))
      have d1 : decide ((k : Int) < (n : Int)) = false := by simp; omega
      go_wp2
      go_ret
      exact ⟨by rw [HE.out, HL.out]; simp; omega, HK.out.1⟩
end Go.Proofs.Ytghgccgpgonlmaa.ModelW
