/-
  Texts of one claim, joined: RefModelA, RefModelC, RefModelE.
-/
import Derived.Test.YtghgccgpgonlmaaModelH
import Derived.RegionTactic
import Derived.Test.YtghgccgpgonlmaaModelI
import Derived.Sort.Walk0
import Derived.Test.YtghgccgpgonlmaaRefModelDAll
import Derived.Test.YtghgccgpgonlmaaModelG2
namespace Go.Proofs.Ytghgccgpgonlmaa.ModelP
def muchP (p : Pair) : Bool := decide (300 < p.key.size) || decide (300 < p.cell.data.length)
def muchO (p : OpX) : Bool := decide (300 < p.key.size) || decide (300 < p.data.length)
def muchS (l : List Pair) : Bool := (l.take 100).any muchP || decide (60 < l.length)
def muchL (l : List OpX) : Bool := (l.take 100).any muchO || decide (60 < l.length)
end Go.Proofs.Ytghgccgpgonlmaa.ModelP
namespace Go.Proofs.Ytghgccgpgonlmaa.ModelW
open Go.RowKit
set_option linter.unusedVariables false
set_option maxRecDepth 100000 in
set_option maxHeartbeats 400000 in
theorem good_low (act : Int) (xk : ByteArray) (Ax : Option Addr) (nx cx : Nat) (xdata : List UInt8) (xlo xhi xn : Int) (w : World) (hxk : xk.size ≤ maxLen) (hl : xdata.length = nx) (h : act < 0) :
    Calls Try.prog 16 #[.agg #[.int .i64 act, .string xk, .slice Ax nx cx, .int .i64 xlo, .int .i64 xhi, .int .i64 xn]] w fun e w' => e = .returned (.bool (false)) ∧ Below w.heap.size w w' := by
  have d0 : decide (act < 0) = true := by simpa using h
  go_enter Try.func16, Try.ntmps16
  go_wp2_with (go_at_call 60; refine (Key.right_any xk _ hxk).mono ?_; rintro e w1 ⟨rfl, rfl⟩)
  go_ret
  exact ⟨by rfl, balloc (bsame w) _⟩
set_option maxRecDepth 100000 in
set_option maxHeartbeats 400000 in
theorem good_high (act : Int) (xk : ByteArray) (Ax : Option Addr) (nx cx : Nat) (xdata : List UInt8) (xlo xhi xn : Int) (w : World) (hxk : xk.size ≤ maxLen) (hl : xdata.length = nx) (h : 5 < act) :
    Calls Try.prog 16 #[.agg #[.int .i64 act, .string xk, .slice Ax nx cx, .int .i64 xlo, .int .i64 xhi, .int .i64 xn]] w fun e w' => e = .returned (.bool (false)) ∧ Below w.heap.size w w' := by
  have d0 : decide (act < 0) = false := by simp; omega
  have d1 : decide (5 < act) = true := by simpa using h
  go_enter Try.func16, Try.ntmps16
  go_wp2_with (go_at_call 60; refine (Key.right_any xk _ hxk).mono ?_; rintro e w1 ⟨rfl, rfl⟩)
  go_ret
  exact ⟨by rfl, balloc (bsame w) _⟩
set_option maxRecDepth 100000 in
set_option maxHeartbeats 400000 in
theorem good_wrong0 (xk : ByteArray) (Ax : Option Addr) (nx cx : Nat) (xdata : List UInt8) (xlo xhi xn : Int) (w : World) (hxk : xk.size ≤ maxLen) (hl : xdata.length = nx) (hr : KeyP.right xk.data.toList = false) :
    Calls Try.prog 16 #[.agg #[.int .i64 0, .string xk, .slice Ax nx cx, .int .i64 xlo, .int .i64 xhi, .int .i64 xn]] w fun e w' => e = .returned (.bool (false)) ∧ Below w.heap.size w w' := by
  go_enter Try.func16, Try.ntmps16
  go_wp2_with (go_at_call 60; refine (Key.right_any xk _ hxk).mono ?_; rintro e w1 ⟨rfl, rfl⟩)
  go_ret
  exact ⟨by rfl, balloc (bsame w) _⟩
set_option maxRecDepth 100000 in
set_option maxHeartbeats 400000 in
theorem good_wrong1 (xk : ByteArray) (Ax : Option Addr) (nx cx : Nat) (xdata : List UInt8) (xlo xhi xn : Int) (w : World) (hxk : xk.size ≤ maxLen) (hl : xdata.length = nx) (hr : KeyP.right xk.data.toList = false) :
    Calls Try.prog 16 #[.agg #[.int .i64 1, .string xk, .slice Ax nx cx, .int .i64 xlo, .int .i64 xhi, .int .i64 xn]] w fun e w' => e = .returned (.bool (false)) ∧ Below w.heap.size w w' := by
  go_enter Try.func16, Try.ntmps16
  go_wp2_with (go_at_call 60; refine (Key.right_any xk _ hxk).mono ?_; rintro e w1 ⟨rfl, rfl⟩)
  go_ret
  exact ⟨by rfl, balloc (bsame w) _⟩
set_option maxRecDepth 100000 in
set_option maxHeartbeats 400000 in
theorem good_wrong2 (xk : ByteArray) (Ax : Option Addr) (nx cx : Nat) (xdata : List UInt8) (xlo xhi xn : Int) (w : World) (hxk : xk.size ≤ maxLen) (hl : xdata.length = nx) (hr : KeyP.right xk.data.toList = false) :
    Calls Try.prog 16 #[.agg #[.int .i64 2, .string xk, .slice Ax nx cx, .int .i64 xlo, .int .i64 xhi, .int .i64 xn]] w fun e w' => e = .returned (.bool (false)) ∧ Below w.heap.size w w' := by
  go_enter Try.func16, Try.ntmps16
  go_wp2_with (go_at_call 60; refine (Key.right_any xk _ hxk).mono ?_; rintro e w1 ⟨rfl, rfl⟩)
  go_ret
  exact ⟨by rfl, balloc (bsame w) _⟩
set_option maxRecDepth 100000 in
set_option maxHeartbeats 400000 in
theorem good_wrong3 (xk : ByteArray) (Ax : Option Addr) (nx cx : Nat) (xdata : List UInt8) (xlo xhi xn : Int) (w : World) (hxk : xk.size ≤ maxLen) (hl : xdata.length = nx) (hr : KeyP.right xk.data.toList = false) :
    Calls Try.prog 16 #[.agg #[.int .i64 3, .string xk, .slice Ax nx cx, .int .i64 xlo, .int .i64 xhi, .int .i64 xn]] w fun e w' => e = .returned (.bool (false)) ∧ Below w.heap.size w w' := by
  go_enter Try.func16, Try.ntmps16
  go_wp2_with (go_at_call 60; refine (Key.right_any xk _ hxk).mono ?_; rintro e w1 ⟨rfl, rfl⟩)
  go_ret
  exact ⟨by rfl, balloc (bsame w) _⟩
set_option maxRecDepth 100000 in
set_option maxHeartbeats 400000 in
theorem good_wrong4 (xk : ByteArray) (Ax : Option Addr) (nx cx : Nat) (xdata : List UInt8) (xlo xhi xn : Int) (w : World) (hxk : xk.size ≤ maxLen) (hl : xdata.length = nx) (hr : KeyP.right xk.data.toList = false) :
    Calls Try.prog 16 #[.agg #[.int .i64 4, .string xk, .slice Ax nx cx, .int .i64 xlo, .int .i64 xhi, .int .i64 xn]] w fun e w' => e = .returned (.bool (false)) ∧ Below w.heap.size w w' := by
  go_enter Try.func16, Try.ntmps16
  go_wp2_with (go_at_call 60; refine (Key.right_any xk _ hxk).mono ?_; rintro e w1 ⟨rfl, rfl⟩)
  go_ret
  exact ⟨by rfl, balloc (bsame w) _⟩
set_option maxRecDepth 100000 in
set_option maxHeartbeats 400000 in
theorem good_wrong5 (xk : ByteArray) (Ax : Option Addr) (nx cx : Nat) (xdata : List UInt8) (xlo xhi xn : Int) (w : World) (hxk : xk.size ≤ maxLen) (hl : xdata.length = nx) (hr : KeyP.right xk.data.toList = false) :
    Calls Try.prog 16 #[.agg #[.int .i64 5, .string xk, .slice Ax nx cx, .int .i64 xlo, .int .i64 xhi, .int .i64 xn]] w fun e w' => e = .returned (.bool (false)) ∧ Below w.heap.size w w' := by
  go_enter Try.func16, Try.ntmps16
  go_wp2_with (go_at_call 60; refine (Key.right_any xk _ hxk).mono ?_; rintro e w1 ⟨rfl, rfl⟩)
  go_ret
  exact ⟨by rfl, balloc (bsame w) _⟩
set_option maxRecDepth 100000 in
set_option maxHeartbeats 400000 in
theorem good_a0 (xk : ByteArray) (Ax : Option Addr) (nx cx : Nat) (xdata : List UInt8) (xlo xhi xn : Int) (w : World) (hxk : xk.size ≤ maxLen) (hl : xdata.length = nx) (hr : KeyP.right xk.data.toList = true) :
    Calls Try.prog 16 #[.agg #[.int .i64 0, .string xk, .slice Ax nx cx, .int .i64 xlo, .int .i64 xhi, .int .i64 xn]] w fun e w' => e = .returned (.bool (true)) ∧ Below w.heap.size w w' := by
  go_enter Try.func16, Try.ntmps16
  go_wp2_with (go_at_call 60; refine (Key.right_any xk _ hxk).mono ?_; rintro e w1 ⟨rfl, rfl⟩)
  go_ret
  exact ⟨by rfl, balloc (bsame w) _⟩
set_option maxRecDepth 100000 in
set_option maxHeartbeats 400000 in
theorem good_a3 (xk : ByteArray) (Ax : Option Addr) (nx cx : Nat) (xdata : List UInt8) (xlo xhi xn : Int) (w : World) (hxk : xk.size ≤ maxLen) (hl : xdata.length = nx) (hr : KeyP.right xk.data.toList = true) :
    Calls Try.prog 16 #[.agg #[.int .i64 3, .string xk, .slice Ax nx cx, .int .i64 xlo, .int .i64 xhi, .int .i64 xn]] w fun e w' => e = .returned (.bool (true)) ∧ Below w.heap.size w w' := by
  go_enter Try.func16, Try.ntmps16
  go_wp2_with (go_at_call 60; refine (Key.right_any xk _ hxk).mono ?_; rintro e w1 ⟨rfl, rfl⟩)
  go_ret
  exact ⟨by rfl, balloc (bsame w) _⟩
set_option maxRecDepth 100000 in
set_option maxHeartbeats 400000 in
theorem good_w (xk : ByteArray) (Ax : Option Addr) (nx cx : Nat) (xdata : List UInt8) (xlo xhi xn : Int) (w : World) (hxk : xk.size ≤ maxLen) (hl : xdata.length = nx) (hr : KeyP.right xk.data.toList = true) (h : nx ≤ 32) :
    Calls Try.prog 16 #[.agg #[.int .i64 1, .string xk, .slice Ax nx cx, .int .i64 xlo, .int .i64 xhi, .int .i64 xn]] w fun e w' => e = .returned (.bool (true)) ∧ Below w.heap.size w w' := by
  have d : decide ((nx : Int) ≤ 32) = true := by simp; omega
  go_enter Try.func16, Try.ntmps16
  go_wp2_with (go_at_call 60; refine (Key.right_any xk _ hxk).mono ?_; rintro e w1 ⟨rfl, rfl⟩)
  go_ret
  exact ⟨by rfl, balloc (bsame w) _⟩
set_option maxRecDepth 100000 in
set_option maxHeartbeats 400000 in
theorem good_wN (xk : ByteArray) (Ax : Option Addr) (nx cx : Nat) (xdata : List UInt8) (xlo xhi xn : Int) (w : World) (hxk : xk.size ≤ maxLen) (hl : xdata.length = nx) (hr : KeyP.right xk.data.toList = true) (h : 32 < nx) :
    Calls Try.prog 16 #[.agg #[.int .i64 1, .string xk, .slice Ax nx cx, .int .i64 xlo, .int .i64 xhi, .int .i64 xn]] w fun e w' => e = .returned (.bool (false)) ∧ Below w.heap.size w w' := by
  have d : decide ((nx : Int) ≤ 32) = false := by simp; omega
  go_enter Try.func16, Try.ntmps16
  go_wp2_with (go_at_call 60; refine (Key.right_any xk _ hxk).mono ?_; rintro e w1 ⟨rfl, rfl⟩)
  go_ret
  exact ⟨by rfl, balloc (bsame w) _⟩
set_option maxRecDepth 100000 in
set_option maxHeartbeats 400000 in
theorem good_c (xk : ByteArray) (Ax : Option Addr) (nx cx : Nat) (xdata : List UInt8) (xlo xhi xn : Int) (w : World) (hxk : xk.size ≤ maxLen) (hl : xdata.length = nx) (hr : KeyP.right xk.data.toList = true) (h1 : xlo ≤ xn) (h2 : xn ≤ xhi) :
    Calls Try.prog 16 #[.agg #[.int .i64 2, .string xk, .slice Ax nx cx, .int .i64 xlo, .int .i64 xhi, .int .i64 xn]] w fun e w' => e = .returned (.bool (true)) ∧ Below w.heap.size w w' := by
  go_enter Try.func16, Try.ntmps16
  go_wp2_with (go_at_call 60; refine (Key.right_any xk _ hxk).mono ?_; rintro e w1 ⟨rfl, rfl⟩)
  go_ret
  exact ⟨by rfl, balloc (bsame w) _⟩
set_option maxRecDepth 100000 in
set_option maxHeartbeats 400000 in
theorem good_cN1 (xk : ByteArray) (Ax : Option Addr) (nx cx : Nat) (xdata : List UInt8) (xlo xhi xn : Int) (w : World) (hxk : xk.size ≤ maxLen) (hl : xdata.length = nx) (hr : KeyP.right xk.data.toList = true) (h1 : xn < xlo) :
    Calls Try.prog 16 #[.agg #[.int .i64 2, .string xk, .slice Ax nx cx, .int .i64 xlo, .int .i64 xhi, .int .i64 xn]] w fun e w' => e = .returned (.bool (false)) ∧ Below w.heap.size w w' := by
  have d : decide (xlo ≤ xn) = false := by simp; omega
  go_enter Try.func16, Try.ntmps16
  go_wp2_with (go_at_call 60; refine (Key.right_any xk _ hxk).mono ?_; rintro e w1 ⟨rfl, rfl⟩)
  go_ret
  exact ⟨by rfl, balloc (bsame w) _⟩
set_option maxRecDepth 100000 in
set_option maxHeartbeats 400000 in
theorem good_cN2 (xk : ByteArray) (Ax : Option Addr) (nx cx : Nat) (xdata : List UInt8) (xlo xhi xn : Int) (w : World) (hxk : xk.size ≤ maxLen) (hl : xdata.length = nx) (hr : KeyP.right xk.data.toList = true) (h1 : xlo ≤ xn) (h2 : xhi < xn) :
    Calls Try.prog 16 #[.agg #[.int .i64 2, .string xk, .slice Ax nx cx, .int .i64 xlo, .int .i64 xhi, .int .i64 xn]] w fun e w' => e = .returned (.bool (false)) ∧ Below w.heap.size w w' := by
  have d : decide (xn ≤ xhi) = false := by simp; omega
  go_enter Try.func16, Try.ntmps16
  go_wp2_with (go_at_call 60; refine (Key.right_any xk _ hxk).mono ?_; rintro e w1 ⟨rfl, rfl⟩)
  go_ret
  exact ⟨by rfl, balloc (bsame w) _⟩
set_option maxRecDepth 100000 in
set_option maxHeartbeats 400000 in
theorem good_i4 (xk : ByteArray) (Ax : Option Addr) (nx cx : Nat) (xdata : List UInt8) (xlo xhi xn : Int) (w : World) (hxk : xk.size ≤ maxLen) (hl : xdata.length = nx) (hr : KeyP.right xk.data.toList = true) (h : 0 ≤ xn) :
    Calls Try.prog 16 #[.agg #[.int .i64 4, .string xk, .slice Ax nx cx, .int .i64 xlo, .int .i64 xhi, .int .i64 xn]] w fun e w' => e = .returned (.bool (true)) ∧ Below w.heap.size w w' := by
  go_enter Try.func16, Try.ntmps16
  go_wp2_with (go_at_call 60; refine (Key.right_any xk _ hxk).mono ?_; rintro e w1 ⟨rfl, rfl⟩)
  go_ret
  exact ⟨by rfl, balloc (bsame w) _⟩
set_option maxRecDepth 100000 in
set_option maxHeartbeats 400000 in
theorem good_iN4 (xk : ByteArray) (Ax : Option Addr) (nx cx : Nat) (xdata : List UInt8) (xlo xhi xn : Int) (w : World) (hxk : xk.size ≤ maxLen) (hl : xdata.length = nx) (hr : KeyP.right xk.data.toList = true) (h : xn < 0) :
    Calls Try.prog 16 #[.agg #[.int .i64 4, .string xk, .slice Ax nx cx, .int .i64 xlo, .int .i64 xhi, .int .i64 xn]] w fun e w' => e = .returned (.bool (false)) ∧ Below w.heap.size w w' := by
  have d : decide (0 ≤ xn) = false := by simp; omega
  go_enter Try.func16, Try.ntmps16
  go_wp2_with (go_at_call 60; refine (Key.right_any xk _ hxk).mono ?_; rintro e w1 ⟨rfl, rfl⟩)
  go_ret
  exact ⟨by rfl, balloc (bsame w) _⟩
set_option maxRecDepth 100000 in
set_option maxHeartbeats 400000 in
theorem good_i5 (xk : ByteArray) (Ax : Option Addr) (nx cx : Nat) (xdata : List UInt8) (xlo xhi xn : Int) (w : World) (hxk : xk.size ≤ maxLen) (hl : xdata.length = nx) (hr : KeyP.right xk.data.toList = true) (h : 0 ≤ xn) :
    Calls Try.prog 16 #[.agg #[.int .i64 5, .string xk, .slice Ax nx cx, .int .i64 xlo, .int .i64 xhi, .int .i64 xn]] w fun e w' => e = .returned (.bool (true)) ∧ Below w.heap.size w w' := by
  go_enter Try.func16, Try.ntmps16
  go_wp2_with (go_at_call 60; refine (Key.right_any xk _ hxk).mono ?_; rintro e w1 ⟨rfl, rfl⟩)
  go_ret
  exact ⟨by rfl, balloc (bsame w) _⟩
set_option maxRecDepth 100000 in
set_option maxHeartbeats 400000 in
theorem good_iN5 (xk : ByteArray) (Ax : Option Addr) (nx cx : Nat) (xdata : List UInt8) (xlo xhi xn : Int) (w : World) (hxk : xk.size ≤ maxLen) (hl : xdata.length = nx) (hr : KeyP.right xk.data.toList = true) (h : xn < 0) :
    Calls Try.prog 16 #[.agg #[.int .i64 5, .string xk, .slice Ax nx cx, .int .i64 xlo, .int .i64 xhi, .int .i64 xn]] w fun e w' => e = .returned (.bool (false)) ∧ Below w.heap.size w w' := by
  have d : decide (0 ≤ xn) = false := by simp; omega
  go_enter Try.func16, Try.ntmps16
  go_wp2_with (go_at_call 60; refine (Key.right_any xk _ hxk).mono ?_; rintro e w1 ⟨rfl, rfl⟩)
  go_ret
  exact ⟨by rfl, balloc (bsame w) _⟩
/-- ref09.Good -/
theorem good_any (x : OpX) (Ax : Option Addr) (nx cx : Nat) (w : World) (hxk : x.key.size ≤ maxLen) (hl : x.data.length = nx) :
    Calls Try.prog 16 #[.agg (opV x Ax nx cx).toArray] w fun e w' => e = .returned (.bool (ModelP.good x)) ∧ Below w.heap.size w w' := by
  obtain ⟨act, xk, xdata, xlo, xhi, xn⟩ := x
  dsimp only at hxk hl
  by_cases h0 : act < 0
  · rw [show ModelP.good ⟨act, xk, xdata, xlo, xhi, xn⟩ = false from by have : ¬ (0 ≤ act ∧ act ≤ 5) := by omega
                                                                        simp [ModelP.good, this]]
    exact good_low act xk Ax nx cx xdata xlo xhi xn w hxk hl h0
  by_cases h5 : 5 < act
  · rw [show ModelP.good ⟨act, xk, xdata, xlo, xhi, xn⟩ = false from by have : ¬ (0 ≤ act ∧ act ≤ 5) := by omega
                                                                        simp [ModelP.good, this]]
    exact good_high act xk Ax nx cx xdata xlo xhi xn w hxk hl h5
  have hcase : act = 0 ∨ act = 1 ∨ act = 2 ∨ act = 3 ∨ act = 4 ∨ act = 5 := by omega
  clear h0 h5
  by_cases hr : KeyP.right xk.data.toList = true
  · rcases hcase with rfl | rfl | rfl | rfl | rfl | rfl
    · rw [show ModelP.good ⟨0, xk, xdata, xlo, xhi, xn⟩ = true from by simp [ModelP.good, hr]]
      exact good_a0 xk Ax nx cx xdata xlo xhi xn w hxk hl hr
    · by_cases h : nx ≤ 32
      · rw [show ModelP.good ⟨1, xk, xdata, xlo, xhi, xn⟩ = true from by simp [ModelP.good, hr, hl, h]]
        exact good_w xk Ax nx cx xdata xlo xhi xn w hxk hl hr h
      · rw [show ModelP.good ⟨1, xk, xdata, xlo, xhi, xn⟩ = false from by simp [ModelP.good, hr, hl, h]]
        exact good_wN xk Ax nx cx xdata xlo xhi xn w hxk hl hr (by omega)
    · by_cases h : xlo ≤ xn
      · by_cases h2 : xn ≤ xhi
        · rw [show ModelP.good ⟨2, xk, xdata, xlo, xhi, xn⟩ = true from by simp [ModelP.good, hr, h, h2]]
          exact good_c xk Ax nx cx xdata xlo xhi xn w hxk hl hr h h2
        · rw [show ModelP.good ⟨2, xk, xdata, xlo, xhi, xn⟩ = false from by simp [ModelP.good, h2]]
          exact good_cN2 xk Ax nx cx xdata xlo xhi xn w hxk hl hr h (by omega)
      · rw [show ModelP.good ⟨2, xk, xdata, xlo, xhi, xn⟩ = false from by simp [ModelP.good, h]]
        exact good_cN1 xk Ax nx cx xdata xlo xhi xn w hxk hl hr (by omega)
    · rw [show ModelP.good ⟨3, xk, xdata, xlo, xhi, xn⟩ = true from by simp [ModelP.good, hr]]
      exact good_a3 xk Ax nx cx xdata xlo xhi xn w hxk hl hr
    · by_cases h : 0 ≤ xn
      · rw [show ModelP.good ⟨4, xk, xdata, xlo, xhi, xn⟩ = true from by simp [ModelP.good, hr, h]]
        exact good_i4 xk Ax nx cx xdata xlo xhi xn w hxk hl hr h
      · rw [show ModelP.good ⟨4, xk, xdata, xlo, xhi, xn⟩ = false from by simp [ModelP.good, h]]
        exact good_iN4 xk Ax nx cx xdata xlo xhi xn w hxk hl hr (by omega)
    · by_cases h : 0 ≤ xn
      · rw [show ModelP.good ⟨5, xk, xdata, xlo, xhi, xn⟩ = true from by simp [ModelP.good, hr, h]]
        exact good_i5 xk Ax nx cx xdata xlo xhi xn w hxk hl hr h
      · rw [show ModelP.good ⟨5, xk, xdata, xlo, xhi, xn⟩ = false from by simp [ModelP.good, h]]
        exact good_iN5 xk Ax nx cx xdata xlo xhi xn w hxk hl hr (by omega)
  · have hr : KeyP.right xk.data.toList = false := by simpa using hr
    rw [show ModelP.good ⟨act, xk, xdata, xlo, xhi, xn⟩ = false from by simp [ModelP.good, hr]]
    rcases hcase with rfl | rfl | rfl | rfl | rfl | rfl
    · exact good_wrong0 xk Ax nx cx xdata xlo xhi xn w hxk hl hr
    · exact good_wrong1 xk Ax nx cx xdata xlo xhi xn w hxk hl hr
    · exact good_wrong2 xk Ax nx cx xdata xlo xhi xn w hxk hl hr
    · exact good_wrong3 xk Ax nx cx xdata xlo xhi xn w hxk hl hr
    · exact good_wrong4 xk Ax nx cx xdata xlo xhi xn w hxk hl hr
    · exact good_wrong5 xk Ax nx cx xdata xlo xhi xn w hxk hl hr
set_option maxRecDepth 100000 in
set_option maxHeartbeats 1000000 in
theorem exact_any (a b : OpX) (Aa Ab : Option Addr) (na ca nb cb Ba Bb : Nat) (w : World) (h : Bytes w Ba Aa na ca a.data) (hB : Ba ≤ w.heap.size) (h' : Bytes w Bb Ab nb cb b.data) (hB' : Bb ≤ w.heap.size) :
    Calls Try.prog 17 #[.agg (opV a Aa na ca).toArray, .agg (opV b Ab nb cb).toArray] w fun e w' => e = .returned (.bool (ModelP.same a b)) ∧ Below w.heap.size w w' := by
  obtain ⟨a0, ak, ad, a1, a2, a3⟩ := a
  obtain ⟨b0, bk, bd, b1, b2, b3⟩ := b
  dsimp only [opV] at *
  have H := Lib.hid h
  have H' := Lib.hid h'
  clear h h'
  go_enter Try.func17, Try.ntmps17
  go_wp2_with (go_at_call 61; refine (Same.same_any _ _ _ _ _ _ _ _ _ _ _ ((H.out.alloc hB _).alloc (by simp; omega) _) ((H'.out.alloc hB' _).alloc (by simp; omega) _)).mono ?_; rintro e w' ⟨rfl, rfl⟩)
  all_goals go_ret
  all_goals refine ⟨congrArg (fun b => Ending.returned (.bool b)) ?_, balloc (balloc (bsame _) _) _⟩
  all_goals simp_all [ModelP.same]
theorem muchP_hit {l : List Pair} {k : Nat} {p : Pair} (hk : k < 100) (hp : l[k]? = some p) (h : ModelP.muchP p = true) : ModelP.muchS l = true := by
  unfold ModelP.muchS
  rw [Bool.or_eq_true]
  left
  exact List.any_eq_true.2 ⟨p, List.mem_of_getElem? (i := k) (by rw [List.getElem?_take, if_pos hk]; exact hp), h⟩
theorem muchP_miss {l : List Pair} {k : Nat} (h : ∀ (j : Nat) p, j < k → l[j]? = some p → ModelP.muchP p = false) (hk : l.length ≤ k ∨ 100 ≤ k) : ModelP.muchS l = decide (60 < l.length) := by
  unfold ModelP.muchS
  have : (l.take 100).any ModelP.muchP = false := by
    rw [List.any_eq_false]
    intro p hp
    obtain ⟨j, hj, rfl⟩ := List.getElem_of_mem hp
    have hj' : j < 100 ∧ j < l.length := by simp at hj; omega
    rw [List.getElem_take, h j _ (by omega) (List.getElem?_eq_getElem _)]
    simp
  rw [this, Bool.false_or]
set_option maxRecDepth 100000 in
set_option maxHeartbeats 1000000 in
theorem muchState_any (A : Option Addr) (n c B : Nat) (l : List Pair) (w : World) (h : Elems PairE w B A n c l) (hB : B ≤ w.heap.size) :
    Calls Try.prog 20 #[.slice A n c] w fun e w' => e = .returned (.bool (ModelP.muchS l)) ∧ Below w.heap.size w w' := by
  have H := Lib.hid h
  have HL := Lib.hid h.len
  have hcm := h.cap
  unfold maxLen at hcm
  clear h
  go_enter Try.func20, Try.ntmps20
  go_wp2
  go_loopw [3] (fun i wr => ∃ k : Nat, k ≤ n ∧ k ≤ 100 ∧ i = .int .i64 (k : Int) ∧ Hid (Below w.heap.size w wr ∧ ∀ (j : Nat) p, j < k → l[j]? = some p → ModelP.muchP p = false)) (fun i _ => n - (intOf i).toNat)
  case atStart => exact ⟨0, Nat.zero_le _, by omega, rfl, Lib.hid ⟨bsame w, fun j q hj => absurd hj (by omega)⟩⟩
  case round =>
    obtain ⟨k, hk, hk2, rfl, HK⟩ := hrel
    have hsz := HK.out.1.size
    by_cases hlt : k < n
    · by_cases hlt2 : k < 100
      · obtain ⟨b, o, p, Ap, np, cp, rfl, hbB, hp, hby, hpk, -, -, -, -, c0, c1, c2, c3, c4, c5⟩ := pair_at (H.out.below (HK.out.1.mono hB)) hlt
        have HP := Lib.hid hp
        have hnp := hby.len
        have hnc := hby.2.1
        have hnm := hby.2.2.1
        clear hp hby
        obtain ⟨pk, pkd, pda, plo, phi, pva⟩ := p
        dsimp only at *
        unfold maxLen at hpk hnm
        have hbw : b < wr.heap.size := by omega
        by_cases h1 : 300 < pk.size
        · have HE := Lib.hid (muchP_hit hlt2 HP.out (by simp [ModelP.muchP, h1]))
          go_wp2
          go_ret
          exact ⟨by rw [HE.out]; rfl, HK.out.1⟩
        · by_cases h2 : 300 < np
          · have HE := Lib.hid (muchP_hit hlt2 HP.out (by simp [ModelP.muchP, hnp, h2]))
            have d1 : decide (300 < (pk.size : Int)) = false := by simp; omega
            go_wp2
            go_ret
            exact ⟨by rw [HE.out]; rfl, HK.out.1⟩
          · have HN : Hid (ModelP.muchP ⟨pk, ⟨pkd, pda, plo, phi, pva⟩⟩ = false) := Lib.hid (by simp [ModelP.muchP, hnp]; omega)
            have d1 : decide (300 < (pk.size : Int)) = false := by simp; omega
            have d2 : decide (300 < (np : Int)) = false := by simp; omega
            go_wp2
            go_roundw
            case rel => exact ⟨k + 1, by omega, by omega, by go_num, Lib.hid ⟨HK.out.1, fun j q hj hq => by
              rcases Nat.lt_or_ge j k with h3 | h3
              · exact HK.out.2 j q h3 hq
              · have : j = k := by omega
                subst this
                rw [HP.out] at hq
                cases hq
                exact HN.out⟩⟩
            case measure => simp [intOf]; omega
      · have HE := Lib.hid (muchP_miss (k := k) HK.out.2 (by omega))
        have d1 : decide ((k : Int) < 100) = false := by simp; omega
        go_wp2
        go_ret
        exact ⟨by rw [HE.out, HL.out]; simp; omega, HK.out.1⟩
    · have HE := Lib.hid (muchP_miss (k := k) HK.out.2 (by left; rw [HL.out]; omega))
      have d1 : decide ((k : Int) < (n : Int)) = false := by simp; omega
      go_wp2
      go_ret
      exact ⟨by rw [HE.out, HL.out]; simp; omega, HK.out.1⟩
theorem muchO_hit {l : List OpX} {k : Nat} {p : OpX} (hk : k < 100) (hp : l[k]? = some p) (h : ModelP.muchO p = true) : ModelP.muchL l = true := by
  unfold ModelP.muchL
  rw [Bool.or_eq_true]
  left
  exact List.any_eq_true.2 ⟨p, List.mem_of_getElem? (i := k) (by rw [List.getElem?_take, if_pos hk]; exact hp), h⟩
theorem muchO_miss {l : List OpX} {k : Nat} (h : ∀ (j : Nat) p, j < k → l[j]? = some p → ModelP.muchO p = false) (hk : l.length ≤ k ∨ 100 ≤ k) : ModelP.muchL l = decide (60 < l.length) := by
  unfold ModelP.muchL
  have : (l.take 100).any ModelP.muchO = false := by
    rw [List.any_eq_false]
    intro p hp
    obtain ⟨j, hj, rfl⟩ := List.getElem_of_mem hp
    have hj' : j < 100 ∧ j < l.length := by simp at hj; omega
    rw [List.getElem_take, h j _ (by omega) (List.getElem?_eq_getElem _)]
    simp
  rw [this, Bool.false_or]
set_option maxRecDepth 100000 in
set_option maxHeartbeats 1000000 in
theorem much_any (A : Option Addr) (n c B : Nat) (l : List OpX) (w : World) (h : Elems OpE w B A n c l) (hB : B ≤ w.heap.size) :
    Calls Try.prog 12 #[.slice A n c] w fun e w' => e = .returned (.bool (ModelP.muchL l)) ∧ Below w.heap.size w w' := by
  have H := Lib.hid h
  have HL := Lib.hid h.len
  have hcm := h.cap
  unfold maxLen at hcm
  clear h
  go_enter Try.func12, Try.ntmps12
  go_wp2
  go_loopw [3] (fun i wr => ∃ k : Nat, k ≤ n ∧ k ≤ 100 ∧ i = .int .i64 (k : Int) ∧ Hid (Below w.heap.size w wr ∧ ∀ (j : Nat) p, j < k → l[j]? = some p → ModelP.muchO p = false)) (fun i _ => n - (intOf i).toNat)
  case atStart => exact ⟨0, Nat.zero_le _, by omega, rfl, Lib.hid ⟨bsame w, fun j q hj => absurd hj (by omega)⟩⟩
  case round =>
    obtain ⟨k, hk, hk2, rfl, HK⟩ := hrel
    have hsz := HK.out.1.size
    by_cases hlt : k < n
    · by_cases hlt2 : k < 100
      · obtain ⟨b, o, p, Ap, np, cp, rfl, hbB, hp, hby, hpk, -, -, -, -, c0, c1, c2, c3, c4, c5⟩ := op_at (H.out.below (HK.out.1.mono hB)) hlt
        have HP := Lib.hid hp
        have hnp := hby.len
        have hnc := hby.2.1
        have hnm := hby.2.2.1
        clear hp hby
        obtain ⟨pact, pk, pda, plo, phi, pn⟩ := p
        dsimp only at *
        unfold maxLen at hpk hnm
        have hbw : b < wr.heap.size := by omega
        by_cases h1 : 300 < pk.size
        · have HE := Lib.hid (muchO_hit hlt2 HP.out (by simp [ModelP.muchO, h1]))
          go_wp2
          go_ret
          exact ⟨by rw [HE.out]; rfl, HK.out.1⟩
        · by_cases h2 : 300 < np
          · have HE := Lib.hid (muchO_hit hlt2 HP.out (by simp [ModelP.muchO, hnp, h2]))
            have d1 : decide (300 < (pk.size : Int)) = false := by simp; omega
            go_wp2
            go_ret
            exact ⟨by rw [HE.out]; rfl, HK.out.1⟩
          · have HN : Hid (ModelP.muchO ⟨pact, pk, pda, plo, phi, pn⟩ = false) := Lib.hid (by simp [ModelP.muchO, hnp]; omega)
            have d1 : decide (300 < (pk.size : Int)) = false := by simp; omega
            have d2 : decide (300 < (np : Int)) = false := by simp; omega
            go_wp2
            go_roundw
            case rel => exact ⟨k + 1, by omega, by omega, by go_num, Lib.hid ⟨HK.out.1, fun j q hj hq => by
              rcases Nat.lt_or_ge j k with h3 | h3
              · exact HK.out.2 j q h3 hq
              · have : j = k := by omega
                subst this
                rw [HP.out] at hq
                cases hq
                exact HN.out⟩⟩
            case measure => simp [intOf]; omega
      · have HE := Lib.hid (muchO_miss (k := k) HK.out.2 (by omega))
        have d1 : decide ((k : Int) < 100) = false := by simp; omega
        go_wp2
        go_ret
        exact ⟨by rw [HE.out, HL.out]; simp; omega, HK.out.1⟩
    · have HE := Lib.hid (muchO_miss (k := k) HK.out.2 (by left; rw [HL.out]; omega))
      have d1 : decide ((k : Int) < (n : Int)) = false := by simp; omega
      go_wp2
      go_ret
      exact ⟨by rw [HE.out, HL.out]; simp; omega, HK.out.1⟩
end Go.Proofs.Ytghgccgpgonlmaa.ModelW
namespace Go.Proofs.Ytghgccgpgonlmaa.ModelW
open Go.RowKit
set_option linter.unusedVariables false
attribute [local go_sem ↓] app_fold cut_fold
/-- a pair typed out, beside a row of the call's own above its bytes -/
theorem lit_src {w : World} {b n c B base n1 c1 : Nat} {A A1 : Option Addr} {l : List Pair} {p : Pair} (h : OwnE PairE TPr w base A n c l) (hs : Str w b (pairV p A1 n1 c1).toArray) (hy : Bytes w B A1 n1 c1 p.cell.data) (hB : B ≤ base) (hw : base ≤ w.heap.size) (hk : p.key.size ≤ maxLen) (hin : In64 p.cell.kind ∧ In64 p.cell.lo ∧ In64 p.cell.hi ∧ In64 p.cell.val) :
    ElemsIn PairE (hid A w) w w.heap.size (some ⟨b, 0, none⟩) 1 1 [p] := by
  refine ⟨[pairV p A1 n1 c1], ⟨⟨A1, n1, c1, rfl, (hy.sub (hid_lt A w fun a ha => Nat.le_trans hB (h.ge a ha))).more (by omega), hk, hin.1, hin.2.1, hin.2.2.1, hin.2.2.2⟩, trivial⟩, rfl, Nat.le_refl _, by unfold maxLen; omega, fun _ => ⟨b, 0, rfl, hs.lt, fun j v hv => ?_⟩⟩
  rw [List.flatten_singleton] at hv
  rw [hs.cell, Nat.zero_add]
  simpa using hv
/-- the call hands back a state -/
def GivesS (w : World) (l : List Pair) (e : Ending) (w' : World) : Prop := ∃ A n c, e = .returned (.slice A n c) ∧ Pairs w' w'.heap.size A n c l ∧ Below w.heap.size w w'
theorem at_key {l : List Pair} {key : ByteArray} {k : Nat} {p : Pair} (hat : ModelP.at_ l key = k) (hp : l[k]? = some p) (he : p.key = key) : (l[ModelP.at_ l key]?).map (·.key) = some key := by rw [hat, hp, ← he]; rfl
theorem at_nokey {l : List Pair} {key : ByteArray} {k : Nat} {p : Pair} (hat : ModelP.at_ l key = k) (hp : l[k]? = some p) (he : ¬ p.key = key) : ¬ (l[ModelP.at_ l key]?).map (·.key) = some key := by
  rw [hat, hp]
  simpa using he
theorem at_none {l : List Pair} {key : ByteArray} {k : Nat} (hat : ModelP.at_ l key = k) (hp : l.length ≤ k) : ¬ (l[ModelP.at_ l key]?).map (·.key) = some key := by
  rw [hat, List.getElem?_eq_none hp]
  simp
theorem less_lt (a b : ByteArray) : Op.bytesLess a.toList b.toList = decide (ModelP.lt a b) := by
  rw [bytesLess_eq, Lib.toList_data, Lib.toList_data]
set_option maxRecDepth 100000 in
set_option maxHeartbeats 2000000 in
theorem putSome (A : Option Addr) (n c B : Nat) (l : List Pair) (key : ByteArray) (ckd : Int) (cda : List UInt8) (clo chi cva : Int) (Ac : Option Addr) (nc cc Bc : Nat) (w : World) (h : Pairs w B A n c l) (hB : B ≤ w.heap.size) (hn : n ≤ 1000) (hc : Bytes w Bc Ac nc cc cda) (hBc : Bc ≤ w.heap.size) (hkey : key.size ≤ maxLen) (hin : In64 ckd ∧ In64 clo ∧ In64 chi ∧ In64 cva) (hkd : ckd ≠ 0) :
    Calls Try.prog 66 #[.slice A n c, .string key, .agg #[.int .i64 ckd, .slice Ac nc cc, .int .i64 clo, .int .i64 chi, .int .i64 cva]] w (GivesS w (ModelP.put l key (some ⟨ckd, cda, clo, chi, cva⟩))) := by
  obtain ⟨i0, hi, hz0, hz1, hz2⟩ := info_parts infoP
  have HI := Lib.hid hi
  have H := Lib.hid h
  have HL := Lib.hid h.len
  have hcap := h.cap
  have HC := Lib.hid hc
  have hcm := hcap.2
  have hcn := hcap.1
  unfold maxLen at hcm
  clear h hc hi hcap
  have kd1 : (ckd != 0) = true := by simpa using hkd
  clear hkd
  go_enter Try.func66, Try.ntmps66
  go_wp2
  generalize hW0 : w.alloc (.cells #[.int .i64 ckd, .slice Ac nc cc, .int .i64 clo, .int .i64 chi, .int .i64 cva] 37) = W0
  have HS0 : Hid (Str W0 w.heap.size #[.int .i64 ckd, .slice Ac nc cc, .int .i64 clo, .int .i64 chi, .int .i64 cva]) := Lib.hid (by rw [← hW0]; exact Str.new w _ _)
  have HB0 : Hid (Below w.heap.size w W0) := Lib.hid (by rw [← hW0]; exact balloc (bsame w) _)
  clear hW0
  have hw0 := HB0.out.size
  go_loopw [7, 8] (fun s i wr => ∃ (k : Nat) (A1 : Option Addr) (c1 : Nat), k ≤ n ∧ i = .int .i64 (k : Int) ∧ s = .slice A1 k c1 ∧ Hid (OwnE PairE TPr wr W0.heap.size A1 k c1 (l.take k) ∧ Below W0.heap.size W0 wr ∧ ∀ (j : Nat) p, j < k → l[j]? = some p → ModelP.lt p.key key)) (fun _ i _ => n - (intOf i).toNat)
  case atStart => exact ⟨0, none, 0, Nat.zero_le _, rfl, rfl, Lib.hid ⟨by simpa using OwnE.none_ PairE TPr W0 W0.heap.size, bsame W0, fun j p hj => absurd hj (by omega)⟩⟩
  case round =>
    obtain ⟨k, A1, c1, hk, rfl, rfl, HK⟩ := hrel
    have hsz := HK.out.2.1.size
    have HBw := Lib.hid (bstep HB0.out HK.out.2.1)
    have hszw := HBw.out.size
    have hnm1 := HK.out.1.elems.cap
    have hcm1 := hnm1.2
    unfold maxLen at hcm1
    clear hnm1
    by_cases hlt : k < n
    · obtain ⟨b, o, p, Ap, np, cp, rfl, hbB, hp, hby, hpk, i1, i2, i3, i4, c0, c1', c2, c3, c4, c5⟩ := pair_at (H.out.below (HBw.out.mono hB)) hlt
      have HP := Lib.hid hp
      have HY := Lib.hid hby
      have HIN := Lib.hid (And.intro i1 (And.intro i2 (And.intro i3 i4)))
      clear hp hby i1 i2 i3 i4
      obtain ⟨pk, pkd, pda, plo, phi, pva⟩ := p
      dsimp only at *
      have hbw : b < wr.heap.size := by omega
      by_cases hl : Op.bytesLess pk.toList key.toList = true
      · have HLT : Hid (ModelP.lt pk key) := Lib.hid (by rw [less_lt] at hl; simpa using hl)
        have hba : Below wr.heap.size wr (wr.alloc (.cells #[.string pk, .int .i64 pkd, .slice Ap np cp, .int .i64 plo, .int .i64 phi, .int .i64 pva] 103)) := balloc (bsame wr) _
        have hO1 := HK.out.1.next hba
        have hb1 : W0.heap.size ≤ (wr.alloc (.cells #[.string pk, .int .i64 pkd, .slice Ap np cp, .int .i64 plo, .int .i64 phi, .int .i64 pva] 103)).heap.size := by have := hba.size; omega
        obtain ⟨A2, c2', w2, happ, hO2, hB2, -, -⟩ := hO1.app (P := Try.prog) 34 34 i0 _ 72 Try.underlying34 HI.out hz0 hz1 hz2 rfl (lit_src (p := ⟨pk, ⟨pkd, pda, plo, phi, pva⟩⟩) hO1 (Str.new wr _ _) (HY.out.below (hba.mono (by omega))) (show B ≤ W0.heap.size by omega) hb1 hpk HIN.out) (by unfold maxLen; omega) (by omega) hb1
        have HO2 : Hid (OwnE PairE TPr w2 W0.heap.size A2 (k + 1) c2' (l.take (k + 1))) := Lib.hid (by
          rw [List.take_add_one, HP.out]
          exact hO2)
        have HB2 := Lib.hid (HK.out.2.1.trans ((hba.mono hsz).trans hB2))
        clear hO1 hO2 hB2 hba hb1
        go_wp2
        go_roundw
        case rel => exact ⟨k + 1, A2, c2', by omega, by go_num, rfl, Lib.hid ⟨HO2.out, HB2.out, fun j q hj hq => by
          rcases Nat.lt_or_ge j k with h3 | h3
          · exact HK.out.2.2 j q h3 hq
          · have : j = k := by omega
            subst this
            rw [HP.out] at hq
            cases hq
            exact HLT.out⟩⟩
        case measure => simp [intOf]; omega
      · have HLT : Hid (¬ ModelP.lt pk key) := Lib.hid (by rw [less_lt] at hl; simpa using hl)
        replace hl : Op.bytesLess pk.toList key.toList = false := by simpa using hl
        have HAT : Hid (ModelP.at_ l key = k) := Lib.hid (ModelP.at_eq key l k (by rw [HL.out]; omega) HK.out.2.2 (fun q hq => by rw [HP.out] at hq; cases hq; exact HLT.out))
        by_cases he : (pk.toList == key.toList) = true
        · have HKEY := Lib.hid (at_key HAT.out HP.out (key_inj (by simpa using he)))
          have HS1 := Lib.hid (HS0.out.next HK.out.2.1)
          obtain ⟨f0, f1, f2, f3, f4⟩ := str5 HS1.out
          have hfl := HS1.out.lt
          have hba : Below wr.heap.size wr (wr.alloc (.cells #[.string key, .int .i64 ckd, .slice Ac nc cc, .int .i64 clo, .int .i64 chi, .int .i64 cva] 103)) := balloc (bsame wr) _
          have hO1 := HK.out.1.next hba
          have hb1 : W0.heap.size ≤ (wr.alloc (.cells #[.string key, .int .i64 ckd, .slice Ac nc cc, .int .i64 clo, .int .i64 chi, .int .i64 cva] 103)).heap.size := by have := hba.size; omega
          obtain ⟨A2, c2', w2, happ, hO2, hB2, -, -⟩ := hO1.app (P := Try.prog) 34 34 i0 _ 72 Try.underlying34 HI.out hz0 hz1 hz2 rfl (lit_src (p := ⟨key, ⟨ckd, cda, clo, chi, cva⟩⟩) hO1 (Str.new wr _ _) (HC.out.below ((HBw.out.mono hBc).trans (hba.mono (by omega)))) (show Bc ≤ W0.heap.size by omega) hb1 hkey hin) (by unfold maxLen; omega) (by omega) hb1
          have hBo : Below W0.heap.size W0 w2 := HK.out.2.1.trans ((hba.mono hsz).trans hB2)
          clear hba hb1 hO1 hB2
          have hszo := hBo.size
          have hcut := ElemsIn.cut (H.out.below ((bstep HB0.out hBo).mono hB)) (k + 1) n c (by omega) (Nat.le_refl _) hcn (Nat.le_refl _)
          obtain ⟨A3, c3', w3, happ3, hO3, hB3, -, -⟩ := hO2.app (P := Try.prog) 34 34 i0 _ 72 Try.underlying34 HI.out hz0 hz1 hz2 rfl (hO2.src hcut (show B ≤ W0.heap.size by omega) hszo) (by unfold maxLen; omega) (by omega) hszo
          rw [show PairE.size = 6 from rfl] at happ3
          have HR : Hid (OwnE PairE TPr w3 W0.heap.size A3 (k + 1 + (n - (k + 1))) c3' (ModelP.put l key (some ⟨ckd, cda, clo, chi, cva⟩))) := Lib.hid (by
              have e : ModelP.put l key (some ⟨ckd, cda, clo, chi, cva⟩) = (l.take k ++ [⟨key, ⟨ckd, cda, clo, chi, cva⟩⟩]) ++ (l.drop (k + 1)).take (n - (k + 1)) := by
                unfold ModelP.put
                rw [if_pos HKEY.out, HAT.out, List.take_of_length_le (l := l.drop (k + 1)) (by rw [List.length_drop, HL.out]; omega)]
                simp
              rw [e]
              exact hO3)
          have hc0 : w2.cell? ⟨b, o + k * 6, none⟩ = some (.string pk) := ((hBo.cell (p := ⟨b, o + k * 6, none⟩) (by show b < _; omega)).trans (HK.out.2.1.cell (p := ⟨b, o + k * 6, none⟩) (by show b < _; omega)).symm).trans c0
          have hbw2 : b < w2.heap.size := by omega
          have HB3 := Lib.hid ((bstep HB0.out hBo).trans (hB3.mono (by omega)))
          clear hO3 hB3 hcut hBo hO2
          have hkn1 : ((k : Int) + 1 : Int) ≤ (n : Int) := by omega
          go_wp2
          go_ret
          exact ⟨A3, _, c3', rfl, (by have h9 := HR.out.elems; first | exact h9 | (rw [show k + (n - k) = n by omega] at h9; exact h9)), HB3.out⟩
        · have HKEY := Lib.hid (at_nokey HAT.out HP.out (fun e => he (by dsimp only at e; rw [e]; simp)))
          replace he : (pk.toList == key.toList) = false := by simpa using he
          have HS1 := Lib.hid (HS0.out.next HK.out.2.1)
          obtain ⟨f0, f1, f2, f3, f4⟩ := str5 HS1.out
          have hfl := HS1.out.lt
          have hba : Below wr.heap.size wr (wr.alloc (.cells #[.string key, .int .i64 ckd, .slice Ac nc cc, .int .i64 clo, .int .i64 chi, .int .i64 cva] 103)) := balloc (bsame wr) _
          have hO1 := HK.out.1.next hba
          have hb1 : W0.heap.size ≤ (wr.alloc (.cells #[.string key, .int .i64 ckd, .slice Ac nc cc, .int .i64 clo, .int .i64 chi, .int .i64 cva] 103)).heap.size := by have := hba.size; omega
          obtain ⟨A2, c2', w2, happ, hO2, hB2, -, -⟩ := hO1.app (P := Try.prog) 34 34 i0 _ 72 Try.underlying34 HI.out hz0 hz1 hz2 rfl (lit_src (p := ⟨key, ⟨ckd, cda, clo, chi, cva⟩⟩) hO1 (Str.new wr _ _) (HC.out.below ((HBw.out.mono hBc).trans (hba.mono (by omega)))) (show Bc ≤ W0.heap.size by omega) hb1 hkey hin) (by unfold maxLen; omega) (by omega) hb1
          have hBo : Below W0.heap.size W0 w2 := HK.out.2.1.trans ((hba.mono hsz).trans hB2)
          clear hba hb1 hO1 hB2
          have hszo := hBo.size
          have hcut := ElemsIn.cut (H.out.below ((bstep HB0.out hBo).mono hB)) k n c (by omega) (Nat.le_refl _) hcn (Nat.le_refl _)
          obtain ⟨A3, c3', w3, happ3, hO3, hB3, -, -⟩ := hO2.app (P := Try.prog) 34 34 i0 _ 72 Try.underlying34 HI.out hz0 hz1 hz2 rfl (hO2.src hcut (show B ≤ W0.heap.size by omega) hszo) (by unfold maxLen; omega) (by omega) hszo
          rw [show PairE.size = 6 from rfl] at happ3
          have HR : Hid (OwnE PairE TPr w3 W0.heap.size A3 (k + 1 + (n - k)) c3' (ModelP.put l key (some ⟨ckd, cda, clo, chi, cva⟩))) := Lib.hid (by
              have e : ModelP.put l key (some ⟨ckd, cda, clo, chi, cva⟩) = (l.take k ++ [⟨key, ⟨ckd, cda, clo, chi, cva⟩⟩]) ++ (l.drop k).take (n - k) := by
                unfold ModelP.put
                rw [if_neg HKEY.out, HAT.out, List.take_of_length_le (l := l.drop k) (by rw [List.length_drop, HL.out]; omega)]
                simp
              rw [e]
              exact hO3)
          have hc0 : w2.cell? ⟨b, o + k * 6, none⟩ = some (.string pk) := ((hBo.cell (p := ⟨b, o + k * 6, none⟩) (by show b < _; omega)).trans (HK.out.2.1.cell (p := ⟨b, o + k * 6, none⟩) (by show b < _; omega)).symm).trans c0
          have hbw2 : b < w2.heap.size := by omega
          have HB3 := Lib.hid ((bstep HB0.out hBo).trans (hB3.mono (by omega)))
          clear hO3 hB3 hcut hBo hO2
          have hkn1 : ((k : Int) : Int) ≤ (n : Int) := by omega
          go_wp2
          go_ret
          exact ⟨A3, _, c3', rfl, (by have h9 := HR.out.elems; first | exact h9 | (rw [show k + (n - k) = n by omega] at h9; exact h9)), HB3.out⟩
    · have hkn : ¬ ((k : Int) < (n : Int)) := by omega
      have dkn : decide ((k : Int) < (n : Int)) = false := by simp; omega
      have HAT : Hid (ModelP.at_ l key = k) := Lib.hid (ModelP.at_eq key l k (by rw [HL.out]; exact hk) HK.out.2.2 (fun q hq => by rw [List.getElem?_eq_none (by rw [HL.out]; omega)] at hq; cases hq))
      have HKEY := Lib.hid (at_none HAT.out (by rw [HL.out]; omega))
      have HS1 := Lib.hid (HS0.out.next HK.out.2.1)
      obtain ⟨f0, f1, f2, f3, f4⟩ := str5 HS1.out
      have hfl := HS1.out.lt
      have hba : Below wr.heap.size wr (wr.alloc (.cells #[.string key, .int .i64 ckd, .slice Ac nc cc, .int .i64 clo, .int .i64 chi, .int .i64 cva] 103)) := balloc (bsame wr) _
      have hO1 := HK.out.1.next hba
      have hb1 : W0.heap.size ≤ (wr.alloc (.cells #[.string key, .int .i64 ckd, .slice Ac nc cc, .int .i64 clo, .int .i64 chi, .int .i64 cva] 103)).heap.size := by have := hba.size; omega
      obtain ⟨A2, c2', w2, happ, hO2, hB2, -, -⟩ := hO1.app (P := Try.prog) 34 34 i0 _ 72 Try.underlying34 HI.out hz0 hz1 hz2 rfl (lit_src (p := ⟨key, ⟨ckd, cda, clo, chi, cva⟩⟩) hO1 (Str.new wr _ _) (HC.out.below ((HBw.out.mono hBc).trans (hba.mono (by omega)))) (show Bc ≤ W0.heap.size by omega) hb1 hkey hin) (by unfold maxLen; omega) (by omega) hb1
      have hBo : Below W0.heap.size W0 w2 := HK.out.2.1.trans ((hba.mono hsz).trans hB2)
      clear hba hb1 hO1 hB2
      have hszo := hBo.size
      have hcut := ElemsIn.cut (H.out.below ((bstep HB0.out hBo).mono hB)) k n c (by omega) (Nat.le_refl _) hcn (Nat.le_refl _)
      obtain ⟨A3, c3', w3, happ3, hO3, hB3, -, -⟩ := hO2.app (P := Try.prog) 34 34 i0 _ 72 Try.underlying34 HI.out hz0 hz1 hz2 rfl (hO2.src hcut (show B ≤ W0.heap.size by omega) hszo) (by unfold maxLen; omega) (by omega) hszo
      rw [show PairE.size = 6 from rfl] at happ3
      have HR : Hid (OwnE PairE TPr w3 W0.heap.size A3 (k + 1 + (n - k)) c3' (ModelP.put l key (some ⟨ckd, cda, clo, chi, cva⟩))) := Lib.hid (by
          have e : ModelP.put l key (some ⟨ckd, cda, clo, chi, cva⟩) = (l.take k ++ [⟨key, ⟨ckd, cda, clo, chi, cva⟩⟩]) ++ (l.drop k).take (n - k) := by
            unfold ModelP.put
            rw [if_neg HKEY.out, HAT.out, List.take_of_length_le (l := l.drop k) (by rw [List.length_drop, HL.out]; omega)]
            simp
          rw [e]
          exact hO3)
      have HB3 := Lib.hid ((bstep HB0.out hBo).trans (hB3.mono (by omega)))
      clear hO3 hB3 hcut hBo hO2
      have hkn1 : ((k : Int) : Int) ≤ (n : Int) := by omega
      go_wp2
      go_ret
      exact ⟨A3, _, c3', rfl, (by have h9 := HR.out.elems; first | exact h9 | (rw [show k + (n - k) = n by omega] at h9; exact h9)), HB3.out⟩
set_option maxRecDepth 100000 in
set_option maxHeartbeats 2000000 in
theorem putNone (A : Option Addr) (n c B : Nat) (l : List Pair) (key : ByteArray) (ckd : Int) (cda : List UInt8) (clo chi cva : Int) (Ac : Option Addr) (nc cc Bc : Nat) (w : World) (h : Pairs w B A n c l) (hB : B ≤ w.heap.size) (hn : n ≤ 1000) (hc : Bytes w Bc Ac nc cc cda) (hBc : Bc ≤ w.heap.size) (hkey : key.size ≤ maxLen) (hin : In64 ckd ∧ In64 clo ∧ In64 chi ∧ In64 cva) (hkd : ckd = 0) :
    Calls Try.prog 66 #[.slice A n c, .string key, .agg #[.int .i64 ckd, .slice Ac nc cc, .int .i64 clo, .int .i64 chi, .int .i64 cva]] w (GivesS w (ModelP.put l key none)) := by
  obtain ⟨i0, hi, hz0, hz1, hz2⟩ := info_parts infoP
  have HI := Lib.hid hi
  have H := Lib.hid h
  have HL := Lib.hid h.len
  have hcap := h.cap
  have HC := Lib.hid hc
  have hcm := hcap.2
  have hcn := hcap.1
  unfold maxLen at hcm
  clear h hc hi hcap
  have kd1 : (ckd != 0) = false := by simpa using hkd
  clear hkd
  go_enter Try.func66, Try.ntmps66
  go_wp2
  generalize hW0 : w.alloc (.cells #[.int .i64 ckd, .slice Ac nc cc, .int .i64 clo, .int .i64 chi, .int .i64 cva] 37) = W0
  have HS0 : Hid (Str W0 w.heap.size #[.int .i64 ckd, .slice Ac nc cc, .int .i64 clo, .int .i64 chi, .int .i64 cva]) := Lib.hid (by rw [← hW0]; exact Str.new w _ _)
  have HB0 : Hid (Below w.heap.size w W0) := Lib.hid (by rw [← hW0]; exact balloc (bsame w) _)
  clear hW0
  have hw0 := HB0.out.size
  go_loopw [7, 8] (fun s i wr => ∃ (k : Nat) (A1 : Option Addr) (c1 : Nat), k ≤ n ∧ i = .int .i64 (k : Int) ∧ s = .slice A1 k c1 ∧ Hid (OwnE PairE TPr wr W0.heap.size A1 k c1 (l.take k) ∧ Below W0.heap.size W0 wr ∧ ∀ (j : Nat) p, j < k → l[j]? = some p → ModelP.lt p.key key)) (fun _ i _ => n - (intOf i).toNat)
  case atStart => exact ⟨0, none, 0, Nat.zero_le _, rfl, rfl, Lib.hid ⟨by simpa using OwnE.none_ PairE TPr W0 W0.heap.size, bsame W0, fun j p hj => absurd hj (by omega)⟩⟩
  case round =>
    obtain ⟨k, A1, c1, hk, rfl, rfl, HK⟩ := hrel
    have hsz := HK.out.2.1.size
    have HBw := Lib.hid (bstep HB0.out HK.out.2.1)
    have hszw := HBw.out.size
    have hnm1 := HK.out.1.elems.cap
    have hcm1 := hnm1.2
    unfold maxLen at hcm1
    clear hnm1
    by_cases hlt : k < n
    · obtain ⟨b, o, p, Ap, np, cp, rfl, hbB, hp, hby, hpk, i1, i2, i3, i4, c0, c1', c2, c3, c4, c5⟩ := pair_at (H.out.below (HBw.out.mono hB)) hlt
      have HP := Lib.hid hp
      have HY := Lib.hid hby
      have HIN := Lib.hid (And.intro i1 (And.intro i2 (And.intro i3 i4)))
      clear hp hby i1 i2 i3 i4
      obtain ⟨pk, pkd, pda, plo, phi, pva⟩ := p
      dsimp only at *
      have hbw : b < wr.heap.size := by omega
      by_cases hl : Op.bytesLess pk.toList key.toList = true
      · have HLT : Hid (ModelP.lt pk key) := Lib.hid (by rw [less_lt] at hl; simpa using hl)
        have hba : Below wr.heap.size wr (wr.alloc (.cells #[.string pk, .int .i64 pkd, .slice Ap np cp, .int .i64 plo, .int .i64 phi, .int .i64 pva] 103)) := balloc (bsame wr) _
        have hO1 := HK.out.1.next hba
        have hb1 : W0.heap.size ≤ (wr.alloc (.cells #[.string pk, .int .i64 pkd, .slice Ap np cp, .int .i64 plo, .int .i64 phi, .int .i64 pva] 103)).heap.size := by have := hba.size; omega
        obtain ⟨A2, c2', w2, happ, hO2, hB2, -, -⟩ := hO1.app (P := Try.prog) 34 34 i0 _ 72 Try.underlying34 HI.out hz0 hz1 hz2 rfl (lit_src (p := ⟨pk, ⟨pkd, pda, plo, phi, pva⟩⟩) hO1 (Str.new wr _ _) (HY.out.below (hba.mono (by omega))) (show B ≤ W0.heap.size by omega) hb1 hpk HIN.out) (by unfold maxLen; omega) (by omega) hb1
        have HO2 : Hid (OwnE PairE TPr w2 W0.heap.size A2 (k + 1) c2' (l.take (k + 1))) := Lib.hid (by
          rw [List.take_add_one, HP.out]
          exact hO2)
        have HB2 := Lib.hid (HK.out.2.1.trans ((hba.mono hsz).trans hB2))
        clear hO1 hO2 hB2 hba hb1
        go_wp2
        go_roundw
        case rel => exact ⟨k + 1, A2, c2', by omega, by go_num, rfl, Lib.hid ⟨HO2.out, HB2.out, fun j q hj hq => by
          rcases Nat.lt_or_ge j k with h3 | h3
          · exact HK.out.2.2 j q h3 hq
          · have : j = k := by omega
            subst this
            rw [HP.out] at hq
            cases hq
            exact HLT.out⟩⟩
        case measure => simp [intOf]; omega
      · have HLT : Hid (¬ ModelP.lt pk key) := Lib.hid (by rw [less_lt] at hl; simpa using hl)
        replace hl : Op.bytesLess pk.toList key.toList = false := by simpa using hl
        have HAT : Hid (ModelP.at_ l key = k) := Lib.hid (ModelP.at_eq key l k (by rw [HL.out]; omega) HK.out.2.2 (fun q hq => by rw [HP.out] at hq; cases hq; exact HLT.out))
        by_cases he : (pk.toList == key.toList) = true
        · have HKEY := Lib.hid (at_key HAT.out HP.out (key_inj (by simpa using he)))
          have HS1 := Lib.hid (HS0.out.next HK.out.2.1)
          obtain ⟨f0, f1, f2, f3, f4⟩ := str5 HS1.out
          have hfl := HS1.out.lt
          have hO2 := HK.out.1
          have hBo := HK.out.2.1
          have hszo := hBo.size
          have hcut := ElemsIn.cut (H.out.below ((bstep HB0.out hBo).mono hB)) (k + 1) n c (by omega) (Nat.le_refl _) hcn (Nat.le_refl _)
          obtain ⟨A3, c3', w3, happ3, hO3, hB3, -, -⟩ := hO2.app (P := Try.prog) 34 34 i0 _ 72 Try.underlying34 HI.out hz0 hz1 hz2 rfl (hO2.src hcut (show B ≤ W0.heap.size by omega) hszo) (by unfold maxLen; omega) (by omega) hszo
          rw [show PairE.size = 6 from rfl] at happ3
          have HR : Hid (OwnE PairE TPr w3 W0.heap.size A3 (k + (n - (k + 1))) c3' (ModelP.put l key none)) := Lib.hid (by
              have e : ModelP.put l key none = (l.take k) ++ (l.drop (k + 1)).take (n - (k + 1)) := by
                unfold ModelP.put
                rw [if_pos HKEY.out, HAT.out, List.take_of_length_le (l := l.drop (k + 1)) (by rw [List.length_drop, HL.out]; omega)]
                simp
              rw [e]
              exact hO3)
          have HB3 := Lib.hid ((bstep HB0.out hBo).trans (hB3.mono (by omega)))
          clear hO3 hB3 hcut hBo hO2
          have hkn1 : ((k : Int) + 1 : Int) ≤ (n : Int) := by omega
          go_wp2
          go_ret
          exact ⟨A3, _, c3', rfl, (by have h9 := HR.out.elems; first | exact h9 | (rw [show k + (n - k) = n by omega] at h9; exact h9)), HB3.out⟩
        · have HKEY := Lib.hid (at_nokey HAT.out HP.out (fun e => he (by dsimp only at e; rw [e]; simp)))
          replace he : (pk.toList == key.toList) = false := by simpa using he
          have HS1 := Lib.hid (HS0.out.next HK.out.2.1)
          obtain ⟨f0, f1, f2, f3, f4⟩ := str5 HS1.out
          have hfl := HS1.out.lt
          have hO2 := HK.out.1
          have hBo := HK.out.2.1
          have hszo := hBo.size
          have hcut := ElemsIn.cut (H.out.below ((bstep HB0.out hBo).mono hB)) k n c (by omega) (Nat.le_refl _) hcn (Nat.le_refl _)
          obtain ⟨A3, c3', w3, happ3, hO3, hB3, -, -⟩ := hO2.app (P := Try.prog) 34 34 i0 _ 72 Try.underlying34 HI.out hz0 hz1 hz2 rfl (hO2.src hcut (show B ≤ W0.heap.size by omega) hszo) (by unfold maxLen; omega) (by omega) hszo
          rw [show PairE.size = 6 from rfl] at happ3
          have HR : Hid (OwnE PairE TPr w3 W0.heap.size A3 (k + (n - k)) c3' (ModelP.put l key none)) := Lib.hid (by
              have e : ModelP.put l key none = (l.take k) ++ (l.drop k).take (n - k) := by
                unfold ModelP.put
                rw [if_neg HKEY.out, HAT.out, List.take_of_length_le (l := l.drop k) (by rw [List.length_drop, HL.out]; omega)]
                simp
              rw [e]
              exact hO3)
          have HB3 := Lib.hid ((bstep HB0.out hBo).trans (hB3.mono (by omega)))
          clear hO3 hB3 hcut hBo hO2
          have hkn1 : ((k : Int) : Int) ≤ (n : Int) := by omega
          go_wp2
          go_ret
          exact ⟨A3, _, c3', rfl, (by have h9 := HR.out.elems; first | exact h9 | (rw [show k + (n - k) = n by omega] at h9; exact h9)), HB3.out⟩
    · have hkn : ¬ ((k : Int) < (n : Int)) := by omega
      have dkn : decide ((k : Int) < (n : Int)) = false := by simp; omega
      have HAT : Hid (ModelP.at_ l key = k) := Lib.hid (ModelP.at_eq key l k (by rw [HL.out]; exact hk) HK.out.2.2 (fun q hq => by rw [List.getElem?_eq_none (by rw [HL.out]; omega)] at hq; cases hq))
      have HKEY := Lib.hid (at_none HAT.out (by rw [HL.out]; omega))
      have HS1 := Lib.hid (HS0.out.next HK.out.2.1)
      obtain ⟨f0, f1, f2, f3, f4⟩ := str5 HS1.out
      have hfl := HS1.out.lt
      have hO2 := HK.out.1
      have hBo := HK.out.2.1
      have hszo := hBo.size
      have hcut := ElemsIn.cut (H.out.below ((bstep HB0.out hBo).mono hB)) k n c (by omega) (Nat.le_refl _) hcn (Nat.le_refl _)
      obtain ⟨A3, c3', w3, happ3, hO3, hB3, -, -⟩ := hO2.app (P := Try.prog) 34 34 i0 _ 72 Try.underlying34 HI.out hz0 hz1 hz2 rfl (hO2.src hcut (show B ≤ W0.heap.size by omega) hszo) (by unfold maxLen; omega) (by omega) hszo
      rw [show PairE.size = 6 from rfl] at happ3
      have HR : Hid (OwnE PairE TPr w3 W0.heap.size A3 (k + (n - k)) c3' (ModelP.put l key none)) := Lib.hid (by
          have e : ModelP.put l key none = (l.take k) ++ (l.drop k).take (n - k) := by
            unfold ModelP.put
            rw [if_neg HKEY.out, HAT.out, List.take_of_length_le (l := l.drop k) (by rw [List.length_drop, HL.out]; omega)]
            simp
          rw [e]
          exact hO3)
      have HB3 := Lib.hid ((bstep HB0.out hBo).trans (hB3.mono (by omega)))
      clear hO3 hB3 hcut hBo hO2
      have hkn1 : ((k : Int) : Int) ≤ (n : Int) := by omega
      go_wp2
      go_ret
      exact ⟨A3, _, c3', rfl, (by have h9 := HR.out.elems; first | exact h9 | (rw [show k + (n - k) = n by omega] at h9; exact h9)), HB3.out⟩
end Go.Proofs.Ytghgccgpgonlmaa.ModelW
namespace Go.Proofs.Ytghgccgpgonlmaa
open Go.RowKit
set_option linter.unusedVariables false
def noStr (cs : Array Value) : Bool := cs.toList.all fun v => match v with | .string _ => false | _ => true
/-- a state stands where a block without bytes and texts is written -/
theorem Pairs.grown {w w' : World} {n c g : Nat} {A : Option Addr} {l : List Pair} {cs : Array Value} (h : Pairs w w.heap.size A n c l) (hs : Str w g cs) (hn : notU8 cs = true) (hst : noStr cs = true) (hg : w.grownBy w' (some g)) : Pairs w' w'.heap.size A n c l := by
  by_cases h0 : n = 0
  · subst h0
    obtain ⟨vs, hr, hl, hc, hm, hx⟩ := h
    have : l = [] := List.eq_nil_of_length_eq_zero hl
    subst this
    have : vs = [] := List.eq_nil_of_length_eq_zero hr.length
    subst this
    exact ⟨[], trivial, rfl, hc, hm, fun hp => absurd hp (by omega)⟩
  · refine Elems.grownU ModelW.PairE_byt h hs hn hg fun a ha e => ?_
    obtain ⟨b, o, p, Ap, np, cp, e2, -, -, -, -, -, -, -, -, c0, -⟩ := pair_at h (show 0 < n by omega)
    rw [ha] at e2
    cases e2
    dsimp only at e
    subst e
    rw [hs.cell] at c0
    have hm : Value.string p.key ∈ cs.toList := by rw [Array.mem_toList_iff]; exact Array.mem_of_getElem? c0
    have := List.all_eq_true.1 hst _ hm
    simp at this
end Go.Proofs.Ytghgccgpgonlmaa
namespace Go.Proofs.Ytghgccgpgonlmaa.ModelW
open Go.RowKit
set_option linter.unusedVariables false
set_option maxRecDepth 100000 in
set_option maxHeartbeats 2000000 in
theorem rstep_bad (A : Option Addr) (n c B : Nat) (l : List Pair) (act : Int) (xk : ByteArray) (xdata : List UInt8) (Ax : Option Addr) (nx cx Bx : Nat) (xlo xhi xn : Int) (w : World) (h : Pairs w B A n c l) (hB : B ≤ w.heap.size) (hs : Small l) (hx : Bytes w Bx Ax nx cx xdata) (hBx : Bx ≤ w.heap.size) (hxk : xk.size ≤ maxLen) (hi1 : In64 xlo) (hi2 : In64 xhi) (hi3 : In64 xn) (hg : ModelP.good ⟨act, xk, xdata, xlo, xhi, xn⟩ = false) :
    Calls Try.prog 25 #[.slice A n c, .agg #[.int .i64 act, .string xk, .slice Ax nx cx, .int .i64 xlo, .int .i64 xhi, .int .i64 xn]] w (GivesSA w ((l, ⟨1, CellP.none⟩))) := by
  have hlen := h.len
  have hn : n ≤ 1000 := by rw [← hlen]; exact hs.len
  have H := Lib.hid h
  have HD := Lib.hid hs.data
  have HX := Lib.hid hx
  have hlx := hx.len
  clear h hs hlen
  have HG : Hid (ModelP.good ⟨act, xk, xdata, xlo, xhi, xn⟩ = false) := Lib.hid hg
  clear hg hx
  go_enter Try.func25, Try.ntmps25
  go_wp2_with fail
  generalize hW0 : ((w).alloc (.cells #[.int .i64 act, .string xk, .slice Ax nx cx, .int .i64 xlo, .int .i64 xhi, .int .i64 xn] 24)).alloc (.cells #[.int .i64 0, .int .i64 0, .slice none 0 0, .int .i64 0, .int .i64 0, .int .i64 0] 39) = W0
  obtain ⟨HS0_0, HS1_0, HB_0, hw_0, hz0⟩ := new2 hW0
  clear hW0 hz0
  have f0_0 := str6 HS0_0.out
  have hl0_0 := HS0_0.out.lt
  have hf0_0 := fun j => HS0_0.out.frozen j
  have f1_0 := str6 HS1_0.out
  have hl1_0 := HS1_0.out.lt
  have hf1_0 := fun j => HS1_0.out.frozen j
  refine (good_any ⟨act, xk, xdata, xlo, xhi, xn⟩ Ax nx cx _ hxk hlx).mono ?_
  rintro e W1 ⟨rfl, hb1⟩
  rw [HG.out]
  have HS0_1 := Lib.hid (HS0_0.out.next hb1)
  have HS1_1 := Lib.hid (HS1_0.out.next hb1)
  have HB_1 := Lib.hid (bstep HB_0.out hb1)
  have hw_1 := HB_1.out.size
  have hws_1 := (hb1).size
  clear f0_0 HS0_0 hf0_0 f1_0 HS1_0 hf1_0
  clear hb1
  have f0_1 := str6 HS0_1.out
  have hl0_1 := HS0_1.out.lt
  have hf0_1 := fun j => HS0_1.out.frozen j
  have f1_1 := str6 HS1_1.out
  have hl1_1 := HS1_1.out.lt
  have hf1_1 := fun j => HS1_1.out.frozen j
  go_wp2_with fail
  generalize hW2 : ((((((W1).setCell ⟨w.heap.size + 1, 0, none⟩ (.int .i64 1)).setCell ⟨w.heap.size + 1, 1, none⟩ (.int .i64 0)).setCell ⟨w.heap.size + 1, 2, none⟩ (.slice none 0 0)).setCell ⟨w.heap.size + 1, 3, none⟩ (.int .i64 0)).setCell ⟨w.heap.size + 1, 4, none⟩ (.int .i64 0)).setCell ⟨w.heap.size + 1, 5, none⟩ (.int .i64 0) = W2
  have HS1_2 : Hid (Str W2 (w.heap.size + 1) #[.int .i64 1, .int .i64 0, .slice none 0 0, .int .i64 0, .int .i64 0, .int .i64 0]) := Lib.hid (by rw [← hW2]; have := ((((((HS1_1.out).set 0 (.int .i64 1)).set 1 (.int .i64 0)).set 2 (.slice none 0 0)).set 3 (.int .i64 0)).set 4 (.int .i64 0)).set 5 (.int .i64 0); simpa using this)
  have hgr2 : W1.grownBy W2 (some (w.heap.size + 1)) := by rw [← hW2]; exact grown_set (grown_set (grown_set (grown_set (grown_set (grown_set (grown_refl W1 (w.heap.size + 1)) 0 (_)) 1 (_)) 2 (_)) 3 (_)) 4 (_)) 5 (_)
  have HS0_2 := Lib.hid (HS0_1.out.grown hgr2 (by omega))
  have HB_2 := Lib.hid (below_grown HB_1.out hgr2 (by omega))
  have hw_2 := HB_2.out.size
  have hws_2 := hgr2.size
  clear hW2
  clear f0_1 HS0_1 hf0_1 f1_1 HS1_1 hf1_1
  clear hgr2
  have f0_2 := str6 HS0_2.out
  have hl0_2 := HS0_2.out.lt
  have hf0_2 := fun j => HS0_2.out.frozen j
  have f1_2 := str6 HS1_2.out
  have hl1_2 := HS1_2.out.lt
  have hf1_2 := fun j => HS1_2.out.frozen j
  exact bodyPost_ret (v := .tuple #[.slice A n c, .agg #[.int .i64 1, .int .i64 0, .slice none 0 0, .int .i64 0, .int .i64 0, .int .i64 0]]) (by simp [results, Try.results25, go_sem, *]) rfl ⟨A, n, c, none, 0, 0, rfl, ((H.out.below (HB_2.out.mono hB)).more (Nat.le_trans hB HB_2.out.size)), Bytes.none_ _ _, HB_2.out⟩
set_option maxRecDepth 100000 in
set_option maxHeartbeats 2000000 in
theorem rstep_none (A : Option Addr) (n c B : Nat) (l : List Pair) (act : Int) (xk : ByteArray) (xdata : List UInt8) (Ax : Option Addr) (nx cx Bx : Nat) (xlo xhi xn : Int) (w : World) (h : Pairs w B A n c l) (hB : B ≤ w.heap.size) (hs : Small l) (hx : Bytes w Bx Ax nx cx xdata) (hBx : Bx ≤ w.heap.size) (hxk : xk.size ≤ maxLen) (hi1 : In64 xlo) (hi2 : In64 xhi) (hi3 : In64 xn) (hf : ModelP.find l xk = none) (hg : ModelP.good ⟨act, xk, xdata, xlo, xhi, xn⟩ = true) (h1 : ¬ act = 1) (h2 : ¬ act = 2) :
    Calls Try.prog 25 #[.slice A n c, .agg #[.int .i64 act, .string xk, .slice Ax nx cx, .int .i64 xlo, .int .i64 xhi, .int .i64 xn]] w (GivesSA w ((l, ⟨5, CellP.none⟩))) := by
  have hlen := h.len
  have hn : n ≤ 1000 := by rw [← hlen]; exact hs.len
  have H := Lib.hid h
  have HD := Lib.hid hs.data
  have HX := Lib.hid hx
  have hlx := hx.len
  clear h hs hlen
  have HG : Hid (ModelP.good ⟨act, xk, xdata, xlo, xhi, xn⟩ = true) := Lib.hid hg
  clear hg hx
  have q1 : (act == 1) = false := by simpa using h1
  have q2 : (act == 2) = false := by simpa using h2
  clear h1 h2
  go_enter Try.func25, Try.ntmps25
  go_wp2_with fail
  generalize hW0 : ((w).alloc (.cells #[.int .i64 act, .string xk, .slice Ax nx cx, .int .i64 xlo, .int .i64 xhi, .int .i64 xn] 24)).alloc (.cells #[.int .i64 0, .int .i64 0, .slice none 0 0, .int .i64 0, .int .i64 0, .int .i64 0] 39) = W0
  obtain ⟨HS0_0, HS1_0, HB_0, hw_0, hz0⟩ := new2 hW0
  clear hW0 hz0
  have f0_0 := str6 HS0_0.out
  have hl0_0 := HS0_0.out.lt
  have hf0_0 := fun j => HS0_0.out.frozen j
  have f1_0 := str6 HS1_0.out
  have hl1_0 := HS1_0.out.lt
  have hf1_0 := fun j => HS1_0.out.frozen j
  refine (good_any ⟨act, xk, xdata, xlo, xhi, xn⟩ Ax nx cx _ hxk hlx).mono ?_
  rintro e W1 ⟨rfl, hb1⟩
  rw [HG.out]
  have HS0_1 := Lib.hid (HS0_0.out.next hb1)
  have HS1_1 := Lib.hid (HS1_0.out.next hb1)
  have HB_1 := Lib.hid (bstep HB_0.out hb1)
  have hw_1 := HB_1.out.size
  have hws_1 := (hb1).size
  clear f0_0 HS0_0 hf0_0 f1_0 HS1_0 hf1_0
  clear hb1
  have f0_1 := str6 HS0_1.out
  have hl0_1 := HS0_1.out.lt
  have hf0_1 := fun j => HS0_1.out.frozen j
  have f1_1 := str6 HS1_1.out
  have hl1_1 := HS1_1.out.lt
  have hf1_1 := fun j => HS1_1.out.frozen j
  go_wp2_with fail
  have HF := Lib.hid hf
  clear hf
  refine (refFind_any A n c w.heap.size l xk _ ((H.out.more hB).below HB_1.out) HB_1.out.size (by omega) HD.out).mono ?_
  rintro e W2 ⟨Af, nf, cf, rfl, hyf, hb2⟩
  have HS0_2 := Lib.hid (HS0_1.out.next hb2)
  have HS1_2 := Lib.hid (HS1_1.out.next hb2)
  have HB_2 := Lib.hid (bstep HB_1.out hb2)
  have hw_2 := HB_2.out.size
  have hws_2 := (hb2).size
  clear f0_1 HS0_1 hf0_1 f1_1 HS1_1 hf1_1
  clear hb2
  have f0_2 := str6 HS0_2.out
  have hl0_2 := HS0_2.out.lt
  have hf0_2 := fun j => HS0_2.out.frozen j
  have f1_2 := str6 HS1_2.out
  have hl1_2 := HS1_2.out.lt
  have hf1_2 := fun j => HS1_2.out.frozen j
  rw [HF.out] at hyf
  dsimp only [Option.getD, CellP.none] at hyf
  have hnf := hyf.len
  have HYf_2 := Lib.hid (hyf)
  clear hyf
  rw [HF.out]
  dsimp only [Option.getD, Option.isSome, CellP.none]
  go_wp2_with fail
  generalize hW3 : ((((((W2).setCell ⟨w.heap.size + 1, 0, none⟩ (.int .i64 5)).setCell ⟨w.heap.size + 1, 1, none⟩ (.int .i64 0)).setCell ⟨w.heap.size + 1, 2, none⟩ (.slice none 0 0)).setCell ⟨w.heap.size + 1, 3, none⟩ (.int .i64 0)).setCell ⟨w.heap.size + 1, 4, none⟩ (.int .i64 0)).setCell ⟨w.heap.size + 1, 5, none⟩ (.int .i64 0) = W3
  have HS1_3 : Hid (Str W3 (w.heap.size + 1) #[.int .i64 5, .int .i64 0, .slice none 0 0, .int .i64 0, .int .i64 0, .int .i64 0]) := Lib.hid (by rw [← hW3]; have := ((((((HS1_2.out).set 0 (.int .i64 5)).set 1 (.int .i64 0)).set 2 (.slice none 0 0)).set 3 (.int .i64 0)).set 4 (.int .i64 0)).set 5 (.int .i64 0); simpa using this)
  have hgr3 : W2.grownBy W3 (some (w.heap.size + 1)) := by rw [← hW3]; exact grown_set (grown_set (grown_set (grown_set (grown_set (grown_set (grown_refl W2 (w.heap.size + 1)) 0 (_)) 1 (_)) 2 (_)) 3 (_)) 4 (_)) 5 (_)
  have HS0_3 := Lib.hid (HS0_2.out.grown hgr3 (by omega))
  have HB_3 := Lib.hid (below_grown HB_2.out hgr3 (by omega))
  have hw_3 := HB_3.out.size
  have hws_3 := hgr3.size
  have HYf_3 := Lib.hid ((Bytes.grown HYf_2.out (Nat.le_refl _) HS1_2.out rfl hgr3).more hws_3)
  clear HYf_2
  clear hW3
  clear f0_2 HS0_2 hf0_2 f1_2 HS1_2 hf1_2
  clear hgr3
  have f0_3 := str6 HS0_3.out
  have hl0_3 := HS0_3.out.lt
  have hf0_3 := fun j => HS0_3.out.frozen j
  have f1_3 := str6 HS1_3.out
  have hl1_3 := HS1_3.out.lt
  have hf1_3 := fun j => HS1_3.out.frozen j
  generalize hW4 : W3.alloc (.cells #[.int .i64 0, .slice Af nf cf, .int .i64 0, .int .i64 0, .int .i64 0] 37) = W4
  have HS0_4 := sEq hW4 (HS0_3.out.alloc _)
  have HS1_4 := sEq hW4 (HS1_3.out.alloc _)
  have HS2_4 := sEq hW4 (Str.new _ _ _)
  have hba4 : Below W3.heap.size W3 W4 := by rw [← hW4]; exact balloc (bsame _) _
  have HB_4 := Lib.hid (bstep HB_3.out hba4)
  have hw_4 := HB_4.out.size
  have hws_4 := hba4.size
  have HYf_4 := Lib.hid (HYf_3.out.next hba4)
  clear HYf_3
  clear hW4
  clear f0_3 HS0_3 hf0_3 f1_3 HS1_3 hf1_3
  have f0_4 := str6 HS0_4.out
  have hl0_4 := HS0_4.out.lt
  have hf0_4 := fun j => HS0_4.out.frozen j
  have f1_4 := str6 HS1_4.out
  have hl1_4 := HS1_4.out.lt
  have hf1_4 := fun j => HS1_4.out.frozen j
  have f2_4 := str5 HS2_4.out
  have hl2_4 := HS2_4.out.lt
  exact bodyPost_ret (v := .tuple #[.slice A n c, .agg #[.int .i64 5, .int .i64 0, .slice none 0 0, .int .i64 0, .int .i64 0, .int .i64 0]]) (by simp [results, Try.results25, go_sem, *]) rfl ⟨A, n, c, none, 0, 0, rfl, ((H.out.below (HB_4.out.mono hB)).more (Nat.le_trans hB HB_4.out.size)), Bytes.none_ _ _, HB_4.out⟩
set_option maxRecDepth 100000 in
set_option maxHeartbeats 2000000 in
theorem rstep_create_has (A : Option Addr) (n c B : Nat) (l : List Pair) (xk : ByteArray) (xdata : List UInt8) (Ax : Option Addr) (nx cx Bx : Nat) (xlo xhi xn : Int) (w : World) (h : Pairs w B A n c l) (hB : B ≤ w.heap.size) (hs : Small l) (hx : Bytes w Bx Ax nx cx xdata) (hBx : Bx ≤ w.heap.size) (hxk : xk.size ≤ maxLen) (hi1 : In64 xlo) (hi2 : In64 xhi) (hi3 : In64 xn) (ckd : Int) (cda : List UInt8) (clo chi cva : Int) (hf : ModelP.find l xk = (some ⟨ckd, cda, clo, chi, cva⟩)) (hg : ModelP.good ⟨2, xk, xdata, xlo, xhi, xn⟩ = true) :
    Calls Try.prog 25 #[.slice A n c, .agg #[.int .i64 2, .string xk, .slice Ax nx cx, .int .i64 xlo, .int .i64 xhi, .int .i64 xn]] w (GivesSA w ((l, ⟨7, CellP.none⟩))) := by
  have hlen := h.len
  have hn : n ≤ 1000 := by rw [← hlen]; exact hs.len
  have H := Lib.hid h
  have HD := Lib.hid hs.data
  have HX := Lib.hid hx
  have hlx := hx.len
  clear h hs hlen
  have HG : Hid (ModelP.good ⟨2, xk, xdata, xlo, xhi, xn⟩ = true) := Lib.hid hg
  clear hg hx
  go_enter Try.func25, Try.ntmps25
  go_wp2_with fail
  generalize hW0 : ((w).alloc (.cells #[.int .i64 2, .string xk, .slice Ax nx cx, .int .i64 xlo, .int .i64 xhi, .int .i64 xn] 24)).alloc (.cells #[.int .i64 0, .int .i64 0, .slice none 0 0, .int .i64 0, .int .i64 0, .int .i64 0] 39) = W0
  obtain ⟨HS0_0, HS1_0, HB_0, hw_0, hz0⟩ := new2 hW0
  clear hW0 hz0
  have f0_0 := str6 HS0_0.out
  have hl0_0 := HS0_0.out.lt
  have hf0_0 := fun j => HS0_0.out.frozen j
  have f1_0 := str6 HS1_0.out
  have hl1_0 := HS1_0.out.lt
  have hf1_0 := fun j => HS1_0.out.frozen j
  refine (good_any ⟨2, xk, xdata, xlo, xhi, xn⟩ Ax nx cx _ hxk hlx).mono ?_
  rintro e W1 ⟨rfl, hb1⟩
  rw [HG.out]
  have HS0_1 := Lib.hid (HS0_0.out.next hb1)
  have HS1_1 := Lib.hid (HS1_0.out.next hb1)
  have HB_1 := Lib.hid (bstep HB_0.out hb1)
  have hw_1 := HB_1.out.size
  have hws_1 := (hb1).size
  clear f0_0 HS0_0 hf0_0 f1_0 HS1_0 hf1_0
  clear hb1
  have f0_1 := str6 HS0_1.out
  have hl0_1 := HS0_1.out.lt
  have hf0_1 := fun j => HS0_1.out.frozen j
  have f1_1 := str6 HS1_1.out
  have hl1_1 := HS1_1.out.lt
  have hf1_1 := fun j => HS1_1.out.frozen j
  go_wp2_with fail
  have HF := Lib.hid hf
  clear hf
  refine (refFind_any A n c w.heap.size l xk _ ((H.out.more hB).below HB_1.out) HB_1.out.size (by omega) HD.out).mono ?_
  rintro e W2 ⟨Af, nf, cf, rfl, hyf, hb2⟩
  have HS0_2 := Lib.hid (HS0_1.out.next hb2)
  have HS1_2 := Lib.hid (HS1_1.out.next hb2)
  have HB_2 := Lib.hid (bstep HB_1.out hb2)
  have hw_2 := HB_2.out.size
  have hws_2 := (hb2).size
  clear f0_1 HS0_1 hf0_1 f1_1 HS1_1 hf1_1
  clear hb2
  have f0_2 := str6 HS0_2.out
  have hl0_2 := HS0_2.out.lt
  have hf0_2 := fun j => HS0_2.out.frozen j
  have f1_2 := str6 HS1_2.out
  have hl1_2 := HS1_2.out.lt
  have hf1_2 := fun j => HS1_2.out.frozen j
  rw [HF.out] at hyf
  dsimp only [Option.getD, CellP.none] at hyf
  have hnf := hyf.len
  have HYf_2 := Lib.hid (hyf)
  clear hyf
  rw [HF.out]
  dsimp only [Option.getD, Option.isSome]
  go_wp2_with fail
  generalize hW3 : ((((((W2).setCell ⟨w.heap.size + 1, 0, none⟩ (.int .i64 7)).setCell ⟨w.heap.size + 1, 1, none⟩ (.int .i64 0)).setCell ⟨w.heap.size + 1, 2, none⟩ (.slice none 0 0)).setCell ⟨w.heap.size + 1, 3, none⟩ (.int .i64 0)).setCell ⟨w.heap.size + 1, 4, none⟩ (.int .i64 0)).setCell ⟨w.heap.size + 1, 5, none⟩ (.int .i64 0) = W3
  have HS1_3 : Hid (Str W3 (w.heap.size + 1) #[.int .i64 7, .int .i64 0, .slice none 0 0, .int .i64 0, .int .i64 0, .int .i64 0]) := Lib.hid (by rw [← hW3]; have := ((((((HS1_2.out).set 0 (.int .i64 7)).set 1 (.int .i64 0)).set 2 (.slice none 0 0)).set 3 (.int .i64 0)).set 4 (.int .i64 0)).set 5 (.int .i64 0); simpa using this)
  have hgr3 : W2.grownBy W3 (some (w.heap.size + 1)) := by rw [← hW3]; exact grown_set (grown_set (grown_set (grown_set (grown_set (grown_set (grown_refl W2 (w.heap.size + 1)) 0 (_)) 1 (_)) 2 (_)) 3 (_)) 4 (_)) 5 (_)
  have HS0_3 := Lib.hid (HS0_2.out.grown hgr3 (by omega))
  have HB_3 := Lib.hid (below_grown HB_2.out hgr3 (by omega))
  have hw_3 := HB_3.out.size
  have hws_3 := hgr3.size
  have HYf_3 := Lib.hid ((Bytes.grown HYf_2.out (Nat.le_refl _) HS1_2.out rfl hgr3).more hws_3)
  clear HYf_2
  clear hW3
  clear f0_2 HS0_2 hf0_2 f1_2 HS1_2 hf1_2
  clear hgr3
  have f0_3 := str6 HS0_3.out
  have hl0_3 := HS0_3.out.lt
  have hf0_3 := fun j => HS0_3.out.frozen j
  have f1_3 := str6 HS1_3.out
  have hl1_3 := HS1_3.out.lt
  have hf1_3 := fun j => HS1_3.out.frozen j
  generalize hW4 : W3.alloc (.cells #[.int .i64 ckd, .slice Af nf cf, .int .i64 clo, .int .i64 chi, .int .i64 cva] 37) = W4
  have HS0_4 := sEq hW4 (HS0_3.out.alloc _)
  have HS1_4 := sEq hW4 (HS1_3.out.alloc _)
  have HS2_4 := sEq hW4 (Str.new _ _ _)
  have hba4 : Below W3.heap.size W3 W4 := by rw [← hW4]; exact balloc (bsame _) _
  have HB_4 := Lib.hid (bstep HB_3.out hba4)
  have hw_4 := HB_4.out.size
  have hws_4 := hba4.size
  have HYf_4 := Lib.hid (HYf_3.out.next hba4)
  clear HYf_3
  clear hW4
  clear f0_3 HS0_3 hf0_3 f1_3 HS1_3 hf1_3
  have f0_4 := str6 HS0_4.out
  have hl0_4 := HS0_4.out.lt
  have hf0_4 := fun j => HS0_4.out.frozen j
  have f1_4 := str6 HS1_4.out
  have hl1_4 := HS1_4.out.lt
  have hf1_4 := fun j => HS1_4.out.frozen j
  have f2_4 := str5 HS2_4.out
  have hl2_4 := HS2_4.out.lt
  exact bodyPost_ret (v := .tuple #[.slice A n c, .agg #[.int .i64 7, .int .i64 0, .slice none 0 0, .int .i64 0, .int .i64 0, .int .i64 0]]) (by simp [results, Try.results25, go_sem, *]) rfl ⟨A, n, c, none, 0, 0, rfl, ((H.out.below (HB_4.out.mono hB)).more (Nat.le_trans hB HB_4.out.size)), Bytes.none_ _ _, HB_4.out⟩
set_option maxRecDepth 100000 in
set_option maxHeartbeats 2000000 in
theorem rstep_write_kind (A : Option Addr) (n c B : Nat) (l : List Pair) (xk : ByteArray) (xdata : List UInt8) (Ax : Option Addr) (nx cx Bx : Nat) (xlo xhi xn : Int) (w : World) (h : Pairs w B A n c l) (hB : B ≤ w.heap.size) (hs : Small l) (hx : Bytes w Bx Ax nx cx xdata) (hBx : Bx ≤ w.heap.size) (hxk : xk.size ≤ maxLen) (hi1 : In64 xlo) (hi2 : In64 xhi) (hi3 : In64 xn) (cda : List UInt8) (clo chi cva : Int) (hf : ModelP.find l xk = (some ⟨2, cda, clo, chi, cva⟩)) (hg : ModelP.good ⟨1, xk, xdata, xlo, xhi, xn⟩ = true) :
    Calls Try.prog 25 #[.slice A n c, .agg #[.int .i64 1, .string xk, .slice Ax nx cx, .int .i64 xlo, .int .i64 xhi, .int .i64 xn]] w (GivesSA w ((l, ⟨6, CellP.none⟩))) := by
  have hlen := h.len
  have hn : n ≤ 1000 := by rw [← hlen]; exact hs.len
  have H := Lib.hid h
  have HD := Lib.hid hs.data
  have HX := Lib.hid hx
  have hlx := hx.len
  clear h hs hlen
  have HG : Hid (ModelP.good ⟨1, xk, xdata, xlo, xhi, xn⟩ = true) := Lib.hid hg
  clear hg hx
  go_enter Try.func25, Try.ntmps25
  go_wp2_with fail
  generalize hW0 : ((w).alloc (.cells #[.int .i64 1, .string xk, .slice Ax nx cx, .int .i64 xlo, .int .i64 xhi, .int .i64 xn] 24)).alloc (.cells #[.int .i64 0, .int .i64 0, .slice none 0 0, .int .i64 0, .int .i64 0, .int .i64 0] 39) = W0
  obtain ⟨HS0_0, HS1_0, HB_0, hw_0, hz0⟩ := new2 hW0
  clear hW0 hz0
  have f0_0 := str6 HS0_0.out
  have hl0_0 := HS0_0.out.lt
  have hf0_0 := fun j => HS0_0.out.frozen j
  have f1_0 := str6 HS1_0.out
  have hl1_0 := HS1_0.out.lt
  have hf1_0 := fun j => HS1_0.out.frozen j
  refine (good_any ⟨1, xk, xdata, xlo, xhi, xn⟩ Ax nx cx _ hxk hlx).mono ?_
  rintro e W1 ⟨rfl, hb1⟩
  rw [HG.out]
  have HS0_1 := Lib.hid (HS0_0.out.next hb1)
  have HS1_1 := Lib.hid (HS1_0.out.next hb1)
  have HB_1 := Lib.hid (bstep HB_0.out hb1)
  have hw_1 := HB_1.out.size
  have hws_1 := (hb1).size
  clear f0_0 HS0_0 hf0_0 f1_0 HS1_0 hf1_0
  clear hb1
  have f0_1 := str6 HS0_1.out
  have hl0_1 := HS0_1.out.lt
  have hf0_1 := fun j => HS0_1.out.frozen j
  have f1_1 := str6 HS1_1.out
  have hl1_1 := HS1_1.out.lt
  have hf1_1 := fun j => HS1_1.out.frozen j
  go_wp2_with fail
  have HF := Lib.hid hf
  clear hf
  refine (refFind_any A n c w.heap.size l xk _ ((H.out.more hB).below HB_1.out) HB_1.out.size (by omega) HD.out).mono ?_
  rintro e W2 ⟨Af, nf, cf, rfl, hyf, hb2⟩
  have HS0_2 := Lib.hid (HS0_1.out.next hb2)
  have HS1_2 := Lib.hid (HS1_1.out.next hb2)
  have HB_2 := Lib.hid (bstep HB_1.out hb2)
  have hw_2 := HB_2.out.size
  have hws_2 := (hb2).size
  clear f0_1 HS0_1 hf0_1 f1_1 HS1_1 hf1_1
  clear hb2
  have f0_2 := str6 HS0_2.out
  have hl0_2 := HS0_2.out.lt
  have hf0_2 := fun j => HS0_2.out.frozen j
  have f1_2 := str6 HS1_2.out
  have hl1_2 := HS1_2.out.lt
  have hf1_2 := fun j => HS1_2.out.frozen j
  rw [HF.out] at hyf
  dsimp only [Option.getD, CellP.none] at hyf
  have hnf := hyf.len
  have HYf_2 := Lib.hid (hyf)
  clear hyf
  rw [HF.out]
  dsimp only [Option.getD, Option.isSome]
  go_wp2_with fail
  generalize hW3 : ((((((W2).setCell ⟨w.heap.size + 1, 0, none⟩ (.int .i64 6)).setCell ⟨w.heap.size + 1, 1, none⟩ (.int .i64 0)).setCell ⟨w.heap.size + 1, 2, none⟩ (.slice none 0 0)).setCell ⟨w.heap.size + 1, 3, none⟩ (.int .i64 0)).setCell ⟨w.heap.size + 1, 4, none⟩ (.int .i64 0)).setCell ⟨w.heap.size + 1, 5, none⟩ (.int .i64 0) = W3
  have HS1_3 : Hid (Str W3 (w.heap.size + 1) #[.int .i64 6, .int .i64 0, .slice none 0 0, .int .i64 0, .int .i64 0, .int .i64 0]) := Lib.hid (by rw [← hW3]; have := ((((((HS1_2.out).set 0 (.int .i64 6)).set 1 (.int .i64 0)).set 2 (.slice none 0 0)).set 3 (.int .i64 0)).set 4 (.int .i64 0)).set 5 (.int .i64 0); simpa using this)
  have hgr3 : W2.grownBy W3 (some (w.heap.size + 1)) := by rw [← hW3]; exact grown_set (grown_set (grown_set (grown_set (grown_set (grown_set (grown_refl W2 (w.heap.size + 1)) 0 (_)) 1 (_)) 2 (_)) 3 (_)) 4 (_)) 5 (_)
  have HS0_3 := Lib.hid (HS0_2.out.grown hgr3 (by omega))
  have HB_3 := Lib.hid (below_grown HB_2.out hgr3 (by omega))
  have hw_3 := HB_3.out.size
  have hws_3 := hgr3.size
  have HYf_3 := Lib.hid ((Bytes.grown HYf_2.out (Nat.le_refl _) HS1_2.out rfl hgr3).more hws_3)
  clear HYf_2
  clear hW3
  clear f0_2 HS0_2 hf0_2 f1_2 HS1_2 hf1_2
  clear hgr3
  have f0_3 := str6 HS0_3.out
  have hl0_3 := HS0_3.out.lt
  have hf0_3 := fun j => HS0_3.out.frozen j
  have f1_3 := str6 HS1_3.out
  have hl1_3 := HS1_3.out.lt
  have hf1_3 := fun j => HS1_3.out.frozen j
  generalize hW4 : W3.alloc (.cells #[.int .i64 2, .slice Af nf cf, .int .i64 clo, .int .i64 chi, .int .i64 cva] 37) = W4
  have HS0_4 := sEq hW4 (HS0_3.out.alloc _)
  have HS1_4 := sEq hW4 (HS1_3.out.alloc _)
  have HS2_4 := sEq hW4 (Str.new _ _ _)
  have hba4 : Below W3.heap.size W3 W4 := by rw [← hW4]; exact balloc (bsame _) _
  have HB_4 := Lib.hid (bstep HB_3.out hba4)
  have hw_4 := HB_4.out.size
  have hws_4 := hba4.size
  have HYf_4 := Lib.hid (HYf_3.out.next hba4)
  clear HYf_3
  clear hW4
  clear f0_3 HS0_3 hf0_3 f1_3 HS1_3 hf1_3
  have f0_4 := str6 HS0_4.out
  have hl0_4 := HS0_4.out.lt
  have hf0_4 := fun j => HS0_4.out.frozen j
  have f1_4 := str6 HS1_4.out
  have hl1_4 := HS1_4.out.lt
  have hf1_4 := fun j => HS1_4.out.frozen j
  have f2_4 := str5 HS2_4.out
  have hl2_4 := HS2_4.out.lt
  exact bodyPost_ret (v := .tuple #[.slice A n c, .agg #[.int .i64 6, .int .i64 0, .slice none 0 0, .int .i64 0, .int .i64 0, .int .i64 0]]) (by simp [results, Try.results25, go_sem, *]) rfl ⟨A, n, c, none, 0, 0, rfl, ((H.out.below (HB_4.out.mono hB)).more (Nat.le_trans hB HB_4.out.size)), Bytes.none_ _ _, HB_4.out⟩
set_option maxRecDepth 100000 in
set_option maxHeartbeats 2000000 in
theorem rstep_write_none (A : Option Addr) (n c B : Nat) (l : List Pair) (xk : ByteArray) (xdata : List UInt8) (Ax : Option Addr) (nx cx Bx : Nat) (xlo xhi xn : Int) (w : World) (h : Pairs w B A n c l) (hB : B ≤ w.heap.size) (hs : Small l) (hx : Bytes w Bx Ax nx cx xdata) (hBx : Bx ≤ w.heap.size) (hxk : xk.size ≤ maxLen) (hi1 : In64 xlo) (hi2 : In64 xhi) (hi3 : In64 xn) (hf : ModelP.find l xk = none) (hg : ModelP.good ⟨1, xk, xdata, xlo, xhi, xn⟩ = true) :
    Calls Try.prog 25 #[.slice A n c, .agg #[.int .i64 1, .string xk, .slice Ax nx cx, .int .i64 xlo, .int .i64 xhi, .int .i64 xn]] w (GivesSA w ((ModelP.put l xk (some ⟨1, xdata, 0, 0, 0⟩), ⟨0, CellP.none⟩))) := by
  have hlen := h.len
  have hn : n ≤ 1000 := by rw [← hlen]; exact hs.len
  have H := Lib.hid h
  have HD := Lib.hid hs.data
  have HX := Lib.hid hx
  have hlx := hx.len
  clear h hs hlen
  have HG : Hid (ModelP.good ⟨1, xk, xdata, xlo, xhi, xn⟩ = true) := Lib.hid hg
  clear hg hx
  go_enter Try.func25, Try.ntmps25
  go_wp2_with fail
  generalize hW0 : ((w).alloc (.cells #[.int .i64 1, .string xk, .slice Ax nx cx, .int .i64 xlo, .int .i64 xhi, .int .i64 xn] 24)).alloc (.cells #[.int .i64 0, .int .i64 0, .slice none 0 0, .int .i64 0, .int .i64 0, .int .i64 0] 39) = W0
  obtain ⟨HS0_0, HS1_0, HB_0, hw_0, hz0⟩ := new2 hW0
  clear hW0 hz0
  have f0_0 := str6 HS0_0.out
  have hl0_0 := HS0_0.out.lt
  have hf0_0 := fun j => HS0_0.out.frozen j
  have f1_0 := str6 HS1_0.out
  have hl1_0 := HS1_0.out.lt
  have hf1_0 := fun j => HS1_0.out.frozen j
  refine (good_any ⟨1, xk, xdata, xlo, xhi, xn⟩ Ax nx cx _ hxk hlx).mono ?_
  rintro e W1 ⟨rfl, hb1⟩
  rw [HG.out]
  have HS0_1 := Lib.hid (HS0_0.out.next hb1)
  have HS1_1 := Lib.hid (HS1_0.out.next hb1)
  have HB_1 := Lib.hid (bstep HB_0.out hb1)
  have hw_1 := HB_1.out.size
  have hws_1 := (hb1).size
  clear f0_0 HS0_0 hf0_0 f1_0 HS1_0 hf1_0
  clear hb1
  have f0_1 := str6 HS0_1.out
  have hl0_1 := HS0_1.out.lt
  have hf0_1 := fun j => HS0_1.out.frozen j
  have f1_1 := str6 HS1_1.out
  have hl1_1 := HS1_1.out.lt
  have hf1_1 := fun j => HS1_1.out.frozen j
  go_wp2_with fail
  have HF := Lib.hid hf
  clear hf
  refine (refFind_any A n c w.heap.size l xk _ ((H.out.more hB).below HB_1.out) HB_1.out.size (by omega) HD.out).mono ?_
  rintro e W2 ⟨Af, nf, cf, rfl, hyf, hb2⟩
  have HS0_2 := Lib.hid (HS0_1.out.next hb2)
  have HS1_2 := Lib.hid (HS1_1.out.next hb2)
  have HB_2 := Lib.hid (bstep HB_1.out hb2)
  have hw_2 := HB_2.out.size
  have hws_2 := (hb2).size
  clear f0_1 HS0_1 hf0_1 f1_1 HS1_1 hf1_1
  clear hb2
  have f0_2 := str6 HS0_2.out
  have hl0_2 := HS0_2.out.lt
  have hf0_2 := fun j => HS0_2.out.frozen j
  have f1_2 := str6 HS1_2.out
  have hl1_2 := HS1_2.out.lt
  have hf1_2 := fun j => HS1_2.out.frozen j
  rw [HF.out] at hyf
  dsimp only [Option.getD, CellP.none] at hyf
  have hnf := hyf.len
  have HYf_2 := Lib.hid (hyf)
  clear hyf
  rw [HF.out]
  dsimp only [Option.getD, Option.isSome, CellP.none]
  go_wp2_with fail
  generalize hW3 : W2.alloc (.cells #[.int .i64 0, .slice Af nf cf, .int .i64 0, .int .i64 0, .int .i64 0] 37) = W3
  have HS0_3 := sEq hW3 (HS0_2.out.alloc _)
  have HS1_3 := sEq hW3 (HS1_2.out.alloc _)
  have HS2_3 := sEq hW3 (Str.new _ _ _)
  have hba3 : Below W2.heap.size W2 W3 := by rw [← hW3]; exact balloc (bsame _) _
  have HB_3 := Lib.hid (bstep HB_2.out hba3)
  have hw_3 := HB_3.out.size
  have hws_3 := hba3.size
  have HYf_3 := Lib.hid (HYf_2.out.next hba3)
  clear HYf_2
  clear hW3
  clear f0_2 HS0_2 hf0_2 f1_2 HS1_2 hf1_2
  have f0_3 := str6 HS0_3.out
  have hl0_3 := HS0_3.out.lt
  have hf0_3 := fun j => HS0_3.out.frozen j
  have f1_3 := str6 HS1_3.out
  have hl1_3 := HS1_3.out.lt
  have hf1_3 := fun j => HS1_3.out.frozen j
  have f2_3 := str5 HS2_3.out
  have hl2_3 := HS2_3.out.lt
  refine (putSome A n c w.heap.size l xk 1 xdata 0 0 0 Ax nx cx w.heap.size _ ((H.out.more hB).below HB_3.out) HB_3.out.size hn ((HX.out.more hBx).below HB_3.out) HB_3.out.size hxk ⟨by unfold In64; omega, by unfold In64; omega, by unfold In64; omega, by unfold In64; omega⟩ (by decide)).mono ?_
  rintro e W4 ⟨A', n', c', rfl, hp', hb4⟩
  have HS0_4 := Lib.hid (HS0_3.out.next hb4)
  have HS1_4 := Lib.hid (HS1_3.out.next hb4)
  have HS2_4 := Lib.hid (HS2_3.out.next hb4)
  have HB_4 := Lib.hid (bstep HB_3.out hb4)
  have hw_4 := HB_4.out.size
  have hws_4 := (hb4).size
  have HYf_4 := Lib.hid (HYf_3.out.next hb4)
  clear HYf_3
  clear f0_3 HS0_3 hf0_3 f1_3 HS1_3 hf1_3 f2_3 HS2_3
  clear hb4
  have f0_4 := str6 HS0_4.out
  have hl0_4 := HS0_4.out.lt
  have hf0_4 := fun j => HS0_4.out.frozen j
  have f1_4 := str6 HS1_4.out
  have hl1_4 := HS1_4.out.lt
  have hf1_4 := fun j => HS1_4.out.frozen j
  have f2_4 := str5 HS2_4.out
  have hl2_4 := HS2_4.out.lt
  have HPs_4 := Lib.hid hp'
  clear hp'
  go_wp2_with fail
  generalize hW5 : ((((((W4).setCell ⟨w.heap.size + 1, 0, none⟩ (.int .i64 0)).setCell ⟨w.heap.size + 1, 1, none⟩ (.int .i64 0)).setCell ⟨w.heap.size + 1, 2, none⟩ (.slice none 0 0)).setCell ⟨w.heap.size + 1, 3, none⟩ (.int .i64 0)).setCell ⟨w.heap.size + 1, 4, none⟩ (.int .i64 0)).setCell ⟨w.heap.size + 1, 5, none⟩ (.int .i64 0) = W5
  have HS1_5 : Hid (Str W5 (w.heap.size + 1) #[.int .i64 0, .int .i64 0, .slice none 0 0, .int .i64 0, .int .i64 0, .int .i64 0]) := Lib.hid (by rw [← hW5]; have := ((((((HS1_4.out).set 0 (.int .i64 0)).set 1 (.int .i64 0)).set 2 (.slice none 0 0)).set 3 (.int .i64 0)).set 4 (.int .i64 0)).set 5 (.int .i64 0); simpa using this)
  have hgr5 : W4.grownBy W5 (some (w.heap.size + 1)) := by rw [← hW5]; exact grown_set (grown_set (grown_set (grown_set (grown_set (grown_set (grown_refl W4 (w.heap.size + 1)) 0 (_)) 1 (_)) 2 (_)) 3 (_)) 4 (_)) 5 (_)
  have HS0_5 := Lib.hid (HS0_4.out.grown hgr5 (by omega))
  have HS2_5 := Lib.hid (HS2_4.out.grown hgr5 (by omega))
  have HB_5 := Lib.hid (below_grown HB_4.out hgr5 (by omega))
  have hw_5 := HB_5.out.size
  have hws_5 := hgr5.size
  have HYf_5 := Lib.hid ((Bytes.grown HYf_4.out (Nat.le_refl _) HS1_4.out rfl hgr5).more hws_5)
  clear HYf_4
  have HPz : Hid (Pairs W5 W5.heap.size A' n' c' _) := Lib.hid (Pairs.grown HPs_4.out HS1_4.out rfl rfl hgr5)
  clear hW5
  clear f0_4 HS0_4 hf0_4 f1_4 HS1_4 hf1_4 f2_4 HS2_4
  clear hgr5
  have f0_5 := str6 HS0_5.out
  have hl0_5 := HS0_5.out.lt
  have hf0_5 := fun j => HS0_5.out.frozen j
  have f1_5 := str6 HS1_5.out
  have hl1_5 := HS1_5.out.lt
  have hf1_5 := fun j => HS1_5.out.frozen j
  have f2_5 := str5 HS2_5.out
  have hl2_5 := HS2_5.out.lt
  exact bodyPost_ret (v := .tuple #[.slice A' n' c', .agg #[.int .i64 0, .int .i64 0, .slice none 0 0, .int .i64 0, .int .i64 0, .int .i64 0]]) (by simp [results, Try.results25, go_sem, *]) rfl ⟨A', n', c', none, 0, 0, rfl, HPz.out, Bytes.none_ _ _, HB_5.out⟩
set_option maxRecDepth 100000 in
set_option maxHeartbeats 2000000 in
theorem rstep_write_some (A : Option Addr) (n c B : Nat) (l : List Pair) (xk : ByteArray) (xdata : List UInt8) (Ax : Option Addr) (nx cx Bx : Nat) (xlo xhi xn : Int) (w : World) (h : Pairs w B A n c l) (hB : B ≤ w.heap.size) (hs : Small l) (hx : Bytes w Bx Ax nx cx xdata) (hBx : Bx ≤ w.heap.size) (hxk : xk.size ≤ maxLen) (hi1 : In64 xlo) (hi2 : In64 xhi) (hi3 : In64 xn) (ckd : Int) (cda : List UInt8) (clo chi cva : Int) (hf : ModelP.find l xk = (some ⟨ckd, cda, clo, chi, cva⟩)) (hg : ModelP.good ⟨1, xk, xdata, xlo, xhi, xn⟩ = true) (hk : ¬ ckd = 2) :
    Calls Try.prog 25 #[.slice A n c, .agg #[.int .i64 1, .string xk, .slice Ax nx cx, .int .i64 xlo, .int .i64 xhi, .int .i64 xn]] w (GivesSA w ((ModelP.put l xk (some ⟨1, xdata, 0, 0, 0⟩), ⟨0, CellP.none⟩))) := by
  have hlen := h.len
  have hn : n ≤ 1000 := by rw [← hlen]; exact hs.len
  have H := Lib.hid h
  have HD := Lib.hid hs.data
  have HX := Lib.hid hx
  have hlx := hx.len
  clear h hs hlen
  have HG : Hid (ModelP.good ⟨1, xk, xdata, xlo, xhi, xn⟩ = true) := Lib.hid hg
  clear hg hx
  go_enter Try.func25, Try.ntmps25
  go_wp2_with fail
  generalize hW0 : ((w).alloc (.cells #[.int .i64 1, .string xk, .slice Ax nx cx, .int .i64 xlo, .int .i64 xhi, .int .i64 xn] 24)).alloc (.cells #[.int .i64 0, .int .i64 0, .slice none 0 0, .int .i64 0, .int .i64 0, .int .i64 0] 39) = W0
  obtain ⟨HS0_0, HS1_0, HB_0, hw_0, hz0⟩ := new2 hW0
  clear hW0 hz0
  have f0_0 := str6 HS0_0.out
  have hl0_0 := HS0_0.out.lt
  have hf0_0 := fun j => HS0_0.out.frozen j
  have f1_0 := str6 HS1_0.out
  have hl1_0 := HS1_0.out.lt
  have hf1_0 := fun j => HS1_0.out.frozen j
  refine (good_any ⟨1, xk, xdata, xlo, xhi, xn⟩ Ax nx cx _ hxk hlx).mono ?_
  rintro e W1 ⟨rfl, hb1⟩
  rw [HG.out]
  have HS0_1 := Lib.hid (HS0_0.out.next hb1)
  have HS1_1 := Lib.hid (HS1_0.out.next hb1)
  have HB_1 := Lib.hid (bstep HB_0.out hb1)
  have hw_1 := HB_1.out.size
  have hws_1 := (hb1).size
  clear f0_0 HS0_0 hf0_0 f1_0 HS1_0 hf1_0
  clear hb1
  have f0_1 := str6 HS0_1.out
  have hl0_1 := HS0_1.out.lt
  have hf0_1 := fun j => HS0_1.out.frozen j
  have f1_1 := str6 HS1_1.out
  have hl1_1 := HS1_1.out.lt
  have hf1_1 := fun j => HS1_1.out.frozen j
  go_wp2_with fail
  have HF := Lib.hid hf
  clear hf
  refine (refFind_any A n c w.heap.size l xk _ ((H.out.more hB).below HB_1.out) HB_1.out.size (by omega) HD.out).mono ?_
  rintro e W2 ⟨Af, nf, cf, rfl, hyf, hb2⟩
  have HS0_2 := Lib.hid (HS0_1.out.next hb2)
  have HS1_2 := Lib.hid (HS1_1.out.next hb2)
  have HB_2 := Lib.hid (bstep HB_1.out hb2)
  have hw_2 := HB_2.out.size
  have hws_2 := (hb2).size
  clear f0_1 HS0_1 hf0_1 f1_1 HS1_1 hf1_1
  clear hb2
  have f0_2 := str6 HS0_2.out
  have hl0_2 := HS0_2.out.lt
  have hf0_2 := fun j => HS0_2.out.frozen j
  have f1_2 := str6 HS1_2.out
  have hl1_2 := HS1_2.out.lt
  have hf1_2 := fun j => HS1_2.out.frozen j
  rw [HF.out] at hyf
  dsimp only [Option.getD, CellP.none] at hyf
  have hnf := hyf.len
  have HYf_2 := Lib.hid (hyf)
  clear hyf
  rw [HF.out]
  dsimp only [Option.getD, Option.isSome]
  go_wp2_with fail
  generalize hW3 : W2.alloc (.cells #[.int .i64 ckd, .slice Af nf cf, .int .i64 clo, .int .i64 chi, .int .i64 cva] 37) = W3
  have HS0_3 := sEq hW3 (HS0_2.out.alloc _)
  have HS1_3 := sEq hW3 (HS1_2.out.alloc _)
  have HS2_3 := sEq hW3 (Str.new _ _ _)
  have hba3 : Below W2.heap.size W2 W3 := by rw [← hW3]; exact balloc (bsame _) _
  have HB_3 := Lib.hid (bstep HB_2.out hba3)
  have hw_3 := HB_3.out.size
  have hws_3 := hba3.size
  have HYf_3 := Lib.hid (HYf_2.out.next hba3)
  clear HYf_2
  clear hW3
  clear f0_2 HS0_2 hf0_2 f1_2 HS1_2 hf1_2
  have f0_3 := str6 HS0_3.out
  have hl0_3 := HS0_3.out.lt
  have hf0_3 := fun j => HS0_3.out.frozen j
  have f1_3 := str6 HS1_3.out
  have hl1_3 := HS1_3.out.lt
  have hf1_3 := fun j => HS1_3.out.frozen j
  have f2_3 := str5 HS2_3.out
  have hl2_3 := HS2_3.out.lt
  refine (putSome A n c w.heap.size l xk 1 xdata 0 0 0 Ax nx cx w.heap.size _ ((H.out.more hB).below HB_3.out) HB_3.out.size hn ((HX.out.more hBx).below HB_3.out) HB_3.out.size hxk ⟨by unfold In64; omega, by unfold In64; omega, by unfold In64; omega, by unfold In64; omega⟩ (by decide)).mono ?_
  rintro e W4 ⟨A', n', c', rfl, hp', hb4⟩
  have HS0_4 := Lib.hid (HS0_3.out.next hb4)
  have HS1_4 := Lib.hid (HS1_3.out.next hb4)
  have HS2_4 := Lib.hid (HS2_3.out.next hb4)
  have HB_4 := Lib.hid (bstep HB_3.out hb4)
  have hw_4 := HB_4.out.size
  have hws_4 := (hb4).size
  have HYf_4 := Lib.hid (HYf_3.out.next hb4)
  clear HYf_3
  clear f0_3 HS0_3 hf0_3 f1_3 HS1_3 hf1_3 f2_3 HS2_3
  clear hb4
  have f0_4 := str6 HS0_4.out
  have hl0_4 := HS0_4.out.lt
  have hf0_4 := fun j => HS0_4.out.frozen j
  have f1_4 := str6 HS1_4.out
  have hl1_4 := HS1_4.out.lt
  have hf1_4 := fun j => HS1_4.out.frozen j
  have f2_4 := str5 HS2_4.out
  have hl2_4 := HS2_4.out.lt
  have HPs_4 := Lib.hid hp'
  clear hp'
  go_wp2_with fail
  generalize hW5 : ((((((W4).setCell ⟨w.heap.size + 1, 0, none⟩ (.int .i64 0)).setCell ⟨w.heap.size + 1, 1, none⟩ (.int .i64 0)).setCell ⟨w.heap.size + 1, 2, none⟩ (.slice none 0 0)).setCell ⟨w.heap.size + 1, 3, none⟩ (.int .i64 0)).setCell ⟨w.heap.size + 1, 4, none⟩ (.int .i64 0)).setCell ⟨w.heap.size + 1, 5, none⟩ (.int .i64 0) = W5
  have HS1_5 : Hid (Str W5 (w.heap.size + 1) #[.int .i64 0, .int .i64 0, .slice none 0 0, .int .i64 0, .int .i64 0, .int .i64 0]) := Lib.hid (by rw [← hW5]; have := ((((((HS1_4.out).set 0 (.int .i64 0)).set 1 (.int .i64 0)).set 2 (.slice none 0 0)).set 3 (.int .i64 0)).set 4 (.int .i64 0)).set 5 (.int .i64 0); simpa using this)
  have hgr5 : W4.grownBy W5 (some (w.heap.size + 1)) := by rw [← hW5]; exact grown_set (grown_set (grown_set (grown_set (grown_set (grown_set (grown_refl W4 (w.heap.size + 1)) 0 (_)) 1 (_)) 2 (_)) 3 (_)) 4 (_)) 5 (_)
  have HS0_5 := Lib.hid (HS0_4.out.grown hgr5 (by omega))
  have HS2_5 := Lib.hid (HS2_4.out.grown hgr5 (by omega))
  have HB_5 := Lib.hid (below_grown HB_4.out hgr5 (by omega))
  have hw_5 := HB_5.out.size
  have hws_5 := hgr5.size
  have HYf_5 := Lib.hid ((Bytes.grown HYf_4.out (Nat.le_refl _) HS1_4.out rfl hgr5).more hws_5)
  clear HYf_4
  have HPz : Hid (Pairs W5 W5.heap.size A' n' c' _) := Lib.hid (Pairs.grown HPs_4.out HS1_4.out rfl rfl hgr5)
  clear hW5
  clear f0_4 HS0_4 hf0_4 f1_4 HS1_4 hf1_4 f2_4 HS2_4
  clear hgr5
  have f0_5 := str6 HS0_5.out
  have hl0_5 := HS0_5.out.lt
  have hf0_5 := fun j => HS0_5.out.frozen j
  have f1_5 := str6 HS1_5.out
  have hl1_5 := HS1_5.out.lt
  have hf1_5 := fun j => HS1_5.out.frozen j
  have f2_5 := str5 HS2_5.out
  have hl2_5 := HS2_5.out.lt
  exact bodyPost_ret (v := .tuple #[.slice A' n' c', .agg #[.int .i64 0, .int .i64 0, .slice none 0 0, .int .i64 0, .int .i64 0, .int .i64 0]]) (by simp [results, Try.results25, go_sem, *]) rfl ⟨A', n', c', none, 0, 0, rfl, HPz.out, Bytes.none_ _ _, HB_5.out⟩
set_option maxRecDepth 100000 in
set_option maxHeartbeats 2000000 in
theorem rstep_create_none (A : Option Addr) (n c B : Nat) (l : List Pair) (xk : ByteArray) (xdata : List UInt8) (Ax : Option Addr) (nx cx Bx : Nat) (xlo xhi xn : Int) (w : World) (h : Pairs w B A n c l) (hB : B ≤ w.heap.size) (hs : Small l) (hx : Bytes w Bx Ax nx cx xdata) (hBx : Bx ≤ w.heap.size) (hxk : xk.size ≤ maxLen) (hi1 : In64 xlo) (hi2 : In64 xhi) (hi3 : In64 xn) (hf : ModelP.find l xk = none) (hg : ModelP.good ⟨2, xk, xdata, xlo, xhi, xn⟩ = true) :
    Calls Try.prog 25 #[.slice A n c, .agg #[.int .i64 2, .string xk, .slice Ax nx cx, .int .i64 xlo, .int .i64 xhi, .int .i64 xn]] w (GivesSA w ((ModelP.put l xk (some ⟨2, [], xlo, xhi, xn⟩), ⟨0, CellP.none⟩))) := by
  have hlen := h.len
  have hn : n ≤ 1000 := by rw [← hlen]; exact hs.len
  have H := Lib.hid h
  have HD := Lib.hid hs.data
  have HX := Lib.hid hx
  have hlx := hx.len
  clear h hs hlen
  have HG : Hid (ModelP.good ⟨2, xk, xdata, xlo, xhi, xn⟩ = true) := Lib.hid hg
  clear hg hx
  go_enter Try.func25, Try.ntmps25
  go_wp2_with fail
  generalize hW0 : ((w).alloc (.cells #[.int .i64 2, .string xk, .slice Ax nx cx, .int .i64 xlo, .int .i64 xhi, .int .i64 xn] 24)).alloc (.cells #[.int .i64 0, .int .i64 0, .slice none 0 0, .int .i64 0, .int .i64 0, .int .i64 0] 39) = W0
  obtain ⟨HS0_0, HS1_0, HB_0, hw_0, hz0⟩ := new2 hW0
  clear hW0 hz0
  have f0_0 := str6 HS0_0.out
  have hl0_0 := HS0_0.out.lt
  have hf0_0 := fun j => HS0_0.out.frozen j
  have f1_0 := str6 HS1_0.out
  have hl1_0 := HS1_0.out.lt
  have hf1_0 := fun j => HS1_0.out.frozen j
  refine (good_any ⟨2, xk, xdata, xlo, xhi, xn⟩ Ax nx cx _ hxk hlx).mono ?_
  rintro e W1 ⟨rfl, hb1⟩
  rw [HG.out]
  have HS0_1 := Lib.hid (HS0_0.out.next hb1)
  have HS1_1 := Lib.hid (HS1_0.out.next hb1)
  have HB_1 := Lib.hid (bstep HB_0.out hb1)
  have hw_1 := HB_1.out.size
  have hws_1 := (hb1).size
  clear f0_0 HS0_0 hf0_0 f1_0 HS1_0 hf1_0
  clear hb1
  have f0_1 := str6 HS0_1.out
  have hl0_1 := HS0_1.out.lt
  have hf0_1 := fun j => HS0_1.out.frozen j
  have f1_1 := str6 HS1_1.out
  have hl1_1 := HS1_1.out.lt
  have hf1_1 := fun j => HS1_1.out.frozen j
  go_wp2_with fail
  have HF := Lib.hid hf
  clear hf
  refine (refFind_any A n c w.heap.size l xk _ ((H.out.more hB).below HB_1.out) HB_1.out.size (by omega) HD.out).mono ?_
  rintro e W2 ⟨Af, nf, cf, rfl, hyf, hb2⟩
  have HS0_2 := Lib.hid (HS0_1.out.next hb2)
  have HS1_2 := Lib.hid (HS1_1.out.next hb2)
  have HB_2 := Lib.hid (bstep HB_1.out hb2)
  have hw_2 := HB_2.out.size
  have hws_2 := (hb2).size
  clear f0_1 HS0_1 hf0_1 f1_1 HS1_1 hf1_1
  clear hb2
  have f0_2 := str6 HS0_2.out
  have hl0_2 := HS0_2.out.lt
  have hf0_2 := fun j => HS0_2.out.frozen j
  have f1_2 := str6 HS1_2.out
  have hl1_2 := HS1_2.out.lt
  have hf1_2 := fun j => HS1_2.out.frozen j
  rw [HF.out] at hyf
  dsimp only [Option.getD, CellP.none] at hyf
  have hnf := hyf.len
  have HYf_2 := Lib.hid (hyf)
  clear hyf
  rw [HF.out]
  dsimp only [Option.getD, Option.isSome, CellP.none]
  go_wp2_with fail
  generalize hW3 : W2.alloc (.cells #[.int .i64 0, .slice Af nf cf, .int .i64 0, .int .i64 0, .int .i64 0] 37) = W3
  have HS0_3 := sEq hW3 (HS0_2.out.alloc _)
  have HS1_3 := sEq hW3 (HS1_2.out.alloc _)
  have HS2_3 := sEq hW3 (Str.new _ _ _)
  have hba3 : Below W2.heap.size W2 W3 := by rw [← hW3]; exact balloc (bsame _) _
  have HB_3 := Lib.hid (bstep HB_2.out hba3)
  have hw_3 := HB_3.out.size
  have hws_3 := hba3.size
  have HYf_3 := Lib.hid (HYf_2.out.next hba3)
  clear HYf_2
  clear hW3
  clear f0_2 HS0_2 hf0_2 f1_2 HS1_2 hf1_2
  have f0_3 := str6 HS0_3.out
  have hl0_3 := HS0_3.out.lt
  have hf0_3 := fun j => HS0_3.out.frozen j
  have f1_3 := str6 HS1_3.out
  have hl1_3 := HS1_3.out.lt
  have hf1_3 := fun j => HS1_3.out.frozen j
  have f2_3 := str5 HS2_3.out
  have hl2_3 := HS2_3.out.lt
  refine (putSome A n c w.heap.size l xk 2 [] xlo xhi xn none 0 0 w.heap.size _ ((H.out.more hB).below HB_3.out) HB_3.out.size hn (Bytes.none_ W3 _) HB_3.out.size hxk ⟨by unfold In64; omega, hi1, hi2, hi3⟩ (by decide)).mono ?_
  rintro e W4 ⟨A', n', c', rfl, hp', hb4⟩
  have HS0_4 := Lib.hid (HS0_3.out.next hb4)
  have HS1_4 := Lib.hid (HS1_3.out.next hb4)
  have HS2_4 := Lib.hid (HS2_3.out.next hb4)
  have HB_4 := Lib.hid (bstep HB_3.out hb4)
  have hw_4 := HB_4.out.size
  have hws_4 := (hb4).size
  have HYf_4 := Lib.hid (HYf_3.out.next hb4)
  clear HYf_3
  clear f0_3 HS0_3 hf0_3 f1_3 HS1_3 hf1_3 f2_3 HS2_3
  clear hb4
  have f0_4 := str6 HS0_4.out
  have hl0_4 := HS0_4.out.lt
  have hf0_4 := fun j => HS0_4.out.frozen j
  have f1_4 := str6 HS1_4.out
  have hl1_4 := HS1_4.out.lt
  have hf1_4 := fun j => HS1_4.out.frozen j
  have f2_4 := str5 HS2_4.out
  have hl2_4 := HS2_4.out.lt
  have HPs_4 := Lib.hid hp'
  clear hp'
  go_wp2_with fail
  generalize hW5 : ((((((W4).setCell ⟨w.heap.size + 1, 0, none⟩ (.int .i64 0)).setCell ⟨w.heap.size + 1, 1, none⟩ (.int .i64 0)).setCell ⟨w.heap.size + 1, 2, none⟩ (.slice none 0 0)).setCell ⟨w.heap.size + 1, 3, none⟩ (.int .i64 0)).setCell ⟨w.heap.size + 1, 4, none⟩ (.int .i64 0)).setCell ⟨w.heap.size + 1, 5, none⟩ (.int .i64 0) = W5
  have HS1_5 : Hid (Str W5 (w.heap.size + 1) #[.int .i64 0, .int .i64 0, .slice none 0 0, .int .i64 0, .int .i64 0, .int .i64 0]) := Lib.hid (by rw [← hW5]; have := ((((((HS1_4.out).set 0 (.int .i64 0)).set 1 (.int .i64 0)).set 2 (.slice none 0 0)).set 3 (.int .i64 0)).set 4 (.int .i64 0)).set 5 (.int .i64 0); simpa using this)
  have hgr5 : W4.grownBy W5 (some (w.heap.size + 1)) := by rw [← hW5]; exact grown_set (grown_set (grown_set (grown_set (grown_set (grown_set (grown_refl W4 (w.heap.size + 1)) 0 (_)) 1 (_)) 2 (_)) 3 (_)) 4 (_)) 5 (_)
  have HS0_5 := Lib.hid (HS0_4.out.grown hgr5 (by omega))
  have HS2_5 := Lib.hid (HS2_4.out.grown hgr5 (by omega))
  have HB_5 := Lib.hid (below_grown HB_4.out hgr5 (by omega))
  have hw_5 := HB_5.out.size
  have hws_5 := hgr5.size
  have HYf_5 := Lib.hid ((Bytes.grown HYf_4.out (Nat.le_refl _) HS1_4.out rfl hgr5).more hws_5)
  clear HYf_4
  have HPz : Hid (Pairs W5 W5.heap.size A' n' c' _) := Lib.hid (Pairs.grown HPs_4.out HS1_4.out rfl rfl hgr5)
  clear hW5
  clear f0_4 HS0_4 hf0_4 f1_4 HS1_4 hf1_4 f2_4 HS2_4
  clear hgr5
  have f0_5 := str6 HS0_5.out
  have hl0_5 := HS0_5.out.lt
  have hf0_5 := fun j => HS0_5.out.frozen j
  have f1_5 := str6 HS1_5.out
  have hl1_5 := HS1_5.out.lt
  have hf1_5 := fun j => HS1_5.out.frozen j
  have f2_5 := str5 HS2_5.out
  have hl2_5 := HS2_5.out.lt
  exact bodyPost_ret (v := .tuple #[.slice A' n' c', .agg #[.int .i64 0, .int .i64 0, .slice none 0 0, .int .i64 0, .int .i64 0, .int .i64 0]]) (by simp [results, Try.results25, go_sem, *]) rfl ⟨A', n', c', none, 0, 0, rfl, HPz.out, Bytes.none_ _ _, HB_5.out⟩
set_option maxRecDepth 100000 in
set_option maxHeartbeats 2000000 in
theorem rstep_drop_some (A : Option Addr) (n c B : Nat) (l : List Pair) (xk : ByteArray) (xdata : List UInt8) (Ax : Option Addr) (nx cx Bx : Nat) (xlo xhi xn : Int) (w : World) (h : Pairs w B A n c l) (hB : B ≤ w.heap.size) (hs : Small l) (hx : Bytes w Bx Ax nx cx xdata) (hBx : Bx ≤ w.heap.size) (hxk : xk.size ≤ maxLen) (hi1 : In64 xlo) (hi2 : In64 xhi) (hi3 : In64 xn) (ckd : Int) (cda : List UInt8) (clo chi cva : Int) (hf : ModelP.find l xk = (some ⟨ckd, cda, clo, chi, cva⟩)) (hg : ModelP.good ⟨3, xk, xdata, xlo, xhi, xn⟩ = true) :
    Calls Try.prog 25 #[.slice A n c, .agg #[.int .i64 3, .string xk, .slice Ax nx cx, .int .i64 xlo, .int .i64 xhi, .int .i64 xn]] w (GivesSA w ((ModelP.put l xk none, ⟨0, CellP.none⟩))) := by
  have hlen := h.len
  have hn : n ≤ 1000 := by rw [← hlen]; exact hs.len
  have H := Lib.hid h
  have HD := Lib.hid hs.data
  have HX := Lib.hid hx
  have hlx := hx.len
  clear h hs hlen
  have HG : Hid (ModelP.good ⟨3, xk, xdata, xlo, xhi, xn⟩ = true) := Lib.hid hg
  clear hg hx
  go_enter Try.func25, Try.ntmps25
  go_wp2_with fail
  generalize hW0 : ((w).alloc (.cells #[.int .i64 3, .string xk, .slice Ax nx cx, .int .i64 xlo, .int .i64 xhi, .int .i64 xn] 24)).alloc (.cells #[.int .i64 0, .int .i64 0, .slice none 0 0, .int .i64 0, .int .i64 0, .int .i64 0] 39) = W0
  obtain ⟨HS0_0, HS1_0, HB_0, hw_0, hz0⟩ := new2 hW0
  clear hW0 hz0
  have f0_0 := str6 HS0_0.out
  have hl0_0 := HS0_0.out.lt
  have hf0_0 := fun j => HS0_0.out.frozen j
  have f1_0 := str6 HS1_0.out
  have hl1_0 := HS1_0.out.lt
  have hf1_0 := fun j => HS1_0.out.frozen j
  refine (good_any ⟨3, xk, xdata, xlo, xhi, xn⟩ Ax nx cx _ hxk hlx).mono ?_
  rintro e W1 ⟨rfl, hb1⟩
  rw [HG.out]
  have HS0_1 := Lib.hid (HS0_0.out.next hb1)
  have HS1_1 := Lib.hid (HS1_0.out.next hb1)
  have HB_1 := Lib.hid (bstep HB_0.out hb1)
  have hw_1 := HB_1.out.size
  have hws_1 := (hb1).size
  clear f0_0 HS0_0 hf0_0 f1_0 HS1_0 hf1_0
  clear hb1
  have f0_1 := str6 HS0_1.out
  have hl0_1 := HS0_1.out.lt
  have hf0_1 := fun j => HS0_1.out.frozen j
  have f1_1 := str6 HS1_1.out
  have hl1_1 := HS1_1.out.lt
  have hf1_1 := fun j => HS1_1.out.frozen j
  go_wp2_with fail
  have HF := Lib.hid hf
  clear hf
  refine (refFind_any A n c w.heap.size l xk _ ((H.out.more hB).below HB_1.out) HB_1.out.size (by omega) HD.out).mono ?_
  rintro e W2 ⟨Af, nf, cf, rfl, hyf, hb2⟩
  have HS0_2 := Lib.hid (HS0_1.out.next hb2)
  have HS1_2 := Lib.hid (HS1_1.out.next hb2)
  have HB_2 := Lib.hid (bstep HB_1.out hb2)
  have hw_2 := HB_2.out.size
  have hws_2 := (hb2).size
  clear f0_1 HS0_1 hf0_1 f1_1 HS1_1 hf1_1
  clear hb2
  have f0_2 := str6 HS0_2.out
  have hl0_2 := HS0_2.out.lt
  have hf0_2 := fun j => HS0_2.out.frozen j
  have f1_2 := str6 HS1_2.out
  have hl1_2 := HS1_2.out.lt
  have hf1_2 := fun j => HS1_2.out.frozen j
  rw [HF.out] at hyf
  dsimp only [Option.getD, CellP.none] at hyf
  have hnf := hyf.len
  have HYf_2 := Lib.hid (hyf)
  clear hyf
  rw [HF.out]
  dsimp only [Option.getD, Option.isSome]
  go_wp2_with fail
  generalize hW3 : W2.alloc (.cells #[.int .i64 ckd, .slice Af nf cf, .int .i64 clo, .int .i64 chi, .int .i64 cva] 37) = W3
  have HS0_3 := sEq hW3 (HS0_2.out.alloc _)
  have HS1_3 := sEq hW3 (HS1_2.out.alloc _)
  have HS2_3 := sEq hW3 (Str.new _ _ _)
  have hba3 : Below W2.heap.size W2 W3 := by rw [← hW3]; exact balloc (bsame _) _
  have HB_3 := Lib.hid (bstep HB_2.out hba3)
  have hw_3 := HB_3.out.size
  have hws_3 := hba3.size
  have HYf_3 := Lib.hid (HYf_2.out.next hba3)
  clear HYf_2
  clear hW3
  clear f0_2 HS0_2 hf0_2 f1_2 HS1_2 hf1_2
  have f0_3 := str6 HS0_3.out
  have hl0_3 := HS0_3.out.lt
  have hf0_3 := fun j => HS0_3.out.frozen j
  have f1_3 := str6 HS1_3.out
  have hl1_3 := HS1_3.out.lt
  have hf1_3 := fun j => HS1_3.out.frozen j
  have f2_3 := str5 HS2_3.out
  have hl2_3 := HS2_3.out.lt
  refine (putNone A n c w.heap.size l xk 0 [] 0 0 0 none 0 0 w.heap.size _ ((H.out.more hB).below HB_3.out) HB_3.out.size hn (Bytes.none_ W3 _) HB_3.out.size hxk ⟨by unfold In64; omega, by unfold In64; omega, by unfold In64; omega, by unfold In64; omega⟩ rfl).mono ?_
  rintro e W4 ⟨A', n', c', rfl, hp', hb4⟩
  have HS0_4 := Lib.hid (HS0_3.out.next hb4)
  have HS1_4 := Lib.hid (HS1_3.out.next hb4)
  have HS2_4 := Lib.hid (HS2_3.out.next hb4)
  have HB_4 := Lib.hid (bstep HB_3.out hb4)
  have hw_4 := HB_4.out.size
  have hws_4 := (hb4).size
  have HYf_4 := Lib.hid (HYf_3.out.next hb4)
  clear HYf_3
  clear f0_3 HS0_3 hf0_3 f1_3 HS1_3 hf1_3 f2_3 HS2_3
  clear hb4
  have f0_4 := str6 HS0_4.out
  have hl0_4 := HS0_4.out.lt
  have hf0_4 := fun j => HS0_4.out.frozen j
  have f1_4 := str6 HS1_4.out
  have hl1_4 := HS1_4.out.lt
  have hf1_4 := fun j => HS1_4.out.frozen j
  have f2_4 := str5 HS2_4.out
  have hl2_4 := HS2_4.out.lt
  have HPs_4 := Lib.hid hp'
  clear hp'
  go_wp2_with fail
  generalize hW5 : ((((((W4).setCell ⟨w.heap.size + 1, 0, none⟩ (.int .i64 0)).setCell ⟨w.heap.size + 1, 1, none⟩ (.int .i64 0)).setCell ⟨w.heap.size + 1, 2, none⟩ (.slice none 0 0)).setCell ⟨w.heap.size + 1, 3, none⟩ (.int .i64 0)).setCell ⟨w.heap.size + 1, 4, none⟩ (.int .i64 0)).setCell ⟨w.heap.size + 1, 5, none⟩ (.int .i64 0) = W5
  have HS1_5 : Hid (Str W5 (w.heap.size + 1) #[.int .i64 0, .int .i64 0, .slice none 0 0, .int .i64 0, .int .i64 0, .int .i64 0]) := Lib.hid (by rw [← hW5]; have := ((((((HS1_4.out).set 0 (.int .i64 0)).set 1 (.int .i64 0)).set 2 (.slice none 0 0)).set 3 (.int .i64 0)).set 4 (.int .i64 0)).set 5 (.int .i64 0); simpa using this)
  have hgr5 : W4.grownBy W5 (some (w.heap.size + 1)) := by rw [← hW5]; exact grown_set (grown_set (grown_set (grown_set (grown_set (grown_set (grown_refl W4 (w.heap.size + 1)) 0 (_)) 1 (_)) 2 (_)) 3 (_)) 4 (_)) 5 (_)
  have HS0_5 := Lib.hid (HS0_4.out.grown hgr5 (by omega))
  have HS2_5 := Lib.hid (HS2_4.out.grown hgr5 (by omega))
  have HB_5 := Lib.hid (below_grown HB_4.out hgr5 (by omega))
  have hw_5 := HB_5.out.size
  have hws_5 := hgr5.size
  have HYf_5 := Lib.hid ((Bytes.grown HYf_4.out (Nat.le_refl _) HS1_4.out rfl hgr5).more hws_5)
  clear HYf_4
  have HPz : Hid (Pairs W5 W5.heap.size A' n' c' _) := Lib.hid (Pairs.grown HPs_4.out HS1_4.out rfl rfl hgr5)
  clear hW5
  clear f0_4 HS0_4 hf0_4 f1_4 HS1_4 hf1_4 f2_4 HS2_4
  clear hgr5
  have f0_5 := str6 HS0_5.out
  have hl0_5 := HS0_5.out.lt
  have hf0_5 := fun j => HS0_5.out.frozen j
  have f1_5 := str6 HS1_5.out
  have hl1_5 := HS1_5.out.lt
  have hf1_5 := fun j => HS1_5.out.frozen j
  have f2_5 := str5 HS2_5.out
  have hl2_5 := HS2_5.out.lt
  exact bodyPost_ret (v := .tuple #[.slice A' n' c', .agg #[.int .i64 0, .int .i64 0, .slice none 0 0, .int .i64 0, .int .i64 0, .int .i64 0]]) (by simp [results, Try.results25, go_sem, *]) rfl ⟨A', n', c', none, 0, 0, rfl, HPz.out, Bytes.none_ _ _, HB_5.out⟩
set_option maxRecDepth 100000 in
set_option maxHeartbeats 2000000 in
theorem rstep_read_some (A : Option Addr) (n c B : Nat) (l : List Pair) (xk : ByteArray) (xdata : List UInt8) (Ax : Option Addr) (nx cx Bx : Nat) (xlo xhi xn : Int) (w : World) (h : Pairs w B A n c l) (hB : B ≤ w.heap.size) (hs : Small l) (hx : Bytes w Bx Ax nx cx xdata) (hBx : Bx ≤ w.heap.size) (hxk : xk.size ≤ maxLen) (hi1 : In64 xlo) (hi2 : In64 xhi) (hi3 : In64 xn) (ckd : Int) (cda : List UInt8) (clo chi cva : Int) (hf : ModelP.find l xk = (some ⟨ckd, cda, clo, chi, cva⟩)) (hg : ModelP.good ⟨0, xk, xdata, xlo, xhi, xn⟩ = true) :
    Calls Try.prog 25 #[.slice A n c, .agg #[.int .i64 0, .string xk, .slice Ax nx cx, .int .i64 xlo, .int .i64 xhi, .int .i64 xn]] w (GivesSA w ((l, ⟨0, ⟨ckd, cda, clo, chi, cva⟩⟩))) := by
  have hlen := h.len
  have hn : n ≤ 1000 := by rw [← hlen]; exact hs.len
  have H := Lib.hid h
  have HD := Lib.hid hs.data
  have HX := Lib.hid hx
  have hlx := hx.len
  clear h hs hlen
  have HG : Hid (ModelP.good ⟨0, xk, xdata, xlo, xhi, xn⟩ = true) := Lib.hid hg
  clear hg hx
  go_enter Try.func25, Try.ntmps25
  go_wp2_with fail
  generalize hW0 : ((w).alloc (.cells #[.int .i64 0, .string xk, .slice Ax nx cx, .int .i64 xlo, .int .i64 xhi, .int .i64 xn] 24)).alloc (.cells #[.int .i64 0, .int .i64 0, .slice none 0 0, .int .i64 0, .int .i64 0, .int .i64 0] 39) = W0
  obtain ⟨HS0_0, HS1_0, HB_0, hw_0, hz0⟩ := new2 hW0
  clear hW0 hz0
  have f0_0 := str6 HS0_0.out
  have hl0_0 := HS0_0.out.lt
  have hf0_0 := fun j => HS0_0.out.frozen j
  have f1_0 := str6 HS1_0.out
  have hl1_0 := HS1_0.out.lt
  have hf1_0 := fun j => HS1_0.out.frozen j
  refine (good_any ⟨0, xk, xdata, xlo, xhi, xn⟩ Ax nx cx _ hxk hlx).mono ?_
  rintro e W1 ⟨rfl, hb1⟩
  rw [HG.out]
  have HS0_1 := Lib.hid (HS0_0.out.next hb1)
  have HS1_1 := Lib.hid (HS1_0.out.next hb1)
  have HB_1 := Lib.hid (bstep HB_0.out hb1)
  have hw_1 := HB_1.out.size
  have hws_1 := (hb1).size
  clear f0_0 HS0_0 hf0_0 f1_0 HS1_0 hf1_0
  clear hb1
  have f0_1 := str6 HS0_1.out
  have hl0_1 := HS0_1.out.lt
  have hf0_1 := fun j => HS0_1.out.frozen j
  have f1_1 := str6 HS1_1.out
  have hl1_1 := HS1_1.out.lt
  have hf1_1 := fun j => HS1_1.out.frozen j
  go_wp2_with fail
  have HF := Lib.hid hf
  clear hf
  refine (refFind_any A n c w.heap.size l xk _ ((H.out.more hB).below HB_1.out) HB_1.out.size (by omega) HD.out).mono ?_
  rintro e W2 ⟨Af, nf, cf, rfl, hyf, hb2⟩
  have HS0_2 := Lib.hid (HS0_1.out.next hb2)
  have HS1_2 := Lib.hid (HS1_1.out.next hb2)
  have HB_2 := Lib.hid (bstep HB_1.out hb2)
  have hw_2 := HB_2.out.size
  have hws_2 := (hb2).size
  clear f0_1 HS0_1 hf0_1 f1_1 HS1_1 hf1_1
  clear hb2
  have f0_2 := str6 HS0_2.out
  have hl0_2 := HS0_2.out.lt
  have hf0_2 := fun j => HS0_2.out.frozen j
  have f1_2 := str6 HS1_2.out
  have hl1_2 := HS1_2.out.lt
  have hf1_2 := fun j => HS1_2.out.frozen j
  rw [HF.out] at hyf
  dsimp only [Option.getD, CellP.none] at hyf
  have hnf := hyf.len
  have HYf_2 := Lib.hid (hyf)
  clear hyf
  rw [HF.out]
  dsimp only [Option.getD, Option.isSome]
  go_wp2_with fail
  generalize hW3 : W2.alloc (.cells #[.int .i64 ckd, .slice Af nf cf, .int .i64 clo, .int .i64 chi, .int .i64 cva] 37) = W3
  have HS0_3 := sEq hW3 (HS0_2.out.alloc _)
  have HS1_3 := sEq hW3 (HS1_2.out.alloc _)
  have HS2_3 := sEq hW3 (Str.new _ _ _)
  have hba3 : Below W2.heap.size W2 W3 := by rw [← hW3]; exact balloc (bsame _) _
  have HB_3 := Lib.hid (bstep HB_2.out hba3)
  have hw_3 := HB_3.out.size
  have hws_3 := hba3.size
  have HYf_3 := Lib.hid (HYf_2.out.next hba3)
  clear HYf_2
  clear hW3
  clear f0_2 HS0_2 hf0_2 f1_2 HS1_2 hf1_2
  have f0_3 := str6 HS0_3.out
  have hl0_3 := HS0_3.out.lt
  have hf0_3 := fun j => HS0_3.out.frozen j
  have f1_3 := str6 HS1_3.out
  have hl1_3 := HS1_3.out.lt
  have hf1_3 := fun j => HS1_3.out.frozen j
  have f2_3 := str5 HS2_3.out
  have hl2_3 := HS2_3.out.lt
  refine Reg.wp_region_tail (R := ext) (W := W3) [Reg.eqv (.slice A n c), Reg.eqv (.agg #[.int .i64 ckd, .slice Af nf cf, .int .i64 clo, .int .i64 chi, .int .i64 cva]), Reg.eqv (.agg #[.int .i64 0, .int .i64 ckd, .slice Af nf cf, .int .i64 clo, .int .i64 chi, .int .i64 cva]), Reg.eqv (.slice A n c)] 92 4 _ [[(0, none)], [(6, none)], [(64, some 1)], [(63, some 0)]] rfl (by kernel_rfl) (by kernel_rfl) (by rfl) (by rfl) rfl (by kernel_rfl) ?_ [some 63, some 64, some 65, some 4] (by kernel_rfl) ?_
  · refine ⟨?_, ?_, ?_, ?_, trivial⟩
    · intro ax wx hx hs
      obtain ⟨e0, -⟩ := hs
      have g0 := Reg.ev (v := .slice A n c) e0
      exact Reg.obl_free rfl (Reg.wp_eqv (Option.some_ne_none _) (by go_simp) rfl)
    · intro ax wx hx hs
      obtain ⟨e6, -⟩ := hs
      have g6 := Reg.ev (v := .pointer (some ⟨W2.heap.size, 0, none⟩)) e6
      obtain ⟨l0, l1, l2, l3, l4⟩ := str5 (HS2_3.out.next hx)
      exact Reg.obl_free rfl (Reg.wp_eqv (Option.some_ne_none _) (by go_simp) rfl)
    · intro ax wx hx hs
      obtain ⟨e64, -⟩ := hs
      have g64 := Reg.ev (v := .agg #[.int .i64 ckd, .slice Af nf cf, .int .i64 clo, .int .i64 chi, .int .i64 cva]) e64
      exact Reg.obl_free rfl (Reg.wp_eqv (Option.some_ne_none _) (by go_simp) rfl)
    · intro ax wx hx hs
      obtain ⟨e63, -⟩ := hs
      have g63 := Reg.ev (v := .slice A n c) e63
      exact Reg.obl_free rfl (Reg.wp_eqv (Option.some_ne_none _) (by go_simp) rfl)
  · intro W4 hwf
    simp only [Reg.Fin]
    rintro _ rfl _ rfl _ rfl _ rfl
    have hwf' : Below W3.heap.size W3 W4 := hwf
    have HS0_4 := Lib.hid (HS0_3.out.next hwf')
    have HS1_4 := Lib.hid (HS1_3.out.next hwf')
    have HS2_4 := Lib.hid (HS2_3.out.next hwf')
    have HB_4 := Lib.hid (bstep HB_3.out hwf')
    have hw_4 := HB_4.out.size
    have hws_4 := (hwf').size
    have HYf_4 := Lib.hid (HYf_3.out.next hwf')
    clear HYf_3
    clear f0_3 HS0_3 hf0_3 f1_3 HS1_3 hf1_3 f2_3 HS2_3
    have f0_4 := str6 HS0_4.out
    have hl0_4 := HS0_4.out.lt
    have hf0_4 := fun j => HS0_4.out.frozen j
    have f1_4 := str6 HS1_4.out
    have hl1_4 := HS1_4.out.lt
    have hf1_4 := fun j => HS1_4.out.frozen j
    have f2_4 := str5 HS2_4.out
    have hl2_4 := HS2_4.out.lt
    clear hwf hwf'
    refine Reg.Goal.mk ?_
    go_simp
    go_wp2_with fail
    generalize hW5 : ((((((W4).setCell ⟨w.heap.size + 1, 0, none⟩ (.int .i64 0)).setCell ⟨w.heap.size + 1, 1, none⟩ (.int .i64 ckd)).setCell ⟨w.heap.size + 1, 2, none⟩ (.slice Af nf cf)).setCell ⟨w.heap.size + 1, 3, none⟩ (.int .i64 clo)).setCell ⟨w.heap.size + 1, 4, none⟩ (.int .i64 chi)).setCell ⟨w.heap.size + 1, 5, none⟩ (.int .i64 cva) = W5
    have HS1_5 : Hid (Str W5 (w.heap.size + 1) #[.int .i64 0, .int .i64 ckd, .slice Af nf cf, .int .i64 clo, .int .i64 chi, .int .i64 cva]) := Lib.hid (by rw [← hW5]; have := ((((((HS1_4.out).set 0 (.int .i64 0)).set 1 (.int .i64 ckd)).set 2 (.slice Af nf cf)).set 3 (.int .i64 clo)).set 4 (.int .i64 chi)).set 5 (.int .i64 cva); simpa using this)
    have hgr5 : W4.grownBy W5 (some (w.heap.size + 1)) := by rw [← hW5]; exact grown_set (grown_set (grown_set (grown_set (grown_set (grown_set (grown_refl W4 (w.heap.size + 1)) 0 (_)) 1 (_)) 2 (_)) 3 (_)) 4 (_)) 5 (_)
    have HS0_5 := Lib.hid (HS0_4.out.grown hgr5 (by omega))
    have HS2_5 := Lib.hid (HS2_4.out.grown hgr5 (by omega))
    have HB_5 := Lib.hid (below_grown HB_4.out hgr5 (by omega))
    have hw_5 := HB_5.out.size
    have hws_5 := hgr5.size
    have HYf_5 := Lib.hid ((Bytes.grown HYf_4.out (Nat.le_refl _) HS1_4.out rfl hgr5).more hws_5)
    clear HYf_4
    clear hW5
    clear f0_4 HS0_4 hf0_4 f1_4 HS1_4 hf1_4 f2_4 HS2_4
    clear hgr5
    have f0_5 := str6 HS0_5.out
    have hl0_5 := HS0_5.out.lt
    have hf0_5 := fun j => HS0_5.out.frozen j
    have f1_5 := str6 HS1_5.out
    have hl1_5 := HS1_5.out.lt
    have hf1_5 := fun j => HS1_5.out.frozen j
    have f2_5 := str5 HS2_5.out
    have hl2_5 := HS2_5.out.lt
    exact bodyPost_ret (v := .tuple #[.slice A n c, .agg #[.int .i64 0, .int .i64 ckd, .slice Af nf cf, .int .i64 clo, .int .i64 chi, .int .i64 cva]]) (by simp [results, Try.results25, go_sem, *]) rfl ⟨A, n, c, Af, nf, cf, rfl, ((H.out.below (HB_5.out.mono hB)).more (Nat.le_trans hB HB_5.out.size)), HYf_5.out, HB_5.out⟩
set_option maxRecDepth 100000 in
set_option maxHeartbeats 2000000 in
theorem rstep_move4_kind (A : Option Addr) (n c B : Nat) (l : List Pair) (xk : ByteArray) (xdata : List UInt8) (Ax : Option Addr) (nx cx Bx : Nat) (xlo xhi xn : Int) (w : World) (h : Pairs w B A n c l) (hB : B ≤ w.heap.size) (hs : Small l) (hx : Bytes w Bx Ax nx cx xdata) (hBx : Bx ≤ w.heap.size) (hxk : xk.size ≤ maxLen) (hi1 : In64 xlo) (hi2 : In64 xhi) (hi3 : In64 xn) (ckd : Int) (cda : List UInt8) (clo chi cva : Int) (hf : ModelP.find l xk = (some ⟨ckd, cda, clo, chi, cva⟩)) (hg : ModelP.good ⟨4, xk, xdata, xlo, xhi, xn⟩ = true) (hk : ¬ ckd = 2) :
    Calls Try.prog 25 #[.slice A n c, .agg #[.int .i64 4, .string xk, .slice Ax nx cx, .int .i64 xlo, .int .i64 xhi, .int .i64 xn]] w (GivesSA w ((l, ⟨6, CellP.none⟩))) := by
  have hlen := h.len
  have hn : n ≤ 1000 := by rw [← hlen]; exact hs.len
  have H := Lib.hid h
  have HD := Lib.hid hs.data
  have HX := Lib.hid hx
  have hlx := hx.len
  clear h hs hlen
  have HG : Hid (ModelP.good ⟨4, xk, xdata, xlo, xhi, xn⟩ = true) := Lib.hid hg
  clear hg hx
  go_enter Try.func25, Try.ntmps25
  go_wp2_with fail
  generalize hW0 : ((w).alloc (.cells #[.int .i64 4, .string xk, .slice Ax nx cx, .int .i64 xlo, .int .i64 xhi, .int .i64 xn] 24)).alloc (.cells #[.int .i64 0, .int .i64 0, .slice none 0 0, .int .i64 0, .int .i64 0, .int .i64 0] 39) = W0
  obtain ⟨HS0_0, HS1_0, HB_0, hw_0, hz0⟩ := new2 hW0
  clear hW0 hz0
  have f0_0 := str6 HS0_0.out
  have hl0_0 := HS0_0.out.lt
  have hf0_0 := fun j => HS0_0.out.frozen j
  have f1_0 := str6 HS1_0.out
  have hl1_0 := HS1_0.out.lt
  have hf1_0 := fun j => HS1_0.out.frozen j
  refine (good_any ⟨4, xk, xdata, xlo, xhi, xn⟩ Ax nx cx _ hxk hlx).mono ?_
  rintro e W1 ⟨rfl, hb1⟩
  rw [HG.out]
  have HS0_1 := Lib.hid (HS0_0.out.next hb1)
  have HS1_1 := Lib.hid (HS1_0.out.next hb1)
  have HB_1 := Lib.hid (bstep HB_0.out hb1)
  have hw_1 := HB_1.out.size
  have hws_1 := (hb1).size
  clear f0_0 HS0_0 hf0_0 f1_0 HS1_0 hf1_0
  clear hb1
  have f0_1 := str6 HS0_1.out
  have hl0_1 := HS0_1.out.lt
  have hf0_1 := fun j => HS0_1.out.frozen j
  have f1_1 := str6 HS1_1.out
  have hl1_1 := HS1_1.out.lt
  have hf1_1 := fun j => HS1_1.out.frozen j
  go_wp2_with fail
  have HF := Lib.hid hf
  clear hf
  refine (refFind_any A n c w.heap.size l xk _ ((H.out.more hB).below HB_1.out) HB_1.out.size (by omega) HD.out).mono ?_
  rintro e W2 ⟨Af, nf, cf, rfl, hyf, hb2⟩
  have HS0_2 := Lib.hid (HS0_1.out.next hb2)
  have HS1_2 := Lib.hid (HS1_1.out.next hb2)
  have HB_2 := Lib.hid (bstep HB_1.out hb2)
  have hw_2 := HB_2.out.size
  have hws_2 := (hb2).size
  clear f0_1 HS0_1 hf0_1 f1_1 HS1_1 hf1_1
  clear hb2
  have f0_2 := str6 HS0_2.out
  have hl0_2 := HS0_2.out.lt
  have hf0_2 := fun j => HS0_2.out.frozen j
  have f1_2 := str6 HS1_2.out
  have hl1_2 := HS1_2.out.lt
  have hf1_2 := fun j => HS1_2.out.frozen j
  rw [HF.out] at hyf
  dsimp only [Option.getD, CellP.none] at hyf
  have hnf := hyf.len
  have HYf_2 := Lib.hid (hyf)
  clear hyf
  rw [HF.out]
  dsimp only [Option.getD, Option.isSome]
  go_wp2_with fail
  generalize hW3 : W2.alloc (.cells #[.int .i64 ckd, .slice Af nf cf, .int .i64 clo, .int .i64 chi, .int .i64 cva] 37) = W3
  have HS0_3 := sEq hW3 (HS0_2.out.alloc _)
  have HS1_3 := sEq hW3 (HS1_2.out.alloc _)
  have HS2_3 := sEq hW3 (Str.new _ _ _)
  have hba3 : Below W2.heap.size W2 W3 := by rw [← hW3]; exact balloc (bsame _) _
  have HB_3 := Lib.hid (bstep HB_2.out hba3)
  have hw_3 := HB_3.out.size
  have hws_3 := hba3.size
  have HYf_3 := Lib.hid (HYf_2.out.next hba3)
  clear HYf_2
  clear hW3
  clear f0_2 HS0_2 hf0_2 f1_2 HS1_2 hf1_2
  have f0_3 := str6 HS0_3.out
  have hl0_3 := HS0_3.out.lt
  have hf0_3 := fun j => HS0_3.out.frozen j
  have f1_3 := str6 HS1_3.out
  have hl1_3 := HS1_3.out.lt
  have hf1_3 := fun j => HS1_3.out.frozen j
  have f2_3 := str5 HS2_3.out
  have hl2_3 := HS2_3.out.lt
  refine (rmove_kind 4 xk Ax nx cx xlo xhi xn ckd Af nf cf clo chi cva _ hk).mono ?_
  rintro e W4 ⟨rfl, hb4⟩
  have HS0_4 := Lib.hid (HS0_3.out.next hb4)
  have HS1_4 := Lib.hid (HS1_3.out.next hb4)
  have HS2_4 := Lib.hid (HS2_3.out.next hb4)
  have HB_4 := Lib.hid (bstep HB_3.out hb4)
  have hw_4 := HB_4.out.size
  have hws_4 := (hb4).size
  have HYf_4 := Lib.hid (HYf_3.out.next hb4)
  clear HYf_3
  clear f0_3 HS0_3 hf0_3 f1_3 HS1_3 hf1_3 f2_3 HS2_3
  clear hb4
  have f0_4 := str6 HS0_4.out
  have hl0_4 := HS0_4.out.lt
  have hf0_4 := fun j => HS0_4.out.frozen j
  have f1_4 := str6 HS1_4.out
  have hl1_4 := HS1_4.out.lt
  have hf1_4 := fun j => HS1_4.out.frozen j
  have f2_4 := str5 HS2_4.out
  have hl2_4 := HS2_4.out.lt
  go_wp2_with fail
  generalize hW5 : ((((((W4).setCell ⟨w.heap.size + 1, 0, none⟩ (.int .i64 6)).setCell ⟨w.heap.size + 1, 1, none⟩ (.int .i64 0)).setCell ⟨w.heap.size + 1, 2, none⟩ (.slice none 0 0)).setCell ⟨w.heap.size + 1, 3, none⟩ (.int .i64 0)).setCell ⟨w.heap.size + 1, 4, none⟩ (.int .i64 0)).setCell ⟨w.heap.size + 1, 5, none⟩ (.int .i64 0) = W5
  have HS1_5 : Hid (Str W5 (w.heap.size + 1) #[.int .i64 6, .int .i64 0, .slice none 0 0, .int .i64 0, .int .i64 0, .int .i64 0]) := Lib.hid (by rw [← hW5]; have := ((((((HS1_4.out).set 0 (.int .i64 6)).set 1 (.int .i64 0)).set 2 (.slice none 0 0)).set 3 (.int .i64 0)).set 4 (.int .i64 0)).set 5 (.int .i64 0); simpa using this)
  have hgr5 : W4.grownBy W5 (some (w.heap.size + 1)) := by rw [← hW5]; exact grown_set (grown_set (grown_set (grown_set (grown_set (grown_set (grown_refl W4 (w.heap.size + 1)) 0 (_)) 1 (_)) 2 (_)) 3 (_)) 4 (_)) 5 (_)
  have HS0_5 := Lib.hid (HS0_4.out.grown hgr5 (by omega))
  have HS2_5 := Lib.hid (HS2_4.out.grown hgr5 (by omega))
  have HB_5 := Lib.hid (below_grown HB_4.out hgr5 (by omega))
  have hw_5 := HB_5.out.size
  have hws_5 := hgr5.size
  have HYf_5 := Lib.hid ((Bytes.grown HYf_4.out (Nat.le_refl _) HS1_4.out rfl hgr5).more hws_5)
  clear HYf_4
  clear hW5
  clear f0_4 HS0_4 hf0_4 f1_4 HS1_4 hf1_4 f2_4 HS2_4
  clear hgr5
  have f0_5 := str6 HS0_5.out
  have hl0_5 := HS0_5.out.lt
  have hf0_5 := fun j => HS0_5.out.frozen j
  have f1_5 := str6 HS1_5.out
  have hl1_5 := HS1_5.out.lt
  have hf1_5 := fun j => HS1_5.out.frozen j
  have f2_5 := str5 HS2_5.out
  have hl2_5 := HS2_5.out.lt
  generalize hW6 : W5.alloc (.cells #[.int .i64 ckd, .slice Af nf cf, .int .i64 clo, .int .i64 chi, .int .i64 cva] 37) = W6
  have HS0_6 := sEq hW6 (HS0_5.out.alloc _)
  have HS1_6 := sEq hW6 (HS1_5.out.alloc _)
  have HS2_6 := sEq hW6 (HS2_5.out.alloc _)
  have HS3_6 := sEq hW6 (Str.new _ _ _)
  have hba6 : Below W5.heap.size W5 W6 := by rw [← hW6]; exact balloc (bsame _) _
  have HB_6 := Lib.hid (bstep HB_5.out hba6)
  have hw_6 := HB_6.out.size
  have hws_6 := hba6.size
  have HYf_6 := Lib.hid (HYf_5.out.next hba6)
  clear HYf_5
  clear hW6
  clear f0_5 HS0_5 hf0_5 f1_5 HS1_5 hf1_5 f2_5 HS2_5
  have f0_6 := str6 HS0_6.out
  have hl0_6 := HS0_6.out.lt
  have hf0_6 := fun j => HS0_6.out.frozen j
  have f1_6 := str6 HS1_6.out
  have hl1_6 := HS1_6.out.lt
  have hf1_6 := fun j => HS1_6.out.frozen j
  have f2_6 := str5 HS2_6.out
  have hl2_6 := HS2_6.out.lt
  have f3_6 := str5 HS3_6.out
  have hl3_6 := HS3_6.out.lt
  exact bodyPost_ret (v := .tuple #[.slice A n c, .agg #[.int .i64 6, .int .i64 0, .slice none 0 0, .int .i64 0, .int .i64 0, .int .i64 0]]) (by simp [results, Try.results25, go_sem, *]) rfl ⟨A, n, c, none, 0, 0, rfl, ((H.out.below (HB_6.out.mono hB)).more (Nat.le_trans hB HB_6.out.size)), Bytes.none_ _ _, HB_6.out⟩
set_option maxRecDepth 100000 in
set_option maxHeartbeats 2000000 in
theorem rstep_move4_low (A : Option Addr) (n c B : Nat) (l : List Pair) (xk : ByteArray) (xdata : List UInt8) (Ax : Option Addr) (nx cx Bx : Nat) (xlo xhi xn : Int) (w : World) (h : Pairs w B A n c l) (hB : B ≤ w.heap.size) (hs : Small l) (hx : Bytes w Bx Ax nx cx xdata) (hBx : Bx ≤ w.heap.size) (hxk : xk.size ≤ maxLen) (hi1 : In64 xlo) (hi2 : In64 xhi) (hi3 : In64 xn) (cda : List UInt8) (clo chi cva : Int) (hf : ModelP.find l xk = (some ⟨2, [], clo, chi, cva⟩)) (hg : ModelP.good ⟨4, xk, xdata, xlo, xhi, xn⟩ = true) (hic1 : In64 clo) (hic2 : In64 chi) (hic3 : In64 cva) (ho : (cva + xn) < clo) :
    Calls Try.prog 25 #[.slice A n c, .agg #[.int .i64 4, .string xk, .slice Ax nx cx, .int .i64 xlo, .int .i64 xhi, .int .i64 xn]] w (GivesSA w ((l, ⟨8, CellP.none⟩))) := by
  have hlen := h.len
  have hn : n ≤ 1000 := by rw [← hlen]; exact hs.len
  have H := Lib.hid h
  have HD := Lib.hid hs.data
  have HX := Lib.hid hx
  have hlx := hx.len
  clear h hs hlen
  have HG : Hid (ModelP.good ⟨4, xk, xdata, xlo, xhi, xn⟩ = true) := Lib.hid hg
  clear hg hx
  go_enter Try.func25, Try.ntmps25
  go_wp2_with fail
  generalize hW0 : ((w).alloc (.cells #[.int .i64 4, .string xk, .slice Ax nx cx, .int .i64 xlo, .int .i64 xhi, .int .i64 xn] 24)).alloc (.cells #[.int .i64 0, .int .i64 0, .slice none 0 0, .int .i64 0, .int .i64 0, .int .i64 0] 39) = W0
  obtain ⟨HS0_0, HS1_0, HB_0, hw_0, hz0⟩ := new2 hW0
  clear hW0 hz0
  have f0_0 := str6 HS0_0.out
  have hl0_0 := HS0_0.out.lt
  have hf0_0 := fun j => HS0_0.out.frozen j
  have f1_0 := str6 HS1_0.out
  have hl1_0 := HS1_0.out.lt
  have hf1_0 := fun j => HS1_0.out.frozen j
  refine (good_any ⟨4, xk, xdata, xlo, xhi, xn⟩ Ax nx cx _ hxk hlx).mono ?_
  rintro e W1 ⟨rfl, hb1⟩
  rw [HG.out]
  have HS0_1 := Lib.hid (HS0_0.out.next hb1)
  have HS1_1 := Lib.hid (HS1_0.out.next hb1)
  have HB_1 := Lib.hid (bstep HB_0.out hb1)
  have hw_1 := HB_1.out.size
  have hws_1 := (hb1).size
  clear f0_0 HS0_0 hf0_0 f1_0 HS1_0 hf1_0
  clear hb1
  have f0_1 := str6 HS0_1.out
  have hl0_1 := HS0_1.out.lt
  have hf0_1 := fun j => HS0_1.out.frozen j
  have f1_1 := str6 HS1_1.out
  have hl1_1 := HS1_1.out.lt
  have hf1_1 := fun j => HS1_1.out.frozen j
  go_wp2_with fail
  have HF := Lib.hid hf
  clear hf
  refine (refFind_any A n c w.heap.size l xk _ ((H.out.more hB).below HB_1.out) HB_1.out.size (by omega) HD.out).mono ?_
  rintro e W2 ⟨Af, nf, cf, rfl, hyf, hb2⟩
  have HS0_2 := Lib.hid (HS0_1.out.next hb2)
  have HS1_2 := Lib.hid (HS1_1.out.next hb2)
  have HB_2 := Lib.hid (bstep HB_1.out hb2)
  have hw_2 := HB_2.out.size
  have hws_2 := (hb2).size
  clear f0_1 HS0_1 hf0_1 f1_1 HS1_1 hf1_1
  clear hb2
  have f0_2 := str6 HS0_2.out
  have hl0_2 := HS0_2.out.lt
  have hf0_2 := fun j => HS0_2.out.frozen j
  have f1_2 := str6 HS1_2.out
  have hl1_2 := HS1_2.out.lt
  have hf1_2 := fun j => HS1_2.out.frozen j
  rw [HF.out] at hyf
  dsimp only [Option.getD, CellP.none] at hyf
  have hnf := hyf.len
  have HYf_2 := Lib.hid (hyf)
  clear hyf
  rw [HF.out]
  dsimp only [Option.getD, Option.isSome]
  go_wp2_with fail
  generalize hW3 : W2.alloc (.cells #[.int .i64 2, .slice Af nf cf, .int .i64 clo, .int .i64 chi, .int .i64 cva] 37) = W3
  have HS0_3 := sEq hW3 (HS0_2.out.alloc _)
  have HS1_3 := sEq hW3 (HS1_2.out.alloc _)
  have HS2_3 := sEq hW3 (Str.new _ _ _)
  have hba3 : Below W2.heap.size W2 W3 := by rw [← hW3]; exact balloc (bsame _) _
  have HB_3 := Lib.hid (bstep HB_2.out hba3)
  have hw_3 := HB_3.out.size
  have hws_3 := hba3.size
  have HYf_3 := Lib.hid (HYf_2.out.next hba3)
  clear HYf_2
  clear hW3
  clear f0_2 HS0_2 hf0_2 f1_2 HS1_2 hf1_2
  have f0_3 := str6 HS0_3.out
  have hl0_3 := HS0_3.out.lt
  have hf0_3 := fun j => HS0_3.out.frozen j
  have f1_3 := str6 HS1_3.out
  have hl1_3 := HS1_3.out.lt
  have hf1_3 := fun j => HS1_3.out.frozen j
  have f2_3 := str5 HS2_3.out
  have hl2_3 := HS2_3.out.lt
  refine (rmove4_low xk Ax nx cx xlo xhi xn Af nf cf clo chi cva _ hic1 hic2 hic3 hi3 (by omega)).mono ?_
  rintro e W4 ⟨rfl, hb4⟩
  have HS0_4 := Lib.hid (HS0_3.out.next hb4)
  have HS1_4 := Lib.hid (HS1_3.out.next hb4)
  have HS2_4 := Lib.hid (HS2_3.out.next hb4)
  have HB_4 := Lib.hid (bstep HB_3.out hb4)
  have hw_4 := HB_4.out.size
  have hws_4 := (hb4).size
  have HYf_4 := Lib.hid (HYf_3.out.next hb4)
  clear HYf_3
  clear f0_3 HS0_3 hf0_3 f1_3 HS1_3 hf1_3 f2_3 HS2_3
  clear hb4
  have f0_4 := str6 HS0_4.out
  have hl0_4 := HS0_4.out.lt
  have hf0_4 := fun j => HS0_4.out.frozen j
  have f1_4 := str6 HS1_4.out
  have hl1_4 := HS1_4.out.lt
  have hf1_4 := fun j => HS1_4.out.frozen j
  have f2_4 := str5 HS2_4.out
  have hl2_4 := HS2_4.out.lt
  go_wp2_with fail
  generalize hW5 : ((((((W4).setCell ⟨w.heap.size + 1, 0, none⟩ (.int .i64 8)).setCell ⟨w.heap.size + 1, 1, none⟩ (.int .i64 0)).setCell ⟨w.heap.size + 1, 2, none⟩ (.slice none 0 0)).setCell ⟨w.heap.size + 1, 3, none⟩ (.int .i64 0)).setCell ⟨w.heap.size + 1, 4, none⟩ (.int .i64 0)).setCell ⟨w.heap.size + 1, 5, none⟩ (.int .i64 0) = W5
  have HS1_5 : Hid (Str W5 (w.heap.size + 1) #[.int .i64 8, .int .i64 0, .slice none 0 0, .int .i64 0, .int .i64 0, .int .i64 0]) := Lib.hid (by rw [← hW5]; have := ((((((HS1_4.out).set 0 (.int .i64 8)).set 1 (.int .i64 0)).set 2 (.slice none 0 0)).set 3 (.int .i64 0)).set 4 (.int .i64 0)).set 5 (.int .i64 0); simpa using this)
  have hgr5 : W4.grownBy W5 (some (w.heap.size + 1)) := by rw [← hW5]; exact grown_set (grown_set (grown_set (grown_set (grown_set (grown_set (grown_refl W4 (w.heap.size + 1)) 0 (_)) 1 (_)) 2 (_)) 3 (_)) 4 (_)) 5 (_)
  have HS0_5 := Lib.hid (HS0_4.out.grown hgr5 (by omega))
  have HS2_5 := Lib.hid (HS2_4.out.grown hgr5 (by omega))
  have HB_5 := Lib.hid (below_grown HB_4.out hgr5 (by omega))
  have hw_5 := HB_5.out.size
  have hws_5 := hgr5.size
  have HYf_5 := Lib.hid ((Bytes.grown HYf_4.out (Nat.le_refl _) HS1_4.out rfl hgr5).more hws_5)
  clear HYf_4
  clear hW5
  clear f0_4 HS0_4 hf0_4 f1_4 HS1_4 hf1_4 f2_4 HS2_4
  clear hgr5
  have f0_5 := str6 HS0_5.out
  have hl0_5 := HS0_5.out.lt
  have hf0_5 := fun j => HS0_5.out.frozen j
  have f1_5 := str6 HS1_5.out
  have hl1_5 := HS1_5.out.lt
  have hf1_5 := fun j => HS1_5.out.frozen j
  have f2_5 := str5 HS2_5.out
  have hl2_5 := HS2_5.out.lt
  generalize hW6 : W5.alloc (.cells #[.int .i64 2, .slice Af nf cf, .int .i64 clo, .int .i64 chi, .int .i64 cva] 37) = W6
  have HS0_6 := sEq hW6 (HS0_5.out.alloc _)
  have HS1_6 := sEq hW6 (HS1_5.out.alloc _)
  have HS2_6 := sEq hW6 (HS2_5.out.alloc _)
  have HS3_6 := sEq hW6 (Str.new _ _ _)
  have hba6 : Below W5.heap.size W5 W6 := by rw [← hW6]; exact balloc (bsame _) _
  have HB_6 := Lib.hid (bstep HB_5.out hba6)
  have hw_6 := HB_6.out.size
  have hws_6 := hba6.size
  have HYf_6 := Lib.hid (HYf_5.out.next hba6)
  clear HYf_5
  clear hW6
  clear f0_5 HS0_5 hf0_5 f1_5 HS1_5 hf1_5 f2_5 HS2_5
  have f0_6 := str6 HS0_6.out
  have hl0_6 := HS0_6.out.lt
  have hf0_6 := fun j => HS0_6.out.frozen j
  have f1_6 := str6 HS1_6.out
  have hl1_6 := HS1_6.out.lt
  have hf1_6 := fun j => HS1_6.out.frozen j
  have f2_6 := str5 HS2_6.out
  have hl2_6 := HS2_6.out.lt
  have f3_6 := str5 HS3_6.out
  have hl3_6 := HS3_6.out.lt
  exact bodyPost_ret (v := .tuple #[.slice A n c, .agg #[.int .i64 8, .int .i64 0, .slice none 0 0, .int .i64 0, .int .i64 0, .int .i64 0]]) (by simp [results, Try.results25, go_sem, *]) rfl ⟨A, n, c, none, 0, 0, rfl, ((H.out.below (HB_6.out.mono hB)).more (Nat.le_trans hB HB_6.out.size)), Bytes.none_ _ _, HB_6.out⟩
set_option maxRecDepth 100000 in
set_option maxHeartbeats 2000000 in
theorem rstep_move4_high (A : Option Addr) (n c B : Nat) (l : List Pair) (xk : ByteArray) (xdata : List UInt8) (Ax : Option Addr) (nx cx Bx : Nat) (xlo xhi xn : Int) (w : World) (h : Pairs w B A n c l) (hB : B ≤ w.heap.size) (hs : Small l) (hx : Bytes w Bx Ax nx cx xdata) (hBx : Bx ≤ w.heap.size) (hxk : xk.size ≤ maxLen) (hi1 : In64 xlo) (hi2 : In64 xhi) (hi3 : In64 xn) (cda : List UInt8) (clo chi cva : Int) (hf : ModelP.find l xk = (some ⟨2, [], clo, chi, cva⟩)) (hg : ModelP.good ⟨4, xk, xdata, xlo, xhi, xn⟩ = true) (hic1 : In64 clo) (hic2 : In64 chi) (hic3 : In64 cva) (hl : ¬ (cva + xn) < clo) (ho : chi < (cva + xn)) :
    Calls Try.prog 25 #[.slice A n c, .agg #[.int .i64 4, .string xk, .slice Ax nx cx, .int .i64 xlo, .int .i64 xhi, .int .i64 xn]] w (GivesSA w ((l, ⟨8, CellP.none⟩))) := by
  have hlen := h.len
  have hn : n ≤ 1000 := by rw [← hlen]; exact hs.len
  have H := Lib.hid h
  have HD := Lib.hid hs.data
  have HX := Lib.hid hx
  have hlx := hx.len
  clear h hs hlen
  have HG : Hid (ModelP.good ⟨4, xk, xdata, xlo, xhi, xn⟩ = true) := Lib.hid hg
  clear hg hx
  go_enter Try.func25, Try.ntmps25
  go_wp2_with fail
  generalize hW0 : ((w).alloc (.cells #[.int .i64 4, .string xk, .slice Ax nx cx, .int .i64 xlo, .int .i64 xhi, .int .i64 xn] 24)).alloc (.cells #[.int .i64 0, .int .i64 0, .slice none 0 0, .int .i64 0, .int .i64 0, .int .i64 0] 39) = W0
  obtain ⟨HS0_0, HS1_0, HB_0, hw_0, hz0⟩ := new2 hW0
  clear hW0 hz0
  have f0_0 := str6 HS0_0.out
  have hl0_0 := HS0_0.out.lt
  have hf0_0 := fun j => HS0_0.out.frozen j
  have f1_0 := str6 HS1_0.out
  have hl1_0 := HS1_0.out.lt
  have hf1_0 := fun j => HS1_0.out.frozen j
  refine (good_any ⟨4, xk, xdata, xlo, xhi, xn⟩ Ax nx cx _ hxk hlx).mono ?_
  rintro e W1 ⟨rfl, hb1⟩
  rw [HG.out]
  have HS0_1 := Lib.hid (HS0_0.out.next hb1)
  have HS1_1 := Lib.hid (HS1_0.out.next hb1)
  have HB_1 := Lib.hid (bstep HB_0.out hb1)
  have hw_1 := HB_1.out.size
  have hws_1 := (hb1).size
  clear f0_0 HS0_0 hf0_0 f1_0 HS1_0 hf1_0
  clear hb1
  have f0_1 := str6 HS0_1.out
  have hl0_1 := HS0_1.out.lt
  have hf0_1 := fun j => HS0_1.out.frozen j
  have f1_1 := str6 HS1_1.out
  have hl1_1 := HS1_1.out.lt
  have hf1_1 := fun j => HS1_1.out.frozen j
  go_wp2_with fail
  have HF := Lib.hid hf
  clear hf
  refine (refFind_any A n c w.heap.size l xk _ ((H.out.more hB).below HB_1.out) HB_1.out.size (by omega) HD.out).mono ?_
  rintro e W2 ⟨Af, nf, cf, rfl, hyf, hb2⟩
  have HS0_2 := Lib.hid (HS0_1.out.next hb2)
  have HS1_2 := Lib.hid (HS1_1.out.next hb2)
  have HB_2 := Lib.hid (bstep HB_1.out hb2)
  have hw_2 := HB_2.out.size
  have hws_2 := (hb2).size
  clear f0_1 HS0_1 hf0_1 f1_1 HS1_1 hf1_1
  clear hb2
  have f0_2 := str6 HS0_2.out
  have hl0_2 := HS0_2.out.lt
  have hf0_2 := fun j => HS0_2.out.frozen j
  have f1_2 := str6 HS1_2.out
  have hl1_2 := HS1_2.out.lt
  have hf1_2 := fun j => HS1_2.out.frozen j
  rw [HF.out] at hyf
  dsimp only [Option.getD, CellP.none] at hyf
  have hnf := hyf.len
  have HYf_2 := Lib.hid (hyf)
  clear hyf
  rw [HF.out]
  dsimp only [Option.getD, Option.isSome]
  go_wp2_with fail
  generalize hW3 : W2.alloc (.cells #[.int .i64 2, .slice Af nf cf, .int .i64 clo, .int .i64 chi, .int .i64 cva] 37) = W3
  have HS0_3 := sEq hW3 (HS0_2.out.alloc _)
  have HS1_3 := sEq hW3 (HS1_2.out.alloc _)
  have HS2_3 := sEq hW3 (Str.new _ _ _)
  have hba3 : Below W2.heap.size W2 W3 := by rw [← hW3]; exact balloc (bsame _) _
  have HB_3 := Lib.hid (bstep HB_2.out hba3)
  have hw_3 := HB_3.out.size
  have hws_3 := hba3.size
  have HYf_3 := Lib.hid (HYf_2.out.next hba3)
  clear HYf_2
  clear hW3
  clear f0_2 HS0_2 hf0_2 f1_2 HS1_2 hf1_2
  have f0_3 := str6 HS0_3.out
  have hl0_3 := HS0_3.out.lt
  have hf0_3 := fun j => HS0_3.out.frozen j
  have f1_3 := str6 HS1_3.out
  have hl1_3 := HS1_3.out.lt
  have hf1_3 := fun j => HS1_3.out.frozen j
  have f2_3 := str5 HS2_3.out
  have hl2_3 := HS2_3.out.lt
  refine (rmove4_high xk Ax nx cx xlo xhi xn Af nf cf clo chi cva _ hic1 hic2 hic3 hi3 (by omega) (by omega)).mono ?_
  rintro e W4 ⟨rfl, hb4⟩
  have HS0_4 := Lib.hid (HS0_3.out.next hb4)
  have HS1_4 := Lib.hid (HS1_3.out.next hb4)
  have HS2_4 := Lib.hid (HS2_3.out.next hb4)
  have HB_4 := Lib.hid (bstep HB_3.out hb4)
  have hw_4 := HB_4.out.size
  have hws_4 := (hb4).size
  have HYf_4 := Lib.hid (HYf_3.out.next hb4)
  clear HYf_3
  clear f0_3 HS0_3 hf0_3 f1_3 HS1_3 hf1_3 f2_3 HS2_3
  clear hb4
  have f0_4 := str6 HS0_4.out
  have hl0_4 := HS0_4.out.lt
  have hf0_4 := fun j => HS0_4.out.frozen j
  have f1_4 := str6 HS1_4.out
  have hl1_4 := HS1_4.out.lt
  have hf1_4 := fun j => HS1_4.out.frozen j
  have f2_4 := str5 HS2_4.out
  have hl2_4 := HS2_4.out.lt
  go_wp2_with fail
  generalize hW5 : ((((((W4).setCell ⟨w.heap.size + 1, 0, none⟩ (.int .i64 8)).setCell ⟨w.heap.size + 1, 1, none⟩ (.int .i64 0)).setCell ⟨w.heap.size + 1, 2, none⟩ (.slice none 0 0)).setCell ⟨w.heap.size + 1, 3, none⟩ (.int .i64 0)).setCell ⟨w.heap.size + 1, 4, none⟩ (.int .i64 0)).setCell ⟨w.heap.size + 1, 5, none⟩ (.int .i64 0) = W5
  have HS1_5 : Hid (Str W5 (w.heap.size + 1) #[.int .i64 8, .int .i64 0, .slice none 0 0, .int .i64 0, .int .i64 0, .int .i64 0]) := Lib.hid (by rw [← hW5]; have := ((((((HS1_4.out).set 0 (.int .i64 8)).set 1 (.int .i64 0)).set 2 (.slice none 0 0)).set 3 (.int .i64 0)).set 4 (.int .i64 0)).set 5 (.int .i64 0); simpa using this)
  have hgr5 : W4.grownBy W5 (some (w.heap.size + 1)) := by rw [← hW5]; exact grown_set (grown_set (grown_set (grown_set (grown_set (grown_set (grown_refl W4 (w.heap.size + 1)) 0 (_)) 1 (_)) 2 (_)) 3 (_)) 4 (_)) 5 (_)
  have HS0_5 := Lib.hid (HS0_4.out.grown hgr5 (by omega))
  have HS2_5 := Lib.hid (HS2_4.out.grown hgr5 (by omega))
  have HB_5 := Lib.hid (below_grown HB_4.out hgr5 (by omega))
  have hw_5 := HB_5.out.size
  have hws_5 := hgr5.size
  have HYf_5 := Lib.hid ((Bytes.grown HYf_4.out (Nat.le_refl _) HS1_4.out rfl hgr5).more hws_5)
  clear HYf_4
  clear hW5
  clear f0_4 HS0_4 hf0_4 f1_4 HS1_4 hf1_4 f2_4 HS2_4
  clear hgr5
  have f0_5 := str6 HS0_5.out
  have hl0_5 := HS0_5.out.lt
  have hf0_5 := fun j => HS0_5.out.frozen j
  have f1_5 := str6 HS1_5.out
  have hl1_5 := HS1_5.out.lt
  have hf1_5 := fun j => HS1_5.out.frozen j
  have f2_5 := str5 HS2_5.out
  have hl2_5 := HS2_5.out.lt
  generalize hW6 : W5.alloc (.cells #[.int .i64 2, .slice Af nf cf, .int .i64 clo, .int .i64 chi, .int .i64 cva] 37) = W6
  have HS0_6 := sEq hW6 (HS0_5.out.alloc _)
  have HS1_6 := sEq hW6 (HS1_5.out.alloc _)
  have HS2_6 := sEq hW6 (HS2_5.out.alloc _)
  have HS3_6 := sEq hW6 (Str.new _ _ _)
  have hba6 : Below W5.heap.size W5 W6 := by rw [← hW6]; exact balloc (bsame _) _
  have HB_6 := Lib.hid (bstep HB_5.out hba6)
  have hw_6 := HB_6.out.size
  have hws_6 := hba6.size
  have HYf_6 := Lib.hid (HYf_5.out.next hba6)
  clear HYf_5
  clear hW6
  clear f0_5 HS0_5 hf0_5 f1_5 HS1_5 hf1_5 f2_5 HS2_5
  have f0_6 := str6 HS0_6.out
  have hl0_6 := HS0_6.out.lt
  have hf0_6 := fun j => HS0_6.out.frozen j
  have f1_6 := str6 HS1_6.out
  have hl1_6 := HS1_6.out.lt
  have hf1_6 := fun j => HS1_6.out.frozen j
  have f2_6 := str5 HS2_6.out
  have hl2_6 := HS2_6.out.lt
  have f3_6 := str5 HS3_6.out
  have hl3_6 := HS3_6.out.lt
  exact bodyPost_ret (v := .tuple #[.slice A n c, .agg #[.int .i64 8, .int .i64 0, .slice none 0 0, .int .i64 0, .int .i64 0, .int .i64 0]]) (by simp [results, Try.results25, go_sem, *]) rfl ⟨A, n, c, none, 0, 0, rfl, ((H.out.below (HB_6.out.mono hB)).more (Nat.le_trans hB HB_6.out.size)), Bytes.none_ _ _, HB_6.out⟩
set_option maxRecDepth 100000 in
set_option maxHeartbeats 2000000 in
theorem rstep_move4_ok (A : Option Addr) (n c B : Nat) (l : List Pair) (xk : ByteArray) (xdata : List UInt8) (Ax : Option Addr) (nx cx Bx : Nat) (xlo xhi xn : Int) (w : World) (h : Pairs w B A n c l) (hB : B ≤ w.heap.size) (hs : Small l) (hx : Bytes w Bx Ax nx cx xdata) (hBx : Bx ≤ w.heap.size) (hxk : xk.size ≤ maxLen) (hi1 : In64 xlo) (hi2 : In64 xhi) (hi3 : In64 xn) (cda : List UInt8) (clo chi cva : Int) (hf : ModelP.find l xk = (some ⟨2, [], clo, chi, cva⟩)) (hg : ModelP.good ⟨4, xk, xdata, xlo, xhi, xn⟩ = true) (hic1 : In64 clo) (hic2 : In64 chi) (hic3 : In64 cva) (hl : ¬ (cva + xn) < clo) (ho : ¬ chi < (cva + xn)) :
    Calls Try.prog 25 #[.slice A n c, .agg #[.int .i64 4, .string xk, .slice Ax nx cx, .int .i64 xlo, .int .i64 xhi, .int .i64 xn]] w (GivesSA w ((ModelP.put l xk (some ⟨2, [], clo, chi, (cva + xn)⟩), ⟨0, CellP.none⟩))) := by
  have hlen := h.len
  have hn : n ≤ 1000 := by rw [← hlen]; exact hs.len
  have H := Lib.hid h
  have HD := Lib.hid hs.data
  have HX := Lib.hid hx
  have hlx := hx.len
  clear h hs hlen
  have HG : Hid (ModelP.good ⟨4, xk, xdata, xlo, xhi, xn⟩ = true) := Lib.hid hg
  clear hg hx
  go_enter Try.func25, Try.ntmps25
  go_wp2_with fail
  generalize hW0 : ((w).alloc (.cells #[.int .i64 4, .string xk, .slice Ax nx cx, .int .i64 xlo, .int .i64 xhi, .int .i64 xn] 24)).alloc (.cells #[.int .i64 0, .int .i64 0, .slice none 0 0, .int .i64 0, .int .i64 0, .int .i64 0] 39) = W0
  obtain ⟨HS0_0, HS1_0, HB_0, hw_0, hz0⟩ := new2 hW0
  clear hW0 hz0
  have f0_0 := str6 HS0_0.out
  have hl0_0 := HS0_0.out.lt
  have hf0_0 := fun j => HS0_0.out.frozen j
  have f1_0 := str6 HS1_0.out
  have hl1_0 := HS1_0.out.lt
  have hf1_0 := fun j => HS1_0.out.frozen j
  refine (good_any ⟨4, xk, xdata, xlo, xhi, xn⟩ Ax nx cx _ hxk hlx).mono ?_
  rintro e W1 ⟨rfl, hb1⟩
  rw [HG.out]
  have HS0_1 := Lib.hid (HS0_0.out.next hb1)
  have HS1_1 := Lib.hid (HS1_0.out.next hb1)
  have HB_1 := Lib.hid (bstep HB_0.out hb1)
  have hw_1 := HB_1.out.size
  have hws_1 := (hb1).size
  clear f0_0 HS0_0 hf0_0 f1_0 HS1_0 hf1_0
  clear hb1
  have f0_1 := str6 HS0_1.out
  have hl0_1 := HS0_1.out.lt
  have hf0_1 := fun j => HS0_1.out.frozen j
  have f1_1 := str6 HS1_1.out
  have hl1_1 := HS1_1.out.lt
  have hf1_1 := fun j => HS1_1.out.frozen j
  go_wp2_with fail
  have HF := Lib.hid hf
  clear hf
  refine (refFind_any A n c w.heap.size l xk _ ((H.out.more hB).below HB_1.out) HB_1.out.size (by omega) HD.out).mono ?_
  rintro e W2 ⟨Af, nf, cf, rfl, hyf, hb2⟩
  have HS0_2 := Lib.hid (HS0_1.out.next hb2)
  have HS1_2 := Lib.hid (HS1_1.out.next hb2)
  have HB_2 := Lib.hid (bstep HB_1.out hb2)
  have hw_2 := HB_2.out.size
  have hws_2 := (hb2).size
  clear f0_1 HS0_1 hf0_1 f1_1 HS1_1 hf1_1
  clear hb2
  have f0_2 := str6 HS0_2.out
  have hl0_2 := HS0_2.out.lt
  have hf0_2 := fun j => HS0_2.out.frozen j
  have f1_2 := str6 HS1_2.out
  have hl1_2 := HS1_2.out.lt
  have hf1_2 := fun j => HS1_2.out.frozen j
  rw [HF.out] at hyf
  dsimp only [Option.getD, CellP.none] at hyf
  have hnf := hyf.len
  have HYf_2 := Lib.hid (hyf)
  clear hyf
  rw [HF.out]
  dsimp only [Option.getD, Option.isSome]
  go_wp2_with fail
  generalize hW3 : W2.alloc (.cells #[.int .i64 2, .slice Af nf cf, .int .i64 clo, .int .i64 chi, .int .i64 cva] 37) = W3
  have HS0_3 := sEq hW3 (HS0_2.out.alloc _)
  have HS1_3 := sEq hW3 (HS1_2.out.alloc _)
  have HS2_3 := sEq hW3 (Str.new _ _ _)
  have hba3 : Below W2.heap.size W2 W3 := by rw [← hW3]; exact balloc (bsame _) _
  have HB_3 := Lib.hid (bstep HB_2.out hba3)
  have hw_3 := HB_3.out.size
  have hws_3 := hba3.size
  have HYf_3 := Lib.hid (HYf_2.out.next hba3)
  clear HYf_2
  clear hW3
  clear f0_2 HS0_2 hf0_2 f1_2 HS1_2 hf1_2
  have f0_3 := str6 HS0_3.out
  have hl0_3 := HS0_3.out.lt
  have hf0_3 := fun j => HS0_3.out.frozen j
  have f1_3 := str6 HS1_3.out
  have hl1_3 := HS1_3.out.lt
  have hf1_3 := fun j => HS1_3.out.frozen j
  have f2_3 := str5 HS2_3.out
  have hl2_3 := HS2_3.out.lt
  refine (rmove4_ok xk Ax nx cx xlo xhi xn Af nf cf clo chi cva _ hic1 hic2 hic3 hi3 (by omega) (by omega)).mono ?_
  rintro e W4 ⟨rfl, hb4⟩
  have HS0_4 := Lib.hid (HS0_3.out.next hb4)
  have HS1_4 := Lib.hid (HS1_3.out.next hb4)
  have HS2_4 := Lib.hid (HS2_3.out.next hb4)
  have HB_4 := Lib.hid (bstep HB_3.out hb4)
  have hw_4 := HB_4.out.size
  have hws_4 := (hb4).size
  have HYf_4 := Lib.hid (HYf_3.out.next hb4)
  clear HYf_3
  clear f0_3 HS0_3 hf0_3 f1_3 HS1_3 hf1_3 f2_3 HS2_3
  clear hb4
  have f0_4 := str6 HS0_4.out
  have hl0_4 := HS0_4.out.lt
  have hf0_4 := fun j => HS0_4.out.frozen j
  have f1_4 := str6 HS1_4.out
  have hl1_4 := HS1_4.out.lt
  have hf1_4 := fun j => HS1_4.out.frozen j
  have f2_4 := str5 HS2_4.out
  have hl2_4 := HS2_4.out.lt
  go_wp2_with fail
  generalize hW5 : W4.alloc (.cells #[.int .i64 2, .slice Af nf cf, .int .i64 clo, .int .i64 chi, .int .i64 (cva + xn)] 37) = W5
  have HS0_5 := sEq hW5 (HS0_4.out.alloc _)
  have HS1_5 := sEq hW5 (HS1_4.out.alloc _)
  have HS2_5 := sEq hW5 (HS2_4.out.alloc _)
  have HS3_5 := sEq hW5 (Str.new _ _ _)
  have hba5 : Below W4.heap.size W4 W5 := by rw [← hW5]; exact balloc (bsame _) _
  have HB_5 := Lib.hid (bstep HB_4.out hba5)
  have hw_5 := HB_5.out.size
  have hws_5 := hba5.size
  have HYf_5 := Lib.hid (HYf_4.out.next hba5)
  clear HYf_4
  clear hW5
  clear f0_4 HS0_4 hf0_4 f1_4 HS1_4 hf1_4 f2_4 HS2_4
  have f0_5 := str6 HS0_5.out
  have hl0_5 := HS0_5.out.lt
  have hf0_5 := fun j => HS0_5.out.frozen j
  have f1_5 := str6 HS1_5.out
  have hl1_5 := HS1_5.out.lt
  have hf1_5 := fun j => HS1_5.out.frozen j
  have f2_5 := str5 HS2_5.out
  have hl2_5 := HS2_5.out.lt
  have f3_5 := str5 HS3_5.out
  have hl3_5 := HS3_5.out.lt
  refine (putSome A n c w.heap.size l xk 2 [] clo chi (cva + xn) Af nf cf W5.heap.size _ ((H.out.more hB).below HB_5.out) HB_5.out.size hn HYf_5.out (Nat.le_refl _) hxk ⟨by unfold In64; omega, hic1, hic2, by unfold In64 at *; omega⟩ (by decide)).mono ?_
  rintro e W6 ⟨A', n', c', rfl, hp', hb6⟩
  have HS0_6 := Lib.hid (HS0_5.out.next hb6)
  have HS1_6 := Lib.hid (HS1_5.out.next hb6)
  have HS2_6 := Lib.hid (HS2_5.out.next hb6)
  have HS3_6 := Lib.hid (HS3_5.out.next hb6)
  have HB_6 := Lib.hid (bstep HB_5.out hb6)
  have hw_6 := HB_6.out.size
  have hws_6 := (hb6).size
  have HYf_6 := Lib.hid (HYf_5.out.next hb6)
  clear HYf_5
  clear f0_5 HS0_5 hf0_5 f1_5 HS1_5 hf1_5 f2_5 HS2_5 f3_5 HS3_5
  clear hb6
  have f0_6 := str6 HS0_6.out
  have hl0_6 := HS0_6.out.lt
  have hf0_6 := fun j => HS0_6.out.frozen j
  have f1_6 := str6 HS1_6.out
  have hl1_6 := HS1_6.out.lt
  have hf1_6 := fun j => HS1_6.out.frozen j
  have f2_6 := str5 HS2_6.out
  have hl2_6 := HS2_6.out.lt
  have f3_6 := str5 HS3_6.out
  have hl3_6 := HS3_6.out.lt
  have HPs_6 := Lib.hid hp'
  clear hp'
  go_wp2_with fail
  generalize hW7 : ((((((W6).setCell ⟨w.heap.size + 1, 0, none⟩ (.int .i64 0)).setCell ⟨w.heap.size + 1, 1, none⟩ (.int .i64 0)).setCell ⟨w.heap.size + 1, 2, none⟩ (.slice none 0 0)).setCell ⟨w.heap.size + 1, 3, none⟩ (.int .i64 0)).setCell ⟨w.heap.size + 1, 4, none⟩ (.int .i64 0)).setCell ⟨w.heap.size + 1, 5, none⟩ (.int .i64 0) = W7
  have HS1_7 : Hid (Str W7 (w.heap.size + 1) #[.int .i64 0, .int .i64 0, .slice none 0 0, .int .i64 0, .int .i64 0, .int .i64 0]) := Lib.hid (by rw [← hW7]; have := ((((((HS1_6.out).set 0 (.int .i64 0)).set 1 (.int .i64 0)).set 2 (.slice none 0 0)).set 3 (.int .i64 0)).set 4 (.int .i64 0)).set 5 (.int .i64 0); simpa using this)
  have hgr7 : W6.grownBy W7 (some (w.heap.size + 1)) := by rw [← hW7]; exact grown_set (grown_set (grown_set (grown_set (grown_set (grown_set (grown_refl W6 (w.heap.size + 1)) 0 (_)) 1 (_)) 2 (_)) 3 (_)) 4 (_)) 5 (_)
  have HS0_7 := Lib.hid (HS0_6.out.grown hgr7 (by omega))
  have HS2_7 := Lib.hid (HS2_6.out.grown hgr7 (by omega))
  have HS3_7 := Lib.hid (HS3_6.out.grown hgr7 (by omega))
  have HB_7 := Lib.hid (below_grown HB_6.out hgr7 (by omega))
  have hw_7 := HB_7.out.size
  have hws_7 := hgr7.size
  have HYf_7 := Lib.hid ((Bytes.grown HYf_6.out (Nat.le_refl _) HS1_6.out rfl hgr7).more hws_7)
  clear HYf_6
  have HPz : Hid (Pairs W7 W7.heap.size A' n' c' _) := Lib.hid (Pairs.grown HPs_6.out HS1_6.out rfl rfl hgr7)
  clear hW7
  clear f0_6 HS0_6 hf0_6 f1_6 HS1_6 hf1_6 f2_6 HS2_6 f3_6 HS3_6
  clear hgr7
  have f0_7 := str6 HS0_7.out
  have hl0_7 := HS0_7.out.lt
  have hf0_7 := fun j => HS0_7.out.frozen j
  have f1_7 := str6 HS1_7.out
  have hl1_7 := HS1_7.out.lt
  have hf1_7 := fun j => HS1_7.out.frozen j
  have f2_7 := str5 HS2_7.out
  have hl2_7 := HS2_7.out.lt
  have f3_7 := str5 HS3_7.out
  have hl3_7 := HS3_7.out.lt
  exact bodyPost_ret (v := .tuple #[.slice A' n' c', .agg #[.int .i64 0, .int .i64 0, .slice none 0 0, .int .i64 0, .int .i64 0, .int .i64 0]]) (by simp [results, Try.results25, go_sem, *]) rfl ⟨A', n', c', none, 0, 0, rfl, HPz.out, Bytes.none_ _ _, HB_7.out⟩
set_option maxRecDepth 100000 in
set_option maxHeartbeats 2000000 in
theorem rstep_move5_kind (A : Option Addr) (n c B : Nat) (l : List Pair) (xk : ByteArray) (xdata : List UInt8) (Ax : Option Addr) (nx cx Bx : Nat) (xlo xhi xn : Int) (w : World) (h : Pairs w B A n c l) (hB : B ≤ w.heap.size) (hs : Small l) (hx : Bytes w Bx Ax nx cx xdata) (hBx : Bx ≤ w.heap.size) (hxk : xk.size ≤ maxLen) (hi1 : In64 xlo) (hi2 : In64 xhi) (hi3 : In64 xn) (ckd : Int) (cda : List UInt8) (clo chi cva : Int) (hf : ModelP.find l xk = (some ⟨ckd, cda, clo, chi, cva⟩)) (hg : ModelP.good ⟨5, xk, xdata, xlo, xhi, xn⟩ = true) (hk : ¬ ckd = 2) :
    Calls Try.prog 25 #[.slice A n c, .agg #[.int .i64 5, .string xk, .slice Ax nx cx, .int .i64 xlo, .int .i64 xhi, .int .i64 xn]] w (GivesSA w ((l, ⟨6, CellP.none⟩))) := by
  have hlen := h.len
  have hn : n ≤ 1000 := by rw [← hlen]; exact hs.len
  have H := Lib.hid h
  have HD := Lib.hid hs.data
  have HX := Lib.hid hx
  have hlx := hx.len
  clear h hs hlen
  have HG : Hid (ModelP.good ⟨5, xk, xdata, xlo, xhi, xn⟩ = true) := Lib.hid hg
  clear hg hx
  go_enter Try.func25, Try.ntmps25
  go_wp2_with fail
  generalize hW0 : ((w).alloc (.cells #[.int .i64 5, .string xk, .slice Ax nx cx, .int .i64 xlo, .int .i64 xhi, .int .i64 xn] 24)).alloc (.cells #[.int .i64 0, .int .i64 0, .slice none 0 0, .int .i64 0, .int .i64 0, .int .i64 0] 39) = W0
  obtain ⟨HS0_0, HS1_0, HB_0, hw_0, hz0⟩ := new2 hW0
  clear hW0 hz0
  have f0_0 := str6 HS0_0.out
  have hl0_0 := HS0_0.out.lt
  have hf0_0 := fun j => HS0_0.out.frozen j
  have f1_0 := str6 HS1_0.out
  have hl1_0 := HS1_0.out.lt
  have hf1_0 := fun j => HS1_0.out.frozen j
  refine (good_any ⟨5, xk, xdata, xlo, xhi, xn⟩ Ax nx cx _ hxk hlx).mono ?_
  rintro e W1 ⟨rfl, hb1⟩
  rw [HG.out]
  have HS0_1 := Lib.hid (HS0_0.out.next hb1)
  have HS1_1 := Lib.hid (HS1_0.out.next hb1)
  have HB_1 := Lib.hid (bstep HB_0.out hb1)
  have hw_1 := HB_1.out.size
  have hws_1 := (hb1).size
  clear f0_0 HS0_0 hf0_0 f1_0 HS1_0 hf1_0
  clear hb1
  have f0_1 := str6 HS0_1.out
  have hl0_1 := HS0_1.out.lt
  have hf0_1 := fun j => HS0_1.out.frozen j
  have f1_1 := str6 HS1_1.out
  have hl1_1 := HS1_1.out.lt
  have hf1_1 := fun j => HS1_1.out.frozen j
  go_wp2_with fail
  have HF := Lib.hid hf
  clear hf
  refine (refFind_any A n c w.heap.size l xk _ ((H.out.more hB).below HB_1.out) HB_1.out.size (by omega) HD.out).mono ?_
  rintro e W2 ⟨Af, nf, cf, rfl, hyf, hb2⟩
  have HS0_2 := Lib.hid (HS0_1.out.next hb2)
  have HS1_2 := Lib.hid (HS1_1.out.next hb2)
  have HB_2 := Lib.hid (bstep HB_1.out hb2)
  have hw_2 := HB_2.out.size
  have hws_2 := (hb2).size
  clear f0_1 HS0_1 hf0_1 f1_1 HS1_1 hf1_1
  clear hb2
  have f0_2 := str6 HS0_2.out
  have hl0_2 := HS0_2.out.lt
  have hf0_2 := fun j => HS0_2.out.frozen j
  have f1_2 := str6 HS1_2.out
  have hl1_2 := HS1_2.out.lt
  have hf1_2 := fun j => HS1_2.out.frozen j
  rw [HF.out] at hyf
  dsimp only [Option.getD, CellP.none] at hyf
  have hnf := hyf.len
  have HYf_2 := Lib.hid (hyf)
  clear hyf
  rw [HF.out]
  dsimp only [Option.getD, Option.isSome]
  go_wp2_with fail
  generalize hW3 : W2.alloc (.cells #[.int .i64 ckd, .slice Af nf cf, .int .i64 clo, .int .i64 chi, .int .i64 cva] 37) = W3
  have HS0_3 := sEq hW3 (HS0_2.out.alloc _)
  have HS1_3 := sEq hW3 (HS1_2.out.alloc _)
  have HS2_3 := sEq hW3 (Str.new _ _ _)
  have hba3 : Below W2.heap.size W2 W3 := by rw [← hW3]; exact balloc (bsame _) _
  have HB_3 := Lib.hid (bstep HB_2.out hba3)
  have hw_3 := HB_3.out.size
  have hws_3 := hba3.size
  have HYf_3 := Lib.hid (HYf_2.out.next hba3)
  clear HYf_2
  clear hW3
  clear f0_2 HS0_2 hf0_2 f1_2 HS1_2 hf1_2
  have f0_3 := str6 HS0_3.out
  have hl0_3 := HS0_3.out.lt
  have hf0_3 := fun j => HS0_3.out.frozen j
  have f1_3 := str6 HS1_3.out
  have hl1_3 := HS1_3.out.lt
  have hf1_3 := fun j => HS1_3.out.frozen j
  have f2_3 := str5 HS2_3.out
  have hl2_3 := HS2_3.out.lt
  refine (rmove_kind 5 xk Ax nx cx xlo xhi xn ckd Af nf cf clo chi cva _ hk).mono ?_
  rintro e W4 ⟨rfl, hb4⟩
  have HS0_4 := Lib.hid (HS0_3.out.next hb4)
  have HS1_4 := Lib.hid (HS1_3.out.next hb4)
  have HS2_4 := Lib.hid (HS2_3.out.next hb4)
  have HB_4 := Lib.hid (bstep HB_3.out hb4)
  have hw_4 := HB_4.out.size
  have hws_4 := (hb4).size
  have HYf_4 := Lib.hid (HYf_3.out.next hb4)
  clear HYf_3
  clear f0_3 HS0_3 hf0_3 f1_3 HS1_3 hf1_3 f2_3 HS2_3
  clear hb4
  have f0_4 := str6 HS0_4.out
  have hl0_4 := HS0_4.out.lt
  have hf0_4 := fun j => HS0_4.out.frozen j
  have f1_4 := str6 HS1_4.out
  have hl1_4 := HS1_4.out.lt
  have hf1_4 := fun j => HS1_4.out.frozen j
  have f2_4 := str5 HS2_4.out
  have hl2_4 := HS2_4.out.lt
  go_wp2_with fail
  generalize hW5 : ((((((W4).setCell ⟨w.heap.size + 1, 0, none⟩ (.int .i64 6)).setCell ⟨w.heap.size + 1, 1, none⟩ (.int .i64 0)).setCell ⟨w.heap.size + 1, 2, none⟩ (.slice none 0 0)).setCell ⟨w.heap.size + 1, 3, none⟩ (.int .i64 0)).setCell ⟨w.heap.size + 1, 4, none⟩ (.int .i64 0)).setCell ⟨w.heap.size + 1, 5, none⟩ (.int .i64 0) = W5
  have HS1_5 : Hid (Str W5 (w.heap.size + 1) #[.int .i64 6, .int .i64 0, .slice none 0 0, .int .i64 0, .int .i64 0, .int .i64 0]) := Lib.hid (by rw [← hW5]; have := ((((((HS1_4.out).set 0 (.int .i64 6)).set 1 (.int .i64 0)).set 2 (.slice none 0 0)).set 3 (.int .i64 0)).set 4 (.int .i64 0)).set 5 (.int .i64 0); simpa using this)
  have hgr5 : W4.grownBy W5 (some (w.heap.size + 1)) := by rw [← hW5]; exact grown_set (grown_set (grown_set (grown_set (grown_set (grown_set (grown_refl W4 (w.heap.size + 1)) 0 (_)) 1 (_)) 2 (_)) 3 (_)) 4 (_)) 5 (_)
  have HS0_5 := Lib.hid (HS0_4.out.grown hgr5 (by omega))
  have HS2_5 := Lib.hid (HS2_4.out.grown hgr5 (by omega))
  have HB_5 := Lib.hid (below_grown HB_4.out hgr5 (by omega))
  have hw_5 := HB_5.out.size
  have hws_5 := hgr5.size
  have HYf_5 := Lib.hid ((Bytes.grown HYf_4.out (Nat.le_refl _) HS1_4.out rfl hgr5).more hws_5)
  clear HYf_4
  clear hW5
  clear f0_4 HS0_4 hf0_4 f1_4 HS1_4 hf1_4 f2_4 HS2_4
  clear hgr5
  have f0_5 := str6 HS0_5.out
  have hl0_5 := HS0_5.out.lt
  have hf0_5 := fun j => HS0_5.out.frozen j
  have f1_5 := str6 HS1_5.out
  have hl1_5 := HS1_5.out.lt
  have hf1_5 := fun j => HS1_5.out.frozen j
  have f2_5 := str5 HS2_5.out
  have hl2_5 := HS2_5.out.lt
  generalize hW6 : W5.alloc (.cells #[.int .i64 ckd, .slice Af nf cf, .int .i64 clo, .int .i64 chi, .int .i64 cva] 37) = W6
  have HS0_6 := sEq hW6 (HS0_5.out.alloc _)
  have HS1_6 := sEq hW6 (HS1_5.out.alloc _)
  have HS2_6 := sEq hW6 (HS2_5.out.alloc _)
  have HS3_6 := sEq hW6 (Str.new _ _ _)
  have hba6 : Below W5.heap.size W5 W6 := by rw [← hW6]; exact balloc (bsame _) _
  have HB_6 := Lib.hid (bstep HB_5.out hba6)
  have hw_6 := HB_6.out.size
  have hws_6 := hba6.size
  have HYf_6 := Lib.hid (HYf_5.out.next hba6)
  clear HYf_5
  clear hW6
  clear f0_5 HS0_5 hf0_5 f1_5 HS1_5 hf1_5 f2_5 HS2_5
  have f0_6 := str6 HS0_6.out
  have hl0_6 := HS0_6.out.lt
  have hf0_6 := fun j => HS0_6.out.frozen j
  have f1_6 := str6 HS1_6.out
  have hl1_6 := HS1_6.out.lt
  have hf1_6 := fun j => HS1_6.out.frozen j
  have f2_6 := str5 HS2_6.out
  have hl2_6 := HS2_6.out.lt
  have f3_6 := str5 HS3_6.out
  have hl3_6 := HS3_6.out.lt
  exact bodyPost_ret (v := .tuple #[.slice A n c, .agg #[.int .i64 6, .int .i64 0, .slice none 0 0, .int .i64 0, .int .i64 0, .int .i64 0]]) (by simp [results, Try.results25, go_sem, *]) rfl ⟨A, n, c, none, 0, 0, rfl, ((H.out.below (HB_6.out.mono hB)).more (Nat.le_trans hB HB_6.out.size)), Bytes.none_ _ _, HB_6.out⟩
set_option maxRecDepth 100000 in
set_option maxHeartbeats 2000000 in
theorem rstep_move5_low (A : Option Addr) (n c B : Nat) (l : List Pair) (xk : ByteArray) (xdata : List UInt8) (Ax : Option Addr) (nx cx Bx : Nat) (xlo xhi xn : Int) (w : World) (h : Pairs w B A n c l) (hB : B ≤ w.heap.size) (hs : Small l) (hx : Bytes w Bx Ax nx cx xdata) (hBx : Bx ≤ w.heap.size) (hxk : xk.size ≤ maxLen) (hi1 : In64 xlo) (hi2 : In64 xhi) (hi3 : In64 xn) (cda : List UInt8) (clo chi cva : Int) (hf : ModelP.find l xk = (some ⟨2, [], clo, chi, cva⟩)) (hg : ModelP.good ⟨5, xk, xdata, xlo, xhi, xn⟩ = true) (hic1 : In64 clo) (hic2 : In64 chi) (hic3 : In64 cva) (ho : (cva - xn) < clo) :
    Calls Try.prog 25 #[.slice A n c, .agg #[.int .i64 5, .string xk, .slice Ax nx cx, .int .i64 xlo, .int .i64 xhi, .int .i64 xn]] w (GivesSA w ((l, ⟨8, CellP.none⟩))) := by
  have hlen := h.len
  have hn : n ≤ 1000 := by rw [← hlen]; exact hs.len
  have H := Lib.hid h
  have HD := Lib.hid hs.data
  have HX := Lib.hid hx
  have hlx := hx.len
  clear h hs hlen
  have HG : Hid (ModelP.good ⟨5, xk, xdata, xlo, xhi, xn⟩ = true) := Lib.hid hg
  clear hg hx
  go_enter Try.func25, Try.ntmps25
  go_wp2_with fail
  generalize hW0 : ((w).alloc (.cells #[.int .i64 5, .string xk, .slice Ax nx cx, .int .i64 xlo, .int .i64 xhi, .int .i64 xn] 24)).alloc (.cells #[.int .i64 0, .int .i64 0, .slice none 0 0, .int .i64 0, .int .i64 0, .int .i64 0] 39) = W0
  obtain ⟨HS0_0, HS1_0, HB_0, hw_0, hz0⟩ := new2 hW0
  clear hW0 hz0
  have f0_0 := str6 HS0_0.out
  have hl0_0 := HS0_0.out.lt
  have hf0_0 := fun j => HS0_0.out.frozen j
  have f1_0 := str6 HS1_0.out
  have hl1_0 := HS1_0.out.lt
  have hf1_0 := fun j => HS1_0.out.frozen j
  refine (good_any ⟨5, xk, xdata, xlo, xhi, xn⟩ Ax nx cx _ hxk hlx).mono ?_
  rintro e W1 ⟨rfl, hb1⟩
  rw [HG.out]
  have HS0_1 := Lib.hid (HS0_0.out.next hb1)
  have HS1_1 := Lib.hid (HS1_0.out.next hb1)
  have HB_1 := Lib.hid (bstep HB_0.out hb1)
  have hw_1 := HB_1.out.size
  have hws_1 := (hb1).size
  clear f0_0 HS0_0 hf0_0 f1_0 HS1_0 hf1_0
  clear hb1
  have f0_1 := str6 HS0_1.out
  have hl0_1 := HS0_1.out.lt
  have hf0_1 := fun j => HS0_1.out.frozen j
  have f1_1 := str6 HS1_1.out
  have hl1_1 := HS1_1.out.lt
  have hf1_1 := fun j => HS1_1.out.frozen j
  go_wp2_with fail
  have HF := Lib.hid hf
  clear hf
  refine (refFind_any A n c w.heap.size l xk _ ((H.out.more hB).below HB_1.out) HB_1.out.size (by omega) HD.out).mono ?_
  rintro e W2 ⟨Af, nf, cf, rfl, hyf, hb2⟩
  have HS0_2 := Lib.hid (HS0_1.out.next hb2)
  have HS1_2 := Lib.hid (HS1_1.out.next hb2)
  have HB_2 := Lib.hid (bstep HB_1.out hb2)
  have hw_2 := HB_2.out.size
  have hws_2 := (hb2).size
  clear f0_1 HS0_1 hf0_1 f1_1 HS1_1 hf1_1
  clear hb2
  have f0_2 := str6 HS0_2.out
  have hl0_2 := HS0_2.out.lt
  have hf0_2 := fun j => HS0_2.out.frozen j
  have f1_2 := str6 HS1_2.out
  have hl1_2 := HS1_2.out.lt
  have hf1_2 := fun j => HS1_2.out.frozen j
  rw [HF.out] at hyf
  dsimp only [Option.getD, CellP.none] at hyf
  have hnf := hyf.len
  have HYf_2 := Lib.hid (hyf)
  clear hyf
  rw [HF.out]
  dsimp only [Option.getD, Option.isSome]
  go_wp2_with fail
  generalize hW3 : W2.alloc (.cells #[.int .i64 2, .slice Af nf cf, .int .i64 clo, .int .i64 chi, .int .i64 cva] 37) = W3
  have HS0_3 := sEq hW3 (HS0_2.out.alloc _)
  have HS1_3 := sEq hW3 (HS1_2.out.alloc _)
  have HS2_3 := sEq hW3 (Str.new _ _ _)
  have hba3 : Below W2.heap.size W2 W3 := by rw [← hW3]; exact balloc (bsame _) _
  have HB_3 := Lib.hid (bstep HB_2.out hba3)
  have hw_3 := HB_3.out.size
  have hws_3 := hba3.size
  have HYf_3 := Lib.hid (HYf_2.out.next hba3)
  clear HYf_2
  clear hW3
  clear f0_2 HS0_2 hf0_2 f1_2 HS1_2 hf1_2
  have f0_3 := str6 HS0_3.out
  have hl0_3 := HS0_3.out.lt
  have hf0_3 := fun j => HS0_3.out.frozen j
  have f1_3 := str6 HS1_3.out
  have hl1_3 := HS1_3.out.lt
  have hf1_3 := fun j => HS1_3.out.frozen j
  have f2_3 := str5 HS2_3.out
  have hl2_3 := HS2_3.out.lt
  refine (rmove5_low xk Ax nx cx xlo xhi xn Af nf cf clo chi cva _ hic1 hic2 hic3 hi3 (by omega)).mono ?_
  rintro e W4 ⟨rfl, hb4⟩
  have HS0_4 := Lib.hid (HS0_3.out.next hb4)
  have HS1_4 := Lib.hid (HS1_3.out.next hb4)
  have HS2_4 := Lib.hid (HS2_3.out.next hb4)
  have HB_4 := Lib.hid (bstep HB_3.out hb4)
  have hw_4 := HB_4.out.size
  have hws_4 := (hb4).size
  have HYf_4 := Lib.hid (HYf_3.out.next hb4)
  clear HYf_3
  clear f0_3 HS0_3 hf0_3 f1_3 HS1_3 hf1_3 f2_3 HS2_3
  clear hb4
  have f0_4 := str6 HS0_4.out
  have hl0_4 := HS0_4.out.lt
  have hf0_4 := fun j => HS0_4.out.frozen j
  have f1_4 := str6 HS1_4.out
  have hl1_4 := HS1_4.out.lt
  have hf1_4 := fun j => HS1_4.out.frozen j
  have f2_4 := str5 HS2_4.out
  have hl2_4 := HS2_4.out.lt
  go_wp2_with fail
  generalize hW5 : ((((((W4).setCell ⟨w.heap.size + 1, 0, none⟩ (.int .i64 8)).setCell ⟨w.heap.size + 1, 1, none⟩ (.int .i64 0)).setCell ⟨w.heap.size + 1, 2, none⟩ (.slice none 0 0)).setCell ⟨w.heap.size + 1, 3, none⟩ (.int .i64 0)).setCell ⟨w.heap.size + 1, 4, none⟩ (.int .i64 0)).setCell ⟨w.heap.size + 1, 5, none⟩ (.int .i64 0) = W5
  have HS1_5 : Hid (Str W5 (w.heap.size + 1) #[.int .i64 8, .int .i64 0, .slice none 0 0, .int .i64 0, .int .i64 0, .int .i64 0]) := Lib.hid (by rw [← hW5]; have := ((((((HS1_4.out).set 0 (.int .i64 8)).set 1 (.int .i64 0)).set 2 (.slice none 0 0)).set 3 (.int .i64 0)).set 4 (.int .i64 0)).set 5 (.int .i64 0); simpa using this)
  have hgr5 : W4.grownBy W5 (some (w.heap.size + 1)) := by rw [← hW5]; exact grown_set (grown_set (grown_set (grown_set (grown_set (grown_set (grown_refl W4 (w.heap.size + 1)) 0 (_)) 1 (_)) 2 (_)) 3 (_)) 4 (_)) 5 (_)
  have HS0_5 := Lib.hid (HS0_4.out.grown hgr5 (by omega))
  have HS2_5 := Lib.hid (HS2_4.out.grown hgr5 (by omega))
  have HB_5 := Lib.hid (below_grown HB_4.out hgr5 (by omega))
  have hw_5 := HB_5.out.size
  have hws_5 := hgr5.size
  have HYf_5 := Lib.hid ((Bytes.grown HYf_4.out (Nat.le_refl _) HS1_4.out rfl hgr5).more hws_5)
  clear HYf_4
  clear hW5
  clear f0_4 HS0_4 hf0_4 f1_4 HS1_4 hf1_4 f2_4 HS2_4
  clear hgr5
  have f0_5 := str6 HS0_5.out
  have hl0_5 := HS0_5.out.lt
  have hf0_5 := fun j => HS0_5.out.frozen j
  have f1_5 := str6 HS1_5.out
  have hl1_5 := HS1_5.out.lt
  have hf1_5 := fun j => HS1_5.out.frozen j
  have f2_5 := str5 HS2_5.out
  have hl2_5 := HS2_5.out.lt
  generalize hW6 : W5.alloc (.cells #[.int .i64 2, .slice Af nf cf, .int .i64 clo, .int .i64 chi, .int .i64 cva] 37) = W6
  have HS0_6 := sEq hW6 (HS0_5.out.alloc _)
  have HS1_6 := sEq hW6 (HS1_5.out.alloc _)
  have HS2_6 := sEq hW6 (HS2_5.out.alloc _)
  have HS3_6 := sEq hW6 (Str.new _ _ _)
  have hba6 : Below W5.heap.size W5 W6 := by rw [← hW6]; exact balloc (bsame _) _
  have HB_6 := Lib.hid (bstep HB_5.out hba6)
  have hw_6 := HB_6.out.size
  have hws_6 := hba6.size
  have HYf_6 := Lib.hid (HYf_5.out.next hba6)
  clear HYf_5
  clear hW6
  clear f0_5 HS0_5 hf0_5 f1_5 HS1_5 hf1_5 f2_5 HS2_5
  have f0_6 := str6 HS0_6.out
  have hl0_6 := HS0_6.out.lt
  have hf0_6 := fun j => HS0_6.out.frozen j
  have f1_6 := str6 HS1_6.out
  have hl1_6 := HS1_6.out.lt
  have hf1_6 := fun j => HS1_6.out.frozen j
  have f2_6 := str5 HS2_6.out
  have hl2_6 := HS2_6.out.lt
  have f3_6 := str5 HS3_6.out
  have hl3_6 := HS3_6.out.lt
  exact bodyPost_ret (v := .tuple #[.slice A n c, .agg #[.int .i64 8, .int .i64 0, .slice none 0 0, .int .i64 0, .int .i64 0, .int .i64 0]]) (by simp [results, Try.results25, go_sem, *]) rfl ⟨A, n, c, none, 0, 0, rfl, ((H.out.below (HB_6.out.mono hB)).more (Nat.le_trans hB HB_6.out.size)), Bytes.none_ _ _, HB_6.out⟩
set_option maxRecDepth 100000 in
set_option maxHeartbeats 2000000 in
theorem rstep_move5_high (A : Option Addr) (n c B : Nat) (l : List Pair) (xk : ByteArray) (xdata : List UInt8) (Ax : Option Addr) (nx cx Bx : Nat) (xlo xhi xn : Int) (w : World) (h : Pairs w B A n c l) (hB : B ≤ w.heap.size) (hs : Small l) (hx : Bytes w Bx Ax nx cx xdata) (hBx : Bx ≤ w.heap.size) (hxk : xk.size ≤ maxLen) (hi1 : In64 xlo) (hi2 : In64 xhi) (hi3 : In64 xn) (cda : List UInt8) (clo chi cva : Int) (hf : ModelP.find l xk = (some ⟨2, [], clo, chi, cva⟩)) (hg : ModelP.good ⟨5, xk, xdata, xlo, xhi, xn⟩ = true) (hic1 : In64 clo) (hic2 : In64 chi) (hic3 : In64 cva) (hl : ¬ (cva - xn) < clo) (ho : chi < (cva - xn)) :
    Calls Try.prog 25 #[.slice A n c, .agg #[.int .i64 5, .string xk, .slice Ax nx cx, .int .i64 xlo, .int .i64 xhi, .int .i64 xn]] w (GivesSA w ((l, ⟨8, CellP.none⟩))) := by
  have hlen := h.len
  have hn : n ≤ 1000 := by rw [← hlen]; exact hs.len
  have H := Lib.hid h
  have HD := Lib.hid hs.data
  have HX := Lib.hid hx
  have hlx := hx.len
  clear h hs hlen
  have HG : Hid (ModelP.good ⟨5, xk, xdata, xlo, xhi, xn⟩ = true) := Lib.hid hg
  clear hg hx
  go_enter Try.func25, Try.ntmps25
  go_wp2_with fail
  generalize hW0 : ((w).alloc (.cells #[.int .i64 5, .string xk, .slice Ax nx cx, .int .i64 xlo, .int .i64 xhi, .int .i64 xn] 24)).alloc (.cells #[.int .i64 0, .int .i64 0, .slice none 0 0, .int .i64 0, .int .i64 0, .int .i64 0] 39) = W0
  obtain ⟨HS0_0, HS1_0, HB_0, hw_0, hz0⟩ := new2 hW0
  clear hW0 hz0
  have f0_0 := str6 HS0_0.out
  have hl0_0 := HS0_0.out.lt
  have hf0_0 := fun j => HS0_0.out.frozen j
  have f1_0 := str6 HS1_0.out
  have hl1_0 := HS1_0.out.lt
  have hf1_0 := fun j => HS1_0.out.frozen j
  refine (good_any ⟨5, xk, xdata, xlo, xhi, xn⟩ Ax nx cx _ hxk hlx).mono ?_
  rintro e W1 ⟨rfl, hb1⟩
  rw [HG.out]
  have HS0_1 := Lib.hid (HS0_0.out.next hb1)
  have HS1_1 := Lib.hid (HS1_0.out.next hb1)
  have HB_1 := Lib.hid (bstep HB_0.out hb1)
  have hw_1 := HB_1.out.size
  have hws_1 := (hb1).size
  clear f0_0 HS0_0 hf0_0 f1_0 HS1_0 hf1_0
  clear hb1
  have f0_1 := str6 HS0_1.out
  have hl0_1 := HS0_1.out.lt
  have hf0_1 := fun j => HS0_1.out.frozen j
  have f1_1 := str6 HS1_1.out
  have hl1_1 := HS1_1.out.lt
  have hf1_1 := fun j => HS1_1.out.frozen j
  go_wp2_with fail
  have HF := Lib.hid hf
  clear hf
  refine (refFind_any A n c w.heap.size l xk _ ((H.out.more hB).below HB_1.out) HB_1.out.size (by omega) HD.out).mono ?_
  rintro e W2 ⟨Af, nf, cf, rfl, hyf, hb2⟩
  have HS0_2 := Lib.hid (HS0_1.out.next hb2)
  have HS1_2 := Lib.hid (HS1_1.out.next hb2)
  have HB_2 := Lib.hid (bstep HB_1.out hb2)
  have hw_2 := HB_2.out.size
  have hws_2 := (hb2).size
  clear f0_1 HS0_1 hf0_1 f1_1 HS1_1 hf1_1
  clear hb2
  have f0_2 := str6 HS0_2.out
  have hl0_2 := HS0_2.out.lt
  have hf0_2 := fun j => HS0_2.out.frozen j
  have f1_2 := str6 HS1_2.out
  have hl1_2 := HS1_2.out.lt
  have hf1_2 := fun j => HS1_2.out.frozen j
  rw [HF.out] at hyf
  dsimp only [Option.getD, CellP.none] at hyf
  have hnf := hyf.len
  have HYf_2 := Lib.hid (hyf)
  clear hyf
  rw [HF.out]
  dsimp only [Option.getD, Option.isSome]
  go_wp2_with fail
  generalize hW3 : W2.alloc (.cells #[.int .i64 2, .slice Af nf cf, .int .i64 clo, .int .i64 chi, .int .i64 cva] 37) = W3
  have HS0_3 := sEq hW3 (HS0_2.out.alloc _)
  have HS1_3 := sEq hW3 (HS1_2.out.alloc _)
  have HS2_3 := sEq hW3 (Str.new _ _ _)
  have hba3 : Below W2.heap.size W2 W3 := by rw [← hW3]; exact balloc (bsame _) _
  have HB_3 := Lib.hid (bstep HB_2.out hba3)
  have hw_3 := HB_3.out.size
  have hws_3 := hba3.size
  have HYf_3 := Lib.hid (HYf_2.out.next hba3)
  clear HYf_2
  clear hW3
  clear f0_2 HS0_2 hf0_2 f1_2 HS1_2 hf1_2
  have f0_3 := str6 HS0_3.out
  have hl0_3 := HS0_3.out.lt
  have hf0_3 := fun j => HS0_3.out.frozen j
  have f1_3 := str6 HS1_3.out
  have hl1_3 := HS1_3.out.lt
  have hf1_3 := fun j => HS1_3.out.frozen j
  have f2_3 := str5 HS2_3.out
  have hl2_3 := HS2_3.out.lt
  refine (rmove5_high xk Ax nx cx xlo xhi xn Af nf cf clo chi cva _ hic1 hic2 hic3 hi3 (by omega) (by omega)).mono ?_
  rintro e W4 ⟨rfl, hb4⟩
  have HS0_4 := Lib.hid (HS0_3.out.next hb4)
  have HS1_4 := Lib.hid (HS1_3.out.next hb4)
  have HS2_4 := Lib.hid (HS2_3.out.next hb4)
  have HB_4 := Lib.hid (bstep HB_3.out hb4)
  have hw_4 := HB_4.out.size
  have hws_4 := (hb4).size
  have HYf_4 := Lib.hid (HYf_3.out.next hb4)
  clear HYf_3
  clear f0_3 HS0_3 hf0_3 f1_3 HS1_3 hf1_3 f2_3 HS2_3
  clear hb4
  have f0_4 := str6 HS0_4.out
  have hl0_4 := HS0_4.out.lt
  have hf0_4 := fun j => HS0_4.out.frozen j
  have f1_4 := str6 HS1_4.out
  have hl1_4 := HS1_4.out.lt
  have hf1_4 := fun j => HS1_4.out.frozen j
  have f2_4 := str5 HS2_4.out
  have hl2_4 := HS2_4.out.lt
  go_wp2_with fail
  generalize hW5 : ((((((W4).setCell ⟨w.heap.size + 1, 0, none⟩ (.int .i64 8)).setCell ⟨w.heap.size + 1, 1, none⟩ (.int .i64 0)).setCell ⟨w.heap.size + 1, 2, none⟩ (.slice none 0 0)).setCell ⟨w.heap.size + 1, 3, none⟩ (.int .i64 0)).setCell ⟨w.heap.size + 1, 4, none⟩ (.int .i64 0)).setCell ⟨w.heap.size + 1, 5, none⟩ (.int .i64 0) = W5
  have HS1_5 : Hid (Str W5 (w.heap.size + 1) #[.int .i64 8, .int .i64 0, .slice none 0 0, .int .i64 0, .int .i64 0, .int .i64 0]) := Lib.hid (by rw [← hW5]; have := ((((((HS1_4.out).set 0 (.int .i64 8)).set 1 (.int .i64 0)).set 2 (.slice none 0 0)).set 3 (.int .i64 0)).set 4 (.int .i64 0)).set 5 (.int .i64 0); simpa using this)
  have hgr5 : W4.grownBy W5 (some (w.heap.size + 1)) := by rw [← hW5]; exact grown_set (grown_set (grown_set (grown_set (grown_set (grown_set (grown_refl W4 (w.heap.size + 1)) 0 (_)) 1 (_)) 2 (_)) 3 (_)) 4 (_)) 5 (_)
  have HS0_5 := Lib.hid (HS0_4.out.grown hgr5 (by omega))
  have HS2_5 := Lib.hid (HS2_4.out.grown hgr5 (by omega))
  have HB_5 := Lib.hid (below_grown HB_4.out hgr5 (by omega))
  have hw_5 := HB_5.out.size
  have hws_5 := hgr5.size
  have HYf_5 := Lib.hid ((Bytes.grown HYf_4.out (Nat.le_refl _) HS1_4.out rfl hgr5).more hws_5)
  clear HYf_4
  clear hW5
  clear f0_4 HS0_4 hf0_4 f1_4 HS1_4 hf1_4 f2_4 HS2_4
  clear hgr5
  have f0_5 := str6 HS0_5.out
  have hl0_5 := HS0_5.out.lt
  have hf0_5 := fun j => HS0_5.out.frozen j
  have f1_5 := str6 HS1_5.out
  have hl1_5 := HS1_5.out.lt
  have hf1_5 := fun j => HS1_5.out.frozen j
  have f2_5 := str5 HS2_5.out
  have hl2_5 := HS2_5.out.lt
  generalize hW6 : W5.alloc (.cells #[.int .i64 2, .slice Af nf cf, .int .i64 clo, .int .i64 chi, .int .i64 cva] 37) = W6
  have HS0_6 := sEq hW6 (HS0_5.out.alloc _)
  have HS1_6 := sEq hW6 (HS1_5.out.alloc _)
  have HS2_6 := sEq hW6 (HS2_5.out.alloc _)
  have HS3_6 := sEq hW6 (Str.new _ _ _)
  have hba6 : Below W5.heap.size W5 W6 := by rw [← hW6]; exact balloc (bsame _) _
  have HB_6 := Lib.hid (bstep HB_5.out hba6)
  have hw_6 := HB_6.out.size
  have hws_6 := hba6.size
  have HYf_6 := Lib.hid (HYf_5.out.next hba6)
  clear HYf_5
  clear hW6
  clear f0_5 HS0_5 hf0_5 f1_5 HS1_5 hf1_5 f2_5 HS2_5
  have f0_6 := str6 HS0_6.out
  have hl0_6 := HS0_6.out.lt
  have hf0_6 := fun j => HS0_6.out.frozen j
  have f1_6 := str6 HS1_6.out
  have hl1_6 := HS1_6.out.lt
  have hf1_6 := fun j => HS1_6.out.frozen j
  have f2_6 := str5 HS2_6.out
  have hl2_6 := HS2_6.out.lt
  have f3_6 := str5 HS3_6.out
  have hl3_6 := HS3_6.out.lt
  exact bodyPost_ret (v := .tuple #[.slice A n c, .agg #[.int .i64 8, .int .i64 0, .slice none 0 0, .int .i64 0, .int .i64 0, .int .i64 0]]) (by simp [results, Try.results25, go_sem, *]) rfl ⟨A, n, c, none, 0, 0, rfl, ((H.out.below (HB_6.out.mono hB)).more (Nat.le_trans hB HB_6.out.size)), Bytes.none_ _ _, HB_6.out⟩
set_option maxRecDepth 100000 in
set_option maxHeartbeats 2000000 in
theorem rstep_move5_ok (A : Option Addr) (n c B : Nat) (l : List Pair) (xk : ByteArray) (xdata : List UInt8) (Ax : Option Addr) (nx cx Bx : Nat) (xlo xhi xn : Int) (w : World) (h : Pairs w B A n c l) (hB : B ≤ w.heap.size) (hs : Small l) (hx : Bytes w Bx Ax nx cx xdata) (hBx : Bx ≤ w.heap.size) (hxk : xk.size ≤ maxLen) (hi1 : In64 xlo) (hi2 : In64 xhi) (hi3 : In64 xn) (cda : List UInt8) (clo chi cva : Int) (hf : ModelP.find l xk = (some ⟨2, [], clo, chi, cva⟩)) (hg : ModelP.good ⟨5, xk, xdata, xlo, xhi, xn⟩ = true) (hic1 : In64 clo) (hic2 : In64 chi) (hic3 : In64 cva) (hl : ¬ (cva - xn) < clo) (ho : ¬ chi < (cva - xn)) :
    Calls Try.prog 25 #[.slice A n c, .agg #[.int .i64 5, .string xk, .slice Ax nx cx, .int .i64 xlo, .int .i64 xhi, .int .i64 xn]] w (GivesSA w ((ModelP.put l xk (some ⟨2, [], clo, chi, (cva - xn)⟩), ⟨0, CellP.none⟩))) := by
  have hlen := h.len
  have hn : n ≤ 1000 := by rw [← hlen]; exact hs.len
  have H := Lib.hid h
  have HD := Lib.hid hs.data
  have HX := Lib.hid hx
  have hlx := hx.len
  clear h hs hlen
  have HG : Hid (ModelP.good ⟨5, xk, xdata, xlo, xhi, xn⟩ = true) := Lib.hid hg
  clear hg hx
  go_enter Try.func25, Try.ntmps25
  go_wp2_with fail
  generalize hW0 : ((w).alloc (.cells #[.int .i64 5, .string xk, .slice Ax nx cx, .int .i64 xlo, .int .i64 xhi, .int .i64 xn] 24)).alloc (.cells #[.int .i64 0, .int .i64 0, .slice none 0 0, .int .i64 0, .int .i64 0, .int .i64 0] 39) = W0
  obtain ⟨HS0_0, HS1_0, HB_0, hw_0, hz0⟩ := new2 hW0
  clear hW0 hz0
  have f0_0 := str6 HS0_0.out
  have hl0_0 := HS0_0.out.lt
  have hf0_0 := fun j => HS0_0.out.frozen j
  have f1_0 := str6 HS1_0.out
  have hl1_0 := HS1_0.out.lt
  have hf1_0 := fun j => HS1_0.out.frozen j
  refine (good_any ⟨5, xk, xdata, xlo, xhi, xn⟩ Ax nx cx _ hxk hlx).mono ?_
  rintro e W1 ⟨rfl, hb1⟩
  rw [HG.out]
  have HS0_1 := Lib.hid (HS0_0.out.next hb1)
  have HS1_1 := Lib.hid (HS1_0.out.next hb1)
  have HB_1 := Lib.hid (bstep HB_0.out hb1)
  have hw_1 := HB_1.out.size
  have hws_1 := (hb1).size
  clear f0_0 HS0_0 hf0_0 f1_0 HS1_0 hf1_0
  clear hb1
  have f0_1 := str6 HS0_1.out
  have hl0_1 := HS0_1.out.lt
  have hf0_1 := fun j => HS0_1.out.frozen j
  have f1_1 := str6 HS1_1.out
  have hl1_1 := HS1_1.out.lt
  have hf1_1 := fun j => HS1_1.out.frozen j
  go_wp2_with fail
  have HF := Lib.hid hf
  clear hf
  refine (refFind_any A n c w.heap.size l xk _ ((H.out.more hB).below HB_1.out) HB_1.out.size (by omega) HD.out).mono ?_
  rintro e W2 ⟨Af, nf, cf, rfl, hyf, hb2⟩
  have HS0_2 := Lib.hid (HS0_1.out.next hb2)
  have HS1_2 := Lib.hid (HS1_1.out.next hb2)
  have HB_2 := Lib.hid (bstep HB_1.out hb2)
  have hw_2 := HB_2.out.size
  have hws_2 := (hb2).size
  clear f0_1 HS0_1 hf0_1 f1_1 HS1_1 hf1_1
  clear hb2
  have f0_2 := str6 HS0_2.out
  have hl0_2 := HS0_2.out.lt
  have hf0_2 := fun j => HS0_2.out.frozen j
  have f1_2 := str6 HS1_2.out
  have hl1_2 := HS1_2.out.lt
  have hf1_2 := fun j => HS1_2.out.frozen j
  rw [HF.out] at hyf
  dsimp only [Option.getD, CellP.none] at hyf
  have hnf := hyf.len
  have HYf_2 := Lib.hid (hyf)
  clear hyf
  rw [HF.out]
  dsimp only [Option.getD, Option.isSome]
  go_wp2_with fail
  generalize hW3 : W2.alloc (.cells #[.int .i64 2, .slice Af nf cf, .int .i64 clo, .int .i64 chi, .int .i64 cva] 37) = W3
  have HS0_3 := sEq hW3 (HS0_2.out.alloc _)
  have HS1_3 := sEq hW3 (HS1_2.out.alloc _)
  have HS2_3 := sEq hW3 (Str.new _ _ _)
  have hba3 : Below W2.heap.size W2 W3 := by rw [← hW3]; exact balloc (bsame _) _
  have HB_3 := Lib.hid (bstep HB_2.out hba3)
  have hw_3 := HB_3.out.size
  have hws_3 := hba3.size
  have HYf_3 := Lib.hid (HYf_2.out.next hba3)
  clear HYf_2
  clear hW3
  clear f0_2 HS0_2 hf0_2 f1_2 HS1_2 hf1_2
  have f0_3 := str6 HS0_3.out
  have hl0_3 := HS0_3.out.lt
  have hf0_3 := fun j => HS0_3.out.frozen j
  have f1_3 := str6 HS1_3.out
  have hl1_3 := HS1_3.out.lt
  have hf1_3 := fun j => HS1_3.out.frozen j
  have f2_3 := str5 HS2_3.out
  have hl2_3 := HS2_3.out.lt
  refine (rmove5_ok xk Ax nx cx xlo xhi xn Af nf cf clo chi cva _ hic1 hic2 hic3 hi3 (by omega) (by omega)).mono ?_
  rintro e W4 ⟨rfl, hb4⟩
  have HS0_4 := Lib.hid (HS0_3.out.next hb4)
  have HS1_4 := Lib.hid (HS1_3.out.next hb4)
  have HS2_4 := Lib.hid (HS2_3.out.next hb4)
  have HB_4 := Lib.hid (bstep HB_3.out hb4)
  have hw_4 := HB_4.out.size
  have hws_4 := (hb4).size
  have HYf_4 := Lib.hid (HYf_3.out.next hb4)
  clear HYf_3
  clear f0_3 HS0_3 hf0_3 f1_3 HS1_3 hf1_3 f2_3 HS2_3
  clear hb4
  have f0_4 := str6 HS0_4.out
  have hl0_4 := HS0_4.out.lt
  have hf0_4 := fun j => HS0_4.out.frozen j
  have f1_4 := str6 HS1_4.out
  have hl1_4 := HS1_4.out.lt
  have hf1_4 := fun j => HS1_4.out.frozen j
  have f2_4 := str5 HS2_4.out
  have hl2_4 := HS2_4.out.lt
  go_wp2_with fail
  generalize hW5 : W4.alloc (.cells #[.int .i64 2, .slice Af nf cf, .int .i64 clo, .int .i64 chi, .int .i64 (cva - xn)] 37) = W5
  have HS0_5 := sEq hW5 (HS0_4.out.alloc _)
  have HS1_5 := sEq hW5 (HS1_4.out.alloc _)
  have HS2_5 := sEq hW5 (HS2_4.out.alloc _)
  have HS3_5 := sEq hW5 (Str.new _ _ _)
  have hba5 : Below W4.heap.size W4 W5 := by rw [← hW5]; exact balloc (bsame _) _
  have HB_5 := Lib.hid (bstep HB_4.out hba5)
  have hw_5 := HB_5.out.size
  have hws_5 := hba5.size
  have HYf_5 := Lib.hid (HYf_4.out.next hba5)
  clear HYf_4
  clear hW5
  clear f0_4 HS0_4 hf0_4 f1_4 HS1_4 hf1_4 f2_4 HS2_4
  have f0_5 := str6 HS0_5.out
  have hl0_5 := HS0_5.out.lt
  have hf0_5 := fun j => HS0_5.out.frozen j
  have f1_5 := str6 HS1_5.out
  have hl1_5 := HS1_5.out.lt
  have hf1_5 := fun j => HS1_5.out.frozen j
  have f2_5 := str5 HS2_5.out
  have hl2_5 := HS2_5.out.lt
  have f3_5 := str5 HS3_5.out
  have hl3_5 := HS3_5.out.lt
  refine (putSome A n c w.heap.size l xk 2 [] clo chi (cva - xn) Af nf cf W5.heap.size _ ((H.out.more hB).below HB_5.out) HB_5.out.size hn HYf_5.out (Nat.le_refl _) hxk ⟨by unfold In64; omega, hic1, hic2, by unfold In64 at *; omega⟩ (by decide)).mono ?_
  rintro e W6 ⟨A', n', c', rfl, hp', hb6⟩
  have HS0_6 := Lib.hid (HS0_5.out.next hb6)
  have HS1_6 := Lib.hid (HS1_5.out.next hb6)
  have HS2_6 := Lib.hid (HS2_5.out.next hb6)
  have HS3_6 := Lib.hid (HS3_5.out.next hb6)
  have HB_6 := Lib.hid (bstep HB_5.out hb6)
  have hw_6 := HB_6.out.size
  have hws_6 := (hb6).size
  have HYf_6 := Lib.hid (HYf_5.out.next hb6)
  clear HYf_5
  clear f0_5 HS0_5 hf0_5 f1_5 HS1_5 hf1_5 f2_5 HS2_5 f3_5 HS3_5
  clear hb6
  have f0_6 := str6 HS0_6.out
  have hl0_6 := HS0_6.out.lt
  have hf0_6 := fun j => HS0_6.out.frozen j
  have f1_6 := str6 HS1_6.out
  have hl1_6 := HS1_6.out.lt
  have hf1_6 := fun j => HS1_6.out.frozen j
  have f2_6 := str5 HS2_6.out
  have hl2_6 := HS2_6.out.lt
  have f3_6 := str5 HS3_6.out
  have hl3_6 := HS3_6.out.lt
  have HPs_6 := Lib.hid hp'
  clear hp'
  go_wp2_with fail
  generalize hW7 : ((((((W6).setCell ⟨w.heap.size + 1, 0, none⟩ (.int .i64 0)).setCell ⟨w.heap.size + 1, 1, none⟩ (.int .i64 0)).setCell ⟨w.heap.size + 1, 2, none⟩ (.slice none 0 0)).setCell ⟨w.heap.size + 1, 3, none⟩ (.int .i64 0)).setCell ⟨w.heap.size + 1, 4, none⟩ (.int .i64 0)).setCell ⟨w.heap.size + 1, 5, none⟩ (.int .i64 0) = W7
  have HS1_7 : Hid (Str W7 (w.heap.size + 1) #[.int .i64 0, .int .i64 0, .slice none 0 0, .int .i64 0, .int .i64 0, .int .i64 0]) := Lib.hid (by rw [← hW7]; have := ((((((HS1_6.out).set 0 (.int .i64 0)).set 1 (.int .i64 0)).set 2 (.slice none 0 0)).set 3 (.int .i64 0)).set 4 (.int .i64 0)).set 5 (.int .i64 0); simpa using this)
  have hgr7 : W6.grownBy W7 (some (w.heap.size + 1)) := by rw [← hW7]; exact grown_set (grown_set (grown_set (grown_set (grown_set (grown_set (grown_refl W6 (w.heap.size + 1)) 0 (_)) 1 (_)) 2 (_)) 3 (_)) 4 (_)) 5 (_)
  have HS0_7 := Lib.hid (HS0_6.out.grown hgr7 (by omega))
  have HS2_7 := Lib.hid (HS2_6.out.grown hgr7 (by omega))
  have HS3_7 := Lib.hid (HS3_6.out.grown hgr7 (by omega))
  have HB_7 := Lib.hid (below_grown HB_6.out hgr7 (by omega))
  have hw_7 := HB_7.out.size
  have hws_7 := hgr7.size
  have HYf_7 := Lib.hid ((Bytes.grown HYf_6.out (Nat.le_refl _) HS1_6.out rfl hgr7).more hws_7)
  clear HYf_6
  have HPz : Hid (Pairs W7 W7.heap.size A' n' c' _) := Lib.hid (Pairs.grown HPs_6.out HS1_6.out rfl rfl hgr7)
  clear hW7
  clear f0_6 HS0_6 hf0_6 f1_6 HS1_6 hf1_6 f2_6 HS2_6 f3_6 HS3_6
  clear hgr7
  have f0_7 := str6 HS0_7.out
  have hl0_7 := HS0_7.out.lt
  have hf0_7 := fun j => HS0_7.out.frozen j
  have f1_7 := str6 HS1_7.out
  have hl1_7 := HS1_7.out.lt
  have hf1_7 := fun j => HS1_7.out.frozen j
  have f2_7 := str5 HS2_7.out
  have hl2_7 := HS2_7.out.lt
  have f3_7 := str5 HS3_7.out
  have hl3_7 := HS3_7.out.lt
  exact bodyPost_ret (v := .tuple #[.slice A' n' c', .agg #[.int .i64 0, .int .i64 0, .slice none 0 0, .int .i64 0, .int .i64 0, .int .i64 0]]) (by simp [results, Try.results25, go_sem, *]) rfl ⟨A', n', c', none, 0, 0, rfl, HPz.out, Bytes.none_ _ _, HB_7.out⟩
/-- ref09.Step -/
theorem RStep_any (A : Option Addr) (n c B : Nat) (l : List Pair) (xk : ByteArray) (xdata : List UInt8) (Ax : Option Addr) (nx cx Bx : Nat) (xlo xhi xn : Int) (w : World) (h : Pairs w B A n c l) (hB : B ≤ w.heap.size) (hs : Small l) (hx : Bytes w Bx Ax nx cx xdata) (hBx : Bx ≤ w.heap.size) (hxk : xk.size ≤ maxLen) (hi1 : In64 xlo) (hi2 : In64 xhi) (hi3 : In64 xn) (hR : ModelP.Right l) (act : Int) :
    Calls Try.prog 25 #[.slice A n c, .agg #[.int .i64 act, .string xk, .slice Ax nx cx, .int .i64 xlo, .int .i64 xhi, .int .i64 xn]] w (GivesSA w (ModelP.step l ⟨act, xk, xdata, xlo, xhi, xn⟩)) := by
  by_cases hg : ModelP.good ⟨act, xk, xdata, xlo, xhi, xn⟩ = true
  case neg =>
    have hg : ModelP.good ⟨act, xk, xdata, xlo, xhi, xn⟩ = false := by simpa using hg
    have e : ModelP.step l ⟨act, xk, xdata, xlo, xhi, xn⟩ = (l, ⟨1, CellP.none⟩) := by unfold ModelP.step; rw [if_pos hg]
    rw [e]
    exact rstep_bad A n c B l act xk xdata Ax nx cx Bx xlo xhi xn w h hB hs hx hBx hxk hi1 hi2 hi3 hg
  have hact : 0 ≤ act ∧ act ≤ 5 := by
    unfold ModelP.good at hg
    simp only [Bool.and_eq_true, decide_eq_true_eq] at hg
    exact hg.1
  have hcase : act = 0 ∨ act = 1 ∨ act = 2 ∨ act = 3 ∨ act = 4 ∨ act = 5 := by omega
  clear hact
  cases hf : ModelP.find l xk with
  | none =>
    rcases hcase with rfl | rfl | rfl | rfl | rfl | rfl
    · rw [step_err (e := 5) hg hf (by simp [ModelP.rule]) (by decide)]
      exact rstep_none A n c B l 0 xk xdata Ax nx cx Bx xlo xhi xn w h hB hs hx hBx hxk hi1 hi2 hi3 hf hg (by decide) (by decide)
    · rw [step_ok hg hf (th := some ⟨1, xdata, 0, 0, 0⟩) (told := CellP.none) (by simp [ModelP.rule, CellP.none])]
      exact rstep_write_none A n c B l xk xdata Ax nx cx Bx xlo xhi xn w h hB hs hx hBx hxk hi1 hi2 hi3 hf hg
    · rw [step_ok hg hf (th := some ⟨2, [], xlo, xhi, xn⟩) (told := CellP.none) (by simp [ModelP.rule])]
      exact rstep_create_none A n c B l xk xdata Ax nx cx Bx xlo xhi xn w h hB hs hx hBx hxk hi1 hi2 hi3 hf hg
    · rw [step_err (e := 5) hg hf (by simp [ModelP.rule]) (by decide)]
      exact rstep_none A n c B l 3 xk xdata Ax nx cx Bx xlo xhi xn w h hB hs hx hBx hxk hi1 hi2 hi3 hf hg (by decide) (by decide)
    · rw [step_err (e := 5) hg hf (by simp [ModelP.rule]) (by decide)]
      exact rstep_none A n c B l 4 xk xdata Ax nx cx Bx xlo xhi xn w h hB hs hx hBx hxk hi1 hi2 hi3 hf hg (by decide) (by decide)
    · rw [step_err (e := 5) hg hf (by simp [ModelP.rule]) (by decide)]
      exact rstep_none A n c B l 5 xk xdata Ax nx cx Bx xlo xhi xn w h hB hs hx hBx hxk hi1 hi2 hi3 hf hg (by decide) (by decide)
  | some c0 =>
    have hcr := ModelP.find_right xk hR c0 hf
    obtain ⟨ckd, cda, clo, chi, cva⟩ := c0
    have hci : ModelP.CellIn ⟨ckd, cda, clo, chi, cva⟩ := by
      rw [ModelP.find_eq xk l hR.2] at hf
      split at hf
      · obtain ⟨p, hp, e⟩ := Option.map_eq_some_iff.1 hf
        have hk : ModelP.at_ l xk < n := by rw [← h.len]; exact (List.getElem?_eq_some_iff.1 hp).1
        obtain ⟨_, _, q, _, _, _, _, _, hq, _, _, j1, j2, j3, j4, _⟩ := pair_at h hk
        rw [hp] at hq
        cases hq
        rw [← e]
        exact ⟨j1, j2, j3, j4⟩
      · cases hf
    rcases hcase with rfl | rfl | rfl | rfl | rfl | rfl
    · rw [step_ok hg hf (th := some ⟨ckd, cda, clo, chi, cva⟩) (told := ⟨ckd, cda, clo, chi, cva⟩) (by simp [ModelP.rule]), ModelP.put_same l xk hR.2 _ hf]
      exact rstep_read_some A n c B l xk xdata Ax nx cx Bx xlo xhi xn w h hB hs hx hBx hxk hi1 hi2 hi3 ckd cda clo chi cva hf hg
    · by_cases hk : ckd = 2
      · subst hk
        rw [step_err (e := 6) hg hf (by simp [ModelP.rule]) (by decide)]
        exact rstep_write_kind A n c B l xk xdata Ax nx cx Bx xlo xhi xn w h hB hs hx hBx hxk hi1 hi2 hi3 cda clo chi cva hf hg
      · rw [step_ok hg hf (th := some ⟨1, xdata, 0, 0, 0⟩) (told := CellP.none) (by simp [ModelP.rule, hk])]
        exact rstep_write_some A n c B l xk xdata Ax nx cx Bx xlo xhi xn w h hB hs hx hBx hxk hi1 hi2 hi3 ckd cda clo chi cva hf hg hk
    · rw [step_err (e := 7) hg hf (by simp [ModelP.rule]) (by decide)]
      exact rstep_create_has A n c B l xk xdata Ax nx cx Bx xlo xhi xn w h hB hs hx hBx hxk hi1 hi2 hi3 ckd cda clo chi cva hf hg
    · rw [step_ok hg hf (th := none) (told := CellP.none) (by simp [ModelP.rule])]
      exact rstep_drop_some A n c B l xk xdata Ax nx cx Bx xlo xhi xn w h hB hs hx hBx hxk hi1 hi2 hi3 ckd cda clo chi cva hf hg
    · by_cases hk : ckd = 2
      · subst hk
        have hd0 : cda = [] := by simp [CellP.right] at hcr; exact hcr.1
        subst hd0
        obtain ⟨-, j2, j3, j4⟩ := hci
        by_cases hlow : cva + xn < clo
        · rw [step_err (e := 8) hg hf (by simp [ModelP.rule, hlow]) (by decide)]
          exact rstep_move4_low A n c B l xk xdata Ax nx cx Bx xlo xhi xn w h hB hs hx hBx hxk hi1 hi2 hi3 [] clo chi cva hf hg j2 j3 j4 hlow
        · by_cases hhi : chi < cva + xn
          · rw [step_err (e := 8) hg hf (by simp [ModelP.rule, hhi]) (by decide)]
            exact rstep_move4_high A n c B l xk xdata Ax nx cx Bx xlo xhi xn w h hB hs hx hBx hxk hi1 hi2 hi3 [] clo chi cva hf hg j2 j3 j4 hlow hhi
          · rw [step_ok hg hf (th := some ⟨2, [], clo, chi, cva + xn⟩) (told := CellP.none) (by simp [ModelP.rule, hlow, hhi])]
            exact rstep_move4_ok A n c B l xk xdata Ax nx cx Bx xlo xhi xn w h hB hs hx hBx hxk hi1 hi2 hi3 [] clo chi cva hf hg j2 j3 j4 hlow hhi
      · rw [step_err (e := 6) hg hf (by simp [ModelP.rule, hk]) (by decide)]
        exact rstep_move4_kind A n c B l xk xdata Ax nx cx Bx xlo xhi xn w h hB hs hx hBx hxk hi1 hi2 hi3 ckd cda clo chi cva hf hg hk
    · by_cases hk : ckd = 2
      · subst hk
        have hd0 : cda = [] := by simp [CellP.right] at hcr; exact hcr.1
        subst hd0
        obtain ⟨-, j2, j3, j4⟩ := hci
        by_cases hlow : cva - xn < clo
        · rw [step_err (e := 8) hg hf (by simp [ModelP.rule, hlow]) (by decide)]
          exact rstep_move5_low A n c B l xk xdata Ax nx cx Bx xlo xhi xn w h hB hs hx hBx hxk hi1 hi2 hi3 [] clo chi cva hf hg j2 j3 j4 hlow
        · by_cases hhi : chi < cva - xn
          · rw [step_err (e := 8) hg hf (by simp [ModelP.rule, hhi]) (by decide)]
            exact rstep_move5_high A n c B l xk xdata Ax nx cx Bx xlo xhi xn w h hB hs hx hBx hxk hi1 hi2 hi3 [] clo chi cva hf hg j2 j3 j4 hlow hhi
          · rw [step_ok hg hf (th := some ⟨2, [], clo, chi, cva - xn⟩) (told := CellP.none) (by simp [ModelP.rule, hlow, hhi])]
            exact rstep_move5_ok A n c B l xk xdata Ax nx cx Bx xlo xhi xn w h hB hs hx hBx hxk hi1 hi2 hi3 [] clo chi cva hf hg j2 j3 j4 hlow hhi
      · rw [step_err (e := 6) hg hf (by simp [ModelP.rule, hk]) (by decide)]
        exact rstep_move5_kind A n c B l xk xdata Ax nx cx Bx xlo xhi xn w h hB hs hx hBx hxk hi1 hi2 hi3 ckd cda clo chi cva hf hg hk
end Go.Proofs.Ytghgccgpgonlmaa.ModelW
