/-
  The contracts of package cell, field by field: for regions that call one function several times.
-/
import Derived.Test.YtghgccgpgonlmaaCell
namespace Go.Proofs.Ytghgccgpgonlmaa.CellF
open Go.RowKit

theorem refSame (A A' : Option Addr) (n cap n' cap' B B' : Nat) (k lo hi v k' lo' hi' v' : Int) (d d' : List UInt8) (w : World) (h : Bytes w B A n cap d) (h' : Bytes w B' A' n' cap' d') (hB : B ≤ w.heap.size) (hB' : B' ≤ w.heap.size) :
    Calls Try.prog 30 #[.agg #[.int .i64 k, .slice A n cap, .int .i64 lo, .int .i64 hi, .int .i64 v], .agg #[.int .i64 k', .slice A' n' cap', .int .i64 lo', .int .i64 hi', .int .i64 v']] w
      fun e w' => e = .returned (.bool (CellP.same ⟨k, d, lo, hi, v⟩ ⟨k', d', lo', hi', v'⟩)) ∧ Below w.heap.size w w' :=
  CellW.refSame_any A A' n cap n' cap' B B' ⟨k, d, lo, hi, v⟩ ⟨k', d', lo', hi', v'⟩ w h h' hB hB'
theorem same (A A' : Option Addr) (n cap n' cap' B B' : Nat) (k lo hi v k' lo' hi' v' : Int) (d d' : List UInt8) (w : World) (h : Bytes w B A n cap d) (h' : Bytes w B' A' n' cap' d') (hB : B ≤ w.heap.size) (hB' : B' ≤ w.heap.size) :
    Calls Try.prog 72 #[.agg #[.int .i64 k, .slice A n cap, .int .i64 lo, .int .i64 hi, .int .i64 v], .agg #[.int .i64 k', .slice A' n' cap', .int .i64 lo', .int .i64 hi', .int .i64 v']] w
      fun e w' => e = .returned (.bool (CellP.same ⟨k, d, lo, hi, v⟩ ⟨k', d', lo', hi', v'⟩)) ∧ Below w.heap.size w w' :=
  CellW.same_any A A' n cap n' cap' B B' ⟨k, d, lo, hi, v⟩ ⟨k', d', lo', hi', v'⟩ w h h' hB hB'
theorem same_self (c : Cell) : CellP.same c c = true := by simp [CellP.same]
end Go.Proofs.Ytghgccgpgonlmaa.CellF
