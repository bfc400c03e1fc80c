/-
  The walks of package be: with, parts, Put; of its reference: Same.
-/
import Derived.Test.YtghgccgpgonlmaaProg
import Derived.Test.YtghgccgpgonlmaaBytes
import Derived.Test.YtghgccgpgonlmaaPBe
import Derived.RangeFuncBox
import Derived.RangeFuncNested
import Derived.RangeFuncLeaves
import Derived.Shelf.Abstract
import Derived.OwnWalkIn
import Derived.TacticsInMore
import Derived.LoopNIn
import Derived.LoopIn
import Derived.Maps.AppendAt
import Derived.Laws.CopyOwn
namespace Go.Proofs.Ytghgccgpgonlmaa.Be
open Go.RowKit Go.Shelf

theorem infoU8 : (Try.prog.info? 5).map (fun i => (i.zero, i.size, i.bytes)) = some (some (.int .u8 0), 1, 1) := by kernel_rfl
theorem sizeU8 : (Try.prog.info? 5).map (·.size) = some 1 := by kernel_rfl

/-- make, length and capacity apart -/
theorem run_make_b (n c : Nat) (hnc : n ≤ c) (hb : c ≤ 281474976710656) (w : World) :
    (Instr.makeSlice 22 (.int .i64 (n : Int)) (.int .i64 (c : Int))).run Try.prog w = .ok (.slice (some ⟨w.heap.size, 0, none⟩) n c) (w.alloc (.cells (zerosV c).toArray 5)) := by
  obtain ⟨i0, hi, hz0, hz1, hz2⟩ := info_parts infoU8
  have hr := run_make (P := Try.prog) w 22 5 i0 (.int .u8 0) Try.underlying22 hi hz0 .i64 .i64 n c (by omega) (by omega) (by rw [hz2]; omega) (by omega)
  rw [hr, hz1]
  have e : madeCells (Value.cells (.int .u8 0)) ((c : Int).toNat * 1) = (zerosV c).toArray := by
    apply Array.ext
    · simp [size_madeCells, zerosV]
    · intro i h1 h2
      simp [madeCells, zerosV, Value.cells, Nat.mod_one]
  rw [e]
  simp

/-- the row that a call has made: bytes l, a slice of capacity cap at its head -/
def Row (w w' : World) (g : Nat) (l : List UInt8) (cap : Nat) : Prop :=
  w'.ownsRow w.heap.size 5 1 (.slice (some ⟨g, 0, none⟩) l.length cap) l.length (l.map byteV)

attribute [local go_sem] Oper.semAt_some

/-- what a round must keep: the box of the number -/
def KpAt (b : Nat) (W W' : World) : Prop := W'.heap[b]? = W.heap[b]?
theorem KpAt.cell {b : Nat} {W W' : World} (h : KpAt b W W') {v : Value} (hc : W.cell? ⟨b, 0, none⟩ = some v) : W'.cell? ⟨b, 0, none⟩ = some v := (World.cell?_of_block (a := ⟨b, 0, none⟩) h).trans hc

/-- what holds between two rounds of Put: the box of out holds the bytes so far, the box of the number its number -/
def PutI (w : World) (l : List UInt8) (B Bn : Nat) (m : Int) (pre : List UInt8) (W : World) : Prop :=
  ((∃ v, Boxed W B 22 v ∧ W.ownsRow w.heap.size 5 1 v (l ++ pre).length ((l ++ pre).map byteV) ∧ True) ∧ Boxed W Bn 3 (.int .i64 m)) ∧ Below w.heap.size w W

end Go.Proofs.Ytghgccgpgonlmaa.Be
