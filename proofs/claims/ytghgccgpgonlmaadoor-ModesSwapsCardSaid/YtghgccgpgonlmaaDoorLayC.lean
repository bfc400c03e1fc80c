/-
  Functions of the library as this dump holds them: laid at its numbers.
-/
import Derived.Shelf.Small.Strs
import Derived.Test.YtghgccgpgonlmaaDoorProg
namespace Go.Proofs.YtghgccgpgonlmaaDoor
open Go.Shelf Go.RowKit
def lays106_ren : Ren where
  f x := match x with
    | 106 => 48
    | 213 => 64
    | 265 => 74
    | n => n
  t x := match x with
    | 9 => 9
    | 3 => 3
    | n => n
  g x := x
theorem lays106 : Lays.n106 Tryd.prog lays106_ren where
  mixed := rfl
  f106 := Tryd.func48.trans (by kernel_rfl)
  f213 := Tryd.func64.trans (by kernel_rfl)
  f265 := Tryd.func74.trans (by kernel_rfl)
  t3 := Tryd.underlying3
  a3 := Tryd.isAgg3
  z3 := Tryd.sizeOf3
  v3 := Tryd.zeroValue3
  t9 := Tryd.underlying9
  a9 := Tryd.isAgg9
  z9 := Tryd.sizeOf9
  v9 := Tryd.zeroValue9
end Go.Proofs.YtghgccgpgonlmaaDoor
