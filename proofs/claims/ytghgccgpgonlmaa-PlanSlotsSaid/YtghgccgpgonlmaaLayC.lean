/-
  Functions of the library as this dump holds them: laid at its numbers.
-/
import Derived.Shelf.Small.Strs
import Derived.Test.YtghgccgpgonlmaaProg
namespace Go.Proofs.Ytghgccgpgonlmaa
open Go.Shelf Go.RowKit
def lays106_ren : Ren where
  f x := match x with
    | 106 => 101
    | 213 => 124
    | 265 => 136
    | n => n
  t x := match x with
    | 9 => 9
    | 3 => 3
    | n => n
  g x := x
theorem lays106 : Lays.n106 Try.prog lays106_ren where
  mixed := rfl
  f106 := Try.func101.trans (by kernel_rfl)
  f213 := Try.func124.trans (by kernel_rfl)
  f265 := Try.func136.trans (by kernel_rfl)
  t3 := Try.underlying3
  a3 := Try.isAgg3
  z3 := Try.sizeOf3
  v3 := Try.zeroValue3
  t9 := Try.underlying9
  a9 := Try.isAgg9
  z9 := Try.sizeOf9
  v9 := Try.zeroValue9
end Go.Proofs.Ytghgccgpgonlmaa
