/-
  The program's types that are so many bytes, and the folds that the walks use.
-/
import Derived.Test.YtcagflakmokoiaaArr
import Derived.Test.YtcagflakmokoiaaBe
namespace Go.Proofs.Ytcagflakmokoiaa
open Go.RowKit
set_option maxRecDepth 100000

theorem arr64 : ArrT Try.prog 117 64 := ⟨⟨5, Try.underlying117, Try.underlying5, Be.sizeU8⟩, by kernel_rfl, by kernel_rfl⟩
theorem al64_fold : Instr.alloc 117 true (.tuple #[]) = alSem 117 := rfl
theorem bd64_fold (ps : Array (Nat × Value)) : Instr.build 117 ps = bdSem 117 ps := rfl
theorem ld64_fold (v : Value) : Instr.loadAt 117 v = ldSem 117 v := rfl
theorem st64_fold (a v : Value) : Instr.storeAt 117 a v = stSem 117 a v := rfl
theorem sl64_fold (x : Value) (lo hi mx : Option Value) : Instr.sliceAt 117 x lo hi mx = slSem 117 x lo hi mx := rfl
end Go.Proofs.Ytcagflakmokoiaa
