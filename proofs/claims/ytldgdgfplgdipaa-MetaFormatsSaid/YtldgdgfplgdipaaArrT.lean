/-
  The program's types that are so many bytes, and the folds that the walks use.
-/
import Derived.Test.YtldgdgfplgdipaaArr
import Derived.Test.YtldgdgfplgdipaaBe
namespace Go.Proofs.Ytldgdgfplgdipaa
open Go.RowKit
set_option maxRecDepth 100000

theorem arr512 : ArrT Try.prog 29 512 := ⟨⟨5, Try.underlying29, Try.underlying5, Be.sizeU8⟩, by kernel_rfl, by kernel_rfl⟩
theorem al512_fold : Instr.alloc 29 true (.tuple #[]) = alSem 29 := rfl
theorem bd512_fold (ps : Array (Nat × Value)) : Instr.build 29 ps = bdSem 29 ps := rfl
theorem ld512_fold (v : Value) : Instr.loadAt 29 v = ldSem 29 v := rfl
theorem st512_fold (a v : Value) : Instr.storeAt 29 a v = stSem 29 a v := rfl
theorem arrPage : ArrT Try.prog 30 512 := ⟨⟨5, Try.underlying30, Try.underlying5, Be.sizeU8⟩, by kernel_rfl, by kernel_rfl⟩
theorem alPage_fold : Instr.alloc 30 true (.tuple #[]) = alSem 30 := rfl
theorem bdPage_fold (ps : Array (Nat × Value)) : Instr.build 30 ps = bdSem 30 ps := rfl
theorem ldPage_fold (v : Value) : Instr.loadAt 30 v = ldSem 30 v := rfl
theorem stPage_fold (a v : Value) : Instr.storeAt 30 a v = stSem 30 a v := rfl
theorem sl512_fold (x : Value) (lo hi mx : Option Value) : Instr.sliceAt 29 x lo hi mx = slSem 29 x lo hi mx := rfl
theorem slPage_fold (x : Value) (lo hi mx : Option Value) : Instr.sliceAt 30 x lo hi mx = slSem 30 x lo hi mx := rfl
end Go.Proofs.Ytldgdgfplgdipaa
