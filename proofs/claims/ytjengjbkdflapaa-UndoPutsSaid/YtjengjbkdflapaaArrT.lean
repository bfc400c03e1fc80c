/-
  The program's types that are so many bytes, and the folds that the walks use.
-/
import Derived.Test.YtjengjbkdflapaaArr
import Derived.Test.YtjengjbkdflapaaBe
namespace Go.Proofs.Ytjengjbkdflapaa
open Go.RowKit
set_option maxRecDepth 100000

theorem arr64 : ArrT Try.prog 41 64 := ⟨⟨5, Try.underlying41, Try.underlying5, Be.sizeU8⟩, by kernel_rfl, by kernel_rfl⟩
theorem al64_fold : Instr.alloc 41 true (.tuple #[]) = alSem 41 := rfl
theorem bd64_fold (ps : Array (Nat × Value)) : Instr.build 41 ps = bdSem 41 ps := rfl
theorem ld64_fold (v : Value) : Instr.loadAt 41 v = ldSem 41 v := rfl
theorem st64_fold (a v : Value) : Instr.storeAt 41 a v = stSem 41 a v := rfl
theorem arr512 : ArrT Try.prog 50 512 := ⟨⟨5, Try.underlying50, Try.underlying5, Be.sizeU8⟩, by kernel_rfl, by kernel_rfl⟩
theorem al512_fold : Instr.alloc 50 true (.tuple #[]) = alSem 50 := rfl
theorem bd512_fold (ps : Array (Nat × Value)) : Instr.build 50 ps = bdSem 50 ps := rfl
theorem ld512_fold (v : Value) : Instr.loadAt 50 v = ldSem 50 v := rfl
theorem st512_fold (a v : Value) : Instr.storeAt 50 a v = stSem 50 a v := rfl
theorem arrPage : ArrT Try.prog 51 512 := ⟨⟨5, Try.underlying51, Try.underlying5, Be.sizeU8⟩, by kernel_rfl, by kernel_rfl⟩
theorem alPage_fold : Instr.alloc 51 true (.tuple #[]) = alSem 51 := rfl
theorem bdPage_fold (ps : Array (Nat × Value)) : Instr.build 51 ps = bdSem 51 ps := rfl
theorem ldPage_fold (v : Value) : Instr.loadAt 51 v = ldSem 51 v := rfl
theorem stPage_fold (a v : Value) : Instr.storeAt 51 a v = stSem 51 a v := rfl
theorem sl64_fold (x : Value) (lo hi mx : Option Value) : Instr.sliceAt 41 x lo hi mx = slSem 41 x lo hi mx := rfl
theorem sl512_fold (x : Value) (lo hi mx : Option Value) : Instr.sliceAt 50 x lo hi mx = slSem 50 x lo hi mx := rfl
theorem slPage_fold (x : Value) (lo hi mx : Option Value) : Instr.sliceAt 51 x lo hi mx = slSem 51 x lo hi mx := rfl
end Go.Proofs.Ytjengjbkdflapaa
