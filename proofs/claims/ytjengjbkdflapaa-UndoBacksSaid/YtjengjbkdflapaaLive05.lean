/-
  The small functions of the statements of layer 5: code, live.
-/
import Derived.Test.YtjengjbkdflapaaCellPut
import Derived.Lib.SlBytesConst
namespace Go.Proofs.Ytjengjbkdflapaa.Live05
open Go.RowKit

theorem code_any (n : Int) (w : World) : Calls Try.prog 17 #[.int .i64 n] w fun e w' => e = .returned (.int .i64 n) ∧ w = w' := by
  go_enter Try.func17, Try.ntmps17
  go_wp2
  go_ret
  exact ⟨rfl, rfl⟩

/-- a list of bytes that the call has just laid -/
theorem lit_bytes (w : World) (l : List UInt8) (C : Array Value) (hC : C = (l.map byteV).toArray) (t : TypeId) (fr : Nat × Nat) (hl : l.length ≤ maxLen) : Bytes (w.alloc (.cells C t fr)) (w.heap.size + 1) (some ⟨w.heap.size, 0, none⟩) l.length l.length l := by
  refine ⟨rfl, Nat.le_refl _, hl, fun _ => ⟨w.heap.size, 0, rfl, by omega, fun j u hu => ?_⟩⟩
  rw [World.cell?_alloc_mark, hC]
  simp [hu]
/-- the page's example -/
def ab : Cell := ⟨1, [97, 98], 0, 0, 0⟩
theorem ab_bytes : ([] ++ CellP.bytes ab == [1, 2, 97, 98]) = true := by decide +kernel
theorem none_code : CellP.code (CellP.right CellP.none) = 1 := by decide +kernel

set_option maxHeartbeats 400000 in
theorem live_any (w : World) : Calls Try.prog 15 #[] w fun e w' => e = .returned (.bool true) ∧ Below w.heap.size w w' := by
  have kc := fun (w : World) (C : Array Value) (n c : Nat) => Lib.run_convert_bytes_const (P := Try.prog) w 22 5 C n c Try.underlying22 Try.underlying5
  have h1 := ab_bytes
  have h2 := none_code
  go_enter Try.func15, Try.ntmps15
  go_wp2_with fail
  refine (CellPut.put_any none (some ⟨w.heap.size, 0, none⟩) 0 0 2 2 0 (w.heap.size + 1) [] ab _ (Bytes.none_ _ _) (Nat.zero_le _) (lit_bytes w [97, 98] _ rfl _ _ (by decide)) (by simp) (by omega)).mono ?_
  rintro e w1 ⟨A1, n1, c1, rfl, hby1, hb1⟩
  have HB1 := Lib.hid hb1
  have HY1 := Lib.hid hby1
  have hs1 := hb1.size
  clear hb1 hby1
  go_wp2_with fail
  refine (Same.same_any A1 _ n1 c1 _ _ _ _ _ [1, 2, 97, 98] _ (HY1.out.alloc (Nat.le_refl _) _) (lit_bytes w1 [1, 2, 97, 98] _ rfl _ _ (by decide))).mono ?_
  rintro e w2 ⟨rfl, rfl⟩
  go_wp2_with fail
  refine (CellW.check_any none 0 0 CellP.none _ rfl (by decide)).mono ?_
  rintro e w3 ⟨rfl, hb3⟩
  go_wp2_with fail
  refine (code_any _ _).mono ?_
  rintro e w4 ⟨rfl, rfl⟩
  go_wp2_with fail
  go_ret
  exact ⟨rfl, bstep (balloc (bstep (balloc (bsame w) _) HB1.out) _) hb3⟩
end Go.Proofs.Ytjengjbkdflapaa.Live05
