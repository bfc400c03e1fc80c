/-
  The small functions of the statements of layer 6: live.
-/
import Derived.Test.YtjengjbkdflapaaSlotPut
import Derived.Test.YtjengjbkdflapaaLive05
namespace Go.Proofs.Ytjengjbkdflapaa.Live06
open Go.RowKit
attribute [local go_sem ↓] al64_fold ld64_fold st64_fold bd64_fold sl64_fold cp_fold

/-- the page's example -/
def it : Item := ⟨1, ⟨#[97]⟩, ⟨1, [], 0, 0, 0⟩⟩
theorem it_bytes : ((SlotP.bytes it).take 6 == [1, 1, 97, 1, 0, 0]) = true := by decide +kernel

set_option maxRecDepth 100000 in
set_option maxHeartbeats 1000000 in
theorem live_any (w : World) : Calls Try.prog 25 #[] w fun e w' => e = .returned (.bool true) ∧ Below w.heap.size w w' := by
  have hal := fun W => run_al (P := Try.prog) arr64 W
  go_enter Try.func25, Try.ntmps25
  go_wp2_with fail
  refine (SlotPut.put_any none 0 0 0 it _ (Bytes.none_ _ _) (Nat.zero_le _) (by decide)).mono ?_
  rintro e w1 ⟨rfl, hb1⟩
  have hS := Str.new w1 (rowV (SlotP.zeros 64)) 41
  have hst := run_st (P := Try.prog) arr64 hS (by rw [rowV_size]; exact SlotPut.zeros_len 64) (SlotP.bytes_length it)
  obtain ⟨W2, hW2⟩ : ∃ W2, (w1.alloc (.cells (rowV (SlotP.zeros 64)) 41)).setRow w1.heap.size (rowV (SlotP.bytes it)) = W2 := ⟨_, rfl⟩
  have hS2 : Str W2 w1.heap.size (rowV (SlotP.bytes it)) := by rw [← hW2]; exact hS.setRow
  have hB2 : Below w1.heap.size w1 W2 := by rw [← hW2]; exact below_setRow (balloc (bsame _) _) (Nat.le_refl _) _
  rw [hW2] at hst
  have hsl := fun W => run_sl_to (P := Try.prog) arr64 w1.heap.size 6 (by omega) W
  simp only [Int.cast_ofNat_Int] at hsl
  have hP := hS2.part 0 6 64 (by rw [SlotP.bytes_length]; omega) (by omega) (by unfold maxLen; omega)
  rw [List.drop_zero] at hP
  have HP := Lib.hid hP
  have HB := Lib.hid (bstep hb1 hB2)
  have HE := Lib.hid it_bytes
  clear hS hW2 hS2 hB2 hP hb1
  go_wp2_with fail
  refine (Same.same_any _ _ _ _ _ _ _ _ _ [1, 1, 97, 1, 0, 0] _ (HP.out.alloc (Nat.le_refl _) _) (Live05.lit_bytes W2 [1, 1, 97, 1, 0, 0] _ rfl _ _ (by decide))).mono ?_
  rintro e w3 ⟨rfl, rfl⟩
  rw [HE.out]
  go_wp2_with fail
  go_ret
  exact ⟨rfl, balloc HB.out _⟩
end Go.Proofs.Ytjengjbkdflapaa.Live06
