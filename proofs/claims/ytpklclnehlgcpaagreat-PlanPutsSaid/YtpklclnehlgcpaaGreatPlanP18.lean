/-
  Parts of the proof of PlanPuts.
-/
import Derived.Test.YtpklclnehlgcpaaGreatPlanP16
import Derived.RegionTactic
import Derived.Test.YtpklclnehlgcpaaGreatPlanP17
import Derived.Test.YtpklclnehlgcpaaGreatPlanP7
import Derived.Test.YtpklclnehlgcpaaGreatPlanP1
section
namespace Go.Proofs.YtpklclnehlgcpaaGreat.ModelP
end Go.Proofs.YtpklclnehlgcpaaGreat.ModelP
namespace Go.Proofs.YtpklclnehlgcpaaGreat.ModelW
open Go.RowKit
set_option linter.unusedVariables false
end Go.Proofs.YtpklclnehlgcpaaGreat.ModelW
end
section
namespace Go.Proofs.YtpklclnehlgcpaaGreat.PlanW
open Go.RowKit ModelW
set_option linter.unusedVariables false
set_option linter.unusedSimpArgs false
theorem byteOne {w : World} {b : Nat} {x : UInt8} (hs : Str w b #[byteV x]) : Bytes w w.heap.size (some ⟨b, 0, none⟩) 1 1 [x] :=
  ⟨rfl, Nat.le_refl _, by unfold maxLen; omega, fun _ => ⟨b, 0, rfl, hs.lt, fun j u hu => by
    have hj : j = 0 := by have := (List.getElem?_eq_some_iff.1 hu).1; simp at this; omega
    subst hj
    simp at hu
    subst hu
    exact hs.cell 0⟩⟩
theorem code_any (n : Int) (w : World) : Calls Tryz.prog 11 #[.int .i64 n] w fun e w' => e = .returned (.int .i64 n) ∧ w = w' := by
  go_enter Tryz.func11, Tryz.ntmps11
  go_wp2
  go_ret
  exact ⟨rfl, rfl⟩
/-- more than is asked? -/
def bigI (x : Item) : Bool := decide (300 < x.key.size) || decide (300 < x.cell.data.length)
set_option maxRecDepth 100000 in
set_option maxHeartbeats 1000000 in
theorem big_any (A : Option Addr) (n cap : Nat) (x : Item) (w : World) (hk : x.key.size ≤ maxLen) (hl : x.cell.data.length = n) (hn : n ≤ maxLen) :
    Calls Tryz.prog 5 #[.agg (itV A n cap x)] w fun e w' => e = .returned (.bool (bigI x)) ∧ Below w.heap.size w w' := by
  obtain ⟨s, k, kind, data, lo, hi, val⟩ := x
  dsimp only [itV, bigI] at *
  rw [hl]
  clear hl
  unfold maxLen at hk hn
  by_cases h : 300 < k.size
  · have HE : Hid ((decide (300 < k.size) || decide (300 < n)) = true) := Lib.hid (by simp [h])
    rw [HE.out]
    go_enter Tryz.func5, Tryz.ntmps5
    go_wp2
    go_ret
    exact ⟨rfl, balloc (bsame w) _⟩
  by_cases h2 : 300 < n
  · have HE : Hid ((decide (300 < k.size) || decide (300 < n)) = true) := Lib.hid (by simp [h2])
    rw [HE.out]
    go_enter Tryz.func5, Tryz.ntmps5
    go_wp2
    go_ret
    exact ⟨by simp; omega, balloc (bsame w) _⟩
  · have HE : Hid ((decide (300 < k.size) || decide (300 < n)) = false) := Lib.hid (by simp [h, h2])
    rw [HE.out]
    go_enter Tryz.func5, Tryz.ntmps5
    go_wp2
    go_ret
    exact ⟨by simp; omega, balloc (bsame w) _⟩
theorem live_step : ModelP.step (PlanP.state ⟨1, ⟨#[97]⟩, ⟨1, [7], 0, 0, 0⟩⟩) ⟨3, ⟨#[97]⟩, [], 0, 0, 0⟩ = ([], ⟨0, CellP.none⟩) := by
  have hg : ModelP.good ⟨3, ⟨#[97]⟩, [], 0, 0, 0⟩ = true := by decide +kernel
  have hs : PlanP.state ⟨1, ⟨#[97]⟩, ⟨1, [7], 0, 0, 0⟩⟩ = [⟨⟨#[97]⟩, ⟨1, [7], 0, 0, 0⟩⟩] := rfl
  have hf : ModelP.find [⟨⟨#[97]⟩, ⟨1, [7], 0, 0, 0⟩⟩] ⟨#[97]⟩ = some ⟨1, [7], 0, 0, 0⟩ := by simp [ModelP.find]
  rw [hs]
  unfold ModelP.step
  rw [if_neg (by simp [hg]), hf, if_neg (by simp [ModelP.rule])]
  rfl
theorem live_slot : PlanP.slot ⟨3, ⟨#[97]⟩, [], 0, 0, 0⟩ ⟨1, ⟨#[97]⟩, ⟨1, [7], 0, 0, 0⟩⟩ = (⟨2, ⟨#[97]⟩, ⟨1, [7], 0, 0, 0⟩⟩, ⟨0, CellP.none⟩) := by
  unfold PlanP.slot
  rw [live_step]
  rfl
theorem live_right : SlotP.right ⟨1, ⟨#[97]⟩, ⟨1, [7], 0, 0, 0⟩⟩ = true := by decide +kernel
set_option maxRecDepth 100000 in
set_option maxHeartbeats 1000000 in
theorem live_any (w : World) : Calls Tryz.prog 6 #[] w fun e w' => e = .returned (.bool true) ∧ Below w.heap.size w w' := by
  go_enter Tryz.func6, Tryz.ntmps6
  go_wp2_with fail
  generalize hW0 : ((w).alloc (.cells #[.int .u8 7] 5)).alloc (.cells #[.int .i64 1, .string ⟨#[97]⟩, .int .i64 1, .slice (some ⟨w.heap.size, 0, none⟩) 1 1, .int .i64 0, .int .i64 0, .int .i64 0] 27) = W0
  obtain ⟨HS0_0, HS1_0, HB_0, hw_0, hz0⟩ := new2 hW0
  clear hW0 hz0
  have f0_0 := str1 HS0_0.out
  have hl0_0 := HS0_0.out.lt
  have f1_0 := str7 HS1_0.out
  have hl1_0 := HS1_0.out.lt
  have HYd_0 := Lib.hid (byteOne (x := 7) HS0_0.out)
  refine (slot_any 3 ⟨#[97]⟩ [] 0 0 0 none 0 0 0 1 ⟨#[97]⟩ 1 [7] 0 0 0 (some ⟨w.heap.size, 0, none⟩) 1 1 W0.heap.size _ (Bytes.none_ _ _) (Nat.zero_le _) (by decide) (by unfold In64; omega) (by omega) HYd_0.out (Nat.le_refl _) (by decide) (by unfold In64; omega) (by omega) live_right).mono ?_
  rintro e W1 ⟨A1, n1, c1, A2, n2, c2, rfl, hy1, hy2, hb1⟩
  have HS0_1 := Lib.hid (HS0_0.out.next hb1)
  have HS1_1 := Lib.hid (HS1_0.out.next hb1)
  have HB_1 := Lib.hid (bstep HB_0.out hb1)
  have hw_1 := HB_1.out.size
  have hws_1 := (hb1).size
  have HYd_1 := Lib.hid (HYd_0.out.next hb1)
  clear HYd_0
  clear f0_0 HS0_0 f1_0 HS1_0
  have f0_1 := str1 HS0_1.out
  have hl0_1 := HS0_1.out.lt
  have f1_1 := str7 HS1_1.out
  have hl1_1 := HS1_1.out.lt
  rw [live_slot] at hy1 hy2
  rw [live_slot]
  dsimp only [itV, ansV, CellP.none] at *
  have hn1 : n1 = 1 := hy1.len.symm
  subst hn1
  have HYr_1 := Lib.hid (hy1)
  clear hy1 hy2 hb1
  go_wp2_with fail
  generalize hW2 : W1.alloc (.cells #[.int .i64 2, .string ⟨#[97]⟩, .int .i64 1, .slice A1 1 c1, .int .i64 0, .int .i64 0, .int .i64 0] 27) = W2
  have HS0_2 := sEq hW2 (HS0_1.out.alloc _)
  have HS1_2 := sEq hW2 (HS1_1.out.alloc _)
  have HS2_2 := sEq hW2 (Str.new _ _ _)
  have hba2 : Below W1.heap.size W1 W2 := by rw [← hW2]; exact balloc (bsame _) _
  have HB_2 := Lib.hid (bstep HB_1.out hba2)
  have hw_2 := HB_2.out.size
  have hws_2 := hba2.size
  have HYd_2 := Lib.hid (HYd_1.out.next hba2)
  have HYr_2 := Lib.hid (HYr_1.out.next hba2)
  clear HYd_1 HYr_1
  have hz2 : W2.heap.size = W1.heap.size + 1 := by rw [← hW2]; simp
  clear hW2
  clear f0_1 HS0_1 f1_1 HS1_1
  have f0_2 := str1 HS0_2.out
  have hl0_2 := HS0_2.out.lt
  have f1_2 := str7 HS1_2.out
  have hl1_2 := HS1_2.out.lt
  have f2_2 := str7 HS2_2.out
  have hl2_2 := HS2_2.out.lt
  generalize hW3 : W2.alloc (.cells #[.int .i64 0, .int .i64 0, .slice A2 n2 c2, .int .i64 0, .int .i64 0, .int .i64 0] 58) = W3
  have HS0_3 := sEq hW3 (HS0_2.out.alloc _)
  have HS1_3 := sEq hW3 (HS1_2.out.alloc _)
  have HS2_3 := sEq hW3 (HS2_2.out.alloc _)
  have HS3_3 := sEq hW3 (Str.new _ _ _)
  have hba3 : Below W2.heap.size W2 W3 := by rw [← hW3]; exact balloc (bsame _) _
  have HB_3 := Lib.hid (bstep HB_2.out hba3)
  have hw_3 := HB_3.out.size
  have hws_3 := hba3.size
  have HYd_3 := Lib.hid (HYd_2.out.next hba3)
  have HYr_3 := Lib.hid (HYr_2.out.next hba3)
  clear HYd_2 HYr_2
  clear hW3
  clear f0_2 HS0_2 f1_2 HS1_2 f2_2 HS2_2
  have f0_3 := str1 HS0_3.out
  have hl0_3 := HS0_3.out.lt
  have f1_3 := str7 HS1_3.out
  have hl1_3 := HS1_3.out.lt
  have f2_3 := str7 HS2_3.out
  have hl2_3 := HS2_3.out.lt
  have f3_3 := str6 HS3_3.out
  have hl3_3 := HS3_3.out.lt
  rw [hz2] at HS3_3 hl3_3 f3_3
  refine (code_any 0 _).mono ?_
  rintro e W3_ ⟨rfl, rfl⟩
  go_wp2_with fail
  generalize hW4 : W3.alloc (.cells #[.int .u8 7] 5) = W4
  have hSL : Str W4 W3.heap.size #[byteV 7] := by rw [← hW4]; exact Str.new W3 _ _
  have hba4 : Below W3.heap.size W3 W4 := by rw [← hW4]; exact balloc (bsame _) _
  clear hW4
  have HS0_4 := Lib.hid (HS0_3.out.next hba4)
  have HS1_4 := Lib.hid (HS1_3.out.next hba4)
  have HS2_4 := Lib.hid (HS2_3.out.next hba4)
  have HS3_4 := Lib.hid (HS3_3.out.next hba4)
  have HB_4 := Lib.hid (bstep HB_3.out hba4)
  have hw_4 := HB_4.out.size
  have hws_4 := (hba4).size
  have HYd_4 := Lib.hid (HYd_3.out.next hba4)
  have HYr_4 := Lib.hid (HYr_3.out.next hba4)
  clear HYd_3 HYr_3
  clear f0_3 HS0_3 f1_3 HS1_3 f2_3 HS2_3 f3_3 HS3_3
  have f0_4 := str1 HS0_4.out
  have hl0_4 := HS0_4.out.lt
  have f1_4 := str7 HS1_4.out
  have hl1_4 := HS1_4.out.lt
  have f2_4 := str7 HS2_4.out
  have hl2_4 := HS2_4.out.lt
  have f3_4 := str6 HS3_4.out
  have hl3_4 := HS3_4.out.lt
  have HLB := Lib.hid (byteOne hSL)
  clear hSL
  refine (Same.same_any _ _ _ _ _ _ _ _ [7] [7] _ HYr_4.out HLB.out).mono ?_
  rintro e W4_ ⟨rfl, rfl⟩
  rw [show (([7] : List UInt8) == [7]) = true from rfl]
  go_wp2_with fail
  go_ret
  exact ⟨rfl, HB_4.out⟩
end Go.Proofs.YtpklclnehlgcpaaGreat.PlanW
end
section
namespace Go.Proofs.YtpklclnehlgcpaaGreat.Reg
open Go.RowKit

/-- one word, at place j -/
def only {R : Way} (j : Nat) (p : SP R) : List (SP R) := List.replicate j any ++ [p]
section
variable {R : Way} {P : Program} {ops : Array Oper} {Q : Exit → Act → World → Prop} {T : List (SP R)} {a0 a : Act} {W w : World} {j : Nat} {o : Oper}
end
end Go.Proofs.YtpklclnehlgcpaaGreat.Reg
end
