/-
  The small functions of the statements of layer 17: code, big, live.
-/
import Derived.Test.YtjengjbkdflapaaUndoOf
import Derived.Test.YtjengjbkdflapaaUndoPut
import Derived.Test.YtjengjbkdflapaaLive05
namespace Go.Proofs.Ytjengjbkdflapaa.UndoP
theorem same_self (u : Undo) : same u u = true := by
  have h : CellP.same u.item.cell u.item.cell = true := by simp [CellP.same]
  simp [same, SlotP.same, h]
end Go.Proofs.Ytjengjbkdflapaa.UndoP
namespace Go.Proofs.Ytjengjbkdflapaa.Live17
open Go.RowKit UndoW
theorem code_any (n : Int) (w : World) : Calls Try.prog 72 #[.int .i64 n] w fun e w' => e = .returned (.int .i64 n) ∧ w = w' := by
  go_enter Try.func72, Try.ntmps72
  go_wp2
  go_ret
  exact ⟨rfl, rfl⟩

/-- more than is asked? -/
def big (k : ByteArray) (n : Nat) : Bool := decide (300 < k.size) || decide (300 < n)
set_option maxHeartbeats 400000 in
theorem big_any (A : Option Addr) (n cap : Nat) (st : Int) (k : ByteArray) (kd lo hi va : Int) (w : World) (hk : k.size ≤ maxLen) (hn : n ≤ maxLen) : Calls Try.prog 65 #[.agg #[.int .i64 st, .string k, .int .i64 kd, .slice A n cap, .int .i64 lo, .int .i64 hi, .int .i64 va]] w fun e w' => e = .returned (.bool (big k n)) ∧ Below w.heap.size w w' := by
  unfold maxLen at hk hn
  by_cases h : 300 < k.size
  · have HE : Hid (big k n = true) := Lib.hid (by simp [big, h])
    rw [HE.out]
    go_enter Try.func65, Try.ntmps65
    go_wp2
    go_ret
    exact ⟨rfl, balloc (bsame w) _⟩
  by_cases h2 : 300 < n
  · have HE : Hid (big k n = true) := Lib.hid (by simp [big, h2])
    rw [HE.out]
    go_enter Try.func65, Try.ntmps65
    go_wp2
    go_ret
    exact ⟨by simp; omega, balloc (bsame w) _⟩
  · have HE : Hid (big k n = false) := Lib.hid (by simp [big]; omega)
    rw [HE.out]
    go_enter Try.func65, Try.ntmps65
    go_wp2
    go_ret
    exact ⟨by simp; omega, balloc (bsame w) _⟩

/-- the page's example -/
def ex : Undo := ⟨3, ⟨#[97]⟩, SlotP.none, 3⟩
theorem ex_bytes : ([] ++ UndoP.bytes ex == [3, 1, 97, 0, 0, 0, 0, 0, 0, 0, 3]) = true := by decide +kernel

set_option maxRecDepth 100000 in
set_option maxHeartbeats 1000000 in
theorem live_any (w : World) : Calls Try.prog 66 #[] w fun e w' => e = .returned (.bool true) ∧ Below w.heap.size w w' := by
  go_enter Try.func66, Try.ntmps66
  go_wp2_with fail
  have HB_0 := Lib.hid (bsame w)
  have hw_0 := HB_0.out.size
  refine (of_any none 0 0 4 ⟨#[97]⟩ [] 0 0 3 none 0 0 0 0 ⟨#[]⟩ 0 [] 0 0 0 none 0 0 0 0 ⟨#[]⟩ 0 [] 0 0 0 w (Bytes.none_ _ _) (Nat.zero_le _) (by omega) (Bytes.none_ _ _) (Nat.zero_le _) (by omega)).mono ?_
  rw [UndoP.of_inc _ _ _ rfl]
  rintro e W1 ⟨A1, n1, c1, rfl, hy1, hb1⟩
  dsimp only [SlotP.none, CellP.none] at *
  have HB_1 := Lib.hid (bstep HB_0.out hb1)
  have hw_1 := HB_1.out.size
  have hws_1 := (hb1).size
  clear hb1
  have HYa_1 := Lib.hid (hy1)
  have hn1 := hy1.len
  simp only [List.length_nil] at hn1
  subst hn1
  clear hy1
  go_wp2_with fail
  generalize hW2 : W1.alloc (.cells #[.int .i64 3, .string ⟨#[97]⟩, .int .i64 0, .string ByteArray.empty, .int .i64 0, .slice A1 0 c1, .int .i64 0, .int .i64 0, .int .i64 0, .int .i64 3] 79) = W2
  have HS0_2 : Hid (Str W2 W1.heap.size #[.int .i64 3, .string ⟨#[97]⟩, .int .i64 0, .string ByteArray.empty, .int .i64 0, .slice A1 0 c1, .int .i64 0, .int .i64 0, .int .i64 0, .int .i64 3]) := Lib.hid (by rw [← hW2]; exact Str.new W1 #[.int .i64 3, .string ⟨#[97]⟩, .int .i64 0, .string ByteArray.empty, .int .i64 0, .slice A1 0 c1, .int .i64 0, .int .i64 0, .int .i64 0, .int .i64 3] 79)
  have hba2 : Below W1.heap.size W1 W2 := by rw [← hW2]; exact balloc (bsame _) _
  have HB_2 := Lib.hid (bstep HB_1.out hba2)
  have hw_2 := HB_2.out.size
  have hws_2 := hba2.size
  have HYa_2 := Lib.hid (HYa_1.out.next hba2)
  clear HYa_1
  clear hW2
  obtain ⟨f0_2_0, f0_2_1, f0_2_2, f0_2_3, f0_2_4, f0_2_5, f0_2_6, f0_2_7, f0_2_8, f0_2_9⟩ := str10 HS0_2.out
  have hl0_2 := HS0_2.out.lt
  clear hba2
  go_wp2_with fail
  refine (put_any none 0 0 0 [] 3 ⟨#[97]⟩ A1 0 c1 W2.heap.size 0 ByteArray.empty 0 [] 0 0 0 3 _ (Bytes.none_ _ _) (Nat.zero_le _) (by omega) HYa_2.out (Nat.le_refl _) (by decide) (by decide)).mono ?_
  rintro e W3 ⟨A3, n3, c3, rfl, hy3, hb3⟩
  have HS0_3 := Lib.hid (HS0_2.out.next hb3)
  have HB_3 := Lib.hid (bstep HB_2.out hb3)
  have hw_3 := HB_3.out.size
  have hws_3 := (hb3).size
  have HYa_3 := Lib.hid (HYa_2.out.next hb3)
  clear HYa_2
  clear f0_2_0 f0_2_1 f0_2_2 f0_2_3 f0_2_4 f0_2_5 f0_2_6 f0_2_7 f0_2_8 f0_2_9 HS0_2
  clear hb3
  obtain ⟨f0_3_0, f0_3_1, f0_3_2, f0_3_3, f0_3_4, f0_3_5, f0_3_6, f0_3_7, f0_3_8, f0_3_9⟩ := str10 HS0_3.out
  have hl0_3 := HS0_3.out.lt
  have HYb_3 := Lib.hid (hy3)
  clear hy3
  go_wp2_with fail
  have HE := Lib.hid ex_bytes
  have hlb := Live05.lit_bytes W3 [3, 1, 97, 0, 0, 0, 0, 0, 0, 0, 3] _ rfl 5 (0, 0) (by decide)
  refine (Same.same_any _ _ _ _ _ _ _ _ _ [3, 1, 97, 0, 0, 0, 0, 0, 0, 0, 3] _ (HYb_3.out.alloc (Nat.le_refl _) _) hlb).mono ?_
  rintro e w4 ⟨rfl, rfl⟩
  rw [show ([] ++ UndoP.bytes ⟨3, ⟨#[97]⟩, ⟨0, ByteArray.empty, ⟨0, [], 0, 0, 0⟩⟩, 3⟩ == [3, 1, 97, 0, 0, 0, 0, 0, 0, 0, 3]) = true from HE.out]
  go_wp2_with fail
  go_ret
  exact ⟨rfl, balloc HB_3.out _⟩
end Go.Proofs.Ytjengjbkdflapaa.Live17
