/-
  The walk of ModelPlains: the Go text returns true for every input, and writes nothing that was there.
-/
import Derived.Test.YtghgccgpgonlmaaLive09
import Derived.Test.YtghgccgpgonlmaaOpenM
import Derived.Test.YtghgccgpgonlmaaModelJ
import Derived.Test.YtghgccgpgonlmaaRefModelB
namespace Go.Proofs.Ytghgccgpgonlmaa.modelPlains
open Go.RowKit ModelW
set_option linter.unusedVariables false
theorem plain_len (x : OpX) : (ModelP.plain x).data.length ≤ x.data.length := by
  unfold ModelP.plain
  dsimp only
  split <;> simp
theorem plain_in {x : OpX} (h1 : In64 x.lo) (h2 : In64 x.hi) (h3 : In64 x.n) : In64 (ModelP.plain x).lo ∧ In64 (ModelP.plain x).hi ∧ In64 (ModelP.plain x).n := by
  unfold ModelP.plain
  dsimp only
  refine ⟨?_, ?_, ?_⟩
  · split
    · exact h1
    · unfold In64; omega
  · split
    · exact h2
    · unfold In64; omega
  · split
    · exact h3
    · unfold In64; omega
set_option maxRecDepth 100000 in
set_option maxHeartbeats 1000000 in
theorem way_muchS (A : Option Addr) (n c : Nat) (l : List Pair) (act : Int) (xk : ByteArray) (xdata : List UInt8) (xlo xhi xn : Int) (Ax : Option Addr) (nx cx : Nat) (w : World) (h : Pairs w w.heap.size A n c l) (hx : Bytes w w.heap.size Ax nx cx xdata) (hk : xk.size ≤ maxLen) (hin : In64 act ∧ In64 xlo ∧ In64 xhi ∧ In64 xn) (hm : ModelP.muchS l = true) :
    Calls Try.prog 4 #[.slice A n c, .agg #[.int .i64 act, .string xk, .slice Ax nx cx, .int .i64 xlo, .int .i64 xhi, .int .i64 xn]] w fun e w' => e = .returned (.bool true) ∧ Below w.heap.size w w' := by
  have hln := h.len
  have H := Lib.hid h
  have HX := Lib.hid hx
  have HM := Lib.hid hm
  clear h hx hm hln
  go_enter Try.func4, Try.ntmps4
  go_wp2_with fail
  generalize hW0 : (w).alloc (.cells #[.int .i64 act, .string xk, .slice Ax nx cx, .int .i64 xlo, .int .i64 xhi, .int .i64 xn] 24) = W0
  have HS0_0 : Hid (Str W0 (w.heap.size) #[.int .i64 act, .string xk, .slice Ax nx cx, .int .i64 xlo, .int .i64 xhi, .int .i64 xn]) := Lib.hid (by rw [← hW0]; have := Str.new (w) #[.int .i64 act, .string xk, .slice Ax nx cx, .int .i64 xlo, .int .i64 xhi, .int .i64 xn] 24; simpa using this)
  have HB_0 : Hid (Below w.heap.size w W0) := Lib.hid (by rw [← hW0]; exact balloc (bsame w) _)
  have hw_0 := HB_0.out.size
  clear hW0
  obtain ⟨f0_0_0, f0_0_1, f0_0_2, f0_0_3, f0_0_4, f0_0_5⟩ := str6 HS0_0.out
  have hl0_0 := HS0_0.out.lt
  have hf0_0 := fun j => HS0_0.out.frozen j
  have HYx_0 := Lib.hid (HX.out.next HB_0.out)
  refine (muchState_any A n c W0.heap.size l _ (H.out.next HB_0.out) (Nat.le_refl _)).mono ?_
  rintro e W1 ⟨rfl, hb1⟩
  rw [HM.out]
  have HS0_1 := Lib.hid (HS0_0.out.next hb1)
  have HB_1 := Lib.hid (bstep HB_0.out hb1)
  have hw_1 := HB_1.out.size
  have hws_1 := (hb1).size
  have HYx_1 := Lib.hid (HYx_0.out.next hb1)
  clear HYx_0
  clear f0_0_0 f0_0_1 f0_0_2 f0_0_3 f0_0_4 f0_0_5 HS0_0 hf0_0
  clear hb1
  obtain ⟨f0_1_0, f0_1_1, f0_1_2, f0_1_3, f0_1_4, f0_1_5⟩ := str6 HS0_1.out
  have hl0_1 := HS0_1.out.lt
  have hf0_1 := fun j => HS0_1.out.frozen j
  go_wp2_with fail
  refine (Live09.live_any _).mono ?_
  rintro e W2 ⟨rfl, hb2⟩
  have HS0_2 := Lib.hid (HS0_1.out.next hb2)
  have HB_2 := Lib.hid (bstep HB_1.out hb2)
  have hw_2 := HB_2.out.size
  have hws_2 := (hb2).size
  have HYx_2 := Lib.hid (HYx_1.out.next hb2)
  clear HYx_1
  clear f0_1_0 f0_1_1 f0_1_2 f0_1_3 f0_1_4 f0_1_5 HS0_1 hf0_1
  clear hb2
  obtain ⟨f0_2_0, f0_2_1, f0_2_2, f0_2_3, f0_2_4, f0_2_5⟩ := str6 HS0_2.out
  have hl0_2 := HS0_2.out.lt
  have hf0_2 := fun j => HS0_2.out.frozen j
  go_wp2_with fail
  go_ret
  exact ⟨rfl, HB_2.out⟩
set_option maxRecDepth 100000 in
set_option maxHeartbeats 1000000 in
theorem way_muchL (A : Option Addr) (n c : Nat) (l : List Pair) (act : Int) (xk : ByteArray) (xdata : List UInt8) (xlo xhi xn : Int) (Ax : Option Addr) (nx cx : Nat) (w : World) (h : Pairs w w.heap.size A n c l) (hx : Bytes w w.heap.size Ax nx cx xdata) (hk : xk.size ≤ maxLen) (hin : In64 act ∧ In64 xlo ∧ In64 xhi ∧ In64 xn) (hm : ModelP.muchS l = false) (hl : ModelP.muchL [⟨act, xk, xdata, xlo, xhi, xn⟩] = true) :
    Calls Try.prog 4 #[.slice A n c, .agg #[.int .i64 act, .string xk, .slice Ax nx cx, .int .i64 xlo, .int .i64 xhi, .int .i64 xn]] w fun e w' => e = .returned (.bool true) ∧ Below w.heap.size w w' := by
  have hln := h.len
  have H := Lib.hid h
  have HX := Lib.hid hx
  have HM := Lib.hid hm
  have hn : n ≤ 60 := by rw [← hln]; exact (ModelP.muchS_no hm).1
  have HSM := Lib.hid (small_of hm)
  have HL := Lib.hid hl
  clear h hx hm hln hl
  go_enter Try.func4, Try.ntmps4
  go_wp2_with fail
  generalize hW0 : (w).alloc (.cells #[.int .i64 act, .string xk, .slice Ax nx cx, .int .i64 xlo, .int .i64 xhi, .int .i64 xn] 24) = W0
  have HS0_0 : Hid (Str W0 (w.heap.size) #[.int .i64 act, .string xk, .slice Ax nx cx, .int .i64 xlo, .int .i64 xhi, .int .i64 xn]) := Lib.hid (by rw [← hW0]; have := Str.new (w) #[.int .i64 act, .string xk, .slice Ax nx cx, .int .i64 xlo, .int .i64 xhi, .int .i64 xn] 24; simpa using this)
  have HB_0 : Hid (Below w.heap.size w W0) := Lib.hid (by rw [← hW0]; exact balloc (bsame w) _)
  have hw_0 := HB_0.out.size
  clear hW0
  obtain ⟨f0_0_0, f0_0_1, f0_0_2, f0_0_3, f0_0_4, f0_0_5⟩ := str6 HS0_0.out
  have hl0_0 := HS0_0.out.lt
  have hf0_0 := fun j => HS0_0.out.frozen j
  have HYx_0 := Lib.hid (HX.out.next HB_0.out)
  refine (muchState_any A n c W0.heap.size l _ (H.out.next HB_0.out) (Nat.le_refl _)).mono ?_
  rintro e W1 ⟨rfl, hb1⟩
  rw [HM.out]
  have HS0_1 := Lib.hid (HS0_0.out.next hb1)
  have HB_1 := Lib.hid (bstep HB_0.out hb1)
  have hw_1 := HB_1.out.size
  have hws_1 := (hb1).size
  have HYx_1 := Lib.hid (HYx_0.out.next hb1)
  clear HYx_0
  clear f0_0_0 f0_0_1 f0_0_2 f0_0_3 f0_0_4 f0_0_5 HS0_0 hf0_0
  clear hb1
  obtain ⟨f0_1_0, f0_1_1, f0_1_2, f0_1_3, f0_1_4, f0_1_5⟩ := str6 HS0_1.out
  have hl0_1 := HS0_1.out.lt
  have hf0_1 := fun j => HS0_1.out.frozen j
  go_wp2_with fail
  generalize hW2 : W1.alloc (.cells #[.int .i64 act, .string xk, .slice Ax nx cx, .int .i64 xlo, .int .i64 xhi, .int .i64 xn] 24) = W2
  have HS0_2 : Hid (Str W2 (w.heap.size) #[.int .i64 act, .string xk, .slice Ax nx cx, .int .i64 xlo, .int .i64 xhi, .int .i64 xn]) := Lib.hid (by rw [← hW2]; exact HS0_1.out.alloc _)
  have HS1_2 : Hid (Str W2 W1.heap.size #[.int .i64 act, .string xk, .slice Ax nx cx, .int .i64 xlo, .int .i64 xhi, .int .i64 xn]) := Lib.hid (by rw [← hW2]; exact Str.new W1 #[.int .i64 act, .string xk, .slice Ax nx cx, .int .i64 xlo, .int .i64 xhi, .int .i64 xn] 24)
  have hba2 : Below W1.heap.size W1 W2 := by rw [← hW2]; exact balloc (bsame _) _
  have HB_2 := Lib.hid (bstep HB_1.out hba2)
  have hw_2 := HB_2.out.size
  have hws_2 := hba2.size
  have HYx_2 := Lib.hid (HYx_1.out.next hba2)
  clear HYx_1
  clear hW2
  clear f0_1_0 f0_1_1 f0_1_2 f0_1_3 f0_1_4 f0_1_5 HS0_1 hf0_1
  obtain ⟨f0_2_0, f0_2_1, f0_2_2, f0_2_3, f0_2_4, f0_2_5⟩ := str6 HS0_2.out
  have hl0_2 := HS0_2.out.lt
  have hf0_2 := fun j => HS0_2.out.frozen j
  obtain ⟨f1_2_0, f1_2_1, f1_2_2, f1_2_3, f1_2_4, f1_2_5⟩ := str6 HS1_2.out
  have hl1_2 := HS1_2.out.lt
  refine (much_any (some ⟨W1.heap.size, 0, none⟩) 1 1 W2.heap.size [⟨act, xk, xdata, xlo, xhi, xn⟩] _ (op_lit HS1_2.out HYx_2.out (Nat.le_refl _) hk hin) (Nat.le_refl _)).mono ?_
  rintro e W3 ⟨rfl, hb3⟩
  rw [HL.out]
  have HS0_3 := Lib.hid (HS0_2.out.next hb3)
  have HS1_3 := Lib.hid (HS1_2.out.next hb3)
  have HB_3 := Lib.hid (bstep HB_2.out hb3)
  have hw_3 := HB_3.out.size
  have hws_3 := (hb3).size
  have HYx_3 := Lib.hid (HYx_2.out.next hb3)
  clear HYx_2
  clear f0_2_0 f0_2_1 f0_2_2 f0_2_3 f0_2_4 f0_2_5 HS0_2 hf0_2 f1_2_0 f1_2_1 f1_2_2 f1_2_3 f1_2_4 f1_2_5 HS1_2
  clear hb3
  obtain ⟨f0_3_0, f0_3_1, f0_3_2, f0_3_3, f0_3_4, f0_3_5⟩ := str6 HS0_3.out
  have hl0_3 := HS0_3.out.lt
  have hf0_3 := fun j => HS0_3.out.frozen j
  obtain ⟨f1_3_0, f1_3_1, f1_3_2, f1_3_3, f1_3_4, f1_3_5⟩ := str6 HS1_3.out
  have hl1_3 := HS1_3.out.lt
  go_wp2_with fail
  refine (Live09.live_any _).mono ?_
  rintro e W4 ⟨rfl, hb4⟩
  have HS0_4 := Lib.hid (HS0_3.out.next hb4)
  have HS1_4 := Lib.hid (HS1_3.out.next hb4)
  have HB_4 := Lib.hid (bstep HB_3.out hb4)
  have hw_4 := HB_4.out.size
  have hws_4 := (hb4).size
  have HYx_4 := Lib.hid (HYx_3.out.next hb4)
  clear HYx_3
  clear f0_3_0 f0_3_1 f0_3_2 f0_3_3 f0_3_4 f0_3_5 HS0_3 hf0_3 f1_3_0 f1_3_1 f1_3_2 f1_3_3 f1_3_4 f1_3_5 HS1_3
  clear hb4
  obtain ⟨f0_4_0, f0_4_1, f0_4_2, f0_4_3, f0_4_4, f0_4_5⟩ := str6 HS0_4.out
  have hl0_4 := HS0_4.out.lt
  have hf0_4 := fun j => HS0_4.out.frozen j
  obtain ⟨f1_4_0, f1_4_1, f1_4_2, f1_4_3, f1_4_4, f1_4_5⟩ := str6 HS1_4.out
  have hl1_4 := HS1_4.out.lt
  go_wp2_with fail
  go_ret
  exact ⟨rfl, HB_4.out⟩
set_option maxRecDepth 100000 in
set_option maxHeartbeats 1000000 in
theorem way_wrong (A : Option Addr) (n c : Nat) (l : List Pair) (act : Int) (xk : ByteArray) (xdata : List UInt8) (xlo xhi xn : Int) (Ax : Option Addr) (nx cx : Nat) (w : World) (h : Pairs w w.heap.size A n c l) (hx : Bytes w w.heap.size Ax nx cx xdata) (hk : xk.size ≤ maxLen) (hin : In64 act ∧ In64 xlo ∧ In64 xhi ∧ In64 xn) (hm : ModelP.muchS l = false) (hl : ModelP.muchL [⟨act, xk, xdata, xlo, xhi, xn⟩] = false) (hr : ModelP.rightB l = false) :
    Calls Try.prog 4 #[.slice A n c, .agg #[.int .i64 act, .string xk, .slice Ax nx cx, .int .i64 xlo, .int .i64 xhi, .int .i64 xn]] w fun e w' => e = .returned (.bool true) ∧ Below w.heap.size w w' := by
  have hln := h.len
  have H := Lib.hid h
  have HX := Lib.hid hx
  have HM := Lib.hid hm
  have hn : n ≤ 60 := by rw [← hln]; exact (ModelP.muchS_no hm).1
  have HSM := Lib.hid (small_of hm)
  have HL := Lib.hid hl
  have hnx : nx ≤ 300 := by rw [← hx.len]; exact ((ModelP.muchL_no hl).2 _ (List.mem_singleton.2 rfl)).2
  have HR := Lib.hid hr
  clear h hx hm hln hl hr
  go_enter Try.func4, Try.ntmps4
  go_wp2_with fail
  generalize hW0 : (w).alloc (.cells #[.int .i64 act, .string xk, .slice Ax nx cx, .int .i64 xlo, .int .i64 xhi, .int .i64 xn] 24) = W0
  have HS0_0 : Hid (Str W0 (w.heap.size) #[.int .i64 act, .string xk, .slice Ax nx cx, .int .i64 xlo, .int .i64 xhi, .int .i64 xn]) := Lib.hid (by rw [← hW0]; have := Str.new (w) #[.int .i64 act, .string xk, .slice Ax nx cx, .int .i64 xlo, .int .i64 xhi, .int .i64 xn] 24; simpa using this)
  have HB_0 : Hid (Below w.heap.size w W0) := Lib.hid (by rw [← hW0]; exact balloc (bsame w) _)
  have hw_0 := HB_0.out.size
  clear hW0
  obtain ⟨f0_0_0, f0_0_1, f0_0_2, f0_0_3, f0_0_4, f0_0_5⟩ := str6 HS0_0.out
  have hl0_0 := HS0_0.out.lt
  have hf0_0 := fun j => HS0_0.out.frozen j
  have HYx_0 := Lib.hid (HX.out.next HB_0.out)
  refine (muchState_any A n c W0.heap.size l _ (H.out.next HB_0.out) (Nat.le_refl _)).mono ?_
  rintro e W1 ⟨rfl, hb1⟩
  rw [HM.out]
  have HS0_1 := Lib.hid (HS0_0.out.next hb1)
  have HB_1 := Lib.hid (bstep HB_0.out hb1)
  have hw_1 := HB_1.out.size
  have hws_1 := (hb1).size
  have HYx_1 := Lib.hid (HYx_0.out.next hb1)
  clear HYx_0
  clear f0_0_0 f0_0_1 f0_0_2 f0_0_3 f0_0_4 f0_0_5 HS0_0 hf0_0
  clear hb1
  obtain ⟨f0_1_0, f0_1_1, f0_1_2, f0_1_3, f0_1_4, f0_1_5⟩ := str6 HS0_1.out
  have hl0_1 := HS0_1.out.lt
  have hf0_1 := fun j => HS0_1.out.frozen j
  go_wp2_with fail
  generalize hW2 : W1.alloc (.cells #[.int .i64 act, .string xk, .slice Ax nx cx, .int .i64 xlo, .int .i64 xhi, .int .i64 xn] 24) = W2
  have HS0_2 : Hid (Str W2 (w.heap.size) #[.int .i64 act, .string xk, .slice Ax nx cx, .int .i64 xlo, .int .i64 xhi, .int .i64 xn]) := Lib.hid (by rw [← hW2]; exact HS0_1.out.alloc _)
  have HS1_2 : Hid (Str W2 W1.heap.size #[.int .i64 act, .string xk, .slice Ax nx cx, .int .i64 xlo, .int .i64 xhi, .int .i64 xn]) := Lib.hid (by rw [← hW2]; exact Str.new W1 #[.int .i64 act, .string xk, .slice Ax nx cx, .int .i64 xlo, .int .i64 xhi, .int .i64 xn] 24)
  have hba2 : Below W1.heap.size W1 W2 := by rw [← hW2]; exact balloc (bsame _) _
  have HB_2 := Lib.hid (bstep HB_1.out hba2)
  have hw_2 := HB_2.out.size
  have hws_2 := hba2.size
  have HYx_2 := Lib.hid (HYx_1.out.next hba2)
  clear HYx_1
  clear hW2
  clear f0_1_0 f0_1_1 f0_1_2 f0_1_3 f0_1_4 f0_1_5 HS0_1 hf0_1
  obtain ⟨f0_2_0, f0_2_1, f0_2_2, f0_2_3, f0_2_4, f0_2_5⟩ := str6 HS0_2.out
  have hl0_2 := HS0_2.out.lt
  have hf0_2 := fun j => HS0_2.out.frozen j
  obtain ⟨f1_2_0, f1_2_1, f1_2_2, f1_2_3, f1_2_4, f1_2_5⟩ := str6 HS1_2.out
  have hl1_2 := HS1_2.out.lt
  refine (much_any (some ⟨W1.heap.size, 0, none⟩) 1 1 W2.heap.size [⟨act, xk, xdata, xlo, xhi, xn⟩] _ (op_lit HS1_2.out HYx_2.out (Nat.le_refl _) hk hin) (Nat.le_refl _)).mono ?_
  rintro e W3 ⟨rfl, hb3⟩
  rw [HL.out]
  have HS0_3 := Lib.hid (HS0_2.out.next hb3)
  have HS1_3 := Lib.hid (HS1_2.out.next hb3)
  have HB_3 := Lib.hid (bstep HB_2.out hb3)
  have hw_3 := HB_3.out.size
  have hws_3 := (hb3).size
  have HYx_3 := Lib.hid (HYx_2.out.next hb3)
  clear HYx_2
  clear f0_2_0 f0_2_1 f0_2_2 f0_2_3 f0_2_4 f0_2_5 HS0_2 hf0_2 f1_2_0 f1_2_1 f1_2_2 f1_2_3 f1_2_4 f1_2_5 HS1_2
  clear hb3
  obtain ⟨f0_3_0, f0_3_1, f0_3_2, f0_3_3, f0_3_4, f0_3_5⟩ := str6 HS0_3.out
  have hl0_3 := HS0_3.out.lt
  have hf0_3 := fun j => HS0_3.out.frozen j
  obtain ⟨f1_3_0, f1_3_1, f1_3_2, f1_3_3, f1_3_4, f1_3_5⟩ := str6 HS1_3.out
  have hl1_3 := HS1_3.out.lt
  go_wp2_with fail
  refine (refRight_any A n c W3.heap.size l _ (H.out.next HB_3.out) (Nat.le_refl _) (by omega)).mono ?_
  rintro e W4 ⟨rfl, hb4⟩
  rw [HR.out]
  have HS0_4 := Lib.hid (HS0_3.out.next hb4)
  have HS1_4 := Lib.hid (HS1_3.out.next hb4)
  have HB_4 := Lib.hid (bstep HB_3.out hb4)
  have hw_4 := HB_4.out.size
  have hws_4 := (hb4).size
  have HYx_4 := Lib.hid (HYx_3.out.next hb4)
  clear HYx_3
  clear f0_3_0 f0_3_1 f0_3_2 f0_3_3 f0_3_4 f0_3_5 HS0_3 hf0_3 f1_3_0 f1_3_1 f1_3_2 f1_3_3 f1_3_4 f1_3_5 HS1_3
  clear hb4
  obtain ⟨f0_4_0, f0_4_1, f0_4_2, f0_4_3, f0_4_4, f0_4_5⟩ := str6 HS0_4.out
  have hl0_4 := HS0_4.out.lt
  have hf0_4 := fun j => HS0_4.out.frozen j
  obtain ⟨f1_4_0, f1_4_1, f1_4_2, f1_4_3, f1_4_4, f1_4_5⟩ := str6 HS1_4.out
  have hl1_4 := HS1_4.out.lt
  go_wp2_with fail
  refine (Live09.live_any _).mono ?_
  rintro e W5 ⟨rfl, hb5⟩
  have HS0_5 := Lib.hid (HS0_4.out.next hb5)
  have HS1_5 := Lib.hid (HS1_4.out.next hb5)
  have HB_5 := Lib.hid (bstep HB_4.out hb5)
  have hw_5 := HB_5.out.size
  have hws_5 := (hb5).size
  have HYx_5 := Lib.hid (HYx_4.out.next hb5)
  clear HYx_4
  clear f0_4_0 f0_4_1 f0_4_2 f0_4_3 f0_4_4 f0_4_5 HS0_4 hf0_4 f1_4_0 f1_4_1 f1_4_2 f1_4_3 f1_4_4 f1_4_5 HS1_4
  clear hb5
  obtain ⟨f0_5_0, f0_5_1, f0_5_2, f0_5_3, f0_5_4, f0_5_5⟩ := str6 HS0_5.out
  have hl0_5 := HS0_5.out.lt
  have hf0_5 := fun j => HS0_5.out.frozen j
  obtain ⟨f1_5_0, f1_5_1, f1_5_2, f1_5_3, f1_5_4, f1_5_5⟩ := str6 HS1_5.out
  have hl1_5 := HS1_5.out.lt
  go_wp2_with fail
  go_ret
  exact ⟨rfl, HB_5.out⟩
set_option maxRecDepth 100000 in
set_option maxHeartbeats 1000000 in
theorem way_main (A : Option Addr) (n c : Nat) (l : List Pair) (act : Int) (xk : ByteArray) (xdata : List UInt8) (xlo xhi xn : Int) (Ax : Option Addr) (nx cx : Nat) (w : World) (h : Pairs w w.heap.size A n c l) (hx : Bytes w w.heap.size Ax nx cx xdata) (hk : xk.size ≤ maxLen) (hin : In64 act ∧ In64 xlo ∧ In64 xhi ∧ In64 xn) (hm : ModelP.muchS l = false) (hl : ModelP.muchL [⟨act, xk, xdata, xlo, xhi, xn⟩] = false) (hr : ModelP.rightB l = true) :
    Calls Try.prog 4 #[.slice A n c, .agg #[.int .i64 act, .string xk, .slice Ax nx cx, .int .i64 xlo, .int .i64 xhi, .int .i64 xn]] w fun e w' => e = .returned (.bool true) ∧ Below w.heap.size w w' := by
  have hln := h.len
  have H := Lib.hid h
  have HX := Lib.hid hx
  have HM := Lib.hid hm
  have hn : n ≤ 60 := by rw [← hln]; exact (ModelP.muchS_no hm).1
  have HSM := Lib.hid (small_of hm)
  have HL := Lib.hid hl
  have hnx : nx ≤ 300 := by rw [← hx.len]; exact ((ModelP.muchL_no hl).2 _ (List.mem_singleton.2 rfl)).2
  have HR := Lib.hid hr
  have HRI := Lib.hid ((ModelP.rightB_iff l).1 hr).2
  obtain ⟨r, hrr⟩ : ∃ r, ModelP.step l ⟨act, xk, xdata, xlo, xhi, xn⟩ = r := ⟨_, rfl⟩
  have HRR := Lib.hid hrr
  have HRP : Hid (ModelP.step l (ModelP.plain ⟨act, xk, xdata, xlo, xhi, xn⟩) = r) := Lib.hid (by rw [ModelP.step_plain]; exact hrr)
  clear hrr
  have HPL := Lib.hid (plain_len ⟨act, xk, xdata, xlo, xhi, xn⟩)
  have HPI := Lib.hid (plain_in (x := ⟨act, xk, xdata, xlo, xhi, xn⟩) hin.2.1 hin.2.2.1 hin.2.2.2)
  have HSA : Hid (ModelP.sameAll r.1 r.1 = true) := Lib.hid (ModelP.same_self _)
  have HSB : Hid (ModelP.sameAns r.2 r.2 = true) := Lib.hid (ModelP.ans_self _)
  have HRL : Hid (r.1.length ≤ 100000) := Lib.hid (by have := ModelP.step_length l ⟨act, xk, xdata, xlo, xhi, xn⟩; rw [HRR.out] at this; omega)
  clear h hx hm hln hl hr
  go_enter Try.func4, Try.ntmps4
  go_wp2_with fail
  generalize hW0 : (w).alloc (.cells #[.int .i64 act, .string xk, .slice Ax nx cx, .int .i64 xlo, .int .i64 xhi, .int .i64 xn] 24) = W0
  have HS0_0 : Hid (Str W0 (w.heap.size) #[.int .i64 act, .string xk, .slice Ax nx cx, .int .i64 xlo, .int .i64 xhi, .int .i64 xn]) := Lib.hid (by rw [← hW0]; have := Str.new (w) #[.int .i64 act, .string xk, .slice Ax nx cx, .int .i64 xlo, .int .i64 xhi, .int .i64 xn] 24; simpa using this)
  have HB_0 : Hid (Below w.heap.size w W0) := Lib.hid (by rw [← hW0]; exact balloc (bsame w) _)
  have hw_0 := HB_0.out.size
  clear hW0
  obtain ⟨f0_0_0, f0_0_1, f0_0_2, f0_0_3, f0_0_4, f0_0_5⟩ := str6 HS0_0.out
  have hl0_0 := HS0_0.out.lt
  have hf0_0 := fun j => HS0_0.out.frozen j
  have HYx_0 := Lib.hid (HX.out.next HB_0.out)
  refine (muchState_any A n c W0.heap.size l _ (H.out.next HB_0.out) (Nat.le_refl _)).mono ?_
  rintro e W1 ⟨rfl, hb1⟩
  rw [HM.out]
  have HS0_1 := Lib.hid (HS0_0.out.next hb1)
  have HB_1 := Lib.hid (bstep HB_0.out hb1)
  have hw_1 := HB_1.out.size
  have hws_1 := (hb1).size
  have HYx_1 := Lib.hid (HYx_0.out.next hb1)
  clear HYx_0
  clear f0_0_0 f0_0_1 f0_0_2 f0_0_3 f0_0_4 f0_0_5 HS0_0 hf0_0
  clear hb1
  obtain ⟨f0_1_0, f0_1_1, f0_1_2, f0_1_3, f0_1_4, f0_1_5⟩ := str6 HS0_1.out
  have hl0_1 := HS0_1.out.lt
  have hf0_1 := fun j => HS0_1.out.frozen j
  go_wp2_with fail
  generalize hW2 : W1.alloc (.cells #[.int .i64 act, .string xk, .slice Ax nx cx, .int .i64 xlo, .int .i64 xhi, .int .i64 xn] 24) = W2
  have HS0_2 : Hid (Str W2 (w.heap.size) #[.int .i64 act, .string xk, .slice Ax nx cx, .int .i64 xlo, .int .i64 xhi, .int .i64 xn]) := Lib.hid (by rw [← hW2]; exact HS0_1.out.alloc _)
  have HS1_2 : Hid (Str W2 W1.heap.size #[.int .i64 act, .string xk, .slice Ax nx cx, .int .i64 xlo, .int .i64 xhi, .int .i64 xn]) := Lib.hid (by rw [← hW2]; exact Str.new W1 #[.int .i64 act, .string xk, .slice Ax nx cx, .int .i64 xlo, .int .i64 xhi, .int .i64 xn] 24)
  have hba2 : Below W1.heap.size W1 W2 := by rw [← hW2]; exact balloc (bsame _) _
  have HB_2 := Lib.hid (bstep HB_1.out hba2)
  have hw_2 := HB_2.out.size
  have hws_2 := hba2.size
  have HYx_2 := Lib.hid (HYx_1.out.next hba2)
  clear HYx_1
  clear hW2
  clear f0_1_0 f0_1_1 f0_1_2 f0_1_3 f0_1_4 f0_1_5 HS0_1 hf0_1
  obtain ⟨f0_2_0, f0_2_1, f0_2_2, f0_2_3, f0_2_4, f0_2_5⟩ := str6 HS0_2.out
  have hl0_2 := HS0_2.out.lt
  have hf0_2 := fun j => HS0_2.out.frozen j
  obtain ⟨f1_2_0, f1_2_1, f1_2_2, f1_2_3, f1_2_4, f1_2_5⟩ := str6 HS1_2.out
  have hl1_2 := HS1_2.out.lt
  refine (much_any (some ⟨W1.heap.size, 0, none⟩) 1 1 W2.heap.size [⟨act, xk, xdata, xlo, xhi, xn⟩] _ (op_lit HS1_2.out HYx_2.out (Nat.le_refl _) hk hin) (Nat.le_refl _)).mono ?_
  rintro e W3 ⟨rfl, hb3⟩
  rw [HL.out]
  have HS0_3 := Lib.hid (HS0_2.out.next hb3)
  have HS1_3 := Lib.hid (HS1_2.out.next hb3)
  have HB_3 := Lib.hid (bstep HB_2.out hb3)
  have hw_3 := HB_3.out.size
  have hws_3 := (hb3).size
  have HYx_3 := Lib.hid (HYx_2.out.next hb3)
  clear HYx_2
  clear f0_2_0 f0_2_1 f0_2_2 f0_2_3 f0_2_4 f0_2_5 HS0_2 hf0_2 f1_2_0 f1_2_1 f1_2_2 f1_2_3 f1_2_4 f1_2_5 HS1_2
  clear hb3
  obtain ⟨f0_3_0, f0_3_1, f0_3_2, f0_3_3, f0_3_4, f0_3_5⟩ := str6 HS0_3.out
  have hl0_3 := HS0_3.out.lt
  have hf0_3 := fun j => HS0_3.out.frozen j
  obtain ⟨f1_3_0, f1_3_1, f1_3_2, f1_3_3, f1_3_4, f1_3_5⟩ := str6 HS1_3.out
  have hl1_3 := HS1_3.out.lt
  go_wp2_with fail
  refine (refRight_any A n c W3.heap.size l _ (H.out.next HB_3.out) (Nat.le_refl _) (by omega)).mono ?_
  rintro e W4 ⟨rfl, hb4⟩
  rw [HR.out]
  have HS0_4 := Lib.hid (HS0_3.out.next hb4)
  have HS1_4 := Lib.hid (HS1_3.out.next hb4)
  have HB_4 := Lib.hid (bstep HB_3.out hb4)
  have hw_4 := HB_4.out.size
  have hws_4 := (hb4).size
  have HYx_4 := Lib.hid (HYx_3.out.next hb4)
  clear HYx_3
  clear f0_3_0 f0_3_1 f0_3_2 f0_3_3 f0_3_4 f0_3_5 HS0_3 hf0_3 f1_3_0 f1_3_1 f1_3_2 f1_3_3 f1_3_4 f1_3_5 HS1_3
  clear hb4
  obtain ⟨f0_4_0, f0_4_1, f0_4_2, f0_4_3, f0_4_4, f0_4_5⟩ := str6 HS0_4.out
  have hl0_4 := HS0_4.out.lt
  have hf0_4 := fun j => HS0_4.out.frozen j
  obtain ⟨f1_4_0, f1_4_1, f1_4_2, f1_4_3, f1_4_4, f1_4_5⟩ := str6 HS1_4.out
  have hl1_4 := HS1_4.out.lt
  go_wp2_with fail
  refine (Step_any A n c W4.heap.size l act xk xdata Ax nx cx W4.heap.size xlo xhi xn _ (H.out.next HB_4.out) (Nat.le_refl _) HRI.out HSM.out HYx_4.out (Nat.le_refl _) hk hin.2.1 hin.2.2.1 hin.2.2.2 (by omega)).mono ?_
  rintro e W5 ⟨A1, n1, c1, Aa, na, ca, rfl, hp1, hy1, hb5⟩
  have HS0_5 := Lib.hid (HS0_4.out.next hb5)
  have HS1_5 := Lib.hid (HS1_4.out.next hb5)
  have HB_5 := Lib.hid (bstep HB_4.out hb5)
  have hw_5 := HB_5.out.size
  have hws_5 := (hb5).size
  have HYx_5 := Lib.hid (HYx_4.out.next hb5)
  clear HYx_4
  clear f0_4_0 f0_4_1 f0_4_2 f0_4_3 f0_4_4 f0_4_5 HS0_4 hf0_4 f1_4_0 f1_4_1 f1_4_2 f1_4_3 f1_4_4 f1_4_5 HS1_4
  clear hb5
  obtain ⟨f0_5_0, f0_5_1, f0_5_2, f0_5_3, f0_5_4, f0_5_5⟩ := str6 HS0_5.out
  have hl0_5 := HS0_5.out.lt
  have hf0_5 := fun j => HS0_5.out.frozen j
  obtain ⟨f1_5_0, f1_5_1, f1_5_2, f1_5_3, f1_5_4, f1_5_5⟩ := str6 HS1_5.out
  have hl1_5 := HS1_5.out.lt
  rw [HRR.out] at hp1 hy1
  rw [HRR.out]
  simp only [ansV]
  have HP1_5 := Lib.hid hp1
  have HYa_5 := Lib.hid (hy1)
  clear hp1 hy1
  go_wp2_with fail
  generalize hW6 : W5.alloc (.cells #[.int .i64 r.2.err, .int .i64 r.2.cell.kind, .slice Aa na ca, .int .i64 r.2.cell.lo, .int .i64 r.2.cell.hi, .int .i64 r.2.cell.val] 39) = W6
  have HS0_6 : Hid (Str W6 (w.heap.size) #[.int .i64 act, .string xk, .slice Ax nx cx, .int .i64 xlo, .int .i64 xhi, .int .i64 xn]) := Lib.hid (by rw [← hW6]; exact HS0_5.out.alloc _)
  have HS1_6 : Hid (Str W6 (W1.heap.size) #[.int .i64 act, .string xk, .slice Ax nx cx, .int .i64 xlo, .int .i64 xhi, .int .i64 xn]) := Lib.hid (by rw [← hW6]; exact HS1_5.out.alloc _)
  have HS2_6 : Hid (Str W6 W5.heap.size #[.int .i64 r.2.err, .int .i64 r.2.cell.kind, .slice Aa na ca, .int .i64 r.2.cell.lo, .int .i64 r.2.cell.hi, .int .i64 r.2.cell.val]) := Lib.hid (by rw [← hW6]; exact Str.new W5 #[.int .i64 r.2.err, .int .i64 r.2.cell.kind, .slice Aa na ca, .int .i64 r.2.cell.lo, .int .i64 r.2.cell.hi, .int .i64 r.2.cell.val] 39)
  have hba6 : Below W5.heap.size W5 W6 := by rw [← hW6]; exact balloc (bsame _) _
  have HB_6 := Lib.hid (bstep HB_5.out hba6)
  have hw_6 := HB_6.out.size
  have hws_6 := hba6.size
  have HYx_6 := Lib.hid (HYx_5.out.next hba6)
  have HYa_6 := Lib.hid (HYa_5.out.next hba6)
  clear HYx_5 HYa_5
  clear hW6
  clear f0_5_0 f0_5_1 f0_5_2 f0_5_3 f0_5_4 f0_5_5 HS0_5 hf0_5 f1_5_0 f1_5_1 f1_5_2 f1_5_3 f1_5_4 f1_5_5 HS1_5
  obtain ⟨f0_6_0, f0_6_1, f0_6_2, f0_6_3, f0_6_4, f0_6_5⟩ := str6 HS0_6.out
  have hl0_6 := HS0_6.out.lt
  have hf0_6 := fun j => HS0_6.out.frozen j
  obtain ⟨f1_6_0, f1_6_1, f1_6_2, f1_6_3, f1_6_4, f1_6_5⟩ := str6 HS1_6.out
  have hl1_6 := HS1_6.out.lt
  obtain ⟨f2_6_0, f2_6_1, f2_6_2, f2_6_3, f2_6_4, f2_6_5⟩ := str6 HS2_6.out
  have hl2_6 := HS2_6.out.lt
  have HP1_6 := Lib.hid (HP1_5.out.next hba6)
  clear HP1_5
  refine (Plain_any ⟨act, xk, xdata, xlo, xhi, xn⟩ Ax nx cx W6.heap.size _ HYx_6.out (Nat.le_refl _) (by omega)).mono ?_
  rintro e W7 ⟨Ap, np, cp, rfl, hyp, hb7⟩
  have HS0_7 := Lib.hid (HS0_6.out.next hb7)
  have HS1_7 := Lib.hid (HS1_6.out.next hb7)
  have HS2_7 := Lib.hid (HS2_6.out.next hb7)
  have HB_7 := Lib.hid (bstep HB_6.out hb7)
  have hw_7 := HB_7.out.size
  have hws_7 := (hb7).size
  have HYx_7 := Lib.hid (HYx_6.out.next hb7)
  have HYa_7 := Lib.hid (HYa_6.out.next hb7)
  clear HYx_6 HYa_6
  clear f0_6_0 f0_6_1 f0_6_2 f0_6_3 f0_6_4 f0_6_5 HS0_6 hf0_6 f1_6_0 f1_6_1 f1_6_2 f1_6_3 f1_6_4 f1_6_5 HS1_6 f2_6_0 f2_6_1 f2_6_2 f2_6_3 f2_6_4 f2_6_5 HS2_6
  obtain ⟨f0_7_0, f0_7_1, f0_7_2, f0_7_3, f0_7_4, f0_7_5⟩ := str6 HS0_7.out
  have hl0_7 := HS0_7.out.lt
  have hf0_7 := fun j => HS0_7.out.frozen j
  obtain ⟨f1_7_0, f1_7_1, f1_7_2, f1_7_3, f1_7_4, f1_7_5⟩ := str6 HS1_7.out
  have hl1_7 := HS1_7.out.lt
  obtain ⟨f2_7_0, f2_7_1, f2_7_2, f2_7_3, f2_7_4, f2_7_5⟩ := str6 HS2_7.out
  have hl2_7 := HS2_7.out.lt
  have HP1_7 := Lib.hid (HP1_6.out.next hb7)
  clear HP1_6 hb7
  have hnp : np ≤ 100000 := by have h1 := hyp.len; have h2 := HPL.out; have h3 := HYx_7.out.len; omega
  have HYp_7 := Lib.hid (hyp)
  clear hyp
  simp only [opV]
  go_wp2_with fail
  refine (Step_any A n c W7.heap.size l (ModelP.plain ⟨act, xk, xdata, xlo, xhi, xn⟩).act xk (ModelP.plain ⟨act, xk, xdata, xlo, xhi, xn⟩).data Ap np cp W7.heap.size (ModelP.plain ⟨act, xk, xdata, xlo, xhi, xn⟩).lo (ModelP.plain ⟨act, xk, xdata, xlo, xhi, xn⟩).hi (ModelP.plain ⟨act, xk, xdata, xlo, xhi, xn⟩).n _ (H.out.next HB_7.out) (Nat.le_refl _) HRI.out HSM.out HYp_7.out (Nat.le_refl _) hk HPI.out.1 HPI.out.2.1 HPI.out.2.2 hnp).mono ?_
  rintro e W8 ⟨A2, n2, c2, Ab, nb, cb, rfl, hp2, hy2, hb8⟩
  have HS0_8 := Lib.hid (HS0_7.out.next hb8)
  have HS1_8 := Lib.hid (HS1_7.out.next hb8)
  have HS2_8 := Lib.hid (HS2_7.out.next hb8)
  have HB_8 := Lib.hid (bstep HB_7.out hb8)
  have hw_8 := HB_8.out.size
  have hws_8 := (hb8).size
  have HYx_8 := Lib.hid (HYx_7.out.next hb8)
  have HYa_8 := Lib.hid (HYa_7.out.next hb8)
  have HYp_8 := Lib.hid (HYp_7.out.next hb8)
  clear HYx_7 HYa_7 HYp_7
  clear f0_7_0 f0_7_1 f0_7_2 f0_7_3 f0_7_4 f0_7_5 HS0_7 hf0_7 f1_7_0 f1_7_1 f1_7_2 f1_7_3 f1_7_4 f1_7_5 HS1_7 f2_7_0 f2_7_1 f2_7_2 f2_7_3 f2_7_4 f2_7_5 HS2_7
  obtain ⟨f0_8_0, f0_8_1, f0_8_2, f0_8_3, f0_8_4, f0_8_5⟩ := str6 HS0_8.out
  have hl0_8 := HS0_8.out.lt
  have hf0_8 := fun j => HS0_8.out.frozen j
  obtain ⟨f1_8_0, f1_8_1, f1_8_2, f1_8_3, f1_8_4, f1_8_5⟩ := str6 HS1_8.out
  have hl1_8 := HS1_8.out.lt
  obtain ⟨f2_8_0, f2_8_1, f2_8_2, f2_8_3, f2_8_4, f2_8_5⟩ := str6 HS2_8.out
  have hl2_8 := HS2_8.out.lt
  have HP1_8 := Lib.hid (HP1_7.out.next hb8)
  clear HP1_7 hb8
  rw [show ModelP.step l ⟨(ModelP.plain ⟨act, xk, xdata, xlo, xhi, xn⟩).act, xk, (ModelP.plain ⟨act, xk, xdata, xlo, xhi, xn⟩).data, (ModelP.plain ⟨act, xk, xdata, xlo, xhi, xn⟩).lo, (ModelP.plain ⟨act, xk, xdata, xlo, xhi, xn⟩).hi, (ModelP.plain ⟨act, xk, xdata, xlo, xhi, xn⟩).n⟩ = r from HRP.out] at hp2 hy2
  rw [show ModelP.step l ⟨(ModelP.plain ⟨act, xk, xdata, xlo, xhi, xn⟩).act, xk, (ModelP.plain ⟨act, xk, xdata, xlo, xhi, xn⟩).data, (ModelP.plain ⟨act, xk, xdata, xlo, xhi, xn⟩).lo, (ModelP.plain ⟨act, xk, xdata, xlo, xhi, xn⟩).hi, (ModelP.plain ⟨act, xk, xdata, xlo, xhi, xn⟩).n⟩ = r from HRP.out]
  simp only [ansV]
  have HP2_8 := Lib.hid hp2
  have HYb_8 := Lib.hid (hy2)
  clear hp2 hy2
  go_wp2_with fail
  generalize hW9 : W8.alloc (.cells #[.int .i64 r.2.err, .int .i64 r.2.cell.kind, .slice Ab nb cb, .int .i64 r.2.cell.lo, .int .i64 r.2.cell.hi, .int .i64 r.2.cell.val] 39) = W9
  have HS0_9 : Hid (Str W9 (w.heap.size) #[.int .i64 act, .string xk, .slice Ax nx cx, .int .i64 xlo, .int .i64 xhi, .int .i64 xn]) := Lib.hid (by rw [← hW9]; exact HS0_8.out.alloc _)
  have HS1_9 : Hid (Str W9 (W1.heap.size) #[.int .i64 act, .string xk, .slice Ax nx cx, .int .i64 xlo, .int .i64 xhi, .int .i64 xn]) := Lib.hid (by rw [← hW9]; exact HS1_8.out.alloc _)
  have HS2_9 : Hid (Str W9 (W5.heap.size) #[.int .i64 r.2.err, .int .i64 r.2.cell.kind, .slice Aa na ca, .int .i64 r.2.cell.lo, .int .i64 r.2.cell.hi, .int .i64 r.2.cell.val]) := Lib.hid (by rw [← hW9]; exact HS2_8.out.alloc _)
  have HS3_9 : Hid (Str W9 W8.heap.size #[.int .i64 r.2.err, .int .i64 r.2.cell.kind, .slice Ab nb cb, .int .i64 r.2.cell.lo, .int .i64 r.2.cell.hi, .int .i64 r.2.cell.val]) := Lib.hid (by rw [← hW9]; exact Str.new W8 #[.int .i64 r.2.err, .int .i64 r.2.cell.kind, .slice Ab nb cb, .int .i64 r.2.cell.lo, .int .i64 r.2.cell.hi, .int .i64 r.2.cell.val] 39)
  have hba9 : Below W8.heap.size W8 W9 := by rw [← hW9]; exact balloc (bsame _) _
  have HB_9 := Lib.hid (bstep HB_8.out hba9)
  have hw_9 := HB_9.out.size
  have hws_9 := hba9.size
  have HYx_9 := Lib.hid (HYx_8.out.next hba9)
  have HYa_9 := Lib.hid (HYa_8.out.next hba9)
  have HYp_9 := Lib.hid (HYp_8.out.next hba9)
  have HYb_9 := Lib.hid (HYb_8.out.next hba9)
  clear HYx_8 HYa_8 HYp_8 HYb_8
  clear hW9
  clear f0_8_0 f0_8_1 f0_8_2 f0_8_3 f0_8_4 f0_8_5 HS0_8 hf0_8 f1_8_0 f1_8_1 f1_8_2 f1_8_3 f1_8_4 f1_8_5 HS1_8 f2_8_0 f2_8_1 f2_8_2 f2_8_3 f2_8_4 f2_8_5 HS2_8
  obtain ⟨f0_9_0, f0_9_1, f0_9_2, f0_9_3, f0_9_4, f0_9_5⟩ := str6 HS0_9.out
  have hl0_9 := HS0_9.out.lt
  have hf0_9 := fun j => HS0_9.out.frozen j
  obtain ⟨f1_9_0, f1_9_1, f1_9_2, f1_9_3, f1_9_4, f1_9_5⟩ := str6 HS1_9.out
  have hl1_9 := HS1_9.out.lt
  obtain ⟨f2_9_0, f2_9_1, f2_9_2, f2_9_3, f2_9_4, f2_9_5⟩ := str6 HS2_9.out
  have hl2_9 := HS2_9.out.lt
  obtain ⟨f3_9_0, f3_9_1, f3_9_2, f3_9_3, f3_9_4, f3_9_5⟩ := str6 HS3_9.out
  have hl3_9 := HS3_9.out.lt
  have HP1_9 := Lib.hid (HP1_8.out.next hba9)
  clear HP1_8
  have HP2_9 := Lib.hid (HP2_8.out.next hba9)
  clear HP2_8
  refine (refSameS_any A1 A2 n1 c1 n2 c2 W9.heap.size W9.heap.size r.1 r.1 _ HP1_9.out (Nat.le_refl _) HP2_9.out (Nat.le_refl _) (by have := HP1_9.out.len; have := HRL.out; omega)).mono ?_
  rintro e W10 ⟨rfl, hb10⟩
  rw [HSA.out]
  have HS0_10 := Lib.hid (HS0_9.out.next hb10)
  have HS1_10 := Lib.hid (HS1_9.out.next hb10)
  have HS2_10 := Lib.hid (HS2_9.out.next hb10)
  have HS3_10 := Lib.hid (HS3_9.out.next hb10)
  have HB_10 := Lib.hid (bstep HB_9.out hb10)
  have hw_10 := HB_10.out.size
  have hws_10 := (hb10).size
  have HYx_10 := Lib.hid (HYx_9.out.next hb10)
  have HYa_10 := Lib.hid (HYa_9.out.next hb10)
  have HYp_10 := Lib.hid (HYp_9.out.next hb10)
  have HYb_10 := Lib.hid (HYb_9.out.next hb10)
  clear HYx_9 HYa_9 HYp_9 HYb_9
  clear f0_9_0 f0_9_1 f0_9_2 f0_9_3 f0_9_4 f0_9_5 HS0_9 hf0_9 f1_9_0 f1_9_1 f1_9_2 f1_9_3 f1_9_4 f1_9_5 HS1_9 f2_9_0 f2_9_1 f2_9_2 f2_9_3 f2_9_4 f2_9_5 HS2_9 f3_9_0 f3_9_1 f3_9_2 f3_9_3 f3_9_4 f3_9_5 HS3_9
  clear hb10
  obtain ⟨f0_10_0, f0_10_1, f0_10_2, f0_10_3, f0_10_4, f0_10_5⟩ := str6 HS0_10.out
  have hl0_10 := HS0_10.out.lt
  have hf0_10 := fun j => HS0_10.out.frozen j
  obtain ⟨f1_10_0, f1_10_1, f1_10_2, f1_10_3, f1_10_4, f1_10_5⟩ := str6 HS1_10.out
  have hl1_10 := HS1_10.out.lt
  obtain ⟨f2_10_0, f2_10_1, f2_10_2, f2_10_3, f2_10_4, f2_10_5⟩ := str6 HS2_10.out
  have hl2_10 := HS2_10.out.lt
  obtain ⟨f3_10_0, f3_10_1, f3_10_2, f3_10_3, f3_10_4, f3_10_5⟩ := str6 HS3_10.out
  have hl3_10 := HS3_10.out.lt
  go_wp2_with fail
  refine (refSameAnswer_any r.2 r.2 Aa Ab na ca nb cb W10.heap.size W10.heap.size _ HYa_10.out (Nat.le_refl _) HYb_10.out (Nat.le_refl _)).mono ?_
  rintro e W11 ⟨rfl, hb11⟩
  rw [HSB.out]
  have HS0_11 := Lib.hid (HS0_10.out.next hb11)
  have HS1_11 := Lib.hid (HS1_10.out.next hb11)
  have HS2_11 := Lib.hid (HS2_10.out.next hb11)
  have HS3_11 := Lib.hid (HS3_10.out.next hb11)
  have HB_11 := Lib.hid (bstep HB_10.out hb11)
  have hw_11 := HB_11.out.size
  have hws_11 := (hb11).size
  have HYx_11 := Lib.hid (HYx_10.out.next hb11)
  have HYa_11 := Lib.hid (HYa_10.out.next hb11)
  have HYp_11 := Lib.hid (HYp_10.out.next hb11)
  have HYb_11 := Lib.hid (HYb_10.out.next hb11)
  clear HYx_10 HYa_10 HYp_10 HYb_10
  clear f0_10_0 f0_10_1 f0_10_2 f0_10_3 f0_10_4 f0_10_5 HS0_10 hf0_10 f1_10_0 f1_10_1 f1_10_2 f1_10_3 f1_10_4 f1_10_5 HS1_10 f2_10_0 f2_10_1 f2_10_2 f2_10_3 f2_10_4 f2_10_5 HS2_10 f3_10_0 f3_10_1 f3_10_2 f3_10_3 f3_10_4 f3_10_5 HS3_10
  clear hb11
  obtain ⟨f0_11_0, f0_11_1, f0_11_2, f0_11_3, f0_11_4, f0_11_5⟩ := str6 HS0_11.out
  have hl0_11 := HS0_11.out.lt
  have hf0_11 := fun j => HS0_11.out.frozen j
  obtain ⟨f1_11_0, f1_11_1, f1_11_2, f1_11_3, f1_11_4, f1_11_5⟩ := str6 HS1_11.out
  have hl1_11 := HS1_11.out.lt
  obtain ⟨f2_11_0, f2_11_1, f2_11_2, f2_11_3, f2_11_4, f2_11_5⟩ := str6 HS2_11.out
  have hl2_11 := HS2_11.out.lt
  obtain ⟨f3_11_0, f3_11_1, f3_11_2, f3_11_3, f3_11_4, f3_11_5⟩ := str6 HS3_11.out
  have hl3_11 := HS3_11.out.lt
  go_wp2_with fail
  refine (Live09.live_any _).mono ?_
  rintro e W12 ⟨rfl, hb12⟩
  have HS0_12 := Lib.hid (HS0_11.out.next hb12)
  have HS1_12 := Lib.hid (HS1_11.out.next hb12)
  have HS2_12 := Lib.hid (HS2_11.out.next hb12)
  have HS3_12 := Lib.hid (HS3_11.out.next hb12)
  have HB_12 := Lib.hid (bstep HB_11.out hb12)
  have hw_12 := HB_12.out.size
  have hws_12 := (hb12).size
  have HYx_12 := Lib.hid (HYx_11.out.next hb12)
  have HYa_12 := Lib.hid (HYa_11.out.next hb12)
  have HYp_12 := Lib.hid (HYp_11.out.next hb12)
  have HYb_12 := Lib.hid (HYb_11.out.next hb12)
  clear HYx_11 HYa_11 HYp_11 HYb_11
  clear f0_11_0 f0_11_1 f0_11_2 f0_11_3 f0_11_4 f0_11_5 HS0_11 hf0_11 f1_11_0 f1_11_1 f1_11_2 f1_11_3 f1_11_4 f1_11_5 HS1_11 f2_11_0 f2_11_1 f2_11_2 f2_11_3 f2_11_4 f2_11_5 HS2_11 f3_11_0 f3_11_1 f3_11_2 f3_11_3 f3_11_4 f3_11_5 HS3_11
  clear hb12
  obtain ⟨f0_12_0, f0_12_1, f0_12_2, f0_12_3, f0_12_4, f0_12_5⟩ := str6 HS0_12.out
  have hl0_12 := HS0_12.out.lt
  have hf0_12 := fun j => HS0_12.out.frozen j
  obtain ⟨f1_12_0, f1_12_1, f1_12_2, f1_12_3, f1_12_4, f1_12_5⟩ := str6 HS1_12.out
  have hl1_12 := HS1_12.out.lt
  obtain ⟨f2_12_0, f2_12_1, f2_12_2, f2_12_3, f2_12_4, f2_12_5⟩ := str6 HS2_12.out
  have hl2_12 := HS2_12.out.lt
  obtain ⟨f3_12_0, f3_12_1, f3_12_2, f3_12_3, f3_12_4, f3_12_5⟩ := str6 HS3_12.out
  have hl3_12 := HS3_12.out.lt
  go_wp2_with fail
  go_ret
  exact ⟨rfl, HB_12.out⟩
theorem walk (v0 v1 : Value) (a0 : List Pair) (a1 : OpX) (w : World) (g0 : RPairs w w.heap.size v0 a0) (g1 : ROp w w.heap.size v1 a1) :
    Calls Try.prog 4 #[v0, v1] w fun e w' => e = .returned (.bool true) ∧ Below w.heap.size w w' := by
  obtain ⟨A, n, c, rfl, h⟩ := g0
  obtain ⟨Ax, nx, cx, rfl, hx, hk, h1, h2, h3, h4⟩ := g1
  obtain ⟨act, xk, xdata, xlo, xhi, xn⟩ := a1
  cases hm : ModelP.muchS a0 with
  | true => exact way_muchS A n c a0 act xk xdata xlo xhi xn Ax nx cx w h hx hk ⟨h1, h2, h3, h4⟩ hm
  | false =>
    cases hl : ModelP.muchL [⟨act, xk, xdata, xlo, xhi, xn⟩] with
    | true => exact way_muchL A n c a0 act xk xdata xlo xhi xn Ax nx cx w h hx hk ⟨h1, h2, h3, h4⟩ hm hl
    | false =>
      cases hr : ModelP.rightB a0 with
      | true => exact way_main A n c a0 act xk xdata xlo xhi xn Ax nx cx w h hx hk ⟨h1, h2, h3, h4⟩ hm hl hr
      | false => exact way_wrong A n c a0 act xk xdata xlo xhi xn Ax nx cx w h hx hk ⟨h1, h2, h3, h4⟩ hm hl hr
end Go.Proofs.Ytghgccgpgonlmaa.modelPlains
