/-
  The walk of ModelLooks: the Go text returns true for every input, and writes nothing that was there.
-/
import Derived.Test.YtghgccgpgonlmaaLive09
import Derived.Test.YtghgccgpgonlmaaOpenM
import Derived.Test.YtghgccgpgonlmaaModelK
namespace Go.Proofs.Ytghgccgpgonlmaa.modelLooks
open Go.RowKit ModelW
set_option linter.unusedVariables false
set_option maxRecDepth 100000 in
set_option maxHeartbeats 1000000 in
theorem way_s (A1 : Option Addr) (n1 c1 : Nat) (l1 : List Pair) (A2 : Option Addr) (n2 c2 : Nat) (l2 : List Pair) (key : ByteArray) (ae ak : Int) (ad : List UInt8) (alo ahi ava : Int) (Aa : Option Addr) (na ca : Nat) (be bk : Int) (bd : List UInt8) (blo bhi bva : Int) (Ab : Option Addr) (nb cb : Nat) (w : World) (h1 : Pairs w w.heap.size A1 n1 c1 l1) (h2 : Pairs w w.heap.size A2 n2 c2 l2) (ha : Bytes w w.heap.size Aa na ca ad) (hb : Bytes w w.heap.size Ab nb cb bd) (hm0 : (ModelP.muchS l1) = true) :
    Calls Try.prog 6 #[.slice A1 n1 c1, .slice A2 n2 c2, .string key, .agg #[.int .i64 ae, .int .i64 ak, .slice Aa na ca, .int .i64 alo, .int .i64 ahi, .int .i64 ava], .agg #[.int .i64 be, .int .i64 bk, .slice Ab nb cb, .int .i64 blo, .int .i64 bhi, .int .i64 bva]] w fun e w' => e = .returned (.bool true) ∧ Below w.heap.size w w' := by
  have H1 := Lib.hid h1
  have H2 := Lib.hid h2
  have HA := Lib.hid ha
  have HBB := Lib.hid hb
  have HM0 := Lib.hid hm0
  have hna := Nat.le_trans ha.2.1 ha.2.2.1
  have hnb := Nat.le_trans hb.2.1 hb.2.2.1
  unfold maxLen at hna hnb
  clear h1 h2 ha hb hm0
  go_enter Try.func6, Try.ntmps6
  go_wp2_with fail
  generalize hW0 : ((w).alloc (.cells #[.int .i64 ae, .int .i64 ak, .slice Aa na ca, .int .i64 alo, .int .i64 ahi, .int .i64 ava] 39)).alloc (.cells #[.int .i64 be, .int .i64 bk, .slice Ab nb cb, .int .i64 blo, .int .i64 bhi, .int .i64 bva] 39) = W0
  have HS0_0 : Hid (Str W0 (w.heap.size) #[.int .i64 ae, .int .i64 ak, .slice Aa na ca, .int .i64 alo, .int .i64 ahi, .int .i64 ava]) := Lib.hid (by rw [← hW0]; have := (Str.new (w) #[.int .i64 ae, .int .i64 ak, .slice Aa na ca, .int .i64 alo, .int .i64 ahi, .int .i64 ava] 39).alloc (.cells #[.int .i64 be, .int .i64 bk, .slice Ab nb cb, .int .i64 blo, .int .i64 bhi, .int .i64 bva] 39); simpa using this)
  have HS1_0 : Hid (Str W0 (w.heap.size + 1) #[.int .i64 be, .int .i64 bk, .slice Ab nb cb, .int .i64 blo, .int .i64 bhi, .int .i64 bva]) := Lib.hid (by rw [← hW0]; have := Str.new ((w).alloc (.cells #[.int .i64 ae, .int .i64 ak, .slice Aa na ca, .int .i64 alo, .int .i64 ahi, .int .i64 ava] 39)) #[.int .i64 be, .int .i64 bk, .slice Ab nb cb, .int .i64 blo, .int .i64 bhi, .int .i64 bva] 39; simpa using this)
  have HB_0 : Hid (Below w.heap.size w W0) := Lib.hid (by rw [← hW0]; exact balloc (balloc (bsame w) _) _)
  have hw_0 := HB_0.out.size
  clear hW0
  obtain ⟨f0_0_0, f0_0_1, f0_0_2, f0_0_3, f0_0_4, f0_0_5⟩ := str6 HS0_0.out
  have hl0_0 := HS0_0.out.lt
  have hf0_0 := fun j => HS0_0.out.frozen j
  obtain ⟨f1_0_0, f1_0_1, f1_0_2, f1_0_3, f1_0_4, f1_0_5⟩ := str6 HS1_0.out
  have hl1_0 := HS1_0.out.lt
  have hf1_0 := fun j => HS1_0.out.frozen j
  refine (muchState_any A1 n1 c1 W0.heap.size l1 _ (H1.out.next HB_0.out) (Nat.le_refl _)).mono ?_
  rintro e W1 ⟨rfl, hb1⟩
  rw [HM0.out]
  have HS0_1 := Lib.hid (HS0_0.out.next hb1)
  have HS1_1 := Lib.hid (HS1_0.out.next hb1)
  have HB_1 := Lib.hid (bstep HB_0.out hb1)
  have hw_1 := HB_1.out.size
  have hws_1 := (hb1).size
  clear f0_0_0 f0_0_1 f0_0_2 f0_0_3 f0_0_4 f0_0_5 HS0_0 hf0_0 f1_0_0 f1_0_1 f1_0_2 f1_0_3 f1_0_4 f1_0_5 HS1_0 hf1_0
  clear hb1
  obtain ⟨f0_1_0, f0_1_1, f0_1_2, f0_1_3, f0_1_4, f0_1_5⟩ := str6 HS0_1.out
  have hl0_1 := HS0_1.out.lt
  have hf0_1 := fun j => HS0_1.out.frozen j
  obtain ⟨f1_1_0, f1_1_1, f1_1_2, f1_1_3, f1_1_4, f1_1_5⟩ := str6 HS1_1.out
  have hl1_1 := HS1_1.out.lt
  have hf1_1 := fun j => HS1_1.out.frozen j
  go_wp2_with fail
  refine (Live09.live_any _).mono ?_
  rintro e W2 ⟨rfl, hb2⟩
  have HS0_2 := Lib.hid (HS0_1.out.next hb2)
  have HS1_2 := Lib.hid (HS1_1.out.next hb2)
  have HB_2 := Lib.hid (bstep HB_1.out hb2)
  have hw_2 := HB_2.out.size
  have hws_2 := (hb2).size
  clear f0_1_0 f0_1_1 f0_1_2 f0_1_3 f0_1_4 f0_1_5 HS0_1 hf0_1 f1_1_0 f1_1_1 f1_1_2 f1_1_3 f1_1_4 f1_1_5 HS1_1 hf1_1
  clear hb2
  obtain ⟨f0_2_0, f0_2_1, f0_2_2, f0_2_3, f0_2_4, f0_2_5⟩ := str6 HS0_2.out
  have hl0_2 := HS0_2.out.lt
  have hf0_2 := fun j => HS0_2.out.frozen j
  obtain ⟨f1_2_0, f1_2_1, f1_2_2, f1_2_3, f1_2_4, f1_2_5⟩ := str6 HS1_2.out
  have hl1_2 := HS1_2.out.lt
  have hf1_2 := fun j => HS1_2.out.frozen j
  go_wp2_with fail
  go_ret
  exact ⟨rfl, HB_2.out⟩
set_option maxRecDepth 100000 in
set_option maxHeartbeats 1000000 in
theorem way_t (A1 : Option Addr) (n1 c1 : Nat) (l1 : List Pair) (A2 : Option Addr) (n2 c2 : Nat) (l2 : List Pair) (key : ByteArray) (ae ak : Int) (ad : List UInt8) (alo ahi ava : Int) (Aa : Option Addr) (na ca : Nat) (be bk : Int) (bd : List UInt8) (blo bhi bva : Int) (Ab : Option Addr) (nb cb : Nat) (w : World) (h1 : Pairs w w.heap.size A1 n1 c1 l1) (h2 : Pairs w w.heap.size A2 n2 c2 l2) (ha : Bytes w w.heap.size Aa na ca ad) (hb : Bytes w w.heap.size Ab nb cb bd) (hm0 : (ModelP.muchS l1) = false) (hm1 : (ModelP.muchS l2) = true) :
    Calls Try.prog 6 #[.slice A1 n1 c1, .slice A2 n2 c2, .string key, .agg #[.int .i64 ae, .int .i64 ak, .slice Aa na ca, .int .i64 alo, .int .i64 ahi, .int .i64 ava], .agg #[.int .i64 be, .int .i64 bk, .slice Ab nb cb, .int .i64 blo, .int .i64 bhi, .int .i64 bva]] w fun e w' => e = .returned (.bool true) ∧ Below w.heap.size w w' := by
  have H1 := Lib.hid h1
  have H2 := Lib.hid h2
  have HA := Lib.hid ha
  have HBB := Lib.hid hb
  have HM0 := Lib.hid hm0
  have HM1 := Lib.hid hm1
  have hna := Nat.le_trans ha.2.1 ha.2.2.1
  have hnb := Nat.le_trans hb.2.1 hb.2.2.1
  unfold maxLen at hna hnb
  clear h1 h2 ha hb hm0 hm1
  go_enter Try.func6, Try.ntmps6
  go_wp2_with fail
  generalize hW0 : ((w).alloc (.cells #[.int .i64 ae, .int .i64 ak, .slice Aa na ca, .int .i64 alo, .int .i64 ahi, .int .i64 ava] 39)).alloc (.cells #[.int .i64 be, .int .i64 bk, .slice Ab nb cb, .int .i64 blo, .int .i64 bhi, .int .i64 bva] 39) = W0
  have HS0_0 : Hid (Str W0 (w.heap.size) #[.int .i64 ae, .int .i64 ak, .slice Aa na ca, .int .i64 alo, .int .i64 ahi, .int .i64 ava]) := Lib.hid (by rw [← hW0]; have := (Str.new (w) #[.int .i64 ae, .int .i64 ak, .slice Aa na ca, .int .i64 alo, .int .i64 ahi, .int .i64 ava] 39).alloc (.cells #[.int .i64 be, .int .i64 bk, .slice Ab nb cb, .int .i64 blo, .int .i64 bhi, .int .i64 bva] 39); simpa using this)
  have HS1_0 : Hid (Str W0 (w.heap.size + 1) #[.int .i64 be, .int .i64 bk, .slice Ab nb cb, .int .i64 blo, .int .i64 bhi, .int .i64 bva]) := Lib.hid (by rw [← hW0]; have := Str.new ((w).alloc (.cells #[.int .i64 ae, .int .i64 ak, .slice Aa na ca, .int .i64 alo, .int .i64 ahi, .int .i64 ava] 39)) #[.int .i64 be, .int .i64 bk, .slice Ab nb cb, .int .i64 blo, .int .i64 bhi, .int .i64 bva] 39; simpa using this)
  have HB_0 : Hid (Below w.heap.size w W0) := Lib.hid (by rw [← hW0]; exact balloc (balloc (bsame w) _) _)
  have hw_0 := HB_0.out.size
  clear hW0
  obtain ⟨f0_0_0, f0_0_1, f0_0_2, f0_0_3, f0_0_4, f0_0_5⟩ := str6 HS0_0.out
  have hl0_0 := HS0_0.out.lt
  have hf0_0 := fun j => HS0_0.out.frozen j
  obtain ⟨f1_0_0, f1_0_1, f1_0_2, f1_0_3, f1_0_4, f1_0_5⟩ := str6 HS1_0.out
  have hl1_0 := HS1_0.out.lt
  have hf1_0 := fun j => HS1_0.out.frozen j
  refine (muchState_any A1 n1 c1 W0.heap.size l1 _ (H1.out.next HB_0.out) (Nat.le_refl _)).mono ?_
  rintro e W1 ⟨rfl, hb1⟩
  rw [HM0.out]
  have HS0_1 := Lib.hid (HS0_0.out.next hb1)
  have HS1_1 := Lib.hid (HS1_0.out.next hb1)
  have HB_1 := Lib.hid (bstep HB_0.out hb1)
  have hw_1 := HB_1.out.size
  have hws_1 := (hb1).size
  clear f0_0_0 f0_0_1 f0_0_2 f0_0_3 f0_0_4 f0_0_5 HS0_0 hf0_0 f1_0_0 f1_0_1 f1_0_2 f1_0_3 f1_0_4 f1_0_5 HS1_0 hf1_0
  clear hb1
  obtain ⟨f0_1_0, f0_1_1, f0_1_2, f0_1_3, f0_1_4, f0_1_5⟩ := str6 HS0_1.out
  have hl0_1 := HS0_1.out.lt
  have hf0_1 := fun j => HS0_1.out.frozen j
  obtain ⟨f1_1_0, f1_1_1, f1_1_2, f1_1_3, f1_1_4, f1_1_5⟩ := str6 HS1_1.out
  have hl1_1 := HS1_1.out.lt
  have hf1_1 := fun j => HS1_1.out.frozen j
  go_wp2_with fail
  refine (muchState_any A2 n2 c2 W1.heap.size l2 _ (H2.out.next HB_1.out) (Nat.le_refl _)).mono ?_
  rintro e W2 ⟨rfl, hb2⟩
  rw [HM1.out]
  have HS0_2 := Lib.hid (HS0_1.out.next hb2)
  have HS1_2 := Lib.hid (HS1_1.out.next hb2)
  have HB_2 := Lib.hid (bstep HB_1.out hb2)
  have hw_2 := HB_2.out.size
  have hws_2 := (hb2).size
  clear f0_1_0 f0_1_1 f0_1_2 f0_1_3 f0_1_4 f0_1_5 HS0_1 hf0_1 f1_1_0 f1_1_1 f1_1_2 f1_1_3 f1_1_4 f1_1_5 HS1_1 hf1_1
  clear hb2
  obtain ⟨f0_2_0, f0_2_1, f0_2_2, f0_2_3, f0_2_4, f0_2_5⟩ := str6 HS0_2.out
  have hl0_2 := HS0_2.out.lt
  have hf0_2 := fun j => HS0_2.out.frozen j
  obtain ⟨f1_2_0, f1_2_1, f1_2_2, f1_2_3, f1_2_4, f1_2_5⟩ := str6 HS1_2.out
  have hl1_2 := HS1_2.out.lt
  have hf1_2 := fun j => HS1_2.out.frozen j
  go_wp2_with fail
  refine (Live09.live_any _).mono ?_
  rintro e W3 ⟨rfl, hb3⟩
  have HS0_3 := Lib.hid (HS0_2.out.next hb3)
  have HS1_3 := Lib.hid (HS1_2.out.next hb3)
  have HB_3 := Lib.hid (bstep HB_2.out hb3)
  have hw_3 := HB_3.out.size
  have hws_3 := (hb3).size
  clear f0_2_0 f0_2_1 f0_2_2 f0_2_3 f0_2_4 f0_2_5 HS0_2 hf0_2 f1_2_0 f1_2_1 f1_2_2 f1_2_3 f1_2_4 f1_2_5 HS1_2 hf1_2
  clear hb3
  obtain ⟨f0_3_0, f0_3_1, f0_3_2, f0_3_3, f0_3_4, f0_3_5⟩ := str6 HS0_3.out
  have hl0_3 := HS0_3.out.lt
  have hf0_3 := fun j => HS0_3.out.frozen j
  obtain ⟨f1_3_0, f1_3_1, f1_3_2, f1_3_3, f1_3_4, f1_3_5⟩ := str6 HS1_3.out
  have hl1_3 := HS1_3.out.lt
  have hf1_3 := fun j => HS1_3.out.frozen j
  go_wp2_with fail
  go_ret
  exact ⟨rfl, HB_3.out⟩
set_option maxRecDepth 100000 in
set_option maxHeartbeats 1000000 in
theorem way_a (A1 : Option Addr) (n1 c1 : Nat) (l1 : List Pair) (A2 : Option Addr) (n2 c2 : Nat) (l2 : List Pair) (key : ByteArray) (ae ak : Int) (ad : List UInt8) (alo ahi ava : Int) (Aa : Option Addr) (na ca : Nat) (be bk : Int) (bd : List UInt8) (blo bhi bva : Int) (Ab : Option Addr) (nb cb : Nat) (w : World) (h1 : Pairs w w.heap.size A1 n1 c1 l1) (h2 : Pairs w w.heap.size A2 n2 c2 l2) (ha : Bytes w w.heap.size Aa na ca ad) (hb : Bytes w w.heap.size Ab nb cb bd) (hm0 : (ModelP.muchS l1) = false) (hm1 : (ModelP.muchS l2) = false) (hm2 : (decide (300 < na)) = true) :
    Calls Try.prog 6 #[.slice A1 n1 c1, .slice A2 n2 c2, .string key, .agg #[.int .i64 ae, .int .i64 ak, .slice Aa na ca, .int .i64 alo, .int .i64 ahi, .int .i64 ava], .agg #[.int .i64 be, .int .i64 bk, .slice Ab nb cb, .int .i64 blo, .int .i64 bhi, .int .i64 bva]] w fun e w' => e = .returned (.bool true) ∧ Below w.heap.size w w' := by
  have H1 := Lib.hid h1
  have H2 := Lib.hid h2
  have HA := Lib.hid ha
  have HBB := Lib.hid hb
  have HM0 := Lib.hid hm0
  have HM1 := Lib.hid hm1
  have hna := Nat.le_trans ha.2.1 ha.2.2.1
  have hnb := Nat.le_trans hb.2.1 hb.2.2.1
  unfold maxLen at hna hnb
  have d2 : decide (300 < (na : Int)) = true := by simp at hm2 ⊢; omega
  clear h1 h2 ha hb hm0 hm1 hm2
  go_enter Try.func6, Try.ntmps6
  go_wp2_with fail
  generalize hW0 : ((w).alloc (.cells #[.int .i64 ae, .int .i64 ak, .slice Aa na ca, .int .i64 alo, .int .i64 ahi, .int .i64 ava] 39)).alloc (.cells #[.int .i64 be, .int .i64 bk, .slice Ab nb cb, .int .i64 blo, .int .i64 bhi, .int .i64 bva] 39) = W0
  have HS0_0 : Hid (Str W0 (w.heap.size) #[.int .i64 ae, .int .i64 ak, .slice Aa na ca, .int .i64 alo, .int .i64 ahi, .int .i64 ava]) := Lib.hid (by rw [← hW0]; have := (Str.new (w) #[.int .i64 ae, .int .i64 ak, .slice Aa na ca, .int .i64 alo, .int .i64 ahi, .int .i64 ava] 39).alloc (.cells #[.int .i64 be, .int .i64 bk, .slice Ab nb cb, .int .i64 blo, .int .i64 bhi, .int .i64 bva] 39); simpa using this)
  have HS1_0 : Hid (Str W0 (w.heap.size + 1) #[.int .i64 be, .int .i64 bk, .slice Ab nb cb, .int .i64 blo, .int .i64 bhi, .int .i64 bva]) := Lib.hid (by rw [← hW0]; have := Str.new ((w).alloc (.cells #[.int .i64 ae, .int .i64 ak, .slice Aa na ca, .int .i64 alo, .int .i64 ahi, .int .i64 ava] 39)) #[.int .i64 be, .int .i64 bk, .slice Ab nb cb, .int .i64 blo, .int .i64 bhi, .int .i64 bva] 39; simpa using this)
  have HB_0 : Hid (Below w.heap.size w W0) := Lib.hid (by rw [← hW0]; exact balloc (balloc (bsame w) _) _)
  have hw_0 := HB_0.out.size
  clear hW0
  obtain ⟨f0_0_0, f0_0_1, f0_0_2, f0_0_3, f0_0_4, f0_0_5⟩ := str6 HS0_0.out
  have hl0_0 := HS0_0.out.lt
  have hf0_0 := fun j => HS0_0.out.frozen j
  obtain ⟨f1_0_0, f1_0_1, f1_0_2, f1_0_3, f1_0_4, f1_0_5⟩ := str6 HS1_0.out
  have hl1_0 := HS1_0.out.lt
  have hf1_0 := fun j => HS1_0.out.frozen j
  refine (muchState_any A1 n1 c1 W0.heap.size l1 _ (H1.out.next HB_0.out) (Nat.le_refl _)).mono ?_
  rintro e W1 ⟨rfl, hb1⟩
  rw [HM0.out]
  have HS0_1 := Lib.hid (HS0_0.out.next hb1)
  have HS1_1 := Lib.hid (HS1_0.out.next hb1)
  have HB_1 := Lib.hid (bstep HB_0.out hb1)
  have hw_1 := HB_1.out.size
  have hws_1 := (hb1).size
  clear f0_0_0 f0_0_1 f0_0_2 f0_0_3 f0_0_4 f0_0_5 HS0_0 hf0_0 f1_0_0 f1_0_1 f1_0_2 f1_0_3 f1_0_4 f1_0_5 HS1_0 hf1_0
  clear hb1
  obtain ⟨f0_1_0, f0_1_1, f0_1_2, f0_1_3, f0_1_4, f0_1_5⟩ := str6 HS0_1.out
  have hl0_1 := HS0_1.out.lt
  have hf0_1 := fun j => HS0_1.out.frozen j
  obtain ⟨f1_1_0, f1_1_1, f1_1_2, f1_1_3, f1_1_4, f1_1_5⟩ := str6 HS1_1.out
  have hl1_1 := HS1_1.out.lt
  have hf1_1 := fun j => HS1_1.out.frozen j
  go_wp2_with fail
  refine (muchState_any A2 n2 c2 W1.heap.size l2 _ (H2.out.next HB_1.out) (Nat.le_refl _)).mono ?_
  rintro e W2 ⟨rfl, hb2⟩
  rw [HM1.out]
  have HS0_2 := Lib.hid (HS0_1.out.next hb2)
  have HS1_2 := Lib.hid (HS1_1.out.next hb2)
  have HB_2 := Lib.hid (bstep HB_1.out hb2)
  have hw_2 := HB_2.out.size
  have hws_2 := (hb2).size
  clear f0_1_0 f0_1_1 f0_1_2 f0_1_3 f0_1_4 f0_1_5 HS0_1 hf0_1 f1_1_0 f1_1_1 f1_1_2 f1_1_3 f1_1_4 f1_1_5 HS1_1 hf1_1
  clear hb2
  obtain ⟨f0_2_0, f0_2_1, f0_2_2, f0_2_3, f0_2_4, f0_2_5⟩ := str6 HS0_2.out
  have hl0_2 := HS0_2.out.lt
  have hf0_2 := fun j => HS0_2.out.frozen j
  obtain ⟨f1_2_0, f1_2_1, f1_2_2, f1_2_3, f1_2_4, f1_2_5⟩ := str6 HS1_2.out
  have hl1_2 := HS1_2.out.lt
  have hf1_2 := fun j => HS1_2.out.frozen j
  go_wp2_with fail
  refine (Live09.live_any _).mono ?_
  rintro e W3 ⟨rfl, hb3⟩
  have HS0_3 := Lib.hid (HS0_2.out.next hb3)
  have HS1_3 := Lib.hid (HS1_2.out.next hb3)
  have HB_3 := Lib.hid (bstep HB_2.out hb3)
  have hw_3 := HB_3.out.size
  have hws_3 := (hb3).size
  clear f0_2_0 f0_2_1 f0_2_2 f0_2_3 f0_2_4 f0_2_5 HS0_2 hf0_2 f1_2_0 f1_2_1 f1_2_2 f1_2_3 f1_2_4 f1_2_5 HS1_2 hf1_2
  clear hb3
  obtain ⟨f0_3_0, f0_3_1, f0_3_2, f0_3_3, f0_3_4, f0_3_5⟩ := str6 HS0_3.out
  have hl0_3 := HS0_3.out.lt
  have hf0_3 := fun j => HS0_3.out.frozen j
  obtain ⟨f1_3_0, f1_3_1, f1_3_2, f1_3_3, f1_3_4, f1_3_5⟩ := str6 HS1_3.out
  have hl1_3 := HS1_3.out.lt
  have hf1_3 := fun j => HS1_3.out.frozen j
  go_wp2_with fail
  go_ret
  exact ⟨rfl, HB_3.out⟩
set_option maxRecDepth 100000 in
set_option maxHeartbeats 1000000 in
theorem way_b (A1 : Option Addr) (n1 c1 : Nat) (l1 : List Pair) (A2 : Option Addr) (n2 c2 : Nat) (l2 : List Pair) (key : ByteArray) (ae ak : Int) (ad : List UInt8) (alo ahi ava : Int) (Aa : Option Addr) (na ca : Nat) (be bk : Int) (bd : List UInt8) (blo bhi bva : Int) (Ab : Option Addr) (nb cb : Nat) (w : World) (h1 : Pairs w w.heap.size A1 n1 c1 l1) (h2 : Pairs w w.heap.size A2 n2 c2 l2) (ha : Bytes w w.heap.size Aa na ca ad) (hb : Bytes w w.heap.size Ab nb cb bd) (hm0 : (ModelP.muchS l1) = false) (hm1 : (ModelP.muchS l2) = false) (hm2 : (decide (300 < na)) = false) (hm3 : (decide (300 < nb)) = true) :
    Calls Try.prog 6 #[.slice A1 n1 c1, .slice A2 n2 c2, .string key, .agg #[.int .i64 ae, .int .i64 ak, .slice Aa na ca, .int .i64 alo, .int .i64 ahi, .int .i64 ava], .agg #[.int .i64 be, .int .i64 bk, .slice Ab nb cb, .int .i64 blo, .int .i64 bhi, .int .i64 bva]] w fun e w' => e = .returned (.bool true) ∧ Below w.heap.size w w' := by
  have H1 := Lib.hid h1
  have H2 := Lib.hid h2
  have HA := Lib.hid ha
  have HBB := Lib.hid hb
  have HM0 := Lib.hid hm0
  have HM1 := Lib.hid hm1
  have hna := Nat.le_trans ha.2.1 ha.2.2.1
  have hnb := Nat.le_trans hb.2.1 hb.2.2.1
  unfold maxLen at hna hnb
  have d2 : decide (300 < (na : Int)) = false := by simp at hm2 ⊢; omega
  have d3 : decide (300 < (nb : Int)) = true := by simp at hm3 ⊢; omega
  clear h1 h2 ha hb hm0 hm1 hm2 hm3
  go_enter Try.func6, Try.ntmps6
  go_wp2_with fail
  generalize hW0 : ((w).alloc (.cells #[.int .i64 ae, .int .i64 ak, .slice Aa na ca, .int .i64 alo, .int .i64 ahi, .int .i64 ava] 39)).alloc (.cells #[.int .i64 be, .int .i64 bk, .slice Ab nb cb, .int .i64 blo, .int .i64 bhi, .int .i64 bva] 39) = W0
  have HS0_0 : Hid (Str W0 (w.heap.size) #[.int .i64 ae, .int .i64 ak, .slice Aa na ca, .int .i64 alo, .int .i64 ahi, .int .i64 ava]) := Lib.hid (by rw [← hW0]; have := (Str.new (w) #[.int .i64 ae, .int .i64 ak, .slice Aa na ca, .int .i64 alo, .int .i64 ahi, .int .i64 ava] 39).alloc (.cells #[.int .i64 be, .int .i64 bk, .slice Ab nb cb, .int .i64 blo, .int .i64 bhi, .int .i64 bva] 39); simpa using this)
  have HS1_0 : Hid (Str W0 (w.heap.size + 1) #[.int .i64 be, .int .i64 bk, .slice Ab nb cb, .int .i64 blo, .int .i64 bhi, .int .i64 bva]) := Lib.hid (by rw [← hW0]; have := Str.new ((w).alloc (.cells #[.int .i64 ae, .int .i64 ak, .slice Aa na ca, .int .i64 alo, .int .i64 ahi, .int .i64 ava] 39)) #[.int .i64 be, .int .i64 bk, .slice Ab nb cb, .int .i64 blo, .int .i64 bhi, .int .i64 bva] 39; simpa using this)
  have HB_0 : Hid (Below w.heap.size w W0) := Lib.hid (by rw [← hW0]; exact balloc (balloc (bsame w) _) _)
  have hw_0 := HB_0.out.size
  clear hW0
  obtain ⟨f0_0_0, f0_0_1, f0_0_2, f0_0_3, f0_0_4, f0_0_5⟩ := str6 HS0_0.out
  have hl0_0 := HS0_0.out.lt
  have hf0_0 := fun j => HS0_0.out.frozen j
  obtain ⟨f1_0_0, f1_0_1, f1_0_2, f1_0_3, f1_0_4, f1_0_5⟩ := str6 HS1_0.out
  have hl1_0 := HS1_0.out.lt
  have hf1_0 := fun j => HS1_0.out.frozen j
  refine (muchState_any A1 n1 c1 W0.heap.size l1 _ (H1.out.next HB_0.out) (Nat.le_refl _)).mono ?_
  rintro e W1 ⟨rfl, hb1⟩
  rw [HM0.out]
  have HS0_1 := Lib.hid (HS0_0.out.next hb1)
  have HS1_1 := Lib.hid (HS1_0.out.next hb1)
  have HB_1 := Lib.hid (bstep HB_0.out hb1)
  have hw_1 := HB_1.out.size
  have hws_1 := (hb1).size
  clear f0_0_0 f0_0_1 f0_0_2 f0_0_3 f0_0_4 f0_0_5 HS0_0 hf0_0 f1_0_0 f1_0_1 f1_0_2 f1_0_3 f1_0_4 f1_0_5 HS1_0 hf1_0
  clear hb1
  obtain ⟨f0_1_0, f0_1_1, f0_1_2, f0_1_3, f0_1_4, f0_1_5⟩ := str6 HS0_1.out
  have hl0_1 := HS0_1.out.lt
  have hf0_1 := fun j => HS0_1.out.frozen j
  obtain ⟨f1_1_0, f1_1_1, f1_1_2, f1_1_3, f1_1_4, f1_1_5⟩ := str6 HS1_1.out
  have hl1_1 := HS1_1.out.lt
  have hf1_1 := fun j => HS1_1.out.frozen j
  go_wp2_with fail
  refine (muchState_any A2 n2 c2 W1.heap.size l2 _ (H2.out.next HB_1.out) (Nat.le_refl _)).mono ?_
  rintro e W2 ⟨rfl, hb2⟩
  rw [HM1.out]
  have HS0_2 := Lib.hid (HS0_1.out.next hb2)
  have HS1_2 := Lib.hid (HS1_1.out.next hb2)
  have HB_2 := Lib.hid (bstep HB_1.out hb2)
  have hw_2 := HB_2.out.size
  have hws_2 := (hb2).size
  clear f0_1_0 f0_1_1 f0_1_2 f0_1_3 f0_1_4 f0_1_5 HS0_1 hf0_1 f1_1_0 f1_1_1 f1_1_2 f1_1_3 f1_1_4 f1_1_5 HS1_1 hf1_1
  clear hb2
  obtain ⟨f0_2_0, f0_2_1, f0_2_2, f0_2_3, f0_2_4, f0_2_5⟩ := str6 HS0_2.out
  have hl0_2 := HS0_2.out.lt
  have hf0_2 := fun j => HS0_2.out.frozen j
  obtain ⟨f1_2_0, f1_2_1, f1_2_2, f1_2_3, f1_2_4, f1_2_5⟩ := str6 HS1_2.out
  have hl1_2 := HS1_2.out.lt
  have hf1_2 := fun j => HS1_2.out.frozen j
  go_wp2_with fail
  refine (Live09.live_any _).mono ?_
  rintro e W3 ⟨rfl, hb3⟩
  have HS0_3 := Lib.hid (HS0_2.out.next hb3)
  have HS1_3 := Lib.hid (HS1_2.out.next hb3)
  have HB_3 := Lib.hid (bstep HB_2.out hb3)
  have hw_3 := HB_3.out.size
  have hws_3 := (hb3).size
  clear f0_2_0 f0_2_1 f0_2_2 f0_2_3 f0_2_4 f0_2_5 HS0_2 hf0_2 f1_2_0 f1_2_1 f1_2_2 f1_2_3 f1_2_4 f1_2_5 HS1_2 hf1_2
  clear hb3
  obtain ⟨f0_3_0, f0_3_1, f0_3_2, f0_3_3, f0_3_4, f0_3_5⟩ := str6 HS0_3.out
  have hl0_3 := HS0_3.out.lt
  have hf0_3 := fun j => HS0_3.out.frozen j
  obtain ⟨f1_3_0, f1_3_1, f1_3_2, f1_3_3, f1_3_4, f1_3_5⟩ := str6 HS1_3.out
  have hl1_3 := HS1_3.out.lt
  have hf1_3 := fun j => HS1_3.out.frozen j
  go_wp2_with fail
  go_ret
  exact ⟨rfl, HB_3.out⟩
set_option maxRecDepth 100000 in
set_option maxHeartbeats 1000000 in
theorem way_main (A1 : Option Addr) (n1 c1 : Nat) (l1 : List Pair) (A2 : Option Addr) (n2 c2 : Nat) (l2 : List Pair) (key : ByteArray) (ae ak : Int) (ad : List UInt8) (alo ahi ava : Int) (Aa : Option Addr) (na ca : Nat) (be bk : Int) (bd : List UInt8) (blo bhi bva : Int) (Ab : Option Addr) (nb cb : Nat) (w : World) (h1 : Pairs w w.heap.size A1 n1 c1 l1) (h2 : Pairs w w.heap.size A2 n2 c2 l2) (ha : Bytes w w.heap.size Aa na ca ad) (hb : Bytes w w.heap.size Ab nb cb bd) (hm0 : (ModelP.muchS l1) = false) (hm1 : (ModelP.muchS l2) = false) (hm2 : (decide (300 < na)) = false) (hm3 : (decide (300 < nb)) = false) :
    Calls Try.prog 6 #[.slice A1 n1 c1, .slice A2 n2 c2, .string key, .agg #[.int .i64 ae, .int .i64 ak, .slice Aa na ca, .int .i64 alo, .int .i64 ahi, .int .i64 ava], .agg #[.int .i64 be, .int .i64 bk, .slice Ab nb cb, .int .i64 blo, .int .i64 bhi, .int .i64 bva]] w fun e w' => e = .returned (.bool true) ∧ Below w.heap.size w w' := by
  have H1 := Lib.hid h1
  have H2 := Lib.hid h2
  have HA := Lib.hid ha
  have HBB := Lib.hid hb
  have HM0 := Lib.hid hm0
  have HM1 := Lib.hid hm1
  have hna := Nat.le_trans ha.2.1 ha.2.2.1
  have hnb := Nat.le_trans hb.2.1 hb.2.2.1
  unfold maxLen at hna hnb
  have d2 : decide (300 < (na : Int)) = false := by simp at hm2 ⊢; omega
  have d3 : decide (300 < (nb : Int)) = false := by simp at hm3 ⊢; omega
  have hn1 : n1 ≤ 60 := by rw [← h1.len]; exact (ModelP.muchS_no hm0).1
  have hn2 : n2 ≤ 60 := by rw [← h2.len]; exact (ModelP.muchS_no hm1).1
  have HSM := Lib.hid (small_of hm0).data
  obtain ⟨f, hf⟩ : ∃ f, ModelP.find l1 key = f := ⟨_, rfl⟩
  obtain ⟨sm, hsm⟩ : ∃ sm, ModelP.sameAll l1 l2 = sm := ⟨_, rfl⟩
  obtain ⟨rb, hrb⟩ : ∃ rb, ModelP.rightB l1 = rb := ⟨_, rfl⟩
  obtain ⟨sa, hsa⟩ : ∃ sa, ModelP.sameAns ⟨ae, ⟨ak, ad, alo, ahi, ava⟩⟩ ⟨be, ⟨bk, bd, blo, bhi, bva⟩⟩ = sa := ⟨_, rfl⟩
  have HF := Lib.hid hf
  have HSMM := Lib.hid hsm
  have HRB := Lib.hid hrb
  have HSA := Lib.hid hsa
  have HSC : Hid (∀ x : Cell, CellP.same x x = true) := Lib.hid (by intro x; simp [CellP.same])
  clear hf hsm hrb hsa
  clear h1 h2 ha hb hm0 hm1 hm2 hm3
  go_enter Try.func6, Try.ntmps6
  go_wp2_with fail
  generalize hW0 : ((w).alloc (.cells #[.int .i64 ae, .int .i64 ak, .slice Aa na ca, .int .i64 alo, .int .i64 ahi, .int .i64 ava] 39)).alloc (.cells #[.int .i64 be, .int .i64 bk, .slice Ab nb cb, .int .i64 blo, .int .i64 bhi, .int .i64 bva] 39) = W0
  have HS0_0 : Hid (Str W0 (w.heap.size) #[.int .i64 ae, .int .i64 ak, .slice Aa na ca, .int .i64 alo, .int .i64 ahi, .int .i64 ava]) := Lib.hid (by rw [← hW0]; have := (Str.new (w) #[.int .i64 ae, .int .i64 ak, .slice Aa na ca, .int .i64 alo, .int .i64 ahi, .int .i64 ava] 39).alloc (.cells #[.int .i64 be, .int .i64 bk, .slice Ab nb cb, .int .i64 blo, .int .i64 bhi, .int .i64 bva] 39); simpa using this)
  have HS1_0 : Hid (Str W0 (w.heap.size + 1) #[.int .i64 be, .int .i64 bk, .slice Ab nb cb, .int .i64 blo, .int .i64 bhi, .int .i64 bva]) := Lib.hid (by rw [← hW0]; have := Str.new ((w).alloc (.cells #[.int .i64 ae, .int .i64 ak, .slice Aa na ca, .int .i64 alo, .int .i64 ahi, .int .i64 ava] 39)) #[.int .i64 be, .int .i64 bk, .slice Ab nb cb, .int .i64 blo, .int .i64 bhi, .int .i64 bva] 39; simpa using this)
  have HB_0 : Hid (Below w.heap.size w W0) := Lib.hid (by rw [← hW0]; exact balloc (balloc (bsame w) _) _)
  have hw_0 := HB_0.out.size
  clear hW0
  obtain ⟨f0_0_0, f0_0_1, f0_0_2, f0_0_3, f0_0_4, f0_0_5⟩ := str6 HS0_0.out
  have hl0_0 := HS0_0.out.lt
  have hf0_0 := fun j => HS0_0.out.frozen j
  obtain ⟨f1_0_0, f1_0_1, f1_0_2, f1_0_3, f1_0_4, f1_0_5⟩ := str6 HS1_0.out
  have hl1_0 := HS1_0.out.lt
  have hf1_0 := fun j => HS1_0.out.frozen j
  refine (muchState_any A1 n1 c1 W0.heap.size l1 _ (H1.out.next HB_0.out) (Nat.le_refl _)).mono ?_
  rintro e W1 ⟨rfl, hb1⟩
  rw [HM0.out]
  have HS0_1 := Lib.hid (HS0_0.out.next hb1)
  have HS1_1 := Lib.hid (HS1_0.out.next hb1)
  have HB_1 := Lib.hid (bstep HB_0.out hb1)
  have hw_1 := HB_1.out.size
  have hws_1 := (hb1).size
  clear f0_0_0 f0_0_1 f0_0_2 f0_0_3 f0_0_4 f0_0_5 HS0_0 hf0_0 f1_0_0 f1_0_1 f1_0_2 f1_0_3 f1_0_4 f1_0_5 HS1_0 hf1_0
  clear hb1
  obtain ⟨f0_1_0, f0_1_1, f0_1_2, f0_1_3, f0_1_4, f0_1_5⟩ := str6 HS0_1.out
  have hl0_1 := HS0_1.out.lt
  have hf0_1 := fun j => HS0_1.out.frozen j
  obtain ⟨f1_1_0, f1_1_1, f1_1_2, f1_1_3, f1_1_4, f1_1_5⟩ := str6 HS1_1.out
  have hl1_1 := HS1_1.out.lt
  have hf1_1 := fun j => HS1_1.out.frozen j
  go_wp2_with fail
  refine (muchState_any A2 n2 c2 W1.heap.size l2 _ (H2.out.next HB_1.out) (Nat.le_refl _)).mono ?_
  rintro e W2 ⟨rfl, hb2⟩
  rw [HM1.out]
  have HS0_2 := Lib.hid (HS0_1.out.next hb2)
  have HS1_2 := Lib.hid (HS1_1.out.next hb2)
  have HB_2 := Lib.hid (bstep HB_1.out hb2)
  have hw_2 := HB_2.out.size
  have hws_2 := (hb2).size
  clear f0_1_0 f0_1_1 f0_1_2 f0_1_3 f0_1_4 f0_1_5 HS0_1 hf0_1 f1_1_0 f1_1_1 f1_1_2 f1_1_3 f1_1_4 f1_1_5 HS1_1 hf1_1
  clear hb2
  obtain ⟨f0_2_0, f0_2_1, f0_2_2, f0_2_3, f0_2_4, f0_2_5⟩ := str6 HS0_2.out
  have hl0_2 := HS0_2.out.lt
  have hf0_2 := fun j => HS0_2.out.frozen j
  obtain ⟨f1_2_0, f1_2_1, f1_2_2, f1_2_3, f1_2_4, f1_2_5⟩ := str6 HS1_2.out
  have hl1_2 := HS1_2.out.lt
  have hf1_2 := fun j => HS1_2.out.frozen j
  go_wp2_with fail
  refine (Find_any A1 n1 c1 W2.heap.size l1 key _ (H1.out.next HB_2.out) (Nat.le_refl _) (by omega) HSM.out).mono ?_
  rintro e W3 ⟨Ac2, nc2, cc2, rfl, hyc, hb3⟩
  have HS0_3 := Lib.hid (HS0_2.out.next hb3)
  have HS1_3 := Lib.hid (HS1_2.out.next hb3)
  have HB_3 := Lib.hid (bstep HB_2.out hb3)
  have hw_3 := HB_3.out.size
  have hws_3 := (hb3).size
  clear f0_2_0 f0_2_1 f0_2_2 f0_2_3 f0_2_4 f0_2_5 HS0_2 hf0_2 f1_2_0 f1_2_1 f1_2_2 f1_2_3 f1_2_4 f1_2_5 HS1_2 hf1_2
  clear hb3
  obtain ⟨f0_3_0, f0_3_1, f0_3_2, f0_3_3, f0_3_4, f0_3_5⟩ := str6 HS0_3.out
  have hl0_3 := HS0_3.out.lt
  have hf0_3 := fun j => HS0_3.out.frozen j
  obtain ⟨f1_3_0, f1_3_1, f1_3_2, f1_3_3, f1_3_4, f1_3_5⟩ := str6 HS1_3.out
  have hl1_3 := HS1_3.out.lt
  have hf1_3 := fun j => HS1_3.out.frozen j
  rw [HF.out] at hyc
  rw [HF.out]
  have HYc2_3 := Lib.hid (hyc)
  clear hyc
  go_wp2_with fail
  generalize hW4 : W3.alloc (.cells #[.int .i64 (f.getD CellP.none).kind, .slice Ac2 nc2 cc2, .int .i64 (f.getD CellP.none).lo, .int .i64 (f.getD CellP.none).hi, .int .i64 (f.getD CellP.none).val] 37) = W4
  have HS0_4 : Hid (Str W4 (w.heap.size) #[.int .i64 ae, .int .i64 ak, .slice Aa na ca, .int .i64 alo, .int .i64 ahi, .int .i64 ava]) := Lib.hid (by rw [← hW4]; exact HS0_3.out.alloc _)
  have HS1_4 : Hid (Str W4 (w.heap.size + 1) #[.int .i64 be, .int .i64 bk, .slice Ab nb cb, .int .i64 blo, .int .i64 bhi, .int .i64 bva]) := Lib.hid (by rw [← hW4]; exact HS1_3.out.alloc _)
  have HS2_4 : Hid (Str W4 W3.heap.size #[.int .i64 (f.getD CellP.none).kind, .slice Ac2 nc2 cc2, .int .i64 (f.getD CellP.none).lo, .int .i64 (f.getD CellP.none).hi, .int .i64 (f.getD CellP.none).val]) := Lib.hid (by rw [← hW4]; exact Str.new W3 #[.int .i64 (f.getD CellP.none).kind, .slice Ac2 nc2 cc2, .int .i64 (f.getD CellP.none).lo, .int .i64 (f.getD CellP.none).hi, .int .i64 (f.getD CellP.none).val] 37)
  have hba4 : Below W3.heap.size W3 W4 := by rw [← hW4]; exact balloc (bsame _) _
  have HB_4 := Lib.hid (bstep HB_3.out hba4)
  have hw_4 := HB_4.out.size
  have hws_4 := hba4.size
  have HYc2_4 := Lib.hid (HYc2_3.out.next hba4)
  clear HYc2_3
  clear hW4
  clear f0_3_0 f0_3_1 f0_3_2 f0_3_3 f0_3_4 f0_3_5 HS0_3 hf0_3 f1_3_0 f1_3_1 f1_3_2 f1_3_3 f1_3_4 f1_3_5 HS1_3 hf1_3
  obtain ⟨f0_4_0, f0_4_1, f0_4_2, f0_4_3, f0_4_4, f0_4_5⟩ := str6 HS0_4.out
  have hl0_4 := HS0_4.out.lt
  have hf0_4 := fun j => HS0_4.out.frozen j
  obtain ⟨f1_4_0, f1_4_1, f1_4_2, f1_4_3, f1_4_4, f1_4_5⟩ := str6 HS1_4.out
  have hl1_4 := HS1_4.out.lt
  have hf1_4 := fun j => HS1_4.out.frozen j
  obtain ⟨f2_4_0, f2_4_1, f2_4_2, f2_4_3, f2_4_4⟩ := str5 HS2_4.out
  have hl2_4 := HS2_4.out.lt
  refine (refFind_any A1 n1 c1 W4.heap.size l1 key _ (H1.out.next HB_4.out) (Nat.le_refl _) (by omega) HSM.out).mono ?_
  rintro e W5 ⟨Ac4, nc4, cc4, rfl, hyc, hb5⟩
  have HS0_5 := Lib.hid (HS0_4.out.next hb5)
  have HS1_5 := Lib.hid (HS1_4.out.next hb5)
  have HS2_5 := Lib.hid (HS2_4.out.next hb5)
  have HB_5 := Lib.hid (bstep HB_4.out hb5)
  have hw_5 := HB_5.out.size
  have hws_5 := (hb5).size
  have HYc2_5 := Lib.hid (HYc2_4.out.next hb5)
  clear HYc2_4
  clear f0_4_0 f0_4_1 f0_4_2 f0_4_3 f0_4_4 f0_4_5 HS0_4 hf0_4 f1_4_0 f1_4_1 f1_4_2 f1_4_3 f1_4_4 f1_4_5 HS1_4 hf1_4 f2_4_0 f2_4_1 f2_4_2 f2_4_3 f2_4_4 HS2_4
  clear hb5
  obtain ⟨f0_5_0, f0_5_1, f0_5_2, f0_5_3, f0_5_4, f0_5_5⟩ := str6 HS0_5.out
  have hl0_5 := HS0_5.out.lt
  have hf0_5 := fun j => HS0_5.out.frozen j
  obtain ⟨f1_5_0, f1_5_1, f1_5_2, f1_5_3, f1_5_4, f1_5_5⟩ := str6 HS1_5.out
  have hl1_5 := HS1_5.out.lt
  have hf1_5 := fun j => HS1_5.out.frozen j
  obtain ⟨f2_5_0, f2_5_1, f2_5_2, f2_5_3, f2_5_4⟩ := str5 HS2_5.out
  have hl2_5 := HS2_5.out.lt
  rw [HF.out] at hyc
  rw [HF.out]
  have HYc4_5 := Lib.hid (hyc)
  clear hyc
  go_wp2_with fail
  generalize hW6 : W5.alloc (.cells #[.int .i64 (f.getD CellP.none).kind, .slice Ac4 nc4 cc4, .int .i64 (f.getD CellP.none).lo, .int .i64 (f.getD CellP.none).hi, .int .i64 (f.getD CellP.none).val] 37) = W6
  have HS0_6 : Hid (Str W6 (w.heap.size) #[.int .i64 ae, .int .i64 ak, .slice Aa na ca, .int .i64 alo, .int .i64 ahi, .int .i64 ava]) := Lib.hid (by rw [← hW6]; exact HS0_5.out.alloc _)
  have HS1_6 : Hid (Str W6 (w.heap.size + 1) #[.int .i64 be, .int .i64 bk, .slice Ab nb cb, .int .i64 blo, .int .i64 bhi, .int .i64 bva]) := Lib.hid (by rw [← hW6]; exact HS1_5.out.alloc _)
  have HS2_6 : Hid (Str W6 (W3.heap.size) #[.int .i64 (f.getD CellP.none).kind, .slice Ac2 nc2 cc2, .int .i64 (f.getD CellP.none).lo, .int .i64 (f.getD CellP.none).hi, .int .i64 (f.getD CellP.none).val]) := Lib.hid (by rw [← hW6]; exact HS2_5.out.alloc _)
  have HS3_6 : Hid (Str W6 W5.heap.size #[.int .i64 (f.getD CellP.none).kind, .slice Ac4 nc4 cc4, .int .i64 (f.getD CellP.none).lo, .int .i64 (f.getD CellP.none).hi, .int .i64 (f.getD CellP.none).val]) := Lib.hid (by rw [← hW6]; exact Str.new W5 #[.int .i64 (f.getD CellP.none).kind, .slice Ac4 nc4 cc4, .int .i64 (f.getD CellP.none).lo, .int .i64 (f.getD CellP.none).hi, .int .i64 (f.getD CellP.none).val] 37)
  have hba6 : Below W5.heap.size W5 W6 := by rw [← hW6]; exact balloc (bsame _) _
  have HB_6 := Lib.hid (bstep HB_5.out hba6)
  have hw_6 := HB_6.out.size
  have hws_6 := hba6.size
  have HYc2_6 := Lib.hid (HYc2_5.out.next hba6)
  have HYc4_6 := Lib.hid (HYc4_5.out.next hba6)
  clear HYc2_5 HYc4_5
  clear hW6
  clear f0_5_0 f0_5_1 f0_5_2 f0_5_3 f0_5_4 f0_5_5 HS0_5 hf0_5 f1_5_0 f1_5_1 f1_5_2 f1_5_3 f1_5_4 f1_5_5 HS1_5 hf1_5 f2_5_0 f2_5_1 f2_5_2 f2_5_3 f2_5_4 HS2_5
  obtain ⟨f0_6_0, f0_6_1, f0_6_2, f0_6_3, f0_6_4, f0_6_5⟩ := str6 HS0_6.out
  have hl0_6 := HS0_6.out.lt
  have hf0_6 := fun j => HS0_6.out.frozen j
  obtain ⟨f1_6_0, f1_6_1, f1_6_2, f1_6_3, f1_6_4, f1_6_5⟩ := str6 HS1_6.out
  have hl1_6 := HS1_6.out.lt
  have hf1_6 := fun j => HS1_6.out.frozen j
  obtain ⟨f2_6_0, f2_6_1, f2_6_2, f2_6_3, f2_6_4⟩ := str5 HS2_6.out
  have hl2_6 := HS2_6.out.lt
  obtain ⟨f3_6_0, f3_6_1, f3_6_2, f3_6_3, f3_6_4⟩ := str5 HS3_6.out
  have hl3_6 := HS3_6.out.lt
  refine Reg.wp_region_vals (R := ext) (W := W6) [Reg.eqv (.agg #[.int .i64 (f.getD CellP.none).kind, .slice Ac2 nc2 cc2, .int .i64 (f.getD CellP.none).lo, .int .i64 (f.getD CellP.none).hi, .int .i64 (f.getD CellP.none).val]), Reg.eqv (.agg #[.int .i64 (f.getD CellP.none).kind, .slice Ac4 nc4 cc4, .int .i64 (f.getD CellP.none).lo, .int .i64 (f.getD CellP.none).hi, .int .i64 (f.getD CellP.none).val]), Reg.eqv (.bool true), Reg.eqv (.bool true), Reg.eqv (.bool f.isSome), Reg.eqv (.bool f.isSome), Reg.eqv (.bool true), Reg.eqv (.bool true), Reg.eqv (.bool true), Reg.eqv (.slice A1 n1 c1), Reg.eqv (.slice A2 n2 c2), Reg.eqv (.bool sm), Reg.eqv (.slice A1 n1 c1), Reg.eqv (.slice A2 n2 c2), Reg.eqv (.bool sm), Reg.eqv (.bool true), Reg.eqv (.bool true), Reg.eqv (.bool true), Reg.eqv (.agg #[.int .i64 ae, .int .i64 ak, .slice Aa na ca, .int .i64 alo, .int .i64 ahi, .int .i64 ava]), Reg.eqv (.agg #[.int .i64 be, .int .i64 bk, .slice Ab nb cb, .int .i64 blo, .int .i64 bhi, .int .i64 bva]), Reg.eqv (.bool sa), Reg.eqv (.agg #[.int .i64 ae, .int .i64 ak, .slice Aa na ca, .int .i64 alo, .int .i64 ahi, .int .i64 ava]), Reg.eqv (.agg #[.int .i64 be, .int .i64 bk, .slice Ab nb cb, .int .i64 blo, .int .i64 bhi, .int .i64 bva]), Reg.eqv (.bool sa), Reg.eqv (.bool true), Reg.eqv (.bool true), Reg.eqv (.bool true), Reg.eqv (.slice A1 n1 c1), Reg.eqv (.bool rb), Reg.eqv (.slice A1 n1 c1), Reg.eqv (.bool rb), Reg.eqv (.bool true), Reg.eqv (.bool true), Reg.eqv (.bool true), Reg.eqv (.bool true), Reg.eqv (.bool true), Reg.eqv (.bool true)] 84 [[(11, none)], [(13, none)], [(48, some 0), (49, some 1)], [(50, some 2)], [(12, none), (51, some 3)], [(14, none), (51, some 3)], [(52, some 4), (53, some 5), (51, some 3)], [(51, some 3), (54, some 6)], [(55, some 7)], [(0, none), (56, some 8)], [(1, none), (56, some 8)], [(57, some 9), (58, some 10), (56, some 8)], [(0, none), (56, some 8)], [(1, none), (56, some 8)], [(60, some 12), (61, some 13), (56, some 8)], [(59, some 11), (62, some 14), (56, some 8)], [(56, some 8), (63, some 15)], [(64, some 16)], [(8, none), (65, some 17)], [(9, none), (65, some 17)], [(66, some 18), (67, some 19), (65, some 17)], [(8, none), (65, some 17)], [(9, none), (65, some 17)], [(69, some 21), (70, some 22), (65, some 17)], [(68, some 20), (71, some 23), (65, some 17)], [(65, some 17), (72, some 24)], [(73, some 25)], [(0, none), (74, some 26)], [(75, some 27), (74, some 26)], [(0, none), (74, some 26)], [(77, some 29), (74, some 26)], [(76, some 28), (78, some 30), (74, some 26)], [(74, some 26), (79, some 31)], [(80, some 32)], [(81, some 33)], [(81, some 33), (82, some 34)], [(83, some 35)]] rfl (by kernel_rfl) (by kernel_rfl) (by kernel_rfl) ?_ [some 48, some 49, some 50, some 51, some 52, some 53, some 54, some 55, some 56, some 57, some 58, some 59, some 60, some 61, some 62, some 63, some 64, some 65, some 66, some 67, some 68, some 69, some 70, some 71, some 72, some 73, some 74, some 75, some 76, some 77, some 78, some 79, some 80, some 81, some 82, some 83, some 10] (by kernel_rfl) ?_
  · refine ⟨?_, ?_, ?_, ?_, ?_, ?_, ?_, ?_, ?_, ?_, ?_, ?_, ?_, ?_, ?_, ?_, ?_, ?_, ?_, ?_, ?_, ?_, ?_, ?_, ?_, ?_, ?_, ?_, ?_, ?_, ?_, ?_, ?_, ?_, ?_, ?_, ?_, trivial⟩
    · intro ax wx hx hs
      obtain ⟨e11, -⟩ := hs
      have g11 := Reg.ev (v := .pointer (some ⟨W3.heap.size, 0, none⟩)) e11
      obtain ⟨l0_0, l0_1, l0_2, l0_3, l0_4, l0_5⟩ := str6 (HS0_6.out.next hx)
      obtain ⟨l1_0, l1_1, l1_2, l1_3, l1_4, l1_5⟩ := str6 (HS1_6.out.next hx)
      obtain ⟨l2_0, l2_1, l2_2, l2_3, l2_4⟩ := str5 (HS2_6.out.next hx)
      obtain ⟨l3_0, l3_1, l3_2, l3_3, l3_4⟩ := str5 (HS3_6.out.next hx)
      exact Reg.obl_free rfl (Reg.wp_eqv (Option.some_ne_none _) (by go_simp) rfl)
    · intro ax wx hx hs
      obtain ⟨e13, -⟩ := hs
      have g13 := Reg.ev (v := .pointer (some ⟨W5.heap.size, 0, none⟩)) e13
      obtain ⟨l0_0, l0_1, l0_2, l0_3, l0_4, l0_5⟩ := str6 (HS0_6.out.next hx)
      obtain ⟨l1_0, l1_1, l1_2, l1_3, l1_4, l1_5⟩ := str6 (HS1_6.out.next hx)
      obtain ⟨l2_0, l2_1, l2_2, l2_3, l2_4⟩ := str5 (HS2_6.out.next hx)
      obtain ⟨l3_0, l3_1, l3_2, l3_3, l3_4⟩ := str5 (HS3_6.out.next hx)
      exact Reg.obl_free rfl (Reg.wp_eqv (Option.some_ne_none _) (by go_simp) rfl)
    · intro ax wx hx hs
      obtain ⟨e48, e49, -⟩ := hs
      have g48 := Reg.ev (v := .agg #[.int .i64 (f.getD CellP.none).kind, .slice Ac2 nc2 cc2, .int .i64 (f.getD CellP.none).lo, .int .i64 (f.getD CellP.none).hi, .int .i64 (f.getD CellP.none).val]) e48
      have g49 := Reg.ev (v := .agg #[.int .i64 (f.getD CellP.none).kind, .slice Ac4 nc4 cc4, .int .i64 (f.getD CellP.none).lo, .int .i64 (f.getD CellP.none).hi, .int .i64 (f.getD CellP.none).val]) e49
      refine Reg.obl_free rfl ?_
      have hx' : Below W6.heap.size W6 wx := hx
      go_simp
      refine (CellW.refSame_any Ac2 Ac4 nc2 cc2 nc4 cc4 W6.heap.size W6.heap.size (f.getD CellP.none) (f.getD CellP.none) _ (HYc2_6.out.below hx') (HYc4_6.out.below hx') hx'.size hx'.size).mono ?_
      rintro e wy ⟨rfl, hby⟩
      rw [HSC.out]
      exact Reg.done (Option.some_ne_none _) rfl hby
    · intro ax wx hx hs
      obtain ⟨e50, -⟩ := hs
      have g50 := Reg.ev (v := .bool true) e50
      exact Reg.obl_free rfl (Reg.wp_eqv (Option.some_ne_none _) (by go_simp) rfl)
    · intro ax wx hx hs
      obtain ⟨e12, e51, -⟩ := hs
      have g12 := Reg.ev (v := .bool f.isSome) e12
      have g51 := Reg.ev (v := .bool true) e51
      exact Reg.obl_want rfl rfl e51 (Reg.wp_eqv (Option.some_ne_none _) (by go_simp) rfl)
    · intro ax wx hx hs
      obtain ⟨e14, e51, -⟩ := hs
      have g14 := Reg.ev (v := .bool f.isSome) e14
      have g51 := Reg.ev (v := .bool true) e51
      exact Reg.obl_want rfl rfl e51 (Reg.wp_eqv (Option.some_ne_none _) (by go_simp) rfl)
    · intro ax wx hx hs
      obtain ⟨e52, e53, e51, -⟩ := hs
      have g52 := Reg.ev (v := .bool f.isSome) e52
      have g53 := Reg.ev (v := .bool f.isSome) e53
      have g51 := Reg.ev (v := .bool true) e51
      exact Reg.obl_want rfl rfl e51 (Reg.wp_eqv (Option.some_ne_none _) (by go_simp) rfl)
    · intro ax wx hx hs
      obtain ⟨e51, e54, -⟩ := hs
      have g51 := Reg.ev (v := .bool true) e51
      have g54 := Reg.ev (v := .bool true) e54
      exact Reg.obl_free rfl (Reg.wp_eqv (Option.some_ne_none _) (by go_simp) rfl)
    · intro ax wx hx hs
      obtain ⟨e55, -⟩ := hs
      have g55 := Reg.ev (v := .bool true) e55
      exact Reg.obl_free rfl (Reg.wp_eqv (Option.some_ne_none _) (by go_simp) rfl)
    · intro ax wx hx hs
      obtain ⟨e0, e56, -⟩ := hs
      have g0 := Reg.ev (v := .slice A1 n1 c1) e0
      have g56 := Reg.ev (v := .bool true) e56
      exact Reg.obl_want rfl rfl e56 (Reg.wp_eqv (Option.some_ne_none _) (by go_simp) rfl)
    · intro ax wx hx hs
      obtain ⟨e1, e56, -⟩ := hs
      have g1 := Reg.ev (v := .slice A2 n2 c2) e1
      have g56 := Reg.ev (v := .bool true) e56
      exact Reg.obl_want rfl rfl e56 (Reg.wp_eqv (Option.some_ne_none _) (by go_simp) rfl)
    · intro ax wx hx hs
      obtain ⟨e57, e58, e56, -⟩ := hs
      have g57 := Reg.ev (v := .slice A1 n1 c1) e57
      have g58 := Reg.ev (v := .slice A2 n2 c2) e58
      have g56 := Reg.ev (v := .bool true) e56
      refine Reg.obl_want rfl rfl e56 ?_
      have hx' : Below W6.heap.size W6 wx := hx
      go_simp
      refine (Same_any A1 A2 n1 c1 n2 c2 wx.heap.size wx.heap.size l1 l2 _ (H1.out.next (bstep HB_6.out hx')) (Nat.le_refl _) (H2.out.next (bstep HB_6.out hx')) (Nat.le_refl _) (by omega)).mono ?_
      rintro e wy ⟨rfl, hby⟩
      rw [HSMM.out]
      exact Reg.done (Option.some_ne_none _) rfl hby
    · intro ax wx hx hs
      obtain ⟨e0, e56, -⟩ := hs
      have g0 := Reg.ev (v := .slice A1 n1 c1) e0
      have g56 := Reg.ev (v := .bool true) e56
      exact Reg.obl_want rfl rfl e56 (Reg.wp_eqv (Option.some_ne_none _) (by go_simp) rfl)
    · intro ax wx hx hs
      obtain ⟨e1, e56, -⟩ := hs
      have g1 := Reg.ev (v := .slice A2 n2 c2) e1
      have g56 := Reg.ev (v := .bool true) e56
      exact Reg.obl_want rfl rfl e56 (Reg.wp_eqv (Option.some_ne_none _) (by go_simp) rfl)
    · intro ax wx hx hs
      obtain ⟨e60, e61, e56, -⟩ := hs
      have g60 := Reg.ev (v := .slice A1 n1 c1) e60
      have g61 := Reg.ev (v := .slice A2 n2 c2) e61
      have g56 := Reg.ev (v := .bool true) e56
      refine Reg.obl_want rfl rfl e56 ?_
      have hx' : Below W6.heap.size W6 wx := hx
      go_simp
      refine (refSameS_any A1 A2 n1 c1 n2 c2 wx.heap.size wx.heap.size l1 l2 _ (H1.out.next (bstep HB_6.out hx')) (Nat.le_refl _) (H2.out.next (bstep HB_6.out hx')) (Nat.le_refl _) (by omega)).mono ?_
      rintro e wy ⟨rfl, hby⟩
      rw [HSMM.out]
      exact Reg.done (Option.some_ne_none _) rfl hby
    · intro ax wx hx hs
      obtain ⟨e59, e62, e56, -⟩ := hs
      have g59 := Reg.ev (v := .bool sm) e59
      have g62 := Reg.ev (v := .bool sm) e62
      have g56 := Reg.ev (v := .bool true) e56
      exact Reg.obl_want rfl rfl e56 (Reg.wp_eqv (Option.some_ne_none _) (by go_simp) rfl)
    · intro ax wx hx hs
      obtain ⟨e56, e63, -⟩ := hs
      have g56 := Reg.ev (v := .bool true) e56
      have g63 := Reg.ev (v := .bool true) e63
      exact Reg.obl_free rfl (Reg.wp_eqv (Option.some_ne_none _) (by go_simp) rfl)
    · intro ax wx hx hs
      obtain ⟨e64, -⟩ := hs
      have g64 := Reg.ev (v := .bool true) e64
      exact Reg.obl_free rfl (Reg.wp_eqv (Option.some_ne_none _) (by go_simp) rfl)
    · intro ax wx hx hs
      obtain ⟨e8, e65, -⟩ := hs
      have g8 := Reg.ev (v := .pointer (some ⟨w.heap.size, 0, none⟩)) e8
      have g65 := Reg.ev (v := .bool true) e65
      obtain ⟨l0_0, l0_1, l0_2, l0_3, l0_4, l0_5⟩ := str6 (HS0_6.out.next hx)
      obtain ⟨l1_0, l1_1, l1_2, l1_3, l1_4, l1_5⟩ := str6 (HS1_6.out.next hx)
      obtain ⟨l2_0, l2_1, l2_2, l2_3, l2_4⟩ := str5 (HS2_6.out.next hx)
      obtain ⟨l3_0, l3_1, l3_2, l3_3, l3_4⟩ := str5 (HS3_6.out.next hx)
      exact Reg.obl_want rfl rfl e65 (Reg.wp_eqv (Option.some_ne_none _) (by go_simp) rfl)
    · intro ax wx hx hs
      obtain ⟨e9, e65, -⟩ := hs
      have g9 := Reg.ev (v := .pointer (some ⟨w.heap.size + 1, 0, none⟩)) e9
      have g65 := Reg.ev (v := .bool true) e65
      obtain ⟨l0_0, l0_1, l0_2, l0_3, l0_4, l0_5⟩ := str6 (HS0_6.out.next hx)
      obtain ⟨l1_0, l1_1, l1_2, l1_3, l1_4, l1_5⟩ := str6 (HS1_6.out.next hx)
      obtain ⟨l2_0, l2_1, l2_2, l2_3, l2_4⟩ := str5 (HS2_6.out.next hx)
      obtain ⟨l3_0, l3_1, l3_2, l3_3, l3_4⟩ := str5 (HS3_6.out.next hx)
      exact Reg.obl_want rfl rfl e65 (Reg.wp_eqv (Option.some_ne_none _) (by go_simp) rfl)
    · intro ax wx hx hs
      obtain ⟨e66, e67, e65, -⟩ := hs
      have g66 := Reg.ev (v := .agg #[.int .i64 ae, .int .i64 ak, .slice Aa na ca, .int .i64 alo, .int .i64 ahi, .int .i64 ava]) e66
      have g67 := Reg.ev (v := .agg #[.int .i64 be, .int .i64 bk, .slice Ab nb cb, .int .i64 blo, .int .i64 bhi, .int .i64 bva]) e67
      have g65 := Reg.ev (v := .bool true) e65
      refine Reg.obl_want rfl rfl e65 ?_
      have hx' : Below W6.heap.size W6 wx := hx
      go_simp
      refine (SameAnswer_any ⟨ae, ⟨ak, ad, alo, ahi, ava⟩⟩ ⟨be, ⟨bk, bd, blo, bhi, bva⟩⟩ Aa Ab na ca nb cb wx.heap.size wx.heap.size _ (HA.out.next (bstep HB_6.out hx')) (Nat.le_refl _) (HBB.out.next (bstep HB_6.out hx')) (Nat.le_refl _)).mono ?_
      rintro e wy ⟨rfl, hby⟩
      rw [HSA.out]
      exact Reg.done (Option.some_ne_none _) rfl hby
    · intro ax wx hx hs
      obtain ⟨e8, e65, -⟩ := hs
      have g8 := Reg.ev (v := .pointer (some ⟨w.heap.size, 0, none⟩)) e8
      have g65 := Reg.ev (v := .bool true) e65
      obtain ⟨l0_0, l0_1, l0_2, l0_3, l0_4, l0_5⟩ := str6 (HS0_6.out.next hx)
      obtain ⟨l1_0, l1_1, l1_2, l1_3, l1_4, l1_5⟩ := str6 (HS1_6.out.next hx)
      obtain ⟨l2_0, l2_1, l2_2, l2_3, l2_4⟩ := str5 (HS2_6.out.next hx)
      obtain ⟨l3_0, l3_1, l3_2, l3_3, l3_4⟩ := str5 (HS3_6.out.next hx)
      exact Reg.obl_want rfl rfl e65 (Reg.wp_eqv (Option.some_ne_none _) (by go_simp) rfl)
    · intro ax wx hx hs
      obtain ⟨e9, e65, -⟩ := hs
      have g9 := Reg.ev (v := .pointer (some ⟨w.heap.size + 1, 0, none⟩)) e9
      have g65 := Reg.ev (v := .bool true) e65
      obtain ⟨l0_0, l0_1, l0_2, l0_3, l0_4, l0_5⟩ := str6 (HS0_6.out.next hx)
      obtain ⟨l1_0, l1_1, l1_2, l1_3, l1_4, l1_5⟩ := str6 (HS1_6.out.next hx)
      obtain ⟨l2_0, l2_1, l2_2, l2_3, l2_4⟩ := str5 (HS2_6.out.next hx)
      obtain ⟨l3_0, l3_1, l3_2, l3_3, l3_4⟩ := str5 (HS3_6.out.next hx)
      exact Reg.obl_want rfl rfl e65 (Reg.wp_eqv (Option.some_ne_none _) (by go_simp) rfl)
    · intro ax wx hx hs
      obtain ⟨e69, e70, e65, -⟩ := hs
      have g69 := Reg.ev (v := .agg #[.int .i64 ae, .int .i64 ak, .slice Aa na ca, .int .i64 alo, .int .i64 ahi, .int .i64 ava]) e69
      have g70 := Reg.ev (v := .agg #[.int .i64 be, .int .i64 bk, .slice Ab nb cb, .int .i64 blo, .int .i64 bhi, .int .i64 bva]) e70
      have g65 := Reg.ev (v := .bool true) e65
      refine Reg.obl_want rfl rfl e65 ?_
      have hx' : Below W6.heap.size W6 wx := hx
      go_simp
      refine (refSameAnswer_any ⟨ae, ⟨ak, ad, alo, ahi, ava⟩⟩ ⟨be, ⟨bk, bd, blo, bhi, bva⟩⟩ Aa Ab na ca nb cb wx.heap.size wx.heap.size _ (HA.out.next (bstep HB_6.out hx')) (Nat.le_refl _) (HBB.out.next (bstep HB_6.out hx')) (Nat.le_refl _)).mono ?_
      rintro e wy ⟨rfl, hby⟩
      rw [HSA.out]
      exact Reg.done (Option.some_ne_none _) rfl hby
    · intro ax wx hx hs
      obtain ⟨e68, e71, e65, -⟩ := hs
      have g68 := Reg.ev (v := .bool sa) e68
      have g71 := Reg.ev (v := .bool sa) e71
      have g65 := Reg.ev (v := .bool true) e65
      exact Reg.obl_want rfl rfl e65 (Reg.wp_eqv (Option.some_ne_none _) (by go_simp) rfl)
    · intro ax wx hx hs
      obtain ⟨e65, e72, -⟩ := hs
      have g65 := Reg.ev (v := .bool true) e65
      have g72 := Reg.ev (v := .bool true) e72
      exact Reg.obl_free rfl (Reg.wp_eqv (Option.some_ne_none _) (by go_simp) rfl)
    · intro ax wx hx hs
      obtain ⟨e73, -⟩ := hs
      have g73 := Reg.ev (v := .bool true) e73
      exact Reg.obl_free rfl (Reg.wp_eqv (Option.some_ne_none _) (by go_simp) rfl)
    · intro ax wx hx hs
      obtain ⟨e0, e74, -⟩ := hs
      have g0 := Reg.ev (v := .slice A1 n1 c1) e0
      have g74 := Reg.ev (v := .bool true) e74
      exact Reg.obl_want rfl rfl e74 (Reg.wp_eqv (Option.some_ne_none _) (by go_simp) rfl)
    · intro ax wx hx hs
      obtain ⟨e75, e74, -⟩ := hs
      have g75 := Reg.ev (v := .slice A1 n1 c1) e75
      have g74 := Reg.ev (v := .bool true) e74
      refine Reg.obl_want rfl rfl e74 ?_
      have hx' : Below W6.heap.size W6 wx := hx
      go_simp
      refine (Right_any A1 n1 c1 wx.heap.size l1 _ (H1.out.next (bstep HB_6.out hx')) (Nat.le_refl _) (by omega)).mono ?_
      rintro e wy ⟨rfl, hby⟩
      rw [HRB.out]
      exact Reg.done (Option.some_ne_none _) rfl hby
    · intro ax wx hx hs
      obtain ⟨e0, e74, -⟩ := hs
      have g0 := Reg.ev (v := .slice A1 n1 c1) e0
      have g74 := Reg.ev (v := .bool true) e74
      exact Reg.obl_want rfl rfl e74 (Reg.wp_eqv (Option.some_ne_none _) (by go_simp) rfl)
    · intro ax wx hx hs
      obtain ⟨e77, e74, -⟩ := hs
      have g77 := Reg.ev (v := .slice A1 n1 c1) e77
      have g74 := Reg.ev (v := .bool true) e74
      refine Reg.obl_want rfl rfl e74 ?_
      have hx' : Below W6.heap.size W6 wx := hx
      go_simp
      refine (refRight_any A1 n1 c1 wx.heap.size l1 _ (H1.out.next (bstep HB_6.out hx')) (Nat.le_refl _) (by omega)).mono ?_
      rintro e wy ⟨rfl, hby⟩
      rw [HRB.out]
      exact Reg.done (Option.some_ne_none _) rfl hby
    · intro ax wx hx hs
      obtain ⟨e76, e78, e74, -⟩ := hs
      have g76 := Reg.ev (v := .bool rb) e76
      have g78 := Reg.ev (v := .bool rb) e78
      have g74 := Reg.ev (v := .bool true) e74
      exact Reg.obl_want rfl rfl e74 (Reg.wp_eqv (Option.some_ne_none _) (by go_simp) rfl)
    · intro ax wx hx hs
      obtain ⟨e74, e79, -⟩ := hs
      have g74 := Reg.ev (v := .bool true) e74
      have g79 := Reg.ev (v := .bool true) e79
      exact Reg.obl_free rfl (Reg.wp_eqv (Option.some_ne_none _) (by go_simp) rfl)
    · intro ax wx hx hs
      obtain ⟨e80, -⟩ := hs
      have g80 := Reg.ev (v := .bool true) e80
      exact Reg.obl_free rfl (Reg.wp_eqv (Option.some_ne_none _) (by go_simp) rfl)
    · intro ax wx hx hs
      obtain ⟨e81, -⟩ := hs
      have g81 := Reg.ev (v := .bool true) e81
      refine Reg.obl_want rfl rfl e81 ?_
      go_simp
      refine (Live09.live_any _).mono ?_
      rintro e wy ⟨rfl, hby⟩
      exact Reg.done (Option.some_ne_none _) rfl hby
    · intro ax wx hx hs
      obtain ⟨e81, e82, -⟩ := hs
      have g81 := Reg.ev (v := .bool true) e81
      have g82 := Reg.ev (v := .bool true) e82
      exact Reg.obl_free rfl (Reg.wp_eqv (Option.some_ne_none _) (by go_simp) rfl)
    · intro ax wx hx hs
      obtain ⟨e83, -⟩ := hs
      have g83 := Reg.ev (v := .bool true) e83
      exact Reg.obl_free rfl (Reg.wp_eqv (Option.some_ne_none _) (by go_simp) rfl)
  · intro W7 hwf
    simp only [Reg.Fin]
    rintro _ rfl _ rfl _ rfl _ rfl _ rfl _ rfl _ rfl _ rfl _ rfl _ rfl _ rfl _ rfl _ rfl _ rfl _ rfl _ rfl _ rfl _ rfl _ rfl _ rfl _ rfl _ rfl _ rfl _ rfl _ rfl _ rfl _ rfl _ rfl _ rfl _ rfl _ rfl _ rfl _ rfl _ rfl _ rfl _ rfl _ rfl
    go_simp
    have hwf' : Below W6.heap.size W6 W7 := hwf
    have HBe := bstep HB_6.out hwf'
    clear hwf hwf'
    go_wp2_with fail
    go_ret
    exact ⟨rfl, HBe⟩
theorem walk (v0 v1 v2 v3 v4 : Value) (a0 a1 : List Pair) (key : ByteArray) (a3 a4 : Answer) (w : World) (g0 : RPairs w w.heap.size v0 a0) (g1 : RPairs w w.heap.size v1 a1) (g2 : RStr w v2 key) (g3 : RAns w w.heap.size v3 a3) (g4 : RAns w w.heap.size v4 a4) :
    Calls Try.prog 6 #[v0, v1, v2, v3, v4] w fun e w' => e = .returned (.bool true) ∧ Below w.heap.size w w' := by
  obtain ⟨A1, n1, c1, rfl, h1⟩ := g0
  obtain ⟨A2, n2, c2, rfl, h2⟩ := g1
  obtain ⟨rfl, -⟩ := g2
  obtain ⟨Aa, na, ca, rfl, ha, -⟩ := g3
  obtain ⟨Ab, nb, cb, rfl, hb, -⟩ := g4
  obtain ⟨ae, ak, ad, alo, ahi, ava⟩ := a3
  obtain ⟨be, bk, bd, blo, bhi, bva⟩ := a4
  cases q0 : ModelP.muchS a0 with
  | true => exact way_s A1 n1 c1 a0 A2 n2 c2 a1 key ae ak ad alo ahi ava Aa na ca be bk bd blo bhi bva Ab nb cb w h1 h2 ha hb q0
  | false =>
    cases q1 : ModelP.muchS a1 with
    | true => exact way_t A1 n1 c1 a0 A2 n2 c2 a1 key ae ak ad alo ahi ava Aa na ca be bk bd blo bhi bva Ab nb cb w h1 h2 ha hb q0 q1
    | false =>
      cases q2 : decide (300 < na) with
      | true => exact way_a A1 n1 c1 a0 A2 n2 c2 a1 key ae ak ad alo ahi ava Aa na ca be bk bd blo bhi bva Ab nb cb w h1 h2 ha hb q0 q1 q2
      | false =>
        cases q3 : decide (300 < nb) with
        | true => exact way_b A1 n1 c1 a0 A2 n2 c2 a1 key ae ak ad alo ahi ava Aa na ca be bk bd blo bhi bva Ab nb cb w h1 h2 ha hb q0 q1 q2 q3
        | false => exact way_main A1 n1 c1 a0 A2 n2 c2 a1 key ae ak ad alo ahi ava Aa na ca be bk bd blo bhi bva Ab nb cb w h1 h2 ha hb q0 q1 q2 q3
end Go.Proofs.Ytghgccgpgonlmaa.modelLooks
