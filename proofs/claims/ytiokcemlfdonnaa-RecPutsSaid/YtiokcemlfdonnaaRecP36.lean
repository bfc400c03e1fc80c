/-
  Texts of one claim, joined: RefUndoB, RefCrc, RefRecB.
-/
import Derived.Test.YtiokcemlfdonnaaRecP20
import Derived.Test.YtiokcemlfdonnaaRecP35
import Derived.Test.YtiokcemlfdonnaaRecP25
import Derived.Test.YtiokcemlfdonnaaRecP34
import Derived.Test.YtiokcemlfdonnaaRecP5
import Derived.Test.YtiokcemlfdonnaaRecP11
import Derived.Test.YtiokcemlfdonnaaRecP23
namespace Go.Proofs.Ytiokcemlfdonnaa
open Go.RowKit
theorem Own.two (w : World) (base : Nat) (hb : base ≤ w.heap.size) (u v : UInt8) : Own (w.alloc (.cells #[.int .u8 (u.toNat : Int), .int .u8 (v.toNat : Int)] 5)) base (some ⟨w.heap.size, 0, none⟩) 2 2 [u, v] :=
  ⟨rfl, .inr ⟨_, _, _, rfl, hb, heap_alloc_new w _, Nat.le_refl _, by decide, rfl, rfl⟩⟩
end Go.Proofs.Ytiokcemlfdonnaa
namespace Go.Proofs.Ytiokcemlfdonnaa.RefUndoB
open Go.RowKit UndoW
set_option linter.unusedVariables false
attribute [local go_sem ↓] app_fold

set_option maxRecDepth 100000 in
set_option maxHeartbeats 1000000 in
theorem bytes_no (pact : Int) (puk : ByteArray) (Ap : Option Addr) (np cp Bp : Nat) (pst : Int) (pk : ByteArray) (pkd : Int) (pda : List UInt8) (plo phi pva : Int) (pun : Int) (w : World) (hp : Bytes w Bp Ap np cp pda) (hBp : Bp ≤ w.heap.size) (hpk : pk.size ≤ maxLen) (huk : puk.size ≤ maxLen) (hr : UndoP.right ⟨pact, puk, ⟨pst, pk, ⟨pkd, pda, plo, phi, pva⟩⟩, pun⟩ = false) : Calls Try.prog 44 #[.agg #[.int .i64 pact, .string puk, .int .i64 pst, .string pk, .int .i64 pkd, .slice Ap np cp, .int .i64 plo, .int .i64 phi, .int .i64 pva, .int .i64 pun]] w (GivesBytes w (UndoP.bytes ⟨pact, puk, ⟨pst, pk, ⟨pkd, pda, plo, phi, pva⟩⟩, pun⟩)) := by
  have Hp := Lib.hid hp
  have HR := Lib.hid hr
  clear hp hr
  have HE : Hid (UndoP.bytes ⟨pact, puk, ⟨pst, pk, ⟨pkd, pda, plo, phi, pva⟩⟩, pun⟩ = []) := Lib.hid (by rw [UndoP.bytes, if_neg (by rw [HR.out]; simp)])
  rw [HE.out]
  go_enter Try.func44, Try.ntmps44
  go_wp2_with fail
  generalize hW0 : (w).alloc (.cells #[.int .i64 pact, .string puk, .int .i64 pst, .string pk, .int .i64 pkd, .slice Ap np cp, .int .i64 plo, .int .i64 phi, .int .i64 pva, .int .i64 pun] 29) = W0
  have HS0_0 : Hid (Str W0 (w.heap.size) #[.int .i64 pact, .string puk, .int .i64 pst, .string pk, .int .i64 pkd, .slice Ap np cp, .int .i64 plo, .int .i64 phi, .int .i64 pva, .int .i64 pun]) := Lib.hid (by rw [← hW0]; have := Str.new (w) #[.int .i64 pact, .string puk, .int .i64 pst, .string pk, .int .i64 pkd, .slice Ap np cp, .int .i64 plo, .int .i64 phi, .int .i64 pva, .int .i64 pun] 29; simpa using this)
  have HB_0 : Hid (Below w.heap.size w W0) := Lib.hid (by rw [← hW0]; exact balloc (bsame w) _)
  have hw_0 := HB_0.out.size
  clear hW0
  obtain ⟨f0_0_0, f0_0_1, f0_0_2, f0_0_3, f0_0_4, f0_0_5, f0_0_6, f0_0_7, f0_0_8, f0_0_9⟩ := str10 HS0_0.out
  have hl0_0 := HS0_0.out.lt
  refine (right_any _ _ _ _ _ _ _ _ _ pda _ _ _ _ _ (Hp.out.below (HB_0.out.mono hBp)) (by omega) hpk huk).mono ?_
  rintro e W1 ⟨rfl, hb1⟩
  rw [HR.out]
  have HS0_1 := Lib.hid (HS0_0.out.next hb1)
  have HB_1 := Lib.hid (bstep HB_0.out hb1)
  have hw_1 := HB_1.out.size
  have hws_1 := (hb1).size
  clear f0_0_0 f0_0_1 f0_0_2 f0_0_3 f0_0_4 f0_0_5 f0_0_6 f0_0_7 f0_0_8 f0_0_9 HS0_0
  clear hb1
  obtain ⟨f0_1_0, f0_1_1, f0_1_2, f0_1_3, f0_1_4, f0_1_5, f0_1_6, f0_1_7, f0_1_8, f0_1_9⟩ := str10 HS0_1.out
  have hl0_1 := HS0_1.out.lt
  go_wp2_with fail
  go_ret
  exact ⟨none, 0, 0, rfl, Bytes.none_ _ _, HB_1.out⟩

set_option maxRecDepth 100000 in
set_option maxHeartbeats 1000000 in
theorem bytes0 (puk : ByteArray) (Ap : Option Addr) (np cp Bp : Nat) (pst : Int) (pk : ByteArray) (pkd : Int) (pda : List UInt8) (plo phi pva : Int) (pun : Int) (w : World) (hp : Bytes w Bp Ap np cp pda) (hBp : Bp ≤ w.heap.size) (hpk : pk.size ≤ maxLen) (huk : puk.size ≤ maxLen) (hr : UndoP.right ⟨0, puk, ⟨pst, pk, ⟨pkd, pda, plo, phi, pva⟩⟩, pun⟩ = true) : Calls Try.prog 44 #[.agg #[.int .i64 0, .string puk, .int .i64 pst, .string pk, .int .i64 pkd, .slice Ap np cp, .int .i64 plo, .int .i64 phi, .int .i64 pva, .int .i64 pun]] w (GivesBytes w (UndoP.bytes ⟨0, puk, ⟨pst, pk, ⟨pkd, pda, plo, phi, pva⟩⟩, pun⟩)) := by
  have Hp := Lib.hid hp
  have HR := Lib.hid hr
  clear hp hr
  have HE : Hid (UndoP.bytes ⟨0, puk, ⟨pst, pk, ⟨pkd, pda, plo, phi, pva⟩⟩, pun⟩ = [0]) := Lib.hid (by rw [UndoP.bytes, if_pos HR.out]; rfl)
  rw [HE.out]
  go_enter Try.func44, Try.ntmps44
  go_wp2_with fail
  generalize hW0 : (w).alloc (.cells #[.int .i64 0, .string puk, .int .i64 pst, .string pk, .int .i64 pkd, .slice Ap np cp, .int .i64 plo, .int .i64 phi, .int .i64 pva, .int .i64 pun] 29) = W0
  have HS0_0 : Hid (Str W0 (w.heap.size) #[.int .i64 0, .string puk, .int .i64 pst, .string pk, .int .i64 pkd, .slice Ap np cp, .int .i64 plo, .int .i64 phi, .int .i64 pva, .int .i64 pun]) := Lib.hid (by rw [← hW0]; have := Str.new (w) #[.int .i64 0, .string puk, .int .i64 pst, .string pk, .int .i64 pkd, .slice Ap np cp, .int .i64 plo, .int .i64 phi, .int .i64 pva, .int .i64 pun] 29; simpa using this)
  have HB_0 : Hid (Below w.heap.size w W0) := Lib.hid (by rw [← hW0]; exact balloc (bsame w) _)
  have hw_0 := HB_0.out.size
  clear hW0
  obtain ⟨f0_0_0, f0_0_1, f0_0_2, f0_0_3, f0_0_4, f0_0_5, f0_0_6, f0_0_7, f0_0_8, f0_0_9⟩ := str10 HS0_0.out
  have hl0_0 := HS0_0.out.lt
  refine (right_any _ _ _ _ _ _ _ _ _ pda _ _ _ _ _ (Hp.out.below (HB_0.out.mono hBp)) (by omega) hpk huk).mono ?_
  rintro e W1 ⟨rfl, hb1⟩
  rw [HR.out]
  have HS0_1 := Lib.hid (HS0_0.out.next hb1)
  have HB_1 := Lib.hid (bstep HB_0.out hb1)
  have hw_1 := HB_1.out.size
  have hws_1 := (hb1).size
  clear f0_0_0 f0_0_1 f0_0_2 f0_0_3 f0_0_4 f0_0_5 f0_0_6 f0_0_7 f0_0_8 f0_0_9 HS0_0
  clear hb1
  obtain ⟨f0_1_0, f0_1_1, f0_1_2, f0_1_3, f0_1_4, f0_1_5, f0_1_6, f0_1_7, f0_1_8, f0_1_9⟩ := str10 HS0_1.out
  have hl0_1 := HS0_1.out.lt
  go_wp2_with fail
  generalize hW2 : W1.alloc (.cells #[.int .u8 0] 5) = W2
  have HS0_2 : Hid (Str W2 (w.heap.size) #[.int .i64 0, .string puk, .int .i64 pst, .string pk, .int .i64 pkd, .slice Ap np cp, .int .i64 plo, .int .i64 phi, .int .i64 pva, .int .i64 pun]) := Lib.hid (by rw [← hW2]; exact HS0_1.out.alloc _)
  have HS1_2 : Hid (Str W2 W1.heap.size #[.int .u8 0]) := Lib.hid (by rw [← hW2]; exact Str.new W1 #[.int .u8 0] 5)
  have hba2 : Below W1.heap.size W1 W2 := by rw [← hW2]; exact balloc (bsame _) _
  have HB_2 := Lib.hid (bstep HB_1.out hba2)
  have hw_2 := HB_2.out.size
  have hws_2 := hba2.size
  clear hW2
  clear f0_1_0 f0_1_1 f0_1_2 f0_1_3 f0_1_4 f0_1_5 f0_1_6 f0_1_7 f0_1_8 f0_1_9 HS0_1
  obtain ⟨f0_2_0, f0_2_1, f0_2_2, f0_2_3, f0_2_4, f0_2_5, f0_2_6, f0_2_7, f0_2_8, f0_2_9⟩ := str10 HS0_2.out
  have hl0_2 := HS0_2.out.lt
  have f1_2_0 := str1 HS1_2.out
  have hl1_2 := HS1_2.out.lt
  clear hba2
  go_ret
  exact ⟨_, _, _, rfl, HS1_2.out.lit [0] rfl (by decide), HB_2.out⟩

set_option maxRecDepth 100000 in
set_option maxHeartbeats 1000000 in
theorem bytes1 (puk : ByteArray) (Ap : Option Addr) (np cp Bp : Nat) (pst : Int) (pk : ByteArray) (pkd : Int) (pda : List UInt8) (plo phi pva : Int) (pun : Int) (w : World) (hp : Bytes w Bp Ap np cp pda) (hBp : Bp ≤ w.heap.size) (hpk : pk.size ≤ maxLen) (huk : puk.size ≤ maxLen) (hr : UndoP.right ⟨1, puk, ⟨pst, pk, ⟨pkd, pda, plo, phi, pva⟩⟩, pun⟩ = true) : Calls Try.prog 44 #[.agg #[.int .i64 1, .string puk, .int .i64 pst, .string pk, .int .i64 pkd, .slice Ap np cp, .int .i64 plo, .int .i64 phi, .int .i64 pva, .int .i64 pun]] w (GivesBytes w (UndoP.bytes ⟨1, puk, ⟨pst, pk, ⟨pkd, pda, plo, phi, pva⟩⟩, pun⟩)) := by
  have Hp := Lib.hid hp
  have HR := Lib.hid hr
  clear hp hr
  have HE : Hid (UndoP.bytes ⟨1, puk, ⟨pst, pk, ⟨pkd, pda, plo, phi, pva⟩⟩, pun⟩ = [1, UInt8.ofNat puk.size] ++ (puk.data.toList ++ SlotP.bytes ⟨pst, pk, ⟨pkd, pda, plo, phi, pva⟩⟩)) := Lib.hid (by rw [UndoP.bytes, if_pos HR.out]; rfl)
  rw [HE.out]
  have hks := KeyP.right_size puk (UndoP.right_key _ (by simp) HR.out)
  have hkm : ((puk.size : Int) % 256) = (puk.size : Int) := by omega
  have hkb : ((UInt8.ofNat puk.size).toNat : Int) = (puk.size : Int) := by simp; omega
  have HKB := Lib.hid hkb
  clear hkb
  go_enter Try.func44, Try.ntmps44
  go_wp2_with fail
  generalize hW0 : (w).alloc (.cells #[.int .i64 1, .string puk, .int .i64 pst, .string pk, .int .i64 pkd, .slice Ap np cp, .int .i64 plo, .int .i64 phi, .int .i64 pva, .int .i64 pun] 29) = W0
  have HS0_0 : Hid (Str W0 (w.heap.size) #[.int .i64 1, .string puk, .int .i64 pst, .string pk, .int .i64 pkd, .slice Ap np cp, .int .i64 plo, .int .i64 phi, .int .i64 pva, .int .i64 pun]) := Lib.hid (by rw [← hW0]; have := Str.new (w) #[.int .i64 1, .string puk, .int .i64 pst, .string pk, .int .i64 pkd, .slice Ap np cp, .int .i64 plo, .int .i64 phi, .int .i64 pva, .int .i64 pun] 29; simpa using this)
  have HB_0 : Hid (Below w.heap.size w W0) := Lib.hid (by rw [← hW0]; exact balloc (bsame w) _)
  have hw_0 := HB_0.out.size
  clear hW0
  obtain ⟨f0_0_0, f0_0_1, f0_0_2, f0_0_3, f0_0_4, f0_0_5, f0_0_6, f0_0_7, f0_0_8, f0_0_9⟩ := str10 HS0_0.out
  have hl0_0 := HS0_0.out.lt
  refine (right_any _ _ _ _ _ _ _ _ _ pda _ _ _ _ _ (Hp.out.below (HB_0.out.mono hBp)) (by omega) hpk huk).mono ?_
  rintro e W1 ⟨rfl, hb1⟩
  rw [HR.out]
  have HS0_1 := Lib.hid (HS0_0.out.next hb1)
  have HB_1 := Lib.hid (bstep HB_0.out hb1)
  have hw_1 := HB_1.out.size
  have hws_1 := (hb1).size
  clear f0_0_0 f0_0_1 f0_0_2 f0_0_3 f0_0_4 f0_0_5 f0_0_6 f0_0_7 f0_0_8 f0_0_9 HS0_0
  clear hb1
  obtain ⟨f0_1_0, f0_1_1, f0_1_2, f0_1_3, f0_1_4, f0_1_5, f0_1_6, f0_1_7, f0_1_8, f0_1_9⟩ := str10 HS0_1.out
  have hl0_1 := HS0_1.out.lt
  go_wp2_with fail
  obtain ⟨A3, c3, W2, happ3, hO3, hb3⟩ := (Own.two W1 W1.heap.size (Nat.le_refl _) 1 (UInt8.ofNat puk.size)).appStr puk (by omega) (by simp)
  have hb3' : Below W1.heap.size W1 W2 := ((Below.refl _ W1).alloc (Nat.le_refl _) _).trans hb3
  rw [HKB.out, show ((1 : UInt8).toNat : Int) = 1 from rfl] at happ3
  have HO3 := Lib.hid hO3
  have hsO : W1.heap.size ≤ W2.heap.size := hb3'.size
  clear hb3 hO3
  have HS0_2 := Lib.hid (HS0_1.out.next hb3')
  have HB_2 := Lib.hid (bstep HB_1.out hb3')
  have hw_2 := HB_2.out.size
  have hws_2 := (hb3').size
  clear f0_1_0 f0_1_1 f0_1_2 f0_1_3 f0_1_4 f0_1_5 f0_1_6 f0_1_7 f0_1_8 f0_1_9 HS0_1
  clear hb3'
  obtain ⟨f0_2_0, f0_2_1, f0_2_2, f0_2_3, f0_2_4, f0_2_5, f0_2_6, f0_2_7, f0_2_8, f0_2_9⟩ := str10 HS0_2.out
  have hl0_2 := HS0_2.out.lt
  go_simp
  go_wp2_with fail
  clear happ3
  refine (RefSlotBytes.bytes_any Ap np cp Bp ⟨pst, pk, ⟨pkd, pda, plo, phi, pva⟩⟩ _ (Hp.out.below (HB_2.out.mono hBp)) (by omega) hpk).mono ?_
  rintro e W3 ⟨A4, n4, c4, rfl, hy4, hb3⟩
  have hn4 : n4 = 64 := by rw [← hy4.len, SlotP.bytes_length]
  subst hn4
  have hsq := hb3.size
  have HO4 := Lib.hid (HO3.out.next hb3)
  have HS0_3 := Lib.hid (HS0_2.out.next hb3)
  have HB_3 := Lib.hid (bstep HB_2.out hb3)
  have hw_3 := HB_3.out.size
  have hws_3 := (hb3).size
  clear f0_2_0 f0_2_1 f0_2_2 f0_2_3 f0_2_4 f0_2_5 f0_2_6 f0_2_7 f0_2_8 f0_2_9 HS0_2
  clear hb3
  obtain ⟨f0_3_0, f0_3_1, f0_3_2, f0_3_3, f0_3_4, f0_3_5, f0_3_6, f0_3_7, f0_3_8, f0_3_9⟩ := str10 HS0_3.out
  have hl0_3 := HS0_3.out.lt
  obtain ⟨A6, c6, W4, happ6, hO6, hb6⟩ := HO4.out.app hy4 (by omega) (by omega)
  have HO6 := Lib.hid hO6
  have HB6 := Lib.hid (HB_3.out.trans (hb6.mono (by omega)))
  clear hO6 hb6 hy4
  go_wp2_with fail
  go_ret
  refine ⟨A6, _, c6, rfl, ?_, HB6.out⟩
  have h9 := HO6.out.bytes
  simpa using h9

set_option maxRecDepth 100000 in
set_option maxHeartbeats 1000000 in
theorem bytes2 (puk : ByteArray) (Ap : Option Addr) (np cp Bp : Nat) (pst : Int) (pk : ByteArray) (pkd : Int) (pda : List UInt8) (plo phi pva : Int) (pun : Int) (w : World) (hp : Bytes w Bp Ap np cp pda) (hBp : Bp ≤ w.heap.size) (hpk : pk.size ≤ maxLen) (huk : puk.size ≤ maxLen) (hr : UndoP.right ⟨2, puk, ⟨pst, pk, ⟨pkd, pda, plo, phi, pva⟩⟩, pun⟩ = true) : Calls Try.prog 44 #[.agg #[.int .i64 2, .string puk, .int .i64 pst, .string pk, .int .i64 pkd, .slice Ap np cp, .int .i64 plo, .int .i64 phi, .int .i64 pva, .int .i64 pun]] w (GivesBytes w (UndoP.bytes ⟨2, puk, ⟨pst, pk, ⟨pkd, pda, plo, phi, pva⟩⟩, pun⟩)) := by
  have Hp := Lib.hid hp
  have HR := Lib.hid hr
  clear hp hr
  have HE : Hid (UndoP.bytes ⟨2, puk, ⟨pst, pk, ⟨pkd, pda, plo, phi, pva⟩⟩, pun⟩ = [2, UInt8.ofNat puk.size] ++ (puk.data.toList ++ BeP.parts 8 pun)) := Lib.hid (by rw [UndoP.bytes, if_pos HR.out]; rfl)
  rw [HE.out]
  have hks := KeyP.right_size puk (UndoP.right_key _ (by simp) HR.out)
  have hkm : ((puk.size : Int) % 256) = (puk.size : Int) := by omega
  have hkb : ((UInt8.ofNat puk.size).toNat : Int) = (puk.size : Int) := by simp; omega
  have HKB := Lib.hid hkb
  clear hkb
  go_enter Try.func44, Try.ntmps44
  go_wp2_with fail
  generalize hW0 : (w).alloc (.cells #[.int .i64 2, .string puk, .int .i64 pst, .string pk, .int .i64 pkd, .slice Ap np cp, .int .i64 plo, .int .i64 phi, .int .i64 pva, .int .i64 pun] 29) = W0
  have HS0_0 : Hid (Str W0 (w.heap.size) #[.int .i64 2, .string puk, .int .i64 pst, .string pk, .int .i64 pkd, .slice Ap np cp, .int .i64 plo, .int .i64 phi, .int .i64 pva, .int .i64 pun]) := Lib.hid (by rw [← hW0]; have := Str.new (w) #[.int .i64 2, .string puk, .int .i64 pst, .string pk, .int .i64 pkd, .slice Ap np cp, .int .i64 plo, .int .i64 phi, .int .i64 pva, .int .i64 pun] 29; simpa using this)
  have HB_0 : Hid (Below w.heap.size w W0) := Lib.hid (by rw [← hW0]; exact balloc (bsame w) _)
  have hw_0 := HB_0.out.size
  clear hW0
  obtain ⟨f0_0_0, f0_0_1, f0_0_2, f0_0_3, f0_0_4, f0_0_5, f0_0_6, f0_0_7, f0_0_8, f0_0_9⟩ := str10 HS0_0.out
  have hl0_0 := HS0_0.out.lt
  refine (right_any _ _ _ _ _ _ _ _ _ pda _ _ _ _ _ (Hp.out.below (HB_0.out.mono hBp)) (by omega) hpk huk).mono ?_
  rintro e W1 ⟨rfl, hb1⟩
  rw [HR.out]
  have HS0_1 := Lib.hid (HS0_0.out.next hb1)
  have HB_1 := Lib.hid (bstep HB_0.out hb1)
  have hw_1 := HB_1.out.size
  have hws_1 := (hb1).size
  clear f0_0_0 f0_0_1 f0_0_2 f0_0_3 f0_0_4 f0_0_5 f0_0_6 f0_0_7 f0_0_8 f0_0_9 HS0_0
  clear hb1
  obtain ⟨f0_1_0, f0_1_1, f0_1_2, f0_1_3, f0_1_4, f0_1_5, f0_1_6, f0_1_7, f0_1_8, f0_1_9⟩ := str10 HS0_1.out
  have hl0_1 := HS0_1.out.lt
  go_wp2_with fail
  obtain ⟨A3, c3, W2, happ3, hO3, hb3⟩ := (Own.two W1 W1.heap.size (Nat.le_refl _) 2 (UInt8.ofNat puk.size)).appStr puk (by omega) (by simp)
  have hb3' : Below W1.heap.size W1 W2 := ((Below.refl _ W1).alloc (Nat.le_refl _) _).trans hb3
  rw [HKB.out, show ((2 : UInt8).toNat : Int) = 2 from rfl] at happ3
  have HO3 := Lib.hid hO3
  have hsO : W1.heap.size ≤ W2.heap.size := hb3'.size
  clear hb3 hO3
  have HS0_2 := Lib.hid (HS0_1.out.next hb3')
  have HB_2 := Lib.hid (bstep HB_1.out hb3')
  have hw_2 := HB_2.out.size
  have hws_2 := (hb3').size
  clear f0_1_0 f0_1_1 f0_1_2 f0_1_3 f0_1_4 f0_1_5 f0_1_6 f0_1_7 f0_1_8 f0_1_9 HS0_1
  clear hb3'
  obtain ⟨f0_2_0, f0_2_1, f0_2_2, f0_2_3, f0_2_4, f0_2_5, f0_2_6, f0_2_7, f0_2_8, f0_2_9⟩ := str10 HS0_2.out
  have hl0_2 := HS0_2.out.lt
  go_simp
  go_wp2_with fail
  clear happ3
  refine (RefBytes.bytes_any 8 pun _ (by omega)).mono ?_
  rintro e W3 ⟨A4, n4, c4, rfl, hy4, hb3⟩
  have hn4 : n4 = 8 := by rw [← hy4.len, BeP.parts_length]
  subst hn4
  have hsq := hb3.size
  have HO4 := Lib.hid (HO3.out.next hb3)
  have HS0_3 := Lib.hid (HS0_2.out.next hb3)
  have HB_3 := Lib.hid (bstep HB_2.out hb3)
  have hw_3 := HB_3.out.size
  have hws_3 := (hb3).size
  clear f0_2_0 f0_2_1 f0_2_2 f0_2_3 f0_2_4 f0_2_5 f0_2_6 f0_2_7 f0_2_8 f0_2_9 HS0_2
  clear hb3
  obtain ⟨f0_3_0, f0_3_1, f0_3_2, f0_3_3, f0_3_4, f0_3_5, f0_3_6, f0_3_7, f0_3_8, f0_3_9⟩ := str10 HS0_3.out
  have hl0_3 := HS0_3.out.lt
  obtain ⟨A6, c6, W4, happ6, hO6, hb6⟩ := HO4.out.app hy4 (by omega) (by omega)
  have HO6 := Lib.hid hO6
  have HB6 := Lib.hid (HB_3.out.trans (hb6.mono (by omega)))
  clear hO6 hb6 hy4
  go_wp2_with fail
  go_ret
  refine ⟨A6, _, c6, rfl, ?_, HB6.out⟩
  have h9 := HO6.out.bytes
  simpa using h9

set_option maxRecDepth 100000 in
set_option maxHeartbeats 1000000 in
theorem bytes3 (puk : ByteArray) (Ap : Option Addr) (np cp Bp : Nat) (pst : Int) (pk : ByteArray) (pkd : Int) (pda : List UInt8) (plo phi pva : Int) (pun : Int) (w : World) (hp : Bytes w Bp Ap np cp pda) (hBp : Bp ≤ w.heap.size) (hpk : pk.size ≤ maxLen) (huk : puk.size ≤ maxLen) (hr : UndoP.right ⟨3, puk, ⟨pst, pk, ⟨pkd, pda, plo, phi, pva⟩⟩, pun⟩ = true) : Calls Try.prog 44 #[.agg #[.int .i64 3, .string puk, .int .i64 pst, .string pk, .int .i64 pkd, .slice Ap np cp, .int .i64 plo, .int .i64 phi, .int .i64 pva, .int .i64 pun]] w (GivesBytes w (UndoP.bytes ⟨3, puk, ⟨pst, pk, ⟨pkd, pda, plo, phi, pva⟩⟩, pun⟩)) := by
  have Hp := Lib.hid hp
  have HR := Lib.hid hr
  clear hp hr
  have HE : Hid (UndoP.bytes ⟨3, puk, ⟨pst, pk, ⟨pkd, pda, plo, phi, pva⟩⟩, pun⟩ = [3, UInt8.ofNat puk.size] ++ (puk.data.toList ++ BeP.parts 8 pun)) := Lib.hid (by rw [UndoP.bytes, if_pos HR.out]; rfl)
  rw [HE.out]
  have hks := KeyP.right_size puk (UndoP.right_key _ (by simp) HR.out)
  have hkm : ((puk.size : Int) % 256) = (puk.size : Int) := by omega
  have hkb : ((UInt8.ofNat puk.size).toNat : Int) = (puk.size : Int) := by simp; omega
  have HKB := Lib.hid hkb
  clear hkb
  go_enter Try.func44, Try.ntmps44
  go_wp2_with fail
  generalize hW0 : (w).alloc (.cells #[.int .i64 3, .string puk, .int .i64 pst, .string pk, .int .i64 pkd, .slice Ap np cp, .int .i64 plo, .int .i64 phi, .int .i64 pva, .int .i64 pun] 29) = W0
  have HS0_0 : Hid (Str W0 (w.heap.size) #[.int .i64 3, .string puk, .int .i64 pst, .string pk, .int .i64 pkd, .slice Ap np cp, .int .i64 plo, .int .i64 phi, .int .i64 pva, .int .i64 pun]) := Lib.hid (by rw [← hW0]; have := Str.new (w) #[.int .i64 3, .string puk, .int .i64 pst, .string pk, .int .i64 pkd, .slice Ap np cp, .int .i64 plo, .int .i64 phi, .int .i64 pva, .int .i64 pun] 29; simpa using this)
  have HB_0 : Hid (Below w.heap.size w W0) := Lib.hid (by rw [← hW0]; exact balloc (bsame w) _)
  have hw_0 := HB_0.out.size
  clear hW0
  obtain ⟨f0_0_0, f0_0_1, f0_0_2, f0_0_3, f0_0_4, f0_0_5, f0_0_6, f0_0_7, f0_0_8, f0_0_9⟩ := str10 HS0_0.out
  have hl0_0 := HS0_0.out.lt
  refine (right_any _ _ _ _ _ _ _ _ _ pda _ _ _ _ _ (Hp.out.below (HB_0.out.mono hBp)) (by omega) hpk huk).mono ?_
  rintro e W1 ⟨rfl, hb1⟩
  rw [HR.out]
  have HS0_1 := Lib.hid (HS0_0.out.next hb1)
  have HB_1 := Lib.hid (bstep HB_0.out hb1)
  have hw_1 := HB_1.out.size
  have hws_1 := (hb1).size
  clear f0_0_0 f0_0_1 f0_0_2 f0_0_3 f0_0_4 f0_0_5 f0_0_6 f0_0_7 f0_0_8 f0_0_9 HS0_0
  clear hb1
  obtain ⟨f0_1_0, f0_1_1, f0_1_2, f0_1_3, f0_1_4, f0_1_5, f0_1_6, f0_1_7, f0_1_8, f0_1_9⟩ := str10 HS0_1.out
  have hl0_1 := HS0_1.out.lt
  go_wp2_with fail
  obtain ⟨A3, c3, W2, happ3, hO3, hb3⟩ := (Own.two W1 W1.heap.size (Nat.le_refl _) 3 (UInt8.ofNat puk.size)).appStr puk (by omega) (by simp)
  have hb3' : Below W1.heap.size W1 W2 := ((Below.refl _ W1).alloc (Nat.le_refl _) _).trans hb3
  rw [HKB.out, show ((3 : UInt8).toNat : Int) = 3 from rfl] at happ3
  have HO3 := Lib.hid hO3
  have hsO : W1.heap.size ≤ W2.heap.size := hb3'.size
  clear hb3 hO3
  have HS0_2 := Lib.hid (HS0_1.out.next hb3')
  have HB_2 := Lib.hid (bstep HB_1.out hb3')
  have hw_2 := HB_2.out.size
  have hws_2 := (hb3').size
  clear f0_1_0 f0_1_1 f0_1_2 f0_1_3 f0_1_4 f0_1_5 f0_1_6 f0_1_7 f0_1_8 f0_1_9 HS0_1
  clear hb3'
  obtain ⟨f0_2_0, f0_2_1, f0_2_2, f0_2_3, f0_2_4, f0_2_5, f0_2_6, f0_2_7, f0_2_8, f0_2_9⟩ := str10 HS0_2.out
  have hl0_2 := HS0_2.out.lt
  go_simp
  go_wp2_with fail
  clear happ3
  refine (RefBytes.bytes_any 8 pun _ (by omega)).mono ?_
  rintro e W3 ⟨A4, n4, c4, rfl, hy4, hb3⟩
  have hn4 : n4 = 8 := by rw [← hy4.len, BeP.parts_length]
  subst hn4
  have hsq := hb3.size
  have HO4 := Lib.hid (HO3.out.next hb3)
  have HS0_3 := Lib.hid (HS0_2.out.next hb3)
  have HB_3 := Lib.hid (bstep HB_2.out hb3)
  have hw_3 := HB_3.out.size
  have hws_3 := (hb3).size
  clear f0_2_0 f0_2_1 f0_2_2 f0_2_3 f0_2_4 f0_2_5 f0_2_6 f0_2_7 f0_2_8 f0_2_9 HS0_2
  clear hb3
  obtain ⟨f0_3_0, f0_3_1, f0_3_2, f0_3_3, f0_3_4, f0_3_5, f0_3_6, f0_3_7, f0_3_8, f0_3_9⟩ := str10 HS0_3.out
  have hl0_3 := HS0_3.out.lt
  obtain ⟨A6, c6, W4, happ6, hO6, hb6⟩ := HO4.out.app hy4 (by omega) (by omega)
  have HO6 := Lib.hid hO6
  have HB6 := Lib.hid (HB_3.out.trans (hb6.mono (by omega)))
  clear hO6 hb6 hy4
  go_wp2_with fail
  go_ret
  refine ⟨A6, _, c6, rfl, ?_, HB6.out⟩
  have h9 := HO6.out.bytes
  simpa using h9

set_option maxRecDepth 100000 in
set_option maxHeartbeats 1000000 in
theorem bytes_any (pact : Int) (puk : ByteArray) (Ap : Option Addr) (np cp Bp : Nat) (pst : Int) (pk : ByteArray) (pkd : Int) (pda : List UInt8) (plo phi pva : Int) (pun : Int) (w : World) (hp : Bytes w Bp Ap np cp pda) (hBp : Bp ≤ w.heap.size) (hpk : pk.size ≤ maxLen) (huk : puk.size ≤ maxLen)  : Calls Try.prog 44 #[.agg #[.int .i64 pact, .string puk, .int .i64 pst, .string pk, .int .i64 pkd, .slice Ap np cp, .int .i64 plo, .int .i64 phi, .int .i64 pva, .int .i64 pun]] w (GivesBytes w (UndoP.bytes ⟨pact, puk, ⟨pst, pk, ⟨pkd, pda, plo, phi, pva⟩⟩, pun⟩)) := by
  cases hr : UndoP.right ⟨pact, puk, ⟨pst, pk, ⟨pkd, pda, plo, phi, pva⟩⟩, pun⟩
  · exact bytes_no pact puk Ap np cp Bp pst pk pkd pda plo phi pva pun w hp hBp hpk huk hr
  by_cases h0 : pact = 0
  · subst h0
    exact bytes0 puk Ap np cp Bp pst pk pkd pda plo phi pva pun w hp hBp hpk huk hr
  by_cases h1 : pact = 1
  · subst h1
    exact bytes1 puk Ap np cp Bp pst pk pkd pda plo phi pva pun w hp hBp hpk huk hr
  by_cases h2 : pact = 2
  · subst h2
    exact bytes2 puk Ap np cp Bp pst pk pkd pda plo phi pva pun w hp hBp hpk huk hr
  by_cases h3 : pact = 3
  · subst h3
    exact bytes3 puk Ap np cp Bp pst pk pkd pda plo phi pva pun w hp hBp hpk huk hr
  · simp [UndoP.right, h0, h1, h2, h3] at hr
end Go.Proofs.Ytiokcemlfdonnaa.RefUndoB
namespace Go.Proofs.Ytiokcemlfdonnaa.RefCrc
open Go.RowKit CrcW
attribute [local go_sem ↓] app_fold cut_fold

theorem bits_snoc (k v : Nat) : CrcP.bits (k + 1) v = CrcP.bit (CrcP.bits k v) := by
  induction k generalizing v with
  | zero => rfl
  | succ k ih => rw [CrcP.bits, ih]; rfl
def Inner (w : World) (x : Nat) (v j : Value) (wr : World) : Prop := ∃ k : Nat, k ≤ 8 ∧ j = .int .i64 (k : Int) ∧ v = .int .u32 ((CrcP.bits k x : Nat) : Int) ∧ w = wr
def Outer (w : World) (u n : Nat) (l : List UInt8) (v i : Value) (wr : World) : Prop := ∃ k : Nat, k ≤ n ∧ i = .int .i64 (k : Int) ∧ v = .int .u32 ((st u l k : Nat) : Int) ∧ w = wr

set_option maxRecDepth 100000 in
set_option maxHeartbeats 1000000 in
theorem more_any (u : Nat) (hu : u < 4294967296) (A : Option Addr) (n c B : Nat) (l : List UInt8) (w : World) (h : Bytes w B A n c l) :
    Calls Try.prog 83 #[.int .u32 (u : Int), .slice A n c] w fun e w' => e = .returned (.int .u32 ((CrcP.more u l : Nat) : Int)) ∧ w = w' := by
  have hn := Nat.le_trans h.2.1 h.2.2.1
  unfold maxLen at hn
  have HLN := Lib.hid h.len
  have HY := Lib.hid h
  clear h
  go_enter Try.func83, Try.ntmps83
  go_wp2_with fail
  go_loopw [5, 6] (fun v i wr => Outer w u n l v i wr) (fun _ i _ => n - (intOf i).toNat)
  case atStart => exact ⟨0, Nat.zero_le _, rfl, congrArg (Value.int .u32) (by rw [st_zero]; omega), rfl⟩
  case round =>
    obtain ⟨k, hk, rfl, rfl, rfl⟩ := hrel
    by_cases hlt : k < n
    · have hkl : k < l.length := by rw [HLN.out]; exact hlt
      obtain ⟨b, o, rfl, hbB, hcell⟩ := HY.out.at_ hlt
      unfold byteV at hcell
      have HN := Lib.hid (st_succ u l k hkl)
      have hv := st_lt u l k
      generalize hc : l[k] = cb at *
      generalize hsv : st u l k = v at *
      clear hsv hc hkl
      have hcl := cb.toNat_lt
      have hcm : ((cb.toNat : Int) % 4294967296) = (cb.toNat : Int) := by omega
      have hx32 : bits .xor .u32 (v : Int) (cb.toNat : Int) = ((v ^^^ cb.toNat : Nat) : Int) := u32_xor_nat v cb.toNat hv (by omega)
      have hxl := CrcP.xor_byte_lt v hv cb
      have HX : Hid (CrcP.bits 8 (v ^^^ cb.toNat) = st u l (k + 1)) := Lib.hid (by rw [HN.out]; rfl)
      generalize v ^^^ cb.toNat = x at *
      go_wp2_with fail
      go_loopw [5, 7] (fun v j wr => Inner w x v j wr) (fun _ j _ => 8 - (intOf j).toNat)
      case atStart => exact ⟨0, by omega, rfl, rfl, rfl⟩
      case round =>
        obtain ⟨q, hq, rfl, rfl, rfl⟩ := hrel
        by_cases hq8 : q < 8
        · have hbl := CrcP.bits_lt q x hxl
          have HBS := Lib.hid (bits_snoc q x)
          generalize CrcP.bits q x = y at *
          go_wp2_with (go_at_call 113; refine (bit_any _ hbl _).mono ?_; rintro e w9 ⟨rfl, rfl⟩)
          go_roundw
          case rel => exact ⟨q + 1, by omega, by go_num, by rw [HBS.out], rfl⟩
          case measure => simp [intOf]; omega
        · have hq' : q = 8 := by omega
          subst hq'
          rw [HX.out]
          go_wp2_with fail
          go_roundw
          case rel => exact ⟨k + 1, by omega, by go_num, rfl, rfl⟩
          case measure => simp [intOf]; omega
    · have hv := st_lt u l k
      have HF : Hid ((4294967295 : Int) - ((st u l k : Nat) : Int) = ((CrcP.more u l : Nat) : Int)) := Lib.hid (by rw [st_all u l k (by rw [HLN.out]; omega)]; omega)
      generalize st u l k = v at *
      go_wp2_with fail
      go_ret
      exact ⟨congrArg (fun x => Ending.returned (.int .u32 x)) HF.out, rfl⟩

set_option maxRecDepth 100000 in
set_option maxHeartbeats 1000000 in
theorem seal_any (A : Option Addr) (n c B : Nat) (l : List UInt8) (w : World) (h : Bytes w B A n c l) (hB : B ≤ w.heap.size) (hn : n ≤ 1000000000) :
    Calls Try.prog 43 #[.slice A n c] w (GivesBytes w (BeP.parts 4 ((CrcP.sum l : Nat) : Int) ++ l)) := by
  have H := Lib.hid h
  have hs := CrcP.sum_lt l
  clear h
  go_enter Try.func43, Try.ntmps43
  go_wp2_with fail
  refine (more_any 0 (by omega) A n c B l _ H.out).mono ?_
  rintro e w1 ⟨rfl, rfl⟩
  obtain ⟨sm, hsm⟩ : ∃ sm, CrcP.sum l = sm := ⟨_, rfl⟩
  have hsm' : CrcP.more 0 l = sm := hsm
  rw [hsm'] 
  rw [hsm] at hs
  have HSM := Lib.hid hsm
  clear hsm hsm'
  go_wp2_with fail
  refine (RefBytesO.bytes_any 4 (sm : Int) _ (by omega)).mono ?_
  rintro e w2 ⟨A2, n2, c2, rfl, hO, hb2⟩
  have hn2 : n2 = 4 := by rw [← hO.len, BeP.parts_length]
  subst hn2
  obtain ⟨A3, c3, w3, happ, hO3, hb3⟩ := hO.app (H.out.below (hb2.mono hB)) (by omega) hb2.size
  have HO := Lib.hid hO3
  have HB := Lib.hid (hb2.trans hb3)
  clear hO hb2 hO3 hb3
  go_wp2_with fail
  go_ret
  rw [HSM.out]
  exact ⟨A3, _, c3, rfl, HO.out.bytes, HB.out⟩

end Go.Proofs.Ytiokcemlfdonnaa.RefCrc
namespace Go.Proofs.Ytiokcemlfdonnaa.RecP
theorem parts_one (m : Int) (h0 : 0 ≤ m) (h1 : m < 256) : BeP.parts 1 m = [UInt8.ofNat m.toNat] := by
  have e : BeP.u64 m = m.toNat := by unfold BeP.u64; omega
  simp [BeP.parts, BeP.part, e]
theorem byte_of (m : Int) (h0 : 0 ≤ m) (h1 : m < 256) : ((UInt8.ofNat m.toNat).toNat : Int) = m := by
  simp; omega
theorem body_le4 (x : RecX) (h : x.patches.length ≤ 4) (hu : (UndoP.bytes x.undo).length ≤ 100) : (body x).length ≤ 1100000 := by
  have := patsB_le x.patches
  have h2 : x.patches.length * 252005 ≤ 4 * 252005 := Nat.mul_le_mul_right _ h
  rw [body_length]
  omega
end Go.Proofs.Ytiokcemlfdonnaa.RecP
namespace Go.Proofs.Ytiokcemlfdonnaa.RefRec
open Go.RowKit RecW
set_option linter.unusedVariables false
set_option linter.unusedSimpArgs false
attribute [local go_sem ↓] app_fold
set_option maxRecDepth 100000 in
set_option maxHeartbeats 4000000 in
theorem bytes_any (kd tx pv nx : Int) (A : Option Addr) (n c B : Nat) (l : List PatchX) (pact : Int) (puk : ByteArray) (Ap : Option Addr) (np cp Bp : Nat) (pst : Int) (pk : ByteArray) (pkd : Int) (pda : List UInt8) (plo phi pva : Int) (pun : Int) (w : World) (hE : Elems PatchE w B A n c l) (hB : B ≤ w.heap.size) (hp : Bytes w Bp Ap np cp pda) (hBp : Bp ≤ w.heap.size) (hpk : pk.size ≤ maxLen) (hpuk : puk.size ≤ maxLen) :
    Calls Try.prog 13 #[.agg #[.int .i64 kd, .int .i64 tx, .int .i64 pv, .int .i64 nx, .slice A n c, .int .i64 pact, .string puk, .int .i64 pst, .string pk, .int .i64 pkd, .slice Ap np cp, .int .i64 plo, .int .i64 phi, .int .i64 pva, .int .i64 pun]] w (GivesBytes w (RecP.bytes ⟨kd, tx, pv, nx, l, ⟨pact, puk, ⟨pst, pk, ⟨pkd, pda, plo, phi, pva⟩⟩, pun⟩⟩)) := by
  have HE := Lib.hid hE
  have HP := Lib.hid hp
  have hlen := hE.len
  have hcap := hE.cap
  have hcm := hcap.2
  unfold maxLen at hcm
  have HPK := Lib.hid (And.intro hpk hpuk)
  have HLEN := Lib.hid hlen
  have HEC := Lib.hid hE
  clear hE hp
  obtain ⟨W0, hW0⟩ : ∃ W, w.alloc (.cells #[.int .i64 kd, .int .i64 tx, .int .i64 pv, .int .i64 nx, .slice A n c, .int .i64 pact, .string puk, .int .i64 pst, .string pk, .int .i64 pkd, .slice Ap np cp, .int .i64 plo, .int .i64 phi, .int .i64 pva, .int .i64 pun] 31) = W := ⟨_, rfl⟩
  obtain ⟨HS0, HB0, hw0, hz0⟩ := new1 hW0
  have g0 := str15 HS0.out
  have hl0 := HS0.out.lt
  clear hz0
  go_enter Try.func13, Try.ntmps13
  go_wp2_with fail
  refine (right_any kd tx pv nx A n c B l pact puk Ap np cp Bp pst pk pkd pda plo phi pva pun W0 (HE.out.below (HB0.out.mono hB)) (by omega) (HP.out.below (HB0.out.mono hBp)) (by omega) HPK.out.1 HPK.out.2).mono ?_
  rintro e W1 ⟨rfl, hb1⟩
  have HS1 := Lib.hid (HS0.out.next hb1)
  have HB1 := Lib.hid (bstep HB0.out hb1)
  have hw1 := HB1.out.size
  clear hb1 HS0 HB0 g0 hl0
  have g0 := str15 HS1.out
  have hl0 := HS1.out.lt
  cases hr : RecP.right ⟨kd, tx, pv, nx, l, ⟨pact, puk, ⟨pst, pk, ⟨pkd, pda, plo, phi, pva⟩⟩, pun⟩⟩ with
  | false =>
    have HFIN : Hid (RecP.bytes ⟨kd, tx, pv, nx, l, ⟨pact, puk, ⟨pst, pk, ⟨pkd, pda, plo, phi, pva⟩⟩, pun⟩⟩ = []) := Lib.hid (by unfold RecP.bytes RecP.fits; rw [hr]; rfl)
    clear hr
    go_wp2
    go_ret
    exact ⟨none, 0, 0, rfl, by rw [HFIN.out]; exact Bytes.none_ _ _, HB1.out⟩
  | true =>
    have hR := (RecP.right_iff _).1 hr
    have HR := Lib.hid hr
    obtain ⟨⟨⟨k1, k2⟩, -⟩, k3, -, HPT, -⟩ := hR
    dsimp only at k1 k2 k3 HPT
    rw [hlen] at k3
    have hub := UndoP.bytes_le ⟨pact, puk, ⟨pst, pk, ⟨pkd, pda, plo, phi, pva⟩⟩, pun⟩
    have HBL := Lib.hid (RecP.body_le4 ⟨kd, tx, pv, nx, l, ⟨pact, puk, ⟨pst, pk, ⟨pkd, pda, plo, phi, pva⟩⟩, pun⟩⟩ (by show l.length ≤ 4; rw [hlen]; exact k3) hub)
    have HIN : Hid (RecP.inner ⟨kd, tx, pv, nx, l, ⟨pact, puk, ⟨pst, pk, ⟨pkd, pda, plo, phi, pva⟩⟩, pun⟩⟩ = BeP.parts 1 kd ++ (BeP.parts 8 tx ++ (BeP.parts 8 pv ++ (BeP.parts 8 nx ++ (BeP.parts 1 (n : Int) ++ (RecP.patsB l ++ UndoP.bytes ⟨pact, puk, ⟨pst, pk, ⟨pkd, pda, plo, phi, pva⟩⟩, pun⟩)))))) := Lib.hid (by unfold RecP.inner; dsimp only; rw [hlen])
    have HBO : Hid (RecP.body ⟨kd, tx, pv, nx, l, ⟨pact, puk, ⟨pst, pk, ⟨pkd, pda, plo, phi, pva⟩⟩, pun⟩⟩ = BeP.parts 4 ((CrcP.sum (RecP.inner ⟨kd, tx, pv, nx, l, ⟨pact, puk, ⟨pst, pk, ⟨pkd, pda, plo, phi, pva⟩⟩, pun⟩⟩) : Nat) : Int) ++ RecP.inner ⟨kd, tx, pv, nx, l, ⟨pact, puk, ⟨pst, pk, ⟨pkd, pda, plo, phi, pva⟩⟩, pun⟩⟩) := Lib.hid rfl
    have HFB : Hid (RecP.bytes ⟨kd, tx, pv, nx, l, ⟨pact, puk, ⟨pst, pk, ⟨pkd, pda, plo, phi, pva⟩⟩, pun⟩⟩ = if (RecP.body ⟨kd, tx, pv, nx, l, ⟨pact, puk, ⟨pst, pk, ⟨pkd, pda, plo, phi, pva⟩⟩, pun⟩⟩).length ≤ 65535 then BeP.parts 2 ((RecP.body ⟨kd, tx, pv, nx, l, ⟨pact, puk, ⟨pst, pk, ⟨pkd, pda, plo, phi, pva⟩⟩, pun⟩⟩).length : Nat) ++ RecP.body ⟨kd, tx, pv, nx, l, ⟨pact, puk, ⟨pst, pk, ⟨pkd, pda, plo, phi, pva⟩⟩, pun⟩⟩ else []) := Lib.hid (by unfold RecP.bytes RecP.fits; rw [HR.out]; simp)
    have HUB := Lib.hid hub
    clear hr HPT hub
    -- the kind
    have hkb := RecP.byte_of kd (by omega) (by omega)
    have hone := Own.one W1 (w.heap.size + 1) (by omega) (UInt8.ofNat kd.toNat)
    rw [hkb, ← RecP.parts_one kd (by omega) (by omega)] at hone
    have hw9 : kd % 256 = kd := by omega
    obtain ⟨g2, hK2⟩ := BK.of_own (w0 := w) hone (balloc HB1.out (.cells #[.int .u8 kd] 5)) (HS1.out.alloc _) (Nat.lt_succ_self _)
    have HK := Lib.hid hK2
    clear hK2 hone hkb
    go_wp2_with fail
    obtain ⟨W2, hW2⟩ : ∃ W, W1.alloc (.cells #[.int .u8 kd] 5) = W := ⟨_, rfl⟩
    rw [hW2] at HK ⊢
    clear hW2 hw9 HS1 HB1 g0 hl0
    have g0 := str15 HK.out.box
    have hl0 := HK.out.box.lt
    refine (RefBytes.bytes_any 8 tx _ (by omega)).mono ?_
    rintro e V3 ⟨B3, m3, d3, rfl, hy3, hb3⟩
    have hm3 := hy3.len
    rw [BeP.parts_length] at hm3
    subst hm3
    obtain ⟨A3, c3, W3, g3, happ3, hK3⟩ := (HK.out.next hb3).app hy3 (by omega)
    replace HK := Lib.hid hK3
    clear hK3 hy3 hb3 g0 hl0
    have g0 := str15 HK.out.box
    have hl0 := HK.out.box.lt
    go_wp2_with fail
    clear happ3
    refine (RefBytes.bytes_any 8 pv _ (by omega)).mono ?_
    rintro e V4 ⟨B4, m4, d4, rfl, hy4, hb4⟩
    have hm4 := hy4.len
    rw [BeP.parts_length] at hm4
    subst hm4
    obtain ⟨A4, c4, W4, g4, happ4, hK4⟩ := (HK.out.next hb4).app hy4 (by omega)
    replace HK := Lib.hid hK4
    clear hK4 hy4 hb4 g0 hl0
    have g0 := str15 HK.out.box
    have hl0 := HK.out.box.lt
    go_wp2_with fail
    clear happ4
    refine (RefBytes.bytes_any 8 nx _ (by omega)).mono ?_
    rintro e V5 ⟨B5, m5, d5, rfl, hy5, hb5⟩
    have hm5 := hy5.len
    rw [BeP.parts_length] at hm5
    subst hm5
    obtain ⟨A5, c5, W5, g5, happ5, hK5⟩ := (HK.out.next hb5).app hy5 (by omega)
    replace HK := Lib.hid hK5
    clear hK5 hy5 hb5 g0 hl0
    have g0 := str15 HK.out.box
    have hl0 := HK.out.box.lt
    have hn0 : (0 : Int) ≤ (n : Int) := by omega
    have hkb := RecP.byte_of (n : Int) (by omega) (by omega)
    have hone := (Own.one W5 W5.heap.size (Nat.le_refl _) (UInt8.ofNat (n : Int).toNat)).bytes
    rw [hkb, ← RecP.parts_one (n : Int) (by omega) (by omega)] at hone
    have hw9 : (n : Int) % 256 = (n : Int) := by omega
    obtain ⟨A7, c7, W7, g7, happ7, hK7⟩ := (HK.out.next (balloc (bsame W5) (.cells #[.int .u8 (n : Int)] 5))).app hone (by omega)
    replace HK := Lib.hid hK7
    clear hK7 hone hkb
    have g7' := str15 HK.out.box
    have hl7 := HK.out.box.lt
    obtain ⟨L0, hL0⟩ : ∃ L, BeP.parts 1 kd ++ BeP.parts 8 tx ++ BeP.parts 8 pv ++ BeP.parts 8 nx ++ BeP.parts 1 (n : Int) = L := ⟨_, rfl⟩
    have HIN2 : Hid (RecP.inner ⟨kd, tx, pv, nx, l, ⟨pact, puk, ⟨pst, pk, ⟨pkd, pda, plo, phi, pva⟩⟩, pun⟩⟩ = L0 ++ RecP.patsB l ++ UndoP.bytes ⟨pact, puk, ⟨pst, pk, ⟨pkd, pda, plo, phi, pva⟩⟩, pun⟩) := Lib.hid (by rw [HIN.out, ← hL0]; simp)
    rw [hL0] at HK
    have hL0l : L0.length ≤ 26 := by rw [← hL0]; simp [BeP.parts_length]
    clear hL0 HIN
    go_wp2
    clear happ5 happ7 hw9 g7' hl7
    go_loopw [3, 4] (fun bv iv wr => ∃ (k nk ck : Nat) (gk : Option Nat) (Ak : Option Addr), k ≤ n ∧ bv = .slice Ak nk ck ∧ iv = .int .i64 (k : Int) ∧ nk ≤ 26 + k * 252005 ∧ Hid (BK w wr gk Ak nk ck #[.int .i64 kd, .int .i64 tx, .int .i64 pv, .int .i64 nx, .slice A n c, .int .i64 pact, .string puk, .int .i64 pst, .string pk, .int .i64 pkd, .slice Ap np cp, .int .i64 plo, .int .i64 phi, .int .i64 pva, .int .i64 pun] (L0 ++ RecP.patsB (l.take k)))) (fun _ iv _ => n - (intOf iv).toNat)
    case atStart => exact ⟨0, _, _, g7, A7, Nat.zero_le _, rfl, rfl, by omega, Lib.hid (by simpa [RecP.patsB] using HK.out)⟩
    case round =>
      obtain ⟨k, nk, ck, gk, Ak, hk, rfl, rfl, hnk, HQ⟩ := hrel
      clear HK g0 hl0
      have g0 := str15 HQ.out.box
      have hl0 := HQ.out.box.lt
      have hwr := HQ.out.bel.size
      have hk4 : k * 252005 ≤ 4 * 252005 := Nat.mul_le_mul_right _ (by omega)
      by_cases hlt : k < n
      · have hd : decide ((k : Int) < (n : Int)) = true := by simp; omega
        obtain ⟨b, o, x, A4, n4, c4, rfl, hb, hx, hy, hi, q0, q1, q2⟩ := patch_at HE.out hlt
        replace q0 := (HQ.out.bel.cell (p := ⟨b, o + k * 3, none⟩) (by show b < _; omega)).trans q0
        replace q1 := (HQ.out.bel.cell (p := ⟨b, o + k * 3 + 1, none⟩) (by show b < _; omega)).trans q1
        replace q2 := (HQ.out.bel.cell (p := ⟨b, o + k * 3 + 2, none⟩) (by show b < _; omega)).trans q2
        have HX := Lib.hid (RecP.patsB_snoc l k x hx)
        have HY := Lib.hid hy
        have hpl := RecP.patch_le x
        clear hx hy
        go_wp2_with fail
        refine (RefPatch.bytes_any x A4 n4 c4 B wr (HY.out.below (HQ.out.bel.mono hB)) (by omega) hi).mono ?_
        rintro e W9 ⟨A9, n9, c9, rfl, hy9, hb9⟩
        have hn9 := hy9.len
        rw [hn9] at hpl
        obtain ⟨A10, c10, W10, g10, happ10, hK10⟩ := (HQ.out.next hb9).app hy9 (by omega)
        rw [List.append_assoc, ← HX.out] at hK10
        have HK11 := Lib.hid hK10
        have hnk2 : nk + n9 ≤ 26 + (k + 1) * 252005 := by rw [Nat.add_mul]; omega
        clear hK10 hy9 hb9 HQ g0 hl0 q0 q1 q2 hn9
        go_wp2
        go_roundw
        case rel => exact ⟨k + 1, _, c10, g10, A10, by omega, rfl, by go_num, hnk2, HK11⟩
        case measure => simp [intOf]; omega
      · have hd : decide ((k : Int) < (n : Int)) = false := by simp; omega
        have hkn : k = n := by omega
        subst hkn
        have htk : l.take k = l := List.take_of_length_le (by rw [HLEN.out]; exact Nat.le_refl _)
        rw [htk] at HQ
        clear htk
        go_wp2_with fail
        refine (RefUndoB.bytes_any pact puk Ap np cp Bp pst pk pkd pda plo phi pva pun wr (HP.out.below (HQ.out.bel.mono hBp)) (by omega) HPK.out.1 HPK.out.2).mono ?_
        rintro e W9 ⟨A9, n9, c9, rfl, hy9, hb9⟩
        have hn9 := hy9.len
        have hub := HUB.out
        rw [hn9] at hub
        obtain ⟨A10, c10, W10, g10, happ10, hK10⟩ := (HQ.out.next hb9).app hy9 (by omega)
        rw [← HIN2.out] at hK10
        have HK10 := Lib.hid hK10
        clear hK10 hy9 hb9 HQ g0 hl0 hn9
        go_wp2_with fail
        refine (RefCrc.seal_any A10 (nk + n9) c10 W10.heap.size (RecP.inner ⟨kd, tx, pv, nx, l, ⟨pact, puk, ⟨pst, pk, ⟨pkd, pda, plo, phi, pva⟩⟩, pun⟩⟩) W10 HK10.out.own.bytes (Nat.le_refl _) (by omega)).mono ?_
        rintro e W11 ⟨A11, n11, c11, rfl, hy11, hb11⟩
        rw [← HBO.out] at hy11
        have hn11 := hy11.len
        have hbl := HBL.out
        rw [hn11] at hbl
        have HY11 := Lib.hid hy11
        have HB11 := Lib.hid (bstep HK10.out.bel hb11)
        have HFB2 : Hid (RecP.bytes ⟨kd, tx, pv, nx, l, ⟨pact, puk, ⟨pst, pk, ⟨pkd, pda, plo, phi, pva⟩⟩, pun⟩⟩ = if n11 ≤ 65535 then BeP.parts 2 (n11 : Int) ++ RecP.body ⟨kd, tx, pv, nx, l, ⟨pact, puk, ⟨pst, pk, ⟨pkd, pda, plo, phi, pva⟩⟩, pun⟩⟩ else []) := Lib.hid (by rw [HFB.out, hn11])
        clear hy11 hb11 HK10 happ10 hn11
        by_cases hbig : 65535 < n11
        · have hd3 : decide ((65535 : Int) < (n11 : Int)) = true := by simp; omega
          have HFIN : Hid (RecP.bytes ⟨kd, tx, pv, nx, l, ⟨pact, puk, ⟨pst, pk, ⟨pkd, pda, plo, phi, pva⟩⟩, pun⟩⟩ = []) := Lib.hid (by rw [HFB2.out, if_neg (by omega)])
          go_wp2
          go_ret
          exact ⟨none, 0, 0, rfl, by rw [HFIN.out]; exact Bytes.none_ _ _, HB11.out⟩
        · have hd3 : decide ((65535 : Int) < (n11 : Int)) = false := by simp; omega
          have HFIN : Hid (RecP.bytes ⟨kd, tx, pv, nx, l, ⟨pact, puk, ⟨pst, pk, ⟨pkd, pda, plo, phi, pva⟩⟩, pun⟩⟩ = BeP.parts 2 (n11 : Int) ++ RecP.body ⟨kd, tx, pv, nx, l, ⟨pact, puk, ⟨pst, pk, ⟨pkd, pda, plo, phi, pva⟩⟩, pun⟩⟩) := Lib.hid (by rw [HFB2.out, if_pos (by omega)])
          go_wp2_with fail
          refine (RefBytesO.bytes_any 2 (n11 : Int) W11 (by omega)).mono ?_
          rintro e W12 ⟨A12, n12, c12, rfl, hO12, hb12⟩
          have hn12 : n12 = 2 := by rw [← hO12.len, BeP.parts_length]
          subst hn12
          obtain ⟨A13, c13, W13, happ13, hO13, hb13⟩ := hO12.app (HY11.out.next hb12) (by omega) hb12.size
          rw [← HFIN.out] at hO13
          have HO13 := Lib.hid hO13
          have HB13 := Lib.hid (bstep HB11.out (hb12.trans hb13))
          clear hO12 hb12 hO13 hb13 HY11
          go_wp2
          go_ret
          exact ⟨A13, _, c13, rfl, HO13.out.bytes, HB13.out⟩
end Go.Proofs.Ytiokcemlfdonnaa.RefRec
