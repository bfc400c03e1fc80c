/-
  Parts of the proof of WalStays.
-/
import Derived.Test.YtpdfnlhhnodnjaaGreatWsG5
import Derived.Test.YtpdfnlhhnodnjaaGreatWsG9
import Derived.Test.YtpdfnlhhnodnjaaGreatWsG10
section
namespace Go.Proofs.YtpdfnlhhnodnjaaGreat
theorem Str.lit {w : World} {b : Nat} {cs : Array Value} (h : Str w b cs) (l : List UInt8) (hC : cs = (l.map byteV).toArray) (hl : l.length ≤ maxLen) : Bytes w w.heap.size (some ⟨b, 0, none⟩) l.length l.length l :=
  ⟨rfl, Nat.le_refl _, hl, fun _ => ⟨b, 0, rfl, h.lt, fun j u hu => by rw [Nat.zero_add, h.cell, hC]; simp [hu]⟩⟩
theorem KeyP.right_size (k : ByteArray) (h : KeyP.right k.data.toList = true) : k.size ≤ 16 := by
  have e : k.data.toList.length = k.size := by simp
  simp only [KeyP.right, Bool.and_eq_true, decide_eq_true_eq] at h
  omega
theorem UndoP.right_key (u : Undo) (h0 : ¬ u.act = 0) (h : UndoP.right u = true) : KeyP.right u.key.data.toList = true := by
  unfold UndoP.right at h
  rw [if_neg h0] at h
  split at h
  · simp only [Bool.and_eq_true] at h; exact h.1
  · split at h
    · simp only [Bool.and_eq_true] at h; exact h.1
    · cases h
end Go.Proofs.YtpdfnlhhnodnjaaGreat
namespace Go.Proofs.YtpdfnlhhnodnjaaGreat.UndoW
open Go.RowKit
set_option linter.unusedVariables false
attribute [local go_sem ↓] app_fold al64_fold ld64_fold st64_fold bd64_fold sl64_fold

set_option maxRecDepth 100000 in
set_option maxHeartbeats 1000000 in
theorem put_no (Ab : Option Addr) (nb cb Bb : Nat) (lb : List UInt8) (pact : Int) (puk : ByteArray) (Ap : Option Addr) (np cp Bp : Nat) (pst : Int) (pk : ByteArray) (pkd : Int) (pda : List UInt8) (plo phi pva : Int) (pun : Int) (w : World) (hb : Bytes w Bb Ab nb cb lb) (hBb : Bb ≤ w.heap.size) (hnb : nb ≤ 1000000000) (hp : Bytes w Bp Ap np cp pda) (hBp : Bp ≤ w.heap.size) (hpk : pk.size ≤ maxLen) (huk : puk.size ≤ maxLen) (hr : UndoP.right ⟨pact, puk, ⟨pst, pk, ⟨pkd, pda, plo, phi, pva⟩⟩, pun⟩ = false) : Calls Tryz.prog 42 #[.slice Ab nb cb, .agg #[.int .i64 pact, .string puk, .int .i64 pst, .string pk, .int .i64 pkd, .slice Ap np cp, .int .i64 plo, .int .i64 phi, .int .i64 pva, .int .i64 pun]] w (GivesBytes w (lb ++ UndoP.bytes ⟨pact, puk, ⟨pst, pk, ⟨pkd, pda, plo, phi, pva⟩⟩, pun⟩)) := by
  have Hp := Lib.hid hp
  have Hb := Lib.hid hb
  have HR := Lib.hid hr
  clear hp hb hr
  have HE : Hid (UndoP.bytes ⟨pact, puk, ⟨pst, pk, ⟨pkd, pda, plo, phi, pva⟩⟩, pun⟩ = []) := Lib.hid (by rw [UndoP.bytes, if_neg (by rw [HR.out]; simp)])
  rw [HE.out, List.append_nil]
  go_enter Tryz.func42, Tryz.ntmps42
  go_wp2_with fail
  generalize hW0 : (w).alloc (.cells #[.int .i64 pact, .string puk, .int .i64 pst, .string pk, .int .i64 pkd, .slice Ap np cp, .int .i64 plo, .int .i64 phi, .int .i64 pva, .int .i64 pun] 38) = W0
  have HS0_0 : Hid (Str W0 (w.heap.size) #[.int .i64 pact, .string puk, .int .i64 pst, .string pk, .int .i64 pkd, .slice Ap np cp, .int .i64 plo, .int .i64 phi, .int .i64 pva, .int .i64 pun]) := Lib.hid (by rw [← hW0]; have := Str.new (w) #[.int .i64 pact, .string puk, .int .i64 pst, .string pk, .int .i64 pkd, .slice Ap np cp, .int .i64 plo, .int .i64 phi, .int .i64 pva, .int .i64 pun] 38; simpa using this)
  have HB_0 : Hid (Below w.heap.size w W0) := Lib.hid (by rw [← hW0]; exact balloc (bsame w) _)
  have hw_0 := HB_0.out.size
  clear hW0
  obtain ⟨f0_0_0, f0_0_1, f0_0_2, f0_0_3, f0_0_4, f0_0_5, f0_0_6, f0_0_7, f0_0_8, f0_0_9⟩ := str10 HS0_0.out
  have hl0_0 := HS0_0.out.lt
  have HYb_0 := Lib.hid ((Hb.out.below (HB_0.out.mono hBb)).more (Nat.le_trans hBb HB_0.out.size))
  refine (check_any _ _ _ _ _ _ _ _ _ pda _ _ _ _ _ (Hp.out.below (HB_0.out.mono hBp)) (by omega) hpk huk).mono ?_
  rintro e W1 ⟨rfl, hb1⟩
  rw [HR.out]
  rw [show CellP.code false = 1 from rfl]
  have HS0_1 := Lib.hid (HS0_0.out.next hb1)
  have HB_1 := Lib.hid (bstep HB_0.out hb1)
  have hw_1 := HB_1.out.size
  have hws_1 := (hb1).size
  have HYb_1 := Lib.hid (HYb_0.out.next hb1)
  clear HYb_0
  clear f0_0_0 f0_0_1 f0_0_2 f0_0_3 f0_0_4 f0_0_5 f0_0_6 f0_0_7 f0_0_8 f0_0_9 HS0_0
  clear hb1
  obtain ⟨f0_1_0, f0_1_1, f0_1_2, f0_1_3, f0_1_4, f0_1_5, f0_1_6, f0_1_7, f0_1_8, f0_1_9⟩ := str10 HS0_1.out
  have hl0_1 := HS0_1.out.lt
  go_wp2_with fail
  refine (clone_any Ab nb cb W1.heap.size lb _ HYb_1.out (Nat.le_refl _) (by omega)).mono ?_
  rintro e w2 ⟨A2, n2, c2, rfl, hy2, hb2⟩
  go_wp2_with fail
  go_ret
  exact ⟨A2, n2, c2, rfl, hy2, bstep HB_1.out hb2⟩

set_option maxRecDepth 100000 in
set_option maxHeartbeats 1000000 in
theorem put0 (Ab : Option Addr) (nb cb Bb : Nat) (lb : List UInt8) (puk : ByteArray) (Ap : Option Addr) (np cp Bp : Nat) (pst : Int) (pk : ByteArray) (pkd : Int) (pda : List UInt8) (plo phi pva : Int) (pun : Int) (w : World) (hb : Bytes w Bb Ab nb cb lb) (hBb : Bb ≤ w.heap.size) (hnb : nb ≤ 1000000000) (hp : Bytes w Bp Ap np cp pda) (hBp : Bp ≤ w.heap.size) (hpk : pk.size ≤ maxLen) (huk : puk.size ≤ maxLen) (hr : UndoP.right ⟨0, puk, ⟨pst, pk, ⟨pkd, pda, plo, phi, pva⟩⟩, pun⟩ = true) : Calls Tryz.prog 42 #[.slice Ab nb cb, .agg #[.int .i64 0, .string puk, .int .i64 pst, .string pk, .int .i64 pkd, .slice Ap np cp, .int .i64 plo, .int .i64 phi, .int .i64 pva, .int .i64 pun]] w (GivesBytes w (lb ++ UndoP.bytes ⟨0, puk, ⟨pst, pk, ⟨pkd, pda, plo, phi, pva⟩⟩, pun⟩)) := by
  have Hp := Lib.hid hp
  have Hb := Lib.hid hb
  have HR := Lib.hid hr
  clear hp hb hr
  have HE : Hid (UndoP.bytes ⟨0, puk, ⟨pst, pk, ⟨pkd, pda, plo, phi, pva⟩⟩, pun⟩ = [0]) := Lib.hid (by rw [UndoP.bytes, if_pos HR.out]; rfl)
  rw [HE.out]
  go_enter Tryz.func42, Tryz.ntmps42
  go_wp2_with fail
  generalize hW0 : (w).alloc (.cells #[.int .i64 0, .string puk, .int .i64 pst, .string pk, .int .i64 pkd, .slice Ap np cp, .int .i64 plo, .int .i64 phi, .int .i64 pva, .int .i64 pun] 38) = W0
  have HS0_0 : Hid (Str W0 (w.heap.size) #[.int .i64 0, .string puk, .int .i64 pst, .string pk, .int .i64 pkd, .slice Ap np cp, .int .i64 plo, .int .i64 phi, .int .i64 pva, .int .i64 pun]) := Lib.hid (by rw [← hW0]; have := Str.new (w) #[.int .i64 0, .string puk, .int .i64 pst, .string pk, .int .i64 pkd, .slice Ap np cp, .int .i64 plo, .int .i64 phi, .int .i64 pva, .int .i64 pun] 38; simpa using this)
  have HB_0 : Hid (Below w.heap.size w W0) := Lib.hid (by rw [← hW0]; exact balloc (bsame w) _)
  have hw_0 := HB_0.out.size
  clear hW0
  obtain ⟨f0_0_0, f0_0_1, f0_0_2, f0_0_3, f0_0_4, f0_0_5, f0_0_6, f0_0_7, f0_0_8, f0_0_9⟩ := str10 HS0_0.out
  have hl0_0 := HS0_0.out.lt
  have HYb_0 := Lib.hid ((Hb.out.below (HB_0.out.mono hBb)).more (Nat.le_trans hBb HB_0.out.size))
  refine (check_any _ _ _ _ _ _ _ _ _ pda _ _ _ _ _ (Hp.out.below (HB_0.out.mono hBp)) (by omega) hpk huk).mono ?_
  rintro e W1 ⟨rfl, hb1⟩
  rw [HR.out]
  rw [show CellP.code true = 0 from rfl]
  have HS0_1 := Lib.hid (HS0_0.out.next hb1)
  have HB_1 := Lib.hid (bstep HB_0.out hb1)
  have hw_1 := HB_1.out.size
  have hws_1 := (hb1).size
  have HYb_1 := Lib.hid (HYb_0.out.next hb1)
  clear HYb_0
  clear f0_0_0 f0_0_1 f0_0_2 f0_0_3 f0_0_4 f0_0_5 f0_0_6 f0_0_7 f0_0_8 f0_0_9 HS0_0
  clear hb1
  obtain ⟨f0_1_0, f0_1_1, f0_1_2, f0_1_3, f0_1_4, f0_1_5, f0_1_6, f0_1_7, f0_1_8, f0_1_9⟩ := str10 HS0_1.out
  have hl0_1 := HS0_1.out.lt
  go_wp2_with fail
  generalize hW2 : W1.alloc (.cells #[.int .u8 0] 5) = W2
  have HS0_2 : Hid (Str W2 (w.heap.size) #[.int .i64 0, .string puk, .int .i64 pst, .string pk, .int .i64 pkd, .slice Ap np cp, .int .i64 plo, .int .i64 phi, .int .i64 pva, .int .i64 pun]) := Lib.hid (by rw [← hW2]; exact HS0_1.out.alloc _)
  have HS1_2 : Hid (Str W2 W1.heap.size #[.int .u8 0]) := Lib.hid (by rw [← hW2]; exact Str.new W1 #[.int .u8 0] 5)
  have hba2 : Below W1.heap.size W1 W2 := by rw [← hW2]; exact balloc (bsame _) _
  have HB_2 := Lib.hid (bstep HB_1.out hba2)
  have hw_2 := HB_2.out.size
  have hws_2 := hba2.size
  have HYb_2 := Lib.hid (HYb_1.out.next hba2)
  clear HYb_1
  have hz2 : W2.heap.size = W1.heap.size + 1 := by rw [← hW2]; simp
  clear hW2
  clear f0_1_0 f0_1_1 f0_1_2 f0_1_3 f0_1_4 f0_1_5 f0_1_6 f0_1_7 f0_1_8 f0_1_9 HS0_1
  obtain ⟨f0_2_0, f0_2_1, f0_2_2, f0_2_3, f0_2_4, f0_2_5, f0_2_6, f0_2_7, f0_2_8, f0_2_9⟩ := str10 HS0_2.out
  have hl0_2 := HS0_2.out.lt
  have f1_2_0 := str1 HS1_2.out
  have hl1_2 := HS1_2.out.lt
  clear hba2
  have HYd_2 := Lib.hid (HS1_2.out.lit [0] rfl (by decide))
  generalize hW3 : W2.alloc (.cells #[.slice Ab nb cb, .slice (some ⟨W1.heap.size, 0, none⟩) 1 1] 32) = W3
  have HS0_3 : Hid (Str W3 (w.heap.size) #[.int .i64 0, .string puk, .int .i64 pst, .string pk, .int .i64 pkd, .slice Ap np cp, .int .i64 plo, .int .i64 phi, .int .i64 pva, .int .i64 pun]) := Lib.hid (by rw [← hW3]; exact HS0_2.out.alloc _)
  have HS1_3 : Hid (Str W3 (W1.heap.size) #[.int .u8 0]) := Lib.hid (by rw [← hW3]; exact HS1_2.out.alloc _)
  have HS2_3 : Hid (Str W3 W2.heap.size #[.slice Ab nb cb, .slice (some ⟨W1.heap.size, 0, none⟩) 1 1]) := Lib.hid (by rw [← hW3]; exact Str.new W2 #[.slice Ab nb cb, .slice (some ⟨W1.heap.size, 0, none⟩) 1 1] 32)
  have hba3 : Below W2.heap.size W2 W3 := by rw [← hW3]; exact balloc (bsame _) _
  have HB_3 := Lib.hid (bstep HB_2.out hba3)
  have hw_3 := HB_3.out.size
  have hws_3 := hba3.size
  have HYb_3 := Lib.hid (HYb_2.out.next hba3)
  have HYd_3 := Lib.hid (HYd_2.out.next hba3)
  clear HYb_2 HYd_2
  clear hW3
  clear f0_2_0 f0_2_1 f0_2_2 f0_2_3 f0_2_4 f0_2_5 f0_2_6 f0_2_7 f0_2_8 f0_2_9 HS0_2 f1_2_0 HS1_2
  obtain ⟨f0_3_0, f0_3_1, f0_3_2, f0_3_3, f0_3_4, f0_3_5, f0_3_6, f0_3_7, f0_3_8, f0_3_9⟩ := str10 HS0_3.out
  have hl0_3 := HS0_3.out.lt
  have f1_3_0 := str1 HS1_3.out
  have hl1_3 := HS1_3.out.lt
  obtain ⟨f2_3_0, f2_3_1⟩ := str2 HS2_3.out
  have hl2_3 := HS2_3.out.lt
  clear hba3
  rw [← hz2]
  have hps : ∀ p ∈ ([(Ab, nb, cb, lb), ((some ⟨W1.heap.size, 0, none⟩), 1, 1, [0])] : List ConcatW.Part), Bytes W3 W3.heap.size p.1 p.2.1 p.2.2.1 p.2.2.2 := by
    intro p hp
    simp only [List.mem_cons, List.not_mem_nil, or_false] at hp
    rcases hp with rfl | rfl
    · exact HYb_3.out
    · exact HYd_3.out
  refine (ConcatW.concat_any [(Ab, nb, cb, lb), ((some ⟨W1.heap.size, 0, none⟩), 1, 1, [0])] _ _ HS2_3.out hps (by simp [ConcatW.total]; omega) (by simp)).mono ?_
  rintro e W4 ⟨A9, n9, c9, rfl, hy9, hb9⟩
  have HY9 := Lib.hid hy9
  clear hy9 hps
  go_wp2_with fail
  go_ret
  refine ⟨A9, n9, c9, rfl, ?_, bstep HB_3.out hb9⟩
  have h9 := HY9.out
  simp only [ConcatW.all, List.flatMap_cons, List.flatMap_nil, List.append_nil] at h9
  exact h9

set_option maxRecDepth 100000 in
set_option maxHeartbeats 1000000 in
theorem put1 (Ab : Option Addr) (nb cb Bb : Nat) (lb : List UInt8) (puk : ByteArray) (Ap : Option Addr) (np cp Bp : Nat) (pst : Int) (pk : ByteArray) (pkd : Int) (pda : List UInt8) (plo phi pva : Int) (pun : Int) (w : World) (hb : Bytes w Bb Ab nb cb lb) (hBb : Bb ≤ w.heap.size) (hnb : nb ≤ 1000000000) (hp : Bytes w Bp Ap np cp pda) (hBp : Bp ≤ w.heap.size) (hpk : pk.size ≤ maxLen) (huk : puk.size ≤ maxLen) (hr : UndoP.right ⟨1, puk, ⟨pst, pk, ⟨pkd, pda, plo, phi, pva⟩⟩, pun⟩ = true) : Calls Tryz.prog 42 #[.slice Ab nb cb, .agg #[.int .i64 1, .string puk, .int .i64 pst, .string pk, .int .i64 pkd, .slice Ap np cp, .int .i64 plo, .int .i64 phi, .int .i64 pva, .int .i64 pun]] w (GivesBytes w (lb ++ UndoP.bytes ⟨1, puk, ⟨pst, pk, ⟨pkd, pda, plo, phi, pva⟩⟩, pun⟩)) := by
  have Hp := Lib.hid hp
  have Hb := Lib.hid hb
  have HR := Lib.hid hr
  clear hp hb hr
  have HE : Hid (UndoP.bytes ⟨1, puk, ⟨pst, pk, ⟨pkd, pda, plo, phi, pva⟩⟩, pun⟩ = [1, UInt8.ofNat puk.size] ++ (puk.data.toList ++ SlotP.bytes ⟨pst, pk, ⟨pkd, pda, plo, phi, pva⟩⟩)) := Lib.hid (by rw [UndoP.bytes, if_pos HR.out]; rfl)
  rw [HE.out]
  have hks := KeyP.right_size puk (UndoP.right_key _ (by simp) HR.out)
  have hkm : ((puk.size : Int) % 256) = (puk.size : Int) := by omega
  have hkb : ((UInt8.ofNat puk.size).toNat : Int) = (puk.size : Int) := by simp; omega
  have HKB := Lib.hid hkb
  clear hkb
  go_enter Tryz.func42, Tryz.ntmps42
  go_wp2_with fail
  generalize hW0 : (w).alloc (.cells #[.int .i64 1, .string puk, .int .i64 pst, .string pk, .int .i64 pkd, .slice Ap np cp, .int .i64 plo, .int .i64 phi, .int .i64 pva, .int .i64 pun] 38) = W0
  have HS0_0 : Hid (Str W0 (w.heap.size) #[.int .i64 1, .string puk, .int .i64 pst, .string pk, .int .i64 pkd, .slice Ap np cp, .int .i64 plo, .int .i64 phi, .int .i64 pva, .int .i64 pun]) := Lib.hid (by rw [← hW0]; have := Str.new (w) #[.int .i64 1, .string puk, .int .i64 pst, .string pk, .int .i64 pkd, .slice Ap np cp, .int .i64 plo, .int .i64 phi, .int .i64 pva, .int .i64 pun] 38; simpa using this)
  have HB_0 : Hid (Below w.heap.size w W0) := Lib.hid (by rw [← hW0]; exact balloc (bsame w) _)
  have hw_0 := HB_0.out.size
  clear hW0
  obtain ⟨f0_0_0, f0_0_1, f0_0_2, f0_0_3, f0_0_4, f0_0_5, f0_0_6, f0_0_7, f0_0_8, f0_0_9⟩ := str10 HS0_0.out
  have hl0_0 := HS0_0.out.lt
  have HYb_0 := Lib.hid ((Hb.out.below (HB_0.out.mono hBb)).more (Nat.le_trans hBb HB_0.out.size))
  refine (check_any _ _ _ _ _ _ _ _ _ pda _ _ _ _ _ (Hp.out.below (HB_0.out.mono hBp)) (by omega) hpk huk).mono ?_
  rintro e W1 ⟨rfl, hb1⟩
  rw [HR.out]
  rw [show CellP.code true = 0 from rfl]
  have HS0_1 := Lib.hid (HS0_0.out.next hb1)
  have HB_1 := Lib.hid (bstep HB_0.out hb1)
  have hw_1 := HB_1.out.size
  have hws_1 := (hb1).size
  have HYb_1 := Lib.hid (HYb_0.out.next hb1)
  clear HYb_0
  clear f0_0_0 f0_0_1 f0_0_2 f0_0_3 f0_0_4 f0_0_5 f0_0_6 f0_0_7 f0_0_8 f0_0_9 HS0_0
  clear hb1
  obtain ⟨f0_1_0, f0_1_1, f0_1_2, f0_1_3, f0_1_4, f0_1_5, f0_1_6, f0_1_7, f0_1_8, f0_1_9⟩ := str10 HS0_1.out
  have hl0_1 := HS0_1.out.lt
  go_wp2_with fail
  generalize hW2 : W1.alloc (.cells #[.int .u8 1] 5) = W2
  have HS0_2 : Hid (Str W2 (w.heap.size) #[.int .i64 1, .string puk, .int .i64 pst, .string pk, .int .i64 pkd, .slice Ap np cp, .int .i64 plo, .int .i64 phi, .int .i64 pva, .int .i64 pun]) := Lib.hid (by rw [← hW2]; exact HS0_1.out.alloc _)
  have HS1_2 : Hid (Str W2 W1.heap.size #[.int .u8 1]) := Lib.hid (by rw [← hW2]; exact Str.new W1 #[.int .u8 1] 5)
  have hba2 : Below W1.heap.size W1 W2 := by rw [← hW2]; exact balloc (bsame _) _
  have HB_2 := Lib.hid (bstep HB_1.out hba2)
  have hw_2 := HB_2.out.size
  have hws_2 := hba2.size
  have HYb_2 := Lib.hid (HYb_1.out.next hba2)
  clear HYb_1
  have hz2 : W2.heap.size = W1.heap.size + 1 := by rw [← hW2]; simp
  clear hW2
  clear f0_1_0 f0_1_1 f0_1_2 f0_1_3 f0_1_4 f0_1_5 f0_1_6 f0_1_7 f0_1_8 f0_1_9 HS0_1
  obtain ⟨f0_2_0, f0_2_1, f0_2_2, f0_2_3, f0_2_4, f0_2_5, f0_2_6, f0_2_7, f0_2_8, f0_2_9⟩ := str10 HS0_2.out
  have hl0_2 := HS0_2.out.lt
  have f1_2_0 := str1 HS1_2.out
  have hl1_2 := HS1_2.out.lt
  clear hba2
  have HYd_2 := Lib.hid (HS1_2.out.lit [1] rfl (by decide))
  obtain ⟨A3, c3, W3, happ3, hO3, hb3⟩ := (Own.one W2 W2.heap.size (Nat.le_refl _) (UInt8.ofNat puk.size)).appStr puk (by omega) (by simp)
  have hb3' : Below W2.heap.size W2 W3 := ((Below.refl _ W2).alloc (Nat.le_refl _) _).trans hb3
  rw [HKB.out, hz2] at happ3
  clear hb3
  have HS0_3 := Lib.hid (HS0_2.out.next hb3')
  have HS1_3 := Lib.hid (HS1_2.out.next hb3')
  have HB_3 := Lib.hid (bstep HB_2.out hb3')
  have hw_3 := HB_3.out.size
  have hws_3 := (hb3').size
  have HYb_3 := Lib.hid (HYb_2.out.next hb3')
  have HYd_3 := Lib.hid (HYd_2.out.next hb3')
  clear HYb_2 HYd_2
  clear f0_2_0 f0_2_1 f0_2_2 f0_2_3 f0_2_4 f0_2_5 f0_2_6 f0_2_7 f0_2_8 f0_2_9 HS0_2 f1_2_0 HS1_2
  clear hb3'
  obtain ⟨f0_3_0, f0_3_1, f0_3_2, f0_3_3, f0_3_4, f0_3_5, f0_3_6, f0_3_7, f0_3_8, f0_3_9⟩ := str10 HS0_3.out
  have hl0_3 := HS0_3.out.lt
  have f1_3_0 := str1 HS1_3.out
  have hl1_3 := HS1_3.out.lt
  have HYn_3 := Lib.hid (hO3.bytes)
  clear hO3
  go_simp
  go_wp2_with fail
  clear happ3
  refine (SlotPut.put_any Ap np cp Bp ⟨pst, pk, ⟨pkd, pda, plo, phi, pva⟩⟩ _ (Hp.out.below (HB_3.out.mono hBp)) (by omega) hpk).mono ?_
  rintro e W4 ⟨rfl, hb4⟩
  have HS0_4 := Lib.hid (HS0_3.out.next hb4)
  have HS1_4 := Lib.hid (HS1_3.out.next hb4)
  have HB_4 := Lib.hid (bstep HB_3.out hb4)
  have hw_4 := HB_4.out.size
  have hws_4 := (hb4).size
  have HYb_4 := Lib.hid (HYb_3.out.next hb4)
  have HYd_4 := Lib.hid (HYd_3.out.next hb4)
  have HYn_4 := Lib.hid (HYn_3.out.next hb4)
  clear HYb_3 HYd_3 HYn_3
  clear f0_3_0 f0_3_1 f0_3_2 f0_3_3 f0_3_4 f0_3_5 f0_3_6 f0_3_7 f0_3_8 f0_3_9 HS0_3 f1_3_0 HS1_3
  clear hb4
  obtain ⟨f0_4_0, f0_4_1, f0_4_2, f0_4_3, f0_4_4, f0_4_5, f0_4_6, f0_4_7, f0_4_8, f0_4_9⟩ := str10 HS0_4.out
  have hl0_4 := HS0_4.out.lt
  have f1_4_0 := str1 HS1_4.out
  have hl1_4 := HS1_4.out.lt
  have HLS := Lib.hid (SlotP.bytes_length ⟨pst, pk, ⟨pkd, pda, plo, phi, pva⟩⟩)
  have hal := fun W => run_al (P := Tryz.prog) arr64 W
  have hst4 := run_st (P := Tryz.prog) arr64 (Str.new W4 (rowV (SlotP.zeros 64)) 118) (by rw [rowV_size]; exact SlotPut.zeros_len 64) (HLS.out)
  obtain ⟨W5, hW5⟩ : ∃ W, (W4.alloc (.cells (rowV (SlotP.zeros 64)) 118)).setRow W4.heap.size (rowV (SlotP.bytes ⟨pst, pk, ⟨pkd, pda, plo, phi, pva⟩⟩)) = W := ⟨_, rfl⟩
  rw [hW5] at hst4
  have HS0_5 : Hid (Str W5 (w.heap.size) #[.int .i64 1, .string puk, .int .i64 pst, .string pk, .int .i64 pkd, .slice Ap np cp, .int .i64 plo, .int .i64 phi, .int .i64 pva, .int .i64 pun]) := Lib.hid (by rw [← hW5]; exact (HS0_4.out.alloc _).setRow_other (by omega))
  have HS1_5 : Hid (Str W5 (W1.heap.size) #[.int .u8 1]) := Lib.hid (by rw [← hW5]; exact (HS1_4.out.alloc _).setRow_other (by omega))
  have HS2_5 : Hid (Str W5 (W4.heap.size) (rowV (SlotP.bytes ⟨pst, pk, ⟨pkd, pda, plo, phi, pva⟩⟩))) := Lib.hid (by rw [← hW5]; exact (Str.new W4 (rowV (SlotP.zeros 64)) 118).setRow)
  have hba5 : Below W4.heap.size W4 W5 := by rw [← hW5]; exact below_setRow (balloc (bsame _) _) (Nat.le_refl _) _
  have HB_5 := Lib.hid (bstep HB_4.out hba5)
  have hw_5 := HB_5.out.size
  have hws_5 := hba5.size
  have HYb_5 := Lib.hid (HYb_4.out.next hba5)
  have HYd_5 := Lib.hid (HYd_4.out.next hba5)
  have HYn_5 := Lib.hid (HYn_4.out.next hba5)
  clear HYb_4 HYd_4 HYn_4
  clear hW5 hba5
  clear f0_4_0 f0_4_1 f0_4_2 f0_4_3 f0_4_4 f0_4_5 f0_4_6 f0_4_7 f0_4_8 f0_4_9 HS0_4 f1_4_0 HS1_4
  obtain ⟨f0_5_0, f0_5_1, f0_5_2, f0_5_3, f0_5_4, f0_5_5, f0_5_6, f0_5_7, f0_5_8, f0_5_9⟩ := str10 HS0_5.out
  have hl0_5 := HS0_5.out.lt
  have f1_5_0 := str1 HS1_5.out
  have hl1_5 := HS1_5.out.lt
  have hl2_5 := HS2_5.out.lt
  have hsl := fun W => run_sl_all (P := Tryz.prog) arr64 W4.heap.size W
  have hpt := HS2_5.out.part 0 64 64 (by rw [HLS.out]; omega) (by omega) (by unfold maxLen; omega)
  rw [List.drop_zero, List.take_of_length_le (by rw [HLS.out]; omega)] at hpt
  have HYs_5 := Lib.hid (hpt)
  clear hpt
  go_wp2_with fail
  clear hst4 hal
  generalize hW6 : W5.alloc (.cells #[.slice Ab nb cb, .slice (some ⟨W1.heap.size, 0, none⟩) 1 1, .slice A3 (1 + puk.size) c3, .slice (some ⟨W4.heap.size, 0, none⟩) 64 64] 32) = W6
  have HS0_6 : Hid (Str W6 (w.heap.size) #[.int .i64 1, .string puk, .int .i64 pst, .string pk, .int .i64 pkd, .slice Ap np cp, .int .i64 plo, .int .i64 phi, .int .i64 pva, .int .i64 pun]) := Lib.hid (by rw [← hW6]; exact HS0_5.out.alloc _)
  have HS1_6 : Hid (Str W6 (W1.heap.size) #[.int .u8 1]) := Lib.hid (by rw [← hW6]; exact HS1_5.out.alloc _)
  have HS2_6 : Hid (Str W6 (W4.heap.size) (rowV (SlotP.bytes ⟨pst, pk, ⟨pkd, pda, plo, phi, pva⟩⟩))) := Lib.hid (by rw [← hW6]; exact HS2_5.out.alloc _)
  have HS3_6 : Hid (Str W6 W5.heap.size #[.slice Ab nb cb, .slice (some ⟨W1.heap.size, 0, none⟩) 1 1, .slice A3 (1 + puk.size) c3, .slice (some ⟨W4.heap.size, 0, none⟩) 64 64]) := Lib.hid (by rw [← hW6]; exact Str.new W5 #[.slice Ab nb cb, .slice (some ⟨W1.heap.size, 0, none⟩) 1 1, .slice A3 (1 + puk.size) c3, .slice (some ⟨W4.heap.size, 0, none⟩) 64 64] 32)
  have hba6 : Below W5.heap.size W5 W6 := by rw [← hW6]; exact balloc (bsame _) _
  have HB_6 := Lib.hid (bstep HB_5.out hba6)
  have hw_6 := HB_6.out.size
  have hws_6 := hba6.size
  have HYb_6 := Lib.hid (HYb_5.out.next hba6)
  have HYd_6 := Lib.hid (HYd_5.out.next hba6)
  have HYn_6 := Lib.hid (HYn_5.out.next hba6)
  have HYs_6 := Lib.hid (HYs_5.out.next hba6)
  clear HYb_5 HYd_5 HYn_5 HYs_5
  clear hW6
  clear f0_5_0 f0_5_1 f0_5_2 f0_5_3 f0_5_4 f0_5_5 f0_5_6 f0_5_7 f0_5_8 f0_5_9 HS0_5 f1_5_0 HS1_5 HS2_5
  obtain ⟨f0_6_0, f0_6_1, f0_6_2, f0_6_3, f0_6_4, f0_6_5, f0_6_6, f0_6_7, f0_6_8, f0_6_9⟩ := str10 HS0_6.out
  have hl0_6 := HS0_6.out.lt
  have f1_6_0 := str1 HS1_6.out
  have hl1_6 := HS1_6.out.lt
  have hl2_6 := HS2_6.out.lt
  obtain ⟨f3_6_0, f3_6_1, f3_6_2, f3_6_3⟩ := str4 HS3_6.out
  have hl3_6 := HS3_6.out.lt
  clear hba6
  have hps : ∀ p ∈ ([(Ab, nb, cb, lb), ((some ⟨W1.heap.size, 0, none⟩), 1, 1, [1]), (A3, (1 + puk.size), c3, ([UInt8.ofNat puk.size] ++ puk.data.toList)), ((some ⟨W4.heap.size, 0, none⟩), 64, 64, (SlotP.bytes ⟨pst, pk, ⟨pkd, pda, plo, phi, pva⟩⟩))] : List ConcatW.Part), Bytes W6 W6.heap.size p.1 p.2.1 p.2.2.1 p.2.2.2 := by
    intro p hp
    simp only [List.mem_cons, List.not_mem_nil, or_false] at hp
    rcases hp with rfl | rfl | rfl | rfl
    · exact HYb_6.out
    · exact HYd_6.out
    · exact HYn_6.out
    · exact HYs_6.out
  refine (ConcatW.concat_any [(Ab, nb, cb, lb), ((some ⟨W1.heap.size, 0, none⟩), 1, 1, [1]), (A3, (1 + puk.size), c3, ([UInt8.ofNat puk.size] ++ puk.data.toList)), ((some ⟨W4.heap.size, 0, none⟩), 64, 64, (SlotP.bytes ⟨pst, pk, ⟨pkd, pda, plo, phi, pva⟩⟩))] _ _ HS3_6.out hps (by simp [ConcatW.total]; omega) (by simp)).mono ?_
  rintro e W7 ⟨A9, n9, c9, rfl, hy9, hb9⟩
  have HY9 := Lib.hid hy9
  clear hy9 hps
  go_wp2_with fail
  go_ret
  refine ⟨A9, n9, c9, rfl, ?_, bstep HB_6.out hb9⟩
  have h9 := HY9.out
  simp only [ConcatW.all, List.flatMap_cons, List.flatMap_nil, List.append_nil] at h9
  simpa using h9

set_option maxRecDepth 100000 in
set_option maxHeartbeats 1000000 in
theorem put2 (Ab : Option Addr) (nb cb Bb : Nat) (lb : List UInt8) (puk : ByteArray) (Ap : Option Addr) (np cp Bp : Nat) (pst : Int) (pk : ByteArray) (pkd : Int) (pda : List UInt8) (plo phi pva : Int) (pun : Int) (w : World) (hb : Bytes w Bb Ab nb cb lb) (hBb : Bb ≤ w.heap.size) (hnb : nb ≤ 1000000000) (hp : Bytes w Bp Ap np cp pda) (hBp : Bp ≤ w.heap.size) (hpk : pk.size ≤ maxLen) (huk : puk.size ≤ maxLen) (hr : UndoP.right ⟨2, puk, ⟨pst, pk, ⟨pkd, pda, plo, phi, pva⟩⟩, pun⟩ = true) : Calls Tryz.prog 42 #[.slice Ab nb cb, .agg #[.int .i64 2, .string puk, .int .i64 pst, .string pk, .int .i64 pkd, .slice Ap np cp, .int .i64 plo, .int .i64 phi, .int .i64 pva, .int .i64 pun]] w (GivesBytes w (lb ++ UndoP.bytes ⟨2, puk, ⟨pst, pk, ⟨pkd, pda, plo, phi, pva⟩⟩, pun⟩)) := by
  have Hp := Lib.hid hp
  have Hb := Lib.hid hb
  have HR := Lib.hid hr
  clear hp hb hr
  have HE : Hid (UndoP.bytes ⟨2, puk, ⟨pst, pk, ⟨pkd, pda, plo, phi, pva⟩⟩, pun⟩ = [2, UInt8.ofNat puk.size] ++ (puk.data.toList ++ BeP.parts 8 pun)) := Lib.hid (by rw [UndoP.bytes, if_pos HR.out]; rfl)
  rw [HE.out]
  have hks := KeyP.right_size puk (UndoP.right_key _ (by simp) HR.out)
  have hkm : ((puk.size : Int) % 256) = (puk.size : Int) := by omega
  have hkb : ((UInt8.ofNat puk.size).toNat : Int) = (puk.size : Int) := by simp; omega
  have HKB := Lib.hid hkb
  clear hkb
  go_enter Tryz.func42, Tryz.ntmps42
  go_wp2_with fail
  generalize hW0 : (w).alloc (.cells #[.int .i64 2, .string puk, .int .i64 pst, .string pk, .int .i64 pkd, .slice Ap np cp, .int .i64 plo, .int .i64 phi, .int .i64 pva, .int .i64 pun] 38) = W0
  have HS0_0 : Hid (Str W0 (w.heap.size) #[.int .i64 2, .string puk, .int .i64 pst, .string pk, .int .i64 pkd, .slice Ap np cp, .int .i64 plo, .int .i64 phi, .int .i64 pva, .int .i64 pun]) := Lib.hid (by rw [← hW0]; have := Str.new (w) #[.int .i64 2, .string puk, .int .i64 pst, .string pk, .int .i64 pkd, .slice Ap np cp, .int .i64 plo, .int .i64 phi, .int .i64 pva, .int .i64 pun] 38; simpa using this)
  have HB_0 : Hid (Below w.heap.size w W0) := Lib.hid (by rw [← hW0]; exact balloc (bsame w) _)
  have hw_0 := HB_0.out.size
  clear hW0
  obtain ⟨f0_0_0, f0_0_1, f0_0_2, f0_0_3, f0_0_4, f0_0_5, f0_0_6, f0_0_7, f0_0_8, f0_0_9⟩ := str10 HS0_0.out
  have hl0_0 := HS0_0.out.lt
  have HYb_0 := Lib.hid ((Hb.out.below (HB_0.out.mono hBb)).more (Nat.le_trans hBb HB_0.out.size))
  refine (check_any _ _ _ _ _ _ _ _ _ pda _ _ _ _ _ (Hp.out.below (HB_0.out.mono hBp)) (by omega) hpk huk).mono ?_
  rintro e W1 ⟨rfl, hb1⟩
  rw [HR.out]
  rw [show CellP.code true = 0 from rfl]
  have HS0_1 := Lib.hid (HS0_0.out.next hb1)
  have HB_1 := Lib.hid (bstep HB_0.out hb1)
  have hw_1 := HB_1.out.size
  have hws_1 := (hb1).size
  have HYb_1 := Lib.hid (HYb_0.out.next hb1)
  clear HYb_0
  clear f0_0_0 f0_0_1 f0_0_2 f0_0_3 f0_0_4 f0_0_5 f0_0_6 f0_0_7 f0_0_8 f0_0_9 HS0_0
  clear hb1
  obtain ⟨f0_1_0, f0_1_1, f0_1_2, f0_1_3, f0_1_4, f0_1_5, f0_1_6, f0_1_7, f0_1_8, f0_1_9⟩ := str10 HS0_1.out
  have hl0_1 := HS0_1.out.lt
  go_wp2_with fail
  generalize hW2 : W1.alloc (.cells #[.int .u8 2] 5) = W2
  have HS0_2 : Hid (Str W2 (w.heap.size) #[.int .i64 2, .string puk, .int .i64 pst, .string pk, .int .i64 pkd, .slice Ap np cp, .int .i64 plo, .int .i64 phi, .int .i64 pva, .int .i64 pun]) := Lib.hid (by rw [← hW2]; exact HS0_1.out.alloc _)
  have HS1_2 : Hid (Str W2 W1.heap.size #[.int .u8 2]) := Lib.hid (by rw [← hW2]; exact Str.new W1 #[.int .u8 2] 5)
  have hba2 : Below W1.heap.size W1 W2 := by rw [← hW2]; exact balloc (bsame _) _
  have HB_2 := Lib.hid (bstep HB_1.out hba2)
  have hw_2 := HB_2.out.size
  have hws_2 := hba2.size
  have HYb_2 := Lib.hid (HYb_1.out.next hba2)
  clear HYb_1
  have hz2 : W2.heap.size = W1.heap.size + 1 := by rw [← hW2]; simp
  clear hW2
  clear f0_1_0 f0_1_1 f0_1_2 f0_1_3 f0_1_4 f0_1_5 f0_1_6 f0_1_7 f0_1_8 f0_1_9 HS0_1
  obtain ⟨f0_2_0, f0_2_1, f0_2_2, f0_2_3, f0_2_4, f0_2_5, f0_2_6, f0_2_7, f0_2_8, f0_2_9⟩ := str10 HS0_2.out
  have hl0_2 := HS0_2.out.lt
  have f1_2_0 := str1 HS1_2.out
  have hl1_2 := HS1_2.out.lt
  clear hba2
  have HYd_2 := Lib.hid (HS1_2.out.lit [2] rfl (by decide))
  obtain ⟨A3, c3, W3, happ3, hO3, hb3⟩ := (Own.one W2 W2.heap.size (Nat.le_refl _) (UInt8.ofNat puk.size)).appStr puk (by omega) (by simp)
  have hb3' : Below W2.heap.size W2 W3 := ((Below.refl _ W2).alloc (Nat.le_refl _) _).trans hb3
  rw [HKB.out, hz2] at happ3
  clear hb3
  have HS0_3 := Lib.hid (HS0_2.out.next hb3')
  have HS1_3 := Lib.hid (HS1_2.out.next hb3')
  have HB_3 := Lib.hid (bstep HB_2.out hb3')
  have hw_3 := HB_3.out.size
  have hws_3 := (hb3').size
  have HYb_3 := Lib.hid (HYb_2.out.next hb3')
  have HYd_3 := Lib.hid (HYd_2.out.next hb3')
  clear HYb_2 HYd_2
  clear f0_2_0 f0_2_1 f0_2_2 f0_2_3 f0_2_4 f0_2_5 f0_2_6 f0_2_7 f0_2_8 f0_2_9 HS0_2 f1_2_0 HS1_2
  clear hb3'
  obtain ⟨f0_3_0, f0_3_1, f0_3_2, f0_3_3, f0_3_4, f0_3_5, f0_3_6, f0_3_7, f0_3_8, f0_3_9⟩ := str10 HS0_3.out
  have hl0_3 := HS0_3.out.lt
  have f1_3_0 := str1 HS1_3.out
  have hl1_3 := HS1_3.out.lt
  have HYn_3 := Lib.hid (hO3.bytes)
  clear hO3
  go_simp
  go_wp2_with fail
  clear happ3
  refine (Be.put_wide none 0 0 0 [] 8 pun _ (Bytes.none_ _ _) (Nat.zero_le _) (by omega) (by omega) (by omega)).mono ?_
  rintro e W4 ⟨A4, n4, c4, rfl, hy4, hb4⟩
  rw [List.nil_append] at hy4
  have hn4 : n4 = 8 := by rw [← hy4.len, BeP.parts_length]
  subst hn4
  have HS0_4 := Lib.hid (HS0_3.out.next hb4)
  have HS1_4 := Lib.hid (HS1_3.out.next hb4)
  have HB_4 := Lib.hid (bstep HB_3.out hb4)
  have hw_4 := HB_4.out.size
  have hws_4 := (hb4).size
  have HYb_4 := Lib.hid (HYb_3.out.next hb4)
  have HYd_4 := Lib.hid (HYd_3.out.next hb4)
  have HYn_4 := Lib.hid (HYn_3.out.next hb4)
  clear HYb_3 HYd_3 HYn_3
  clear f0_3_0 f0_3_1 f0_3_2 f0_3_3 f0_3_4 f0_3_5 f0_3_6 f0_3_7 f0_3_8 f0_3_9 HS0_3 f1_3_0 HS1_3
  clear hb4
  obtain ⟨f0_4_0, f0_4_1, f0_4_2, f0_4_3, f0_4_4, f0_4_5, f0_4_6, f0_4_7, f0_4_8, f0_4_9⟩ := str10 HS0_4.out
  have hl0_4 := HS0_4.out.lt
  have f1_4_0 := str1 HS1_4.out
  have hl1_4 := HS1_4.out.lt
  have HYs_4 := Lib.hid (hy4)
  clear hy4
  go_wp2_with fail
  generalize hW5 : W4.alloc (.cells #[.slice Ab nb cb, .slice (some ⟨W1.heap.size, 0, none⟩) 1 1, .slice A3 (1 + puk.size) c3, .slice A4 8 c4] 32) = W5
  have HS0_5 : Hid (Str W5 (w.heap.size) #[.int .i64 2, .string puk, .int .i64 pst, .string pk, .int .i64 pkd, .slice Ap np cp, .int .i64 plo, .int .i64 phi, .int .i64 pva, .int .i64 pun]) := Lib.hid (by rw [← hW5]; exact HS0_4.out.alloc _)
  have HS1_5 : Hid (Str W5 (W1.heap.size) #[.int .u8 2]) := Lib.hid (by rw [← hW5]; exact HS1_4.out.alloc _)
  have HS2_5 : Hid (Str W5 W4.heap.size #[.slice Ab nb cb, .slice (some ⟨W1.heap.size, 0, none⟩) 1 1, .slice A3 (1 + puk.size) c3, .slice A4 8 c4]) := Lib.hid (by rw [← hW5]; exact Str.new W4 #[.slice Ab nb cb, .slice (some ⟨W1.heap.size, 0, none⟩) 1 1, .slice A3 (1 + puk.size) c3, .slice A4 8 c4] 32)
  have hba5 : Below W4.heap.size W4 W5 := by rw [← hW5]; exact balloc (bsame _) _
  have HB_5 := Lib.hid (bstep HB_4.out hba5)
  have hw_5 := HB_5.out.size
  have hws_5 := hba5.size
  have HYb_5 := Lib.hid (HYb_4.out.next hba5)
  have HYd_5 := Lib.hid (HYd_4.out.next hba5)
  have HYn_5 := Lib.hid (HYn_4.out.next hba5)
  have HYs_5 := Lib.hid (HYs_4.out.next hba5)
  clear HYb_4 HYd_4 HYn_4 HYs_4
  clear hW5
  clear f0_4_0 f0_4_1 f0_4_2 f0_4_3 f0_4_4 f0_4_5 f0_4_6 f0_4_7 f0_4_8 f0_4_9 HS0_4 f1_4_0 HS1_4
  obtain ⟨f0_5_0, f0_5_1, f0_5_2, f0_5_3, f0_5_4, f0_5_5, f0_5_6, f0_5_7, f0_5_8, f0_5_9⟩ := str10 HS0_5.out
  have hl0_5 := HS0_5.out.lt
  have f1_5_0 := str1 HS1_5.out
  have hl1_5 := HS1_5.out.lt
  obtain ⟨f2_5_0, f2_5_1, f2_5_2, f2_5_3⟩ := str4 HS2_5.out
  have hl2_5 := HS2_5.out.lt
  clear hba5
  have hps : ∀ p ∈ ([(Ab, nb, cb, lb), ((some ⟨W1.heap.size, 0, none⟩), 1, 1, [2]), (A3, (1 + puk.size), c3, ([UInt8.ofNat puk.size] ++ puk.data.toList)), (A4, 8, c4, (BeP.parts 8 pun))] : List ConcatW.Part), Bytes W5 W5.heap.size p.1 p.2.1 p.2.2.1 p.2.2.2 := by
    intro p hp
    simp only [List.mem_cons, List.not_mem_nil, or_false] at hp
    rcases hp with rfl | rfl | rfl | rfl
    · exact HYb_5.out
    · exact HYd_5.out
    · exact HYn_5.out
    · exact HYs_5.out
  refine (ConcatW.concat_any [(Ab, nb, cb, lb), ((some ⟨W1.heap.size, 0, none⟩), 1, 1, [2]), (A3, (1 + puk.size), c3, ([UInt8.ofNat puk.size] ++ puk.data.toList)), (A4, 8, c4, (BeP.parts 8 pun))] _ _ HS2_5.out hps (by simp [ConcatW.total]; omega) (by simp)).mono ?_
  rintro e W6 ⟨A9, n9, c9, rfl, hy9, hb9⟩
  have HY9 := Lib.hid hy9
  clear hy9 hps
  go_wp2_with fail
  go_ret
  refine ⟨A9, n9, c9, rfl, ?_, bstep HB_5.out hb9⟩
  have h9 := HY9.out
  simp only [ConcatW.all, List.flatMap_cons, List.flatMap_nil, List.append_nil] at h9
  simpa using h9

set_option maxRecDepth 100000 in
set_option maxHeartbeats 1000000 in
theorem put3 (Ab : Option Addr) (nb cb Bb : Nat) (lb : List UInt8) (puk : ByteArray) (Ap : Option Addr) (np cp Bp : Nat) (pst : Int) (pk : ByteArray) (pkd : Int) (pda : List UInt8) (plo phi pva : Int) (pun : Int) (w : World) (hb : Bytes w Bb Ab nb cb lb) (hBb : Bb ≤ w.heap.size) (hnb : nb ≤ 1000000000) (hp : Bytes w Bp Ap np cp pda) (hBp : Bp ≤ w.heap.size) (hpk : pk.size ≤ maxLen) (huk : puk.size ≤ maxLen) (hr : UndoP.right ⟨3, puk, ⟨pst, pk, ⟨pkd, pda, plo, phi, pva⟩⟩, pun⟩ = true) : Calls Tryz.prog 42 #[.slice Ab nb cb, .agg #[.int .i64 3, .string puk, .int .i64 pst, .string pk, .int .i64 pkd, .slice Ap np cp, .int .i64 plo, .int .i64 phi, .int .i64 pva, .int .i64 pun]] w (GivesBytes w (lb ++ UndoP.bytes ⟨3, puk, ⟨pst, pk, ⟨pkd, pda, plo, phi, pva⟩⟩, pun⟩)) := by
  have Hp := Lib.hid hp
  have Hb := Lib.hid hb
  have HR := Lib.hid hr
  clear hp hb hr
  have HE : Hid (UndoP.bytes ⟨3, puk, ⟨pst, pk, ⟨pkd, pda, plo, phi, pva⟩⟩, pun⟩ = [3, UInt8.ofNat puk.size] ++ (puk.data.toList ++ BeP.parts 8 pun)) := Lib.hid (by rw [UndoP.bytes, if_pos HR.out]; rfl)
  rw [HE.out]
  have hks := KeyP.right_size puk (UndoP.right_key _ (by simp) HR.out)
  have hkm : ((puk.size : Int) % 256) = (puk.size : Int) := by omega
  have hkb : ((UInt8.ofNat puk.size).toNat : Int) = (puk.size : Int) := by simp; omega
  have HKB := Lib.hid hkb
  clear hkb
  go_enter Tryz.func42, Tryz.ntmps42
  go_wp2_with fail
  generalize hW0 : (w).alloc (.cells #[.int .i64 3, .string puk, .int .i64 pst, .string pk, .int .i64 pkd, .slice Ap np cp, .int .i64 plo, .int .i64 phi, .int .i64 pva, .int .i64 pun] 38) = W0
  have HS0_0 : Hid (Str W0 (w.heap.size) #[.int .i64 3, .string puk, .int .i64 pst, .string pk, .int .i64 pkd, .slice Ap np cp, .int .i64 plo, .int .i64 phi, .int .i64 pva, .int .i64 pun]) := Lib.hid (by rw [← hW0]; have := Str.new (w) #[.int .i64 3, .string puk, .int .i64 pst, .string pk, .int .i64 pkd, .slice Ap np cp, .int .i64 plo, .int .i64 phi, .int .i64 pva, .int .i64 pun] 38; simpa using this)
  have HB_0 : Hid (Below w.heap.size w W0) := Lib.hid (by rw [← hW0]; exact balloc (bsame w) _)
  have hw_0 := HB_0.out.size
  clear hW0
  obtain ⟨f0_0_0, f0_0_1, f0_0_2, f0_0_3, f0_0_4, f0_0_5, f0_0_6, f0_0_7, f0_0_8, f0_0_9⟩ := str10 HS0_0.out
  have hl0_0 := HS0_0.out.lt
  have HYb_0 := Lib.hid ((Hb.out.below (HB_0.out.mono hBb)).more (Nat.le_trans hBb HB_0.out.size))
  refine (check_any _ _ _ _ _ _ _ _ _ pda _ _ _ _ _ (Hp.out.below (HB_0.out.mono hBp)) (by omega) hpk huk).mono ?_
  rintro e W1 ⟨rfl, hb1⟩
  rw [HR.out]
  rw [show CellP.code true = 0 from rfl]
  have HS0_1 := Lib.hid (HS0_0.out.next hb1)
  have HB_1 := Lib.hid (bstep HB_0.out hb1)
  have hw_1 := HB_1.out.size
  have hws_1 := (hb1).size
  have HYb_1 := Lib.hid (HYb_0.out.next hb1)
  clear HYb_0
  clear f0_0_0 f0_0_1 f0_0_2 f0_0_3 f0_0_4 f0_0_5 f0_0_6 f0_0_7 f0_0_8 f0_0_9 HS0_0
  clear hb1
  obtain ⟨f0_1_0, f0_1_1, f0_1_2, f0_1_3, f0_1_4, f0_1_5, f0_1_6, f0_1_7, f0_1_8, f0_1_9⟩ := str10 HS0_1.out
  have hl0_1 := HS0_1.out.lt
  go_wp2_with fail
  generalize hW2 : W1.alloc (.cells #[.int .u8 3] 5) = W2
  have HS0_2 : Hid (Str W2 (w.heap.size) #[.int .i64 3, .string puk, .int .i64 pst, .string pk, .int .i64 pkd, .slice Ap np cp, .int .i64 plo, .int .i64 phi, .int .i64 pva, .int .i64 pun]) := Lib.hid (by rw [← hW2]; exact HS0_1.out.alloc _)
  have HS1_2 : Hid (Str W2 W1.heap.size #[.int .u8 3]) := Lib.hid (by rw [← hW2]; exact Str.new W1 #[.int .u8 3] 5)
  have hba2 : Below W1.heap.size W1 W2 := by rw [← hW2]; exact balloc (bsame _) _
  have HB_2 := Lib.hid (bstep HB_1.out hba2)
  have hw_2 := HB_2.out.size
  have hws_2 := hba2.size
  have HYb_2 := Lib.hid (HYb_1.out.next hba2)
  clear HYb_1
  have hz2 : W2.heap.size = W1.heap.size + 1 := by rw [← hW2]; simp
  clear hW2
  clear f0_1_0 f0_1_1 f0_1_2 f0_1_3 f0_1_4 f0_1_5 f0_1_6 f0_1_7 f0_1_8 f0_1_9 HS0_1
  obtain ⟨f0_2_0, f0_2_1, f0_2_2, f0_2_3, f0_2_4, f0_2_5, f0_2_6, f0_2_7, f0_2_8, f0_2_9⟩ := str10 HS0_2.out
  have hl0_2 := HS0_2.out.lt
  have f1_2_0 := str1 HS1_2.out
  have hl1_2 := HS1_2.out.lt
  clear hba2
  have HYd_2 := Lib.hid (HS1_2.out.lit [3] rfl (by decide))
  obtain ⟨A3, c3, W3, happ3, hO3, hb3⟩ := (Own.one W2 W2.heap.size (Nat.le_refl _) (UInt8.ofNat puk.size)).appStr puk (by omega) (by simp)
  have hb3' : Below W2.heap.size W2 W3 := ((Below.refl _ W2).alloc (Nat.le_refl _) _).trans hb3
  rw [HKB.out, hz2] at happ3
  clear hb3
  have HS0_3 := Lib.hid (HS0_2.out.next hb3')
  have HS1_3 := Lib.hid (HS1_2.out.next hb3')
  have HB_3 := Lib.hid (bstep HB_2.out hb3')
  have hw_3 := HB_3.out.size
  have hws_3 := (hb3').size
  have HYb_3 := Lib.hid (HYb_2.out.next hb3')
  have HYd_3 := Lib.hid (HYd_2.out.next hb3')
  clear HYb_2 HYd_2
  clear f0_2_0 f0_2_1 f0_2_2 f0_2_3 f0_2_4 f0_2_5 f0_2_6 f0_2_7 f0_2_8 f0_2_9 HS0_2 f1_2_0 HS1_2
  clear hb3'
  obtain ⟨f0_3_0, f0_3_1, f0_3_2, f0_3_3, f0_3_4, f0_3_5, f0_3_6, f0_3_7, f0_3_8, f0_3_9⟩ := str10 HS0_3.out
  have hl0_3 := HS0_3.out.lt
  have f1_3_0 := str1 HS1_3.out
  have hl1_3 := HS1_3.out.lt
  have HYn_3 := Lib.hid (hO3.bytes)
  clear hO3
  go_simp
  go_wp2_with fail
  clear happ3
  refine (Be.put_wide none 0 0 0 [] 8 pun _ (Bytes.none_ _ _) (Nat.zero_le _) (by omega) (by omega) (by omega)).mono ?_
  rintro e W4 ⟨A4, n4, c4, rfl, hy4, hb4⟩
  rw [List.nil_append] at hy4
  have hn4 : n4 = 8 := by rw [← hy4.len, BeP.parts_length]
  subst hn4
  have HS0_4 := Lib.hid (HS0_3.out.next hb4)
  have HS1_4 := Lib.hid (HS1_3.out.next hb4)
  have HB_4 := Lib.hid (bstep HB_3.out hb4)
  have hw_4 := HB_4.out.size
  have hws_4 := (hb4).size
  have HYb_4 := Lib.hid (HYb_3.out.next hb4)
  have HYd_4 := Lib.hid (HYd_3.out.next hb4)
  have HYn_4 := Lib.hid (HYn_3.out.next hb4)
  clear HYb_3 HYd_3 HYn_3
  clear f0_3_0 f0_3_1 f0_3_2 f0_3_3 f0_3_4 f0_3_5 f0_3_6 f0_3_7 f0_3_8 f0_3_9 HS0_3 f1_3_0 HS1_3
  clear hb4
  obtain ⟨f0_4_0, f0_4_1, f0_4_2, f0_4_3, f0_4_4, f0_4_5, f0_4_6, f0_4_7, f0_4_8, f0_4_9⟩ := str10 HS0_4.out
  have hl0_4 := HS0_4.out.lt
  have f1_4_0 := str1 HS1_4.out
  have hl1_4 := HS1_4.out.lt
  have HYs_4 := Lib.hid (hy4)
  clear hy4
  go_wp2_with fail
  generalize hW5 : W4.alloc (.cells #[.slice Ab nb cb, .slice (some ⟨W1.heap.size, 0, none⟩) 1 1, .slice A3 (1 + puk.size) c3, .slice A4 8 c4] 32) = W5
  have HS0_5 : Hid (Str W5 (w.heap.size) #[.int .i64 3, .string puk, .int .i64 pst, .string pk, .int .i64 pkd, .slice Ap np cp, .int .i64 plo, .int .i64 phi, .int .i64 pva, .int .i64 pun]) := Lib.hid (by rw [← hW5]; exact HS0_4.out.alloc _)
  have HS1_5 : Hid (Str W5 (W1.heap.size) #[.int .u8 3]) := Lib.hid (by rw [← hW5]; exact HS1_4.out.alloc _)
  have HS2_5 : Hid (Str W5 W4.heap.size #[.slice Ab nb cb, .slice (some ⟨W1.heap.size, 0, none⟩) 1 1, .slice A3 (1 + puk.size) c3, .slice A4 8 c4]) := Lib.hid (by rw [← hW5]; exact Str.new W4 #[.slice Ab nb cb, .slice (some ⟨W1.heap.size, 0, none⟩) 1 1, .slice A3 (1 + puk.size) c3, .slice A4 8 c4] 32)
  have hba5 : Below W4.heap.size W4 W5 := by rw [← hW5]; exact balloc (bsame _) _
  have HB_5 := Lib.hid (bstep HB_4.out hba5)
  have hw_5 := HB_5.out.size
  have hws_5 := hba5.size
  have HYb_5 := Lib.hid (HYb_4.out.next hba5)
  have HYd_5 := Lib.hid (HYd_4.out.next hba5)
  have HYn_5 := Lib.hid (HYn_4.out.next hba5)
  have HYs_5 := Lib.hid (HYs_4.out.next hba5)
  clear HYb_4 HYd_4 HYn_4 HYs_4
  clear hW5
  clear f0_4_0 f0_4_1 f0_4_2 f0_4_3 f0_4_4 f0_4_5 f0_4_6 f0_4_7 f0_4_8 f0_4_9 HS0_4 f1_4_0 HS1_4
  obtain ⟨f0_5_0, f0_5_1, f0_5_2, f0_5_3, f0_5_4, f0_5_5, f0_5_6, f0_5_7, f0_5_8, f0_5_9⟩ := str10 HS0_5.out
  have hl0_5 := HS0_5.out.lt
  have f1_5_0 := str1 HS1_5.out
  have hl1_5 := HS1_5.out.lt
  obtain ⟨f2_5_0, f2_5_1, f2_5_2, f2_5_3⟩ := str4 HS2_5.out
  have hl2_5 := HS2_5.out.lt
  clear hba5
  have hps : ∀ p ∈ ([(Ab, nb, cb, lb), ((some ⟨W1.heap.size, 0, none⟩), 1, 1, [3]), (A3, (1 + puk.size), c3, ([UInt8.ofNat puk.size] ++ puk.data.toList)), (A4, 8, c4, (BeP.parts 8 pun))] : List ConcatW.Part), Bytes W5 W5.heap.size p.1 p.2.1 p.2.2.1 p.2.2.2 := by
    intro p hp
    simp only [List.mem_cons, List.not_mem_nil, or_false] at hp
    rcases hp with rfl | rfl | rfl | rfl
    · exact HYb_5.out
    · exact HYd_5.out
    · exact HYn_5.out
    · exact HYs_5.out
  refine (ConcatW.concat_any [(Ab, nb, cb, lb), ((some ⟨W1.heap.size, 0, none⟩), 1, 1, [3]), (A3, (1 + puk.size), c3, ([UInt8.ofNat puk.size] ++ puk.data.toList)), (A4, 8, c4, (BeP.parts 8 pun))] _ _ HS2_5.out hps (by simp [ConcatW.total]; omega) (by simp)).mono ?_
  rintro e W6 ⟨A9, n9, c9, rfl, hy9, hb9⟩
  have HY9 := Lib.hid hy9
  clear hy9 hps
  go_wp2_with fail
  go_ret
  refine ⟨A9, n9, c9, rfl, ?_, bstep HB_5.out hb9⟩
  have h9 := HY9.out
  simp only [ConcatW.all, List.flatMap_cons, List.flatMap_nil, List.append_nil] at h9
  simpa using h9

set_option maxRecDepth 100000 in
set_option maxHeartbeats 1000000 in
theorem put_any (Ab : Option Addr) (nb cb Bb : Nat) (lb : List UInt8) (pact : Int) (puk : ByteArray) (Ap : Option Addr) (np cp Bp : Nat) (pst : Int) (pk : ByteArray) (pkd : Int) (pda : List UInt8) (plo phi pva : Int) (pun : Int) (w : World) (hb : Bytes w Bb Ab nb cb lb) (hBb : Bb ≤ w.heap.size) (hnb : nb ≤ 1000000000) (hp : Bytes w Bp Ap np cp pda) (hBp : Bp ≤ w.heap.size) (hpk : pk.size ≤ maxLen) (huk : puk.size ≤ maxLen)  : Calls Tryz.prog 42 #[.slice Ab nb cb, .agg #[.int .i64 pact, .string puk, .int .i64 pst, .string pk, .int .i64 pkd, .slice Ap np cp, .int .i64 plo, .int .i64 phi, .int .i64 pva, .int .i64 pun]] w (GivesBytes w (lb ++ UndoP.bytes ⟨pact, puk, ⟨pst, pk, ⟨pkd, pda, plo, phi, pva⟩⟩, pun⟩)) := by
  cases hr : UndoP.right ⟨pact, puk, ⟨pst, pk, ⟨pkd, pda, plo, phi, pva⟩⟩, pun⟩
  · exact put_no Ab nb cb Bb lb pact puk Ap np cp Bp pst pk pkd pda plo phi pva pun w hb hBb hnb hp hBp hpk huk hr
  by_cases h0 : pact = 0
  · subst h0
    exact put0 Ab nb cb Bb lb puk Ap np cp Bp pst pk pkd pda plo phi pva pun w hb hBb hnb hp hBp hpk huk hr
  by_cases h1 : pact = 1
  · subst h1
    exact put1 Ab nb cb Bb lb puk Ap np cp Bp pst pk pkd pda plo phi pva pun w hb hBb hnb hp hBp hpk huk hr
  by_cases h2 : pact = 2
  · subst h2
    exact put2 Ab nb cb Bb lb puk Ap np cp Bp pst pk pkd pda plo phi pva pun w hb hBb hnb hp hBp hpk huk hr
  by_cases h3 : pact = 3
  · subst h3
    exact put3 Ab nb cb Bb lb puk Ap np cp Bp pst pk pkd pda plo phi pva pun w hb hBb hnb hp hBp hpk huk hr
  · simp [UndoP.right, h0, h1, h2, h3] at hr
end Go.Proofs.YtpdfnlhhnodnjaaGreat.UndoW
end
