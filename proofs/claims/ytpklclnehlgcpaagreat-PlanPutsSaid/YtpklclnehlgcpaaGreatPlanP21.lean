/-
  Parts of the proof of PlanPuts.
-/
import Derived.Test.YtpklclnehlgcpaaGreatPlanP16
import Derived.Test.YtpklclnehlgcpaaGreatPlanP2
import Derived.Test.YtpklclnehlgcpaaGreatPlanP7
import Derived.Test.YtpklclnehlgcpaaGreatPlanP19
import Derived.Test.YtpklclnehlgcpaaGreatPlanP5
import Derived.Test.YtpklclnehlgcpaaGreatPlanP9
import Derived.Test.YtpklclnehlgcpaaGreatProg
import Derived.Test.YtpklclnehlgcpaaGreatPlanP0
section
namespace Go.Proofs.YtpklclnehlgcpaaGreat.UndoW
open Go.RowKit
set_option linter.unusedVariables false

set_option maxRecDepth 100000 in
set_option maxHeartbeats 1000000 in
theorem refSame_any (pact : Int) (puk : ByteArray) (Ap : Option Addr) (np cp Bp : Nat) (pst : Int) (pk : ByteArray) (pkd : Int) (pda : List UInt8) (plo phi pva : Int) (pun : Int) (qact : Int) (quk : ByteArray) (Aq : Option Addr) (nq cq Bq : Nat) (qst : Int) (qk : ByteArray) (qkd : Int) (qda : List UInt8) (qlo qhi qva : Int) (qun : Int) (w : World) (hp : Bytes w Bp Ap np cp pda) (hBp : Bp ≤ w.heap.size) (hq : Bytes w Bq Aq nq cq qda) (hBq : Bq ≤ w.heap.size) : Calls Tryz.prog 71 #[.agg #[.int .i64 pact, .string puk, .int .i64 pst, .string pk, .int .i64 pkd, .slice Ap np cp, .int .i64 plo, .int .i64 phi, .int .i64 pva, .int .i64 pun], .agg #[.int .i64 qact, .string quk, .int .i64 qst, .string qk, .int .i64 qkd, .slice Aq nq cq, .int .i64 qlo, .int .i64 qhi, .int .i64 qva, .int .i64 qun]] w fun e w' => e = .returned (.bool (UndoP.same ⟨pact, puk, ⟨pst, pk, ⟨pkd, pda, plo, phi, pva⟩⟩, pun⟩ ⟨qact, quk, ⟨qst, qk, ⟨qkd, qda, qlo, qhi, qva⟩⟩, qun⟩)) ∧ Below w.heap.size w w' := by
  have Hp := Lib.hid hp
  have Hq := Lib.hid hq
  clear hp hq
  by_cases h1 : pact = qact
  case neg =>
    have HE : Hid (UndoP.same ⟨pact, puk, ⟨pst, pk, ⟨pkd, pda, plo, phi, pva⟩⟩, pun⟩ ⟨qact, quk, ⟨qst, qk, ⟨qkd, qda, qlo, qhi, qva⟩⟩, qun⟩ = false) := Lib.hid (by simp [UndoP.same, h1])
    rw [HE.out]
    go_enter Tryz.func71, Tryz.ntmps71
    go_wp2
    go_ret
    exact ⟨rfl, balloc (balloc (bsame w) _) _⟩
  subst h1
  by_cases hk : puk = quk
  case neg =>
    replace hk := key_ne hk
    have HE : Hid (UndoP.same ⟨pact, puk, ⟨pst, pk, ⟨pkd, pda, plo, phi, pva⟩⟩, pun⟩ ⟨pact, quk, ⟨qst, qk, ⟨qkd, qda, qlo, qhi, qva⟩⟩, qun⟩ = false) := Lib.hid (by simp [UndoP.same, hk])
    rw [HE.out]
    go_enter Tryz.func71, Tryz.ntmps71
    go_wp2
    go_ret
    exact ⟨rfl, balloc (balloc (bsame w) _) _⟩
  subst hk
  by_cases h3 : pun = qun
  case neg =>
    have HE : Hid (UndoP.same ⟨pact, puk, ⟨pst, pk, ⟨pkd, pda, plo, phi, pva⟩⟩, pun⟩ ⟨pact, puk, ⟨qst, qk, ⟨qkd, qda, qlo, qhi, qva⟩⟩, qun⟩ = false) := Lib.hid (by simp [UndoP.same, h3])
    rw [HE.out]
    go_enter Tryz.func71, Tryz.ntmps71
    go_wp2
    go_ret
    exact ⟨rfl, balloc (balloc (bsame w) _) _⟩
  subst h3
  have HE : Hid (UndoP.same ⟨pact, puk, ⟨pst, pk, ⟨pkd, pda, plo, phi, pva⟩⟩, pun⟩ ⟨pact, puk, ⟨qst, qk, ⟨qkd, qda, qlo, qhi, qva⟩⟩, pun⟩ = SlotP.same ⟨pst, pk, ⟨pkd, pda, plo, phi, pva⟩⟩ ⟨qst, qk, ⟨qkd, qda, qlo, qhi, qva⟩⟩) := Lib.hid (by simp [UndoP.same])
  rw [HE.out]
  go_enter Tryz.func71, Tryz.ntmps71
  go_wp2_with fail
  generalize hW0 : ((w).alloc (.cells #[.int .i64 pact, .string puk, .int .i64 pst, .string pk, .int .i64 pkd, .slice Ap np cp, .int .i64 plo, .int .i64 phi, .int .i64 pva, .int .i64 pun] 40)).alloc (.cells #[.int .i64 pact, .string puk, .int .i64 qst, .string qk, .int .i64 qkd, .slice Aq nq cq, .int .i64 qlo, .int .i64 qhi, .int .i64 qva, .int .i64 pun] 40) = W0
  have HS0_0 : Hid (Str W0 (w.heap.size) #[.int .i64 pact, .string puk, .int .i64 pst, .string pk, .int .i64 pkd, .slice Ap np cp, .int .i64 plo, .int .i64 phi, .int .i64 pva, .int .i64 pun]) := Lib.hid (by rw [← hW0]; have := (Str.new (w) #[.int .i64 pact, .string puk, .int .i64 pst, .string pk, .int .i64 pkd, .slice Ap np cp, .int .i64 plo, .int .i64 phi, .int .i64 pva, .int .i64 pun] 40).alloc (.cells #[.int .i64 pact, .string puk, .int .i64 qst, .string qk, .int .i64 qkd, .slice Aq nq cq, .int .i64 qlo, .int .i64 qhi, .int .i64 qva, .int .i64 pun] 40); simpa using this)
  have HS1_0 : Hid (Str W0 (w.heap.size + 1) #[.int .i64 pact, .string puk, .int .i64 qst, .string qk, .int .i64 qkd, .slice Aq nq cq, .int .i64 qlo, .int .i64 qhi, .int .i64 qva, .int .i64 pun]) := Lib.hid (by rw [← hW0]; have := Str.new ((w).alloc (.cells #[.int .i64 pact, .string puk, .int .i64 pst, .string pk, .int .i64 pkd, .slice Ap np cp, .int .i64 plo, .int .i64 phi, .int .i64 pva, .int .i64 pun] 40)) #[.int .i64 pact, .string puk, .int .i64 qst, .string qk, .int .i64 qkd, .slice Aq nq cq, .int .i64 qlo, .int .i64 qhi, .int .i64 qva, .int .i64 pun] 40; simpa using this)
  have HB_0 : Hid (Below w.heap.size w W0) := Lib.hid (by rw [← hW0]; exact balloc (balloc (bsame w) _) _)
  have hw_0 := HB_0.out.size
  clear hW0
  obtain ⟨f0_0_0, f0_0_1, f0_0_2, f0_0_3, f0_0_4, f0_0_5, f0_0_6, f0_0_7, f0_0_8, f0_0_9⟩ := str10 HS0_0.out
  have hl0_0 := HS0_0.out.lt
  obtain ⟨f1_0_0, f1_0_1, f1_0_2, f1_0_3, f1_0_4, f1_0_5, f1_0_6, f1_0_7, f1_0_8, f1_0_9⟩ := str10 HS1_0.out
  have hl1_0 := HS1_0.out.lt
  refine (SlotW.refSame_any Ap Aq np cp nq cq Bp Bq ⟨pst, pk, ⟨pkd, pda, plo, phi, pva⟩⟩ ⟨qst, qk, ⟨qkd, qda, qlo, qhi, qva⟩⟩ _ (Hp.out.below (HB_0.out.mono hBp)) (Hq.out.below (HB_0.out.mono hBq)) (by omega) (by omega)).mono ?_
  rintro e W1 ⟨rfl, hb1⟩
  have HS0_1 := Lib.hid (HS0_0.out.next hb1)
  have HS1_1 := Lib.hid (HS1_0.out.next hb1)
  have HB_1 := Lib.hid (bstep HB_0.out hb1)
  have hw_1 := HB_1.out.size
  have hws_1 := (hb1).size
  clear f0_0_0 f0_0_1 f0_0_2 f0_0_3 f0_0_4 f0_0_5 f0_0_6 f0_0_7 f0_0_8 f0_0_9 HS0_0 f1_0_0 f1_0_1 f1_0_2 f1_0_3 f1_0_4 f1_0_5 f1_0_6 f1_0_7 f1_0_8 f1_0_9 HS1_0
  clear hb1
  obtain ⟨f0_1_0, f0_1_1, f0_1_2, f0_1_3, f0_1_4, f0_1_5, f0_1_6, f0_1_7, f0_1_8, f0_1_9⟩ := str10 HS0_1.out
  have hl0_1 := HS0_1.out.lt
  obtain ⟨f1_1_0, f1_1_1, f1_1_2, f1_1_3, f1_1_4, f1_1_5, f1_1_6, f1_1_7, f1_1_8, f1_1_9⟩ := str10 HS1_1.out
  have hl1_1 := HS1_1.out.lt
  go_wp2_with fail
  go_ret
  exact ⟨rfl, HB_1.out⟩

set_option maxRecDepth 100000 in
set_option maxHeartbeats 1000000 in
theorem right0 (puk : ByteArray) (Ap : Option Addr) (np cp Bp : Nat) (pst : Int) (pk : ByteArray) (pkd : Int) (pda : List UInt8) (plo phi pva : Int) (pun : Int) (w : World) (hp : Bytes w Bp Ap np cp pda) (hBp : Bp ≤ w.heap.size) (hpk : pk.size ≤ maxLen) (huk : puk.size ≤ maxLen) : Calls Tryz.prog 53 #[.agg #[.int .i64 0, .string puk, .int .i64 pst, .string pk, .int .i64 pkd, .slice Ap np cp, .int .i64 plo, .int .i64 phi, .int .i64 pva, .int .i64 pun]] w fun e w' => e = .returned (.bool (UndoP.right ⟨0, puk, ⟨pst, pk, ⟨pkd, pda, plo, phi, pva⟩⟩, pun⟩)) ∧ Below w.heap.size w w' := by
  have Hp := Lib.hid hp
  clear hp
  go_enter Tryz.func53, Tryz.ntmps53
  go_wp2_with fail
  generalize hW0 : (w).alloc (.cells #[.int .i64 0, .string puk, .int .i64 pst, .string pk, .int .i64 pkd, .slice Ap np cp, .int .i64 plo, .int .i64 phi, .int .i64 pva, .int .i64 pun] 40) = W0
  have HS0_0 : Hid (Str W0 (w.heap.size) #[.int .i64 0, .string puk, .int .i64 pst, .string pk, .int .i64 pkd, .slice Ap np cp, .int .i64 plo, .int .i64 phi, .int .i64 pva, .int .i64 pun]) := Lib.hid (by rw [← hW0]; have := Str.new (w) #[.int .i64 0, .string puk, .int .i64 pst, .string pk, .int .i64 pkd, .slice Ap np cp, .int .i64 plo, .int .i64 phi, .int .i64 pva, .int .i64 pun] 40; simpa using this)
  have HB_0 : Hid (Below w.heap.size w W0) := Lib.hid (by rw [← hW0]; exact balloc (bsame w) _)
  have hw_0 := HB_0.out.size
  clear hW0
  obtain ⟨f0_0_0, f0_0_1, f0_0_2, f0_0_3, f0_0_4, f0_0_5, f0_0_6, f0_0_7, f0_0_8, f0_0_9⟩ := str10 HS0_0.out
  have hl0_0 := HS0_0.out.lt
  refine (refSame_any _ _ _ _ _ _ _ _ _ pda _ _ _ _ 0 ⟨#[]⟩ none 0 0 0 0 ⟨#[]⟩ 0 [] 0 0 0 0 _ (Hp.out.below (HB_0.out.mono hBp)) (by omega) (Bytes.none_ _ _) (by omega)).mono ?_
  rintro e W1 ⟨rfl, hb1⟩
  have HS0_1 := Lib.hid (HS0_0.out.next hb1)
  have HB_1 := Lib.hid (bstep HB_0.out hb1)
  have hw_1 := HB_1.out.size
  have hws_1 := (hb1).size
  clear f0_0_0 f0_0_1 f0_0_2 f0_0_3 f0_0_4 f0_0_5 f0_0_6 f0_0_7 f0_0_8 f0_0_9 HS0_0
  clear hb1
  obtain ⟨f0_1_0, f0_1_1, f0_1_2, f0_1_3, f0_1_4, f0_1_5, f0_1_6, f0_1_7, f0_1_8, f0_1_9⟩ := str10 HS0_1.out
  have hl0_1 := HS0_1.out.lt
  have HE : Hid (UndoP.right ⟨0, puk, ⟨pst, pk, ⟨pkd, pda, plo, phi, pva⟩⟩, pun⟩ = UndoP.same ⟨0, puk, ⟨pst, pk, ⟨pkd, pda, plo, phi, pva⟩⟩, pun⟩ ⟨0, ⟨#[]⟩, ⟨0, ⟨#[]⟩, ⟨0, [], 0, 0, 0⟩⟩, 0⟩) := Lib.hid (by simp [UndoP.right]; rfl)
  generalize UndoP.same ⟨0, puk, ⟨pst, pk, ⟨pkd, pda, plo, phi, pva⟩⟩, pun⟩ ⟨0, ⟨#[]⟩, ⟨0, ⟨#[]⟩, ⟨0, [], 0, 0, 0⟩⟩, 0⟩ = r at HE ⊢
  go_wp2_with fail
  go_ret
  exact ⟨by rw [HE.out]; rfl, HB_1.out⟩

set_option maxRecDepth 100000 in
set_option maxHeartbeats 1000000 in
theorem right1_1 (puk : ByteArray) (Ap : Option Addr) (np cp Bp : Nat) (pk : ByteArray) (pkd : Int) (pda : List UInt8) (plo phi pva : Int) (pun : Int) (w : World) (hp : Bytes w Bp Ap np cp pda) (hBp : Bp ≤ w.heap.size) (hpk : pk.size ≤ maxLen) (huk : puk.size ≤ maxLen)  : Calls Tryz.prog 53 #[.agg #[.int .i64 1, .string puk, .int .i64 1, .string pk, .int .i64 pkd, .slice Ap np cp, .int .i64 plo, .int .i64 phi, .int .i64 pva, .int .i64 pun]] w fun e w' => e = .returned (.bool (UndoP.right ⟨1, puk, ⟨1, pk, ⟨pkd, pda, plo, phi, pva⟩⟩, pun⟩)) ∧ Below w.heap.size w w' := by
  have Hp := Lib.hid hp
  clear hp
  go_enter Tryz.func53, Tryz.ntmps53
  go_wp2_with fail
  generalize hW0 : (w).alloc (.cells #[.int .i64 1, .string puk, .int .i64 1, .string pk, .int .i64 pkd, .slice Ap np cp, .int .i64 plo, .int .i64 phi, .int .i64 pva, .int .i64 pun] 40) = W0
  have HS0_0 : Hid (Str W0 (w.heap.size) #[.int .i64 1, .string puk, .int .i64 1, .string pk, .int .i64 pkd, .slice Ap np cp, .int .i64 plo, .int .i64 phi, .int .i64 pva, .int .i64 pun]) := Lib.hid (by rw [← hW0]; have := Str.new (w) #[.int .i64 1, .string puk, .int .i64 1, .string pk, .int .i64 pkd, .slice Ap np cp, .int .i64 plo, .int .i64 phi, .int .i64 pva, .int .i64 pun] 40; simpa using this)
  have HB_0 : Hid (Below w.heap.size w W0) := Lib.hid (by rw [← hW0]; exact balloc (bsame w) _)
  have hw_0 := HB_0.out.size
  clear hW0
  obtain ⟨f0_0_0, f0_0_1, f0_0_2, f0_0_3, f0_0_4, f0_0_5, f0_0_6, f0_0_7, f0_0_8, f0_0_9⟩ := str10 HS0_0.out
  have hl0_0 := HS0_0.out.lt
  refine (Key.right_any puk _ huk).mono ?_
  rintro e W0_ ⟨rfl, rfl⟩
  cases hkr : KeyP.right puk.data.toList
  case false =>
    have HE : Hid (UndoP.right ⟨1, puk, ⟨1, pk, ⟨pkd, pda, plo, phi, pva⟩⟩, pun⟩ = false) := Lib.hid (by simp [UndoP.right, hkr])
    go_wp2_with fail
    go_ret
    exact ⟨by rw [HE.out]; rfl, HB_0.out⟩
  case true =>
    go_wp2_with fail
    refine (SlotW.right_any Ap np cp Bp ⟨1, pk, ⟨pkd, pda, plo, phi, pva⟩⟩ _ (Hp.out.below (HB_0.out.mono hBp)) (by omega) hpk).mono ?_
    rintro e W1 ⟨rfl, hb1⟩
    have HS0_1 := Lib.hid (HS0_0.out.next hb1)
    have HB_1 := Lib.hid (bstep HB_0.out hb1)
    have hw_1 := HB_1.out.size
    have hws_1 := (hb1).size
    clear f0_0_0 f0_0_1 f0_0_2 f0_0_3 f0_0_4 f0_0_5 f0_0_6 f0_0_7 f0_0_8 f0_0_9 HS0_0
    clear hb1
    obtain ⟨f0_1_0, f0_1_1, f0_1_2, f0_1_3, f0_1_4, f0_1_5, f0_1_6, f0_1_7, f0_1_8, f0_1_9⟩ := str10 HS0_1.out
    have hl0_1 := HS0_1.out.lt
    cases hsr : SlotP.right ⟨1, pk, ⟨pkd, pda, plo, phi, pva⟩⟩
    case false =>
      have HE : Hid (UndoP.right ⟨1, puk, ⟨1, pk, ⟨pkd, pda, plo, phi, pva⟩⟩, pun⟩ = false) := Lib.hid (by simp [UndoP.right, hkr, hsr])
      go_wp2_with fail
      go_ret
      exact ⟨by rw [HE.out]; rfl, HB_1.out⟩
    case true =>
      by_cases hk : pk = puk
      case neg =>
        replace hk := key_ne hk
        have HE : Hid (UndoP.right ⟨1, puk, ⟨1, pk, ⟨pkd, pda, plo, phi, pva⟩⟩, pun⟩ = false) := Lib.hid (by simp [UndoP.right, hkr, hsr, hk])
        go_wp2_with fail
        go_ret
        exact ⟨by rw [HE.out]; rfl, HB_1.out⟩
      by_cases hn : pun = 0
      case neg =>
        subst hk
        replace hn : (pun == 0) = false := by simpa using hn
        have HE : Hid (UndoP.right ⟨1, pk, ⟨1, pk, ⟨pkd, pda, plo, phi, pva⟩⟩, pun⟩ = false) := Lib.hid (by simp [UndoP.right, hkr, hsr, hn])
        go_wp2_with fail
        go_ret
        exact ⟨by rw [HE.out]; rfl, HB_1.out⟩
      subst hk
      subst hn
      have HE : Hid (UndoP.right ⟨1, pk, ⟨1, pk, ⟨pkd, pda, plo, phi, pva⟩⟩, 0⟩ = true) := Lib.hid (by simp [UndoP.right, hkr, hsr])
      go_wp2_with fail
      go_ret
      exact ⟨by rw [HE.out]; rfl, HB_1.out⟩

set_option maxRecDepth 100000 in
set_option maxHeartbeats 1000000 in
theorem right1_2 (puk : ByteArray) (Ap : Option Addr) (np cp Bp : Nat) (pk : ByteArray) (pkd : Int) (pda : List UInt8) (plo phi pva : Int) (pun : Int) (w : World) (hp : Bytes w Bp Ap np cp pda) (hBp : Bp ≤ w.heap.size) (hpk : pk.size ≤ maxLen) (huk : puk.size ≤ maxLen)  : Calls Tryz.prog 53 #[.agg #[.int .i64 1, .string puk, .int .i64 2, .string pk, .int .i64 pkd, .slice Ap np cp, .int .i64 plo, .int .i64 phi, .int .i64 pva, .int .i64 pun]] w fun e w' => e = .returned (.bool (UndoP.right ⟨1, puk, ⟨2, pk, ⟨pkd, pda, plo, phi, pva⟩⟩, pun⟩)) ∧ Below w.heap.size w w' := by
  have Hp := Lib.hid hp
  clear hp
  go_enter Tryz.func53, Tryz.ntmps53
  go_wp2_with fail
  generalize hW0 : (w).alloc (.cells #[.int .i64 1, .string puk, .int .i64 2, .string pk, .int .i64 pkd, .slice Ap np cp, .int .i64 plo, .int .i64 phi, .int .i64 pva, .int .i64 pun] 40) = W0
  have HS0_0 : Hid (Str W0 (w.heap.size) #[.int .i64 1, .string puk, .int .i64 2, .string pk, .int .i64 pkd, .slice Ap np cp, .int .i64 plo, .int .i64 phi, .int .i64 pva, .int .i64 pun]) := Lib.hid (by rw [← hW0]; have := Str.new (w) #[.int .i64 1, .string puk, .int .i64 2, .string pk, .int .i64 pkd, .slice Ap np cp, .int .i64 plo, .int .i64 phi, .int .i64 pva, .int .i64 pun] 40; simpa using this)
  have HB_0 : Hid (Below w.heap.size w W0) := Lib.hid (by rw [← hW0]; exact balloc (bsame w) _)
  have hw_0 := HB_0.out.size
  clear hW0
  obtain ⟨f0_0_0, f0_0_1, f0_0_2, f0_0_3, f0_0_4, f0_0_5, f0_0_6, f0_0_7, f0_0_8, f0_0_9⟩ := str10 HS0_0.out
  have hl0_0 := HS0_0.out.lt
  refine (Key.right_any puk _ huk).mono ?_
  rintro e W0_ ⟨rfl, rfl⟩
  cases hkr : KeyP.right puk.data.toList
  case false =>
    have HE : Hid (UndoP.right ⟨1, puk, ⟨2, pk, ⟨pkd, pda, plo, phi, pva⟩⟩, pun⟩ = false) := Lib.hid (by simp [UndoP.right, hkr])
    go_wp2_with fail
    go_ret
    exact ⟨by rw [HE.out]; rfl, HB_0.out⟩
  case true =>
    go_wp2_with fail
    refine (SlotW.right_any Ap np cp Bp ⟨2, pk, ⟨pkd, pda, plo, phi, pva⟩⟩ _ (Hp.out.below (HB_0.out.mono hBp)) (by omega) hpk).mono ?_
    rintro e W1 ⟨rfl, hb1⟩
    have HS0_1 := Lib.hid (HS0_0.out.next hb1)
    have HB_1 := Lib.hid (bstep HB_0.out hb1)
    have hw_1 := HB_1.out.size
    have hws_1 := (hb1).size
    clear f0_0_0 f0_0_1 f0_0_2 f0_0_3 f0_0_4 f0_0_5 f0_0_6 f0_0_7 f0_0_8 f0_0_9 HS0_0
    clear hb1
    obtain ⟨f0_1_0, f0_1_1, f0_1_2, f0_1_3, f0_1_4, f0_1_5, f0_1_6, f0_1_7, f0_1_8, f0_1_9⟩ := str10 HS0_1.out
    have hl0_1 := HS0_1.out.lt
    cases hsr : SlotP.right ⟨2, pk, ⟨pkd, pda, plo, phi, pva⟩⟩
    case false =>
      have HE : Hid (UndoP.right ⟨1, puk, ⟨2, pk, ⟨pkd, pda, plo, phi, pva⟩⟩, pun⟩ = false) := Lib.hid (by simp [UndoP.right, hkr, hsr])
      go_wp2_with fail
      go_ret
      exact ⟨by rw [HE.out]; rfl, HB_1.out⟩
    case true =>
      by_cases hk : pk = puk
      case neg =>
        replace hk := key_ne hk
        have HE : Hid (UndoP.right ⟨1, puk, ⟨2, pk, ⟨pkd, pda, plo, phi, pva⟩⟩, pun⟩ = false) := Lib.hid (by simp [UndoP.right, hkr, hsr, hk])
        go_wp2_with fail
        go_ret
        exact ⟨by rw [HE.out]; rfl, HB_1.out⟩
      by_cases hn : pun = 0
      case neg =>
        subst hk
        replace hn : (pun == 0) = false := by simpa using hn
        have HE : Hid (UndoP.right ⟨1, pk, ⟨2, pk, ⟨pkd, pda, plo, phi, pva⟩⟩, pun⟩ = false) := Lib.hid (by simp [UndoP.right, hkr, hsr, hn])
        go_wp2_with fail
        go_ret
        exact ⟨by rw [HE.out]; rfl, HB_1.out⟩
      subst hk
      subst hn
      have HE : Hid (UndoP.right ⟨1, pk, ⟨2, pk, ⟨pkd, pda, plo, phi, pva⟩⟩, 0⟩ = true) := Lib.hid (by simp [UndoP.right, hkr, hsr])
      go_wp2_with fail
      go_ret
      exact ⟨by rw [HE.out]; rfl, HB_1.out⟩

set_option maxRecDepth 100000 in
set_option maxHeartbeats 1000000 in
theorem right1n (puk : ByteArray) (Ap : Option Addr) (np cp Bp : Nat) (pst : Int) (pk : ByteArray) (pkd : Int) (pda : List UInt8) (plo phi pva : Int) (pun : Int) (w : World) (hp : Bytes w Bp Ap np cp pda) (hBp : Bp ≤ w.heap.size) (hpk : pk.size ≤ maxLen) (huk : puk.size ≤ maxLen) (hs1 : ¬ pst = 1) (hs2 : ¬ pst = 2) : Calls Tryz.prog 53 #[.agg #[.int .i64 1, .string puk, .int .i64 pst, .string pk, .int .i64 pkd, .slice Ap np cp, .int .i64 plo, .int .i64 phi, .int .i64 pva, .int .i64 pun]] w fun e w' => e = .returned (.bool (UndoP.right ⟨1, puk, ⟨pst, pk, ⟨pkd, pda, plo, phi, pva⟩⟩, pun⟩)) ∧ Below w.heap.size w w' := by
  have Hp := Lib.hid hp
  clear hp
  go_enter Tryz.func53, Tryz.ntmps53
  go_wp2_with fail
  generalize hW0 : (w).alloc (.cells #[.int .i64 1, .string puk, .int .i64 pst, .string pk, .int .i64 pkd, .slice Ap np cp, .int .i64 plo, .int .i64 phi, .int .i64 pva, .int .i64 pun] 40) = W0
  have HS0_0 : Hid (Str W0 (w.heap.size) #[.int .i64 1, .string puk, .int .i64 pst, .string pk, .int .i64 pkd, .slice Ap np cp, .int .i64 plo, .int .i64 phi, .int .i64 pva, .int .i64 pun]) := Lib.hid (by rw [← hW0]; have := Str.new (w) #[.int .i64 1, .string puk, .int .i64 pst, .string pk, .int .i64 pkd, .slice Ap np cp, .int .i64 plo, .int .i64 phi, .int .i64 pva, .int .i64 pun] 40; simpa using this)
  have HB_0 : Hid (Below w.heap.size w W0) := Lib.hid (by rw [← hW0]; exact balloc (bsame w) _)
  have hw_0 := HB_0.out.size
  clear hW0
  obtain ⟨f0_0_0, f0_0_1, f0_0_2, f0_0_3, f0_0_4, f0_0_5, f0_0_6, f0_0_7, f0_0_8, f0_0_9⟩ := str10 HS0_0.out
  have hl0_0 := HS0_0.out.lt
  refine (Key.right_any puk _ huk).mono ?_
  rintro e W0_ ⟨rfl, rfl⟩
  cases hkr : KeyP.right puk.data.toList
  case false =>
    have HE : Hid (UndoP.right ⟨1, puk, ⟨pst, pk, ⟨pkd, pda, plo, phi, pva⟩⟩, pun⟩ = false) := Lib.hid (by simp [UndoP.right, hkr])
    go_wp2_with fail
    go_ret
    exact ⟨by rw [HE.out]; rfl, HB_0.out⟩
  case true =>
    by_cases hs0 : pst = 0
    case pos =>
      have HE : Hid (UndoP.right ⟨1, puk, ⟨pst, pk, ⟨pkd, pda, plo, phi, pva⟩⟩, pun⟩ = false) := Lib.hid (by simp [UndoP.right, hkr, hs0])
      go_wp2_with fail
      go_ret
      exact ⟨by rw [HE.out]; rfl, HB_0.out⟩
    go_wp2_with fail
    refine (SlotW.right_any Ap np cp Bp ⟨pst, pk, ⟨pkd, pda, plo, phi, pva⟩⟩ _ (Hp.out.below (HB_0.out.mono hBp)) (by omega) hpk).mono ?_
    rintro e W1 ⟨rfl, hb1⟩
    have HS0_1 := Lib.hid (HS0_0.out.next hb1)
    have HB_1 := Lib.hid (bstep HB_0.out hb1)
    have hw_1 := HB_1.out.size
    have hws_1 := (hb1).size
    clear f0_0_0 f0_0_1 f0_0_2 f0_0_3 f0_0_4 f0_0_5 f0_0_6 f0_0_7 f0_0_8 f0_0_9 HS0_0
    clear hb1
    obtain ⟨f0_1_0, f0_1_1, f0_1_2, f0_1_3, f0_1_4, f0_1_5, f0_1_6, f0_1_7, f0_1_8, f0_1_9⟩ := str10 HS0_1.out
    have hl0_1 := HS0_1.out.lt
    have hsr : SlotP.right ⟨pst, pk, ⟨pkd, pda, plo, phi, pva⟩⟩ = false := by
      cases hr : SlotP.right ⟨pst, pk, ⟨pkd, pda, plo, phi, pva⟩⟩ with
      | false => rfl
      | true =>
        have := UndoP.slot_right_state _ hr hs0
        simp [hs1, hs2] at this
    rw [hsr]
    have HE : Hid (UndoP.right ⟨1, puk, ⟨pst, pk, ⟨pkd, pda, plo, phi, pva⟩⟩, pun⟩ = false) := Lib.hid (by simp [UndoP.right, hkr, hs1, hs2])
    go_wp2_with fail
    go_ret
    exact ⟨by rw [HE.out]; rfl, HB_1.out⟩

set_option maxRecDepth 100000 in
set_option maxHeartbeats 1000000 in
theorem right2 (puk : ByteArray) (Ap : Option Addr) (np cp Bp : Nat) (pst : Int) (pk : ByteArray) (pkd : Int) (pda : List UInt8) (plo phi pva : Int) (pun : Int) (w : World) (hp : Bytes w Bp Ap np cp pda) (hBp : Bp ≤ w.heap.size) (hpk : pk.size ≤ maxLen) (huk : puk.size ≤ maxLen)  : Calls Tryz.prog 53 #[.agg #[.int .i64 2, .string puk, .int .i64 pst, .string pk, .int .i64 pkd, .slice Ap np cp, .int .i64 plo, .int .i64 phi, .int .i64 pva, .int .i64 pun]] w fun e w' => e = .returned (.bool (UndoP.right ⟨2, puk, ⟨pst, pk, ⟨pkd, pda, plo, phi, pva⟩⟩, pun⟩)) ∧ Below w.heap.size w w' := by
  have Hp := Lib.hid hp
  clear hp
  go_enter Tryz.func53, Tryz.ntmps53
  go_wp2_with fail
  generalize hW0 : (w).alloc (.cells #[.int .i64 2, .string puk, .int .i64 pst, .string pk, .int .i64 pkd, .slice Ap np cp, .int .i64 plo, .int .i64 phi, .int .i64 pva, .int .i64 pun] 40) = W0
  have HS0_0 : Hid (Str W0 (w.heap.size) #[.int .i64 2, .string puk, .int .i64 pst, .string pk, .int .i64 pkd, .slice Ap np cp, .int .i64 plo, .int .i64 phi, .int .i64 pva, .int .i64 pun]) := Lib.hid (by rw [← hW0]; have := Str.new (w) #[.int .i64 2, .string puk, .int .i64 pst, .string pk, .int .i64 pkd, .slice Ap np cp, .int .i64 plo, .int .i64 phi, .int .i64 pva, .int .i64 pun] 40; simpa using this)
  have HB_0 : Hid (Below w.heap.size w W0) := Lib.hid (by rw [← hW0]; exact balloc (bsame w) _)
  have hw_0 := HB_0.out.size
  clear hW0
  obtain ⟨f0_0_0, f0_0_1, f0_0_2, f0_0_3, f0_0_4, f0_0_5, f0_0_6, f0_0_7, f0_0_8, f0_0_9⟩ := str10 HS0_0.out
  have hl0_0 := HS0_0.out.lt
  refine (Key.right_any puk _ huk).mono ?_
  rintro e W0_ ⟨rfl, rfl⟩
  cases hkr : KeyP.right puk.data.toList
  case false =>
    have HE : Hid (UndoP.right ⟨2, puk, ⟨pst, pk, ⟨pkd, pda, plo, phi, pva⟩⟩, pun⟩ = false) := Lib.hid (by simp [UndoP.right, hkr])
    go_wp2_with fail
    go_ret
    exact ⟨by rw [HE.out]; rfl, HB_0.out⟩
  case true =>

    by_cases hn : pun < 0
    case pos =>
      have hn' : ¬ 0 ≤ pun := by omega
      have HE : Hid (UndoP.right ⟨2, puk, ⟨pst, pk, ⟨pkd, pda, plo, phi, pva⟩⟩, pun⟩ = false) := Lib.hid (by simp [UndoP.right, hkr, hn'])
      go_wp2_with fail
      go_ret
      exact ⟨by rw [HE.out]; rfl, HB_0.out⟩
    have hn' : 0 ≤ pun := by omega
    go_wp2_with fail
    refine (SlotW.refSame_any Ap none np cp 0 0 Bp 0 ⟨pst, pk, ⟨pkd, pda, plo, phi, pva⟩⟩ ⟨0, ⟨#[]⟩, ⟨0, [], 0, 0, 0⟩⟩ _ (Hp.out.below (HB_0.out.mono hBp)) (Bytes.none_ _ _) (by omega) (by omega)).mono ?_
    rintro e W1 ⟨rfl, hb1⟩
    have HS0_1 := Lib.hid (HS0_0.out.next hb1)
    have HB_1 := Lib.hid (bstep HB_0.out hb1)
    have hw_1 := HB_1.out.size
    have hws_1 := (hb1).size
    clear f0_0_0 f0_0_1 f0_0_2 f0_0_3 f0_0_4 f0_0_5 f0_0_6 f0_0_7 f0_0_8 f0_0_9 HS0_0
    clear hb1
    obtain ⟨f0_1_0, f0_1_1, f0_1_2, f0_1_3, f0_1_4, f0_1_5, f0_1_6, f0_1_7, f0_1_8, f0_1_9⟩ := str10 HS0_1.out
    have hl0_1 := HS0_1.out.lt
    have HE : Hid (UndoP.right ⟨2, puk, ⟨pst, pk, ⟨pkd, pda, plo, phi, pva⟩⟩, pun⟩ = SlotP.same ⟨pst, pk, ⟨pkd, pda, plo, phi, pva⟩⟩ ⟨0, ⟨#[]⟩, ⟨0, [], 0, 0, 0⟩⟩) := Lib.hid (by simp [UndoP.right, hkr, hn']; rfl)
    generalize SlotP.same ⟨pst, pk, ⟨pkd, pda, plo, phi, pva⟩⟩ ⟨0, ⟨#[]⟩, ⟨0, [], 0, 0, 0⟩⟩ = r at HE ⊢
    go_wp2_with fail
    go_ret
    exact ⟨by rw [HE.out]; rfl, HB_1.out⟩

set_option maxRecDepth 100000 in
set_option maxHeartbeats 1000000 in
theorem right3 (puk : ByteArray) (Ap : Option Addr) (np cp Bp : Nat) (pst : Int) (pk : ByteArray) (pkd : Int) (pda : List UInt8) (plo phi pva : Int) (pun : Int) (w : World) (hp : Bytes w Bp Ap np cp pda) (hBp : Bp ≤ w.heap.size) (hpk : pk.size ≤ maxLen) (huk : puk.size ≤ maxLen)  : Calls Tryz.prog 53 #[.agg #[.int .i64 3, .string puk, .int .i64 pst, .string pk, .int .i64 pkd, .slice Ap np cp, .int .i64 plo, .int .i64 phi, .int .i64 pva, .int .i64 pun]] w fun e w' => e = .returned (.bool (UndoP.right ⟨3, puk, ⟨pst, pk, ⟨pkd, pda, plo, phi, pva⟩⟩, pun⟩)) ∧ Below w.heap.size w w' := by
  have Hp := Lib.hid hp
  clear hp
  go_enter Tryz.func53, Tryz.ntmps53
  go_wp2_with fail
  generalize hW0 : (w).alloc (.cells #[.int .i64 3, .string puk, .int .i64 pst, .string pk, .int .i64 pkd, .slice Ap np cp, .int .i64 plo, .int .i64 phi, .int .i64 pva, .int .i64 pun] 40) = W0
  have HS0_0 : Hid (Str W0 (w.heap.size) #[.int .i64 3, .string puk, .int .i64 pst, .string pk, .int .i64 pkd, .slice Ap np cp, .int .i64 plo, .int .i64 phi, .int .i64 pva, .int .i64 pun]) := Lib.hid (by rw [← hW0]; have := Str.new (w) #[.int .i64 3, .string puk, .int .i64 pst, .string pk, .int .i64 pkd, .slice Ap np cp, .int .i64 plo, .int .i64 phi, .int .i64 pva, .int .i64 pun] 40; simpa using this)
  have HB_0 : Hid (Below w.heap.size w W0) := Lib.hid (by rw [← hW0]; exact balloc (bsame w) _)
  have hw_0 := HB_0.out.size
  clear hW0
  obtain ⟨f0_0_0, f0_0_1, f0_0_2, f0_0_3, f0_0_4, f0_0_5, f0_0_6, f0_0_7, f0_0_8, f0_0_9⟩ := str10 HS0_0.out
  have hl0_0 := HS0_0.out.lt
  refine (Key.right_any puk _ huk).mono ?_
  rintro e W0_ ⟨rfl, rfl⟩
  cases hkr : KeyP.right puk.data.toList
  case false =>
    have HE : Hid (UndoP.right ⟨3, puk, ⟨pst, pk, ⟨pkd, pda, plo, phi, pva⟩⟩, pun⟩ = false) := Lib.hid (by simp [UndoP.right, hkr])
    go_wp2_with fail
    go_ret
    exact ⟨by rw [HE.out]; rfl, HB_0.out⟩
  case true =>

    by_cases hn : pun < 0
    case pos =>
      have hn' : ¬ 0 ≤ pun := by omega
      have HE : Hid (UndoP.right ⟨3, puk, ⟨pst, pk, ⟨pkd, pda, plo, phi, pva⟩⟩, pun⟩ = false) := Lib.hid (by simp [UndoP.right, hkr, hn'])
      go_wp2_with fail
      go_ret
      exact ⟨by rw [HE.out]; rfl, HB_0.out⟩
    have hn' : 0 ≤ pun := by omega
    go_wp2_with fail
    refine (SlotW.refSame_any Ap none np cp 0 0 Bp 0 ⟨pst, pk, ⟨pkd, pda, plo, phi, pva⟩⟩ ⟨0, ⟨#[]⟩, ⟨0, [], 0, 0, 0⟩⟩ _ (Hp.out.below (HB_0.out.mono hBp)) (Bytes.none_ _ _) (by omega) (by omega)).mono ?_
    rintro e W1 ⟨rfl, hb1⟩
    have HS0_1 := Lib.hid (HS0_0.out.next hb1)
    have HB_1 := Lib.hid (bstep HB_0.out hb1)
    have hw_1 := HB_1.out.size
    have hws_1 := (hb1).size
    clear f0_0_0 f0_0_1 f0_0_2 f0_0_3 f0_0_4 f0_0_5 f0_0_6 f0_0_7 f0_0_8 f0_0_9 HS0_0
    clear hb1
    obtain ⟨f0_1_0, f0_1_1, f0_1_2, f0_1_3, f0_1_4, f0_1_5, f0_1_6, f0_1_7, f0_1_8, f0_1_9⟩ := str10 HS0_1.out
    have hl0_1 := HS0_1.out.lt
    have HE : Hid (UndoP.right ⟨3, puk, ⟨pst, pk, ⟨pkd, pda, plo, phi, pva⟩⟩, pun⟩ = SlotP.same ⟨pst, pk, ⟨pkd, pda, plo, phi, pva⟩⟩ ⟨0, ⟨#[]⟩, ⟨0, [], 0, 0, 0⟩⟩) := Lib.hid (by simp [UndoP.right, hkr, hn']; rfl)
    generalize SlotP.same ⟨pst, pk, ⟨pkd, pda, plo, phi, pva⟩⟩ ⟨0, ⟨#[]⟩, ⟨0, [], 0, 0, 0⟩⟩ = r at HE ⊢
    go_wp2_with fail
    go_ret
    exact ⟨by rw [HE.out]; rfl, HB_1.out⟩

set_option maxRecDepth 100000 in
set_option maxHeartbeats 1000000 in
theorem rightN (pact : Int) (puk : ByteArray) (Ap : Option Addr) (np cp Bp : Nat) (pst : Int) (pk : ByteArray) (pkd : Int) (pda : List UInt8) (plo phi pva : Int) (pun : Int) (w : World) (hp : Bytes w Bp Ap np cp pda) (hBp : Bp ≤ w.heap.size) (hpk : pk.size ≤ maxLen) (huk : puk.size ≤ maxLen) (h0 : ¬ pact = 0) (h1 : ¬ pact = 1) (h2 : ¬ pact = 2) (h3 : ¬ pact = 3) : Calls Tryz.prog 53 #[.agg #[.int .i64 pact, .string puk, .int .i64 pst, .string pk, .int .i64 pkd, .slice Ap np cp, .int .i64 plo, .int .i64 phi, .int .i64 pva, .int .i64 pun]] w fun e w' => e = .returned (.bool (UndoP.right ⟨pact, puk, ⟨pst, pk, ⟨pkd, pda, plo, phi, pva⟩⟩, pun⟩)) ∧ Below w.heap.size w w' := by
  have HE : Hid (UndoP.right ⟨pact, puk, ⟨pst, pk, ⟨pkd, pda, plo, phi, pva⟩⟩, pun⟩ = false) := Lib.hid (by simp [UndoP.right, h0, h1, h2, h3])
  rw [HE.out]
  by_cases hlt : pact < 0
  · go_enter Tryz.func53, Tryz.ntmps53
    go_wp2
    go_ret
    exact ⟨rfl, balloc (bsame w) _⟩
  · have hgt : 3 < pact := by omega
    go_enter Tryz.func53, Tryz.ntmps53
    go_wp2
    go_ret
    exact ⟨rfl, balloc (bsame w) _⟩

set_option maxRecDepth 100000 in
set_option maxHeartbeats 1000000 in
theorem right_any (pact : Int) (puk : ByteArray) (Ap : Option Addr) (np cp Bp : Nat) (pst : Int) (pk : ByteArray) (pkd : Int) (pda : List UInt8) (plo phi pva : Int) (pun : Int) (w : World) (hp : Bytes w Bp Ap np cp pda) (hBp : Bp ≤ w.heap.size) (hpk : pk.size ≤ maxLen) (huk : puk.size ≤ maxLen) : Calls Tryz.prog 53 #[.agg #[.int .i64 pact, .string puk, .int .i64 pst, .string pk, .int .i64 pkd, .slice Ap np cp, .int .i64 plo, .int .i64 phi, .int .i64 pva, .int .i64 pun]] w fun e w' => e = .returned (.bool (UndoP.right ⟨pact, puk, ⟨pst, pk, ⟨pkd, pda, plo, phi, pva⟩⟩, pun⟩)) ∧ Below w.heap.size w w' := by
  by_cases h0 : pact = 0
  · subst h0
    exact right0 puk Ap np cp Bp pst pk pkd pda plo phi pva pun w hp hBp hpk huk
  by_cases h1 : pact = 1
  · subst h1
    by_cases hs1 : pst = 1
    · subst hs1
      exact right1_1 puk Ap np cp Bp pk pkd pda plo phi pva pun w hp hBp hpk huk
    by_cases hs2 : pst = 2
    · subst hs2
      exact right1_2 puk Ap np cp Bp pk pkd pda plo phi pva pun w hp hBp hpk huk
    exact right1n puk Ap np cp Bp pst pk pkd pda plo phi pva pun w hp hBp hpk huk hs1 hs2
  by_cases h2 : pact = 2
  · subst h2
    exact right2 puk Ap np cp Bp pst pk pkd pda plo phi pva pun w hp hBp hpk huk
  by_cases h3 : pact = 3
  · subst h3
    exact right3 puk Ap np cp Bp pst pk pkd pda plo phi pva pun w hp hBp hpk huk
  exact rightN pact puk Ap np cp Bp pst pk pkd pda plo phi pva pun w hp hBp hpk huk h0 h1 h2 h3
end Go.Proofs.YtpklclnehlgcpaaGreat.UndoW
end
section
namespace Go.Proofs.YtpklclnehlgcpaaGreat.RecW
open Go.RowKit
set_option linter.unusedVariables false
set_option linter.unusedSimpArgs false
theorem str15 {w : World} {b : Nat} {c0 c1 c2 c3 c4 c5 c6 c7 c8 c9 d0 d1 d2 d3 d4 : Value} (h : Str w b #[c0, c1, c2, c3, c4, c5, c6, c7, c8, c9, d0, d1, d2, d3, d4]) :
    w.cell? ⟨b, 0, none⟩ = some c0 ∧ w.cell? ⟨b, 1, none⟩ = some c1 ∧ w.cell? ⟨b, 2, none⟩ = some c2 ∧ w.cell? ⟨b, 3, none⟩ = some c3 ∧ w.cell? ⟨b, 4, none⟩ = some c4 ∧ w.cell? ⟨b, 5, none⟩ = some c5 ∧ w.cell? ⟨b, 6, none⟩ = some c6 ∧ w.cell? ⟨b, 7, none⟩ = some c7 ∧ w.cell? ⟨b, 8, none⟩ = some c8 ∧ w.cell? ⟨b, 9, none⟩ = some c9 ∧ w.cell? ⟨b, 10, none⟩ = some d0 ∧ w.cell? ⟨b, 11, none⟩ = some d1 ∧ w.cell? ⟨b, 12, none⟩ = some d2 ∧ w.cell? ⟨b, 13, none⟩ = some d3 ∧ w.cell? ⟨b, 14, none⟩ = some d4 :=
  ⟨h.cell 0, h.cell 1, h.cell 2, h.cell 3, h.cell 4, h.cell 5, h.cell 6, h.cell 7, h.cell 8, h.cell 9, h.cell 10, h.cell 11, h.cell 12, h.cell 13, h.cell 14⟩
end Go.Proofs.YtpklclnehlgcpaaGreat.RecW
namespace Go.Proofs.YtpklclnehlgcpaaGreat.RefRec
open Go.RowKit RecW
set_option linter.unusedVariables false
set_option linter.unusedSimpArgs false
set_option maxRecDepth 100000 in
set_option maxHeartbeats 4000000 in
theorem right_any (kd tx pv nx : Int) (A : Option Addr) (n c B : Nat) (l : List PatchX) (pact : Int) (puk : ByteArray) (Ap : Option Addr) (np cp Bp : Nat) (pst : Int) (pk : ByteArray) (pkd : Int) (pda : List UInt8) (plo phi pva : Int) (pun : Int) (w : World) (hE : Elems PatchE w B A n c l) (hB : B ≤ w.heap.size) (hp : Bytes w Bp Ap np cp pda) (hBp : Bp ≤ w.heap.size) (hpk : pk.size ≤ maxLen) (hpuk : puk.size ≤ maxLen) :
    Calls Tryz.prog 32 #[.agg #[.int .i64 kd, .int .i64 tx, .int .i64 pv, .int .i64 nx, .slice A n c, .int .i64 pact, .string puk, .int .i64 pst, .string pk, .int .i64 pkd, .slice Ap np cp, .int .i64 plo, .int .i64 phi, .int .i64 pva, .int .i64 pun]] w fun e w' => e = .returned (.bool (RecP.right ⟨kd, tx, pv, nx, l, ⟨pact, puk, ⟨pst, pk, ⟨pkd, pda, plo, phi, pva⟩⟩, pun⟩⟩)) ∧ Below w.heap.size w w' := by
  have HE := Lib.hid hE
  have HP := Lib.hid hp
  have hlen := hE.len
  have hcap := hE.cap
  have hcm := hcap.2
  unfold maxLen at hcm
  have HPK := Lib.hid (And.intro hpk hpuk)
  have HLEN := Lib.hid hlen
  clear hE hp hpk hpuk
  obtain ⟨W0, hW0⟩ : ∃ W, w.alloc (.cells #[.int .i64 kd, .int .i64 tx, .int .i64 pv, .int .i64 nx, .slice A n c, .int .i64 pact, .string puk, .int .i64 pst, .string pk, .int .i64 pkd, .slice Ap np cp, .int .i64 plo, .int .i64 phi, .int .i64 pva, .int .i64 pun] 42) = W := ⟨_, rfl⟩
  obtain ⟨HS0, HB0, hw0, hz0⟩ := new1 hW0
  have g0 := str15 HS0.out
  have hl0 := HS0.out.lt
  clear hz0
  by_cases c0 : kd < 1
  · have d0 : decide (kd < 1) = true := by simp; omega
    have HR := Lib.hid (RecP.right_no ⟨kd, tx, pv, nx, l, ⟨pact, puk, ⟨pst, pk, ⟨pkd, pda, plo, phi, pva⟩⟩, pun⟩⟩ (fun h => by obtain ⟨⟨⟨h1, h2⟩, h3, h4, h5⟩, -⟩ := h; unfold RecP.May at h3 h4 h5; dsimp only at h1 h2 h3 h4 h5; omega))
    go_enter Tryz.func32, Tryz.ntmps32
    go_wp2
    go_ret
    exact ⟨by rw [HR.out]; rfl, HB0.out⟩
  have d0 : decide (kd < 1) = false := by simp; omega
  by_cases c1 : 4 < kd
  · have d1 : decide (4 < kd) = true := by simp; omega
    have HR := Lib.hid (RecP.right_no ⟨kd, tx, pv, nx, l, ⟨pact, puk, ⟨pst, pk, ⟨pkd, pda, plo, phi, pva⟩⟩, pun⟩⟩ (fun h => by obtain ⟨⟨⟨h1, h2⟩, h3, h4, h5⟩, -⟩ := h; unfold RecP.May at h3 h4 h5; dsimp only at h1 h2 h3 h4 h5; omega))
    go_enter Tryz.func32, Tryz.ntmps32
    go_wp2
    go_ret
    exact ⟨by rw [HR.out]; rfl, HB0.out⟩
  have d1 : decide (4 < kd) = false := by simp; omega
  by_cases c2 : tx < 1
  · have d2 : decide (tx < 1) = true := by simp; omega
    have HR := Lib.hid (RecP.right_no ⟨kd, tx, pv, nx, l, ⟨pact, puk, ⟨pst, pk, ⟨pkd, pda, plo, phi, pva⟩⟩, pun⟩⟩ (fun h => by obtain ⟨⟨⟨h1, h2⟩, h3, h4, h5⟩, -⟩ := h; unfold RecP.May at h3 h4 h5; dsimp only at h1 h2 h3 h4 h5; omega))
    go_enter Tryz.func32, Tryz.ntmps32
    go_wp2
    go_ret
    exact ⟨by rw [HR.out]; rfl, HB0.out⟩
  have d2 : decide (tx < 1) = false := by simp; omega
  by_cases c3 : 281474976710656 < tx
  · have d3 : decide (281474976710656 < tx) = true := by simp; omega
    have HR := Lib.hid (RecP.right_no ⟨kd, tx, pv, nx, l, ⟨pact, puk, ⟨pst, pk, ⟨pkd, pda, plo, phi, pva⟩⟩, pun⟩⟩ (fun h => by obtain ⟨⟨⟨h1, h2⟩, h3, h4, h5⟩, -⟩ := h; unfold RecP.May at h3 h4 h5; dsimp only at h1 h2 h3 h4 h5; omega))
    go_enter Tryz.func32, Tryz.ntmps32
    go_wp2
    go_ret
    exact ⟨by rw [HR.out]; rfl, HB0.out⟩
  have d3 : decide (281474976710656 < tx) = false := by simp; omega
  by_cases c4 : pv < 0
  · have d4 : decide (pv < 0) = true := by simp; omega
    have HR := Lib.hid (RecP.right_no ⟨kd, tx, pv, nx, l, ⟨pact, puk, ⟨pst, pk, ⟨pkd, pda, plo, phi, pva⟩⟩, pun⟩⟩ (fun h => by obtain ⟨⟨⟨h1, h2⟩, h3, h4, h5⟩, -⟩ := h; unfold RecP.May at h3 h4 h5; dsimp only at h1 h2 h3 h4 h5; omega))
    go_enter Tryz.func32, Tryz.ntmps32
    go_wp2
    go_ret
    exact ⟨by rw [HR.out]; rfl, HB0.out⟩
  have d4 : decide (pv < 0) = false := by simp; omega
  by_cases c5 : 281474976710656 < pv
  · have d5 : decide (281474976710656 < pv) = true := by simp; omega
    have HR := Lib.hid (RecP.right_no ⟨kd, tx, pv, nx, l, ⟨pact, puk, ⟨pst, pk, ⟨pkd, pda, plo, phi, pva⟩⟩, pun⟩⟩ (fun h => by obtain ⟨⟨⟨h1, h2⟩, h3, h4, h5⟩, -⟩ := h; unfold RecP.May at h3 h4 h5; dsimp only at h1 h2 h3 h4 h5; omega))
    go_enter Tryz.func32, Tryz.ntmps32
    go_wp2
    go_ret
    exact ⟨by rw [HR.out]; rfl, HB0.out⟩
  have d5 : decide (281474976710656 < pv) = false := by simp; omega
  by_cases c6 : nx < 0
  · have d6 : decide (nx < 0) = true := by simp; omega
    have HR := Lib.hid (RecP.right_no ⟨kd, tx, pv, nx, l, ⟨pact, puk, ⟨pst, pk, ⟨pkd, pda, plo, phi, pva⟩⟩, pun⟩⟩ (fun h => by obtain ⟨⟨⟨h1, h2⟩, h3, h4, h5⟩, -⟩ := h; unfold RecP.May at h3 h4 h5; dsimp only at h1 h2 h3 h4 h5; omega))
    go_enter Tryz.func32, Tryz.ntmps32
    go_wp2
    go_ret
    exact ⟨by rw [HR.out]; rfl, HB0.out⟩
  have d6 : decide (nx < 0) = false := by simp; omega
  by_cases c7 : 281474976710656 < nx
  · have d7 : decide (281474976710656 < nx) = true := by simp; omega
    have HR := Lib.hid (RecP.right_no ⟨kd, tx, pv, nx, l, ⟨pact, puk, ⟨pst, pk, ⟨pkd, pda, plo, phi, pva⟩⟩, pun⟩⟩ (fun h => by obtain ⟨⟨⟨h1, h2⟩, h3, h4, h5⟩, -⟩ := h; unfold RecP.May at h3 h4 h5; dsimp only at h1 h2 h3 h4 h5; omega))
    go_enter Tryz.func32, Tryz.ntmps32
    go_wp2
    go_ret
    exact ⟨by rw [HR.out]; rfl, HB0.out⟩
  have d7 : decide (281474976710656 < nx) = false := by simp; omega
  by_cases c8 : 4 < n
  · have d8 : decide (4 < (n : Int)) = true := by simp; omega
    have HR := Lib.hid (RecP.right_no ⟨kd, tx, pv, nx, l, ⟨pact, puk, ⟨pst, pk, ⟨pkd, pda, plo, phi, pva⟩⟩, pun⟩⟩ (fun h => by have := h.2.1; dsimp only at this; omega))
    go_enter Tryz.func32, Tryz.ntmps32
    go_wp2
    go_ret
    exact ⟨by rw [HR.out]; rfl, HB0.out⟩
  have d8 : decide (4 < (n : Int)) = false := by simp; omega
  cases hu : UndoP.right ⟨pact, puk, ⟨pst, pk, ⟨pkd, pda, plo, phi, pva⟩⟩, pun⟩ with
  | false =>
    have HR := Lib.hid (RecP.right_no ⟨kd, tx, pv, nx, l, ⟨pact, puk, ⟨pst, pk, ⟨pkd, pda, plo, phi, pva⟩⟩, pun⟩⟩ (fun h => by have := h.2.2.1; dsimp only at this; rw [hu] at this; cases this))
    go_enter Tryz.func32, Tryz.ntmps32
    go_wp2_with fail
    refine (UndoW.right_any pact puk Ap np cp Bp pst pk pkd pda plo phi pva pun W0 (HP.out.below (HB0.out.mono hBp)) (by omega) HPK.out.1 HPK.out.2).mono ?_
    rintro e W1 ⟨rfl, hb1⟩
    have HS1 := Lib.hid (HS0.out.next hb1)
    have HB1 := Lib.hid (bstep HB0.out hb1)
    clear hb1 g0 hl0 HS0 HB0
    have g0 := str15 HS1.out
    have hl0 := HS1.out.lt
    have hw1 := HB1.out.size
    rw [hu]
    clear hu
    go_wp2
    go_ret
    exact ⟨by rw [HR.out]; rfl, HB1.out⟩
  | true =>
    have HU := Lib.hid hu
    go_enter Tryz.func32, Tryz.ntmps32
    go_wp2_with fail
    refine (UndoW.right_any pact puk Ap np cp Bp pst pk pkd pda plo phi pva pun W0 (HP.out.below (HB0.out.mono hBp)) (by omega) HPK.out.1 HPK.out.2).mono ?_
    rintro e W1 ⟨rfl, hb1⟩
    have HS1 := Lib.hid (HS0.out.next hb1)
    have HB1 := Lib.hid (bstep HB0.out hb1)
    clear hb1 g0 hl0 HS0 HB0
    have g0 := str15 HS1.out
    have hl0 := HS1.out.lt
    have hw1 := HB1.out.size
    rw [hu]
    clear hu
    go_wp2
    go_loopw [3] (fun iv wr => ∃ k : Nat, k ≤ n ∧ iv = .int .i64 (k : Int) ∧ Hid (RecP.Pats l k) ∧ Hid (Below w.heap.size w wr) ∧ Hid (Str wr w.heap.size #[.int .i64 kd, .int .i64 tx, .int .i64 pv, .int .i64 nx, .slice A n c, .int .i64 pact, .string puk, .int .i64 pst, .string pk, .int .i64 pkd, .slice Ap np cp, .int .i64 plo, .int .i64 phi, .int .i64 pva, .int .i64 pun])) (fun iv _ => n - (intOf iv).toNat)
    case atStart => exact ⟨0, Nat.zero_le _, rfl, Lib.hid (RecP.pats_zero l), HB1, HS1⟩
    case round =>
      obtain ⟨k, hk, rfl, HK, HB, HS⟩ := hrel
      clear g0 hl0 HB1 HS1 hw1
      have hwr := HB.out.size
      have g0 := str15 HS.out
      have hl0 := HS.out.lt
      by_cases hlt : k < n
      · have hd : decide ((k : Int) < (n : Int)) = true := by simp; omega
        obtain ⟨b, o, x, A2, n2, c2, rfl, hb, hx, hy, hi, q0, q1, q2⟩ := patch_at HE.out hlt
        replace q0 := (HB.out.cell (p := ⟨b, o + k * 3, none⟩) (by show b < _; omega)).trans q0
        replace q1 := (HB.out.cell (p := ⟨b, o + k * 3 + 1, none⟩) (by show b < _; omega)).trans q1
        replace q2 := (HB.out.cell (p := ⟨b, o + k * 3 + 2, none⟩) (by show b < _; omega)).trans q2
        have HX := Lib.hid hx
        have HY := Lib.hid hy
        clear hx hy
        go_wp2_with fail
        refine (RefPatch.right_any x A2 n2 c2 B wr (HY.out.below (HB.out.mono hB)) (by omega) hi).mono ?_
        rintro e W3 ⟨rfl, hb3⟩
        have HB3 := Lib.hid (bstep HB.out hb3)
        have HS3 := Lib.hid (HS.out.next hb3)
        clear hb3 HS q0 q1 q2 g0 hl0 HB
        have g0 := str15 HS3.out
        have hl0 := HS3.out.lt
        cases hpr : PatchP.right x with
        | false =>
          have HR := Lib.hid (RecP.pats_bad (x := ⟨kd, tx, pv, nx, l, ⟨pact, puk, ⟨pst, pk, ⟨pkd, pda, plo, phi, pva⟩⟩, pun⟩⟩) HX.out hpr)
          clear hpr
          go_wp2
          go_ret
          exact ⟨by rw [HR.out]; rfl, HB3.out⟩
        | true =>
          have HK2 := Lib.hid (RecP.pats_step HK.out HX.out ((PatchP.right_iff x).1 hpr))
          clear hpr
          go_wp2
          go_roundw
          case rel => exact ⟨k + 1, by omega, by go_num, HK2, HB3, HS3⟩
          case measure => simp [intOf]; omega
      · have hd : decide ((k : Int) < (n : Int)) = false := by simp; omega
        have hkn : k = n := by omega
        subst hkn
        have HGOOD : Hid (RecP.Rest ⟨kd, tx, pv, nx, l, ⟨pact, puk, ⟨pst, pk, ⟨pkd, pda, plo, phi, pva⟩⟩, pun⟩⟩ → RecP.right ⟨kd, tx, pv, nx, l, ⟨pact, puk, ⟨pst, pk, ⟨pkd, pda, plo, phi, pva⟩⟩, pun⟩⟩ = true) := Lib.hid (fun h => RecP.right_yes _ ⟨⟨⟨by show 1 ≤ kd; omega, by show kd ≤ 4; omega⟩, ⟨by show 1 ≤ tx; omega, by show tx ≤ _; omega⟩, ⟨by show 0 ≤ pv; omega, by show pv ≤ _; omega⟩, ⟨by show 0 ≤ nx; omega, by show nx ≤ _; omega⟩⟩, by show l.length ≤ 4; rw [HLEN.out]; omega, HU.out, by show RecP.Pats l l.length; rw [HLEN.out]; exact HK.out, h⟩)
        have HBAD : Hid (¬ RecP.Rest ⟨kd, tx, pv, nx, l, ⟨pact, puk, ⟨pst, pk, ⟨pkd, pda, plo, phi, pva⟩⟩, pun⟩⟩ → RecP.right ⟨kd, tx, pv, nx, l, ⟨pact, puk, ⟨pst, pk, ⟨pkd, pda, plo, phi, pva⟩⟩, pun⟩⟩ = false) := Lib.hid (fun h => RecP.right_no _ (fun hr => h hr.2.2.2.2))
        have h14 : kd = 1 ∨ kd = 2 ∨ kd = 3 ∨ kd = 4 := by omega
        clear hlt hd
        rcases h14 with rfl | rfl | rfl | rfl
        · by_cases hnx : nx = 0
          · subst hnx
            have HR := Lib.hid (HGOOD.out ⟨fun h => by rfl, fun h => by exact absurd rfl h, fun h => by (have h9 : (3 : Int) ≤ 1 := h); omega⟩)
            go_wp2
            go_ret
            exact ⟨by rw [HR.out]; rfl, HB.out⟩
          · have hd1 : (nx != 0) = true := by simpa using hnx
            have HR := Lib.hid (HBAD.out (fun h => hnx (h.1 (by show (1 : Int) ≠ 2; decide))))
            go_wp2
            go_ret
            exact ⟨by rw [HR.out]; rfl, HB.out⟩
        · by_cases ha : pact = 0
          · have hd1 : (pact != 0) = false := by simpa using ha
            have HR := Lib.hid (HGOOD.out ⟨fun h => by exact absurd rfl h, fun h => by exact ha, fun h => by (have h9 : (3 : Int) ≤ 2 := h); omega⟩)
            go_wp2
            go_ret
            exact ⟨by rw [HR.out]; rfl, HB.out⟩
          · have hd1 : (pact != 0) = true := by simpa using ha
            have HR := Lib.hid (HBAD.out (fun h => ha (h.2.1 (by show (2 : Int) ≠ 1; decide))))
            go_wp2
            go_ret
            exact ⟨by rw [HR.out]; rfl, HB.out⟩
        · by_cases hnx : nx = 0
          · subst hnx
            by_cases ha : pact = 0
            · have hd1 : (pact != 0) = false := by simpa using ha
              by_cases hn0 : k = 0
              · have hd2 : ((k : Int) == 0) = true := by simp; omega
                have HR := Lib.hid (HGOOD.out ⟨fun h => by rfl, fun h => by exact ha, fun h => by show l.length = 0; rw [HLEN.out]; exact hn0⟩)
                go_wp2
                go_ret
                exact ⟨by rw [HR.out]; rfl, HB.out⟩
              · have hd2 : ((k : Int) == 0) = false := by simp; omega
                have HR := Lib.hid (HBAD.out (fun h => hn0 (by have h5 := h.2.2 (by show (3 : Int) ≤ 3; decide); dsimp only at h5; rw [HLEN.out] at h5; exact h5)))
                go_wp2
                go_ret
                exact ⟨by rw [HR.out]; rfl, HB.out⟩
            · have hd1 : (pact != 0) = true := by simpa using ha
              have HR := Lib.hid (HBAD.out (fun h => ha (h.2.1 (by show (3 : Int) ≠ 1; decide))))
              go_wp2
              go_ret
              exact ⟨by rw [HR.out]; rfl, HB.out⟩
          · have hd1 : (nx != 0) = true := by simpa using hnx
            have HR := Lib.hid (HBAD.out (fun h => hnx (h.1 (by show (3 : Int) ≠ 2; decide))))
            go_wp2
            go_ret
            exact ⟨by rw [HR.out]; rfl, HB.out⟩
        · by_cases hnx : nx = 0
          · subst hnx
            by_cases ha : pact = 0
            · have hd1 : (pact != 0) = false := by simpa using ha
              by_cases hn0 : k = 0
              · have hd2 : ((k : Int) == 0) = true := by simp; omega
                have HR := Lib.hid (HGOOD.out ⟨fun h => by rfl, fun h => by exact ha, fun h => by show l.length = 0; rw [HLEN.out]; exact hn0⟩)
                go_wp2
                go_ret
                exact ⟨by rw [HR.out]; rfl, HB.out⟩
              · have hd2 : ((k : Int) == 0) = false := by simp; omega
                have HR := Lib.hid (HBAD.out (fun h => hn0 (by have h5 := h.2.2 (by show (3 : Int) ≤ 4; decide); dsimp only at h5; rw [HLEN.out] at h5; exact h5)))
                go_wp2
                go_ret
                exact ⟨by rw [HR.out]; rfl, HB.out⟩
            · have hd1 : (pact != 0) = true := by simpa using ha
              have HR := Lib.hid (HBAD.out (fun h => ha (h.2.1 (by show (4 : Int) ≠ 1; decide))))
              go_wp2
              go_ret
              exact ⟨by rw [HR.out]; rfl, HB.out⟩
          · have hd1 : (nx != 0) = true := by simpa using hnx
            have HR := Lib.hid (HBAD.out (fun h => hnx (h.1 (by show (4 : Int) ≠ 2; decide))))
            go_wp2
            go_ret
            exact ⟨by rw [HR.out]; rfl, HB.out⟩
end Go.Proofs.YtpklclnehlgcpaaGreat.RefRec
end
section
namespace Go.Proofs.YtpklclnehlgcpaaGreat
open Go.RowKit
set_option linter.unusedVariables false
/-- the bytes are the call's own; the box is there -/
structure BK (w wr : World) (gb : Option Nat) (A : Option Addr) (n c : Nat) (cs : Array Value) (l : List UInt8) : Prop where
  own : OwnS wr gb A n c l
  bel : Below w.heap.size w wr
  box : Str wr w.heap.size cs
  lo : ∀ b, gb = some b → w.heap.size < b
section
variable {w wr wr' : World} {gb : Option Nat} {A : Option Addr} {n c : Nat} {cs : Array Value} {l : List UInt8}
theorem BK.next (h : BK w wr gb A n c cs l) (hb : Below wr.heap.size wr wr') : BK w wr' gb A n c cs l := ⟨h.own.next hb, bstep h.bel hb, h.box.next hb, h.lo⟩
theorem BK.len (h : BK w wr gb A n c cs l) : l.length = n := h.own.len
theorem BK.app (h : BK w wr gb A n c cs l) {B m c2 : Nat} {A2 : Option Addr} {l2 : List UInt8} (h2 : Bytes wr B A2 m c2 l2) (hn : n + m ≤ 140737488355328) :
    ∃ A' c' w' gb', (appSem #[23, 23] 23 #[.slice A n c, .slice A2 m c2]).run Tryz.prog wr = .ok (.slice A' (n + m) c') w' ∧ BK w w' gb' A' (n + m) c' cs (l ++ l2) := by
  obtain ⟨A', c', w', gb', happ, hO, hg, hgb⟩ := h.own.app (P := Tryz.prog) 23 23 5 Tryz.underlying23 Be.infoU8 h2 hn
  have hlt := h.box.lt
  refine ⟨A', c', w', gb', happ, ⟨hO, ?_, h.box.grownO hg (fun e => by have := h.lo _ e; omega), fun b e => ?_⟩⟩
  · exact below_grownO h.bel hg h.bel.size (fun k e => Nat.le_of_lt (h.lo k e))
  · rcases hgb with rfl | e1
    · exact h.lo b e
    · rw [e1] at e; cases e; exact hlt
/-- bytes that a call has made, the box being there before it -/
theorem BK.of_own {w0 : World} {base : Nat} {T : TypeId} (h : wr.ownsRow base T 1 (.slice A n c) n (l.map byteV)) (hbel : Below w.heap.size w wr) (hbox : Str wr w.heap.size cs) (hb : w.heap.size < base) : ∃ gb, BK w wr gb A n c cs l := by
  obtain ⟨gb, hO, hg⟩ := OwnS.of_own h
  exact ⟨gb, hO, hbel, hbox, fun b e => Nat.lt_of_lt_of_le hb (hg b e)⟩
/-- one byte is written -/
theorem BK.set (h : BK w wr gb A n c cs l) {j : Nat} (hj : j < n) (u : UInt8) : ∃ b o, A = some ⟨b, o, none⟩ ∧ b < wr.heap.size ∧ (∃ v, wr.cell? ⟨b, o + j, none⟩ = some v) ∧ wr.frozen? ⟨b, o + j, none⟩ = false ∧ b ≠ w.heap.size ∧ BK w (wr.setCell ⟨b, o + j, none⟩ (byteV u)) gb A n c cs (l.set j u) := by
  obtain ⟨h1, h2, h3, (⟨h4, -⟩ | ⟨g, o, cur, T, e, hA, hh, hs, hc⟩)⟩ := h.own
  · omega
  · have hlo := h.lo g e
    have hg := (Array.getElem?_eq_some_iff.1 hh).1
    have hne : g ≠ w.heap.size := by omega
    have hgr : wr.grownBy (wr.setCell ⟨g, o + j, none⟩ (byteV u)) (some g) := grown_set (grown_refl wr g) (o + j) (byteV u)
    refine ⟨g, o, hA, hg, ?_, ?_, hne, ⟨⟨by simpa using h1, h2, h3, .inr ⟨g, o, cur.setIfInBounds (o + j) (byteV u), T, e, hA, ?_, by simpa using hs, ?_⟩⟩, ?_, h.box.grown hgr (fun e2 => hne e2.symm), h.lo⟩⟩
    · exact ⟨_, by rw [cell_of_row wr g (o + j) cur T (0, 0) hh]; exact Array.getElem?_eq_getElem (by omega)⟩
    · unfold World.frozen?
      simp [hh]
    · simp [World.setCell, Array.getElem?_modify, hh]
    · intro k v hv
      rw [List.getElem?_set] at hv
      split at hv
      · rename_i ek
        subst ek
        split at hv
        · cases hv
          rw [Array.getElem?_setIfInBounds]
          rw [if_pos rfl, if_pos (by omega)]
        · cases hv
      · rename_i ek
        rw [Array.getElem?_setIfInBounds_ne (by omega)]
        exact hc k v hv
    · exact below_grown h.bel hgr (Nat.le_of_lt hlo)
end
end Go.Proofs.YtpklclnehlgcpaaGreat
end
section
namespace Go.Proofs.YtpklclnehlgcpaaGreat.RefBytesO
open Go.RowKit
attribute [local go_sem ↓] app_fold

open RefBytes (sh sh_zero sh_succ sh_lt wrap_quo drop_step)
/-- what holds at a round's head -/
def GivesOwn (w : World) (l : List UInt8) (e : Ending) (w' : World) : Prop := ∃ A n c, e = .returned (.slice A n c) ∧ Own w' w.heap.size A n c l ∧ Below w.heap.size w w'
/-- what holds at a round's head -/
def Rel (w : World) (width : Nat) (m : Int) (u out i : Value) (wr : World) : Prop :=
  ∃ (k : Nat) (A : Option Addr) (c : Nat), k ≤ width ∧ i = .int .i64 k ∧ u = .int .u64 ((sh m k : Nat) : Int) ∧ out = .slice A k c ∧ Own wr w.heap.size A k c ((BeP.parts width m).drop (width - k)) ∧ Below w.heap.size w wr

set_option maxRecDepth 100000 in
set_option maxHeartbeats 1000000 in
theorem bytes_any (width : Nat) (m : Int) (w : World) (hw8 : width ≤ 8) :
    Calls Tryz.prog 33 #[.int .i64 (width : Int), .int .i64 m] w (GivesOwn w (BeP.parts width m)) := by
  obtain ⟨i0, hi, hz0, hz1, hz2⟩ := info_parts Be.infoU8
  have hw := BeP.u64_wrap m
  have h8 : decide ((width : Int) ≤ 8) = true := by simp; omega
  go_enter Tryz.func33, Tryz.ntmps33
  go_wp2
  go_loopw [5, 6, 7] (fun u out i wr => Rel w width m u out i wr) (fun _ _ i _ => width - (intOf i).toNat)
  case atStart => exact ⟨0, none, 0, Nat.zero_le _, rfl, by rw [sh_zero], rfl, by rw [List.drop_eq_nil_of_le (by rw [BeP.parts_length]; omega)]; exact Own.none_ w _, bsame w⟩
  case round =>
    obtain ⟨k, A, c, hk, rfl, rfl, rfl, hby, hb⟩ := hrel
    have HBY := Lib.hid hby
    have HB := Lib.hid hb
    clear hby hb hw
    by_cases hlt : k < width
    · have HD := Lib.hid (drop_step width m k hlt)
      have HP := Lib.hid (sh_succ m k)
      have HQ := Lib.hid (wrap_quo _ (sh_lt m k))
      obtain ⟨q, hq⟩ : ∃ q, sh m k = q := ⟨_, rfl⟩
      rw [hq] at HD HP HQ ⊢
      clear hq
      have hv : Value.int .u8 ((q : Int) % 256) = byteV (UInt8.ofNat q) := by
        unfold byteV
        have : (UInt8.ofNat q).toNat = q % 256 := by simp
        rw [this]
        simp
      have hown0 : (wr.alloc (.cells #[.int .u8 ((q : Int) % 256)] 5)).ownsRow w.heap.size 5 1 (.slice (some ⟨wr.heap.size, 0, none⟩) 1 1) 1 [byteV (UInt8.ofNat q)] :=
        ⟨rfl, .inr ⟨_, _, _, rfl, HB.out.size, heap_alloc_new wr _, Nat.le_refl _, by decide, rfl, by simp [hv]⟩⟩
      clear hv
      obtain ⟨v', w', happ, hown, hgrow⟩ := run_append_bytes (P := Tryz.prog) (wr.alloc (.cells #[.int .u8 ((q : Int) % 256)] 5)) w.heap.size 23 23 5 i0 _ Tryz.underlying23 hi hz0 hz1 hz2 rfl _ 1 _ hown0 wr.heap.size A k c _ (HBY.out.bytes.alloc (Nat.le_refl _) _) (by omega) (by have := HB.out.size; simp; omega)
      have hbw : Below w.heap.size w w' := (balloc HB.out _).grown hgrow (by have := HB.out.size; simp; omega) (own_block hown0)
      obtain ⟨A', c', rfl⟩ := own_slice hown
      have hby' : Own w' w.heap.size A' (1 + k) c' (UInt8.ofNat q :: (BeP.parts width m).drop (width - k)) := by simpa [Own] using hown
      obtain ⟨n', hn'⟩ : ∃ n', 1 + k = n' := ⟨_, rfl⟩
      rw [hn'] at hby' happ
      clear hn'
      have HBW := Lib.hid hbw
      have HBY' := Lib.hid hby'
      have HN := Lib.hid hby'.len
      clear hown0 hown hgrow hbw hby'
      go_wp2
      go_roundw
      case rel =>
        have hn : n' = k + 1 := by have := HN.out; simp [BeP.parts_length] at this; omega
        subst hn
        refine ⟨k + 1, A', c', by omega, by go_num, ?_, rfl, ?_, HBW.out⟩
        · rw [HP.out]
          exact congrArg (Value.int .u64) HQ.out
        · rw [HD.out]
          exact HBY'.out
      case measure => simp [intOf]; omega
    · go_wp2
      go_ret
      have hk' : width - k = 0 := by omega
      have := HBY.out
      rw [hk', List.drop_zero] at this
      exact ⟨A, k, c, rfl, this, HB.out⟩
end Go.Proofs.YtpklclnehlgcpaaGreat.RefBytesO
end
section
namespace Go.Proofs.YtpklclnehlgcpaaGreat.RefText
open Go.RowKit
set_option linter.unusedVariables false
attribute [local go_sem ↓] app_fold
set_option maxRecDepth 100000 in
set_option maxHeartbeats 1000000 in
theorem text_any (s : ByteArray) (hs : s.size ≤ 65535) (w : World) :
    Calls Tryz.prog 55 #[.string s] w (GivesBytes w (BeP.parts 2 (s.size : Nat) ++ s.data.toList)) := by
  have hd : decide ((65535 : Int) < (s.size : Int)) = false := by simp; omega
  go_enter Tryz.func55, Tryz.ntmps55
  go_wp2_with fail
  refine (RefBytesO.bytes_any 2 (s.size : Nat) w (by omega)).mono ?_
  rintro e W1 ⟨A, n, c, rfl, hO, hb⟩
  have hn : n = 2 := by rw [← hO.len, BeP.parts_length]
  subst hn
  obtain ⟨A', c', W2, happ, hO2, hb2⟩ := hO.appStr s (by omega) hb.size
  have HO := Lib.hid hO2
  have HB := Lib.hid (hb.trans hb2)
  clear hO hb hO2 hb2
  go_wp2
  go_ret
  exact ⟨A', 2 + s.size, c', rfl, HO.out.bytes, HB.out⟩
end Go.Proofs.YtpklclnehlgcpaaGreat.RefText
end
