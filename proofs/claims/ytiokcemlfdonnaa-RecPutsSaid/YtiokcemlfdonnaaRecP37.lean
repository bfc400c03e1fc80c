/-
  Texts of one claim, joined: RecPutsW.
-/
import Derived.Test.YtiokcemlfdonnaaRecP0
import Derived.Test.YtiokcemlfdonnaaRecP5
import Derived.Test.YtiokcemlfdonnaaRecP14
import Derived.Test.YtiokcemlfdonnaaRecP34
import Derived.Test.YtiokcemlfdonnaaRecP36
namespace Go.Proofs.Ytiokcemlfdonnaa
open Go.RowKit
set_option linter.unusedVariables false
set_option linter.unusedSimpArgs false
theorem RecP.same_self (x : RecX) : RecP.same x x = true := by
  unfold RecP.same UndoP.same
  simp [RecP.samePats_all (l := x.patches) (m := x.patches) (k := x.patches.length) rfl rfl rfl, SlotP.same_self]
theorem RecP.bytes_none (x : RecX) (h : RecP.fits x = false) : RecP.bytes x = [] := by unfold RecP.bytes; rw [h]; rfl
theorem RecP.not_right (x : RecX) (h : RecP.right x = false) : RecP.fits x = false := by unfold RecP.fits; rw [h]; rfl
namespace recPuts
open RecW
attribute [local go_sem ↓] app_fold
set_option maxRecDepth 100000 in
set_option maxHeartbeats 8000000 in
theorem go1 (kd tx pv nx : Int) (A : Option Addr) (n c : Nat) (l : List PatchX) (pact : Int) (puk : ByteArray) (Ap : Option Addr) (np cp : Nat) (pst : Int) (pk : ByteArray) (pkd : Int) (pda : List UInt8) (plo phi pva : Int) (pun : Int) (Am : Option Addr) (nm cm : Nat) (lm : List UInt8) (w : World) (hE : Elems PatchE w w.heap.size A n c l) (hp : Bytes w w.heap.size Ap np cp pda) (hpk : pk.size ≤ maxLen) (hpuk : puk.size ≤ maxLen) (hun : In64 pun) (hui : SlotP.In ⟨pst, pk, ⟨pkd, pda, plo, phi, pva⟩⟩) (hm : Bytes w w.heap.size Am nm cm lm) (HM : Hid ((!decide (RefRec.Asked ⟨kd, tx, pv, nx, l, ⟨pact, puk, ⟨pst, pk, ⟨pkd, pda, plo, phi, pva⟩⟩, pun⟩⟩)) = true)) :
    Calls Try.prog 3 #[.agg #[.int .i64 kd, .int .i64 tx, .int .i64 pv, .int .i64 nx, .slice A n c, .int .i64 pact, .string puk, .int .i64 pst, .string pk, .int .i64 pkd, .slice Ap np cp, .int .i64 plo, .int .i64 phi, .int .i64 pva, .int .i64 pun], .slice Am nm cm] w fun e w' => e = .returned (.bool true) ∧ Below w.heap.size w w' := by
  have HE := Lib.hid hE
  have HP := Lib.hid hp
  have HPK := Lib.hid (And.intro hpk hpuk)
  have HUN := Lib.hid (And.intro hun hui)
  clear hE hp hpk hpuk hun hui
  have hm1 := hm.2.1
  have hm2 := hm.2.2.1
  unfold maxLen at hm2
  have HMO := Lib.hid hm
  clear hm
  obtain ⟨W0, hW0⟩ : ∃ W, w.alloc (.cells #[.int .i64 kd, .int .i64 tx, .int .i64 pv, .int .i64 nx, .slice A n c, .int .i64 pact, .string puk, .int .i64 pst, .string pk, .int .i64 pkd, .slice Ap np cp, .int .i64 plo, .int .i64 phi, .int .i64 pva, .int .i64 pun] 31) = W := ⟨_, rfl⟩
  obtain ⟨HS0, HB0, hw0, hz0⟩ := new1 hW0
  have g0 := str15 HS0.out
  have hl0 := HS0.out.lt
  clear hz0
  go_enter Try.func3, Try.ntmps3
  go_wp2_with fail
  refine (RefRec.much_is kd tx pv nx A n c w.heap.size l pact puk Ap np cp w.heap.size pst pk pkd pda plo phi pva pun W0 (HE.out.below HB0.out) HB0.out.size (HP.out.below HB0.out) HB0.out.size HPK.out.1 HPK.out.2).mono ?_
  rintro e W1 ⟨rfl, hb1⟩
  have HS1 := Lib.hid (HS0.out.next hb1)
  have HB1 := Lib.hid (bstep HB0.out hb1)
  have hw1 := HB1.out.size
  rw [HM.out]
  clear hb1 HS0 HB0 g0 hl0
  have g0 := str15 HS1.out
  have hl0 := HS1.out.lt
  go_wp2_with fail
  refine (live_any W1).mono ?_
  rintro e W99 ⟨rfl, hb99⟩
  have HB99 := Lib.hid (bstep HB1.out hb99)
  clear hb99 g0 hl0
  go_wp2
  go_ret
  exact ⟨rfl, HB99.out⟩
set_option maxRecDepth 100000 in
set_option maxHeartbeats 8000000 in
theorem go2 (kd tx pv nx : Int) (A : Option Addr) (n c : Nat) (l : List PatchX) (pact : Int) (puk : ByteArray) (Ap : Option Addr) (np cp : Nat) (pst : Int) (pk : ByteArray) (pkd : Int) (pda : List UInt8) (plo phi pva : Int) (pun : Int) (Am : Option Addr) (nm cm : Nat) (lm : List UInt8) (w : World) (hE : Elems PatchE w w.heap.size A n c l) (hp : Bytes w w.heap.size Ap np cp pda) (hpk : pk.size ≤ maxLen) (hpuk : puk.size ≤ maxLen) (hun : In64 pun) (hui : SlotP.In ⟨pst, pk, ⟨pkd, pda, plo, phi, pva⟩⟩) (hm : Bytes w w.heap.size Am nm cm lm) (HM : Hid ((!decide (RefRec.Asked ⟨kd, tx, pv, nx, l, ⟨pact, puk, ⟨pst, pk, ⟨pkd, pda, plo, phi, pva⟩⟩, pun⟩⟩)) = false)) (hbig : 300 < nm) :
    Calls Try.prog 3 #[.agg #[.int .i64 kd, .int .i64 tx, .int .i64 pv, .int .i64 nx, .slice A n c, .int .i64 pact, .string puk, .int .i64 pst, .string pk, .int .i64 pkd, .slice Ap np cp, .int .i64 plo, .int .i64 phi, .int .i64 pva, .int .i64 pun], .slice Am nm cm] w fun e w' => e = .returned (.bool true) ∧ Below w.heap.size w w' := by
  have HE := Lib.hid hE
  have HP := Lib.hid hp
  have HPK := Lib.hid (And.intro hpk hpuk)
  have HUN := Lib.hid (And.intro hun hui)
  clear hE hp hpk hpuk hun hui
  have hm1 := hm.2.1
  have hm2 := hm.2.2.1
  unfold maxLen at hm2
  have HMO := Lib.hid hm
  clear hm
  obtain ⟨W0, hW0⟩ : ∃ W, w.alloc (.cells #[.int .i64 kd, .int .i64 tx, .int .i64 pv, .int .i64 nx, .slice A n c, .int .i64 pact, .string puk, .int .i64 pst, .string pk, .int .i64 pkd, .slice Ap np cp, .int .i64 plo, .int .i64 phi, .int .i64 pva, .int .i64 pun] 31) = W := ⟨_, rfl⟩
  obtain ⟨HS0, HB0, hw0, hz0⟩ := new1 hW0
  have g0 := str15 HS0.out
  have hl0 := HS0.out.lt
  clear hz0
  go_enter Try.func3, Try.ntmps3
  go_wp2_with fail
  have hdm : decide ((300 : Int) < (nm : Int)) = true := by simp; omega
  refine (RefRec.much_is kd tx pv nx A n c w.heap.size l pact puk Ap np cp w.heap.size pst pk pkd pda plo phi pva pun W0 (HE.out.below HB0.out) HB0.out.size (HP.out.below HB0.out) HB0.out.size HPK.out.1 HPK.out.2).mono ?_
  rintro e W1 ⟨rfl, hb1⟩
  have HS1 := Lib.hid (HS0.out.next hb1)
  have HB1 := Lib.hid (bstep HB0.out hb1)
  have hw1 := HB1.out.size
  rw [HM.out]
  clear hb1 HS0 HB0 g0 hl0
  have g0 := str15 HS1.out
  have hl0 := HS1.out.lt
  go_wp2_with fail
  refine (live_any W1).mono ?_
  rintro e W99 ⟨rfl, hb99⟩
  have HB99 := Lib.hid (bstep HB1.out hb99)
  clear hb99 g0 hl0
  go_wp2
  go_ret
  exact ⟨rfl, HB99.out⟩
set_option maxRecDepth 100000 in
set_option maxHeartbeats 8000000 in
theorem go3 (kd tx pv nx : Int) (A : Option Addr) (n c : Nat) (l : List PatchX) (pact : Int) (puk : ByteArray) (Ap : Option Addr) (np cp : Nat) (pst : Int) (pk : ByteArray) (pkd : Int) (pda : List UInt8) (plo phi pva : Int) (pun : Int) (Am : Option Addr) (nm cm : Nat) (lm : List UInt8) (w : World) (hE : Elems PatchE w w.heap.size A n c l) (hp : Bytes w w.heap.size Ap np cp pda) (hpk : pk.size ≤ maxLen) (hpuk : puk.size ≤ maxLen) (hun : In64 pun) (hui : SlotP.In ⟨pst, pk, ⟨pkd, pda, plo, phi, pva⟩⟩) (hm : Bytes w w.heap.size Am nm cm lm) (HM : Hid ((!decide (RefRec.Asked ⟨kd, tx, pv, nx, l, ⟨pact, puk, ⟨pst, pk, ⟨pkd, pda, plo, phi, pva⟩⟩, pun⟩⟩)) = false)) (HR : Hid (RecP.right ⟨kd, tx, pv, nx, l, ⟨pact, puk, ⟨pst, pk, ⟨pkd, pda, plo, phi, pva⟩⟩, pun⟩⟩ = false)) (HF : Hid (RecP.fits ⟨kd, tx, pv, nx, l, ⟨pact, puk, ⟨pst, pk, ⟨pkd, pda, plo, phi, pva⟩⟩, pun⟩⟩ = false)) (hbig : ¬ 300 < nm) :
    Calls Try.prog 3 #[.agg #[.int .i64 kd, .int .i64 tx, .int .i64 pv, .int .i64 nx, .slice A n c, .int .i64 pact, .string puk, .int .i64 pst, .string pk, .int .i64 pkd, .slice Ap np cp, .int .i64 plo, .int .i64 phi, .int .i64 pva, .int .i64 pun], .slice Am nm cm] w fun e w' => e = .returned (.bool true) ∧ Below w.heap.size w w' := by
  have HE := Lib.hid hE
  have HP := Lib.hid hp
  have HPK := Lib.hid (And.intro hpk hpuk)
  have HUN := Lib.hid (And.intro hun hui)
  clear hE hp hpk hpuk hun hui
  have hm1 := hm.2.1
  have hm2 := hm.2.2.1
  unfold maxLen at hm2
  have HMO := Lib.hid hm
  clear hm
  obtain ⟨W0, hW0⟩ : ∃ W, w.alloc (.cells #[.int .i64 kd, .int .i64 tx, .int .i64 pv, .int .i64 nx, .slice A n c, .int .i64 pact, .string puk, .int .i64 pst, .string pk, .int .i64 pkd, .slice Ap np cp, .int .i64 plo, .int .i64 phi, .int .i64 pva, .int .i64 pun] 31) = W := ⟨_, rfl⟩
  obtain ⟨HS0, HB0, hw0, hz0⟩ := new1 hW0
  have g0 := str15 HS0.out
  have hl0 := HS0.out.lt
  clear hz0
  go_enter Try.func3, Try.ntmps3
  go_wp2_with fail
  have hdm : decide ((300 : Int) < (nm : Int)) = false := by simp; omega
  refine (RefRec.much_is kd tx pv nx A n c w.heap.size l pact puk Ap np cp w.heap.size pst pk pkd pda plo phi pva pun W0 (HE.out.below HB0.out) HB0.out.size (HP.out.below HB0.out) HB0.out.size HPK.out.1 HPK.out.2).mono ?_
  rintro e W1 ⟨rfl, hb1⟩
  have HS1 := Lib.hid (HS0.out.next hb1)
  have HB1 := Lib.hid (bstep HB0.out hb1)
  have hw1 := HB1.out.size
  rw [HM.out]
  clear hb1 HS0 HB0 g0 hl0
  have g0 := str15 HS1.out
  have hl0 := HS1.out.lt
  go_wp2_with fail
  refine (put_any kd tx pv nx A n c w.heap.size l pact puk Ap np cp w.heap.size pst pk pkd pda plo phi pva pun W1 (HE.out.below HB1.out) HB1.out.size (HP.out.below HB1.out) HB1.out.size HPK.out.1 HPK.out.2).mono ?_
  rintro e W2 ⟨A1, n1, c1, rfl, hy1, hb2⟩
  have HS2 := Lib.hid (HS1.out.next hb2)
  have HB2 := Lib.hid (bstep HB1.out hb2)
  have hw2 := HB2.out.size
  have hln1 := hy1.len
  have hnc1 := hy1.2.1
  have hcm1 := hy1.2.2.1
  unfold maxLen at hcm1
  have HY1 := Lib.hid (hy1)
  have HLN1 := Lib.hid hln1
  rw [RecP.bytes_none ⟨kd, tx, pv, nx, l, ⟨pact, puk, ⟨pst, pk, ⟨pkd, pda, plo, phi, pva⟩⟩, pun⟩⟩ HF.out] at hln1
  have hn1 : n1 = 0 := hln1.symm
  subst hn1
  clear hy1 hln1
  clear hb2 HS1 HB1 g0 hl0
  have g0 := str15 HS2.out
  have hl0 := HS2.out.lt
  go_wp2_with fail
  refine (check_any kd tx pv nx A n c w.heap.size l pact puk Ap np cp w.heap.size pst pk pkd pda plo phi pva pun W2 (HE.out.below HB2.out) HB2.out.size (HP.out.below HB2.out) HB2.out.size HPK.out.1 HPK.out.2).mono ?_
  rintro e W3 ⟨rfl, hb3⟩
  have HS3 := Lib.hid (HS2.out.next hb3)
  have HB3 := Lib.hid (bstep HB2.out hb3)
  have hw3 := HB3.out.size
  replace HY1 := Lib.hid (HY1.out.next hb3)
  rw [HR.out, show PatchW.code false = 1 from rfl]
  clear hb3 HS2 HB2 g0 hl0
  have g0 := str15 HS3.out
  have hl0 := HS3.out.lt
  go_wp2_with fail
  refine (code_any _ _).mono ?_
  rintro e w' ⟨rfl, rfl⟩
  go_wp2_with fail
  refine (RefRec.bytes_any kd tx pv nx A n c w.heap.size l pact puk Ap np cp w.heap.size pst pk pkd pda plo phi pva pun W3 (HE.out.below HB3.out) HB3.out.size (HP.out.below HB3.out) HB3.out.size HPK.out.1 HPK.out.2).mono ?_
  rintro e W4 ⟨A4, n4, c4, rfl, hy4, hb4⟩
  have HS4 := Lib.hid (HS3.out.next hb4)
  have HB4 := Lib.hid (bstep HB3.out hb4)
  have hw4 := HB4.out.size
  replace HY1 := Lib.hid (HY1.out.next hb4)
  have HY4 := Lib.hid hy4
  have hn4 := hy4.2.1
  clear hy4
  clear hb4 HS3 HB3 g0 hl0
  have g0 := str15 HS4.out
  have hl0 := HS4.out.lt
  go_wp2_with fail
  refine (Same.same_any _ _ _ _ _ _ _ _ (RecP.bytes ⟨kd, tx, pv, nx, l, ⟨pact, puk, ⟨pst, pk, ⟨pkd, pda, plo, phi, pva⟩⟩, pun⟩⟩) (RecP.bytes ⟨kd, tx, pv, nx, l, ⟨pact, puk, ⟨pst, pk, ⟨pkd, pda, plo, phi, pva⟩⟩, pun⟩⟩) W4 HY1.out HY4.out).mono ?_
  rintro e w' ⟨rfl, rfl⟩
  rw [beq_self_eq_true]
  clear HY4
  go_wp2_with fail
  refine (RefRec.right_any kd tx pv nx A n c w.heap.size l pact puk Ap np cp w.heap.size pst pk pkd pda plo phi pva pun W4 (HE.out.below HB4.out) HB4.out.size (HP.out.below HB4.out) HB4.out.size HPK.out.1 HPK.out.2).mono ?_
  rintro e W5 ⟨rfl, hb5⟩
  have HS5 := Lib.hid (HS4.out.next hb5)
  have HB5 := Lib.hid (bstep HB4.out hb5)
  have hw5 := HB5.out.size
  replace HY1 := Lib.hid (HY1.out.next hb5)
  rw [HR.out]
  clear hb5 HS4 HB4 g0 hl0
  have g0 := str15 HS5.out
  have hl0 := HS5.out.lt
  go_wp2_with fail
  refine (live_any W5).mono ?_
  rintro e W99 ⟨rfl, hb99⟩
  have HB99 := Lib.hid (bstep HB5.out hb99)
  clear hb99 g0 hl0
  go_wp2
  go_ret
  exact ⟨rfl, HB99.out⟩
set_option maxRecDepth 100000 in
set_option maxHeartbeats 8000000 in
theorem go4 (kd tx pv nx : Int) (A : Option Addr) (n c : Nat) (l : List PatchX) (pact : Int) (puk : ByteArray) (Ap : Option Addr) (np cp : Nat) (pst : Int) (pk : ByteArray) (pkd : Int) (pda : List UInt8) (plo phi pva : Int) (pun : Int) (Am : Option Addr) (nm cm : Nat) (lm : List UInt8) (w : World) (hE : Elems PatchE w w.heap.size A n c l) (hp : Bytes w w.heap.size Ap np cp pda) (hpk : pk.size ≤ maxLen) (hpuk : puk.size ≤ maxLen) (hun : In64 pun) (hui : SlotP.In ⟨pst, pk, ⟨pkd, pda, plo, phi, pva⟩⟩) (hm : Bytes w w.heap.size Am nm cm lm) (HM : Hid ((!decide (RefRec.Asked ⟨kd, tx, pv, nx, l, ⟨pact, puk, ⟨pst, pk, ⟨pkd, pda, plo, phi, pva⟩⟩, pun⟩⟩)) = false)) (HR : Hid (RecP.right ⟨kd, tx, pv, nx, l, ⟨pact, puk, ⟨pst, pk, ⟨pkd, pda, plo, phi, pva⟩⟩, pun⟩⟩ = true)) (HF : Hid (RecP.fits ⟨kd, tx, pv, nx, l, ⟨pact, puk, ⟨pst, pk, ⟨pkd, pda, plo, phi, pva⟩⟩, pun⟩⟩ = false)) (hbig : ¬ 300 < nm) :
    Calls Try.prog 3 #[.agg #[.int .i64 kd, .int .i64 tx, .int .i64 pv, .int .i64 nx, .slice A n c, .int .i64 pact, .string puk, .int .i64 pst, .string pk, .int .i64 pkd, .slice Ap np cp, .int .i64 plo, .int .i64 phi, .int .i64 pva, .int .i64 pun], .slice Am nm cm] w fun e w' => e = .returned (.bool true) ∧ Below w.heap.size w w' := by
  have HE := Lib.hid hE
  have HP := Lib.hid hp
  have HPK := Lib.hid (And.intro hpk hpuk)
  have HUN := Lib.hid (And.intro hun hui)
  clear hE hp hpk hpuk hun hui
  have hm1 := hm.2.1
  have hm2 := hm.2.2.1
  unfold maxLen at hm2
  have HMO := Lib.hid hm
  clear hm
  obtain ⟨W0, hW0⟩ : ∃ W, w.alloc (.cells #[.int .i64 kd, .int .i64 tx, .int .i64 pv, .int .i64 nx, .slice A n c, .int .i64 pact, .string puk, .int .i64 pst, .string pk, .int .i64 pkd, .slice Ap np cp, .int .i64 plo, .int .i64 phi, .int .i64 pva, .int .i64 pun] 31) = W := ⟨_, rfl⟩
  obtain ⟨HS0, HB0, hw0, hz0⟩ := new1 hW0
  have g0 := str15 HS0.out
  have hl0 := HS0.out.lt
  clear hz0
  go_enter Try.func3, Try.ntmps3
  go_wp2_with fail
  have hdm : decide ((300 : Int) < (nm : Int)) = false := by simp; omega
  refine (RefRec.much_is kd tx pv nx A n c w.heap.size l pact puk Ap np cp w.heap.size pst pk pkd pda plo phi pva pun W0 (HE.out.below HB0.out) HB0.out.size (HP.out.below HB0.out) HB0.out.size HPK.out.1 HPK.out.2).mono ?_
  rintro e W1 ⟨rfl, hb1⟩
  have HS1 := Lib.hid (HS0.out.next hb1)
  have HB1 := Lib.hid (bstep HB0.out hb1)
  have hw1 := HB1.out.size
  rw [HM.out]
  clear hb1 HS0 HB0 g0 hl0
  have g0 := str15 HS1.out
  have hl0 := HS1.out.lt
  go_wp2_with fail
  refine (put_any kd tx pv nx A n c w.heap.size l pact puk Ap np cp w.heap.size pst pk pkd pda plo phi pva pun W1 (HE.out.below HB1.out) HB1.out.size (HP.out.below HB1.out) HB1.out.size HPK.out.1 HPK.out.2).mono ?_
  rintro e W2 ⟨A1, n1, c1, rfl, hy1, hb2⟩
  have HS2 := Lib.hid (HS1.out.next hb2)
  have HB2 := Lib.hid (bstep HB1.out hb2)
  have hw2 := HB2.out.size
  have hln1 := hy1.len
  have hnc1 := hy1.2.1
  have hcm1 := hy1.2.2.1
  unfold maxLen at hcm1
  have HY1 := Lib.hid (hy1)
  have HLN1 := Lib.hid hln1
  rw [RecP.bytes_none ⟨kd, tx, pv, nx, l, ⟨pact, puk, ⟨pst, pk, ⟨pkd, pda, plo, phi, pva⟩⟩, pun⟩⟩ HF.out] at hln1
  have hn1 : n1 = 0 := hln1.symm
  subst hn1
  clear hy1 hln1
  clear hb2 HS1 HB1 g0 hl0
  have g0 := str15 HS2.out
  have hl0 := HS2.out.lt
  go_wp2_with fail
  refine (check_any kd tx pv nx A n c w.heap.size l pact puk Ap np cp w.heap.size pst pk pkd pda plo phi pva pun W2 (HE.out.below HB2.out) HB2.out.size (HP.out.below HB2.out) HB2.out.size HPK.out.1 HPK.out.2).mono ?_
  rintro e W3 ⟨rfl, hb3⟩
  have HS3 := Lib.hid (HS2.out.next hb3)
  have HB3 := Lib.hid (bstep HB2.out hb3)
  have hw3 := HB3.out.size
  replace HY1 := Lib.hid (HY1.out.next hb3)
  rw [HR.out, show PatchW.code true = 0 from rfl]
  clear hb3 HS2 HB2 g0 hl0
  have g0 := str15 HS3.out
  have hl0 := HS3.out.lt
  go_wp2_with fail
  refine (code_any _ _).mono ?_
  rintro e w' ⟨rfl, rfl⟩
  go_wp2_with fail
  refine (RefRec.bytes_any kd tx pv nx A n c w.heap.size l pact puk Ap np cp w.heap.size pst pk pkd pda plo phi pva pun W3 (HE.out.below HB3.out) HB3.out.size (HP.out.below HB3.out) HB3.out.size HPK.out.1 HPK.out.2).mono ?_
  rintro e W4 ⟨A4, n4, c4, rfl, hy4, hb4⟩
  have HS4 := Lib.hid (HS3.out.next hb4)
  have HB4 := Lib.hid (bstep HB3.out hb4)
  have hw4 := HB4.out.size
  replace HY1 := Lib.hid (HY1.out.next hb4)
  have HY4 := Lib.hid hy4
  have hn4 := hy4.2.1
  clear hy4
  clear hb4 HS3 HB3 g0 hl0
  have g0 := str15 HS4.out
  have hl0 := HS4.out.lt
  go_wp2_with fail
  refine (Same.same_any _ _ _ _ _ _ _ _ (RecP.bytes ⟨kd, tx, pv, nx, l, ⟨pact, puk, ⟨pst, pk, ⟨pkd, pda, plo, phi, pva⟩⟩, pun⟩⟩) (RecP.bytes ⟨kd, tx, pv, nx, l, ⟨pact, puk, ⟨pst, pk, ⟨pkd, pda, plo, phi, pva⟩⟩, pun⟩⟩) W4 HY1.out HY4.out).mono ?_
  rintro e w' ⟨rfl, rfl⟩
  rw [beq_self_eq_true]
  clear HY4
  go_wp2_with fail
  refine (RefRec.right_any kd tx pv nx A n c w.heap.size l pact puk Ap np cp w.heap.size pst pk pkd pda plo phi pva pun W4 (HE.out.below HB4.out) HB4.out.size (HP.out.below HB4.out) HB4.out.size HPK.out.1 HPK.out.2).mono ?_
  rintro e W5 ⟨rfl, hb5⟩
  have HS5 := Lib.hid (HS4.out.next hb5)
  have HB5 := Lib.hid (bstep HB4.out hb5)
  have hw5 := HB5.out.size
  replace HY1 := Lib.hid (HY1.out.next hb5)
  rw [HR.out]
  clear hb5 HS4 HB4 g0 hl0
  have g0 := str15 HS5.out
  have hl0 := HS5.out.lt
  go_wp2_with fail
  refine (live_any W5).mono ?_
  rintro e W99 ⟨rfl, hb99⟩
  have HB99 := Lib.hid (bstep HB5.out hb99)
  clear hb99 g0 hl0
  go_wp2
  go_ret
  exact ⟨rfl, HB99.out⟩
set_option maxRecDepth 100000 in
set_option maxHeartbeats 8000000 in
theorem go5 (kd tx pv nx : Int) (A : Option Addr) (n c : Nat) (l : List PatchX) (pact : Int) (puk : ByteArray) (Ap : Option Addr) (np cp : Nat) (pst : Int) (pk : ByteArray) (pkd : Int) (pda : List UInt8) (plo phi pva : Int) (pun : Int) (Am : Option Addr) (nm cm : Nat) (lm : List UInt8) (w : World) (hE : Elems PatchE w w.heap.size A n c l) (hp : Bytes w w.heap.size Ap np cp pda) (hpk : pk.size ≤ maxLen) (hpuk : puk.size ≤ maxLen) (hun : In64 pun) (hui : SlotP.In ⟨pst, pk, ⟨pkd, pda, plo, phi, pva⟩⟩) (hm : Bytes w w.heap.size Am nm cm lm) (HM : Hid ((!decide (RefRec.Asked ⟨kd, tx, pv, nx, l, ⟨pact, puk, ⟨pst, pk, ⟨pkd, pda, plo, phi, pva⟩⟩, pun⟩⟩)) = false)) (HR : Hid (RecP.right ⟨kd, tx, pv, nx, l, ⟨pact, puk, ⟨pst, pk, ⟨pkd, pda, plo, phi, pva⟩⟩, pun⟩⟩ = true)) (HF : Hid (RecP.fits ⟨kd, tx, pv, nx, l, ⟨pact, puk, ⟨pst, pk, ⟨pkd, pda, plo, phi, pva⟩⟩, pun⟩⟩ = true)) (hbig : ¬ 300 < nm) :
    Calls Try.prog 3 #[.agg #[.int .i64 kd, .int .i64 tx, .int .i64 pv, .int .i64 nx, .slice A n c, .int .i64 pact, .string puk, .int .i64 pst, .string pk, .int .i64 pkd, .slice Ap np cp, .int .i64 plo, .int .i64 phi, .int .i64 pva, .int .i64 pun], .slice Am nm cm] w fun e w' => e = .returned (.bool true) ∧ Below w.heap.size w w' := by
  have HE := Lib.hid hE
  have HP := Lib.hid hp
  have HPK := Lib.hid (And.intro hpk hpuk)
  have HUN := Lib.hid (And.intro hun hui)
  clear hE hp hpk hpuk hun hui
  have hm1 := hm.2.1
  have hm2 := hm.2.2.1
  unfold maxLen at hm2
  have HMO := Lib.hid hm
  clear hm
  obtain ⟨W0, hW0⟩ : ∃ W, w.alloc (.cells #[.int .i64 kd, .int .i64 tx, .int .i64 pv, .int .i64 nx, .slice A n c, .int .i64 pact, .string puk, .int .i64 pst, .string pk, .int .i64 pkd, .slice Ap np cp, .int .i64 plo, .int .i64 phi, .int .i64 pva, .int .i64 pun] 31) = W := ⟨_, rfl⟩
  obtain ⟨HS0, HB0, hw0, hz0⟩ := new1 hW0
  have g0 := str15 HS0.out
  have hl0 := HS0.out.lt
  clear hz0
  go_enter Try.func3, Try.ntmps3
  go_wp2_with fail
  have hdm : decide ((300 : Int) < (nm : Int)) = false := by simp; omega
  refine (RefRec.much_is kd tx pv nx A n c w.heap.size l pact puk Ap np cp w.heap.size pst pk pkd pda plo phi pva pun W0 (HE.out.below HB0.out) HB0.out.size (HP.out.below HB0.out) HB0.out.size HPK.out.1 HPK.out.2).mono ?_
  rintro e W1 ⟨rfl, hb1⟩
  have HS1 := Lib.hid (HS0.out.next hb1)
  have HB1 := Lib.hid (bstep HB0.out hb1)
  have hw1 := HB1.out.size
  rw [HM.out]
  clear hb1 HS0 HB0 g0 hl0
  have g0 := str15 HS1.out
  have hl0 := HS1.out.lt
  go_wp2_with fail
  refine (put_any kd tx pv nx A n c w.heap.size l pact puk Ap np cp w.heap.size pst pk pkd pda plo phi pva pun W1 (HE.out.below HB1.out) HB1.out.size (HP.out.below HB1.out) HB1.out.size HPK.out.1 HPK.out.2).mono ?_
  rintro e W2 ⟨A1, n1, c1, rfl, hy1, hb2⟩
  have HS2 := Lib.hid (HS1.out.next hb2)
  have HB2 := Lib.hid (bstep HB1.out hb2)
  have hw2 := HB2.out.size
  have hln1 := hy1.len
  have hnc1 := hy1.2.1
  have hcm1 := hy1.2.2.1
  unfold maxLen at hcm1
  have HY1 := Lib.hid (hy1)
  have HLN1 := Lib.hid hln1
  have hbl := RecP.bytes_length ⟨kd, tx, pv, nx, l, ⟨pact, puk, ⟨pst, pk, ⟨pkd, pda, plo, phi, pva⟩⟩, pun⟩⟩ HF.out
  have hfl := RecP.fits_len HF.out
  rw [hln1] at hbl
  have hn1p : 2 ≤ n1 ∧ n1 ≤ 65537 := by omega
  have hdz : ((n1 : Int) == 0) = false := by simp; omega
  clear hbl hfl
  clear hy1 hln1
  clear hb2 HS1 HB1 g0 hl0
  have g0 := str15 HS2.out
  have hl0 := HS2.out.lt
  go_wp2_with fail
  refine (check_any kd tx pv nx A n c w.heap.size l pact puk Ap np cp w.heap.size pst pk pkd pda plo phi pva pun W2 (HE.out.below HB2.out) HB2.out.size (HP.out.below HB2.out) HB2.out.size HPK.out.1 HPK.out.2).mono ?_
  rintro e W3 ⟨rfl, hb3⟩
  have HS3 := Lib.hid (HS2.out.next hb3)
  have HB3 := Lib.hid (bstep HB2.out hb3)
  have hw3 := HB3.out.size
  replace HY1 := Lib.hid (HY1.out.next hb3)
  rw [HR.out, show PatchW.code true = 0 from rfl]
  clear hb3 HS2 HB2 g0 hl0
  have g0 := str15 HS3.out
  have hl0 := HS3.out.lt
  go_wp2_with fail
  refine (code_any _ _).mono ?_
  rintro e w' ⟨rfl, rfl⟩
  go_wp2_with fail
  refine (RefRec.bytes_any kd tx pv nx A n c w.heap.size l pact puk Ap np cp w.heap.size pst pk pkd pda plo phi pva pun W3 (HE.out.below HB3.out) HB3.out.size (HP.out.below HB3.out) HB3.out.size HPK.out.1 HPK.out.2).mono ?_
  rintro e W4 ⟨A4, n4, c4, rfl, hy4, hb4⟩
  have HS4 := Lib.hid (HS3.out.next hb4)
  have HB4 := Lib.hid (bstep HB3.out hb4)
  have hw4 := HB4.out.size
  replace HY1 := Lib.hid (HY1.out.next hb4)
  have HY4 := Lib.hid hy4
  have hn4 := hy4.2.1
  clear hy4
  clear hb4 HS3 HB3 g0 hl0
  have g0 := str15 HS4.out
  have hl0 := HS4.out.lt
  go_wp2_with fail
  refine (Same.same_any _ _ _ _ _ _ _ _ (RecP.bytes ⟨kd, tx, pv, nx, l, ⟨pact, puk, ⟨pst, pk, ⟨pkd, pda, plo, phi, pva⟩⟩, pun⟩⟩) (RecP.bytes ⟨kd, tx, pv, nx, l, ⟨pact, puk, ⟨pst, pk, ⟨pkd, pda, plo, phi, pva⟩⟩, pun⟩⟩) W4 HY1.out HY4.out).mono ?_
  rintro e w' ⟨rfl, rfl⟩
  rw [beq_self_eq_true]
  clear HY4
  go_wp2_with fail
  refine (RefRec.right_any kd tx pv nx A n c w.heap.size l pact puk Ap np cp w.heap.size pst pk pkd pda plo phi pva pun W4 (HE.out.below HB4.out) HB4.out.size (HP.out.below HB4.out) HB4.out.size HPK.out.1 HPK.out.2).mono ?_
  rintro e W5 ⟨rfl, hb5⟩
  have HS5 := Lib.hid (HS4.out.next hb5)
  have HB5 := Lib.hid (bstep HB4.out hb5)
  have hw5 := HB5.out.size
  replace HY1 := Lib.hid (HY1.out.next hb5)
  rw [HR.out]
  clear hb5 HS4 HB4 g0 hl0
  have g0 := str15 HS5.out
  have hl0 := HS5.out.lt
  obtain ⟨W6, hW6⟩ : ∃ W, W5.alloc (.cells #[] 5) = W := ⟨_, rfl⟩
  have hO6 : Own W6 W5.heap.size (some ⟨W5.heap.size, 0, none⟩) 0 0 [] := by rw [← hW6]; exact Own.empty W5 W5.heap.size (Nat.le_refl _)
  have hb6 : Below W5.heap.size W5 W6 := by rw [← hW6]; exact balloc (bsame _) _
  have hw6 := hb6.size
  obtain ⟨A7, c7, W7, happ7, hO7, hB7⟩ := hO6.app (HY1.out.next hb6) (by omega) hw6
  rw [Nat.zero_add] at happ7 hO7
  rw [List.nil_append] at hO7
  have hb7 := hb6.trans hB7
  have hw7 := hb7.size
  obtain ⟨A8, c8, W8, happ8, hO8, hB8⟩ := hO7.app (HMO.out.below (bstep HB5.out hb7)) (by omega) hw7
  have hb8 := hb7.trans hB8
  have HS8 := Lib.hid (HS5.out.next hb8)
  have HB8 := Lib.hid (bstep HB5.out hb8)
  have HO8 := Lib.hid hO8.bytes
  obtain ⟨R, hRl⟩ : ∃ R, l.length = R := ⟨_, rfl⟩
  clear hO6 hb6 hO7 hB7 hb7 hO8 hB8 hb8 HY1 HS5 HB5
  go_wp2_with fail
  clear happ7 happ8 g0 hl0 hW6
  refine (get_any kd tx pv nx l pact puk pst pk pkd pda plo phi pva pun lm A8 (n1 + nm) c8 W8.heap.size W8 HF.out HUN.out.1 HUN.out.2 HPK.out.1 HPK.out.2 HO8.out (Nat.le_refl _)).mono ?_
  rintro e W9 ⟨A9, c9, Ap9, np9, cp9, rfl, hE9, hy9, hb9⟩
  rw [hRl] at hE9 ⊢
  rw [HLN1.out]
  have HS9 := Lib.hid (HS8.out.next hb9)
  have HB9 := Lib.hid (bstep HB8.out hb9)
  have hw9 := HB9.out.size
  have hl9 := HS9.out.lt
  have HE9 := Lib.hid hE9
  have HY9 := Lib.hid hy9
  clear hE9 hy9 hb9 HS8 HB8 HO8 hRl HLN1
  obtain ⟨W10, hW10⟩ : ∃ W, W9.alloc (.cells #[.int .i64 0, .int .i64 0, .int .i64 0, .int .i64 0, .slice none 0 0, .int .i64 0, .string ⟨#[]⟩, .int .i64 0, .string ⟨#[]⟩, .int .i64 0, .slice none 0 0, .int .i64 0, .int .i64 0, .int .i64 0, .int .i64 0] 31) = W := ⟨_, rfl⟩
  obtain ⟨HS10, HB10, hw10, hz10⟩ := new1 hW10
  have hl10 := HS10.out.lt
  have g10 := str15 HS10.out
  have gf := fun j => HS10.out.frozen j
  have HS10' := Lib.hid (HS9.out.next HB10.out)
  have g0 := str15 HS10'.out
  have hl0 := HS10'.out.lt
  obtain ⟨W11, hW11⟩ : ∃ W, (((((((((((((((W10).setCell ⟨W9.heap.size, 0, none⟩ (.int .i64 kd)).setCell ⟨W9.heap.size, 1, none⟩ (.int .i64 tx)).setCell ⟨W9.heap.size, 2, none⟩ (.int .i64 pv)).setCell ⟨W9.heap.size, 3, none⟩ (.int .i64 nx)).setCell ⟨W9.heap.size, 4, none⟩ (.slice A9 R c9)).setCell ⟨W9.heap.size, 5, none⟩ (.int .i64 pact)).setCell ⟨W9.heap.size, 6, none⟩ (.string puk)).setCell ⟨W9.heap.size, 7, none⟩ (.int .i64 pst)).setCell ⟨W9.heap.size, 8, none⟩ (.string pk)).setCell ⟨W9.heap.size, 9, none⟩ (.int .i64 pkd)).setCell ⟨W9.heap.size, 10, none⟩ (.slice Ap9 np9 cp9)).setCell ⟨W9.heap.size, 11, none⟩ (.int .i64 plo)).setCell ⟨W9.heap.size, 12, none⟩ (.int .i64 phi)).setCell ⟨W9.heap.size, 13, none⟩ (.int .i64 pva)).setCell ⟨W9.heap.size, 14, none⟩ (.int .i64 pun) = W := ⟨_, rfl⟩
  have hg11 : W10.grownBy W11 (some W9.heap.size) := by rw [← hW11]; exact grown_set (grown_set (grown_set (grown_set (grown_set (grown_set (grown_set (grown_set (grown_set (grown_set (grown_set (grown_set (grown_set (grown_set (grown_set (grown_refl W10 _) 0 _) 1 _) 2 _) 3 _) 4 _) 5 _) 6 _) 7 _) 8 _) 9 _) 10 _) 11 _) 12 _) 13 _) 14 _
  have hres : Str W11 W9.heap.size #[.int .i64 kd, .int .i64 tx, .int .i64 pv, .int .i64 nx, .slice A9 R c9, .int .i64 pact, .string puk, .int .i64 pst, .string pk, .int .i64 pkd, .slice Ap9 np9 cp9, .int .i64 plo, .int .i64 phi, .int .i64 pva, .int .i64 pun] := by
    have := (((((((((((((((HS10.out).set 0 (.int .i64 kd)).set 1 (.int .i64 tx)).set 2 (.int .i64 pv)).set 3 (.int .i64 nx)).set 4 (.slice A9 R c9)).set 5 (.int .i64 pact)).set 6 (.string puk)).set 7 (.int .i64 pst)).set 8 (.string pk)).set 9 (.int .i64 pkd)).set 10 (.slice Ap9 np9 cp9)).set 11 (.int .i64 plo)).set 12 (.int .i64 phi)).set 13 (.int .i64 pva)).set 14 (.int .i64 pun)
    rw [← hW11]; simpa using this
  have hb11 : Below W9.heap.size W9 W11 := below_grown HB10.out hg11 (Nat.le_refl _)
  have HS11 := Lib.hid (HS9.out.next hb11)
  have HR11 := Lib.hid hres
  have HB11 := Lib.hid (bstep HB9.out hb11)
  have HE11 := Lib.hid (HE9.out.next hb11)
  have HY11 := Lib.hid (HY9.out.next hb11)
  have hw11 := hb11.size
  have hlz := hres.lt
  clear hg11 hres hb11 hz10 HE9 HY9 HS10 HB10 HB9
  go_wp2_with fail
  refine (code_any _ _).mono ?_
  rintro e w' ⟨rfl, rfl⟩
  clear g10 gf g0 hl0 hW10 hW11 HS10' HS9 hl9 hl10
  have g0 := str15 HS11.out
  have hl0 := HS11.out.lt
  have g10 := str15 HR11.out
  have hnn : ((n1 : Int) == (n1 : Int)) = true := by simp
  go_wp2_with fail
  refine (RefRec.same_any kd tx pv nx A n c w.heap.size l pact puk Ap np cp w.heap.size pst pk pkd pda plo phi pva pun kd tx pv nx A9 R c9 W11.heap.size l pact puk Ap9 np9 cp9 W11.heap.size pst pk pkd pda plo phi pva pun W11 (HE.out.below HB11.out) HB11.out.size (HP.out.below HB11.out) HB11.out.size HPK.out.1 HPK.out.2 HE11.out (Nat.le_refl _) HY11.out (Nat.le_refl _) HPK.out.1 HPK.out.2).mono ?_
  rintro e W12 ⟨rfl, hb12⟩
  rw [RecP.same_self]
  have HB12 := Lib.hid (bstep HB11.out hb12)
  clear hb12 g10
  go_wp2_with fail
  refine (live_any W12).mono ?_
  rintro e W99 ⟨rfl, hb99⟩
  have HB99 := Lib.hid (bstep HB12.out hb99)
  clear hb99 g0 hl0
  go_wp2
  go_ret
  exact ⟨rfl, HB99.out⟩
theorem walk (v0 v1 : Value) (a0 : RecX) (a1 : List UInt8) (w : World) (g0 : RRec w w.heap.size v0 a0) (g1 : RBytes w w.heap.size v1 a1) :
    Calls Try.prog 3 #[v0, v1] w fun e w' => e = .returned (.bool true) ∧ Below w.heap.size w w' := by
  obtain ⟨A, n, c, Ap, np, cp, rfl, hE, hp, ⟨hpuk, hpk⟩, hui, -, hun, -, -, -, -⟩ := g0
  obtain ⟨kd, tx, pv, nx, l, ⟨pact, puk, ⟨pst, pk, ⟨pkd, pda, plo, phi, pva⟩⟩, pun⟩⟩ := a0
  obtain ⟨Am, nm, cm, rfl, hm⟩ := g1
  dsimp only at *
  cases hmu : (!decide (RefRec.Asked ⟨kd, tx, pv, nx, l, ⟨pact, puk, ⟨pst, pk, ⟨pkd, pda, plo, phi, pva⟩⟩, pun⟩⟩)) with
  | true => exact go1 kd tx pv nx A n c l pact puk Ap np cp pst pk pkd pda plo phi pva pun Am nm cm a1 w hE hp hpk hpuk hun hui hm (Lib.hid hmu)
  | false =>
    by_cases hbig : 300 < nm
    · exact go2 kd tx pv nx A n c l pact puk Ap np cp pst pk pkd pda plo phi pva pun Am nm cm a1 w hE hp hpk hpuk hun hui hm (Lib.hid hmu) hbig
    · cases hr : RecP.right ⟨kd, tx, pv, nx, l, ⟨pact, puk, ⟨pst, pk, ⟨pkd, pda, plo, phi, pva⟩⟩, pun⟩⟩ with
      | false => exact go3 kd tx pv nx A n c l pact puk Ap np cp pst pk pkd pda plo phi pva pun Am nm cm a1 w hE hp hpk hpuk hun hui hm (Lib.hid hmu) (Lib.hid hr) (Lib.hid (RecP.not_right _ hr)) hbig
      | true =>
        cases hf : RecP.fits ⟨kd, tx, pv, nx, l, ⟨pact, puk, ⟨pst, pk, ⟨pkd, pda, plo, phi, pva⟩⟩, pun⟩⟩ with
        | false => exact go4 kd tx pv nx A n c l pact puk Ap np cp pst pk pkd pda plo phi pva pun Am nm cm a1 w hE hp hpk hpuk hun hui hm (Lib.hid hmu) (Lib.hid hr) (Lib.hid hf) hbig
        | true => exact go5 kd tx pv nx A n c l pact puk Ap np cp pst pk pkd pda plo phi pva pun Am nm cm a1 w hE hp hpk hpuk hun hui hm (Lib.hid hmu) (Lib.hid hr) (Lib.hid hf) hbig
end recPuts
end Go.Proofs.Ytiokcemlfdonnaa
