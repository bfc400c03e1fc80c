/-
  Texts of one claim, joined: RecCutsW.
-/
import Derived.Test.YtiokcemlfdonnaaRecG5
import Derived.Test.YtiokcemlfdonnaaRecG14
import Derived.Test.YtiokcemlfdonnaaRecG34
namespace Go.Proofs.Ytiokcemlfdonnaa
open Go.RowKit
set_option linter.unusedVariables false
set_option linter.unusedSimpArgs false
theorem NumP.val_take (l : List UInt8) (k : Nat) (h2 : 2 ≤ k) (hk : k ≤ l.length) : NumP.val (l.take k) 0 2 = NumP.val l 0 2 := by
  unfold NumP.val
  rw [if_pos (by rw [List.length_take]; omega), if_pos (by omega), List.drop_zero, List.drop_zero, List.take_take, Nat.min_eq_left h2]
/-- a record that is cut short is short -/
theorem RecP.cut_short (x : RecX) (k : Nat) (h : k < (RecP.bytes x).length) : k < 2 ∨ (k : Int) < 2 + NumP.val ((RecP.bytes x).take k) 0 2 := by
  by_cases h2 : k < 2
  · exact .inl h2
  · refine .inr ?_
    cases hf : RecP.fits x with
    | false => unfold RecP.bytes at h; rw [hf] at h; simp at h
    | true =>
      have hl := RecP.bytes_length x hf
      have hv := RecP.got_len x [] hf
      rw [List.append_nil] at hv
      rw [NumP.val_take _ _ (by omega) (by omega), hv]
      omega
namespace recCuts
open RecW
attribute [local go_sem ↓] cut_fold
set_option maxRecDepth 100000 in
set_option maxHeartbeats 8000000 in
theorem go1 (kd tx pv nx : Int) (A : Option Addr) (n c : Nat) (l : List PatchX) (pact : Int) (puk : ByteArray) (Ap : Option Addr) (np cp : Nat) (pst : Int) (pk : ByteArray) (pkd : Int) (pda : List UInt8) (plo phi pva : Int) (pun : Int) (kd2 tx2 pv2 nx2 : Int) (A2 : Option Addr) (n2 c2 : Nat) (l2 : List PatchX) (qact : Int) (quk : ByteArray) (Aq : Option Addr) (nq cq : Nat) (qst : Int) (qk : ByteArray) (qkd : Int) (qda : List UInt8) (qlo qhi qva : Int) (qun : Int) (no : Int) (hno : -9223372036854775808 ≤ no ∧ no ≤ 9223372036854775807) (w : World) (hE : Elems PatchE w w.heap.size A n c l) (hp : Bytes w w.heap.size Ap np cp pda) (hpk : pk.size ≤ maxLen) (hpuk : puk.size ≤ maxLen) (hun : In64 pun) (hui : SlotP.In ⟨pst, pk, ⟨pkd, pda, plo, phi, pva⟩⟩) (hE2 : Elems PatchE w w.heap.size A2 n2 c2 l2) (hq : Bytes w w.heap.size Aq nq cq qda) (hqk : qk.size ≤ maxLen) (hquk : quk.size ≤ maxLen) (hun2 : In64 qun) (hui2 : SlotP.In ⟨qst, qk, ⟨qkd, qda, qlo, qhi, qva⟩⟩) (HM : Hid ((!decide (RefRec.Asked ⟨kd, tx, pv, nx, l, ⟨pact, puk, ⟨pst, pk, ⟨pkd, pda, plo, phi, pva⟩⟩, pun⟩⟩)) = true)) :
    Calls Try.prog 5 #[.agg #[.int .i64 kd, .int .i64 tx, .int .i64 pv, .int .i64 nx, .slice A n c, .int .i64 pact, .string puk, .int .i64 pst, .string pk, .int .i64 pkd, .slice Ap np cp, .int .i64 plo, .int .i64 phi, .int .i64 pva, .int .i64 pun], .agg #[.int .i64 kd2, .int .i64 tx2, .int .i64 pv2, .int .i64 nx2, .slice A2 n2 c2, .int .i64 qact, .string quk, .int .i64 qst, .string qk, .int .i64 qkd, .slice Aq nq cq, .int .i64 qlo, .int .i64 qhi, .int .i64 qva, .int .i64 qun], .int .i64 no] w fun e w' => e = .returned (.bool true) ∧ Below w.heap.size w w' := by
  have HE := Lib.hid hE
  have HP := Lib.hid hp
  have HPK := Lib.hid (And.intro hpk hpuk)
  have HUN := Lib.hid (And.intro hun hui)
  clear hE hp hpk hpuk hun hui
  have HE2 := Lib.hid hE2
  have HP2 := Lib.hid hq
  have HPK2 := Lib.hid (And.intro hqk hquk)
  have HUN2 := Lib.hid (And.intro hun2 hui2)
  clear hE2 hq hqk hquk hun2 hui2
  obtain ⟨W0, hW0⟩ : ∃ W, (w.alloc (.cells #[.int .i64 kd, .int .i64 tx, .int .i64 pv, .int .i64 nx, .slice A n c, .int .i64 pact, .string puk, .int .i64 pst, .string pk, .int .i64 pkd, .slice Ap np cp, .int .i64 plo, .int .i64 phi, .int .i64 pva, .int .i64 pun] 31)).alloc (.cells #[.int .i64 kd2, .int .i64 tx2, .int .i64 pv2, .int .i64 nx2, .slice A2 n2 c2, .int .i64 qact, .string quk, .int .i64 qst, .string qk, .int .i64 qkd, .slice Aq nq cq, .int .i64 qlo, .int .i64 qhi, .int .i64 qva, .int .i64 qun] 31) = W := ⟨_, rfl⟩
  obtain ⟨HS0, HS1, HB0, hw0, hz0⟩ := new2 hW0
  have g0 := str15 HS0.out
  have hl0 := HS0.out.lt
  have g1 := str15 HS1.out
  have hl1 := HS1.out.lt
  clear hz0
  go_enter Try.func5, Try.ntmps5
  go_wp2_with fail
  refine Reg.wp_region_vals (R := ext) (W := W0) [Reg.eqv (.agg #[.int .i64 kd, .int .i64 tx, .int .i64 pv, .int .i64 nx, .slice A n c, .int .i64 pact, .string puk, .int .i64 pst, .string pk, .int .i64 pkd, .slice Ap np cp, .int .i64 plo, .int .i64 phi, .int .i64 pva, .int .i64 pun]), Reg.eqv (.bool true), Reg.eqv (.bool true), Reg.eqv undef, Reg.eqv undef, Reg.eqv (.bool true), Reg.eqv (.bool true), Reg.eqv undef, Reg.eqv undef, Reg.eqv undef, Reg.eqv undef, Reg.eqv undef, Reg.eqv undef, Reg.eqv undef, Reg.eqv (.bool true)] 60 [[(3, none)], [(11, some 0)], [(12, some 1)], [(4, none), (13, some 2)], [(14, some 3), (13, some 2)], [(13, some 2), (15, some 4)], [(16, some 5)], [(3, none), (17, some 6)], [(4, none), (17, some 6)], [(18, some 7), (19, some 8), (17, some 6)], [(3, none), (17, some 6)], [(4, none), (17, some 6)], [(21, some 10), (22, some 11), (17, some 6)], [(20, some 9), (23, some 12), (17, some 6)], [(17, some 6), (24, some 13)]] rfl (by kernel_rfl) (by kernel_rfl) (by kernel_rfl) ?_ [some 11, some 12, some 13, some 14, some 15, some 16, some 17, some 18, some 19, some 20, some 21, some 22, some 23, some 24, some 25] (by kernel_rfl) ?_
  · refine ⟨?_, ?_, ?_, ?_, ?_, ?_, ?_, ?_, ?_, ?_, ?_, ?_, ?_, ?_, ?_, trivial⟩
    · intro ax wx hx hs
      obtain ⟨e3, -⟩ := hs
      have g3 := Reg.ev (v := .pointer (some ⟨w.heap.size, 0, none⟩)) e3
      have hx' : Below W0.heap.size W0 wx := hx
      have l0 := str15 (HS0.out.next hx')
      have l1 := str15 (HS1.out.next hx')
      exact Reg.obl_free rfl (Reg.wp_eqv (Option.some_ne_none _) (by go_simp) rfl)
    · intro ax wx hx hs
      obtain ⟨e11, -⟩ := hs
      have g11 := Reg.ev (v := .agg #[.int .i64 kd, .int .i64 tx, .int .i64 pv, .int .i64 nx, .slice A n c, .int .i64 pact, .string puk, .int .i64 pst, .string pk, .int .i64 pkd, .slice Ap np cp, .int .i64 plo, .int .i64 phi, .int .i64 pva, .int .i64 pun]) e11
      refine Reg.obl_free rfl ?_
      have hx' : Below W0.heap.size W0 wx := hx
      go_simp
      refine (RefRec.much_is kd tx pv nx A n c w.heap.size l pact puk Ap np cp w.heap.size pst pk pkd pda plo phi pva pun wx (HE.out.below (bstep HB0.out hx')) (bstep HB0.out hx').size (HP.out.below (bstep HB0.out hx')) (bstep HB0.out hx').size HPK.out.1 HPK.out.2).mono ?_
      rintro e wy ⟨rfl, hby⟩
      rw [HM.out]
      exact Reg.done (Option.some_ne_none _) rfl hby
    · intro ax wx hx hs
      obtain ⟨e12, -⟩ := hs
      have g12 := Reg.ev (v := .bool true) e12
      exact Reg.obl_free rfl (Reg.wp_eqv (Option.some_ne_none _) (by go_simp) rfl)
    · intro ax wx hx hs
      obtain ⟨e4, e13, -⟩ := hs
      have g4 := Reg.ev (v := .pointer (some ⟨w.heap.size + 1, 0, none⟩)) e4
      have g13 := Reg.ev (v := .bool true) e13
      exact Reg.obl_skip rfl rfl e13 rfl rfl
    · intro ax wx hx hs
      obtain ⟨e14, e13, -⟩ := hs
      have g14 := Reg.ev (v := undef) e14
      have g13 := Reg.ev (v := .bool true) e13
      exact Reg.obl_skip rfl rfl e13 rfl rfl
    · intro ax wx hx hs
      obtain ⟨e13, e15, -⟩ := hs
      have g13 := Reg.ev (v := .bool true) e13
      have g15 := Reg.ev (v := undef) e15
      exact Reg.obl_free rfl (Reg.wp_eqv (Option.some_ne_none _) (by go_simp) rfl)
    · intro ax wx hx hs
      obtain ⟨e16, -⟩ := hs
      have g16 := Reg.ev (v := .bool true) e16
      exact Reg.obl_free rfl (Reg.wp_eqv (Option.some_ne_none _) (by go_simp) rfl)
    · intro ax wx hx hs
      obtain ⟨e3, e17, -⟩ := hs
      have g3 := Reg.ev (v := .pointer (some ⟨w.heap.size, 0, none⟩)) e3
      have g17 := Reg.ev (v := .bool true) e17
      exact Reg.obl_skip rfl rfl e17 rfl rfl
    · intro ax wx hx hs
      obtain ⟨e4, e17, -⟩ := hs
      have g4 := Reg.ev (v := .pointer (some ⟨w.heap.size + 1, 0, none⟩)) e4
      have g17 := Reg.ev (v := .bool true) e17
      exact Reg.obl_skip rfl rfl e17 rfl rfl
    · intro ax wx hx hs
      obtain ⟨e18, e19, e17, -⟩ := hs
      have g18 := Reg.ev (v := undef) e18
      have g19 := Reg.ev (v := undef) e19
      have g17 := Reg.ev (v := .bool true) e17
      exact Reg.obl_skip rfl rfl e17 rfl rfl
    · intro ax wx hx hs
      obtain ⟨e3, e17, -⟩ := hs
      have g3 := Reg.ev (v := .pointer (some ⟨w.heap.size, 0, none⟩)) e3
      have g17 := Reg.ev (v := .bool true) e17
      exact Reg.obl_skip rfl rfl e17 rfl rfl
    · intro ax wx hx hs
      obtain ⟨e4, e17, -⟩ := hs
      have g4 := Reg.ev (v := .pointer (some ⟨w.heap.size + 1, 0, none⟩)) e4
      have g17 := Reg.ev (v := .bool true) e17
      exact Reg.obl_skip rfl rfl e17 rfl rfl
    · intro ax wx hx hs
      obtain ⟨e21, e22, e17, -⟩ := hs
      have g21 := Reg.ev (v := undef) e21
      have g22 := Reg.ev (v := undef) e22
      have g17 := Reg.ev (v := .bool true) e17
      exact Reg.obl_skip rfl rfl e17 rfl rfl
    · intro ax wx hx hs
      obtain ⟨e20, e23, e17, -⟩ := hs
      have g20 := Reg.ev (v := undef) e20
      have g23 := Reg.ev (v := undef) e23
      have g17 := Reg.ev (v := .bool true) e17
      exact Reg.obl_skip rfl rfl e17 rfl rfl
    · intro ax wx hx hs
      obtain ⟨e17, e24, -⟩ := hs
      have g17 := Reg.ev (v := .bool true) e17
      have g24 := Reg.ev (v := undef) e24
      exact Reg.obl_free rfl (Reg.wp_eqv (Option.some_ne_none _) (by go_simp) rfl)
  · intro W1 hwf
    simp only [Reg.Fin]
    rintro _ rfl _ rfl _ rfl _ rfl _ rfl _ rfl _ rfl _ rfl _ rfl _ rfl _ rfl _ rfl _ rfl _ rfl _ rfl
    go_simp
    have hwf' : Below W0.heap.size W0 W1 := hwf
    have HS0' := Lib.hid (HS0.out.next hwf')
    have HS1' := Lib.hid (HS1.out.next hwf')
    have HB1 := Lib.hid (bstep HB0.out hwf')
    clear hwf hwf' HS0 HS1 HB0 g0 g1 hl0 hl1
    have g0 := str15 HS0'.out
    have hl0 := HS0'.out.lt
    have g1 := str15 HS1'.out
    have hl1 := HS1'.out.lt
    go_wp2_with fail
    refine (RefRec.much_is kd tx pv nx A n c w.heap.size l pact puk Ap np cp w.heap.size pst pk pkd pda plo phi pva pun W1 (HE.out.below HB1.out) HB1.out.size (HP.out.below HB1.out) HB1.out.size HPK.out.1 HPK.out.2).mono ?_
    rintro e W2 ⟨rfl, hb2⟩
    rw [HM.out]
    have HS0'' := Lib.hid (HS0'.out.next hb2)
    have HS1'' := Lib.hid (HS1'.out.next hb2)
    have HB2 := Lib.hid (bstep HB1.out hb2)
    clear hb2 HS0' HS1' g0 g1 hl0 hl1
    have HS0' := HS0''
    have HS1' := HS1''
    clear HS0'' HS1''
    have g0 := str15 HS0'.out
    have hl0 := HS0'.out.lt
    have g1 := str15 HS1'.out
    have hl1 := HS1'.out.lt
    go_wp2_with fail
    refine (live_any W2).mono ?_
    rintro e W9 ⟨rfl, hb9⟩
    have HB9 := Lib.hid (bstep HB2.out hb9)
    clear hb9 HS0' HS1' g0 g1 hl0 hl1
    go_wp2
    go_ret
    exact ⟨rfl, HB9.out⟩
set_option maxRecDepth 100000 in
set_option maxHeartbeats 8000000 in
theorem go2 (kd tx pv nx : Int) (A : Option Addr) (n c : Nat) (l : List PatchX) (pact : Int) (puk : ByteArray) (Ap : Option Addr) (np cp : Nat) (pst : Int) (pk : ByteArray) (pkd : Int) (pda : List UInt8) (plo phi pva : Int) (pun : Int) (kd2 tx2 pv2 nx2 : Int) (A2 : Option Addr) (n2 c2 : Nat) (l2 : List PatchX) (qact : Int) (quk : ByteArray) (Aq : Option Addr) (nq cq : Nat) (qst : Int) (qk : ByteArray) (qkd : Int) (qda : List UInt8) (qlo qhi qva : Int) (qun : Int) (no : Int) (hno : -9223372036854775808 ≤ no ∧ no ≤ 9223372036854775807) (w : World) (hE : Elems PatchE w w.heap.size A n c l) (hp : Bytes w w.heap.size Ap np cp pda) (hpk : pk.size ≤ maxLen) (hpuk : puk.size ≤ maxLen) (hun : In64 pun) (hui : SlotP.In ⟨pst, pk, ⟨pkd, pda, plo, phi, pva⟩⟩) (hE2 : Elems PatchE w w.heap.size A2 n2 c2 l2) (hq : Bytes w w.heap.size Aq nq cq qda) (hqk : qk.size ≤ maxLen) (hquk : quk.size ≤ maxLen) (hun2 : In64 qun) (hui2 : SlotP.In ⟨qst, qk, ⟨qkd, qda, qlo, qhi, qva⟩⟩) (HM : Hid ((!decide (RefRec.Asked ⟨kd, tx, pv, nx, l, ⟨pact, puk, ⟨pst, pk, ⟨pkd, pda, plo, phi, pva⟩⟩, pun⟩⟩)) = false)) (HM2 : Hid ((!decide (RefRec.Asked ⟨kd2, tx2, pv2, nx2, l2, ⟨qact, quk, ⟨qst, qk, ⟨qkd, qda, qlo, qhi, qva⟩⟩, qun⟩⟩)) = true)) :
    Calls Try.prog 5 #[.agg #[.int .i64 kd, .int .i64 tx, .int .i64 pv, .int .i64 nx, .slice A n c, .int .i64 pact, .string puk, .int .i64 pst, .string pk, .int .i64 pkd, .slice Ap np cp, .int .i64 plo, .int .i64 phi, .int .i64 pva, .int .i64 pun], .agg #[.int .i64 kd2, .int .i64 tx2, .int .i64 pv2, .int .i64 nx2, .slice A2 n2 c2, .int .i64 qact, .string quk, .int .i64 qst, .string qk, .int .i64 qkd, .slice Aq nq cq, .int .i64 qlo, .int .i64 qhi, .int .i64 qva, .int .i64 qun], .int .i64 no] w fun e w' => e = .returned (.bool true) ∧ Below w.heap.size w w' := by
  have HE := Lib.hid hE
  have HP := Lib.hid hp
  have HPK := Lib.hid (And.intro hpk hpuk)
  have HUN := Lib.hid (And.intro hun hui)
  clear hE hp hpk hpuk hun hui
  have HE2 := Lib.hid hE2
  have HP2 := Lib.hid hq
  have HPK2 := Lib.hid (And.intro hqk hquk)
  have HUN2 := Lib.hid (And.intro hun2 hui2)
  clear hE2 hq hqk hquk hun2 hui2
  obtain ⟨W0, hW0⟩ : ∃ W, (w.alloc (.cells #[.int .i64 kd, .int .i64 tx, .int .i64 pv, .int .i64 nx, .slice A n c, .int .i64 pact, .string puk, .int .i64 pst, .string pk, .int .i64 pkd, .slice Ap np cp, .int .i64 plo, .int .i64 phi, .int .i64 pva, .int .i64 pun] 31)).alloc (.cells #[.int .i64 kd2, .int .i64 tx2, .int .i64 pv2, .int .i64 nx2, .slice A2 n2 c2, .int .i64 qact, .string quk, .int .i64 qst, .string qk, .int .i64 qkd, .slice Aq nq cq, .int .i64 qlo, .int .i64 qhi, .int .i64 qva, .int .i64 qun] 31) = W := ⟨_, rfl⟩
  obtain ⟨HS0, HS1, HB0, hw0, hz0⟩ := new2 hW0
  have g0 := str15 HS0.out
  have hl0 := HS0.out.lt
  have g1 := str15 HS1.out
  have hl1 := HS1.out.lt
  clear hz0
  go_enter Try.func5, Try.ntmps5
  go_wp2_with fail
  refine Reg.wp_region_vals (R := ext) (W := W0) [Reg.eqv (.agg #[.int .i64 kd, .int .i64 tx, .int .i64 pv, .int .i64 nx, .slice A n c, .int .i64 pact, .string puk, .int .i64 pst, .string pk, .int .i64 pkd, .slice Ap np cp, .int .i64 plo, .int .i64 phi, .int .i64 pva, .int .i64 pun]), Reg.eqv (.bool false), Reg.eqv (.bool false), Reg.eqv (.agg #[.int .i64 kd2, .int .i64 tx2, .int .i64 pv2, .int .i64 nx2, .slice A2 n2 c2, .int .i64 qact, .string quk, .int .i64 qst, .string qk, .int .i64 qkd, .slice Aq nq cq, .int .i64 qlo, .int .i64 qhi, .int .i64 qva, .int .i64 qun]), Reg.eqv (.bool true), Reg.eqv (.bool true), Reg.eqv (.bool true), Reg.eqv undef, Reg.eqv undef, Reg.eqv undef, Reg.eqv undef, Reg.eqv undef, Reg.eqv undef, Reg.eqv undef, Reg.eqv (.bool true)] 60 [[(3, none)], [(11, some 0)], [(12, some 1)], [(4, none), (13, some 2)], [(14, some 3), (13, some 2)], [(13, some 2), (15, some 4)], [(16, some 5)], [(3, none), (17, some 6)], [(4, none), (17, some 6)], [(18, some 7), (19, some 8), (17, some 6)], [(3, none), (17, some 6)], [(4, none), (17, some 6)], [(21, some 10), (22, some 11), (17, some 6)], [(20, some 9), (23, some 12), (17, some 6)], [(17, some 6), (24, some 13)]] rfl (by kernel_rfl) (by kernel_rfl) (by kernel_rfl) ?_ [some 11, some 12, some 13, some 14, some 15, some 16, some 17, some 18, some 19, some 20, some 21, some 22, some 23, some 24, some 25] (by kernel_rfl) ?_
  · refine ⟨?_, ?_, ?_, ?_, ?_, ?_, ?_, ?_, ?_, ?_, ?_, ?_, ?_, ?_, ?_, trivial⟩
    · intro ax wx hx hs
      obtain ⟨e3, -⟩ := hs
      have g3 := Reg.ev (v := .pointer (some ⟨w.heap.size, 0, none⟩)) e3
      have hx' : Below W0.heap.size W0 wx := hx
      have l0 := str15 (HS0.out.next hx')
      have l1 := str15 (HS1.out.next hx')
      exact Reg.obl_free rfl (Reg.wp_eqv (Option.some_ne_none _) (by go_simp) rfl)
    · intro ax wx hx hs
      obtain ⟨e11, -⟩ := hs
      have g11 := Reg.ev (v := .agg #[.int .i64 kd, .int .i64 tx, .int .i64 pv, .int .i64 nx, .slice A n c, .int .i64 pact, .string puk, .int .i64 pst, .string pk, .int .i64 pkd, .slice Ap np cp, .int .i64 plo, .int .i64 phi, .int .i64 pva, .int .i64 pun]) e11
      refine Reg.obl_free rfl ?_
      have hx' : Below W0.heap.size W0 wx := hx
      go_simp
      refine (RefRec.much_is kd tx pv nx A n c w.heap.size l pact puk Ap np cp w.heap.size pst pk pkd pda plo phi pva pun wx (HE.out.below (bstep HB0.out hx')) (bstep HB0.out hx').size (HP.out.below (bstep HB0.out hx')) (bstep HB0.out hx').size HPK.out.1 HPK.out.2).mono ?_
      rintro e wy ⟨rfl, hby⟩
      rw [HM.out]
      exact Reg.done (Option.some_ne_none _) rfl hby
    · intro ax wx hx hs
      obtain ⟨e12, -⟩ := hs
      have g12 := Reg.ev (v := .bool false) e12
      exact Reg.obl_free rfl (Reg.wp_eqv (Option.some_ne_none _) (by go_simp) rfl)
    · intro ax wx hx hs
      obtain ⟨e4, e13, -⟩ := hs
      have g4 := Reg.ev (v := .pointer (some ⟨w.heap.size + 1, 0, none⟩)) e4
      have g13 := Reg.ev (v := .bool false) e13
      have hx' : Below W0.heap.size W0 wx := hx
      have l0 := str15 (HS0.out.next hx')
      have l1 := str15 (HS1.out.next hx')
      exact Reg.obl_want rfl rfl e13 (Reg.wp_eqv (Option.some_ne_none _) (by go_simp) rfl)
    · intro ax wx hx hs
      obtain ⟨e14, e13, -⟩ := hs
      have g14 := Reg.ev (v := .agg #[.int .i64 kd2, .int .i64 tx2, .int .i64 pv2, .int .i64 nx2, .slice A2 n2 c2, .int .i64 qact, .string quk, .int .i64 qst, .string qk, .int .i64 qkd, .slice Aq nq cq, .int .i64 qlo, .int .i64 qhi, .int .i64 qva, .int .i64 qun]) e14
      have g13 := Reg.ev (v := .bool false) e13
      refine Reg.obl_want rfl rfl e13 ?_
      have hx' : Below W0.heap.size W0 wx := hx
      go_simp
      refine (RefRec.much_is kd2 tx2 pv2 nx2 A2 n2 c2 w.heap.size l2 qact quk Aq nq cq w.heap.size qst qk qkd qda qlo qhi qva qun wx (HE2.out.below (bstep HB0.out hx')) (bstep HB0.out hx').size (HP2.out.below (bstep HB0.out hx')) (bstep HB0.out hx').size HPK2.out.1 HPK2.out.2).mono ?_
      rintro e wy ⟨rfl, hby⟩
      rw [HM2.out]
      exact Reg.done (Option.some_ne_none _) rfl hby
    · intro ax wx hx hs
      obtain ⟨e13, e15, -⟩ := hs
      have g13 := Reg.ev (v := .bool false) e13
      have g15 := Reg.ev (v := .bool true) e15
      exact Reg.obl_free rfl (Reg.wp_eqv (Option.some_ne_none _) (by go_simp) rfl)
    · intro ax wx hx hs
      obtain ⟨e16, -⟩ := hs
      have g16 := Reg.ev (v := .bool true) e16
      exact Reg.obl_free rfl (Reg.wp_eqv (Option.some_ne_none _) (by go_simp) rfl)
    · intro ax wx hx hs
      obtain ⟨e3, e17, -⟩ := hs
      have g3 := Reg.ev (v := .pointer (some ⟨w.heap.size, 0, none⟩)) e3
      have g17 := Reg.ev (v := .bool true) e17
      exact Reg.obl_skip rfl rfl e17 rfl rfl
    · intro ax wx hx hs
      obtain ⟨e4, e17, -⟩ := hs
      have g4 := Reg.ev (v := .pointer (some ⟨w.heap.size + 1, 0, none⟩)) e4
      have g17 := Reg.ev (v := .bool true) e17
      exact Reg.obl_skip rfl rfl e17 rfl rfl
    · intro ax wx hx hs
      obtain ⟨e18, e19, e17, -⟩ := hs
      have g18 := Reg.ev (v := undef) e18
      have g19 := Reg.ev (v := undef) e19
      have g17 := Reg.ev (v := .bool true) e17
      exact Reg.obl_skip rfl rfl e17 rfl rfl
    · intro ax wx hx hs
      obtain ⟨e3, e17, -⟩ := hs
      have g3 := Reg.ev (v := .pointer (some ⟨w.heap.size, 0, none⟩)) e3
      have g17 := Reg.ev (v := .bool true) e17
      exact Reg.obl_skip rfl rfl e17 rfl rfl
    · intro ax wx hx hs
      obtain ⟨e4, e17, -⟩ := hs
      have g4 := Reg.ev (v := .pointer (some ⟨w.heap.size + 1, 0, none⟩)) e4
      have g17 := Reg.ev (v := .bool true) e17
      exact Reg.obl_skip rfl rfl e17 rfl rfl
    · intro ax wx hx hs
      obtain ⟨e21, e22, e17, -⟩ := hs
      have g21 := Reg.ev (v := undef) e21
      have g22 := Reg.ev (v := undef) e22
      have g17 := Reg.ev (v := .bool true) e17
      exact Reg.obl_skip rfl rfl e17 rfl rfl
    · intro ax wx hx hs
      obtain ⟨e20, e23, e17, -⟩ := hs
      have g20 := Reg.ev (v := undef) e20
      have g23 := Reg.ev (v := undef) e23
      have g17 := Reg.ev (v := .bool true) e17
      exact Reg.obl_skip rfl rfl e17 rfl rfl
    · intro ax wx hx hs
      obtain ⟨e17, e24, -⟩ := hs
      have g17 := Reg.ev (v := .bool true) e17
      have g24 := Reg.ev (v := undef) e24
      exact Reg.obl_free rfl (Reg.wp_eqv (Option.some_ne_none _) (by go_simp) rfl)
  · intro W1 hwf
    simp only [Reg.Fin]
    rintro _ rfl _ rfl _ rfl _ rfl _ rfl _ rfl _ rfl _ rfl _ rfl _ rfl _ rfl _ rfl _ rfl _ rfl _ rfl
    go_simp
    have hwf' : Below W0.heap.size W0 W1 := hwf
    have HS0' := Lib.hid (HS0.out.next hwf')
    have HS1' := Lib.hid (HS1.out.next hwf')
    have HB1 := Lib.hid (bstep HB0.out hwf')
    clear hwf hwf' HS0 HS1 HB0 g0 g1 hl0 hl1
    have g0 := str15 HS0'.out
    have hl0 := HS0'.out.lt
    have g1 := str15 HS1'.out
    have hl1 := HS1'.out.lt
    go_wp2_with fail
    refine (RefRec.much_is kd tx pv nx A n c w.heap.size l pact puk Ap np cp w.heap.size pst pk pkd pda plo phi pva pun W1 (HE.out.below HB1.out) HB1.out.size (HP.out.below HB1.out) HB1.out.size HPK.out.1 HPK.out.2).mono ?_
    rintro e W2 ⟨rfl, hb2⟩
    rw [HM.out]
    have HS0'' := Lib.hid (HS0'.out.next hb2)
    have HS1'' := Lib.hid (HS1'.out.next hb2)
    have HB2 := Lib.hid (bstep HB1.out hb2)
    clear hb2 HS0' HS1' g0 g1 hl0 hl1
    have HS0' := HS0''
    have HS1' := HS1''
    clear HS0'' HS1''
    have g0 := str15 HS0'.out
    have hl0 := HS0'.out.lt
    have g1 := str15 HS1'.out
    have hl1 := HS1'.out.lt
    go_wp2_with fail
    refine (RefRec.much_is kd2 tx2 pv2 nx2 A2 n2 c2 w.heap.size l2 qact quk Aq nq cq w.heap.size qst qk qkd qda qlo qhi qva qun W2 (HE2.out.below HB2.out) HB2.out.size (HP2.out.below HB2.out) HB2.out.size HPK2.out.1 HPK2.out.2).mono ?_
    rintro e W3 ⟨rfl, hb3⟩
    rw [HM2.out]
    have HS0'' := Lib.hid (HS0'.out.next hb3)
    have HS1'' := Lib.hid (HS1'.out.next hb3)
    have HB3 := Lib.hid (bstep HB2.out hb3)
    clear hb3 HS0' HS1' g0 g1 hl0 hl1
    have HS0' := HS0''
    have HS1' := HS1''
    clear HS0'' HS1''
    have g0 := str15 HS0'.out
    have hl0 := HS0'.out.lt
    have g1 := str15 HS1'.out
    have hl1 := HS1'.out.lt
    go_wp2_with fail
    refine (live_any W3).mono ?_
    rintro e W9 ⟨rfl, hb9⟩
    have HB9 := Lib.hid (bstep HB3.out hb9)
    clear hb9 HS0' HS1' g0 g1 hl0 hl1
    go_wp2
    go_ret
    exact ⟨rfl, HB9.out⟩
set_option maxRecDepth 100000 in
set_option maxHeartbeats 8000000 in
theorem go3 (kd tx pv nx : Int) (A : Option Addr) (n c : Nat) (l : List PatchX) (pact : Int) (puk : ByteArray) (Ap : Option Addr) (np cp : Nat) (pst : Int) (pk : ByteArray) (pkd : Int) (pda : List UInt8) (plo phi pva : Int) (pun : Int) (kd2 tx2 pv2 nx2 : Int) (A2 : Option Addr) (n2 c2 : Nat) (l2 : List PatchX) (qact : Int) (quk : ByteArray) (Aq : Option Addr) (nq cq : Nat) (qst : Int) (qk : ByteArray) (qkd : Int) (qda : List UInt8) (qlo qhi qva : Int) (qun : Int) (no : Int) (hno : -9223372036854775808 ≤ no ∧ no ≤ 9223372036854775807) (w : World) (hE : Elems PatchE w w.heap.size A n c l) (hp : Bytes w w.heap.size Ap np cp pda) (hpk : pk.size ≤ maxLen) (hpuk : puk.size ≤ maxLen) (hun : In64 pun) (hui : SlotP.In ⟨pst, pk, ⟨pkd, pda, plo, phi, pva⟩⟩) (hE2 : Elems PatchE w w.heap.size A2 n2 c2 l2) (hq : Bytes w w.heap.size Aq nq cq qda) (hqk : qk.size ≤ maxLen) (hquk : quk.size ≤ maxLen) (hun2 : In64 qun) (hui2 : SlotP.In ⟨qst, qk, ⟨qkd, qda, qlo, qhi, qva⟩⟩) (HM : Hid ((!decide (RefRec.Asked ⟨kd, tx, pv, nx, l, ⟨pact, puk, ⟨pst, pk, ⟨pkd, pda, plo, phi, pva⟩⟩, pun⟩⟩)) = false)) (HM2 : Hid ((!decide (RefRec.Asked ⟨kd2, tx2, pv2, nx2, l2, ⟨qact, quk, ⟨qst, qk, ⟨qkd, qda, qlo, qhi, qva⟩⟩, qun⟩⟩)) = false)) (HSS : Hid (RecP.same ⟨kd, tx, pv, nx, l, ⟨pact, puk, ⟨pst, pk, ⟨pkd, pda, plo, phi, pva⟩⟩, pun⟩⟩ ⟨kd2, tx2, pv2, nx2, l2, ⟨qact, quk, ⟨qst, qk, ⟨qkd, qda, qlo, qhi, qva⟩⟩, qun⟩⟩ = true)) :
    Calls Try.prog 5 #[.agg #[.int .i64 kd, .int .i64 tx, .int .i64 pv, .int .i64 nx, .slice A n c, .int .i64 pact, .string puk, .int .i64 pst, .string pk, .int .i64 pkd, .slice Ap np cp, .int .i64 plo, .int .i64 phi, .int .i64 pva, .int .i64 pun], .agg #[.int .i64 kd2, .int .i64 tx2, .int .i64 pv2, .int .i64 nx2, .slice A2 n2 c2, .int .i64 qact, .string quk, .int .i64 qst, .string qk, .int .i64 qkd, .slice Aq nq cq, .int .i64 qlo, .int .i64 qhi, .int .i64 qva, .int .i64 qun], .int .i64 no] w fun e w' => e = .returned (.bool true) ∧ Below w.heap.size w w' := by
  have HE := Lib.hid hE
  have HP := Lib.hid hp
  have HPK := Lib.hid (And.intro hpk hpuk)
  have HUN := Lib.hid (And.intro hun hui)
  clear hE hp hpk hpuk hun hui
  have HE2 := Lib.hid hE2
  have HP2 := Lib.hid hq
  have HPK2 := Lib.hid (And.intro hqk hquk)
  have HUN2 := Lib.hid (And.intro hun2 hui2)
  clear hE2 hq hqk hquk hun2 hui2
  obtain ⟨W0, hW0⟩ : ∃ W, (w.alloc (.cells #[.int .i64 kd, .int .i64 tx, .int .i64 pv, .int .i64 nx, .slice A n c, .int .i64 pact, .string puk, .int .i64 pst, .string pk, .int .i64 pkd, .slice Ap np cp, .int .i64 plo, .int .i64 phi, .int .i64 pva, .int .i64 pun] 31)).alloc (.cells #[.int .i64 kd2, .int .i64 tx2, .int .i64 pv2, .int .i64 nx2, .slice A2 n2 c2, .int .i64 qact, .string quk, .int .i64 qst, .string qk, .int .i64 qkd, .slice Aq nq cq, .int .i64 qlo, .int .i64 qhi, .int .i64 qva, .int .i64 qun] 31) = W := ⟨_, rfl⟩
  obtain ⟨HS0, HS1, HB0, hw0, hz0⟩ := new2 hW0
  have g0 := str15 HS0.out
  have hl0 := HS0.out.lt
  have g1 := str15 HS1.out
  have hl1 := HS1.out.lt
  clear hz0
  go_enter Try.func5, Try.ntmps5
  go_wp2_with fail
  refine Reg.wp_region_vals (R := ext) (W := W0) [Reg.eqv (.agg #[.int .i64 kd, .int .i64 tx, .int .i64 pv, .int .i64 nx, .slice A n c, .int .i64 pact, .string puk, .int .i64 pst, .string pk, .int .i64 pkd, .slice Ap np cp, .int .i64 plo, .int .i64 phi, .int .i64 pva, .int .i64 pun]), Reg.eqv (.bool false), Reg.eqv (.bool false), Reg.eqv (.agg #[.int .i64 kd2, .int .i64 tx2, .int .i64 pv2, .int .i64 nx2, .slice A2 n2 c2, .int .i64 qact, .string quk, .int .i64 qst, .string qk, .int .i64 qkd, .slice Aq nq cq, .int .i64 qlo, .int .i64 qhi, .int .i64 qva, .int .i64 qun]), Reg.eqv (.bool false), Reg.eqv (.bool false), Reg.eqv (.bool false), Reg.eqv (.agg #[.int .i64 kd, .int .i64 tx, .int .i64 pv, .int .i64 nx, .slice A n c, .int .i64 pact, .string puk, .int .i64 pst, .string pk, .int .i64 pkd, .slice Ap np cp, .int .i64 plo, .int .i64 phi, .int .i64 pva, .int .i64 pun]), Reg.eqv (.agg #[.int .i64 kd2, .int .i64 tx2, .int .i64 pv2, .int .i64 nx2, .slice A2 n2 c2, .int .i64 qact, .string quk, .int .i64 qst, .string qk, .int .i64 qkd, .slice Aq nq cq, .int .i64 qlo, .int .i64 qhi, .int .i64 qva, .int .i64 qun]), Reg.eqv (.bool true), Reg.eqv (.agg #[.int .i64 kd, .int .i64 tx, .int .i64 pv, .int .i64 nx, .slice A n c, .int .i64 pact, .string puk, .int .i64 pst, .string pk, .int .i64 pkd, .slice Ap np cp, .int .i64 plo, .int .i64 phi, .int .i64 pva, .int .i64 pun]), Reg.eqv (.agg #[.int .i64 kd2, .int .i64 tx2, .int .i64 pv2, .int .i64 nx2, .slice A2 n2 c2, .int .i64 qact, .string quk, .int .i64 qst, .string qk, .int .i64 qkd, .slice Aq nq cq, .int .i64 qlo, .int .i64 qhi, .int .i64 qva, .int .i64 qun]), Reg.eqv (.bool true), Reg.eqv (.bool false), Reg.eqv (.bool false)] 60 [[(3, none)], [(11, some 0)], [(12, some 1)], [(4, none), (13, some 2)], [(14, some 3), (13, some 2)], [(13, some 2), (15, some 4)], [(16, some 5)], [(3, none), (17, some 6)], [(4, none), (17, some 6)], [(18, some 7), (19, some 8), (17, some 6)], [(3, none), (17, some 6)], [(4, none), (17, some 6)], [(21, some 10), (22, some 11), (17, some 6)], [(20, some 9), (23, some 12), (17, some 6)], [(17, some 6), (24, some 13)]] rfl (by kernel_rfl) (by kernel_rfl) (by kernel_rfl) ?_ [some 11, some 12, some 13, some 14, some 15, some 16, some 17, some 18, some 19, some 20, some 21, some 22, some 23, some 24, some 25] (by kernel_rfl) ?_
  · refine ⟨?_, ?_, ?_, ?_, ?_, ?_, ?_, ?_, ?_, ?_, ?_, ?_, ?_, ?_, ?_, trivial⟩
    · intro ax wx hx hs
      obtain ⟨e3, -⟩ := hs
      have g3 := Reg.ev (v := .pointer (some ⟨w.heap.size, 0, none⟩)) e3
      have hx' : Below W0.heap.size W0 wx := hx
      have l0 := str15 (HS0.out.next hx')
      have l1 := str15 (HS1.out.next hx')
      exact Reg.obl_free rfl (Reg.wp_eqv (Option.some_ne_none _) (by go_simp) rfl)
    · intro ax wx hx hs
      obtain ⟨e11, -⟩ := hs
      have g11 := Reg.ev (v := .agg #[.int .i64 kd, .int .i64 tx, .int .i64 pv, .int .i64 nx, .slice A n c, .int .i64 pact, .string puk, .int .i64 pst, .string pk, .int .i64 pkd, .slice Ap np cp, .int .i64 plo, .int .i64 phi, .int .i64 pva, .int .i64 pun]) e11
      refine Reg.obl_free rfl ?_
      have hx' : Below W0.heap.size W0 wx := hx
      go_simp
      refine (RefRec.much_is kd tx pv nx A n c w.heap.size l pact puk Ap np cp w.heap.size pst pk pkd pda plo phi pva pun wx (HE.out.below (bstep HB0.out hx')) (bstep HB0.out hx').size (HP.out.below (bstep HB0.out hx')) (bstep HB0.out hx').size HPK.out.1 HPK.out.2).mono ?_
      rintro e wy ⟨rfl, hby⟩
      rw [HM.out]
      exact Reg.done (Option.some_ne_none _) rfl hby
    · intro ax wx hx hs
      obtain ⟨e12, -⟩ := hs
      have g12 := Reg.ev (v := .bool false) e12
      exact Reg.obl_free rfl (Reg.wp_eqv (Option.some_ne_none _) (by go_simp) rfl)
    · intro ax wx hx hs
      obtain ⟨e4, e13, -⟩ := hs
      have g4 := Reg.ev (v := .pointer (some ⟨w.heap.size + 1, 0, none⟩)) e4
      have g13 := Reg.ev (v := .bool false) e13
      have hx' : Below W0.heap.size W0 wx := hx
      have l0 := str15 (HS0.out.next hx')
      have l1 := str15 (HS1.out.next hx')
      exact Reg.obl_want rfl rfl e13 (Reg.wp_eqv (Option.some_ne_none _) (by go_simp) rfl)
    · intro ax wx hx hs
      obtain ⟨e14, e13, -⟩ := hs
      have g14 := Reg.ev (v := .agg #[.int .i64 kd2, .int .i64 tx2, .int .i64 pv2, .int .i64 nx2, .slice A2 n2 c2, .int .i64 qact, .string quk, .int .i64 qst, .string qk, .int .i64 qkd, .slice Aq nq cq, .int .i64 qlo, .int .i64 qhi, .int .i64 qva, .int .i64 qun]) e14
      have g13 := Reg.ev (v := .bool false) e13
      refine Reg.obl_want rfl rfl e13 ?_
      have hx' : Below W0.heap.size W0 wx := hx
      go_simp
      refine (RefRec.much_is kd2 tx2 pv2 nx2 A2 n2 c2 w.heap.size l2 qact quk Aq nq cq w.heap.size qst qk qkd qda qlo qhi qva qun wx (HE2.out.below (bstep HB0.out hx')) (bstep HB0.out hx').size (HP2.out.below (bstep HB0.out hx')) (bstep HB0.out hx').size HPK2.out.1 HPK2.out.2).mono ?_
      rintro e wy ⟨rfl, hby⟩
      rw [HM2.out]
      exact Reg.done (Option.some_ne_none _) rfl hby
    · intro ax wx hx hs
      obtain ⟨e13, e15, -⟩ := hs
      have g13 := Reg.ev (v := .bool false) e13
      have g15 := Reg.ev (v := .bool false) e15
      exact Reg.obl_free rfl (Reg.wp_eqv (Option.some_ne_none _) (by go_simp) rfl)
    · intro ax wx hx hs
      obtain ⟨e16, -⟩ := hs
      have g16 := Reg.ev (v := .bool false) e16
      exact Reg.obl_free rfl (Reg.wp_eqv (Option.some_ne_none _) (by go_simp) rfl)
    · intro ax wx hx hs
      obtain ⟨e3, e17, -⟩ := hs
      have g3 := Reg.ev (v := .pointer (some ⟨w.heap.size, 0, none⟩)) e3
      have g17 := Reg.ev (v := .bool false) e17
      have hx' : Below W0.heap.size W0 wx := hx
      have l0 := str15 (HS0.out.next hx')
      have l1 := str15 (HS1.out.next hx')
      exact Reg.obl_want rfl rfl e17 (Reg.wp_eqv (Option.some_ne_none _) (by go_simp) rfl)
    · intro ax wx hx hs
      obtain ⟨e4, e17, -⟩ := hs
      have g4 := Reg.ev (v := .pointer (some ⟨w.heap.size + 1, 0, none⟩)) e4
      have g17 := Reg.ev (v := .bool false) e17
      have hx' : Below W0.heap.size W0 wx := hx
      have l0 := str15 (HS0.out.next hx')
      have l1 := str15 (HS1.out.next hx')
      exact Reg.obl_want rfl rfl e17 (Reg.wp_eqv (Option.some_ne_none _) (by go_simp) rfl)
    · intro ax wx hx hs
      obtain ⟨e18, e19, e17, -⟩ := hs
      have g18 := Reg.ev (v := .agg #[.int .i64 kd, .int .i64 tx, .int .i64 pv, .int .i64 nx, .slice A n c, .int .i64 pact, .string puk, .int .i64 pst, .string pk, .int .i64 pkd, .slice Ap np cp, .int .i64 plo, .int .i64 phi, .int .i64 pva, .int .i64 pun]) e18
      have g19 := Reg.ev (v := .agg #[.int .i64 kd2, .int .i64 tx2, .int .i64 pv2, .int .i64 nx2, .slice A2 n2 c2, .int .i64 qact, .string quk, .int .i64 qst, .string qk, .int .i64 qkd, .slice Aq nq cq, .int .i64 qlo, .int .i64 qhi, .int .i64 qva, .int .i64 qun]) e19
      have g17 := Reg.ev (v := .bool false) e17
      refine Reg.obl_want rfl rfl e17 ?_
      have hx' : Below W0.heap.size W0 wx := hx
      go_simp
      refine (RecW.same_any kd tx pv nx A n c w.heap.size l pact puk Ap np cp w.heap.size pst pk pkd pda plo phi pva pun kd2 tx2 pv2 nx2 A2 n2 c2 w.heap.size l2 qact quk Aq nq cq w.heap.size qst qk qkd qda qlo qhi qva qun wx (HE.out.below (bstep HB0.out hx')) (bstep HB0.out hx').size (HP.out.below (bstep HB0.out hx')) (bstep HB0.out hx').size HPK.out.1 HPK.out.2 (HE2.out.below (bstep HB0.out hx')) (bstep HB0.out hx').size (HP2.out.below (bstep HB0.out hx')) (bstep HB0.out hx').size HPK2.out.1 HPK2.out.2).mono ?_
      rintro e wy ⟨rfl, hby⟩
      rw [HSS.out]
      exact Reg.done (Option.some_ne_none _) rfl hby
    · intro ax wx hx hs
      obtain ⟨e3, e17, -⟩ := hs
      have g3 := Reg.ev (v := .pointer (some ⟨w.heap.size, 0, none⟩)) e3
      have g17 := Reg.ev (v := .bool false) e17
      have hx' : Below W0.heap.size W0 wx := hx
      have l0 := str15 (HS0.out.next hx')
      have l1 := str15 (HS1.out.next hx')
      exact Reg.obl_want rfl rfl e17 (Reg.wp_eqv (Option.some_ne_none _) (by go_simp) rfl)
    · intro ax wx hx hs
      obtain ⟨e4, e17, -⟩ := hs
      have g4 := Reg.ev (v := .pointer (some ⟨w.heap.size + 1, 0, none⟩)) e4
      have g17 := Reg.ev (v := .bool false) e17
      have hx' : Below W0.heap.size W0 wx := hx
      have l0 := str15 (HS0.out.next hx')
      have l1 := str15 (HS1.out.next hx')
      exact Reg.obl_want rfl rfl e17 (Reg.wp_eqv (Option.some_ne_none _) (by go_simp) rfl)
    · intro ax wx hx hs
      obtain ⟨e21, e22, e17, -⟩ := hs
      have g21 := Reg.ev (v := .agg #[.int .i64 kd, .int .i64 tx, .int .i64 pv, .int .i64 nx, .slice A n c, .int .i64 pact, .string puk, .int .i64 pst, .string pk, .int .i64 pkd, .slice Ap np cp, .int .i64 plo, .int .i64 phi, .int .i64 pva, .int .i64 pun]) e21
      have g22 := Reg.ev (v := .agg #[.int .i64 kd2, .int .i64 tx2, .int .i64 pv2, .int .i64 nx2, .slice A2 n2 c2, .int .i64 qact, .string quk, .int .i64 qst, .string qk, .int .i64 qkd, .slice Aq nq cq, .int .i64 qlo, .int .i64 qhi, .int .i64 qva, .int .i64 qun]) e22
      have g17 := Reg.ev (v := .bool false) e17
      refine Reg.obl_want rfl rfl e17 ?_
      have hx' : Below W0.heap.size W0 wx := hx
      go_simp
      refine (RefRec.same_any kd tx pv nx A n c w.heap.size l pact puk Ap np cp w.heap.size pst pk pkd pda plo phi pva pun kd2 tx2 pv2 nx2 A2 n2 c2 w.heap.size l2 qact quk Aq nq cq w.heap.size qst qk qkd qda qlo qhi qva qun wx (HE.out.below (bstep HB0.out hx')) (bstep HB0.out hx').size (HP.out.below (bstep HB0.out hx')) (bstep HB0.out hx').size HPK.out.1 HPK.out.2 (HE2.out.below (bstep HB0.out hx')) (bstep HB0.out hx').size (HP2.out.below (bstep HB0.out hx')) (bstep HB0.out hx').size HPK2.out.1 HPK2.out.2).mono ?_
      rintro e wy ⟨rfl, hby⟩
      rw [HSS.out]
      exact Reg.done (Option.some_ne_none _) rfl hby
    · intro ax wx hx hs
      obtain ⟨e20, e23, e17, -⟩ := hs
      have g20 := Reg.ev (v := .bool true) e20
      have g23 := Reg.ev (v := .bool true) e23
      have g17 := Reg.ev (v := .bool false) e17
      exact Reg.obl_want rfl rfl e17 (Reg.wp_eqv (Option.some_ne_none _) (by go_simp) rfl)
    · intro ax wx hx hs
      obtain ⟨e17, e24, -⟩ := hs
      have g17 := Reg.ev (v := .bool false) e17
      have g24 := Reg.ev (v := .bool false) e24
      exact Reg.obl_free rfl (Reg.wp_eqv (Option.some_ne_none _) (by go_simp) rfl)
  · intro W1 hwf
    simp only [Reg.Fin]
    rintro _ rfl _ rfl _ rfl _ rfl _ rfl _ rfl _ rfl _ rfl _ rfl _ rfl _ rfl _ rfl _ rfl _ rfl _ rfl
    go_simp
    have hwf' : Below W0.heap.size W0 W1 := hwf
    have HS0' := Lib.hid (HS0.out.next hwf')
    have HS1' := Lib.hid (HS1.out.next hwf')
    have HB1 := Lib.hid (bstep HB0.out hwf')
    clear hwf hwf' HS0 HS1 HB0 g0 g1 hl0 hl1
    have g0 := str15 HS0'.out
    have hl0 := HS0'.out.lt
    have g1 := str15 HS1'.out
    have hl1 := HS1'.out.lt
    go_wp2_with fail
    refine (put_any kd tx pv nx A n c w.heap.size l pact puk Ap np cp w.heap.size pst pk pkd pda plo phi pva pun W1 (HE.out.below HB1.out) HB1.out.size (HP.out.below HB1.out) HB1.out.size HPK.out.1 HPK.out.2).mono ?_
    rintro e W2 ⟨A1, n1, c1, rfl, hy1, hb2⟩
    have HB2 := Lib.hid (bstep HB1.out hb2)
    have hln1 := hy1.len
    have hnc1 := hy1.2.1
    have hcm1 := hy1.2.2.1
    unfold maxLen at hcm1
    have hw2 := HB2.out.size
    have HY1 := Lib.hid hy1
    have HLN1 := Lib.hid hln1
    clear hb2 hy1 hln1 HB1 HS0' HS1' g0 g1 hl0 hl1
    by_cases h0 : no < 0
    · have hd0 : decide (no < 0) = true := by simpa using h0
      go_wp2_with fail
      refine (live_any W2).mono ?_
      rintro e W9 ⟨rfl, hb9⟩
      have HB9 := Lib.hid (bstep HB2.out hb9)
      clear hb9
      go_wp2
      go_ret
      exact ⟨rfl, HB9.out⟩
    have hd0 : decide (no < 0) = false := by simpa using h0
    obtain ⟨k, rfl⟩ : ∃ k : Nat, no = (k : Int) := ⟨no.toNat, by omega⟩
    by_cases h1 : n1 ≤ k
    · have hd1 : decide ((n1 : Int) ≤ (k : Int)) = true := by simp; omega
      go_wp2_with fail
      refine (live_any W2).mono ?_
      rintro e W9 ⟨rfl, hb9⟩
      have HB9 := Lib.hid (bstep HB2.out hb9)
      clear hb9
      go_wp2
      go_ret
      exact ⟨rfl, HB9.out⟩
    have hd1 : decide ((n1 : Int) ≤ (k : Int)) = false := by simp; omega
    have hs := RecP.cut_short ⟨kd, tx, pv, nx, l, ⟨pact, puk, ⟨pst, pk, ⟨pkd, pda, plo, phi, pva⟩⟩, pun⟩⟩ k (by rw [HLN1.out]; omega)
    have hc := HY1.out.cut 0 k c1 (Nat.zero_le _) (by omega) (by omega) (Nat.le_refl _)
    rw [List.drop_zero, Nat.sub_zero, Nat.sub_zero] at hc
    have HC := Lib.hid (And.intro hc hs)
    have q1 : (k : Int) ≤ (c1 : Int) := by omega
    clear hc hs h0 hno HY1 HLN1
    go_wp2_with fail
    refine (get_short ((RecP.bytes ⟨kd, tx, pv, nx, l, ⟨pact, puk, ⟨pst, pk, ⟨pkd, pda, plo, phi, pva⟩⟩, pun⟩⟩).take k) _ k c1 W2.heap.size W2 HC.out.1 (Nat.le_refl _) HC.out.2).mono ?_
    rintro e W3 ⟨rfl, hb3⟩
    have HB3 := Lib.hid (bstep HB2.out hb3)
    have hw3 := HB3.out.size
    clear hb3
    obtain ⟨W4, hW4⟩ : ∃ W, W3.alloc (.cells #[.int .i64 0, .int .i64 0, .int .i64 0, .int .i64 0, .slice none 0 0, .int .i64 0, .string ⟨#[]⟩, .int .i64 0, .string ⟨#[]⟩, .int .i64 0, .slice none 0 0, .int .i64 0, .int .i64 0, .int .i64 0, .int .i64 0] 31) = W := ⟨_, rfl⟩
    obtain ⟨HS4, HB4, hw4, hz4⟩ := new1 hW4
    have hl4 := HS4.out.lt
    have g4 := str15 HS4.out
    have gf := fun j => HS4.out.frozen j
    obtain ⟨W8, hW8⟩ : ∃ W, (((((((((((((((W4).setCell ⟨W3.heap.size, 0, none⟩ (.int .i64 0)).setCell ⟨W3.heap.size, 1, none⟩ (.int .i64 0)).setCell ⟨W3.heap.size, 2, none⟩ (.int .i64 0)).setCell ⟨W3.heap.size, 3, none⟩ (.int .i64 0)).setCell ⟨W3.heap.size, 4, none⟩ (.slice none 0 0)).setCell ⟨W3.heap.size, 5, none⟩ (.int .i64 0)).setCell ⟨W3.heap.size, 6, none⟩ (.string ⟨#[]⟩)).setCell ⟨W3.heap.size, 7, none⟩ (.int .i64 0)).setCell ⟨W3.heap.size, 8, none⟩ (.string ⟨#[]⟩)).setCell ⟨W3.heap.size, 9, none⟩ (.int .i64 0)).setCell ⟨W3.heap.size, 10, none⟩ (.slice none 0 0)).setCell ⟨W3.heap.size, 11, none⟩ (.int .i64 0)).setCell ⟨W3.heap.size, 12, none⟩ (.int .i64 0)).setCell ⟨W3.heap.size, 13, none⟩ (.int .i64 0)).setCell ⟨W3.heap.size, 14, none⟩ (.int .i64 0) = W := ⟨_, rfl⟩
    have hg8 : W4.grownBy W8 (some W3.heap.size) := by rw [← hW8]; exact grown_set (grown_set (grown_set (grown_set (grown_set (grown_set (grown_set (grown_set (grown_set (grown_set (grown_set (grown_set (grown_set (grown_set (grown_set (grown_refl W4 _) 0 _) 1 _) 2 _) 3 _) 4 _) 5 _) 6 _) 7 _) 8 _) 9 _) 10 _) 11 _) 12 _) 13 _) 14 _
    have HB8 := Lib.hid (below_grown (bstep HB3.out HB4.out) hg8 hw3)
    clear hg8 hz4
    go_wp2_with fail
    refine (code_any _ _).mono ?_
    rintro e w' ⟨rfl, rfl⟩
    go_wp2_with fail
    refine (live_any W8).mono ?_
    rintro e W9 ⟨rfl, hb9⟩
    have HB9 := Lib.hid (bstep HB8.out hb9)
    clear hb9 g4 gf hl4
    go_wp2
    go_ret
    exact ⟨rfl, HB9.out⟩
set_option maxRecDepth 100000 in
set_option maxHeartbeats 8000000 in
theorem go4 (kd tx pv nx : Int) (A : Option Addr) (n c : Nat) (l : List PatchX) (pact : Int) (puk : ByteArray) (Ap : Option Addr) (np cp : Nat) (pst : Int) (pk : ByteArray) (pkd : Int) (pda : List UInt8) (plo phi pva : Int) (pun : Int) (kd2 tx2 pv2 nx2 : Int) (A2 : Option Addr) (n2 c2 : Nat) (l2 : List PatchX) (qact : Int) (quk : ByteArray) (Aq : Option Addr) (nq cq : Nat) (qst : Int) (qk : ByteArray) (qkd : Int) (qda : List UInt8) (qlo qhi qva : Int) (qun : Int) (no : Int) (hno : -9223372036854775808 ≤ no ∧ no ≤ 9223372036854775807) (w : World) (hE : Elems PatchE w w.heap.size A n c l) (hp : Bytes w w.heap.size Ap np cp pda) (hpk : pk.size ≤ maxLen) (hpuk : puk.size ≤ maxLen) (hun : In64 pun) (hui : SlotP.In ⟨pst, pk, ⟨pkd, pda, plo, phi, pva⟩⟩) (hE2 : Elems PatchE w w.heap.size A2 n2 c2 l2) (hq : Bytes w w.heap.size Aq nq cq qda) (hqk : qk.size ≤ maxLen) (hquk : quk.size ≤ maxLen) (hun2 : In64 qun) (hui2 : SlotP.In ⟨qst, qk, ⟨qkd, qda, qlo, qhi, qva⟩⟩) (HM : Hid ((!decide (RefRec.Asked ⟨kd, tx, pv, nx, l, ⟨pact, puk, ⟨pst, pk, ⟨pkd, pda, plo, phi, pva⟩⟩, pun⟩⟩)) = false)) (HM2 : Hid ((!decide (RefRec.Asked ⟨kd2, tx2, pv2, nx2, l2, ⟨qact, quk, ⟨qst, qk, ⟨qkd, qda, qlo, qhi, qva⟩⟩, qun⟩⟩)) = false)) (HSS : Hid (RecP.same ⟨kd, tx, pv, nx, l, ⟨pact, puk, ⟨pst, pk, ⟨pkd, pda, plo, phi, pva⟩⟩, pun⟩⟩ ⟨kd2, tx2, pv2, nx2, l2, ⟨qact, quk, ⟨qst, qk, ⟨qkd, qda, qlo, qhi, qva⟩⟩, qun⟩⟩ = false)) :
    Calls Try.prog 5 #[.agg #[.int .i64 kd, .int .i64 tx, .int .i64 pv, .int .i64 nx, .slice A n c, .int .i64 pact, .string puk, .int .i64 pst, .string pk, .int .i64 pkd, .slice Ap np cp, .int .i64 plo, .int .i64 phi, .int .i64 pva, .int .i64 pun], .agg #[.int .i64 kd2, .int .i64 tx2, .int .i64 pv2, .int .i64 nx2, .slice A2 n2 c2, .int .i64 qact, .string quk, .int .i64 qst, .string qk, .int .i64 qkd, .slice Aq nq cq, .int .i64 qlo, .int .i64 qhi, .int .i64 qva, .int .i64 qun], .int .i64 no] w fun e w' => e = .returned (.bool true) ∧ Below w.heap.size w w' := by
  have HE := Lib.hid hE
  have HP := Lib.hid hp
  have HPK := Lib.hid (And.intro hpk hpuk)
  have HUN := Lib.hid (And.intro hun hui)
  clear hE hp hpk hpuk hun hui
  have HE2 := Lib.hid hE2
  have HP2 := Lib.hid hq
  have HPK2 := Lib.hid (And.intro hqk hquk)
  have HUN2 := Lib.hid (And.intro hun2 hui2)
  clear hE2 hq hqk hquk hun2 hui2
  obtain ⟨W0, hW0⟩ : ∃ W, (w.alloc (.cells #[.int .i64 kd, .int .i64 tx, .int .i64 pv, .int .i64 nx, .slice A n c, .int .i64 pact, .string puk, .int .i64 pst, .string pk, .int .i64 pkd, .slice Ap np cp, .int .i64 plo, .int .i64 phi, .int .i64 pva, .int .i64 pun] 31)).alloc (.cells #[.int .i64 kd2, .int .i64 tx2, .int .i64 pv2, .int .i64 nx2, .slice A2 n2 c2, .int .i64 qact, .string quk, .int .i64 qst, .string qk, .int .i64 qkd, .slice Aq nq cq, .int .i64 qlo, .int .i64 qhi, .int .i64 qva, .int .i64 qun] 31) = W := ⟨_, rfl⟩
  obtain ⟨HS0, HS1, HB0, hw0, hz0⟩ := new2 hW0
  have g0 := str15 HS0.out
  have hl0 := HS0.out.lt
  have g1 := str15 HS1.out
  have hl1 := HS1.out.lt
  clear hz0
  go_enter Try.func5, Try.ntmps5
  go_wp2_with fail
  refine Reg.wp_region_vals (R := ext) (W := W0) [Reg.eqv (.agg #[.int .i64 kd, .int .i64 tx, .int .i64 pv, .int .i64 nx, .slice A n c, .int .i64 pact, .string puk, .int .i64 pst, .string pk, .int .i64 pkd, .slice Ap np cp, .int .i64 plo, .int .i64 phi, .int .i64 pva, .int .i64 pun]), Reg.eqv (.bool false), Reg.eqv (.bool false), Reg.eqv (.agg #[.int .i64 kd2, .int .i64 tx2, .int .i64 pv2, .int .i64 nx2, .slice A2 n2 c2, .int .i64 qact, .string quk, .int .i64 qst, .string qk, .int .i64 qkd, .slice Aq nq cq, .int .i64 qlo, .int .i64 qhi, .int .i64 qva, .int .i64 qun]), Reg.eqv (.bool false), Reg.eqv (.bool false), Reg.eqv (.bool false), Reg.eqv (.agg #[.int .i64 kd, .int .i64 tx, .int .i64 pv, .int .i64 nx, .slice A n c, .int .i64 pact, .string puk, .int .i64 pst, .string pk, .int .i64 pkd, .slice Ap np cp, .int .i64 plo, .int .i64 phi, .int .i64 pva, .int .i64 pun]), Reg.eqv (.agg #[.int .i64 kd2, .int .i64 tx2, .int .i64 pv2, .int .i64 nx2, .slice A2 n2 c2, .int .i64 qact, .string quk, .int .i64 qst, .string qk, .int .i64 qkd, .slice Aq nq cq, .int .i64 qlo, .int .i64 qhi, .int .i64 qva, .int .i64 qun]), Reg.eqv (.bool false), Reg.eqv (.agg #[.int .i64 kd, .int .i64 tx, .int .i64 pv, .int .i64 nx, .slice A n c, .int .i64 pact, .string puk, .int .i64 pst, .string pk, .int .i64 pkd, .slice Ap np cp, .int .i64 plo, .int .i64 phi, .int .i64 pva, .int .i64 pun]), Reg.eqv (.agg #[.int .i64 kd2, .int .i64 tx2, .int .i64 pv2, .int .i64 nx2, .slice A2 n2 c2, .int .i64 qact, .string quk, .int .i64 qst, .string qk, .int .i64 qkd, .slice Aq nq cq, .int .i64 qlo, .int .i64 qhi, .int .i64 qva, .int .i64 qun]), Reg.eqv (.bool false), Reg.eqv (.bool false), Reg.eqv (.bool false)] 60 [[(3, none)], [(11, some 0)], [(12, some 1)], [(4, none), (13, some 2)], [(14, some 3), (13, some 2)], [(13, some 2), (15, some 4)], [(16, some 5)], [(3, none), (17, some 6)], [(4, none), (17, some 6)], [(18, some 7), (19, some 8), (17, some 6)], [(3, none), (17, some 6)], [(4, none), (17, some 6)], [(21, some 10), (22, some 11), (17, some 6)], [(20, some 9), (23, some 12), (17, some 6)], [(17, some 6), (24, some 13)]] rfl (by kernel_rfl) (by kernel_rfl) (by kernel_rfl) ?_ [some 11, some 12, some 13, some 14, some 15, some 16, some 17, some 18, some 19, some 20, some 21, some 22, some 23, some 24, some 25] (by kernel_rfl) ?_
  · refine ⟨?_, ?_, ?_, ?_, ?_, ?_, ?_, ?_, ?_, ?_, ?_, ?_, ?_, ?_, ?_, trivial⟩
    · intro ax wx hx hs
      obtain ⟨e3, -⟩ := hs
      have g3 := Reg.ev (v := .pointer (some ⟨w.heap.size, 0, none⟩)) e3
      have hx' : Below W0.heap.size W0 wx := hx
      have l0 := str15 (HS0.out.next hx')
      have l1 := str15 (HS1.out.next hx')
      exact Reg.obl_free rfl (Reg.wp_eqv (Option.some_ne_none _) (by go_simp) rfl)
    · intro ax wx hx hs
      obtain ⟨e11, -⟩ := hs
      have g11 := Reg.ev (v := .agg #[.int .i64 kd, .int .i64 tx, .int .i64 pv, .int .i64 nx, .slice A n c, .int .i64 pact, .string puk, .int .i64 pst, .string pk, .int .i64 pkd, .slice Ap np cp, .int .i64 plo, .int .i64 phi, .int .i64 pva, .int .i64 pun]) e11
      refine Reg.obl_free rfl ?_
      have hx' : Below W0.heap.size W0 wx := hx
      go_simp
      refine (RefRec.much_is kd tx pv nx A n c w.heap.size l pact puk Ap np cp w.heap.size pst pk pkd pda plo phi pva pun wx (HE.out.below (bstep HB0.out hx')) (bstep HB0.out hx').size (HP.out.below (bstep HB0.out hx')) (bstep HB0.out hx').size HPK.out.1 HPK.out.2).mono ?_
      rintro e wy ⟨rfl, hby⟩
      rw [HM.out]
      exact Reg.done (Option.some_ne_none _) rfl hby
    · intro ax wx hx hs
      obtain ⟨e12, -⟩ := hs
      have g12 := Reg.ev (v := .bool false) e12
      exact Reg.obl_free rfl (Reg.wp_eqv (Option.some_ne_none _) (by go_simp) rfl)
    · intro ax wx hx hs
      obtain ⟨e4, e13, -⟩ := hs
      have g4 := Reg.ev (v := .pointer (some ⟨w.heap.size + 1, 0, none⟩)) e4
      have g13 := Reg.ev (v := .bool false) e13
      have hx' : Below W0.heap.size W0 wx := hx
      have l0 := str15 (HS0.out.next hx')
      have l1 := str15 (HS1.out.next hx')
      exact Reg.obl_want rfl rfl e13 (Reg.wp_eqv (Option.some_ne_none _) (by go_simp) rfl)
    · intro ax wx hx hs
      obtain ⟨e14, e13, -⟩ := hs
      have g14 := Reg.ev (v := .agg #[.int .i64 kd2, .int .i64 tx2, .int .i64 pv2, .int .i64 nx2, .slice A2 n2 c2, .int .i64 qact, .string quk, .int .i64 qst, .string qk, .int .i64 qkd, .slice Aq nq cq, .int .i64 qlo, .int .i64 qhi, .int .i64 qva, .int .i64 qun]) e14
      have g13 := Reg.ev (v := .bool false) e13
      refine Reg.obl_want rfl rfl e13 ?_
      have hx' : Below W0.heap.size W0 wx := hx
      go_simp
      refine (RefRec.much_is kd2 tx2 pv2 nx2 A2 n2 c2 w.heap.size l2 qact quk Aq nq cq w.heap.size qst qk qkd qda qlo qhi qva qun wx (HE2.out.below (bstep HB0.out hx')) (bstep HB0.out hx').size (HP2.out.below (bstep HB0.out hx')) (bstep HB0.out hx').size HPK2.out.1 HPK2.out.2).mono ?_
      rintro e wy ⟨rfl, hby⟩
      rw [HM2.out]
      exact Reg.done (Option.some_ne_none _) rfl hby
    · intro ax wx hx hs
      obtain ⟨e13, e15, -⟩ := hs
      have g13 := Reg.ev (v := .bool false) e13
      have g15 := Reg.ev (v := .bool false) e15
      exact Reg.obl_free rfl (Reg.wp_eqv (Option.some_ne_none _) (by go_simp) rfl)
    · intro ax wx hx hs
      obtain ⟨e16, -⟩ := hs
      have g16 := Reg.ev (v := .bool false) e16
      exact Reg.obl_free rfl (Reg.wp_eqv (Option.some_ne_none _) (by go_simp) rfl)
    · intro ax wx hx hs
      obtain ⟨e3, e17, -⟩ := hs
      have g3 := Reg.ev (v := .pointer (some ⟨w.heap.size, 0, none⟩)) e3
      have g17 := Reg.ev (v := .bool false) e17
      have hx' : Below W0.heap.size W0 wx := hx
      have l0 := str15 (HS0.out.next hx')
      have l1 := str15 (HS1.out.next hx')
      exact Reg.obl_want rfl rfl e17 (Reg.wp_eqv (Option.some_ne_none _) (by go_simp) rfl)
    · intro ax wx hx hs
      obtain ⟨e4, e17, -⟩ := hs
      have g4 := Reg.ev (v := .pointer (some ⟨w.heap.size + 1, 0, none⟩)) e4
      have g17 := Reg.ev (v := .bool false) e17
      have hx' : Below W0.heap.size W0 wx := hx
      have l0 := str15 (HS0.out.next hx')
      have l1 := str15 (HS1.out.next hx')
      exact Reg.obl_want rfl rfl e17 (Reg.wp_eqv (Option.some_ne_none _) (by go_simp) rfl)
    · intro ax wx hx hs
      obtain ⟨e18, e19, e17, -⟩ := hs
      have g18 := Reg.ev (v := .agg #[.int .i64 kd, .int .i64 tx, .int .i64 pv, .int .i64 nx, .slice A n c, .int .i64 pact, .string puk, .int .i64 pst, .string pk, .int .i64 pkd, .slice Ap np cp, .int .i64 plo, .int .i64 phi, .int .i64 pva, .int .i64 pun]) e18
      have g19 := Reg.ev (v := .agg #[.int .i64 kd2, .int .i64 tx2, .int .i64 pv2, .int .i64 nx2, .slice A2 n2 c2, .int .i64 qact, .string quk, .int .i64 qst, .string qk, .int .i64 qkd, .slice Aq nq cq, .int .i64 qlo, .int .i64 qhi, .int .i64 qva, .int .i64 qun]) e19
      have g17 := Reg.ev (v := .bool false) e17
      refine Reg.obl_want rfl rfl e17 ?_
      have hx' : Below W0.heap.size W0 wx := hx
      go_simp
      refine (RecW.same_any kd tx pv nx A n c w.heap.size l pact puk Ap np cp w.heap.size pst pk pkd pda plo phi pva pun kd2 tx2 pv2 nx2 A2 n2 c2 w.heap.size l2 qact quk Aq nq cq w.heap.size qst qk qkd qda qlo qhi qva qun wx (HE.out.below (bstep HB0.out hx')) (bstep HB0.out hx').size (HP.out.below (bstep HB0.out hx')) (bstep HB0.out hx').size HPK.out.1 HPK.out.2 (HE2.out.below (bstep HB0.out hx')) (bstep HB0.out hx').size (HP2.out.below (bstep HB0.out hx')) (bstep HB0.out hx').size HPK2.out.1 HPK2.out.2).mono ?_
      rintro e wy ⟨rfl, hby⟩
      rw [HSS.out]
      exact Reg.done (Option.some_ne_none _) rfl hby
    · intro ax wx hx hs
      obtain ⟨e3, e17, -⟩ := hs
      have g3 := Reg.ev (v := .pointer (some ⟨w.heap.size, 0, none⟩)) e3
      have g17 := Reg.ev (v := .bool false) e17
      have hx' : Below W0.heap.size W0 wx := hx
      have l0 := str15 (HS0.out.next hx')
      have l1 := str15 (HS1.out.next hx')
      exact Reg.obl_want rfl rfl e17 (Reg.wp_eqv (Option.some_ne_none _) (by go_simp) rfl)
    · intro ax wx hx hs
      obtain ⟨e4, e17, -⟩ := hs
      have g4 := Reg.ev (v := .pointer (some ⟨w.heap.size + 1, 0, none⟩)) e4
      have g17 := Reg.ev (v := .bool false) e17
      have hx' : Below W0.heap.size W0 wx := hx
      have l0 := str15 (HS0.out.next hx')
      have l1 := str15 (HS1.out.next hx')
      exact Reg.obl_want rfl rfl e17 (Reg.wp_eqv (Option.some_ne_none _) (by go_simp) rfl)
    · intro ax wx hx hs
      obtain ⟨e21, e22, e17, -⟩ := hs
      have g21 := Reg.ev (v := .agg #[.int .i64 kd, .int .i64 tx, .int .i64 pv, .int .i64 nx, .slice A n c, .int .i64 pact, .string puk, .int .i64 pst, .string pk, .int .i64 pkd, .slice Ap np cp, .int .i64 plo, .int .i64 phi, .int .i64 pva, .int .i64 pun]) e21
      have g22 := Reg.ev (v := .agg #[.int .i64 kd2, .int .i64 tx2, .int .i64 pv2, .int .i64 nx2, .slice A2 n2 c2, .int .i64 qact, .string quk, .int .i64 qst, .string qk, .int .i64 qkd, .slice Aq nq cq, .int .i64 qlo, .int .i64 qhi, .int .i64 qva, .int .i64 qun]) e22
      have g17 := Reg.ev (v := .bool false) e17
      refine Reg.obl_want rfl rfl e17 ?_
      have hx' : Below W0.heap.size W0 wx := hx
      go_simp
      refine (RefRec.same_any kd tx pv nx A n c w.heap.size l pact puk Ap np cp w.heap.size pst pk pkd pda plo phi pva pun kd2 tx2 pv2 nx2 A2 n2 c2 w.heap.size l2 qact quk Aq nq cq w.heap.size qst qk qkd qda qlo qhi qva qun wx (HE.out.below (bstep HB0.out hx')) (bstep HB0.out hx').size (HP.out.below (bstep HB0.out hx')) (bstep HB0.out hx').size HPK.out.1 HPK.out.2 (HE2.out.below (bstep HB0.out hx')) (bstep HB0.out hx').size (HP2.out.below (bstep HB0.out hx')) (bstep HB0.out hx').size HPK2.out.1 HPK2.out.2).mono ?_
      rintro e wy ⟨rfl, hby⟩
      rw [HSS.out]
      exact Reg.done (Option.some_ne_none _) rfl hby
    · intro ax wx hx hs
      obtain ⟨e20, e23, e17, -⟩ := hs
      have g20 := Reg.ev (v := .bool false) e20
      have g23 := Reg.ev (v := .bool false) e23
      have g17 := Reg.ev (v := .bool false) e17
      exact Reg.obl_want rfl rfl e17 (Reg.wp_eqv (Option.some_ne_none _) (by go_simp) rfl)
    · intro ax wx hx hs
      obtain ⟨e17, e24, -⟩ := hs
      have g17 := Reg.ev (v := .bool false) e17
      have g24 := Reg.ev (v := .bool false) e24
      exact Reg.obl_free rfl (Reg.wp_eqv (Option.some_ne_none _) (by go_simp) rfl)
  · intro W1 hwf
    simp only [Reg.Fin]
    rintro _ rfl _ rfl _ rfl _ rfl _ rfl _ rfl _ rfl _ rfl _ rfl _ rfl _ rfl _ rfl _ rfl _ rfl _ rfl
    go_simp
    have hwf' : Below W0.heap.size W0 W1 := hwf
    have HS0' := Lib.hid (HS0.out.next hwf')
    have HS1' := Lib.hid (HS1.out.next hwf')
    have HB1 := Lib.hid (bstep HB0.out hwf')
    clear hwf hwf' HS0 HS1 HB0 g0 g1 hl0 hl1
    have g0 := str15 HS0'.out
    have hl0 := HS0'.out.lt
    have g1 := str15 HS1'.out
    have hl1 := HS1'.out.lt
    go_wp2_with fail
    refine (put_any kd tx pv nx A n c w.heap.size l pact puk Ap np cp w.heap.size pst pk pkd pda plo phi pva pun W1 (HE.out.below HB1.out) HB1.out.size (HP.out.below HB1.out) HB1.out.size HPK.out.1 HPK.out.2).mono ?_
    rintro e W2 ⟨A1, n1, c1, rfl, hy1, hb2⟩
    have HB2 := Lib.hid (bstep HB1.out hb2)
    have hln1 := hy1.len
    have hnc1 := hy1.2.1
    have hcm1 := hy1.2.2.1
    unfold maxLen at hcm1
    have hw2 := HB2.out.size
    have HY1 := Lib.hid hy1
    have HLN1 := Lib.hid hln1
    clear hb2 hy1 hln1 HB1 HS0' HS1' g0 g1 hl0 hl1
    by_cases h0 : no < 0
    · have hd0 : decide (no < 0) = true := by simpa using h0
      go_wp2_with fail
      refine (live_any W2).mono ?_
      rintro e W9 ⟨rfl, hb9⟩
      have HB9 := Lib.hid (bstep HB2.out hb9)
      clear hb9
      go_wp2
      go_ret
      exact ⟨rfl, HB9.out⟩
    have hd0 : decide (no < 0) = false := by simpa using h0
    obtain ⟨k, rfl⟩ : ∃ k : Nat, no = (k : Int) := ⟨no.toNat, by omega⟩
    by_cases h1 : n1 ≤ k
    · have hd1 : decide ((n1 : Int) ≤ (k : Int)) = true := by simp; omega
      go_wp2_with fail
      refine (live_any W2).mono ?_
      rintro e W9 ⟨rfl, hb9⟩
      have HB9 := Lib.hid (bstep HB2.out hb9)
      clear hb9
      go_wp2
      go_ret
      exact ⟨rfl, HB9.out⟩
    have hd1 : decide ((n1 : Int) ≤ (k : Int)) = false := by simp; omega
    have hs := RecP.cut_short ⟨kd, tx, pv, nx, l, ⟨pact, puk, ⟨pst, pk, ⟨pkd, pda, plo, phi, pva⟩⟩, pun⟩⟩ k (by rw [HLN1.out]; omega)
    have hc := HY1.out.cut 0 k c1 (Nat.zero_le _) (by omega) (by omega) (Nat.le_refl _)
    rw [List.drop_zero, Nat.sub_zero, Nat.sub_zero] at hc
    have HC := Lib.hid (And.intro hc hs)
    have q1 : (k : Int) ≤ (c1 : Int) := by omega
    clear hc hs h0 hno HY1 HLN1
    go_wp2_with fail
    refine (get_short ((RecP.bytes ⟨kd, tx, pv, nx, l, ⟨pact, puk, ⟨pst, pk, ⟨pkd, pda, plo, phi, pva⟩⟩, pun⟩⟩).take k) _ k c1 W2.heap.size W2 HC.out.1 (Nat.le_refl _) HC.out.2).mono ?_
    rintro e W3 ⟨rfl, hb3⟩
    have HB3 := Lib.hid (bstep HB2.out hb3)
    have hw3 := HB3.out.size
    clear hb3
    obtain ⟨W4, hW4⟩ : ∃ W, W3.alloc (.cells #[.int .i64 0, .int .i64 0, .int .i64 0, .int .i64 0, .slice none 0 0, .int .i64 0, .string ⟨#[]⟩, .int .i64 0, .string ⟨#[]⟩, .int .i64 0, .slice none 0 0, .int .i64 0, .int .i64 0, .int .i64 0, .int .i64 0] 31) = W := ⟨_, rfl⟩
    obtain ⟨HS4, HB4, hw4, hz4⟩ := new1 hW4
    have hl4 := HS4.out.lt
    have g4 := str15 HS4.out
    have gf := fun j => HS4.out.frozen j
    obtain ⟨W8, hW8⟩ : ∃ W, (((((((((((((((W4).setCell ⟨W3.heap.size, 0, none⟩ (.int .i64 0)).setCell ⟨W3.heap.size, 1, none⟩ (.int .i64 0)).setCell ⟨W3.heap.size, 2, none⟩ (.int .i64 0)).setCell ⟨W3.heap.size, 3, none⟩ (.int .i64 0)).setCell ⟨W3.heap.size, 4, none⟩ (.slice none 0 0)).setCell ⟨W3.heap.size, 5, none⟩ (.int .i64 0)).setCell ⟨W3.heap.size, 6, none⟩ (.string ⟨#[]⟩)).setCell ⟨W3.heap.size, 7, none⟩ (.int .i64 0)).setCell ⟨W3.heap.size, 8, none⟩ (.string ⟨#[]⟩)).setCell ⟨W3.heap.size, 9, none⟩ (.int .i64 0)).setCell ⟨W3.heap.size, 10, none⟩ (.slice none 0 0)).setCell ⟨W3.heap.size, 11, none⟩ (.int .i64 0)).setCell ⟨W3.heap.size, 12, none⟩ (.int .i64 0)).setCell ⟨W3.heap.size, 13, none⟩ (.int .i64 0)).setCell ⟨W3.heap.size, 14, none⟩ (.int .i64 0) = W := ⟨_, rfl⟩
    have hg8 : W4.grownBy W8 (some W3.heap.size) := by rw [← hW8]; exact grown_set (grown_set (grown_set (grown_set (grown_set (grown_set (grown_set (grown_set (grown_set (grown_set (grown_set (grown_set (grown_set (grown_set (grown_set (grown_refl W4 _) 0 _) 1 _) 2 _) 3 _) 4 _) 5 _) 6 _) 7 _) 8 _) 9 _) 10 _) 11 _) 12 _) 13 _) 14 _
    have HB8 := Lib.hid (below_grown (bstep HB3.out HB4.out) hg8 hw3)
    clear hg8 hz4
    go_wp2_with fail
    refine (code_any _ _).mono ?_
    rintro e w' ⟨rfl, rfl⟩
    go_wp2_with fail
    refine (live_any W8).mono ?_
    rintro e W9 ⟨rfl, hb9⟩
    have HB9 := Lib.hid (bstep HB8.out hb9)
    clear hb9 g4 gf hl4
    go_wp2
    go_ret
    exact ⟨rfl, HB9.out⟩
set_option maxRecDepth 100000 in
set_option maxHeartbeats 1000000 in
theorem go (kd tx pv nx : Int) (A : Option Addr) (n c : Nat) (l : List PatchX) (pact : Int) (puk : ByteArray) (Ap : Option Addr) (np cp : Nat) (pst : Int) (pk : ByteArray) (pkd : Int) (pda : List UInt8) (plo phi pva : Int) (pun : Int) (kd2 tx2 pv2 nx2 : Int) (A2 : Option Addr) (n2 c2 : Nat) (l2 : List PatchX) (qact : Int) (quk : ByteArray) (Aq : Option Addr) (nq cq : Nat) (qst : Int) (qk : ByteArray) (qkd : Int) (qda : List UInt8) (qlo qhi qva : Int) (qun : Int) (no : Int) (hno : -9223372036854775808 ≤ no ∧ no ≤ 9223372036854775807) (w : World) (hE : Elems PatchE w w.heap.size A n c l) (hp : Bytes w w.heap.size Ap np cp pda) (hpk : pk.size ≤ maxLen) (hpuk : puk.size ≤ maxLen) (hun : In64 pun) (hui : SlotP.In ⟨pst, pk, ⟨pkd, pda, plo, phi, pva⟩⟩) (hE2 : Elems PatchE w w.heap.size A2 n2 c2 l2) (hq : Bytes w w.heap.size Aq nq cq qda) (hqk : qk.size ≤ maxLen) (hquk : quk.size ≤ maxLen) (hun2 : In64 qun) (hui2 : SlotP.In ⟨qst, qk, ⟨qkd, qda, qlo, qhi, qva⟩⟩) :
    Calls Try.prog 5 #[.agg #[.int .i64 kd, .int .i64 tx, .int .i64 pv, .int .i64 nx, .slice A n c, .int .i64 pact, .string puk, .int .i64 pst, .string pk, .int .i64 pkd, .slice Ap np cp, .int .i64 plo, .int .i64 phi, .int .i64 pva, .int .i64 pun], .agg #[.int .i64 kd2, .int .i64 tx2, .int .i64 pv2, .int .i64 nx2, .slice A2 n2 c2, .int .i64 qact, .string quk, .int .i64 qst, .string qk, .int .i64 qkd, .slice Aq nq cq, .int .i64 qlo, .int .i64 qhi, .int .i64 qva, .int .i64 qun], .int .i64 no] w fun e w' => e = .returned (.bool true) ∧ Below w.heap.size w w' := by
  cases hm : (!decide (RefRec.Asked ⟨kd, tx, pv, nx, l, ⟨pact, puk, ⟨pst, pk, ⟨pkd, pda, plo, phi, pva⟩⟩, pun⟩⟩)) with
  | true => exact go1 kd tx pv nx A n c l pact puk Ap np cp pst pk pkd pda plo phi pva pun kd2 tx2 pv2 nx2 A2 n2 c2 l2 qact quk Aq nq cq qst qk qkd qda qlo qhi qva qun no hno w hE hp hpk hpuk hun hui hE2 hq hqk hquk hun2 hui2 (Lib.hid hm)
  | false =>
    cases hm2 : (!decide (RefRec.Asked ⟨kd2, tx2, pv2, nx2, l2, ⟨qact, quk, ⟨qst, qk, ⟨qkd, qda, qlo, qhi, qva⟩⟩, qun⟩⟩)) with
    | true => exact go2 kd tx pv nx A n c l pact puk Ap np cp pst pk pkd pda plo phi pva pun kd2 tx2 pv2 nx2 A2 n2 c2 l2 qact quk Aq nq cq qst qk qkd qda qlo qhi qva qun no hno w hE hp hpk hpuk hun hui hE2 hq hqk hquk hun2 hui2 (Lib.hid hm) (Lib.hid hm2)
    | false =>
      cases hss : RecP.same ⟨kd, tx, pv, nx, l, ⟨pact, puk, ⟨pst, pk, ⟨pkd, pda, plo, phi, pva⟩⟩, pun⟩⟩ ⟨kd2, tx2, pv2, nx2, l2, ⟨qact, quk, ⟨qst, qk, ⟨qkd, qda, qlo, qhi, qva⟩⟩, qun⟩⟩ with
      | true => exact go3 kd tx pv nx A n c l pact puk Ap np cp pst pk pkd pda plo phi pva pun kd2 tx2 pv2 nx2 A2 n2 c2 l2 qact quk Aq nq cq qst qk qkd qda qlo qhi qva qun no hno w hE hp hpk hpuk hun hui hE2 hq hqk hquk hun2 hui2 (Lib.hid hm) (Lib.hid hm2) (Lib.hid hss)
      | false => exact go4 kd tx pv nx A n c l pact puk Ap np cp pst pk pkd pda plo phi pva pun kd2 tx2 pv2 nx2 A2 n2 c2 l2 qact quk Aq nq cq qst qk qkd qda qlo qhi qva qun no hno w hE hp hpk hpuk hun hui hE2 hq hqk hquk hun2 hui2 (Lib.hid hm) (Lib.hid hm2) (Lib.hid hss)
end recCuts
namespace recCuts
theorem walk (v0 v1 v2 : Value) (a0 a1 : RecX) (a2 : Int) (w : World) (g0 : RRec w w.heap.size v0 a0) (g1 : RRec w w.heap.size v1 a1) (g2 : RInt w v2 a2) :
    Calls Try.prog 5 #[v0, v1, v2] w fun e w' => e = .returned (.bool true) ∧ Below w.heap.size w w' := by
  obtain ⟨A, n, c, Ap, np, cp, rfl, hE, hp, ⟨hpuk, hpk⟩, hui, -, hun, -, -, -, -⟩ := g0
  obtain ⟨kd, tx, pv, nx, l, ⟨pact, puk, ⟨pst, pk, ⟨pkd, pda, plo, phi, pva⟩⟩, pun⟩⟩ := a0
  obtain ⟨A2, n2, c2, Aq, nq, cq, rfl, hE2, hq, ⟨hquk, hqk⟩, hui2, -, hun2, -, -, -, -⟩ := g1
  obtain ⟨kd2, tx2, pv2, nx2, l2, ⟨qact, quk, ⟨qst, qk, ⟨qkd, qda, qlo, qhi, qva⟩⟩, qun⟩⟩ := a1
  obtain ⟨rfl, hno⟩ := g2
  dsimp only at *
  exact go kd tx pv nx A n c l pact puk Ap np cp pst pk pkd pda plo phi pva pun kd2 tx2 pv2 nx2 A2 n2 c2 l2 qact quk Aq nq cq qst qk qkd qda qlo qhi qva qun a2 hno w hE hp hpk hpuk hun hui hE2 hq hqk hquk hun2 hui2
end recCuts
end Go.Proofs.Ytiokcemlfdonnaa
