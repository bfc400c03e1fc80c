/-
  Texts of one claim, joined: RecGet, Grow, RefBytesO, RefText, RefPatchB.
-/
import Derived.Test.YtiokcemlfdonnaaRecP33
import Derived.Test.YtiokcemlfdonnaaRecP14
import Derived.Test.YtiokcemlfdonnaaRecP8
import Derived.Test.YtiokcemlfdonnaaRecP16
import Derived.Test.YtiokcemlfdonnaaProg
import Derived.Test.YtiokcemlfdonnaaRecP1
import Derived.Test.YtiokcemlfdonnaaRecP24
import Derived.Test.YtiokcemlfdonnaaRecP17
import Derived.Test.YtiokcemlfdonnaaRecP7
namespace Go.Proofs.Ytiokcemlfdonnaa
open Go.RowKit
set_option linter.unusedVariables false
namespace RecP
theorem val_parts4 (post : List UInt8) (m : Int) (h0 : 0 ≤ m) (h1 : m < 4294967296) : NumP.val (BeP.parts 4 m ++ post) 0 4 = m := by
  unfold NumP.val
  rw [if_pos (by simp [BeP.parts_length]), List.drop_zero, List.take_append_of_le_length (by rw [BeP.parts_length]; omega), List.take_of_length_le (by rw [BeP.parts_length]; omega), NumP.num_parts]
  unfold BeP.u64
  have e : (m % 18446744073709551616).toNat % 256 ^ 4 = m.toNat := by omega
  rw [e, NumP.toI_small _ (by omega)]
  omega
/-- the seal is right -/
theorem body_good (x : RecX) : (NumP.val (body x) 0 4 == ((CrcP.sum ((body x).drop 4) : Nat) : Int)) = true := by
  have h1 : (body x).drop 4 = inner x := by unfold body; rw [List.drop_left' (BeP.parts_length 4 _)]
  have h2 := CrcP.sum_lt (inner x)
  rw [h1]
  unfold body
  rw [val_parts4 _ _ (by omega) (by omega)]
  simp
theorem bytes_fit (x : RecX) (h : fits x = true) : bytes x = BeP.parts 2 ((body x).length : Nat) ++ body x := by unfold bytes; rw [if_pos h]
theorem bytes_fit6 (x : RecX) (h : fits x = true) : (bytes x).drop 2 = body x ∧ (bytes x).drop 6 = inner x := by
  have h1 : (bytes x).drop 2 = body x := by rw [bytes_fit x h, List.drop_left' (BeP.parts_length 2 _)]
  refine ⟨h1, ?_⟩
  rw [show 6 = 2 + 4 from rfl, ← List.drop_drop, h1]
  unfold body
  rw [List.drop_left' (BeP.parts_length 4 _)]
theorem got_len (x : RecX) (more : List UInt8) (h : fits x = true) : NumP.val (bytes x ++ more) 0 2 = ((body x).length : Nat) := by
  rw [bytes_fit x h, List.append_assoc]
  exact PatchP.val_parts2 [] _ _ (by omega) (by have := fits_len h; omega)
end RecP
namespace RecW
open UndoW
set_option linter.unusedSimpArgs false
attribute [local go_sem ↓] app_fold cut_fold
set_option maxRecDepth 100000 in
set_option maxHeartbeats 8000000 in
theorem get_any (kd tx pv nx : Int) (l : List PatchX) (pact : Int) (puk : ByteArray) (pst : Int) (pk : ByteArray) (pkd : Int) (pda : List UInt8) (plo phi pva pun : Int) (more : List UInt8) (A : Option Addr) (n c B : Nat) (w : World) (hF : RecP.fits ⟨kd, tx, pv, nx, l, ⟨pact, puk, ⟨pst, pk, ⟨pkd, pda, plo, phi, pva⟩⟩, pun⟩⟩ = true) (hun : In64 pun) (hui : SlotP.In ⟨pst, pk, ⟨pkd, pda, plo, phi, pva⟩⟩) (hpk : pk.size ≤ maxLen) (hpuk : puk.size ≤ maxLen) (h : Bytes w B A n c (RecP.bytes ⟨kd, tx, pv, nx, l, ⟨pact, puk, ⟨pst, pk, ⟨pkd, pda, plo, phi, pva⟩⟩, pun⟩⟩ ++ more)) (hB : B ≤ w.heap.size) :
    Calls Try.prog 15 #[.slice A n c] w fun e w' => ∃ A2 c2 Ap np cp, e = .returned (.tuple #[.agg #[.int .i64 kd, .int .i64 tx, .int .i64 pv, .int .i64 nx, .slice A2 l.length c2, .int .i64 pact, .string puk, .int .i64 pst, .string pk, .int .i64 pkd, .slice Ap np cp, .int .i64 plo, .int .i64 phi, .int .i64 pva, .int .i64 pun], .int .i64 ((RecP.bytes ⟨kd, tx, pv, nx, l, ⟨pact, puk, ⟨pst, pk, ⟨pkd, pda, plo, phi, pva⟩⟩, pun⟩⟩).length : Nat), .int .i64 0]) ∧ Elems PatchE w' w'.heap.size A2 l.length c2 l ∧ Bytes w' w'.heap.size Ap np cp pda ∧ Below w.heap.size w w' := by
  have H := Lib.hid h
  have HR := Lib.hid (RecP.fits_right hF)
  have HPK := Lib.hid (And.intro hpk hpuk)
  have hfl := RecP.fits_len hF
  have hv := RecP.got_len ⟨kd, tx, pv, nx, l, ⟨pact, puk, ⟨pst, pk, ⟨pkd, pda, plo, phi, pva⟩⟩, pun⟩⟩ more hF
  have hd6 := RecP.bytes_fit6 ⟨kd, tx, pv, nx, l, ⟨pact, puk, ⟨pst, pk, ⟨pkd, pda, plo, phi, pva⟩⟩, pun⟩⟩ hF
  have hbl := RecP.bytes_length ⟨kd, tx, pv, nx, l, ⟨pact, puk, ⟨pst, pk, ⟨pkd, pda, plo, phi, pva⟩⟩, pun⟩⟩ hF
  have hgood := RecP.body_good ⟨kd, tx, pv, nx, l, ⟨pact, puk, ⟨pst, pk, ⟨pkd, pda, plo, phi, pva⟩⟩, pun⟩⟩
  have hln := h.len
  have hnc := h.2.1
  have hcm := h.2.2.1
  unfold maxLen at hcm
  rw [List.length_append] at hln
  have h30 : 30 ≤ (RecP.body ⟨kd, tx, pv, nx, l, ⟨pact, puk, ⟨pst, pk, ⟨pkd, pda, plo, phi, pva⟩⟩, pun⟩⟩).length := by rw [RecP.body_length]; omega
  have hil : (RecP.inner ⟨kd, tx, pv, nx, l, ⟨pact, puk, ⟨pst, pk, ⟨pkd, pda, plo, phi, pva⟩⟩, pun⟩⟩).length + 4 = (RecP.body ⟨kd, tx, pv, nx, l, ⟨pact, puk, ⟨pst, pk, ⟨pkd, pda, plo, phi, pva⟩⟩, pun⟩⟩).length := by unfold RecP.body; rw [List.length_append, BeP.parts_length]; omega
  obtain ⟨m, hm⟩ : ∃ m, (RecP.body ⟨kd, tx, pv, nx, l, ⟨pact, puk, ⟨pst, pk, ⟨pkd, pda, plo, phi, pva⟩⟩, pun⟩⟩).length = m := ⟨_, rfl⟩
  rw [hm] at hfl hv hbl h30 hil
  rw [hbl] at hln ⊢
  have ht := NumW.there_yes (RecP.bytes ⟨kd, tx, pv, nx, l, ⟨pact, puk, ⟨pst, pk, ⟨pkd, pda, plo, phi, pva⟩⟩, pun⟩⟩ ++ more) 0 2 (by rw [List.length_append, hbl]; omega)
  have hc0 := h.cut 0 (2 + m) c (Nat.zero_le _) (by omega) (by omega) (Nat.le_refl _)
  rw [List.drop_zero, Nat.sub_zero, Nat.sub_zero, List.take_left' hbl] at hc0
  have hc2 := hc0.cut 2 (2 + m) c (by omega) (Nat.le_refl _) (by omega) (Nat.le_refl _)
  rw [hd6.1, show 2 + m - 2 = m by omega, List.take_of_length_le (by omega)] at hc2
  have hc6 := hc0.cut 6 (2 + m) c (by omega) (Nat.le_refl _) (by omega) (Nat.le_refl _)
  rw [hd6.2, List.take_of_length_le (by omega)] at hc6
  have H0 := Lib.hid hc0
  have H2 := Lib.hid hc2
  have H6 := Lib.hid hc6
  have HV := Lib.hid (And.intro hv ht)
  have HG := Lib.hid hgood
  have hR0 : ∃ R, l.length = R := ⟨_, rfl⟩
  obtain ⟨R, hRl⟩ := hR0
  rw [hRl]
  clear h hc0 hc2 hc6 hv ht hgood hd6 hbl hil hm hpk hpuk hF
  have q1 : (2 : Int) + (m : Int) ≤ (c : Int) := by omega
  have q2 : ((2 : Int) + (m : Int)).toNat = 2 + m := by omega
  have q3 : decide ((n : Int) < 2 + (m : Int)) = false := by simp; omega
  have q4 : (2 : Int) ≤ 2 + (m : Int) := by omega
  have q5 : (6 : Int) ≤ 2 + (m : Int) := by omega
  have q6 : (6 : Int) ≤ (c : Int) := by omega
  have q11 : 2 + m - 6 ≤ 100000 := by omega
  have q8 : ((2 + m : Nat) : Int) ≤ (c : Int) := by omega
  have q9 : (6 : Int) ≤ ((2 + m : Nat) : Int) := by omega
  have q10 : (2 : Int) ≤ ((2 + m : Nat) : Int) := by omega
  obtain ⟨W0, hW0⟩ : ∃ W, w.alloc (.cells #[.int .i64 0, .int .i64 0, .int .i64 0, .int .i64 0, .slice none 0 0, .int .i64 0, .string ⟨#[]⟩, .int .i64 0, .string ⟨#[]⟩, .int .i64 0, .slice none 0 0, .int .i64 0, .int .i64 0, .int .i64 0, .int .i64 0] 31) = W := ⟨_, rfl⟩
  obtain ⟨HS0, HB0, hw0, hz0⟩ := new1 hW0
  have hl0 := HS0.out.lt
  go_enter Try.func15, Try.ntmps15
  go_wp2_with fail
  refine (NumW.num_any A n c B 0 2 _ W0 (H.out.below (HB0.out.mono hB)) (by omega) (by omega) (by omega)).mono ?_
  rintro e w' ⟨rfl, rfl⟩
  rw [HV.out.1, HV.out.2]
  go_wp2_with fail
  refine (CrcW.good_any _ m _ B (RecP.body ⟨kd, tx, pv, nx, l, ⟨pact, puk, ⟨pst, pk, ⟨pkd, pda, plo, phi, pva⟩⟩, pun⟩⟩) _ (H2.out.below (HB0.out.mono hB)) (by omega) (by omega)).mono ?_
  rintro e W1 ⟨rfl, hb1⟩
  rw [HG.out]
  replace HS0 := Lib.hid (HS0.out.next hb1)
  replace HB0 := Lib.hid (bstep HB0.out hb1)
  have hw1 := HB0.out.size
  have hl0 := HS0.out.lt
  clear hb1
  go_wp2_with fail
  refine (read_any kd tx pv nx l pact puk pst pk pkd pda plo phi pva pun _ _ _ B W1 HR.out hun hui (H6.out.below (HB0.out.mono hB)) (by omega) q11).mono ?_
  rintro e W2 ⟨A2, c2, Ap, np, cp, rfl, hE2, hy2, hb2⟩
  rw [hRl] at hE2 ⊢
  replace HS0 := Lib.hid (HS0.out.next hb2)
  replace HB0 := Lib.hid (bstep HB0.out hb2)
  have HE2 := Lib.hid hE2
  have hlt0 := HS0.out.lt
  have HY2 := Lib.hid hy2
  clear hE2 hy2 hb2
  obtain ⟨W6, hW6⟩ : ∃ W, W2.alloc (.cells #[.int .i64 kd, .int .i64 tx, .int .i64 pv, .int .i64 nx, .slice A2 R c2, .int .i64 pact, .string puk, .int .i64 pst, .string pk, .int .i64 pkd, .slice Ap np cp, .int .i64 plo, .int .i64 phi, .int .i64 pva, .int .i64 pun] 31) = W := ⟨_, rfl⟩
  obtain ⟨HX, HBX, hw6, hz6⟩ := new1 hW6
  replace HS0 := Lib.hid (HS0.out.next HBX.out)
  replace HB0 := Lib.hid (bstep HB0.out HBX.out)
  have HA6 := Lib.hid ((HE2.out.sub (above_sub (sub_below HBX.out))).more HBX.out.size)
  have HE6 := Lib.hid (HA6.out.sub (sub_above _ _ _))
  have HY6 := Lib.hid (HY2.out.next HBX.out)
  have g6 := str15 HX.out
  have hl6 := HX.out.lt
  have hl0 := HS0.out.lt
  have hw66 := HB0.out.size
  clear HBX HE2 HY2
  go_wp2_with fail
  refine (put_any kd tx pv nx A2 R c2 W6.heap.size l pact puk Ap np cp W6.heap.size pst pk pkd pda plo phi pva pun W6 HE6.out (Nat.le_refl _) HY6.out (Nat.le_refl _) HPK.out.1 HPK.out.2).mono ?_
  rintro e W7 ⟨A7, n7, c7, rfl, hy7, hb7⟩
  replace HS0 := Lib.hid (HS0.out.next hb7)
  have HB7 := Lib.hid (bstep HB0.out hb7)
  replace HX := Lib.hid (HX.out.next hb7)
  have HE7 := Lib.hid ((HA6.out.sub (above_sub (sub_below hb7))).more hb7.size)
  have HY7 := Lib.hid (HY6.out.next hb7)
  have HYB := Lib.hid hy7
  clear hy7 hb7 g6 hl6 hl0 hW6 HE6 HY6 HB0
  have g6 := str15 HX.out
  have hl6 := HX.out.lt
  have g0 := str15 HS0.out
  have gf := fun j => HS0.out.frozen j
  have hl0 := HS0.out.lt
  go_wp2_with fail
  refine (Same.equal_any _ _ _ _ _ _ _ _ (RecP.bytes ⟨kd, tx, pv, nx, l, ⟨pact, puk, ⟨pst, pk, ⟨pkd, pda, plo, phi, pva⟩⟩, pun⟩⟩) (RecP.bytes ⟨kd, tx, pv, nx, l, ⟨pact, puk, ⟨pst, pk, ⟨pkd, pda, plo, phi, pva⟩⟩, pun⟩⟩) W7 HYB.out (H0.out.below (HB7.out.mono hB))).mono ?_
  rintro e w' ⟨rfl, rfl⟩
  rw [beq_self_eq_true]
  obtain ⟨W8, hW8⟩ : ∃ W, (((((((((((((((W7).setCell ⟨w.heap.size, 0, none⟩ (.int .i64 kd)).setCell ⟨w.heap.size, 1, none⟩ (.int .i64 tx)).setCell ⟨w.heap.size, 2, none⟩ (.int .i64 pv)).setCell ⟨w.heap.size, 3, none⟩ (.int .i64 nx)).setCell ⟨w.heap.size, 4, none⟩ (.slice A2 R c2)).setCell ⟨w.heap.size, 5, none⟩ (.int .i64 pact)).setCell ⟨w.heap.size, 6, none⟩ (.string puk)).setCell ⟨w.heap.size, 7, none⟩ (.int .i64 pst)).setCell ⟨w.heap.size, 8, none⟩ (.string pk)).setCell ⟨w.heap.size, 9, none⟩ (.int .i64 pkd)).setCell ⟨w.heap.size, 10, none⟩ (.slice Ap np cp)).setCell ⟨w.heap.size, 11, none⟩ (.int .i64 plo)).setCell ⟨w.heap.size, 12, none⟩ (.int .i64 phi)).setCell ⟨w.heap.size, 13, none⟩ (.int .i64 pva)).setCell ⟨w.heap.size, 14, none⟩ (.int .i64 pun) = W := ⟨_, rfl⟩
  have hg8 : W7.grownBy W8 (some w.heap.size) := by rw [← hW8]; exact grown_set (grown_set (grown_set (grown_set (grown_set (grown_set (grown_set (grown_set (grown_set (grown_set (grown_set (grown_set (grown_set (grown_set (grown_set (grown_refl W7 _) 0 _) 1 _) 2 _) 3 _) 4 _) 5 _) 6 _) 7 _) 8 _) 9 _) 10 _) 11 _) 12 _) 13 _) 14 _
  have hres : Str W8 w.heap.size #[.int .i64 kd, .int .i64 tx, .int .i64 pv, .int .i64 nx, .slice A2 R c2, .int .i64 pact, .string puk, .int .i64 pst, .string pk, .int .i64 pkd, .slice Ap np cp, .int .i64 plo, .int .i64 phi, .int .i64 pva, .int .i64 pun] := by
    have := (((((((((((((((HS0.out).set 0 (.int .i64 kd)).set 1 (.int .i64 tx)).set 2 (.int .i64 pv)).set 3 (.int .i64 nx)).set 4 (.slice A2 R c2)).set 5 (.int .i64 pact)).set 6 (.string puk)).set 7 (.int .i64 pst)).set 8 (.string pk)).set 9 (.int .i64 pkd)).set 10 (.slice Ap np cp)).set 11 (.int .i64 plo)).set 12 (.int .i64 phi)).set 13 (.int .i64 pva)).set 14 (.int .i64 pun)
    rw [← hW8]; simpa using this
  have HFIN : Hid (Elems PatchE W8 W8.heap.size A2 R c2 l ∧ Bytes W8 W8.heap.size Ap np cp pda ∧ Below w.heap.size w W8) := Lib.hid ⟨((HE7.out.sub (above_keep (fun j hj h1 => hg8.block j hj (by intro e; injection e with e; omega)))).sub (sub_above _ _ _)).more hg8.size, (Bytes.grown HY7.out (Nat.le_refl _) HS0.out rfl hg8).more hg8.size, below_grown HB7.out hg8 (Nat.le_refl _)⟩
  have gz := str15 hres
  clear hg8 hres HE7 HY7 HYB HX HS0 HR
  go_wp2
  exact bodyPost_ret (v := .tuple #[.agg #[.int .i64 kd, .int .i64 tx, .int .i64 pv, .int .i64 nx, .slice A2 R c2, .int .i64 pact, .string puk, .int .i64 pst, .string pk, .int .i64 pkd, .slice Ap np cp, .int .i64 plo, .int .i64 phi, .int .i64 pva, .int .i64 pun], .int .i64 ((2 + m : Nat) : Int), .int .i64 0]) (by simp [results, Try.results15, go_sem, *]) rfl ⟨A2, c2, Ap, np, cp, rfl, HFIN.out.1, HFIN.out.2.1, HFIN.out.2.2⟩
set_option maxRecDepth 100000 in
set_option maxHeartbeats 4000000 in
theorem get_short (l : List UInt8) (A : Option Addr) (n c B : Nat) (w : World) (h : Bytes w B A n c l) (hB : B ≤ w.heap.size) (hs : n < 2 ∨ (n : Int) < 2 + NumP.val l 0 2) :
    Calls Try.prog 15 #[.slice A n c] w fun e w' => e = .returned (.tuple #[.agg #[.int .i64 0, .int .i64 0, .int .i64 0, .int .i64 0, .slice none 0 0, .int .i64 0, .string ⟨#[]⟩, .int .i64 0, .string ⟨#[]⟩, .int .i64 0, .slice none 0 0, .int .i64 0, .int .i64 0, .int .i64 0, .int .i64 0], .int .i64 0, .int .i64 13]) ∧ Below w.heap.size w w' := by
  have H := Lib.hid h
  have hln := h.len
  have hcm := Nat.le_trans h.2.1 h.2.2.1
  unfold maxLen at hcm
  have hvs := NumP.val_small l 0 2 (by omega)
  obtain ⟨W0, hW0⟩ : ∃ W, w.alloc (.cells #[.int .i64 0, .int .i64 0, .int .i64 0, .int .i64 0, .slice none 0 0, .int .i64 0, .string ⟨#[]⟩, .int .i64 0, .string ⟨#[]⟩, .int .i64 0, .slice none 0 0, .int .i64 0, .int .i64 0, .int .i64 0, .int .i64 0] 31) = W := ⟨_, rfl⟩
  obtain ⟨HS0, HB0, hw0, hz0⟩ := new1 hW0
  have hl0 := HS0.out.lt
  have g0 := str15 HS0.out
  have gf := fun j => HS0.out.frozen j
  obtain ⟨W8, hW8⟩ : ∃ W, (((((((((((((((W0).setCell ⟨w.heap.size, 0, none⟩ (.int .i64 0)).setCell ⟨w.heap.size, 1, none⟩ (.int .i64 0)).setCell ⟨w.heap.size, 2, none⟩ (.int .i64 0)).setCell ⟨w.heap.size, 3, none⟩ (.int .i64 0)).setCell ⟨w.heap.size, 4, none⟩ (.slice none 0 0)).setCell ⟨w.heap.size, 5, none⟩ (.int .i64 0)).setCell ⟨w.heap.size, 6, none⟩ (.string ⟨#[]⟩)).setCell ⟨w.heap.size, 7, none⟩ (.int .i64 0)).setCell ⟨w.heap.size, 8, none⟩ (.string ⟨#[]⟩)).setCell ⟨w.heap.size, 9, none⟩ (.int .i64 0)).setCell ⟨w.heap.size, 10, none⟩ (.slice none 0 0)).setCell ⟨w.heap.size, 11, none⟩ (.int .i64 0)).setCell ⟨w.heap.size, 12, none⟩ (.int .i64 0)).setCell ⟨w.heap.size, 13, none⟩ (.int .i64 0)).setCell ⟨w.heap.size, 14, none⟩ (.int .i64 0) = W := ⟨_, rfl⟩
  have hg8 : W0.grownBy W8 (some w.heap.size) := by rw [← hW8]; exact grown_set (grown_set (grown_set (grown_set (grown_set (grown_set (grown_set (grown_set (grown_set (grown_set (grown_set (grown_set (grown_set (grown_set (grown_set (grown_refl W0 _) 0 _) 1 _) 2 _) 3 _) 4 _) 5 _) 6 _) 7 _) 8 _) 9 _) 10 _) 11 _) 12 _) 13 _) 14 _
  have hres : Str W8 w.heap.size #[.int .i64 0, .int .i64 0, .int .i64 0, .int .i64 0, .slice none 0 0, .int .i64 0, .string ⟨#[]⟩, .int .i64 0, .string ⟨#[]⟩, .int .i64 0, .slice none 0 0, .int .i64 0, .int .i64 0, .int .i64 0, .int .i64 0] := by
    have := (((((((((((((((HS0.out).set 0 (.int .i64 0)).set 1 (.int .i64 0)).set 2 (.int .i64 0)).set 3 (.int .i64 0)).set 4 (.slice none 0 0)).set 5 (.int .i64 0)).set 6 (.string ⟨#[]⟩)).set 7 (.int .i64 0)).set 8 (.string ⟨#[]⟩)).set 9 (.int .i64 0)).set 10 (.slice none 0 0)).set 11 (.int .i64 0)).set 12 (.int .i64 0)).set 13 (.int .i64 0)).set 14 (.int .i64 0)
    rw [← hW8]; simpa using this
  have HFIN := Lib.hid (below_grown HB0.out hg8 (Nat.le_refl _))
  have gz := str15 hres
  clear hg8 hres h
  by_cases h2 : n < 2
  · have ht := NumW.there_no l 0 2 (by omega)
    have HT := Lib.hid ht
    clear ht hs hvs
    go_enter Try.func15, Try.ntmps15
    go_wp2_with fail
    refine (NumW.num_any A n c B 0 2 l W0 (H.out.below (HB0.out.mono hB)) (by omega) (by omega) (by omega)).mono ?_
    rintro e w' ⟨rfl, rfl⟩
    rw [HT.out]
    go_wp2
    exact bodyPost_ret (v := .tuple #[.agg #[.int .i64 0, .int .i64 0, .int .i64 0, .int .i64 0, .slice none 0 0, .int .i64 0, .string ⟨#[]⟩, .int .i64 0, .string ⟨#[]⟩, .int .i64 0, .slice none 0 0, .int .i64 0, .int .i64 0, .int .i64 0, .int .i64 0], .int .i64 0, .int .i64 13]) (by simp [results, Try.results15, go_sem, *]) rfl ⟨rfl, HFIN.out⟩
  · have ht := NumW.there_yes l 0 2 (by omega)
    have HT := Lib.hid ht
    have hs2 : (n : Int) < 2 + NumP.val l 0 2 := by rcases hs with h | h; exact absurd h h2; exact h
    obtain ⟨v, hv⟩ : ∃ v, NumP.val l 0 2 = v := ⟨_, rfl⟩
    rw [hv] at hvs hs2
    have HV := Lib.hid hv
    have hd : decide ((n : Int) < 2 + v) = true := by simpa using hs2
    clear ht hs hv
    go_enter Try.func15, Try.ntmps15
    go_wp2_with fail
    refine (NumW.num_any A n c B 0 2 l W0 (H.out.below (HB0.out.mono hB)) (by omega) (by omega) (by omega)).mono ?_
    rintro e w' ⟨rfl, rfl⟩
    rw [HT.out, HV.out]
    go_wp2
    exact bodyPost_ret (v := .tuple #[.agg #[.int .i64 0, .int .i64 0, .int .i64 0, .int .i64 0, .slice none 0 0, .int .i64 0, .string ⟨#[]⟩, .int .i64 0, .string ⟨#[]⟩, .int .i64 0, .slice none 0 0, .int .i64 0, .int .i64 0, .int .i64 0, .int .i64 0], .int .i64 0, .int .i64 13]) (by simp [results, Try.results15, go_sem, *]) rfl ⟨rfl, HFIN.out⟩
end RecW
namespace RecP
theorem live_right : Right ⟨4, 1, 0, 0, [], ⟨0, ⟨#[]⟩, ⟨0, ⟨#[]⟩, ⟨0, [], 0, 0, 0⟩⟩, 0⟩⟩ := by
  refine ⟨⟨⟨by decide, by decide⟩, ⟨by decide, by decide⟩, ⟨by decide, by decide⟩, ⟨by decide, by decide⟩⟩, by decide, by decide +kernel, fun i p hi => absurd hi (Nat.not_lt_zero _), ⟨fun _ => rfl, fun _ => rfl, fun _ => rfl⟩⟩
theorem live_undo : UndoP.bytes ⟨0, ⟨#[]⟩, ⟨0, ⟨#[]⟩, ⟨0, [], 0, 0, 0⟩⟩, 0⟩ = [0] := by
  unfold UndoP.bytes
  rw [if_pos (by decide +kernel)]
  rfl
theorem live_len : (body ⟨4, 1, 0, 0, [], ⟨0, ⟨#[]⟩, ⟨0, ⟨#[]⟩, ⟨0, [], 0, 0, 0⟩⟩, 0⟩⟩).length = 31 := by
  rw [body_length]
  show 30 + (patsB []).length + (UndoP.bytes _).length = 31
  rw [live_undo]; rfl
theorem live_fits : fits ⟨4, 1, 0, 0, [], ⟨0, ⟨#[]⟩, ⟨0, ⟨#[]⟩, ⟨0, [], 0, 0, 0⟩⟩, 0⟩⟩ = true := by
  unfold fits
  rw [right_yes _ live_right, live_len]; rfl
theorem live_second : (bytes ⟨4, 1, 0, 0, [], ⟨0, ⟨#[]⟩, ⟨0, ⟨#[]⟩, ⟨0, [], 0, 0, 0⟩⟩, 0⟩⟩)[1]? = some 31 := by
  rw [bytes_fit _ live_fits, live_len]
  have : BeP.parts 2 ((31 : Nat) : Int) = [0, 31] := by decide
  rw [this]; rfl
end RecP
namespace RecW
open UndoW
set_option linter.unusedSimpArgs false
set_option maxRecDepth 100000 in
set_option maxHeartbeats 1000000 in
theorem code_any (e : Int) (w : World) : Calls Try.prog 10 #[.int .i64 e] w fun r w' => r = .returned (.int .i64 e) ∧ w = w' := by
  go_enter Try.func10, Try.ntmps10
  go_wp2
  go_ret
  exact ⟨rfl, rfl⟩
set_option maxRecDepth 100000 in
set_option maxHeartbeats 2000000 in
theorem live_any (w : World) : Calls Try.prog 8 #[] w fun e w' => e = .returned (.bool true) ∧ Below w.heap.size w w' := by
  go_enter Try.func8, Try.ntmps8
  go_wp2_with fail
  refine (put_any 4 1 0 0 none 0 0 0 [] 0 ⟨#[]⟩ none 0 0 0 0 ⟨#[]⟩ 0 [] 0 0 0 0 w (Elems.none_ _ _ _) (Nat.zero_le _) (Bytes.none_ _ _) (Nat.zero_le _) (by show 0 ≤ maxLen; unfold maxLen; omega) (by show 0 ≤ maxLen; unfold maxLen; omega)).mono ?_
  rintro e W1 ⟨A1, n1, c1, rfl, hy1, hb1⟩
  have hn1 : n1 = 33 := by rw [← hy1.len, RecP.bytes_length _ RecP.live_fits, RecP.live_len]
  subst hn1
  have HY1 := Lib.hid hy1
  have HB1 := Lib.hid hb1
  obtain ⟨b, o, hA, hbb, hcell⟩ := hy1.at_ (show 1 < 33 by omega)
  have h31 : (RecP.bytes ⟨4, 1, 0, 0, [], ⟨0, ⟨#[]⟩, ⟨0, ⟨#[]⟩, ⟨0, [], 0, 0, 0⟩⟩, 0⟩⟩)[1]'(by rw [hy1.len]; omega) = 31 := by
    have := RecP.live_second
    rw [List.getElem?_eq_getElem (by rw [hy1.len]; omega)] at this
    exact Option.some.inj this
  rw [h31] at hcell
  subst hA
  clear hy1 hb1 h31
  go_wp2_with fail
  refine (get_any 4 1 0 0 [] 0 ⟨#[]⟩ 0 ⟨#[]⟩ 0 [] 0 0 0 0 [] _ 33 c1 W1.heap.size W1 RecP.live_fits ⟨by decide, by decide⟩ ⟨⟨by decide, by decide⟩, ⟨by decide, by decide⟩, ⟨by decide, by decide⟩, ⟨by decide, by decide⟩, ⟨by decide, by decide⟩⟩ (by show 0 ≤ maxLen; unfold maxLen; omega) (by show 0 ≤ maxLen; unfold maxLen; omega) (by rw [List.append_nil]; exact HY1.out) (Nat.le_refl _)).mono ?_
  rintro e W2 ⟨A2, c2, Ap, np, cp, rfl, -, -, hb2⟩
  rw [RecP.bytes_length _ RecP.live_fits, RecP.live_len]
  have HB2 := Lib.hid (bstep HB1.out hb2)
  have hsz2 := hb2.size
  have hbw : b < W2.heap.size := by omega
  replace hcell := (hb2.cell (p := ⟨b, o + 1, none⟩) hbb).trans hcell
  have hv : byteV 31 = .int .u8 31 := rfl
  rw [hv] at hcell
  clear hb2 hv
  go_wp2_with fail
  refine (code_any _ _).mono ?_
  rintro e w' ⟨rfl, rfl⟩
  go_wp2
  go_ret
  exact ⟨rfl, balloc HB2.out _⟩
end RecW
end Go.Proofs.Ytiokcemlfdonnaa
namespace Go.Proofs.Ytiokcemlfdonnaa
open Go.RowKit
set_option linter.unusedVariables false
/-- the bytes are the call's own; the box is there -/
structure BK (w wr : World) (gb : Option Nat) (A : Option Addr) (n c : Nat) (cs : Array Value) (l : List UInt8) : Prop where
  own : OwnS wr gb A n c l
  bel : Below w.heap.size w wr
  box : Str wr w.heap.size cs
  lo : ∀ b, gb = some b → w.heap.size < b
section
variable {w wr wr' : World} {gb : Option Nat} {A : Option Addr} {n c : Nat} {cs : Array Value} {l : List UInt8}
theorem BK.next (h : BK w wr gb A n c cs l) (hb : Below wr.heap.size wr wr') : BK w wr' gb A n c cs l := ⟨h.own.next hb, bstep h.bel hb, h.box.next hb, h.lo⟩
theorem BK.len (h : BK w wr gb A n c cs l) : l.length = n := h.own.len
theorem BK.app (h : BK w wr gb A n c cs l) {B m c2 : Nat} {A2 : Option Addr} {l2 : List UInt8} (h2 : Bytes wr B A2 m c2 l2) (hn : n + m ≤ 140737488355328) :
    ∃ A' c' w' gb', (appSem #[23, 23] 23 #[.slice A n c, .slice A2 m c2]).run Try.prog wr = .ok (.slice A' (n + m) c') w' ∧ BK w w' gb' A' (n + m) c' cs (l ++ l2) := by
  obtain ⟨A', c', w', gb', happ, hO, hg, hgb⟩ := h.own.app (P := Try.prog) 23 23 5 Try.underlying23 Be.infoU8 h2 hn
  have hlt := h.box.lt
  refine ⟨A', c', w', gb', happ, ⟨hO, ?_, h.box.grownO hg (fun e => by have := h.lo _ e; omega), fun b e => ?_⟩⟩
  · exact below_grownO h.bel hg h.bel.size (fun k e => Nat.le_of_lt (h.lo k e))
  · rcases hgb with rfl | e1
    · exact h.lo b e
    · rw [e1] at e; cases e; exact hlt
/-- bytes that a call has made, the box being there before it -/
theorem BK.of_own {w0 : World} {base : Nat} {T : TypeId} (h : wr.ownsRow base T 1 (.slice A n c) n (l.map byteV)) (hbel : Below w.heap.size w wr) (hbox : Str wr w.heap.size cs) (hb : w.heap.size < base) : ∃ gb, BK w wr gb A n c cs l := by
  obtain ⟨gb, hO, hg⟩ := OwnS.of_own h
  exact ⟨gb, hO, hbel, hbox, fun b e => Nat.lt_of_lt_of_le hb (hg b e)⟩
/-- nothing, ahead of the first append -/
theorem BK.none_ (hbel : Below w.heap.size w wr) (hbox : Str wr w.heap.size cs) : BK w wr none none 0 0 cs [] := ⟨OwnS.none_ wr, hbel, hbox, by simp⟩
/-- one byte is written -/
theorem BK.set (h : BK w wr gb A n c cs l) {j : Nat} (hj : j < n) (u : UInt8) : ∃ b o, A = some ⟨b, o, none⟩ ∧ b < wr.heap.size ∧ (∃ v, wr.cell? ⟨b, o + j, none⟩ = some v) ∧ wr.frozen? ⟨b, o + j, none⟩ = false ∧ b ≠ w.heap.size ∧ BK w (wr.setCell ⟨b, o + j, none⟩ (byteV u)) gb A n c cs (l.set j u) := by
  obtain ⟨h1, h2, h3, (⟨h4, -⟩ | ⟨g, o, cur, T, e, hA, hh, hs, hc⟩)⟩ := h.own
  · omega
  · have hlo := h.lo g e
    have hg := (Array.getElem?_eq_some_iff.1 hh).1
    have hne : g ≠ w.heap.size := by omega
    have hgr : wr.grownBy (wr.setCell ⟨g, o + j, none⟩ (byteV u)) (some g) := grown_set (grown_refl wr g) (o + j) (byteV u)
    refine ⟨g, o, hA, hg, ?_, ?_, hne, ⟨⟨by simpa using h1, h2, h3, .inr ⟨g, o, cur.setIfInBounds (o + j) (byteV u), T, e, hA, ?_, by simpa using hs, ?_⟩⟩, ?_, h.box.grown hgr (fun e2 => hne e2.symm), h.lo⟩⟩
    · exact ⟨_, by rw [cell_of_row wr g (o + j) cur T (0, 0) hh]; exact Array.getElem?_eq_getElem (by omega)⟩
    · unfold World.frozen?
      simp [hh]
    · simp [World.setCell, Array.getElem?_modify, hh]
    · intro k v hv
      rw [List.getElem?_set] at hv
      split at hv
      · rename_i ek
        subst ek
        split at hv
        · cases hv
          rw [Array.getElem?_setIfInBounds]
          rw [if_pos rfl, if_pos (by omega)]
        · cases hv
      · rename_i ek
        rw [Array.getElem?_setIfInBounds_ne (by omega)]
        exact hc k v hv
    · exact below_grown h.bel hgr (Nat.le_of_lt hlo)
end
end Go.Proofs.Ytiokcemlfdonnaa
namespace Go.Proofs.Ytiokcemlfdonnaa.RefBytesO
open Go.RowKit
attribute [local go_sem ↓] app_fold

open RefBytes (sh sh_zero sh_succ sh_lt wrap_quo drop_step)
/-- what holds at a round's head -/
def GivesOwn (w : World) (l : List UInt8) (e : Ending) (w' : World) : Prop := ∃ A n c, e = .returned (.slice A n c) ∧ Own w' w.heap.size A n c l ∧ Below w.heap.size w w'
/-- what holds at a round's head -/
def Rel (w : World) (width : Nat) (m : Int) (u out i : Value) (wr : World) : Prop :=
  ∃ (k : Nat) (A : Option Addr) (c : Nat), k ≤ width ∧ i = .int .i64 k ∧ u = .int .u64 ((sh m k : Nat) : Int) ∧ out = .slice A k c ∧ Own wr w.heap.size A k c ((BeP.parts width m).drop (width - k)) ∧ Below w.heap.size w wr

set_option maxRecDepth 100000 in
set_option maxHeartbeats 1000000 in
theorem bytes_any (width : Nat) (m : Int) (w : World) (hw8 : width ≤ 8) :
    Calls Try.prog 41 #[.int .i64 (width : Int), .int .i64 m] w (GivesOwn w (BeP.parts width m)) := by
  obtain ⟨i0, hi, hz0, hz1, hz2⟩ := info_parts Be.infoU8
  have hw := BeP.u64_wrap m
  have h8 : decide ((width : Int) ≤ 8) = true := by simp; omega
  go_enter Try.func41, Try.ntmps41
  go_wp2
  go_loopw [5, 6, 7] (fun u out i wr => Rel w width m u out i wr) (fun _ _ i _ => width - (intOf i).toNat)
  case atStart => exact ⟨0, none, 0, Nat.zero_le _, rfl, by rw [sh_zero], rfl, by rw [List.drop_eq_nil_of_le (by rw [BeP.parts_length]; omega)]; exact Own.none_ w _, bsame w⟩
  case round =>
    obtain ⟨k, A, c, hk, rfl, rfl, rfl, hby, hb⟩ := hrel
    have HBY := Lib.hid hby
    have HB := Lib.hid hb
    clear hby hb hw
    by_cases hlt : k < width
    · have HD := Lib.hid (drop_step width m k hlt)
      have HP := Lib.hid (sh_succ m k)
      have HQ := Lib.hid (wrap_quo _ (sh_lt m k))
      obtain ⟨q, hq⟩ : ∃ q, sh m k = q := ⟨_, rfl⟩
      rw [hq] at HD HP HQ ⊢
      clear hq
      have hv : Value.int .u8 ((q : Int) % 256) = byteV (UInt8.ofNat q) := by
        unfold byteV
        have : (UInt8.ofNat q).toNat = q % 256 := by simp
        rw [this]
        simp
      have hown0 : (wr.alloc (.cells #[.int .u8 ((q : Int) % 256)] 5)).ownsRow w.heap.size 5 1 (.slice (some ⟨wr.heap.size, 0, none⟩) 1 1) 1 [byteV (UInt8.ofNat q)] :=
        ⟨rfl, .inr ⟨_, _, _, rfl, HB.out.size, heap_alloc_new wr _, Nat.le_refl _, by decide, rfl, by simp [hv]⟩⟩
      clear hv
      obtain ⟨v', w', happ, hown, hgrow⟩ := run_append_bytes (P := Try.prog) (wr.alloc (.cells #[.int .u8 ((q : Int) % 256)] 5)) w.heap.size 23 23 5 i0 _ Try.underlying23 hi hz0 hz1 hz2 rfl _ 1 _ hown0 wr.heap.size A k c _ (HBY.out.bytes.alloc (Nat.le_refl _) _) (by omega) (by have := HB.out.size; simp; omega)
      have hbw : Below w.heap.size w w' := (balloc HB.out _).grown hgrow (by have := HB.out.size; simp; omega) (own_block hown0)
      obtain ⟨A', c', rfl⟩ := own_slice hown
      have hby' : Own w' w.heap.size A' (1 + k) c' (UInt8.ofNat q :: (BeP.parts width m).drop (width - k)) := by simpa [Own] using hown
      obtain ⟨n', hn'⟩ : ∃ n', 1 + k = n' := ⟨_, rfl⟩
      rw [hn'] at hby' happ
      clear hn'
      have HBW := Lib.hid hbw
      have HBY' := Lib.hid hby'
      have HN := Lib.hid hby'.len
      clear hown0 hown hgrow hbw hby'
      go_wp2
      go_roundw
      case rel =>
        have hn : n' = k + 1 := by have := HN.out; simp [BeP.parts_length] at this; omega
        subst hn
        refine ⟨k + 1, A', c', by omega, by go_num, ?_, rfl, ?_, HBW.out⟩
        · rw [HP.out]
          exact congrArg (Value.int .u64) HQ.out
        · rw [HD.out]
          exact HBY'.out
      case measure => simp [intOf]; omega
    · go_wp2
      go_ret
      have hk' : width - k = 0 := by omega
      have := HBY.out
      rw [hk', List.drop_zero] at this
      exact ⟨A, k, c, rfl, this, HB.out⟩
end Go.Proofs.Ytiokcemlfdonnaa.RefBytesO
namespace Go.Proofs.Ytiokcemlfdonnaa.RefText
open Go.RowKit
set_option linter.unusedVariables false
attribute [local go_sem ↓] app_fold
set_option maxRecDepth 100000 in
set_option maxHeartbeats 1000000 in
theorem text_any (s : ByteArray) (hs : s.size ≤ 65535) (w : World) :
    Calls Try.prog 82 #[.string s] w (GivesBytes w (BeP.parts 2 (s.size : Nat) ++ s.data.toList)) := by
  have hd : decide ((65535 : Int) < (s.size : Int)) = false := by simp; omega
  go_enter Try.func82, Try.ntmps82
  go_wp2_with fail
  refine (RefBytesO.bytes_any 2 (s.size : Nat) w (by omega)).mono ?_
  rintro e W1 ⟨A, n, c, rfl, hO, hb⟩
  have hn : n = 2 := by rw [← hO.len, BeP.parts_length]
  subst hn
  obtain ⟨A', c', W2, happ, hO2, hb2⟩ := hO.appStr s (by omega) hb.size
  have HO := Lib.hid hO2
  have HB := Lib.hid (hb.trans hb2)
  clear hO hb hO2 hb2
  go_wp2
  go_ret
  exact ⟨A', 2 + s.size, c', rfl, HO.out.bytes, HB.out⟩
end Go.Proofs.Ytiokcemlfdonnaa.RefText
namespace Go.Proofs.Ytiokcemlfdonnaa.RefPatch
open Go.RowKit
set_option linter.unusedVariables false
set_option linter.unusedSimpArgs false
attribute [local go_sem ↓] app_fold
theorem head_no (p : Int) : BeP.parts 2 p ++ [0] = BeP.parts 2 p ++ BeP.parts 1 (PatchP.flag false) := by
  have : BeP.parts 1 (PatchP.flag false) = [0] := by decide
  rw [this]
theorem head_yes (p : Int) : (BeP.parts 2 p ++ [0]).set 2 1 = BeP.parts 2 p ++ BeP.parts 1 (PatchP.flag true) := by
  have h1 : BeP.parts 1 (PatchP.flag true) = [1] := by decide
  have h2 := BeP.parts_length 2 p
  rw [h1, List.set_append_right _ _ (by omega), h2]
  rfl
set_option maxRecDepth 100000 in
set_option maxHeartbeats 4000000 in
theorem bytes_any (x : PatchX) (A2 : Option Addr) (n2 c2 B2 : Nat) (w : World) (hE : Elems RunE w B2 A2 n2 c2 x.runs) (hB2 : B2 ≤ w.heap.size) (hi : In64 x.page) :
    Calls Try.prog 42 #[.agg #[.int .i64 x.page, .bool x.fresh, .slice A2 n2 c2]] w (GivesBytes w (PatchP.bytes x)) := by
  have HE := Lib.hid hE
  have hlen := hE.len
  have hcap := hE.cap
  have hcm := hcap.2
  unfold maxLen at hcm
  clear hE
  have HBX : Hid (PatchP.bytes x = if PatchP.right x = true then PatchP.body x else []) := Lib.hid rfl
  have HRT : Hid (PatchP.right x = true → x.runs.length ≤ 500 ∧ (∀ (k : Nat) r, x.runs[k]? = some r → 12 ≤ r.at_ ∧ r.at_ ≤ 511 ∧ 1 ≤ r.data.length ∧ r.data.length ≤ 500) ∧ ∀ k, (PatchP.runsB (x.runs.take k)).length ≤ 252000) := Lib.hid (fun h => by
    have hR := (PatchP.right_iff x).1 h
    exact ⟨hR.2.2.1, fun k r hr => PatchP.in_runs hR hr, fun k => PatchP.runs_le hR k⟩)
  have HBO : Hid (PatchP.body x = BeP.parts 2 x.page ++ (BeP.parts 1 (PatchP.flag x.fresh) ++ BeP.parts 2 (x.runs.length : Nat)) ++ PatchP.runsB x.runs) := Lib.hid rfl
  have hchk := fun W (h1 : Elems RunE W B2 A2 n2 c2 x.runs) (h2 : B2 ≤ W.heap.size) => right_any x A2 n2 c2 B2 W h1 h2 hi
  have HC := Lib.hid hchk
  clear hchk hi
  obtain ⟨p, fr, rs⟩ := x
  dsimp only at *
  obtain ⟨W0, hW0⟩ : ∃ W, w.alloc (.cells #[.int .i64 p, .bool fr, .slice A2 n2 c2] 63) = W := ⟨_, rfl⟩
  obtain ⟨HS0, HB0, hw0, hz0⟩ := new1 hW0
  have g0 := str3 HS0.out
  have hl0 := HS0.out.lt
  go_enter Try.func42, Try.ntmps42
  go_wp2_with fail
  refine (HC.out W0 (HE.out.below (HB0.out.mono hB2)) (by omega)).mono ?_
  rintro e W1 ⟨rfl, hb1⟩
  have HS1 := Lib.hid (HS0.out.next hb1)
  have HB1 := Lib.hid (bstep HB0.out hb1)
  have hw1 := HB1.out.size
  have hs1 := hb1.size
  clear hb1 HS0 HB0 g0 hl0
  have g0 := str3 HS1.out
  have hl0 := HS1.out.lt
  cases hr : PatchP.right ⟨p, fr, rs⟩ with
  | false =>
    have HFIN : Hid (PatchP.bytes ⟨p, fr, rs⟩ = []) := Lib.hid (by rw [HBX.out, hr, if_neg (by decide)])
    clear hr HBX HBO HRT
    go_wp2
    go_ret
    exact ⟨none, 0, 0, rfl, by rw [HFIN.out]; exact Bytes.none_ _ _, HB1.out⟩
  | true =>
    have hl500 := (HRT.out hr).1
    have HIN := Lib.hid (HRT.out hr).2.1
    have HRS := Lib.hid (HRT.out hr).2.2
    have hfin : PatchP.bytes ⟨p, fr, rs⟩ = BeP.parts 2 p ++ BeP.parts 1 (PatchP.flag fr) ++ BeP.parts 2 (n2 : Int) ++ PatchP.runsB rs := by
      rw [HBX.out, hr, if_pos rfl, HBO.out, hlen]; simp
    have HFIN := Lib.hid hfin
    have HL := Lib.hid hlen
    clear hfin hr HRT HBX HBO
    go_wp2_with fail
    refine (RefBytesO.bytes_any 2 p W1 (by omega)).mono ?_
    rintro e W2 ⟨A3, n3, c3, rfl, hO3, hb2⟩
    have hn3 : n3 = 2 := by rw [← hO3.len, BeP.parts_length]
    subst hn3
    obtain ⟨g3, hK3⟩ := BK.of_own (w0 := w) hO3 (bstep HB1.out hb2) (HS1.out.next hb2) hl0
    have HK3 := Lib.hid hK3
    clear hK3 hO3 hb2 g0 hl0 HS1 HB1
    have HK4 := Lib.hid (HK3.out.next (balloc (bsame W2) (.cells #[.int .u8 0] 5)))
    have h0 : ((0 : UInt8).toNat : Int) = 0 := rfl
    have hone := (Own.one W2 W2.heap.size (Nat.le_refl _) 0).bytes
    simp only [h0] at hone
    obtain ⟨A5, c5, W5, g5, happ5, hK5⟩ := HK4.out.app hone (by omega)
    have HK5 := Lib.hid hK5
    have g0 := str3 HK5.out.box
    have hl0 := HK5.out.box.lt
    clear hK5 hone h0 HK3 HK4
    cases fr with
    | false =>
      rw [head_no] at HK5
      go_wp2_with fail
      refine (RefBytes.bytes_any 2 (n2 : Int) _ (by omega)).mono ?_
      rintro e W7 ⟨A7, n7, c7, rfl, hy7, hb7⟩
      have hn7 : n7 = 2 := by rw [← hy7.len, BeP.parts_length]
      subst hn7
      obtain ⟨A8, c8, W8, g8, happ8, hK8⟩ := (HK5.out.next hb7).app hy7 (by omega)
      have HK8 := Lib.hid hK8
      clear hK8 hy7 hb7 g0 hl0 HK5
      have g0 := str3 HK8.out.box
      have hl0 := HK8.out.box.lt
      obtain ⟨L0, hL0⟩ : ∃ L, BeP.parts 2 p ++ BeP.parts 1 (PatchP.flag false) ++ BeP.parts 2 (n2 : Int) = L := ⟨_, rfl⟩
      have hL0l : L0.length ≤ 5 := by rw [← hL0]; simp [BeP.parts_length]
      rw [hL0] at HK8 HFIN
      clear hL0
      go_wp2
      go_loopw [3, 4] (fun bv iv wr => ∃ (k nk ck : Nat) (gk : Option Nat) (Ak : Option Addr), k ≤ n2 ∧ bv = .slice Ak nk ck ∧ iv = .int .i64 (k : Int) ∧ nk ≤ 252005 ∧ Hid (BK w wr gk Ak nk ck #[.int .i64 p, .bool false, .slice A2 n2 c2] (L0 ++ PatchP.runsB (rs.take k)))) (fun _ iv _ => n2 - (intOf iv).toNat)
      case atStart => exact ⟨0, _, _, g8, A8, Nat.zero_le _, rfl, rfl, by omega, Lib.hid (by simpa [PatchP.runsB] using HK8.out)⟩
      case round =>
        obtain ⟨k, nk, ck, gk, Ak, hk, rfl, rfl, hnk, HQ⟩ := hrel
        clear HK8 g0 hl0
        have g0 := str3 HQ.out.box
        have hl0 := HQ.out.box.lt
        have hwr := HQ.out.bel.size
        by_cases hlt : k < n2
        · have hd : decide ((k : Int) < (n2 : Int)) = true := by simp; omega
          obtain ⟨b, o, r, A4, n4, c4, rfl, hb, hr, hy, hir, q0, q1⟩ := run_at HE.out hlt
          have hrin := HIN.out k r hr
          have hyl := hy.len
          replace q0 := (HQ.out.bel.cell (p := ⟨b, o + k * 2, none⟩) (by show b < _; omega)).trans q0
          have HQ1 := Lib.hid q1
          have hsn : L0 ++ PatchP.runsB (rs.take (k + 1)) = L0 ++ PatchP.runsB (rs.take k) ++ BeP.parts 2 r.at_ ++ (BeP.parts 2 (n4 : Int) ++ r.data) := by
            rw [PatchP.runsB_snoc _ _ _ hr]
            simp only [PatchP.runB, hyl, List.append_assoc]
          have HSN := Lib.hid hsn
          have hlk1 : (L0 ++ PatchP.runsB (rs.take (k + 1))).length = nk + (2 + (2 + n4)) := by
            rw [hsn]; simp only [List.length_append, BeP.parts_length, hyl]; have := HQ.out.len; simp only [List.length_append] at this; omega
          have hrk := HRS.out (k + 1)
          have hL5 : L0.length ≤ 5 := hL0l
          have hnk1 : nk + (2 + (2 + n4)) ≤ 252005 := by rw [← hlk1, List.length_append]; omega
          obtain ⟨rp, rd⟩ := r
          dsimp only at *
          have HY := Lib.hid hy
          clear hsn hy hr hrk q1 hlk1
          go_wp2_with fail
          refine (RefBytes.bytes_any 2 rp wr (by omega)).mono ?_
          rintro e W9 ⟨A9, n9, c9, rfl, hy9, hb9⟩
          have hn9 : n9 = 2 := by rw [← hy9.len, BeP.parts_length]
          subst hn9
          obtain ⟨A10, c10, W10, g10, happ10, hK10⟩ := (HQ.out.next hb9).app hy9 (by omega)
          have HK10 := Lib.hid hK10
          clear hK10 hy9 hb9 HQ g0 hl0 q0
          have g0 := str3 HK10.out.box
          have hl0 := HK10.out.box.lt
          have q1 := (HK10.out.bel.cell (p := ⟨b, o + k * 2 + 1, none⟩) (by show b < _; omega)).trans HQ1.out
          have hy10 : Bytes W10 B2 A4 n4 c4 rd := HY.out.below (HK10.out.bel.mono hB2)
          have hstr := run_str (P := Try.prog) 23 9 5 Try.underlying23 Try.underlying5 Try.underlying9 hy10
          have hsz : (strOf rd).size = n4 := by rw [strOf_size]; exact hyl
          clear hy10
          go_wp2_with fail
          refine (RefText.text_any (strOf rd) (by omega) W10).mono ?_
          rintro e W11 ⟨A11, n11, c11, rfl, hy11, hb11⟩
          rw [strOf_data, hsz] at hy11
          have hn11 : n11 = 2 + n4 := by rw [← hy11.len]; simp only [List.length_append, BeP.parts_length, hyl]
          subst hn11
          obtain ⟨A12, c12, W12, g12, happ12, hK12⟩ := (HK10.out.next hb11).app hy11 (by omega)
          rw [← HSN.out] at hK12
          have HK12 := Lib.hid hK12
          have hn12 : nk + 2 + (2 + n4) ≤ 252005 := by omega
          clear hK12 hy11 hb11 HK10 g0 hl0 q1 hstr hsz hnk1
          go_wp2
          go_roundw
          case rel => exact ⟨k + 1, _, c12, g12, A12, by omega, rfl, by go_num, hn12, HK12⟩
          case measure => simp [intOf]; omega
        · have hd : decide ((k : Int) < (n2 : Int)) = false := by simp; omega
          have hkn : k = n2 := by omega
          subst hkn
          have htk : rs.take k = rs := List.take_of_length_le (by rw [HL.out]; exact Nat.le_refl _)
          rw [htk, ← HFIN.out] at HQ
          clear htk
          go_wp2
          go_ret
          exact ⟨Ak, nk, ck, rfl, HQ.out.own.bytes, HQ.out.bel⟩
    | true =>
      obtain ⟨b6, o6, rfl, hb6, ⟨v6, hv6⟩, hf6, hne6, hK6⟩ := HK5.out.set (show 2 < 2 + 1 by omega) 1
      have h1 : byteV 1 = .int .u8 1 := rfl
      rw [head_yes, h1] at hK6
      clear HK5
      have HK5 := Lib.hid hK6
      clear hK6 h1
      go_wp2_with fail
      refine (RefBytes.bytes_any 2 (n2 : Int) _ (by omega)).mono ?_
      rintro e W7 ⟨A7, n7, c7, rfl, hy7, hb7⟩
      have hn7 : n7 = 2 := by rw [← hy7.len, BeP.parts_length]
      subst hn7
      clear hv6 hf6
      obtain ⟨A8, c8, W8, g8, happ8, hK8⟩ := (HK5.out.next hb7).app hy7 (by omega)
      have HK8 := Lib.hid hK8
      clear hK8 hy7 hb7 g0 hl0 HK5
      have g0 := str3 HK8.out.box
      have hl0 := HK8.out.box.lt
      obtain ⟨L0, hL0⟩ : ∃ L, BeP.parts 2 p ++ BeP.parts 1 (PatchP.flag true) ++ BeP.parts 2 (n2 : Int) = L := ⟨_, rfl⟩
      have hL0l : L0.length ≤ 5 := by rw [← hL0]; simp [BeP.parts_length]
      rw [hL0] at HK8 HFIN
      clear hL0
      go_wp2
      go_loopw [3, 4] (fun bv iv wr => ∃ (k nk ck : Nat) (gk : Option Nat) (Ak : Option Addr), k ≤ n2 ∧ bv = .slice Ak nk ck ∧ iv = .int .i64 (k : Int) ∧ nk ≤ 252005 ∧ Hid (BK w wr gk Ak nk ck #[.int .i64 p, .bool true, .slice A2 n2 c2] (L0 ++ PatchP.runsB (rs.take k)))) (fun _ iv _ => n2 - (intOf iv).toNat)
      case atStart => exact ⟨0, _, _, g8, A8, Nat.zero_le _, rfl, rfl, by omega, Lib.hid (by simpa [PatchP.runsB] using HK8.out)⟩
      case round =>
        obtain ⟨k, nk, ck, gk, Ak, hk, rfl, rfl, hnk, HQ⟩ := hrel
        clear HK8 g0 hl0
        have g0 := str3 HQ.out.box
        have hl0 := HQ.out.box.lt
        have hwr := HQ.out.bel.size
        by_cases hlt : k < n2
        · have hd : decide ((k : Int) < (n2 : Int)) = true := by simp; omega
          obtain ⟨b, o, r, A4, n4, c4, rfl, hb, hr, hy, hir, q0, q1⟩ := run_at HE.out hlt
          have hrin := HIN.out k r hr
          have hyl := hy.len
          replace q0 := (HQ.out.bel.cell (p := ⟨b, o + k * 2, none⟩) (by show b < _; omega)).trans q0
          have HQ1 := Lib.hid q1
          have hsn : L0 ++ PatchP.runsB (rs.take (k + 1)) = L0 ++ PatchP.runsB (rs.take k) ++ BeP.parts 2 r.at_ ++ (BeP.parts 2 (n4 : Int) ++ r.data) := by
            rw [PatchP.runsB_snoc _ _ _ hr]
            simp only [PatchP.runB, hyl, List.append_assoc]
          have HSN := Lib.hid hsn
          have hlk1 : (L0 ++ PatchP.runsB (rs.take (k + 1))).length = nk + (2 + (2 + n4)) := by
            rw [hsn]; simp only [List.length_append, BeP.parts_length, hyl]; have := HQ.out.len; simp only [List.length_append] at this; omega
          have hrk := HRS.out (k + 1)
          have hL5 : L0.length ≤ 5 := hL0l
          have hnk1 : nk + (2 + (2 + n4)) ≤ 252005 := by rw [← hlk1, List.length_append]; omega
          obtain ⟨rp, rd⟩ := r
          dsimp only at *
          have HY := Lib.hid hy
          clear hsn hy hr hrk q1 hlk1
          go_wp2_with fail
          refine (RefBytes.bytes_any 2 rp wr (by omega)).mono ?_
          rintro e W9 ⟨A9, n9, c9, rfl, hy9, hb9⟩
          have hn9 : n9 = 2 := by rw [← hy9.len, BeP.parts_length]
          subst hn9
          obtain ⟨A10, c10, W10, g10, happ10, hK10⟩ := (HQ.out.next hb9).app hy9 (by omega)
          have HK10 := Lib.hid hK10
          clear hK10 hy9 hb9 HQ g0 hl0 q0
          have g0 := str3 HK10.out.box
          have hl0 := HK10.out.box.lt
          have q1 := (HK10.out.bel.cell (p := ⟨b, o + k * 2 + 1, none⟩) (by show b < _; omega)).trans HQ1.out
          have hy10 : Bytes W10 B2 A4 n4 c4 rd := HY.out.below (HK10.out.bel.mono hB2)
          have hstr := run_str (P := Try.prog) 23 9 5 Try.underlying23 Try.underlying5 Try.underlying9 hy10
          have hsz : (strOf rd).size = n4 := by rw [strOf_size]; exact hyl
          clear hy10
          go_wp2_with fail
          refine (RefText.text_any (strOf rd) (by omega) W10).mono ?_
          rintro e W11 ⟨A11, n11, c11, rfl, hy11, hb11⟩
          rw [strOf_data, hsz] at hy11
          have hn11 : n11 = 2 + n4 := by rw [← hy11.len]; simp only [List.length_append, BeP.parts_length, hyl]
          subst hn11
          obtain ⟨A12, c12, W12, g12, happ12, hK12⟩ := (HK10.out.next hb11).app hy11 (by omega)
          rw [← HSN.out] at hK12
          have HK12 := Lib.hid hK12
          have hn12 : nk + 2 + (2 + n4) ≤ 252005 := by omega
          clear hK12 hy11 hb11 HK10 g0 hl0 q1 hstr hsz hnk1
          go_wp2
          go_roundw
          case rel => exact ⟨k + 1, _, c12, g12, A12, by omega, rfl, by go_num, hn12, HK12⟩
          case measure => simp [intOf]; omega
        · have hd : decide ((k : Int) < (n2 : Int)) = false := by simp; omega
          have hkn : k = n2 := by omega
          subst hkn
          have htk : rs.take k = rs := List.take_of_length_le (by rw [HL.out]; exact Nat.le_refl _)
          rw [htk, ← HFIN.out] at HQ
          clear htk
          go_wp2
          go_ret
          exact ⟨Ak, nk, ck, rfl, HQ.out.own.bytes, HQ.out.bel⟩
end Go.Proofs.Ytiokcemlfdonnaa.RefPatch
