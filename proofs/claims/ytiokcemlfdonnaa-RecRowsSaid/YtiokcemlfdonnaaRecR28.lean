/-
  Parts of the proof of RecRows.
-/
import Derived.Test.YtiokcemlfdonnaaRecR27
section
namespace Go.Proofs.Ytiokcemlfdonnaa
open Go.RowKit
set_option linter.unusedVariables false
namespace RecP
theorem val_parts4 (post : List UInt8) (m : Int) (h0 : 0 ≤ m) (h1 : m < 4294967296) : NumP.val (BeP.parts 4 m ++ post) 0 4 = m := by
  unfold NumP.val
  rw [if_pos (by simp [BeP.parts_length]), List.drop_zero, List.take_append_of_le_length (by rw [BeP.parts_length]; omega), List.take_of_length_le (by rw [BeP.parts_length]; omega), NumP.num_parts]
  unfold BeP.u64
  have e : (m % 18446744073709551616).toNat % 256 ^ 4 = m.toNat := by omega
  rw [e, NumP.toI_small _ (by omega)]
  omega
/-- the seal is right -/
theorem body_good (x : RecX) : (NumP.val (body x) 0 4 == ((CrcP.sum ((body x).drop 4) : Nat) : Int)) = true := by
  have h1 : (body x).drop 4 = inner x := by unfold body; rw [List.drop_left' (BeP.parts_length 4 _)]
  have h2 := CrcP.sum_lt (inner x)
  rw [h1]
  unfold body
  rw [val_parts4 _ _ (by omega) (by omega)]
  simp
theorem bytes_fit (x : RecX) (h : fits x = true) : bytes x = BeP.parts 2 ((body x).length : Nat) ++ body x := by unfold bytes; rw [if_pos h]
theorem bytes_fit6 (x : RecX) (h : fits x = true) : (bytes x).drop 2 = body x ∧ (bytes x).drop 6 = inner x := by
  have h1 : (bytes x).drop 2 = body x := by rw [bytes_fit x h, List.drop_left' (BeP.parts_length 2 _)]
  refine ⟨h1, ?_⟩
  rw [show 6 = 2 + 4 from rfl, ← List.drop_drop, h1]
  unfold body
  rw [List.drop_left' (BeP.parts_length 4 _)]
theorem got_len (x : RecX) (more : List UInt8) (h : fits x = true) : NumP.val (bytes x ++ more) 0 2 = ((body x).length : Nat) := by
  rw [bytes_fit x h, List.append_assoc]
  exact PatchP.val_parts2 [] _ _ (by omega) (by have := fits_len h; omega)
end RecP
namespace RecW
open UndoW
set_option linter.unusedSimpArgs false
attribute [local go_sem ↓] app_fold cut_fold
set_option maxRecDepth 100000 in
set_option maxHeartbeats 8000000 in
theorem get_any (kd tx pv nx : Int) (l : List PatchX) (pact : Int) (puk : ByteArray) (pst : Int) (pk : ByteArray) (pkd : Int) (pda : List UInt8) (plo phi pva pun : Int) (more : List UInt8) (A : Option Addr) (n c B : Nat) (w : World) (hF : RecP.fits ⟨kd, tx, pv, nx, l, ⟨pact, puk, ⟨pst, pk, ⟨pkd, pda, plo, phi, pva⟩⟩, pun⟩⟩ = true) (hun : In64 pun) (hui : SlotP.In ⟨pst, pk, ⟨pkd, pda, plo, phi, pva⟩⟩) (hpk : pk.size ≤ maxLen) (hpuk : puk.size ≤ maxLen) (h : Bytes w B A n c (RecP.bytes ⟨kd, tx, pv, nx, l, ⟨pact, puk, ⟨pst, pk, ⟨pkd, pda, plo, phi, pva⟩⟩, pun⟩⟩ ++ more)) (hB : B ≤ w.heap.size) :
    Calls Try.prog 15 #[.slice A n c] w fun e w' => ∃ A2 c2 Ap np cp, e = .returned (.tuple #[.agg #[.int .i64 kd, .int .i64 tx, .int .i64 pv, .int .i64 nx, .slice A2 l.length c2, .int .i64 pact, .string puk, .int .i64 pst, .string pk, .int .i64 pkd, .slice Ap np cp, .int .i64 plo, .int .i64 phi, .int .i64 pva, .int .i64 pun], .int .i64 ((RecP.bytes ⟨kd, tx, pv, nx, l, ⟨pact, puk, ⟨pst, pk, ⟨pkd, pda, plo, phi, pva⟩⟩, pun⟩⟩).length : Nat), .int .i64 0]) ∧ Elems PatchE w' w'.heap.size A2 l.length c2 l ∧ Bytes w' w'.heap.size Ap np cp pda ∧ Below w.heap.size w w' := by
  have H := Lib.hid h
  have HR := Lib.hid (RecP.fits_right hF)
  have HPK := Lib.hid (And.intro hpk hpuk)
  have hfl := RecP.fits_len hF
  have hv := RecP.got_len ⟨kd, tx, pv, nx, l, ⟨pact, puk, ⟨pst, pk, ⟨pkd, pda, plo, phi, pva⟩⟩, pun⟩⟩ more hF
  have hd6 := RecP.bytes_fit6 ⟨kd, tx, pv, nx, l, ⟨pact, puk, ⟨pst, pk, ⟨pkd, pda, plo, phi, pva⟩⟩, pun⟩⟩ hF
  have hbl := RecP.bytes_length ⟨kd, tx, pv, nx, l, ⟨pact, puk, ⟨pst, pk, ⟨pkd, pda, plo, phi, pva⟩⟩, pun⟩⟩ hF
  have hgood := RecP.body_good ⟨kd, tx, pv, nx, l, ⟨pact, puk, ⟨pst, pk, ⟨pkd, pda, plo, phi, pva⟩⟩, pun⟩⟩
  have hln := h.len
  have hnc := h.2.1
  have hcm := h.2.2.1
  unfold maxLen at hcm
  rw [List.length_append] at hln
  have h30 : 30 ≤ (RecP.body ⟨kd, tx, pv, nx, l, ⟨pact, puk, ⟨pst, pk, ⟨pkd, pda, plo, phi, pva⟩⟩, pun⟩⟩).length := by rw [RecP.body_length]; omega
  have hil : (RecP.inner ⟨kd, tx, pv, nx, l, ⟨pact, puk, ⟨pst, pk, ⟨pkd, pda, plo, phi, pva⟩⟩, pun⟩⟩).length + 4 = (RecP.body ⟨kd, tx, pv, nx, l, ⟨pact, puk, ⟨pst, pk, ⟨pkd, pda, plo, phi, pva⟩⟩, pun⟩⟩).length := by unfold RecP.body; rw [List.length_append, BeP.parts_length]; omega
  obtain ⟨m, hm⟩ : ∃ m, (RecP.body ⟨kd, tx, pv, nx, l, ⟨pact, puk, ⟨pst, pk, ⟨pkd, pda, plo, phi, pva⟩⟩, pun⟩⟩).length = m := ⟨_, rfl⟩
  rw [hm] at hfl hv hbl h30 hil
  rw [hbl] at hln ⊢
  have ht := NumW.there_yes (RecP.bytes ⟨kd, tx, pv, nx, l, ⟨pact, puk, ⟨pst, pk, ⟨pkd, pda, plo, phi, pva⟩⟩, pun⟩⟩ ++ more) 0 2 (by rw [List.length_append, hbl]; omega)
  have hc0 := h.cut 0 (2 + m) c (Nat.zero_le _) (by omega) (by omega) (Nat.le_refl _)
  rw [List.drop_zero, Nat.sub_zero, Nat.sub_zero, List.take_left' hbl] at hc0
  have hc2 := hc0.cut 2 (2 + m) c (by omega) (Nat.le_refl _) (by omega) (Nat.le_refl _)
  rw [hd6.1, show 2 + m - 2 = m by omega, List.take_of_length_le (by omega)] at hc2
  have hc6 := hc0.cut 6 (2 + m) c (by omega) (Nat.le_refl _) (by omega) (Nat.le_refl _)
  rw [hd6.2, List.take_of_length_le (by omega)] at hc6
  have H0 := Lib.hid hc0
  have H2 := Lib.hid hc2
  have H6 := Lib.hid hc6
  have HV := Lib.hid (And.intro hv ht)
  have HG := Lib.hid hgood
  have hR0 : ∃ R, l.length = R := ⟨_, rfl⟩
  obtain ⟨R, hRl⟩ := hR0
  rw [hRl]
  clear h hc0 hc2 hc6 hv ht hgood hd6 hbl hil hm hpk hpuk hF
  have q1 : (2 : Int) + (m : Int) ≤ (c : Int) := by omega
  have q2 : ((2 : Int) + (m : Int)).toNat = 2 + m := by omega
  have q3 : decide ((n : Int) < 2 + (m : Int)) = false := by simp; omega
  have q4 : (2 : Int) ≤ 2 + (m : Int) := by omega
  have q5 : (6 : Int) ≤ 2 + (m : Int) := by omega
  have q6 : (6 : Int) ≤ (c : Int) := by omega
  have q11 : 2 + m - 6 ≤ 100000 := by omega
  have q8 : ((2 + m : Nat) : Int) ≤ (c : Int) := by omega
  have q9 : (6 : Int) ≤ ((2 + m : Nat) : Int) := by omega
  have q10 : (2 : Int) ≤ ((2 + m : Nat) : Int) := by omega
  obtain ⟨W0, hW0⟩ : ∃ W, w.alloc (.cells #[.int .i64 0, .int .i64 0, .int .i64 0, .int .i64 0, .slice none 0 0, .int .i64 0, .string ⟨#[]⟩, .int .i64 0, .string ⟨#[]⟩, .int .i64 0, .slice none 0 0, .int .i64 0, .int .i64 0, .int .i64 0, .int .i64 0] 31) = W := ⟨_, rfl⟩
  obtain ⟨HS0, HB0, hw0, hz0⟩ := new1 hW0
  have hl0 := HS0.out.lt
  go_enter Try.func15, Try.ntmps15
  go_wp2_with fail
  refine (NumW.num_any A n c B 0 2 _ W0 (H.out.below (HB0.out.mono hB)) (by omega) (by omega) (by omega)).mono ?_
  rintro e w' ⟨rfl, rfl⟩
  rw [HV.out.1, HV.out.2]
  go_wp2_with fail
  refine (CrcW.good_any _ m _ B (RecP.body ⟨kd, tx, pv, nx, l, ⟨pact, puk, ⟨pst, pk, ⟨pkd, pda, plo, phi, pva⟩⟩, pun⟩⟩) _ (H2.out.below (HB0.out.mono hB)) (by omega) (by omega)).mono ?_
  rintro e W1 ⟨rfl, hb1⟩
  rw [HG.out]
  replace HS0 := Lib.hid (HS0.out.next hb1)
  replace HB0 := Lib.hid (bstep HB0.out hb1)
  have hw1 := HB0.out.size
  have hl0 := HS0.out.lt
  clear hb1
  go_wp2_with fail
  refine (read_any kd tx pv nx l pact puk pst pk pkd pda plo phi pva pun _ _ _ B W1 HR.out hun hui (H6.out.below (HB0.out.mono hB)) (by omega) q11).mono ?_
  rintro e W2 ⟨A2, c2, Ap, np, cp, rfl, hE2, hy2, hb2⟩
  rw [hRl] at hE2 ⊢
  replace HS0 := Lib.hid (HS0.out.next hb2)
  replace HB0 := Lib.hid (bstep HB0.out hb2)
  have HE2 := Lib.hid hE2
  have hlt0 := HS0.out.lt
  have HY2 := Lib.hid hy2
  clear hE2 hy2 hb2
  obtain ⟨W6, hW6⟩ : ∃ W, W2.alloc (.cells #[.int .i64 kd, .int .i64 tx, .int .i64 pv, .int .i64 nx, .slice A2 R c2, .int .i64 pact, .string puk, .int .i64 pst, .string pk, .int .i64 pkd, .slice Ap np cp, .int .i64 plo, .int .i64 phi, .int .i64 pva, .int .i64 pun] 31) = W := ⟨_, rfl⟩
  obtain ⟨HX, HBX, hw6, hz6⟩ := new1 hW6
  replace HS0 := Lib.hid (HS0.out.next HBX.out)
  replace HB0 := Lib.hid (bstep HB0.out HBX.out)
  have HA6 := Lib.hid ((HE2.out.sub (above_sub (sub_below HBX.out))).more HBX.out.size)
  have HE6 := Lib.hid (HA6.out.sub (sub_above _ _ _))
  have HY6 := Lib.hid (HY2.out.next HBX.out)
  have g6 := str15 HX.out
  have hl6 := HX.out.lt
  have hl0 := HS0.out.lt
  have hw66 := HB0.out.size
  clear HBX HE2 HY2
  go_wp2_with fail
  refine (put_any kd tx pv nx A2 R c2 W6.heap.size l pact puk Ap np cp W6.heap.size pst pk pkd pda plo phi pva pun W6 HE6.out (Nat.le_refl _) HY6.out (Nat.le_refl _) HPK.out.1 HPK.out.2).mono ?_
  rintro e W7 ⟨A7, n7, c7, rfl, hy7, hb7⟩
  replace HS0 := Lib.hid (HS0.out.next hb7)
  have HB7 := Lib.hid (bstep HB0.out hb7)
  replace HX := Lib.hid (HX.out.next hb7)
  have HE7 := Lib.hid ((HA6.out.sub (above_sub (sub_below hb7))).more hb7.size)
  have HY7 := Lib.hid (HY6.out.next hb7)
  have HYB := Lib.hid hy7
  clear hy7 hb7 g6 hl6 hl0 hW6 HE6 HY6 HB0
  have g6 := str15 HX.out
  have hl6 := HX.out.lt
  have g0 := str15 HS0.out
  have gf := fun j => HS0.out.frozen j
  have hl0 := HS0.out.lt
  go_wp2_with fail
  refine (Same.equal_any _ _ _ _ _ _ _ _ (RecP.bytes ⟨kd, tx, pv, nx, l, ⟨pact, puk, ⟨pst, pk, ⟨pkd, pda, plo, phi, pva⟩⟩, pun⟩⟩) (RecP.bytes ⟨kd, tx, pv, nx, l, ⟨pact, puk, ⟨pst, pk, ⟨pkd, pda, plo, phi, pva⟩⟩, pun⟩⟩) W7 HYB.out (H0.out.below (HB7.out.mono hB))).mono ?_
  rintro e w' ⟨rfl, rfl⟩
  rw [beq_self_eq_true]
  obtain ⟨W8, hW8⟩ : ∃ W, (((((((((((((((W7).setCell ⟨w.heap.size, 0, none⟩ (.int .i64 kd)).setCell ⟨w.heap.size, 1, none⟩ (.int .i64 tx)).setCell ⟨w.heap.size, 2, none⟩ (.int .i64 pv)).setCell ⟨w.heap.size, 3, none⟩ (.int .i64 nx)).setCell ⟨w.heap.size, 4, none⟩ (.slice A2 R c2)).setCell ⟨w.heap.size, 5, none⟩ (.int .i64 pact)).setCell ⟨w.heap.size, 6, none⟩ (.string puk)).setCell ⟨w.heap.size, 7, none⟩ (.int .i64 pst)).setCell ⟨w.heap.size, 8, none⟩ (.string pk)).setCell ⟨w.heap.size, 9, none⟩ (.int .i64 pkd)).setCell ⟨w.heap.size, 10, none⟩ (.slice Ap np cp)).setCell ⟨w.heap.size, 11, none⟩ (.int .i64 plo)).setCell ⟨w.heap.size, 12, none⟩ (.int .i64 phi)).setCell ⟨w.heap.size, 13, none⟩ (.int .i64 pva)).setCell ⟨w.heap.size, 14, none⟩ (.int .i64 pun) = W := ⟨_, rfl⟩
  have hg8 : W7.grownBy W8 (some w.heap.size) := by rw [← hW8]; exact grown_set (grown_set (grown_set (grown_set (grown_set (grown_set (grown_set (grown_set (grown_set (grown_set (grown_set (grown_set (grown_set (grown_set (grown_set (grown_refl W7 _) 0 _) 1 _) 2 _) 3 _) 4 _) 5 _) 6 _) 7 _) 8 _) 9 _) 10 _) 11 _) 12 _) 13 _) 14 _
  have hres : Str W8 w.heap.size #[.int .i64 kd, .int .i64 tx, .int .i64 pv, .int .i64 nx, .slice A2 R c2, .int .i64 pact, .string puk, .int .i64 pst, .string pk, .int .i64 pkd, .slice Ap np cp, .int .i64 plo, .int .i64 phi, .int .i64 pva, .int .i64 pun] := by
    have := (((((((((((((((HS0.out).set 0 (.int .i64 kd)).set 1 (.int .i64 tx)).set 2 (.int .i64 pv)).set 3 (.int .i64 nx)).set 4 (.slice A2 R c2)).set 5 (.int .i64 pact)).set 6 (.string puk)).set 7 (.int .i64 pst)).set 8 (.string pk)).set 9 (.int .i64 pkd)).set 10 (.slice Ap np cp)).set 11 (.int .i64 plo)).set 12 (.int .i64 phi)).set 13 (.int .i64 pva)).set 14 (.int .i64 pun)
    rw [← hW8]; simpa using this
  have HFIN : Hid (Elems PatchE W8 W8.heap.size A2 R c2 l ∧ Bytes W8 W8.heap.size Ap np cp pda ∧ Below w.heap.size w W8) := Lib.hid ⟨((HE7.out.sub (above_keep (fun j hj h1 => hg8.block j hj (by intro e; injection e with e; omega)))).sub (sub_above _ _ _)).more hg8.size, (Bytes.grown HY7.out (Nat.le_refl _) HS0.out rfl hg8).more hg8.size, below_grown HB7.out hg8 (Nat.le_refl _)⟩
  have gz := str15 hres
  clear hg8 hres HE7 HY7 HYB HX HS0 HR
  go_wp2
  exact bodyPost_ret (v := .tuple #[.agg #[.int .i64 kd, .int .i64 tx, .int .i64 pv, .int .i64 nx, .slice A2 R c2, .int .i64 pact, .string puk, .int .i64 pst, .string pk, .int .i64 pkd, .slice Ap np cp, .int .i64 plo, .int .i64 phi, .int .i64 pva, .int .i64 pun], .int .i64 ((2 + m : Nat) : Int), .int .i64 0]) (by simp [results, Try.results15, go_sem, *]) rfl ⟨A2, c2, Ap, np, cp, rfl, HFIN.out.1, HFIN.out.2.1, HFIN.out.2.2⟩
set_option maxRecDepth 100000 in
set_option maxHeartbeats 4000000 in
theorem get_short (l : List UInt8) (A : Option Addr) (n c B : Nat) (w : World) (h : Bytes w B A n c l) (hB : B ≤ w.heap.size) (hs : n < 2 ∨ (n : Int) < 2 + NumP.val l 0 2) :
    Calls Try.prog 15 #[.slice A n c] w fun e w' => e = .returned (.tuple #[.agg #[.int .i64 0, .int .i64 0, .int .i64 0, .int .i64 0, .slice none 0 0, .int .i64 0, .string ⟨#[]⟩, .int .i64 0, .string ⟨#[]⟩, .int .i64 0, .slice none 0 0, .int .i64 0, .int .i64 0, .int .i64 0, .int .i64 0], .int .i64 0, .int .i64 13]) ∧ Below w.heap.size w w' := by
  have H := Lib.hid h
  have hln := h.len
  have hcm := Nat.le_trans h.2.1 h.2.2.1
  unfold maxLen at hcm
  have hvs := NumP.val_small l 0 2 (by omega)
  obtain ⟨W0, hW0⟩ : ∃ W, w.alloc (.cells #[.int .i64 0, .int .i64 0, .int .i64 0, .int .i64 0, .slice none 0 0, .int .i64 0, .string ⟨#[]⟩, .int .i64 0, .string ⟨#[]⟩, .int .i64 0, .slice none 0 0, .int .i64 0, .int .i64 0, .int .i64 0, .int .i64 0] 31) = W := ⟨_, rfl⟩
  obtain ⟨HS0, HB0, hw0, hz0⟩ := new1 hW0
  have hl0 := HS0.out.lt
  have g0 := str15 HS0.out
  have gf := fun j => HS0.out.frozen j
  obtain ⟨W8, hW8⟩ : ∃ W, (((((((((((((((W0).setCell ⟨w.heap.size, 0, none⟩ (.int .i64 0)).setCell ⟨w.heap.size, 1, none⟩ (.int .i64 0)).setCell ⟨w.heap.size, 2, none⟩ (.int .i64 0)).setCell ⟨w.heap.size, 3, none⟩ (.int .i64 0)).setCell ⟨w.heap.size, 4, none⟩ (.slice none 0 0)).setCell ⟨w.heap.size, 5, none⟩ (.int .i64 0)).setCell ⟨w.heap.size, 6, none⟩ (.string ⟨#[]⟩)).setCell ⟨w.heap.size, 7, none⟩ (.int .i64 0)).setCell ⟨w.heap.size, 8, none⟩ (.string ⟨#[]⟩)).setCell ⟨w.heap.size, 9, none⟩ (.int .i64 0)).setCell ⟨w.heap.size, 10, none⟩ (.slice none 0 0)).setCell ⟨w.heap.size, 11, none⟩ (.int .i64 0)).setCell ⟨w.heap.size, 12, none⟩ (.int .i64 0)).setCell ⟨w.heap.size, 13, none⟩ (.int .i64 0)).setCell ⟨w.heap.size, 14, none⟩ (.int .i64 0) = W := ⟨_, rfl⟩
  have hg8 : W0.grownBy W8 (some w.heap.size) := by rw [← hW8]; exact grown_set (grown_set (grown_set (grown_set (grown_set (grown_set (grown_set (grown_set (grown_set (grown_set (grown_set (grown_set (grown_set (grown_set (grown_set (grown_refl W0 _) 0 _) 1 _) 2 _) 3 _) 4 _) 5 _) 6 _) 7 _) 8 _) 9 _) 10 _) 11 _) 12 _) 13 _) 14 _
  have hres : Str W8 w.heap.size #[.int .i64 0, .int .i64 0, .int .i64 0, .int .i64 0, .slice none 0 0, .int .i64 0, .string ⟨#[]⟩, .int .i64 0, .string ⟨#[]⟩, .int .i64 0, .slice none 0 0, .int .i64 0, .int .i64 0, .int .i64 0, .int .i64 0] := by
    have := (((((((((((((((HS0.out).set 0 (.int .i64 0)).set 1 (.int .i64 0)).set 2 (.int .i64 0)).set 3 (.int .i64 0)).set 4 (.slice none 0 0)).set 5 (.int .i64 0)).set 6 (.string ⟨#[]⟩)).set 7 (.int .i64 0)).set 8 (.string ⟨#[]⟩)).set 9 (.int .i64 0)).set 10 (.slice none 0 0)).set 11 (.int .i64 0)).set 12 (.int .i64 0)).set 13 (.int .i64 0)).set 14 (.int .i64 0)
    rw [← hW8]; simpa using this
  have HFIN := Lib.hid (below_grown HB0.out hg8 (Nat.le_refl _))
  have gz := str15 hres
  clear hg8 hres h
  by_cases h2 : n < 2
  · have ht := NumW.there_no l 0 2 (by omega)
    have HT := Lib.hid ht
    clear ht hs hvs
    go_enter Try.func15, Try.ntmps15
    go_wp2_with fail
    refine (NumW.num_any A n c B 0 2 l W0 (H.out.below (HB0.out.mono hB)) (by omega) (by omega) (by omega)).mono ?_
    rintro e w' ⟨rfl, rfl⟩
    rw [HT.out]
    go_wp2
    exact bodyPost_ret (v := .tuple #[.agg #[.int .i64 0, .int .i64 0, .int .i64 0, .int .i64 0, .slice none 0 0, .int .i64 0, .string ⟨#[]⟩, .int .i64 0, .string ⟨#[]⟩, .int .i64 0, .slice none 0 0, .int .i64 0, .int .i64 0, .int .i64 0, .int .i64 0], .int .i64 0, .int .i64 13]) (by simp [results, Try.results15, go_sem, *]) rfl ⟨rfl, HFIN.out⟩
  · have ht := NumW.there_yes l 0 2 (by omega)
    have HT := Lib.hid ht
    have hs2 : (n : Int) < 2 + NumP.val l 0 2 := by rcases hs with h | h; exact absurd h h2; exact h
    obtain ⟨v, hv⟩ : ∃ v, NumP.val l 0 2 = v := ⟨_, rfl⟩
    rw [hv] at hvs hs2
    have HV := Lib.hid hv
    have hd : decide ((n : Int) < 2 + v) = true := by simpa using hs2
    clear ht hs hv
    go_enter Try.func15, Try.ntmps15
    go_wp2_with fail
    refine (NumW.num_any A n c B 0 2 l W0 (H.out.below (HB0.out.mono hB)) (by omega) (by omega) (by omega)).mono ?_
    rintro e w' ⟨rfl, rfl⟩
    rw [HT.out, HV.out]
    go_wp2
    exact bodyPost_ret (v := .tuple #[.agg #[.int .i64 0, .int .i64 0, .int .i64 0, .int .i64 0, .slice none 0 0, .int .i64 0, .string ⟨#[]⟩, .int .i64 0, .string ⟨#[]⟩, .int .i64 0, .slice none 0 0, .int .i64 0, .int .i64 0, .int .i64 0, .int .i64 0], .int .i64 0, .int .i64 13]) (by simp [results, Try.results15, go_sem, *]) rfl ⟨rfl, HFIN.out⟩
end RecW
namespace RecP
theorem live_right : Right ⟨4, 1, 0, 0, [], ⟨0, ⟨#[]⟩, ⟨0, ⟨#[]⟩, ⟨0, [], 0, 0, 0⟩⟩, 0⟩⟩ := by
  refine ⟨⟨⟨by decide, by decide⟩, ⟨by decide, by decide⟩, ⟨by decide, by decide⟩, ⟨by decide, by decide⟩⟩, by decide, by decide +kernel, fun i p hi => absurd hi (Nat.not_lt_zero _), ⟨fun _ => rfl, fun _ => rfl, fun _ => rfl⟩⟩
theorem live_undo : UndoP.bytes ⟨0, ⟨#[]⟩, ⟨0, ⟨#[]⟩, ⟨0, [], 0, 0, 0⟩⟩, 0⟩ = [0] := by
  unfold UndoP.bytes
  rw [if_pos (by decide +kernel)]
  rfl
theorem live_len : (body ⟨4, 1, 0, 0, [], ⟨0, ⟨#[]⟩, ⟨0, ⟨#[]⟩, ⟨0, [], 0, 0, 0⟩⟩, 0⟩⟩).length = 31 := by
  rw [body_length]
  show 30 + (patsB []).length + (UndoP.bytes _).length = 31
  rw [live_undo]; rfl
theorem live_fits : fits ⟨4, 1, 0, 0, [], ⟨0, ⟨#[]⟩, ⟨0, ⟨#[]⟩, ⟨0, [], 0, 0, 0⟩⟩, 0⟩⟩ = true := by
  unfold fits
  rw [right_yes _ live_right, live_len]; rfl
theorem live_second : (bytes ⟨4, 1, 0, 0, [], ⟨0, ⟨#[]⟩, ⟨0, ⟨#[]⟩, ⟨0, [], 0, 0, 0⟩⟩, 0⟩⟩)[1]? = some 31 := by
  rw [bytes_fit _ live_fits, live_len]
  have : BeP.parts 2 ((31 : Nat) : Int) = [0, 31] := by decide
  rw [this]; rfl
end RecP
namespace RecW
open UndoW
set_option linter.unusedSimpArgs false
set_option maxRecDepth 100000 in
set_option maxHeartbeats 1000000 in
theorem code_any (e : Int) (w : World) : Calls Try.prog 10 #[.int .i64 e] w fun r w' => r = .returned (.int .i64 e) ∧ w = w' := by
  go_enter Try.func10, Try.ntmps10
  go_wp2
  go_ret
  exact ⟨rfl, rfl⟩
set_option maxRecDepth 100000 in
set_option maxHeartbeats 2000000 in
theorem live_any (w : World) : Calls Try.prog 8 #[] w fun e w' => e = .returned (.bool true) ∧ Below w.heap.size w w' := by
  go_enter Try.func8, Try.ntmps8
  go_wp2_with fail
  refine (put_any 4 1 0 0 none 0 0 0 [] 0 ⟨#[]⟩ none 0 0 0 0 ⟨#[]⟩ 0 [] 0 0 0 0 w (Elems.none_ _ _ _) (Nat.zero_le _) (Bytes.none_ _ _) (Nat.zero_le _) (by show 0 ≤ maxLen; unfold maxLen; omega) (by show 0 ≤ maxLen; unfold maxLen; omega)).mono ?_
  rintro e W1 ⟨A1, n1, c1, rfl, hy1, hb1⟩
  have hn1 : n1 = 33 := by rw [← hy1.len, RecP.bytes_length _ RecP.live_fits, RecP.live_len]
  subst hn1
  have HY1 := Lib.hid hy1
  have HB1 := Lib.hid hb1
  obtain ⟨b, o, hA, hbb, hcell⟩ := hy1.at_ (show 1 < 33 by omega)
  have h31 : (RecP.bytes ⟨4, 1, 0, 0, [], ⟨0, ⟨#[]⟩, ⟨0, ⟨#[]⟩, ⟨0, [], 0, 0, 0⟩⟩, 0⟩⟩)[1]'(by rw [hy1.len]; omega) = 31 := by
    have := RecP.live_second
    rw [List.getElem?_eq_getElem (by rw [hy1.len]; omega)] at this
    exact Option.some.inj this
  rw [h31] at hcell
  subst hA
  clear hy1 hb1 h31
  go_wp2_with fail
  refine (get_any 4 1 0 0 [] 0 ⟨#[]⟩ 0 ⟨#[]⟩ 0 [] 0 0 0 0 [] _ 33 c1 W1.heap.size W1 RecP.live_fits ⟨by decide, by decide⟩ ⟨⟨by decide, by decide⟩, ⟨by decide, by decide⟩, ⟨by decide, by decide⟩, ⟨by decide, by decide⟩, ⟨by decide, by decide⟩⟩ (by show 0 ≤ maxLen; unfold maxLen; omega) (by show 0 ≤ maxLen; unfold maxLen; omega) (by rw [List.append_nil]; exact HY1.out) (Nat.le_refl _)).mono ?_
  rintro e W2 ⟨A2, c2, Ap, np, cp, rfl, -, -, hb2⟩
  rw [RecP.bytes_length _ RecP.live_fits, RecP.live_len]
  have HB2 := Lib.hid (bstep HB1.out hb2)
  have hsz2 := hb2.size
  have hbw : b < W2.heap.size := by omega
  replace hcell := (hb2.cell (p := ⟨b, o + 1, none⟩) hbb).trans hcell
  have hv : byteV 31 = .int .u8 31 := rfl
  rw [hv] at hcell
  clear hb2 hv
  go_wp2_with fail
  refine (code_any _ _).mono ?_
  rintro e w' ⟨rfl, rfl⟩
  go_wp2
  go_ret
  exact ⟨rfl, balloc HB2.out _⟩
end RecW
end Go.Proofs.Ytiokcemlfdonnaa
end
