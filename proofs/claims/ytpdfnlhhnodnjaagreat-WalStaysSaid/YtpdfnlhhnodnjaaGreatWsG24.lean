/-
  Parts of the proof of WalStays.
-/
import Derived.Test.YtpdfnlhhnodnjaaGreatWsG23
import Derived.Test.YtpdfnlhhnodnjaaGreatWsG3
import Derived.Test.YtpdfnlhhnodnjaaGreatWsG0
import Derived.RangeFuncNested
import Derived.Deep.Slices
section
namespace Go.Proofs.YtpdfnlhhnodnjaaGreat
open Go.RowKit
set_option linter.unusedVariables false
namespace RecP
theorem val_parts4 (post : List UInt8) (m : Int) (h0 : 0 ≤ m) (h1 : m < 4294967296) : NumP.val (BeP.parts 4 m ++ post) 0 4 = m := by
  unfold NumP.val
  rw [if_pos (by simp [BeP.parts_length]), List.drop_zero, List.take_append_of_le_length (by rw [BeP.parts_length]; omega), List.take_of_length_le (by rw [BeP.parts_length]; omega), NumP.num_parts]
  unfold BeP.u64
  have e : (m % 18446744073709551616).toNat % 256 ^ 4 = m.toNat := by omega
  rw [e, NumP.toI_small _ (by omega)]
  omega
/-- the seal is right -/
theorem body_good (x : RecX) : (NumP.val (body x) 0 4 == ((CrcP.sum ((body x).drop 4) : Nat) : Int)) = true := by
  have h1 : (body x).drop 4 = inner x := by unfold body; rw [List.drop_left' (BeP.parts_length 4 _)]
  have h2 := CrcP.sum_lt (inner x)
  rw [h1]
  unfold body
  rw [val_parts4 _ _ (by omega) (by omega)]
  simp
theorem bytes_fit (x : RecX) (h : fits x = true) : bytes x = BeP.parts 2 ((body x).length : Nat) ++ body x := by unfold bytes; rw [if_pos h]
theorem bytes_fit6 (x : RecX) (h : fits x = true) : (bytes x).drop 2 = body x ∧ (bytes x).drop 6 = inner x := by
  have h1 : (bytes x).drop 2 = body x := by rw [bytes_fit x h, List.drop_left' (BeP.parts_length 2 _)]
  refine ⟨h1, ?_⟩
  rw [show 6 = 2 + 4 from rfl, ← List.drop_drop, h1]
  unfold body
  rw [List.drop_left' (BeP.parts_length 4 _)]
theorem got_len (x : RecX) (more : List UInt8) (h : fits x = true) : NumP.val (bytes x ++ more) 0 2 = ((body x).length : Nat) := by
  rw [bytes_fit x h, List.append_assoc]
  exact PatchP.val_parts2 [] _ _ (by omega) (by have := fits_len h; omega)
end RecP
namespace RecW
open UndoW
set_option linter.unusedSimpArgs false
attribute [local go_sem ↓] app_fold cut_fold
set_option maxRecDepth 100000 in
set_option maxHeartbeats 8000000 in
theorem get_high (kd tx pv nx : Int) (l : List PatchX) (pact : Int) (puk : ByteArray) (pst : Int) (pk : ByteArray) (pkd : Int) (pda : List UInt8) (plo phi pva pun : Int) (more : List UInt8) (A : Option Addr) (n c B : Nat) (w : World) (hF : RecP.fits ⟨kd, tx, pv, nx, l, ⟨pact, puk, ⟨pst, pk, ⟨pkd, pda, plo, phi, pva⟩⟩, pun⟩⟩ = true) (hun : In64 pun) (hui : SlotP.In ⟨pst, pk, ⟨pkd, pda, plo, phi, pva⟩⟩) (hpk : pk.size ≤ maxLen) (hpuk : puk.size ≤ maxLen) (h : Bytes w B A n c (RecP.bytes ⟨kd, tx, pv, nx, l, ⟨pact, puk, ⟨pst, pk, ⟨pkd, pda, plo, phi, pva⟩⟩, pun⟩⟩ ++ more)) (hB : B ≤ w.heap.size) :
    Calls Tryz.prog 34 #[.slice A n c] w fun e w' => ∃ A2 c2 Ap np cp, e = .returned (.tuple #[.agg #[.int .i64 kd, .int .i64 tx, .int .i64 pv, .int .i64 nx, .slice A2 l.length c2, .int .i64 pact, .string puk, .int .i64 pst, .string pk, .int .i64 pkd, .slice Ap np cp, .int .i64 plo, .int .i64 phi, .int .i64 pva, .int .i64 pun], .int .i64 ((RecP.bytes ⟨kd, tx, pv, nx, l, ⟨pact, puk, ⟨pst, pk, ⟨pkd, pda, plo, phi, pva⟩⟩, pun⟩⟩).length : Nat), .int .i64 0]) ∧ Elems PatchE (above w.heap.size w') w'.heap.size A2 l.length c2 l ∧ (Bytes w' w'.heap.size Ap np cp pda ∧ ∀ a, Ap = some a → w.heap.size ≤ a.block) ∧ Below w.heap.size w w' := by
  have H := Lib.hid h
  have HR := Lib.hid (RecP.fits_right hF)
  have HPK := Lib.hid (And.intro hpk hpuk)
  have hfl := RecP.fits_len hF
  have hv := RecP.got_len ⟨kd, tx, pv, nx, l, ⟨pact, puk, ⟨pst, pk, ⟨pkd, pda, plo, phi, pva⟩⟩, pun⟩⟩ more hF
  have hd6 := RecP.bytes_fit6 ⟨kd, tx, pv, nx, l, ⟨pact, puk, ⟨pst, pk, ⟨pkd, pda, plo, phi, pva⟩⟩, pun⟩⟩ hF
  have hbl := RecP.bytes_length ⟨kd, tx, pv, nx, l, ⟨pact, puk, ⟨pst, pk, ⟨pkd, pda, plo, phi, pva⟩⟩, pun⟩⟩ hF
  have hgood := RecP.body_good ⟨kd, tx, pv, nx, l, ⟨pact, puk, ⟨pst, pk, ⟨pkd, pda, plo, phi, pva⟩⟩, pun⟩⟩
  have hln := h.len
  have hnc := h.2.1
  have hcm := h.2.2.1
  unfold maxLen at hcm
  rw [List.length_append] at hln
  have h30 : 30 ≤ (RecP.body ⟨kd, tx, pv, nx, l, ⟨pact, puk, ⟨pst, pk, ⟨pkd, pda, plo, phi, pva⟩⟩, pun⟩⟩).length := by rw [RecP.body_length]; omega
  have hil : (RecP.inner ⟨kd, tx, pv, nx, l, ⟨pact, puk, ⟨pst, pk, ⟨pkd, pda, plo, phi, pva⟩⟩, pun⟩⟩).length + 4 = (RecP.body ⟨kd, tx, pv, nx, l, ⟨pact, puk, ⟨pst, pk, ⟨pkd, pda, plo, phi, pva⟩⟩, pun⟩⟩).length := by unfold RecP.body; rw [List.length_append, BeP.parts_length]; omega
  obtain ⟨m, hm⟩ : ∃ m, (RecP.body ⟨kd, tx, pv, nx, l, ⟨pact, puk, ⟨pst, pk, ⟨pkd, pda, plo, phi, pva⟩⟩, pun⟩⟩).length = m := ⟨_, rfl⟩
  rw [hm] at hfl hv hbl h30 hil
  rw [hbl] at hln ⊢
  have ht := NumW.there_yes (RecP.bytes ⟨kd, tx, pv, nx, l, ⟨pact, puk, ⟨pst, pk, ⟨pkd, pda, plo, phi, pva⟩⟩, pun⟩⟩ ++ more) 0 2 (by rw [List.length_append, hbl]; omega)
  have hc0 := h.cut 0 (2 + m) c (Nat.zero_le _) (by omega) (by omega) (Nat.le_refl _)
  rw [List.drop_zero, Nat.sub_zero, Nat.sub_zero, List.take_left' hbl] at hc0
  have hc2 := hc0.cut 2 (2 + m) c (by omega) (Nat.le_refl _) (by omega) (Nat.le_refl _)
  rw [hd6.1, show 2 + m - 2 = m by omega, List.take_of_length_le (by omega)] at hc2
  have hc6 := hc0.cut 6 (2 + m) c (by omega) (Nat.le_refl _) (by omega) (Nat.le_refl _)
  rw [hd6.2, List.take_of_length_le (by omega)] at hc6
  have H0 := Lib.hid hc0
  have H2 := Lib.hid hc2
  have H6 := Lib.hid hc6
  have HV := Lib.hid (And.intro hv ht)
  have HG := Lib.hid hgood
  have hR0 : ∃ R, l.length = R := ⟨_, rfl⟩
  obtain ⟨R, hRl⟩ := hR0
  rw [hRl]
  clear h hc0 hc2 hc6 hv ht hgood hd6 hbl hil hm hpk hpuk hF
  have q1 : (2 : Int) + (m : Int) ≤ (c : Int) := by omega
  have q2 : ((2 : Int) + (m : Int)).toNat = 2 + m := by omega
  have q3 : decide ((n : Int) < 2 + (m : Int)) = false := by simp; omega
  have q4 : (2 : Int) ≤ 2 + (m : Int) := by omega
  have q5 : (6 : Int) ≤ 2 + (m : Int) := by omega
  have q6 : (6 : Int) ≤ (c : Int) := by omega
  have q11 : 2 + m - 6 ≤ 100000 := by omega
  have q8 : ((2 + m : Nat) : Int) ≤ (c : Int) := by omega
  have q9 : (6 : Int) ≤ ((2 + m : Nat) : Int) := by omega
  have q10 : (2 : Int) ≤ ((2 + m : Nat) : Int) := by omega
  obtain ⟨W0, hW0⟩ : ∃ W, w.alloc (.cells #[.int .i64 0, .int .i64 0, .int .i64 0, .int .i64 0, .slice none 0 0, .int .i64 0, .string ⟨#[]⟩, .int .i64 0, .string ⟨#[]⟩, .int .i64 0, .slice none 0 0, .int .i64 0, .int .i64 0, .int .i64 0, .int .i64 0] 40) = W := ⟨_, rfl⟩
  obtain ⟨HS0, HB0, hw0, hz0⟩ := new1 hW0
  have hl0 := HS0.out.lt
  go_enter Tryz.func34, Tryz.ntmps34
  go_wp2_with fail
  refine (NumW.num_any A n c B 0 2 _ W0 (H.out.below (HB0.out.mono hB)) (by omega) (by omega) (by omega)).mono ?_
  rintro e w' ⟨rfl, rfl⟩
  rw [HV.out.1, HV.out.2]
  go_wp2_with fail
  refine (CrcW.good_any _ m _ B (RecP.body ⟨kd, tx, pv, nx, l, ⟨pact, puk, ⟨pst, pk, ⟨pkd, pda, plo, phi, pva⟩⟩, pun⟩⟩) _ (H2.out.below (HB0.out.mono hB)) (by omega) (by omega)).mono ?_
  rintro e W1 ⟨rfl, hb1⟩
  rw [HG.out]
  replace HS0 := Lib.hid (HS0.out.next hb1)
  replace HB0 := Lib.hid (bstep HB0.out hb1)
  have hw1 := HB0.out.size
  have hl0 := HS0.out.lt
  clear hb1
  go_wp2_with fail
  refine (read_any kd tx pv nx l pact puk pst pk pkd pda plo phi pva pun _ _ _ B W1 HR.out hun hui (H6.out.below (HB0.out.mono hB)) (by omega) q11).mono ?_
  rintro e W2 ⟨A2, c2, Ap, np, cp, rfl, hE2, ⟨hy2, hnw⟩, hb2⟩
  have HNW : Hid (∀ a, Ap = some a → w.heap.size ≤ a.block) := Lib.hid (fun a e => Nat.le_trans hw1 (hnw a e))
  clear hnw
  rw [hRl] at hE2 ⊢
  replace HS0 := Lib.hid (HS0.out.next hb2)
  replace HB0 := Lib.hid (bstep HB0.out hb2)
  have HE2 := Lib.hid hE2
  have hlt0 := HS0.out.lt
  have HY2 := Lib.hid hy2
  clear hE2 hy2 hb2
  obtain ⟨W6, hW6⟩ : ∃ W, W2.alloc (.cells #[.int .i64 kd, .int .i64 tx, .int .i64 pv, .int .i64 nx, .slice A2 R c2, .int .i64 pact, .string puk, .int .i64 pst, .string pk, .int .i64 pkd, .slice Ap np cp, .int .i64 plo, .int .i64 phi, .int .i64 pva, .int .i64 pun] 40) = W := ⟨_, rfl⟩
  obtain ⟨HX, HBX, hw6, hz6⟩ := new1 hW6
  replace HS0 := Lib.hid (HS0.out.next HBX.out)
  replace HB0 := Lib.hid (bstep HB0.out HBX.out)
  have HA6 := Lib.hid ((HE2.out.sub (above_sub (sub_below HBX.out))).more HBX.out.size)
  have HE6 := Lib.hid (HA6.out.sub (sub_above _ _ _))
  have HY6 := Lib.hid (HY2.out.next HBX.out)
  have g6 := str15 HX.out
  have hl6 := HX.out.lt
  have hl0 := HS0.out.lt
  have hw66 := HB0.out.size
  clear HBX HE2 HY2
  go_wp2_with fail
  refine (put_any kd tx pv nx A2 R c2 W6.heap.size l pact puk Ap np cp W6.heap.size pst pk pkd pda plo phi pva pun W6 HE6.out (Nat.le_refl _) HY6.out (Nat.le_refl _) HPK.out.1 HPK.out.2).mono ?_
  rintro e W7 ⟨A7, n7, c7, rfl, hy7, hb7⟩
  replace HS0 := Lib.hid (HS0.out.next hb7)
  have HB7 := Lib.hid (bstep HB0.out hb7)
  replace HX := Lib.hid (HX.out.next hb7)
  have HE7 := Lib.hid ((HA6.out.sub (above_sub (sub_below hb7))).more hb7.size)
  have HY7 := Lib.hid (HY6.out.next hb7)
  have HYB := Lib.hid hy7
  clear hy7 hb7 g6 hl6 hl0 hW6 HE6 HY6 HB0
  have g6 := str15 HX.out
  have hl6 := HX.out.lt
  have g0 := str15 HS0.out
  have gf := fun j => HS0.out.frozen j
  have hl0 := HS0.out.lt
  go_wp2_with fail
  refine (Same.equal_any _ _ _ _ _ _ _ _ (RecP.bytes ⟨kd, tx, pv, nx, l, ⟨pact, puk, ⟨pst, pk, ⟨pkd, pda, plo, phi, pva⟩⟩, pun⟩⟩) (RecP.bytes ⟨kd, tx, pv, nx, l, ⟨pact, puk, ⟨pst, pk, ⟨pkd, pda, plo, phi, pva⟩⟩, pun⟩⟩) W7 HYB.out (H0.out.below (HB7.out.mono hB))).mono ?_
  rintro e w' ⟨rfl, rfl⟩
  rw [beq_self_eq_true]
  obtain ⟨W8, hW8⟩ : ∃ W, (((((((((((((((W7).setCell ⟨w.heap.size, 0, none⟩ (.int .i64 kd)).setCell ⟨w.heap.size, 1, none⟩ (.int .i64 tx)).setCell ⟨w.heap.size, 2, none⟩ (.int .i64 pv)).setCell ⟨w.heap.size, 3, none⟩ (.int .i64 nx)).setCell ⟨w.heap.size, 4, none⟩ (.slice A2 R c2)).setCell ⟨w.heap.size, 5, none⟩ (.int .i64 pact)).setCell ⟨w.heap.size, 6, none⟩ (.string puk)).setCell ⟨w.heap.size, 7, none⟩ (.int .i64 pst)).setCell ⟨w.heap.size, 8, none⟩ (.string pk)).setCell ⟨w.heap.size, 9, none⟩ (.int .i64 pkd)).setCell ⟨w.heap.size, 10, none⟩ (.slice Ap np cp)).setCell ⟨w.heap.size, 11, none⟩ (.int .i64 plo)).setCell ⟨w.heap.size, 12, none⟩ (.int .i64 phi)).setCell ⟨w.heap.size, 13, none⟩ (.int .i64 pva)).setCell ⟨w.heap.size, 14, none⟩ (.int .i64 pun) = W := ⟨_, rfl⟩
  have hg8 : W7.grownBy W8 (some w.heap.size) := by rw [← hW8]; exact grown_set (grown_set (grown_set (grown_set (grown_set (grown_set (grown_set (grown_set (grown_set (grown_set (grown_set (grown_set (grown_set (grown_set (grown_set (grown_refl W7 _) 0 _) 1 _) 2 _) 3 _) 4 _) 5 _) 6 _) 7 _) 8 _) 9 _) 10 _) 11 _) 12 _) 13 _) 14 _
  have hres : Str W8 w.heap.size #[.int .i64 kd, .int .i64 tx, .int .i64 pv, .int .i64 nx, .slice A2 R c2, .int .i64 pact, .string puk, .int .i64 pst, .string pk, .int .i64 pkd, .slice Ap np cp, .int .i64 plo, .int .i64 phi, .int .i64 pva, .int .i64 pun] := by
    have := (((((((((((((((HS0.out).set 0 (.int .i64 kd)).set 1 (.int .i64 tx)).set 2 (.int .i64 pv)).set 3 (.int .i64 nx)).set 4 (.slice A2 R c2)).set 5 (.int .i64 pact)).set 6 (.string puk)).set 7 (.int .i64 pst)).set 8 (.string pk)).set 9 (.int .i64 pkd)).set 10 (.slice Ap np cp)).set 11 (.int .i64 plo)).set 12 (.int .i64 phi)).set 13 (.int .i64 pva)).set 14 (.int .i64 pun)
    rw [← hW8]; simpa using this
  have HFIN : Hid (Elems PatchE (above w.heap.size W8) W8.heap.size A2 R c2 l ∧ (Bytes W8 W8.heap.size Ap np cp pda ∧ ∀ a, Ap = some a → w.heap.size ≤ a.block) ∧ Below w.heap.size w W8) := Lib.hid ⟨((HE7.out.sub (above_keep (fun j hj h1 => hg8.block j hj (by intro e; injection e with e; omega)))).sub (above_less hw1)).more hg8.size, ⟨(Bytes.grown HY7.out (Nat.le_refl _) HS0.out rfl hg8).more hg8.size, HNW.out⟩, below_grown HB7.out hg8 (Nat.le_refl _)⟩
  have gz := str15 hres
  clear hg8 hres HE7 HY7 HYB HX HS0 HR
  go_wp2
  exact bodyPost_ret (v := .tuple #[.agg #[.int .i64 kd, .int .i64 tx, .int .i64 pv, .int .i64 nx, .slice A2 R c2, .int .i64 pact, .string puk, .int .i64 pst, .string pk, .int .i64 pkd, .slice Ap np cp, .int .i64 plo, .int .i64 phi, .int .i64 pva, .int .i64 pun], .int .i64 ((2 + m : Nat) : Int), .int .i64 0]) (by simp [results, Tryz.results34, go_sem, *]) rfl ⟨A2, c2, Ap, np, cp, rfl, HFIN.out.1, HFIN.out.2.1, HFIN.out.2.2⟩
theorem get_any (kd tx pv nx : Int) (l : List PatchX) (pact : Int) (puk : ByteArray) (pst : Int) (pk : ByteArray) (pkd : Int) (pda : List UInt8) (plo phi pva pun : Int) (more : List UInt8) (A : Option Addr) (n c B : Nat) (w : World) (hF : RecP.fits ⟨kd, tx, pv, nx, l, ⟨pact, puk, ⟨pst, pk, ⟨pkd, pda, plo, phi, pva⟩⟩, pun⟩⟩ = true) (hun : In64 pun) (hui : SlotP.In ⟨pst, pk, ⟨pkd, pda, plo, phi, pva⟩⟩) (hpk : pk.size ≤ maxLen) (hpuk : puk.size ≤ maxLen) (h : Bytes w B A n c (RecP.bytes ⟨kd, tx, pv, nx, l, ⟨pact, puk, ⟨pst, pk, ⟨pkd, pda, plo, phi, pva⟩⟩, pun⟩⟩ ++ more)) (hB : B ≤ w.heap.size) :
    Calls Tryz.prog 34 #[.slice A n c] w fun e w' => ∃ A2 c2 Ap np cp, e = .returned (.tuple #[.agg #[.int .i64 kd, .int .i64 tx, .int .i64 pv, .int .i64 nx, .slice A2 l.length c2, .int .i64 pact, .string puk, .int .i64 pst, .string pk, .int .i64 pkd, .slice Ap np cp, .int .i64 plo, .int .i64 phi, .int .i64 pva, .int .i64 pun], .int .i64 ((RecP.bytes ⟨kd, tx, pv, nx, l, ⟨pact, puk, ⟨pst, pk, ⟨pkd, pda, plo, phi, pva⟩⟩, pun⟩⟩).length : Nat), .int .i64 0]) ∧ Elems PatchE w' w'.heap.size A2 l.length c2 l ∧ Bytes w' w'.heap.size Ap np cp pda ∧ Below w.heap.size w w' := by
  refine (get_high kd tx pv nx l pact puk pst pk pkd pda plo phi pva pun more A n c B w hF hun hui hpk hpuk h hB).mono ?_
  rintro e w' ⟨A2, c2, Ap, np, cp, h1, h2, h3, h4⟩
  exact ⟨A2, c2, Ap, np, cp, h1, h2.sub (sub_above _ _ _), h3.1, h4⟩
set_option maxRecDepth 100000 in
set_option maxHeartbeats 4000000 in
theorem get_short (l : List UInt8) (A : Option Addr) (n c B : Nat) (w : World) (h : Bytes w B A n c l) (hB : B ≤ w.heap.size) (hs : n < 2 ∨ (n : Int) < 2 + NumP.val l 0 2) :
    Calls Tryz.prog 34 #[.slice A n c] w fun e w' => e = .returned (.tuple #[.agg #[.int .i64 0, .int .i64 0, .int .i64 0, .int .i64 0, .slice none 0 0, .int .i64 0, .string ⟨#[]⟩, .int .i64 0, .string ⟨#[]⟩, .int .i64 0, .slice none 0 0, .int .i64 0, .int .i64 0, .int .i64 0, .int .i64 0], .int .i64 0, .int .i64 13]) ∧ Below w.heap.size w w' := by
  have H := Lib.hid h
  have hln := h.len
  have hcm := Nat.le_trans h.2.1 h.2.2.1
  unfold maxLen at hcm
  have hvs := NumP.val_small l 0 2 (by omega)
  obtain ⟨W0, hW0⟩ : ∃ W, w.alloc (.cells #[.int .i64 0, .int .i64 0, .int .i64 0, .int .i64 0, .slice none 0 0, .int .i64 0, .string ⟨#[]⟩, .int .i64 0, .string ⟨#[]⟩, .int .i64 0, .slice none 0 0, .int .i64 0, .int .i64 0, .int .i64 0, .int .i64 0] 40) = W := ⟨_, rfl⟩
  obtain ⟨HS0, HB0, hw0, hz0⟩ := new1 hW0
  have hl0 := HS0.out.lt
  have g0 := str15 HS0.out
  have gf := fun j => HS0.out.frozen j
  obtain ⟨W8, hW8⟩ : ∃ W, (((((((((((((((W0).setCell ⟨w.heap.size, 0, none⟩ (.int .i64 0)).setCell ⟨w.heap.size, 1, none⟩ (.int .i64 0)).setCell ⟨w.heap.size, 2, none⟩ (.int .i64 0)).setCell ⟨w.heap.size, 3, none⟩ (.int .i64 0)).setCell ⟨w.heap.size, 4, none⟩ (.slice none 0 0)).setCell ⟨w.heap.size, 5, none⟩ (.int .i64 0)).setCell ⟨w.heap.size, 6, none⟩ (.string ⟨#[]⟩)).setCell ⟨w.heap.size, 7, none⟩ (.int .i64 0)).setCell ⟨w.heap.size, 8, none⟩ (.string ⟨#[]⟩)).setCell ⟨w.heap.size, 9, none⟩ (.int .i64 0)).setCell ⟨w.heap.size, 10, none⟩ (.slice none 0 0)).setCell ⟨w.heap.size, 11, none⟩ (.int .i64 0)).setCell ⟨w.heap.size, 12, none⟩ (.int .i64 0)).setCell ⟨w.heap.size, 13, none⟩ (.int .i64 0)).setCell ⟨w.heap.size, 14, none⟩ (.int .i64 0) = W := ⟨_, rfl⟩
  have hg8 : W0.grownBy W8 (some w.heap.size) := by rw [← hW8]; exact grown_set (grown_set (grown_set (grown_set (grown_set (grown_set (grown_set (grown_set (grown_set (grown_set (grown_set (grown_set (grown_set (grown_set (grown_set (grown_refl W0 _) 0 _) 1 _) 2 _) 3 _) 4 _) 5 _) 6 _) 7 _) 8 _) 9 _) 10 _) 11 _) 12 _) 13 _) 14 _
  have hres : Str W8 w.heap.size #[.int .i64 0, .int .i64 0, .int .i64 0, .int .i64 0, .slice none 0 0, .int .i64 0, .string ⟨#[]⟩, .int .i64 0, .string ⟨#[]⟩, .int .i64 0, .slice none 0 0, .int .i64 0, .int .i64 0, .int .i64 0, .int .i64 0] := by
    have := (((((((((((((((HS0.out).set 0 (.int .i64 0)).set 1 (.int .i64 0)).set 2 (.int .i64 0)).set 3 (.int .i64 0)).set 4 (.slice none 0 0)).set 5 (.int .i64 0)).set 6 (.string ⟨#[]⟩)).set 7 (.int .i64 0)).set 8 (.string ⟨#[]⟩)).set 9 (.int .i64 0)).set 10 (.slice none 0 0)).set 11 (.int .i64 0)).set 12 (.int .i64 0)).set 13 (.int .i64 0)).set 14 (.int .i64 0)
    rw [← hW8]; simpa using this
  have HFIN := Lib.hid (below_grown HB0.out hg8 (Nat.le_refl _))
  have gz := str15 hres
  clear hg8 hres h
  by_cases h2 : n < 2
  · have ht := NumW.there_no l 0 2 (by omega)
    have HT := Lib.hid ht
    clear ht hs hvs
    go_enter Tryz.func34, Tryz.ntmps34
    go_wp2_with fail
    refine (NumW.num_any A n c B 0 2 l W0 (H.out.below (HB0.out.mono hB)) (by omega) (by omega) (by omega)).mono ?_
    rintro e w' ⟨rfl, rfl⟩
    rw [HT.out]
    go_wp2
    exact bodyPost_ret (v := .tuple #[.agg #[.int .i64 0, .int .i64 0, .int .i64 0, .int .i64 0, .slice none 0 0, .int .i64 0, .string ⟨#[]⟩, .int .i64 0, .string ⟨#[]⟩, .int .i64 0, .slice none 0 0, .int .i64 0, .int .i64 0, .int .i64 0, .int .i64 0], .int .i64 0, .int .i64 13]) (by simp [results, Tryz.results34, go_sem, *]) rfl ⟨rfl, HFIN.out⟩
  · have ht := NumW.there_yes l 0 2 (by omega)
    have HT := Lib.hid ht
    have hs2 : (n : Int) < 2 + NumP.val l 0 2 := by rcases hs with h | h; exact absurd h h2; exact h
    obtain ⟨v, hv⟩ : ∃ v, NumP.val l 0 2 = v := ⟨_, rfl⟩
    rw [hv] at hvs hs2
    have HV := Lib.hid hv
    have hd : decide ((n : Int) < 2 + v) = true := by simpa using hs2
    clear ht hs hv
    go_enter Tryz.func34, Tryz.ntmps34
    go_wp2_with fail
    refine (NumW.num_any A n c B 0 2 l W0 (H.out.below (HB0.out.mono hB)) (by omega) (by omega) (by omega)).mono ?_
    rintro e w' ⟨rfl, rfl⟩
    rw [HT.out, HV.out]
    go_wp2
    exact bodyPost_ret (v := .tuple #[.agg #[.int .i64 0, .int .i64 0, .int .i64 0, .int .i64 0, .slice none 0 0, .int .i64 0, .string ⟨#[]⟩, .int .i64 0, .string ⟨#[]⟩, .int .i64 0, .slice none 0 0, .int .i64 0, .int .i64 0, .int .i64 0, .int .i64 0], .int .i64 0, .int .i64 13]) (by simp [results, Tryz.results34, go_sem, *]) rfl ⟨rfl, HFIN.out⟩
end RecW
namespace RecP
theorem live_right : Right ⟨4, 1, 0, 0, [], ⟨0, ⟨#[]⟩, ⟨0, ⟨#[]⟩, ⟨0, [], 0, 0, 0⟩⟩, 0⟩⟩ := by
  refine ⟨⟨⟨by decide, by decide⟩, ⟨by decide, by decide⟩, ⟨by decide, by decide⟩, ⟨by decide, by decide⟩⟩, by decide, by decide +kernel, fun i p hi => absurd hi (Nat.not_lt_zero _), ⟨fun _ => rfl, fun _ => rfl, fun _ => rfl⟩⟩
theorem live_undo : UndoP.bytes ⟨0, ⟨#[]⟩, ⟨0, ⟨#[]⟩, ⟨0, [], 0, 0, 0⟩⟩, 0⟩ = [0] := by
  unfold UndoP.bytes
  rw [if_pos (by decide +kernel)]
  rfl
theorem live_len : (body ⟨4, 1, 0, 0, [], ⟨0, ⟨#[]⟩, ⟨0, ⟨#[]⟩, ⟨0, [], 0, 0, 0⟩⟩, 0⟩⟩).length = 31 := by
  rw [body_length]
  show 30 + (patsB []).length + (UndoP.bytes _).length = 31
  rw [live_undo]; rfl
theorem live_fits : fits ⟨4, 1, 0, 0, [], ⟨0, ⟨#[]⟩, ⟨0, ⟨#[]⟩, ⟨0, [], 0, 0, 0⟩⟩, 0⟩⟩ = true := by
  unfold fits
  rw [right_yes _ live_right, live_len]; rfl
end RecP
namespace RecW
open UndoW
set_option linter.unusedSimpArgs false
end RecW
end Go.Proofs.YtpdfnlhhnodnjaaGreat
end
section
namespace Go.Proofs.YtpdfnlhhnodnjaaGreat
set_option linter.unusedVariables false
theorem RecP.bytes_none_ (x : RecX) (h : RecP.fits x = false) : RecP.bytes x = [] := by unfold RecP.bytes; rw [h]; rfl
namespace RowsP
/-- a record that is cut short is short -/
theorem short (x : RecX) (k : Nat) (h : k < (RecP.bytes x).length) : k < 2 ∨ (k : Int) < 2 + NumP.val ((RecP.bytes x).take k) 0 2 := by
  by_cases h2 : k < 2
  · exact .inl h2
  · refine .inr ?_
    cases hf : RecP.fits x with
    | false => rw [RecP.bytes_none_ x hf] at h; simp at h
    | true =>
      have hl := RecP.bytes_length x hf
      have hv := RecP.got_len x [] hf
      rw [List.append_nil] at hv
      have ht : NumP.val ((RecP.bytes x).take k) 0 2 = NumP.val (RecP.bytes x) 0 2 := by
        unfold NumP.val
        rw [if_pos (by rw [List.length_take]; omega), if_pos (by omega), List.drop_zero, List.drop_zero, List.take_take, Nat.min_eq_left (by omega)]
      rw [ht, hv]
      omega
/-- what stands behind the first so many, up to the cut -/
noncomputable def rest (K : List RecX) (cut k : Nat) : List UInt8 := ((allB K).drop (at_ K k)).take (cut - at_ K k)
theorem rest_zero (K : List RecX) (cut : Nat) : rest K cut 0 = (allB K).take cut := by unfold rest; rw [at_zero]; simp
theorem at_mono {K : List RecX} {i j : Nat} (h : i ≤ j) : at_ K i ≤ at_ K j := by
  induction j with
  | zero => rw [Nat.le_zero.1 h]; exact Nat.le_refl _
  | succ j ih =>
    by_cases e : i = j + 1
    · rw [e]; exact Nat.le_refl _
    · refine Nat.le_trans (ih (by omega)) ?_
      cases hx : K[j]? with
      | some x => rw [at_next hx]; exact Nat.le_add_right _ _
      | none =>
        have := List.getElem?_eq_none_iff.1 hx
        unfold at_
        rw [List.take_of_length_le (by omega), List.take_of_length_le (by omega)]
        exact Nat.le_refl _
theorem at_rise {K : List RecX} {i j : Nat} (hK : ∀ x ∈ K, RecP.fits x = true) (h : i < j) (hj : j ≤ K.length) : at_ K i < at_ K j := by
  have hx : K[i]? = some (K[i]'(by omega)) := List.getElem?_eq_getElem (by omega)
  have h1 := at_next hx
  have h2 := (fits_small (hK _ (List.mem_of_getElem? hx))).1
  have h3 := at_mono (K := K) (show i + 1 ≤ j from h)
  omega
/-- so many are whole -/
def Whole (K : List RecX) (cut j : Nat) : Prop := j ≤ K.length ∧ at_ K j ≤ cut ∧ (j = K.length ∨ cut < at_ K (j + 1))
theorem whole (K : List RecX) (cut : Nat) : ∃ j, Whole K cut j := by
  have key : ∀ m, m ≤ K.length → at_ K (K.length - m) ≤ cut → ∃ j, Whole K cut j := by
    intro m
    induction m with
    | zero => intro _ h; exact ⟨K.length, Nat.le_refl _, by simpa using h, .inl rfl⟩
    | succ m ih =>
      intro hm h
      by_cases h2 : at_ K (K.length - m) ≤ cut
      · exact ih (by omega) h2
      · exact ⟨K.length - (m + 1), by omega, h, .inr (by rw [show K.length - (m + 1) + 1 = K.length - m by omega]; omega)⟩
  exact key K.length (Nat.le_refl _) (by rw [Nat.sub_self, at_zero]; exact Nat.zero_le _)
theorem rest_whole {K : List RecX} {cut j k : Nat} {x : RecX} (h : Whole K cut j) (hk : k < j) (hx : K[k]? = some x) : ∃ post, rest K cut k = RecP.bytes x ++ post ∧ rest K cut (k + 1) = post := by
  have h1 : at_ K (k + 1) ≤ cut := Nat.le_trans (at_mono hk) h.2.1
  obtain ⟨post, hp⟩ := got_whole hx h1
  refine ⟨post, hp, ?_⟩
  have e : rest K cut (k + 1) = (rest K cut k).drop (RecP.bytes x).length := by
    unfold rest
    rw [List.drop_take, List.drop_drop, at_next hx]
    congr 1
    omega
  rw [e, show rest K cut k = RecP.bytes x ++ post from hp, List.drop_left]
theorem rest_last {K : List RecX} {cut j : Nat} (h : Whole K cut j) : (rest K cut j).length < 2 ∨ ((rest K cut j).length : Int) < 2 + NumP.val (rest K cut j) 0 2 := by
  rcases h.2.2 with e | e
  · left
    have : rest K cut j = [] := by
      unfold rest
      rw [e, at_all, List.drop_length]; simp
    rw [this]; decide
  · by_cases hj : j < K.length
    · have hx : K[j]? = some (K[j]'hj) := List.getElem?_eq_getElem hj
      have hp := got_part hx e
      have hn := at_next hx
      have h21 := h.2.1
      have hl : (rest K cut j).length = cut - at_ K j := by
        rw [show rest K cut j = _ from hp, List.length_take]; omega
      rw [hl, show rest K cut j = _ from hp]
      exact short _ _ (by omega)
    · left
      have : rest K cut j = [] := by
        unfold rest
        rw [show j = K.length by have := h.1; omega, at_all, List.drop_length]; simp
      rw [this]; decide
theorem ends_take {K : List RecX} {j : Nat} {x : RecX} (hx : K[j]? = some x) : ends (K.take (j + 1)) = ends (K.take j) ++ [((at_ K (j + 1) : Nat) : Int)] := by
  rw [take_next hx, ends_app]
  unfold at_
  rw [take_next hx]
/-- a place ahead is less -/
theorem ends_lt {K : List RecX} {j : Nat} (hK : ∀ x ∈ K, RecP.fits x = true) (hj : j < K.length) : ∀ p ∈ ends (K.take j), p < ((at_ K (j + 1) : Nat) : Int) := by
  intro p hp
  unfold ends at hp
  obtain ⟨i, hi, rfl⟩ := List.mem_map.1 hp
  have hi2 := List.mem_range.1 hi
  rw [List.length_take] at hi2
  have h1 : at_ (K.take j) (i + 1) = at_ K (i + 1) := by unfold at_; rw [List.take_take, Nat.min_eq_left (by omega)]
  have h2 := at_rise hK (show i + 1 < j + 1 by omega) (by omega)
  rw [h1]; omega
end RowsP
end Go.Proofs.YtpdfnlhhnodnjaaGreat
end
section
namespace Go.Proofs.YtpdfnlhhnodnjaaGreat
open Go.RowKit
set_option linter.unusedVariables false
/-- the loops' own blocks lie as they lay -/
structure Tools (B : Nat) (W W' : World) : Prop where
  size : W.heap.size ≤ W'.heap.size
  loops : ∀ k r, B ≤ k → W.heap[k]? = some (.loop r) → W'.heap[k]? = some (.loop r)
  marks : ∀ k d, B ≤ k → W.heap[k]? = some (.deferred d) → W'.heap[k]? = some (.deferred d)
theorem Tools.trans {B : Nat} {a b c : World} (h : Tools B a b) (k : Tools B b c) : Tools B a c := ⟨Nat.le_trans h.size k.size, fun i r hi e => k.loops i r hi (h.loops i r hi e), fun i d hi e => k.marks i d hi (h.marks i d hi e)⟩
section
variable {F : Fence} {n : Nat} {P : Program}
end
end Go.Proofs.YtpdfnlhhnodnjaaGreat
end
section
namespace Go.Proofs.YtpdfnlhhnodnjaaGreat
open Go.RowKit
set_option linter.unusedVariables false
theorem tools_of {B : Nat} {W W' : World} (hs : W.heap.size ≤ W'.heap.size) (h : ∀ k, B ≤ k → k < W.heap.size → W'.heap[k]? = W.heap[k]? ∨ ((∀ r, W.heap[k]? ≠ some (.loop r)) ∧ ∀ d, W.heap[k]? ≠ some (.deferred d))) : Tools B W W' :=
  ⟨hs, fun k r hk e => by
    rcases h k hk (Array.getElem?_eq_some_iff.1 e).1 with h | h
    · exact h.trans e
    · exact absurd e (h.1 r), fun k d hk e => by
    rcases h k hk (Array.getElem?_eq_some_iff.1 e).1 with h | h
    · exact h.trans e
    · exact absurd e (h.2 d)⟩
theorem tools_next {B : Nat} {W W' : World} (h : Below W.heap.size W W') : Tools B W W' := tools_of h.size fun k _ hk => .inl (h.block k hk)
/-- what an iterator promises: what it does itself is a turn; of what it hands out, Ey is told (the world ahead of it, the world then) -/
def SeqT {α : Type} (F : Fence) (n : Nat) (P : Program) (g : Nat) (lb : Array Value) (encs : α → Array Value) (Tw : World → World → Prop) (Ey : List α → α → World → World → Prop) (Kp : World → World → Prop) (S : List α → Prop) (w : World) : Prop :=
  ∀ (l : Nat) (J : List α → World → Prop) (W : World), Below w.heap.size w W → (∀ pre A B, J pre A → Tw A B → J pre B) →
    (∀ pre x W0 W1, J pre W0 → Tw W0 W1 → Ey pre x W0 W1 → YieldAt F (n - 1) P l (encs x) W1 fun e W' => e = .returned (.bool true) ∧ J (pre ++ [x]) W' ∧ Kp W1 W') →
    J [] W → CallsIn F n P g (#[.func (.yield l) #[] #[]] ++ lb) W fun e W' => (∃ v, e = .returned v) ∧ ∃ xs, S xs ∧ J xs W'
section
variable {F : Fence} {n : Nat} {P : Program}
/-- a loop over such an iterator: its rounds may make what they will -/
theorem range_turn {α : Type} {g : Operand} {ps : Array Tmp} {assign body : Code} {Q : Exit → Act → World → Prop} {a : Act} {w : World}
    (hro : F.round = none) (h1 : 1 ≤ n) {gf : Nat} {lb : Array Value} (hg : a.eval g = .func (.func gf) #[] lb) (hFg : F.fn gf) (eg : ∀ args w, (callFunc gf args).run P w = .ok (.enter gf args) w)
    {encs : α → Array Value} {Tw : World → World → Prop} {Ey : List α → α → World → World → Prop} {Kp : World → World → Prop} {S : List α → Prop} (hseq : SeqT F (n - 1) P gf lb encs Tw Ey Kp S w)
    (hTo : ∀ {A B : World}, Tw A B → Tools w.heap.size A B)
    (hKt : ∀ {A B C : World}, Kp A B → Kp B C → Kp A C) (hKb : ∀ (W : World) (l : Nat) (r r' : Loop), w.heap.size ≤ l → W.heap[l]? = some (.loop r) → Kp W (W.putObj l (.loop r'))) (hps : ∀ x, (encs x).size = ps.size)
    (I : List α → World → Prop) (I2 : List α → α → Act → World → Prop)
    (hIb : ∀ pre A B, I pre A → Tw A B → I pre B) (hIp : ∀ pre (W : World) (l : Nat) (r r' : Loop), w.heap.size ≤ l → W.heap[l]? = some (.loop r) → I pre W → I pre (W.putObj l (.loop r')))
    (hI2p : ∀ pre x a' (W : World) (l : Nat) (r r' : Loop), w.heap.size ≤ l → W.heap[l]? = some (.loop r) → I2 pre x a' W → I2 pre x a' (W.putObj l (.loop r')))
    (h0 : ∀ W, Below w.heap.size w W → I [] W)
    (hassign : ∀ (l : Nat) (pre : List α) (x : α) (W0 W : World), I pre W0 → Tw W0 W → Ey pre x W0 W → assign.wpIn (F.inRound l) (n - 1 - 1) P (Exit.then (fun a' W' => Tools w.heap.size W W' ∧ Kp W W' ∧ I2 pre x a' W') (fun _ _ _ => False)) { tmps := (ps.zip (encs x)).foldl (fun t (p, v) => t.setIfInBounds p v) a.tmps, defers := [] } W)
    (hbody : ∀ (l : Nat) (pre : List α) (x : α) (a' : Act) (W : World), I2 pre x a' W → body.wpIn (F.inRound l) (n - 1 - 1) P (fun e _ W' => e = .normal ∧ Tools w.heap.size W W' ∧ Kp W W' ∧ I (pre ++ [x]) W') a' W)
    (hdone : ∀ (D : Nat) (xs : List α) (W : World), w.heap.size ≤ D → S xs → I xs W → W.heap[D]? = some (.deferred (some [])) → Q .normal { a with defers := { target := .collected D, args := #[] } :: a.defers } W) :
    (Code.rangeFunc g ps assign body).wpIn F n P Q a w := by
  refine wpIn_rangeFunc ?_
  intro fn hfn
  rw [hro]
  obtain ⟨rec, hrec⟩ : ∃ rec : LoopState → Option Code → Loop, rec = fun st pe => { state := st, pending := pe, fn, tmps := a.tmps, params := ps, assign, body, defers := w.heap.size } := ⟨_, rfl⟩
  obtain ⟨W1, hW1⟩ : ∃ W1, (w.alloc (.deferred (some []))).alloc (.loop (rec .ready none)) = W1 := ⟨_, rfl⟩
  have hb1 : Below w.heap.size w W1 := by rw [← hW1]; exact balloc (balloc (bsame w) _) _
  have hL1 : W1.heap[w.heap.size + 1]? = some (.loop (rec .ready none)) := by
    rw [← hW1]; have := World.alloc_heap_new (w.alloc (.deferred (some []))) (.loop (rec .ready none)); rwa [World.size_alloc] at this
  have hK1 : W1.heap[w.heap.size]? = some (.deferred (some [])) := by
    rw [← hW1]; exact ((balloc (bsame (w.alloc (.deferred (some [])))) _).block _ (by simp)).trans (World.alloc_heap_new w _)
  refine ⟨w.heap.size + 1, [{ target := .collected w.heap.size, args := #[] }], W1, { target := .fn (.func gf) lb, args := #[.func (.yield (w.heap.size + 1)) #[] #[]] }, W1, gf,
    #[.func (.yield (w.heap.size + 1)) #[] #[]] ++ lb, W1, ?_, ?_, ?_, ?_, fun _ => h1, ?_⟩
  · rw [← hW1, hrec]; exact run_enterLoop_outer _ _ _ _ _
  · simp only [resolve, hg]
    simp [go_sem]
  · intro f' hf'; simp [Target.leads] at hf'; subst hf'; exact hFg
  · simp [invoke, go_sem, eg]
  · refine (hseq (w.heap.size + 1) (fun pre W => I pre W ∧ W.heap[w.heap.size + 1]? = some (.loop (rec .ready none)) ∧ W.heap[w.heap.size]? = some (.deferred (some []))) W1 hb1
      (fun pre A B h hb => ⟨hIb pre A B h.1 hb, (hTo hb).loops _ _ (by omega) h.2.1, (hTo hb).marks _ _ (Nat.le_refl _) h.2.2⟩) ?_ ⟨h0 _ hb1, hL1, hK1⟩).mono ?_
    · rintro pre x W0 W ⟨hi, hl0, hk0⟩ htw hey
      have hl := (hTo htw).loops _ _ (by omega) hl0
      have hk := (hTo htw).marks _ _ (Nat.le_refl _) hk0
      have hy := run_yield (P := P) (args := encs x) hl (by rw [hrec]; exact hps x)
      rw [hrec] at hy
      refine ⟨fn, _, assign, body, hy, roundIn_of_wpIn hfn (wpIn_mono (hassign _ pre x W0 W hi htw hey) ?_)⟩
      rintro e a2 W2 hp
      cases e with
      | normal =>
        obtain ⟨ht2, hk2, hi2⟩ := hp
        have hl2 := ht2.loops _ _ (by omega) hl
        have hm2 := ht2.marks _ _ (Nat.le_refl _) hk
        have hlt2 := (Array.getElem?_eq_some_iff.1 hl2).1
        refine ⟨_, run_beginRound hl2 (by rw [hrec]), ?_⟩
        have hl3 : (W2.putObj (w.heap.size + 1) (.loop { rec .ready none with state := .busy })).heap[w.heap.size + 1]? = some (.loop { rec .ready none with state := .busy }) := World.putObj_heap_same hlt2
        have hm3 : (W2.putObj (w.heap.size + 1) (.loop { rec .ready none with state := .busy })).heap[w.heap.size]? = some (.deferred (some [])) := (World.putObj_heap_other (by omega)).trans hm2
        refine wpIn_mono (hbody _ pre x a2 _ (hI2p pre x a2 W2 _ _ _ (by omega) hl2 hi2)) ?_
        rintro e a4 W4 ⟨rfl, ht4, hk4, hi4⟩
        have hl4 := ht4.loops _ _ (by omega) hl3
        have hm4 := ht4.marks _ _ (Nat.le_refl _) hm3
        have hr := run_endRound (P := P) none hl4
        refine ⟨_, _, hr, rfl, ⟨hIp _ W4 _ _ _ (by omega) hl4 hi4, ?_, (World.putObj_heap_other (by omega)).trans hm4⟩, hKt (hKt hk2 (hKb W2 _ _ _ (by omega) hl2)) (hKt hk4 (hKb W4 _ _ _ (by omega) hl4))⟩
        rw [World.putObj_heap_same (Array.getElem?_eq_some_iff.1 hl4).1, hrec]
        rfl
      | _ => exact hp.elim
    · rintro e W2 ⟨⟨v, rfl⟩, xs, hS, hi, hl, hk⟩
      exact ⟨none, _, by have := run_endLoop (P := P) hl (by rw [hrec]; simp); rw [hrec] at this; exact this, hdone _ xs _ (Nat.le_refl _) hS (hIp _ W2 _ _ _ (by omega) hl hi) ((World.putObj_heap_other (by omega)).trans hk)⟩
end
end Go.Proofs.YtpdfnlhhnodnjaaGreat
end
section
namespace Go.Proofs.YtpdfnlhhnodnjaaGreat
open Go.ChangeShapes Go.WideShapes Go.ChangeAt Go.RowKit
set_option linter.unusedVariables false
section
variable {H : Type} {enc : TypeId × Value → H} {P : Program} {w : World}
/-- a slice whose elements can be read one by one -/
theorem elems_of {α : Type} (E : El α) {fuel : Nat} {t e : TypeId} {cs : List Value} {x : DataW H × List MemPlace} (ht : P.underlying t = some (.slice e)) (hc : P.cellsOf e = E.size)
    (hel : ∀ (n : Nat) (cs : List Value) y, DataW.trod enc P w 0 (fun _ => true) true n e cs = some y → ∃ x, E.rel w w.heap.size cs x)
    (h : DataW.trod enc P w 0 (fun _ => true) true fuel t cs = some x) : ∃ A n c l, cs = [.slice A n c] ∧ Elems E w w.heap.size A n c l := by
  rcases Go.Deep.open_slice ht h with ⟨hcs, _⟩ | ⟨a, len, cap, m, n, D, Pl, hcs, _, hl, hm, hmm, _, hx⟩
  · exact ⟨none, 0, 0, [], hcs, Elems.none_ _ _ _⟩
  · have hlm : len ≤ m := by rw [hmm]; split <;> omega
    have key : ∀ k, k ≤ len → ∃ (vs : List (List Value)) (l : List α), Rel2 (E.rel w w.heap.size) vs l ∧ l.length = k ∧ ∀ j v, vs.flatten[j]? = some v → w.cell? (a.add j) = some v := by
      intro k
      induction k with
      | zero => intro _; exact ⟨[], [], trivial, rfl, fun j v hv => by simp at hv⟩
      | succ k ih =>
        intro hk
        obtain ⟨vs, l, hr, hlen, hcell⟩ := ih (by omega)
        obtain ⟨cs', h1, h2⟩ := hx k (by omega)
        obtain ⟨y, hy⟩ := hel _ _ _ h2
        obtain ⟨_, hcl, hci⟩ := World.cells?_some h1
        refine ⟨vs ++ [cs'], l ++ [y], Rel2.append (show Rel2 (E.rel w w.heap.size) [cs'] [y] from ⟨hy, trivial⟩) hr, by simp [hlen], fun j v hv => ?_⟩
        have hfl : vs.flatten.length = k * E.size := by rw [hr.flat (fun _ _ => E.len), hlen]
        rw [List.flatten_append, List.flatten_singleton] at hv
        by_cases hj : j < vs.flatten.length
        · rw [List.getElem?_append_left hj] at hv
          exact hcell j v hv
        · rw [List.getElem?_append_right (by omega), hfl] at hv
          have hi := (List.getElem?_eq_some_iff.1 hv).1
          have := hci (j - k * E.size) (by omega)
          rw [hv, hc, Go.Deep.add_add, show k * E.size + (j - k * E.size) = j by omega] at this
          exact this
    obtain ⟨vs, l, hr, hlen, hcell⟩ := key len (Nat.le_refl _)
    refine ⟨some a, len, cap, l, hcs, vs, hr, hlen, hl, hm, fun hn => ?_⟩
    have hfl : vs.flatten.length = len * E.size := by rw [hr.flat (fun _ _ => E.len), hlen]
    have hpos : 0 < vs.flatten.length := by rw [hfl]; exact Nat.mul_pos hn E.pos
    obtain ⟨b, o, s⟩ := a
    have h0 := hcell 0 _ (List.getElem?_eq_getElem hpos)
    have hs : s = none := by simpa [Addr.add] using World.cell?_spot h0
    subst hs
    refine ⟨b, o, rfl, by simpa [Addr.add] using lt_of_cell h0, fun j v hv => ?_⟩
    have := hcell j v hv
    rwa [add_none] at this
end
end Go.Proofs.YtpdfnlhhnodnjaaGreat
end
