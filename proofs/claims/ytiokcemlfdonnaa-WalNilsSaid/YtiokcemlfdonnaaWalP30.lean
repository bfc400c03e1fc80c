/-
  Parts of the proof of WalNils.
-/
import Derived.Test.YtiokcemlfdonnaaWalP29
import Derived.Test.YtiokcemlfdonnaaWalP5
import Derived.RangeFuncNested
import Derived.Test.YtiokcemlfdonnaaWalP10
import Derived.Test.YtiokcemlfdonnaaProg
import Derived.Lib.SliceRun
import Derived.Test.YtiokcemlfdonnaaWalP13
import Derived.Laws.ResultCell
section
namespace Go.Proofs.Ytiokcemlfdonnaa
open Go.RowKit
set_option linter.unusedVariables false
namespace RecP
theorem val_parts4 (post : List UInt8) (m : Int) (h0 : 0 ≤ m) (h1 : m < 4294967296) : NumP.val (BeP.parts 4 m ++ post) 0 4 = m := by
  unfold NumP.val
  rw [if_pos (by simp [BeP.parts_length]), List.drop_zero, List.take_append_of_le_length (by rw [BeP.parts_length]; omega), List.take_of_length_le (by rw [BeP.parts_length]; omega), NumP.num_parts]
  unfold BeP.u64
  have e : (m % 18446744073709551616).toNat % 256 ^ 4 = m.toNat := by omega
  rw [e, NumP.toI_small _ (by omega)]
  omega
/-- the seal is right -/
theorem body_good (x : RecX) : (NumP.val (body x) 0 4 == ((CrcP.sum ((body x).drop 4) : Nat) : Int)) = true := by
  have h1 : (body x).drop 4 = inner x := by unfold body; rw [List.drop_left' (BeP.parts_length 4 _)]
  have h2 := CrcP.sum_lt (inner x)
  rw [h1]
  unfold body
  rw [val_parts4 _ _ (by omega) (by omega)]
  simp
theorem bytes_fit (x : RecX) (h : fits x = true) : bytes x = BeP.parts 2 ((body x).length : Nat) ++ body x := by unfold bytes; rw [if_pos h]
theorem bytes_fit6 (x : RecX) (h : fits x = true) : (bytes x).drop 2 = body x ∧ (bytes x).drop 6 = inner x := by
  have h1 : (bytes x).drop 2 = body x := by rw [bytes_fit x h, List.drop_left' (BeP.parts_length 2 _)]
  refine ⟨h1, ?_⟩
  rw [show 6 = 2 + 4 from rfl, ← List.drop_drop, h1]
  unfold body
  rw [List.drop_left' (BeP.parts_length 4 _)]
theorem got_len (x : RecX) (more : List UInt8) (h : fits x = true) : NumP.val (bytes x ++ more) 0 2 = ((body x).length : Nat) := by
  rw [bytes_fit x h, List.append_assoc]
  exact PatchP.val_parts2 [] _ _ (by omega) (by have := fits_len h; omega)
end RecP
namespace RecW
open UndoW
set_option linter.unusedSimpArgs false
attribute [local go_sem ↓] app_fold cut_fold
set_option maxRecDepth 100000 in
set_option maxHeartbeats 8000000 in
theorem get_any (kd tx pv nx : Int) (l : List PatchX) (pact : Int) (puk : ByteArray) (pst : Int) (pk : ByteArray) (pkd : Int) (pda : List UInt8) (plo phi pva pun : Int) (more : List UInt8) (A : Option Addr) (n c B : Nat) (w : World) (hF : RecP.fits ⟨kd, tx, pv, nx, l, ⟨pact, puk, ⟨pst, pk, ⟨pkd, pda, plo, phi, pva⟩⟩, pun⟩⟩ = true) (hun : In64 pun) (hui : SlotP.In ⟨pst, pk, ⟨pkd, pda, plo, phi, pva⟩⟩) (hpk : pk.size ≤ maxLen) (hpuk : puk.size ≤ maxLen) (h : Bytes w B A n c (RecP.bytes ⟨kd, tx, pv, nx, l, ⟨pact, puk, ⟨pst, pk, ⟨pkd, pda, plo, phi, pva⟩⟩, pun⟩⟩ ++ more)) (hB : B ≤ w.heap.size) :
    Calls Try.prog 15 #[.slice A n c] w fun e w' => ∃ A2 c2 Ap np cp, e = .returned (.tuple #[.agg #[.int .i64 kd, .int .i64 tx, .int .i64 pv, .int .i64 nx, .slice A2 l.length c2, .int .i64 pact, .string puk, .int .i64 pst, .string pk, .int .i64 pkd, .slice Ap np cp, .int .i64 plo, .int .i64 phi, .int .i64 pva, .int .i64 pun], .int .i64 ((RecP.bytes ⟨kd, tx, pv, nx, l, ⟨pact, puk, ⟨pst, pk, ⟨pkd, pda, plo, phi, pva⟩⟩, pun⟩⟩).length : Nat), .int .i64 0]) ∧ Elems PatchE w' w'.heap.size A2 l.length c2 l ∧ Bytes w' w'.heap.size Ap np cp pda ∧ Below w.heap.size w w' := by
  have H := Lib.hid h
  have HR := Lib.hid (RecP.fits_right hF)
  have HPK := Lib.hid (And.intro hpk hpuk)
  have hfl := RecP.fits_len hF
  have hv := RecP.got_len ⟨kd, tx, pv, nx, l, ⟨pact, puk, ⟨pst, pk, ⟨pkd, pda, plo, phi, pva⟩⟩, pun⟩⟩ more hF
  have hd6 := RecP.bytes_fit6 ⟨kd, tx, pv, nx, l, ⟨pact, puk, ⟨pst, pk, ⟨pkd, pda, plo, phi, pva⟩⟩, pun⟩⟩ hF
  have hbl := RecP.bytes_length ⟨kd, tx, pv, nx, l, ⟨pact, puk, ⟨pst, pk, ⟨pkd, pda, plo, phi, pva⟩⟩, pun⟩⟩ hF
  have hgood := RecP.body_good ⟨kd, tx, pv, nx, l, ⟨pact, puk, ⟨pst, pk, ⟨pkd, pda, plo, phi, pva⟩⟩, pun⟩⟩
  have hln := h.len
  have hnc := h.2.1
  have hcm := h.2.2.1
  unfold maxLen at hcm
  rw [List.length_append] at hln
  have h30 : 30 ≤ (RecP.body ⟨kd, tx, pv, nx, l, ⟨pact, puk, ⟨pst, pk, ⟨pkd, pda, plo, phi, pva⟩⟩, pun⟩⟩).length := by rw [RecP.body_length]; omega
  have hil : (RecP.inner ⟨kd, tx, pv, nx, l, ⟨pact, puk, ⟨pst, pk, ⟨pkd, pda, plo, phi, pva⟩⟩, pun⟩⟩).length + 4 = (RecP.body ⟨kd, tx, pv, nx, l, ⟨pact, puk, ⟨pst, pk, ⟨pkd, pda, plo, phi, pva⟩⟩, pun⟩⟩).length := by unfold RecP.body; rw [List.length_append, BeP.parts_length]; omega
  obtain ⟨m, hm⟩ : ∃ m, (RecP.body ⟨kd, tx, pv, nx, l, ⟨pact, puk, ⟨pst, pk, ⟨pkd, pda, plo, phi, pva⟩⟩, pun⟩⟩).length = m := ⟨_, rfl⟩
  rw [hm] at hfl hv hbl h30 hil
  rw [hbl] at hln ⊢
  have ht := NumW.there_yes (RecP.bytes ⟨kd, tx, pv, nx, l, ⟨pact, puk, ⟨pst, pk, ⟨pkd, pda, plo, phi, pva⟩⟩, pun⟩⟩ ++ more) 0 2 (by rw [List.length_append, hbl]; omega)
  have hc0 := h.cut 0 (2 + m) c (Nat.zero_le _) (by omega) (by omega) (Nat.le_refl _)
  rw [List.drop_zero, Nat.sub_zero, Nat.sub_zero, List.take_left' hbl] at hc0
  have hc2 := hc0.cut 2 (2 + m) c (by omega) (Nat.le_refl _) (by omega) (Nat.le_refl _)
  rw [hd6.1, show 2 + m - 2 = m by omega, List.take_of_length_le (by omega)] at hc2
  have hc6 := hc0.cut 6 (2 + m) c (by omega) (Nat.le_refl _) (by omega) (Nat.le_refl _)
  rw [hd6.2, List.take_of_length_le (by omega)] at hc6
  have H0 := Lib.hid hc0
  have H2 := Lib.hid hc2
  have H6 := Lib.hid hc6
  have HV := Lib.hid (And.intro hv ht)
  have HG := Lib.hid hgood
  have hR0 : ∃ R, l.length = R := ⟨_, rfl⟩
  obtain ⟨R, hRl⟩ := hR0
  rw [hRl]
  clear h hc0 hc2 hc6 hv ht hgood hd6 hbl hil hm hpk hpuk hF
  have q1 : (2 : Int) + (m : Int) ≤ (c : Int) := by omega
  have q2 : ((2 : Int) + (m : Int)).toNat = 2 + m := by omega
  have q3 : decide ((n : Int) < 2 + (m : Int)) = false := by simp; omega
  have q4 : (2 : Int) ≤ 2 + (m : Int) := by omega
  have q5 : (6 : Int) ≤ 2 + (m : Int) := by omega
  have q6 : (6 : Int) ≤ (c : Int) := by omega
  have q11 : 2 + m - 6 ≤ 100000 := by omega
  have q8 : ((2 + m : Nat) : Int) ≤ (c : Int) := by omega
  have q9 : (6 : Int) ≤ ((2 + m : Nat) : Int) := by omega
  have q10 : (2 : Int) ≤ ((2 + m : Nat) : Int) := by omega
  obtain ⟨W0, hW0⟩ : ∃ W, w.alloc (.cells #[.int .i64 0, .int .i64 0, .int .i64 0, .int .i64 0, .slice none 0 0, .int .i64 0, .string ⟨#[]⟩, .int .i64 0, .string ⟨#[]⟩, .int .i64 0, .slice none 0 0, .int .i64 0, .int .i64 0, .int .i64 0, .int .i64 0] 31) = W := ⟨_, rfl⟩
  obtain ⟨HS0, HB0, hw0, hz0⟩ := new1 hW0
  have hl0 := HS0.out.lt
  go_enter Try.func15, Try.ntmps15
  go_wp2_with fail
  refine (NumW.num_any A n c B 0 2 _ W0 (H.out.below (HB0.out.mono hB)) (by omega) (by omega) (by omega)).mono ?_
  rintro e w' ⟨rfl, rfl⟩
  rw [HV.out.1, HV.out.2]
  go_wp2_with fail
  refine (CrcW.good_any _ m _ B (RecP.body ⟨kd, tx, pv, nx, l, ⟨pact, puk, ⟨pst, pk, ⟨pkd, pda, plo, phi, pva⟩⟩, pun⟩⟩) _ (H2.out.below (HB0.out.mono hB)) (by omega) (by omega)).mono ?_
  rintro e W1 ⟨rfl, hb1⟩
  rw [HG.out]
  replace HS0 := Lib.hid (HS0.out.next hb1)
  replace HB0 := Lib.hid (bstep HB0.out hb1)
  have hw1 := HB0.out.size
  have hl0 := HS0.out.lt
  clear hb1
  go_wp2_with fail
  refine (read_any kd tx pv nx l pact puk pst pk pkd pda plo phi pva pun _ _ _ B W1 HR.out hun hui (H6.out.below (HB0.out.mono hB)) (by omega) q11).mono ?_
  rintro e W2 ⟨A2, c2, Ap, np, cp, rfl, hE2, hy2, hb2⟩
  rw [hRl] at hE2 ⊢
  replace HS0 := Lib.hid (HS0.out.next hb2)
  replace HB0 := Lib.hid (bstep HB0.out hb2)
  have HE2 := Lib.hid hE2
  have hlt0 := HS0.out.lt
  have HY2 := Lib.hid hy2
  clear hE2 hy2 hb2
  obtain ⟨W6, hW6⟩ : ∃ W, W2.alloc (.cells #[.int .i64 kd, .int .i64 tx, .int .i64 pv, .int .i64 nx, .slice A2 R c2, .int .i64 pact, .string puk, .int .i64 pst, .string pk, .int .i64 pkd, .slice Ap np cp, .int .i64 plo, .int .i64 phi, .int .i64 pva, .int .i64 pun] 31) = W := ⟨_, rfl⟩
  obtain ⟨HX, HBX, hw6, hz6⟩ := new1 hW6
  replace HS0 := Lib.hid (HS0.out.next HBX.out)
  replace HB0 := Lib.hid (bstep HB0.out HBX.out)
  have HA6 := Lib.hid ((HE2.out.sub (above_sub (sub_below HBX.out))).more HBX.out.size)
  have HE6 := Lib.hid (HA6.out.sub (sub_above _ _ _))
  have HY6 := Lib.hid (HY2.out.next HBX.out)
  have g6 := str15 HX.out
  have hl6 := HX.out.lt
  have hl0 := HS0.out.lt
  have hw66 := HB0.out.size
  clear HBX HE2 HY2
  go_wp2_with fail
  refine (put_any kd tx pv nx A2 R c2 W6.heap.size l pact puk Ap np cp W6.heap.size pst pk pkd pda plo phi pva pun W6 HE6.out (Nat.le_refl _) HY6.out (Nat.le_refl _) HPK.out.1 HPK.out.2).mono ?_
  rintro e W7 ⟨A7, n7, c7, rfl, hy7, hb7⟩
  replace HS0 := Lib.hid (HS0.out.next hb7)
  have HB7 := Lib.hid (bstep HB0.out hb7)
  replace HX := Lib.hid (HX.out.next hb7)
  have HE7 := Lib.hid ((HA6.out.sub (above_sub (sub_below hb7))).more hb7.size)
  have HY7 := Lib.hid (HY6.out.next hb7)
  have HYB := Lib.hid hy7
  clear hy7 hb7 g6 hl6 hl0 hW6 HE6 HY6 HB0
  have g6 := str15 HX.out
  have hl6 := HX.out.lt
  have g0 := str15 HS0.out
  have gf := fun j => HS0.out.frozen j
  have hl0 := HS0.out.lt
  go_wp2_with fail
  refine (Same.equal_any _ _ _ _ _ _ _ _ (RecP.bytes ⟨kd, tx, pv, nx, l, ⟨pact, puk, ⟨pst, pk, ⟨pkd, pda, plo, phi, pva⟩⟩, pun⟩⟩) (RecP.bytes ⟨kd, tx, pv, nx, l, ⟨pact, puk, ⟨pst, pk, ⟨pkd, pda, plo, phi, pva⟩⟩, pun⟩⟩) W7 HYB.out (H0.out.below (HB7.out.mono hB))).mono ?_
  rintro e w' ⟨rfl, rfl⟩
  rw [beq_self_eq_true]
  obtain ⟨W8, hW8⟩ : ∃ W, (((((((((((((((W7).setCell ⟨w.heap.size, 0, none⟩ (.int .i64 kd)).setCell ⟨w.heap.size, 1, none⟩ (.int .i64 tx)).setCell ⟨w.heap.size, 2, none⟩ (.int .i64 pv)).setCell ⟨w.heap.size, 3, none⟩ (.int .i64 nx)).setCell ⟨w.heap.size, 4, none⟩ (.slice A2 R c2)).setCell ⟨w.heap.size, 5, none⟩ (.int .i64 pact)).setCell ⟨w.heap.size, 6, none⟩ (.string puk)).setCell ⟨w.heap.size, 7, none⟩ (.int .i64 pst)).setCell ⟨w.heap.size, 8, none⟩ (.string pk)).setCell ⟨w.heap.size, 9, none⟩ (.int .i64 pkd)).setCell ⟨w.heap.size, 10, none⟩ (.slice Ap np cp)).setCell ⟨w.heap.size, 11, none⟩ (.int .i64 plo)).setCell ⟨w.heap.size, 12, none⟩ (.int .i64 phi)).setCell ⟨w.heap.size, 13, none⟩ (.int .i64 pva)).setCell ⟨w.heap.size, 14, none⟩ (.int .i64 pun) = W := ⟨_, rfl⟩
  have hg8 : W7.grownBy W8 (some w.heap.size) := by rw [← hW8]; exact grown_set (grown_set (grown_set (grown_set (grown_set (grown_set (grown_set (grown_set (grown_set (grown_set (grown_set (grown_set (grown_set (grown_set (grown_set (grown_refl W7 _) 0 _) 1 _) 2 _) 3 _) 4 _) 5 _) 6 _) 7 _) 8 _) 9 _) 10 _) 11 _) 12 _) 13 _) 14 _
  have hres : Str W8 w.heap.size #[.int .i64 kd, .int .i64 tx, .int .i64 pv, .int .i64 nx, .slice A2 R c2, .int .i64 pact, .string puk, .int .i64 pst, .string pk, .int .i64 pkd, .slice Ap np cp, .int .i64 plo, .int .i64 phi, .int .i64 pva, .int .i64 pun] := by
    have := (((((((((((((((HS0.out).set 0 (.int .i64 kd)).set 1 (.int .i64 tx)).set 2 (.int .i64 pv)).set 3 (.int .i64 nx)).set 4 (.slice A2 R c2)).set 5 (.int .i64 pact)).set 6 (.string puk)).set 7 (.int .i64 pst)).set 8 (.string pk)).set 9 (.int .i64 pkd)).set 10 (.slice Ap np cp)).set 11 (.int .i64 plo)).set 12 (.int .i64 phi)).set 13 (.int .i64 pva)).set 14 (.int .i64 pun)
    rw [← hW8]; simpa using this
  have HFIN : Hid (Elems PatchE W8 W8.heap.size A2 R c2 l ∧ Bytes W8 W8.heap.size Ap np cp pda ∧ Below w.heap.size w W8) := Lib.hid ⟨((HE7.out.sub (above_keep (fun j hj h1 => hg8.block j hj (by intro e; injection e with e; omega)))).sub (sub_above _ _ _)).more hg8.size, (Bytes.grown HY7.out (Nat.le_refl _) HS0.out rfl hg8).more hg8.size, below_grown HB7.out hg8 (Nat.le_refl _)⟩
  have gz := str15 hres
  clear hg8 hres HE7 HY7 HYB HX HS0 HR
  go_wp2
  exact bodyPost_ret (v := .tuple #[.agg #[.int .i64 kd, .int .i64 tx, .int .i64 pv, .int .i64 nx, .slice A2 R c2, .int .i64 pact, .string puk, .int .i64 pst, .string pk, .int .i64 pkd, .slice Ap np cp, .int .i64 plo, .int .i64 phi, .int .i64 pva, .int .i64 pun], .int .i64 ((2 + m : Nat) : Int), .int .i64 0]) (by simp [results, Try.results15, go_sem, *]) rfl ⟨A2, c2, Ap, np, cp, rfl, HFIN.out.1, HFIN.out.2.1, HFIN.out.2.2⟩
set_option maxRecDepth 100000 in
set_option maxHeartbeats 4000000 in
theorem get_short (l : List UInt8) (A : Option Addr) (n c B : Nat) (w : World) (h : Bytes w B A n c l) (hB : B ≤ w.heap.size) (hs : n < 2 ∨ (n : Int) < 2 + NumP.val l 0 2) :
    Calls Try.prog 15 #[.slice A n c] w fun e w' => e = .returned (.tuple #[.agg #[.int .i64 0, .int .i64 0, .int .i64 0, .int .i64 0, .slice none 0 0, .int .i64 0, .string ⟨#[]⟩, .int .i64 0, .string ⟨#[]⟩, .int .i64 0, .slice none 0 0, .int .i64 0, .int .i64 0, .int .i64 0, .int .i64 0], .int .i64 0, .int .i64 13]) ∧ Below w.heap.size w w' := by
  have H := Lib.hid h
  have hln := h.len
  have hcm := Nat.le_trans h.2.1 h.2.2.1
  unfold maxLen at hcm
  have hvs := NumP.val_small l 0 2 (by omega)
  obtain ⟨W0, hW0⟩ : ∃ W, w.alloc (.cells #[.int .i64 0, .int .i64 0, .int .i64 0, .int .i64 0, .slice none 0 0, .int .i64 0, .string ⟨#[]⟩, .int .i64 0, .string ⟨#[]⟩, .int .i64 0, .slice none 0 0, .int .i64 0, .int .i64 0, .int .i64 0, .int .i64 0] 31) = W := ⟨_, rfl⟩
  obtain ⟨HS0, HB0, hw0, hz0⟩ := new1 hW0
  have hl0 := HS0.out.lt
  have g0 := str15 HS0.out
  have gf := fun j => HS0.out.frozen j
  obtain ⟨W8, hW8⟩ : ∃ W, (((((((((((((((W0).setCell ⟨w.heap.size, 0, none⟩ (.int .i64 0)).setCell ⟨w.heap.size, 1, none⟩ (.int .i64 0)).setCell ⟨w.heap.size, 2, none⟩ (.int .i64 0)).setCell ⟨w.heap.size, 3, none⟩ (.int .i64 0)).setCell ⟨w.heap.size, 4, none⟩ (.slice none 0 0)).setCell ⟨w.heap.size, 5, none⟩ (.int .i64 0)).setCell ⟨w.heap.size, 6, none⟩ (.string ⟨#[]⟩)).setCell ⟨w.heap.size, 7, none⟩ (.int .i64 0)).setCell ⟨w.heap.size, 8, none⟩ (.string ⟨#[]⟩)).setCell ⟨w.heap.size, 9, none⟩ (.int .i64 0)).setCell ⟨w.heap.size, 10, none⟩ (.slice none 0 0)).setCell ⟨w.heap.size, 11, none⟩ (.int .i64 0)).setCell ⟨w.heap.size, 12, none⟩ (.int .i64 0)).setCell ⟨w.heap.size, 13, none⟩ (.int .i64 0)).setCell ⟨w.heap.size, 14, none⟩ (.int .i64 0) = W := ⟨_, rfl⟩
  have hg8 : W0.grownBy W8 (some w.heap.size) := by rw [← hW8]; exact grown_set (grown_set (grown_set (grown_set (grown_set (grown_set (grown_set (grown_set (grown_set (grown_set (grown_set (grown_set (grown_set (grown_set (grown_set (grown_refl W0 _) 0 _) 1 _) 2 _) 3 _) 4 _) 5 _) 6 _) 7 _) 8 _) 9 _) 10 _) 11 _) 12 _) 13 _) 14 _
  have hres : Str W8 w.heap.size #[.int .i64 0, .int .i64 0, .int .i64 0, .int .i64 0, .slice none 0 0, .int .i64 0, .string ⟨#[]⟩, .int .i64 0, .string ⟨#[]⟩, .int .i64 0, .slice none 0 0, .int .i64 0, .int .i64 0, .int .i64 0, .int .i64 0] := by
    have := (((((((((((((((HS0.out).set 0 (.int .i64 0)).set 1 (.int .i64 0)).set 2 (.int .i64 0)).set 3 (.int .i64 0)).set 4 (.slice none 0 0)).set 5 (.int .i64 0)).set 6 (.string ⟨#[]⟩)).set 7 (.int .i64 0)).set 8 (.string ⟨#[]⟩)).set 9 (.int .i64 0)).set 10 (.slice none 0 0)).set 11 (.int .i64 0)).set 12 (.int .i64 0)).set 13 (.int .i64 0)).set 14 (.int .i64 0)
    rw [← hW8]; simpa using this
  have HFIN := Lib.hid (below_grown HB0.out hg8 (Nat.le_refl _))
  have gz := str15 hres
  clear hg8 hres h
  by_cases h2 : n < 2
  · have ht := NumW.there_no l 0 2 (by omega)
    have HT := Lib.hid ht
    clear ht hs hvs
    go_enter Try.func15, Try.ntmps15
    go_wp2_with fail
    refine (NumW.num_any A n c B 0 2 l W0 (H.out.below (HB0.out.mono hB)) (by omega) (by omega) (by omega)).mono ?_
    rintro e w' ⟨rfl, rfl⟩
    rw [HT.out]
    go_wp2
    exact bodyPost_ret (v := .tuple #[.agg #[.int .i64 0, .int .i64 0, .int .i64 0, .int .i64 0, .slice none 0 0, .int .i64 0, .string ⟨#[]⟩, .int .i64 0, .string ⟨#[]⟩, .int .i64 0, .slice none 0 0, .int .i64 0, .int .i64 0, .int .i64 0, .int .i64 0], .int .i64 0, .int .i64 13]) (by simp [results, Try.results15, go_sem, *]) rfl ⟨rfl, HFIN.out⟩
  · have ht := NumW.there_yes l 0 2 (by omega)
    have HT := Lib.hid ht
    have hs2 : (n : Int) < 2 + NumP.val l 0 2 := by rcases hs with h | h; exact absurd h h2; exact h
    obtain ⟨v, hv⟩ : ∃ v, NumP.val l 0 2 = v := ⟨_, rfl⟩
    rw [hv] at hvs hs2
    have HV := Lib.hid hv
    have hd : decide ((n : Int) < 2 + v) = true := by simpa using hs2
    clear ht hs hv
    go_enter Try.func15, Try.ntmps15
    go_wp2_with fail
    refine (NumW.num_any A n c B 0 2 l W0 (H.out.below (HB0.out.mono hB)) (by omega) (by omega) (by omega)).mono ?_
    rintro e w' ⟨rfl, rfl⟩
    rw [HT.out, HV.out]
    go_wp2
    exact bodyPost_ret (v := .tuple #[.agg #[.int .i64 0, .int .i64 0, .int .i64 0, .int .i64 0, .slice none 0 0, .int .i64 0, .string ⟨#[]⟩, .int .i64 0, .string ⟨#[]⟩, .int .i64 0, .slice none 0 0, .int .i64 0, .int .i64 0, .int .i64 0, .int .i64 0], .int .i64 0, .int .i64 13]) (by simp [results, Try.results15, go_sem, *]) rfl ⟨rfl, HFIN.out⟩
end RecW
namespace RecP
theorem live_right : Right ⟨4, 1, 0, 0, [], ⟨0, ⟨#[]⟩, ⟨0, ⟨#[]⟩, ⟨0, [], 0, 0, 0⟩⟩, 0⟩⟩ := by
  refine ⟨⟨⟨by decide, by decide⟩, ⟨by decide, by decide⟩, ⟨by decide, by decide⟩, ⟨by decide, by decide⟩⟩, by decide, by decide +kernel, fun i p hi => absurd hi (Nat.not_lt_zero _), ⟨fun _ => rfl, fun _ => rfl, fun _ => rfl⟩⟩
theorem live_undo : UndoP.bytes ⟨0, ⟨#[]⟩, ⟨0, ⟨#[]⟩, ⟨0, [], 0, 0, 0⟩⟩, 0⟩ = [0] := by
  unfold UndoP.bytes
  rw [if_pos (by decide +kernel)]
  rfl
theorem live_len : (body ⟨4, 1, 0, 0, [], ⟨0, ⟨#[]⟩, ⟨0, ⟨#[]⟩, ⟨0, [], 0, 0, 0⟩⟩, 0⟩⟩).length = 31 := by
  rw [body_length]
  show 30 + (patsB []).length + (UndoP.bytes _).length = 31
  rw [live_undo]; rfl
theorem live_fits : fits ⟨4, 1, 0, 0, [], ⟨0, ⟨#[]⟩, ⟨0, ⟨#[]⟩, ⟨0, [], 0, 0, 0⟩⟩, 0⟩⟩ = true := by
  unfold fits
  rw [right_yes _ live_right, live_len]; rfl
theorem live_second : (bytes ⟨4, 1, 0, 0, [], ⟨0, ⟨#[]⟩, ⟨0, ⟨#[]⟩, ⟨0, [], 0, 0, 0⟩⟩, 0⟩⟩)[1]? = some 31 := by
  rw [bytes_fit _ live_fits, live_len]
  have : BeP.parts 2 ((31 : Nat) : Int) = [0, 31] := by decide
  rw [this]; rfl
end RecP
namespace RecW
open UndoW
set_option linter.unusedSimpArgs false
set_option maxRecDepth 100000 in
set_option maxHeartbeats 1000000 in
theorem code_any (e : Int) (w : World) : Calls Try.prog 10 #[.int .i64 e] w fun r w' => r = .returned (.int .i64 e) ∧ w = w' := by
  go_enter Try.func10, Try.ntmps10
  go_wp2
  go_ret
  exact ⟨rfl, rfl⟩
set_option maxRecDepth 100000 in
set_option maxHeartbeats 2000000 in
theorem live_any (w : World) : Calls Try.prog 8 #[] w fun e w' => e = .returned (.bool true) ∧ Below w.heap.size w w' := by
  go_enter Try.func8, Try.ntmps8
  go_wp2_with fail
  refine (put_any 4 1 0 0 none 0 0 0 [] 0 ⟨#[]⟩ none 0 0 0 0 ⟨#[]⟩ 0 [] 0 0 0 0 w (Elems.none_ _ _ _) (Nat.zero_le _) (Bytes.none_ _ _) (Nat.zero_le _) (by show 0 ≤ maxLen; unfold maxLen; omega) (by show 0 ≤ maxLen; unfold maxLen; omega)).mono ?_
  rintro e W1 ⟨A1, n1, c1, rfl, hy1, hb1⟩
  have hn1 : n1 = 33 := by rw [← hy1.len, RecP.bytes_length _ RecP.live_fits, RecP.live_len]
  subst hn1
  have HY1 := Lib.hid hy1
  have HB1 := Lib.hid hb1
  obtain ⟨b, o, hA, hbb, hcell⟩ := hy1.at_ (show 1 < 33 by omega)
  have h31 : (RecP.bytes ⟨4, 1, 0, 0, [], ⟨0, ⟨#[]⟩, ⟨0, ⟨#[]⟩, ⟨0, [], 0, 0, 0⟩⟩, 0⟩⟩)[1]'(by rw [hy1.len]; omega) = 31 := by
    have := RecP.live_second
    rw [List.getElem?_eq_getElem (by rw [hy1.len]; omega)] at this
    exact Option.some.inj this
  rw [h31] at hcell
  subst hA
  clear hy1 hb1 h31
  go_wp2_with fail
  refine (get_any 4 1 0 0 [] 0 ⟨#[]⟩ 0 ⟨#[]⟩ 0 [] 0 0 0 0 [] _ 33 c1 W1.heap.size W1 RecP.live_fits ⟨by decide, by decide⟩ ⟨⟨by decide, by decide⟩, ⟨by decide, by decide⟩, ⟨by decide, by decide⟩, ⟨by decide, by decide⟩, ⟨by decide, by decide⟩⟩ (by show 0 ≤ maxLen; unfold maxLen; omega) (by show 0 ≤ maxLen; unfold maxLen; omega) (by rw [List.append_nil]; exact HY1.out) (Nat.le_refl _)).mono ?_
  rintro e W2 ⟨A2, c2, Ap, np, cp, rfl, -, -, hb2⟩
  rw [RecP.bytes_length _ RecP.live_fits, RecP.live_len]
  have HB2 := Lib.hid (bstep HB1.out hb2)
  have hsz2 := hb2.size
  have hbw : b < W2.heap.size := by omega
  replace hcell := (hb2.cell (p := ⟨b, o + 1, none⟩) hbb).trans hcell
  have hv : byteV 31 = .int .u8 31 := rfl
  rw [hv] at hcell
  clear hb2 hv
  go_wp2_with fail
  refine (code_any _ _).mono ?_
  rintro e w' ⟨rfl, rfl⟩
  go_wp2
  go_ret
  exact ⟨rfl, balloc HB2.out _⟩
end RecW
end Go.Proofs.Ytiokcemlfdonnaa
end
section
namespace Go.Proofs.Ytiokcemlfdonnaa.WalW
open Go.RowKit RecW
set_option linter.unusedVariables false
set_option linter.unusedSimpArgs false
theorem grown_none {w w' : World} (h : Below w.heap.size w w') : w.grownBy w' none := ⟨h.os, h.tape, h.output, h.size, fun k hk _ => h.block k hk⟩
/-- an iterator that hands out nothing -/
theorem seq_none {P : Program} {g : Nat} {lb : Array Value} {n : Nat} {w : World} (h : ∀ (l : Nat) (W : World), Below w.heap.size w W → Calls P g (#[.func (.yield l) #[] #[]] ++ lb) W fun e W' => (∃ v, e = .returned v) ∧ Below W.heap.size W W') (k : Nat) :
    SeqStopsK Fence.wide n P g lb (fun _ : Empty => Array.replicate k undef) (fun _ _ => True) (fun _ => True) (fun _ => False) 0 w := by
  intro l J Jx W hW hJ _ _ h0
  refine (callsIn_wide.2 (h l W hW)).mono ?_
  rintro e W' ⟨hv, hb⟩
  exact ⟨hv, .inl ⟨[], trivial, hJ [] W W' none h0 (grown_none hb) (by simp)⟩⟩
set_option maxRecDepth 100000 in
set_option maxHeartbeats 1000000 in
theorem all1_nil (l b : Nat) (W : World) (hc : W.cell? ⟨b, 0, none⟩ = some (.pointer none)) :
    Calls Try.prog 63 #[.func (.yield l) #[] #[], .pointer (some ⟨b, 0, none⟩)] W fun e W' => (∃ v, e = .returned v) ∧ Below W.heap.size W W' := by
  go_enter Try.func63, Try.ntmps63
  go_wp2
  exact bodyPost_ret (results_none rfl _ _ _) rfl ⟨⟨_, rfl⟩, bsame W⟩
set_option maxRecDepth 100000 in
set_option maxHeartbeats 1000000 in
theorem records_any (A : Option Addr) (n c : Nat) (w : World) : Calls Try.prog 60 #[.slice A n c] w fun e w' => e = .returned (.func (.func 101) #[] #[.pointer (some ⟨w.heap.size, 0, none⟩)]) ∧ w.alloc (.cells #[.slice A n c] 23) = w' := by
  go_enter Try.func60, Try.ntmps60
  go_wp2
  go_ret
  exact ⟨rfl, rfl⟩
set_option maxRecDepth 100000 in
set_option maxHeartbeats 4000000 in
theorem records1_none (l b c : Nat) (A : Option Addr) (W : World) (hlt : b < W.heap.size) (hc : W.cell? ⟨b, 0, none⟩ = some (.slice A 0 c)) (hy : Bytes W W.heap.size A 0 c []) :
    Calls Try.prog 101 #[.func (.yield l) #[] #[], .pointer (some ⟨b, 0, none⟩)] W fun e W' => (∃ v, e = .returned v) ∧ Below W.heap.size W W' := by
  have HY := Lib.hid hy
  clear hy
  go_enter Try.func101, Try.ntmps101
  go_wp2
  go_loopw [5] (fun _ wr => wr = W) (fun _ _ => 0)
  case atStart => exact rfl
  case round =>
    subst hrel
    go_wp2_with fail
    refine (get_short [] A 0 c _ _ HY.out (Nat.le_refl _) (.inl (by omega))).mono ?_
    rintro e W3 ⟨rfl, hb3⟩
    have HB3 := Lib.hid hb3
    have hw3 := hb3.size
    clear hb3
    obtain ⟨W4, hW4⟩ : ∃ W, W3.alloc (.cells #[.int .i64 0, .int .i64 0, .int .i64 0, .int .i64 0, .slice none 0 0, .int .i64 0, .string ⟨#[]⟩, .int .i64 0, .string ⟨#[]⟩, .int .i64 0, .slice none 0 0, .int .i64 0, .int .i64 0, .int .i64 0, .int .i64 0] 31) = W := ⟨_, rfl⟩
    obtain ⟨HS4, HB4, hw4, hz4⟩ := new1 hW4
    have hl4 := HS4.out.lt
    have g4 := str15 HS4.out
    have gf := fun j => HS4.out.frozen j
    obtain ⟨W8, hW8⟩ : ∃ W, (((((((((((((((W4).setCell ⟨W3.heap.size, 0, none⟩ (.int .i64 0)).setCell ⟨W3.heap.size, 1, none⟩ (.int .i64 0)).setCell ⟨W3.heap.size, 2, none⟩ (.int .i64 0)).setCell ⟨W3.heap.size, 3, none⟩ (.int .i64 0)).setCell ⟨W3.heap.size, 4, none⟩ (.slice none 0 0)).setCell ⟨W3.heap.size, 5, none⟩ (.int .i64 0)).setCell ⟨W3.heap.size, 6, none⟩ (.string ⟨#[]⟩)).setCell ⟨W3.heap.size, 7, none⟩ (.int .i64 0)).setCell ⟨W3.heap.size, 8, none⟩ (.string ⟨#[]⟩)).setCell ⟨W3.heap.size, 9, none⟩ (.int .i64 0)).setCell ⟨W3.heap.size, 10, none⟩ (.slice none 0 0)).setCell ⟨W3.heap.size, 11, none⟩ (.int .i64 0)).setCell ⟨W3.heap.size, 12, none⟩ (.int .i64 0)).setCell ⟨W3.heap.size, 13, none⟩ (.int .i64 0)).setCell ⟨W3.heap.size, 14, none⟩ (.int .i64 0) = W := ⟨_, rfl⟩
    have hg8 : W4.grownBy W8 (some W3.heap.size) := by rw [← hW8]; exact grown_set (grown_set (grown_set (grown_set (grown_set (grown_set (grown_set (grown_set (grown_set (grown_set (grown_set (grown_set (grown_set (grown_set (grown_set (grown_refl W4 _) 0 _) 1 _) 2 _) 3 _) 4 _) 5 _) 6 _) 7 _) 8 _) 9 _) 10 _) 11 _) 12 _) 13 _) 14 _
    have HB8 := Lib.hid (below_grown (bstep HB3.out HB4.out) hg8 hw3)
    clear hg8 hz4
    go_wp2
    exact bodyPost_ret (results_none rfl _ _ _) rfl ⟨⟨_, rfl⟩, HB8.out⟩
end Go.Proofs.Ytiokcemlfdonnaa.WalW
end
section
namespace Go.Proofs.Ytiokcemlfdonnaa.CloneW
open Go.RowKit
theorem eql_nil (w : World) (a : Option Addr) (l c : Nat) : (binOp .eql 23 (.slice a l c) (.slice none 0 0)).run Try.prog w = .ok (.bool a.isNone) w := Lib.run_eql_slice_nil w _ _ a l c 0 0 Try.underlying23
/-- the call hands back bytes of its own -/
def GivesOwn (w : World) (l : List UInt8) (e : Ending) (w' : World) : Prop := ∃ A n c gb, e = .returned (.slice A n c) ∧ OwnS w' gb A n c l ∧ (∀ g, gb = some g → w.heap.size ≤ g) ∧ Below w.heap.size w w'
section
attribute [local go_sem ↓] app_fold
set_option maxRecDepth 100000 in
set_option maxHeartbeats 400000 in
theorem clone_own (A : Option Addr) (n c B : Nat) (l : List UInt8) (w : World) (h : Bytes w B A n c l) (hB : B ≤ w.heap.size) (hn : n ≤ 140737488355328) :
    Calls Try.prog 74 #[.slice A n c] w (GivesOwn w l) := by
  cases A with
  | none =>
    have h0 : n = 0 := by
      rcases Nat.eq_zero_or_pos n with h0 | h0
      · exact h0
      · obtain ⟨b, o, e, -⟩ := h.2.2.2 h0
        cases e
    have hl : l = [] := List.eq_nil_of_length_eq_zero (by rw [h.1, h0])
    subst hl
    subst h0
    clear h
    have heq := eql_nil w none 0 c
    go_enter Try.func74, Try.ntmps74
    go_wp2
    go_ret
    exact ⟨none, 0, 0, none, rfl, OwnS.none_ _, by simp, bsame w⟩
  | some a =>
    have hb1 : Below w.heap.size w (w.alloc (.cells #[] 5)) := balloc (bsame w) _
    have hO1 : OwnS (w.alloc (.cells #[] 5)) none (some ⟨w.heap.size, 0, none⟩) 0 0 [] := ⟨rfl, Nat.le_refl _, by unfold maxLen; omega, .inl ⟨rfl, rfl⟩⟩
    obtain ⟨A3, c3, w3, gb3, happ3, hO3, hg3, hgb⟩ := hO1.app (P := Try.prog) 23 23 5 Try.underlying23 Be.infoU8 (h.alloc hB (.cells #[] 5)) (by omega)
    simp only [Nat.zero_add, List.nil_append] at happ3 hO3
    have HB : Hid (Below w.heap.size w w3) := Lib.hid (hb1.trans (⟨hg3.os, hg3.tape, hg3.output, hg3.size, fun k hk => hg3.block k (by have := hb1.size; omega) (by simp)⟩ : Below w.heap.size _ _))
    have HO := Lib.hid hO3
    have HG : Hid (∀ g, gb3 = some g → w.heap.size ≤ g) := Lib.hid (fun g e => by
      rcases hgb with e1 | e1
      · rw [e1] at e; cases e
      · rw [e1] at e; cases e; exact hb1.size)
    clear h hO3 hb1 hO1 hg3 hgb
    have heq := eql_nil w (some a) n c
    go_enter Try.func74, Try.ntmps74
    go_wp2
    go_ret
    exact ⟨A3, n, c3, gb3, rfl, HO.out, HG.out, HB.out⟩
end
end Go.Proofs.Ytiokcemlfdonnaa.CloneW
end
section
namespace Go.Proofs.Ytiokcemlfdonnaa.DevW
open Go.RowKit Go.Maps
set_option linter.unusedVariables false
set_option linter.unusedSimpArgs false
variable {d sb mb : Nat} {bp bs : List Nat} {gb : Option Nat} {A : Option Addr} {n c nm : Nat} {es : List (Int × SlV)} {X : DevX}
attribute [local go_sem ↓] cut_fold alJob_fold bdJob_fold stJob_fold
set_option maxRecDepth 100000 in
set_option maxHeartbeats 1000000 in
theorem Log_any (w : World) (hD : Dev w d bs X) (hs : DevP.Small X) : Calls Try.prog 61 #[.pointer (some ⟨d, 0, none⟩)] w (CloneW.GivesOwn w X.log) := by
  obtain ⟨sb, mb, bp, gb, A, n, c, nm, es, hI, hbs⟩ := hD
  have f1 := str10 hI.box
  have hl := hI.box.lt
  have hn := hI.log.len
  have hs2 := hs.2.1
  have hh := hI.ok.h0
  have HY := Lib.hid hI.log.bytes
  have hn3 : n ≤ 140737488355328 := by omega
  clear hI hs hn hs2
  go_enter Try.func61, Try.ntmps61
  go_wp2_with fail
  refine (CloneW.clone_own A n c w.heap.size X.log w HY.out (Nat.le_refl _) hn3).mono ?_
  rintro e W4 ⟨A5, n5, c5, gb5, rfl, h⟩
  have H := Lib.hid h
  clear h
  go_wp2
  go_ret
  exact ⟨A5, n5, c5, gb5, rfl, H.out⟩
end Go.Proofs.Ytiokcemlfdonnaa.DevW
end
section
namespace Go.Proofs.Ytiokcemlfdonnaa.DevW
open Go.RowKit Go.Maps
set_option linter.unusedVariables false
set_option linter.unusedSimpArgs false
variable {d sb mb : Nat} {bp bs : List Nat} {gb : Option Nat} {A : Option Addr} {n c nm : Nat} {es : List (Int × SlV)} {X : DevX}
attribute [local go_sem ↓] ldPage_fold stPage_fold bdPage_fold alPage_fold alJob_fold bdJob_fold stJob_fold
theorem Ent.look {w : World} {k : Nat} {s : SlV} {N : Nat} {now : List (List UInt8)} {ops : Nat} (h : Ent w N now ops ((k : Int), s)) : ∃ ps q, s.A = some ⟨blk s, 0, none⟩ ∧ Pgs 136 w (blk s) s.n s.c ps ∧ 1 ≤ s.n ∧ ps[s.n - 1]? = some q ∧ now[k]? = some q := by
  obtain ⟨ps, h1, h2, h3, h4⟩ := h.pg
  have hl := h2.len
  have hp : 0 < ps.length := List.length_pos_iff.2 h3
  dsimp only at h1 h2 h4 hl
  obtain ⟨q, hq⟩ : ∃ q, ps.getLast? = some q := ⟨_, List.getLast?_eq_some_getLast h3⟩
  refine ⟨ps, q, h1, h2, by omega, ?_, ?_⟩
  · rw [← hl, ← List.getLast?_eq_getElem?]
    exact hq
  · rw [← hq, h4]
    simp
end Go.Proofs.Ytiokcemlfdonnaa.DevW
end
section
namespace Go.Proofs.Ytiokcemlfdonnaa.DevW
open Go.RowKit Go.Maps
set_option linter.unusedVariables false
set_option linter.unusedSimpArgs false
variable {d sb mb : Nat} {bp bs : List Nat} {gb : Option Nat} {A : Option Addr} {n c nm : Nat} {es : List (Int × SlV)} {X : DevX}
attribute [local go_sem ↓] ldPage_fold stPage_fold bdPage_fold alPage_fold alJob_fold bdJob_fold stJob_fold
end Go.Proofs.Ytiokcemlfdonnaa.DevW
end
section
namespace Go.Proofs.Ytiokcemlfdonnaa.DevW
open Go.RowKit Go.Maps
set_option linter.unusedVariables false
set_option linter.unusedSimpArgs false
/-- how many pages a device has -/
def _root_.Go.Proofs.Ytiokcemlfdonnaa.DevP.many (n : Int) : Nat := (min (max n 1) 1024).toNat
/-- the call hands back a new device -/
def GivesDev (w : World) (X : DevX) (e : Ending) (w' : World) : Prop := ∃ d bs, e = .returned (.pointer (some ⟨d, 0, none⟩)) ∧ Dev w' d bs X ∧ (∀ b ∈ bs, w.heap.size ≤ b) ∧ Below w.heap.size w w'
theorem new_in (N : Nat) (h1 : 1 ≤ N) (h2 : N ≤ 1024) (w w1 : World) (hz : w1.heap.size = w.heap.size + 1) (hb : Below w.heap.size w w1) (hO : OwnE PageE 136 w1 w.heap.size (some ⟨w.heap.size, 0, none⟩) N N (List.replicate N (SlotP.zeros 512))) (T : TypeId) :
    GivesDev w (DevP.new N) (.returned (.pointer (some ⟨w1.heap.size + 1, 0, none⟩))) ((w1.alloc (.map #[] 0)).alloc (.cells (devC N w.heap.size w1.heap.size none 0 0 (DevP.new N)) T)) := by
  have hm := MapM.made (P := Try.prog) (S := intK) (E := slE) (kt := 3) w1
  have hb1 : Below w1.heap.size w1 (w1.alloc (.map #[] 0)) := balloc (bsame w1) _
  have hs1 : (w1.alloc (.map #[] 0)).heap.size = w1.heap.size + 1 := by simp
  have hb2 : Below (w1.alloc (.map #[] 0)).heap.size (w1.alloc (.map #[] 0)) ((w1.alloc (.map #[] 0)).alloc (.cells (devC N w.heap.size w1.heap.size none 0 0 (DevP.new N)) T)) := balloc (bsame _) _
  have hlen : (List.replicate N (SlotP.zeros 512)).length = N := List.length_replicate
  have hrow : Pgs 136 w1 w.heap.size N N (List.replicate N (SlotP.zeros 512)) := hO.less (Nat.zero_le _)
  refine ⟨w1.heap.size + 1, [w1.heap.size + 1, w.heap.size, w1.heap.size], rfl, ⟨w.heap.size, w1.heap.size, [w.heap.size, w1.heap.size], none, none, 0, 0, 0, [], ⟨?_, ⟨?_, hm.at_ (hb2.block _ (by omega)), fun p hp => absurd hp List.not_mem_nil, fun k hk h => rfl, rfl, by simp; omega, Nat.zero_le _⟩, OwnS.none_ _, by simp; omega, DevP.ok_new h1 h2⟩, rfl⟩, ?_, (hb.trans (hb1.mono (by omega))).trans (hb2.mono (by omega))⟩
  · have := Str.new (w1.alloc (.map #[] 0)) (devC N w.heap.size w1.heap.size none 0 0 (DevP.new N)) T
    rw [hs1] at this
    show Str _ _ (devC (List.replicate N (SlotP.zeros 512)).length _ _ _ _ _ _)
    rw [hlen]
    exact this
  · show Pgs _ _ _ (List.replicate N (SlotP.zeros 512)).length (List.replicate N (SlotP.zeros 512)).length _
    rw [hlen]
    exact hrow.at_ ((hb2.block _ (by omega)).trans (hb1.block _ (by omega)))
  · intro b hb
    simp only [List.mem_cons, List.not_mem_nil, or_false] at hb
    omega
theorem make_pages (N : Nat) (h2 : N ≤ 1024) (w : World) : ∃ w1, (Instr.makeSlice 131 (.int .i64 (N : Int)) (.int .i64 (N : Int))).run Try.prog w = .ok (.slice (some ⟨w.heap.size, 0, none⟩) N N) w1 ∧ OwnE PageE 136 w1 w.heap.size (some ⟨w.heap.size, 0, none⟩) N N (List.replicate N (SlotP.zeros 512)) ∧ Below w.heap.size w w1 ∧ w1.heap.size = w.heap.size + 1 := by
  obtain ⟨i0, hi0, iz0, iz1, iz2⟩ := info_parts infoP
  exact own_made (E := PageE) (P := Try.prog) 131 i0 _ ((SlotP.zeros 512).map byteV) (SlotP.zeros 512) Try.underlying131 hi0 iz0 iz1 (by rw [← rowV_zeros]; rfl) (fun _ _ => ⟨rfl, List.length_replicate⟩) N (by rw [iz2]; omega) (by omega) w
set_option maxRecDepth 100000 in
set_option maxHeartbeats 1000000 in
theorem new_low (n : Int) (hn : n < 1) (w : World) : Calls Try.prog 55 #[.int .i64 n] w (GivesDev w (DevP.new 1)) := by
  obtain ⟨w1, hr, hO, hb, hz⟩ := make_pages 1 (by omega) w
  have hmm := @run_makeMap Try.prog
  have HF := Lib.hid (new_in 1 (by omega) (by omega) w w1 hz hb hO 134)
  clear hO hb hz
  simp only [Int.natCast_one] at hr
  go_enter Try.func55, Try.ntmps55
  go_wp2
  go_ret
  exact HF.out
set_option maxRecDepth 100000 in
set_option maxHeartbeats 1000000 in
theorem new_high (n : Int) (hn : 1024 < n) (w : World) : Calls Try.prog 55 #[.int .i64 n] w (GivesDev w (DevP.new 1024)) := by
  obtain ⟨w1, hr, hO, hb, hz⟩ := make_pages 1024 (by omega) w
  have hmm := @run_makeMap Try.prog
  have HF := Lib.hid (new_in 1024 (by omega) (by omega) w w1 hz hb hO 134)
  clear hO hb hz
  have hr2 : (Instr.makeSlice 131 (.int .i64 1024) (.int .i64 1024)).run Try.prog w = .ok (.slice (some ⟨w.heap.size, 0, none⟩) 1024 1024) w1 := hr
  clear hr
  go_enter Try.func55, Try.ntmps55
  go_wp2
  go_ret
  exact HF.out
set_option maxRecDepth 100000 in
set_option maxHeartbeats 1000000 in
theorem new_mid (n : Int) (N : Nat) (hn : n = (N : Int)) (h1 : 1 ≤ N) (h2 : N ≤ 1024) (w : World) : Calls Try.prog 55 #[.int .i64 n] w (GivesDev w (DevP.new N)) := by
  obtain ⟨w1, hr, hO, hb, hz⟩ := make_pages N (by omega) w
  have hmm := @run_makeMap Try.prog
  have HF := Lib.hid (new_in N (by omega) (by omega) w w1 hz hb hO 134)
  clear hO hb hz
  subst hn
  go_enter Try.func55, Try.ntmps55
  go_wp2
  go_ret
  exact HF.out
theorem new_any (n : Int) (w : World) : Calls Try.prog 55 #[.int .i64 n] w (GivesDev w (DevP.new (DevP.many n))) := by
  unfold DevP.many
  by_cases h1 : n < 1
  · rw [show (min (max n 1) 1024).toNat = 1 by omega]
    exact new_low n h1 w
  · by_cases h2 : 1024 < n
    · rw [show (min (max n 1) 1024).toNat = 1024 by omega]
      exact new_high n h2 w
    · exact new_mid n _ (by omega) (by omega) (by omega) w
section
attribute [local go_sem ↓] ldPage_fold stPage_fold bdPage_fold alPage_fold
end
end Go.Proofs.Ytiokcemlfdonnaa.DevW
end
