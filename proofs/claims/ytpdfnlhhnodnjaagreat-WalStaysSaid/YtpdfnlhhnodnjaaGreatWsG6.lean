/-
  Parts of the proof of WalStays.
-/
import Derived.Test.YtpdfnlhhnodnjaaGreatWsG3
import Derived.Test.YtpdfnlhhnodnjaaGreatWsG4
import Derived.Test.YtpdfnlhhnodnjaaGreatWsG5
import Derived.Test.YtpdfnlhhnodnjaaGreatWsG0
import Derived.Test.YtpdfnlhhnodnjaaGreatWsG1
import Derived.Deep.AppendSrc
import Derived.Deep.Upon
import Derived.Deep.MidRow
section
namespace Go.Proofs.YtpdfnlhhnodnjaaGreat.RecW
open Go.RowKit
set_option linter.unusedVariables false
set_option linter.unusedSimpArgs false
theorem str15 {w : World} {b : Nat} {c0 c1 c2 c3 c4 c5 c6 c7 c8 c9 d0 d1 d2 d3 d4 : Value} (h : Str w b #[c0, c1, c2, c3, c4, c5, c6, c7, c8, c9, d0, d1, d2, d3, d4]) :
    w.cell? ⟨b, 0, none⟩ = some c0 ∧ w.cell? ⟨b, 1, none⟩ = some c1 ∧ w.cell? ⟨b, 2, none⟩ = some c2 ∧ w.cell? ⟨b, 3, none⟩ = some c3 ∧ w.cell? ⟨b, 4, none⟩ = some c4 ∧ w.cell? ⟨b, 5, none⟩ = some c5 ∧ w.cell? ⟨b, 6, none⟩ = some c6 ∧ w.cell? ⟨b, 7, none⟩ = some c7 ∧ w.cell? ⟨b, 8, none⟩ = some c8 ∧ w.cell? ⟨b, 9, none⟩ = some c9 ∧ w.cell? ⟨b, 10, none⟩ = some d0 ∧ w.cell? ⟨b, 11, none⟩ = some d1 ∧ w.cell? ⟨b, 12, none⟩ = some d2 ∧ w.cell? ⟨b, 13, none⟩ = some d3 ∧ w.cell? ⟨b, 14, none⟩ = some d4 :=
  ⟨h.cell 0, h.cell 1, h.cell 2, h.cell 3, h.cell 4, h.cell 5, h.cell 6, h.cell 7, h.cell 8, h.cell 9, h.cell 10, h.cell 11, h.cell 12, h.cell 13, h.cell 14⟩
theorem same_zero (u : Undo) : UndoP.same u ⟨0, ⟨#[]⟩, ⟨0, ⟨#[]⟩, ⟨0, [], 0, 0, 0⟩⟩, 0⟩ = UndoP.same u UndoP.none := rfl
set_option maxRecDepth 100000 in
set_option maxHeartbeats 1000000 in
theorem may_any (m a : Int) (b : Bool) (hb : b = true ↔ RecP.May m a) (w : World) : Calls Tryz.prog 59 #[.int .i64 m, .int .i64 a] w fun e w' => e = .returned (.bool b) ∧ w = w' := by
  unfold RecP.May at hb
  by_cases h1 : a ≤ m
  · have d1 : decide (a ≤ m) = true := by simpa using h1
    by_cases h2 : m ≤ 281474976710656
    · have d2 : decide (m ≤ 281474976710656) = true := by simpa using h2
      have e : b = true := hb.2 ⟨h1, h2⟩
      subst e
      clear hb h1 h2
      go_enter Tryz.func59, Tryz.ntmps59
      go_wp2
      go_ret
      exact ⟨rfl, rfl⟩
    · have d2 : decide (m ≤ 281474976710656) = false := by simpa using h2
      have e : b = false := by cases b with | false => rfl | true => exact absurd (hb.1 rfl).2 h2
      subst e
      clear hb h1 h2
      go_enter Tryz.func59, Tryz.ntmps59
      go_wp2
      go_ret
      exact ⟨rfl, rfl⟩
  · have d1 : decide (a ≤ m) = false := by simpa using h1
    have e : b = false := by cases b with | false => rfl | true => exact absurd (hb.1 rfl).1 h1
    subst e
    clear hb h1
    go_enter Tryz.func59, Tryz.ntmps59
    go_wp2
    go_ret
    exact ⟨rfl, rfl⟩
set_option maxRecDepth 100000 in
set_option maxHeartbeats 4000000 in
theorem check_any (kd tx pv nx : Int) (A : Option Addr) (n c B : Nat) (l : List PatchX) (pact : Int) (puk : ByteArray) (Ap : Option Addr) (np cp Bp : Nat) (pst : Int) (pk : ByteArray) (pkd : Int) (pda : List UInt8) (plo phi pva : Int) (pun : Int) (w : World) (hE : Elems PatchE w B A n c l) (hB : B ≤ w.heap.size) (hp : Bytes w Bp Ap np cp pda) (hBp : Bp ≤ w.heap.size) (hpk : pk.size ≤ maxLen) (hpuk : puk.size ≤ maxLen) :
    Calls Tryz.prog 39 #[.agg #[.int .i64 kd, .int .i64 tx, .int .i64 pv, .int .i64 nx, .slice A n c, .int .i64 pact, .string puk, .int .i64 pst, .string pk, .int .i64 pkd, .slice Ap np cp, .int .i64 plo, .int .i64 phi, .int .i64 pva, .int .i64 pun]] w fun e w' => e = .returned (.int .i64 (PatchW.code (RecP.right ⟨kd, tx, pv, nx, l, ⟨pact, puk, ⟨pst, pk, ⟨pkd, pda, plo, phi, pva⟩⟩, pun⟩⟩))) ∧ Below w.heap.size w w' := by
  have HE := Lib.hid hE
  have HP := Lib.hid hp
  have hlen := hE.len
  have hcap := hE.cap
  have hcm := hcap.2
  unfold maxLen at hcm
  have HPK := Lib.hid (And.intro hpk hpuk)
  have HLEN := Lib.hid hlen
  clear hE hp hpk hpuk
  obtain ⟨W0, hW0⟩ : ∃ W, w.alloc (.cells #[.int .i64 kd, .int .i64 tx, .int .i64 pv, .int .i64 nx, .slice A n c, .int .i64 pact, .string puk, .int .i64 pst, .string pk, .int .i64 pkd, .slice Ap np cp, .int .i64 plo, .int .i64 phi, .int .i64 pva, .int .i64 pun] 40) = W := ⟨_, rfl⟩
  obtain ⟨HS0, HB0, hw0, hz0⟩ := new1 hW0
  have g0 := str15 HS0.out
  have hl0 := HS0.out.lt
  clear hz0
  by_cases c0 : kd < 1
  · have d0 : decide (kd < 1) = true := by simp; omega
    have HR := Lib.hid (RecP.right_no ⟨kd, tx, pv, nx, l, ⟨pact, puk, ⟨pst, pk, ⟨pkd, pda, plo, phi, pva⟩⟩, pun⟩⟩ (fun h => by obtain ⟨⟨⟨h1, h2⟩, h3, h4, h5⟩, -⟩ := h; dsimp only at h1 h2 h3 h4 h5; omega))
    go_enter Tryz.func39, Tryz.ntmps39
    go_wp2_with fail
    go_ret
    exact ⟨by rw [HR.out]; rfl, HB0.out⟩
  have d0 : decide (kd < 1) = false := by simp; omega
  by_cases c1 : 4 < kd
  · have d1 : decide (4 < kd) = true := by simp; omega
    have HR := Lib.hid (RecP.right_no ⟨kd, tx, pv, nx, l, ⟨pact, puk, ⟨pst, pk, ⟨pkd, pda, plo, phi, pva⟩⟩, pun⟩⟩ (fun h => by obtain ⟨⟨⟨h1, h2⟩, h3, h4, h5⟩, -⟩ := h; dsimp only at h1 h2 h3 h4 h5; omega))
    go_enter Tryz.func39, Tryz.ntmps39
    go_wp2_with fail
    go_ret
    exact ⟨by rw [HR.out]; rfl, HB0.out⟩
  have d1 : decide (4 < kd) = false := by simp; omega
  by_cases c2 : ¬ RecP.May tx 1
  · have HR := Lib.hid (RecP.right_no ⟨kd, tx, pv, nx, l, ⟨pact, puk, ⟨pst, pk, ⟨pkd, pda, plo, phi, pva⟩⟩, pun⟩⟩ (fun h => by obtain ⟨⟨⟨h1, h2⟩, h3, h4, h5⟩, -⟩ := h; dsimp only at h1 h2 h3 h4 h5; exact c2 h3))
    unfold RecP.May at *
    go_enter Tryz.func39, Tryz.ntmps39
    go_wp2_with fail
    refine (may_any tx 1 false (by unfold RecP.May; simp; omega) _).mono ?_
    rintro e w' ⟨rfl, rfl⟩
    go_wp2_with fail
    go_ret
    exact ⟨by rw [HR.out]; rfl, HB0.out⟩
  by_cases c3 : ¬ RecP.May pv 0
  · have HR := Lib.hid (RecP.right_no ⟨kd, tx, pv, nx, l, ⟨pact, puk, ⟨pst, pk, ⟨pkd, pda, plo, phi, pva⟩⟩, pun⟩⟩ (fun h => by obtain ⟨⟨⟨h1, h2⟩, h3, h4, h5⟩, -⟩ := h; dsimp only at h1 h2 h3 h4 h5; exact c3 h4))
    unfold RecP.May at *
    go_enter Tryz.func39, Tryz.ntmps39
    go_wp2_with fail
    refine (may_any tx 1 true (by simp only [true_iff]; unfold RecP.May; omega) _).mono ?_
    rintro e w' ⟨rfl, rfl⟩
    go_wp2_with fail
    refine (may_any pv 0 false (by unfold RecP.May; simp; omega) _).mono ?_
    rintro e w' ⟨rfl, rfl⟩
    go_wp2_with fail
    go_ret
    exact ⟨by rw [HR.out]; rfl, HB0.out⟩
  by_cases c4 : ¬ RecP.May nx 0
  · have HR := Lib.hid (RecP.right_no ⟨kd, tx, pv, nx, l, ⟨pact, puk, ⟨pst, pk, ⟨pkd, pda, plo, phi, pva⟩⟩, pun⟩⟩ (fun h => by obtain ⟨⟨⟨h1, h2⟩, h3, h4, h5⟩, -⟩ := h; dsimp only at h1 h2 h3 h4 h5; exact c4 h5))
    unfold RecP.May at *
    go_enter Tryz.func39, Tryz.ntmps39
    go_wp2_with fail
    refine (may_any tx 1 true (by simp only [true_iff]; unfold RecP.May; omega) _).mono ?_
    rintro e w' ⟨rfl, rfl⟩
    go_wp2_with fail
    refine (may_any pv 0 true (by simp only [true_iff]; unfold RecP.May; omega) _).mono ?_
    rintro e w' ⟨rfl, rfl⟩
    go_wp2_with fail
    refine (may_any nx 0 false (by unfold RecP.May; simp; omega) _).mono ?_
    rintro e w' ⟨rfl, rfl⟩
    go_wp2_with fail
    go_ret
    exact ⟨by rw [HR.out]; rfl, HB0.out⟩
  unfold RecP.May at c2 c3 c4
  by_cases c5 : 4 < n
  · have d5 : decide (4 < (n : Int)) = true := by simp; omega
    have HR := Lib.hid (RecP.right_no ⟨kd, tx, pv, nx, l, ⟨pact, puk, ⟨pst, pk, ⟨pkd, pda, plo, phi, pva⟩⟩, pun⟩⟩ (fun h => by have := h.2.1; dsimp only at this; omega))
    go_enter Tryz.func39, Tryz.ntmps39
    go_wp2_with fail
    refine (may_any tx 1 true (by simp only [true_iff]; unfold RecP.May; omega) _).mono ?_
    rintro e w' ⟨rfl, rfl⟩
    go_wp2_with fail
    refine (may_any pv 0 true (by simp only [true_iff]; unfold RecP.May; omega) _).mono ?_
    rintro e w' ⟨rfl, rfl⟩
    go_wp2_with fail
    refine (may_any nx 0 true (by simp only [true_iff]; unfold RecP.May; omega) _).mono ?_
    rintro e w' ⟨rfl, rfl⟩
    go_wp2_with fail
    go_ret
    exact ⟨by rw [HR.out]; rfl, HB0.out⟩
  have d5 : decide (4 < (n : Int)) = false := by simp; omega
  cases hu : UndoP.right ⟨pact, puk, ⟨pst, pk, ⟨pkd, pda, plo, phi, pva⟩⟩, pun⟩ with
  | false =>
    have HR := Lib.hid (RecP.right_no ⟨kd, tx, pv, nx, l, ⟨pact, puk, ⟨pst, pk, ⟨pkd, pda, plo, phi, pva⟩⟩, pun⟩⟩ (fun h => by have := h.2.2.1; dsimp only at this; rw [hu] at this; cases this))
    go_enter Tryz.func39, Tryz.ntmps39
    go_wp2_with fail
    refine (may_any tx 1 true (by simp only [true_iff]; unfold RecP.May; omega) _).mono ?_
    rintro e w' ⟨rfl, rfl⟩
    go_wp2_with fail
    refine (may_any pv 0 true (by simp only [true_iff]; unfold RecP.May; omega) _).mono ?_
    rintro e w' ⟨rfl, rfl⟩
    go_wp2_with fail
    refine (may_any nx 0 true (by simp only [true_iff]; unfold RecP.May; omega) _).mono ?_
    rintro e w' ⟨rfl, rfl⟩
    go_wp2_with fail
    refine (UndoW.check_any pact puk Ap np cp Bp pst pk pkd pda plo phi pva pun W0 (HP.out.below (HB0.out.mono hBp)) (by omega) HPK.out.1 HPK.out.2).mono ?_
    rintro e W1 ⟨rfl, hb1⟩
    have HS1 := Lib.hid (HS0.out.next hb1)
    have HB1 := Lib.hid (bstep HB0.out hb1)
    clear hb1 g0 hl0 HS0 HB0
    have g0 := str15 HS1.out
    have hl0 := HS1.out.lt
    have hw1 := HB1.out.size
    have hcode : CellP.code false = 1 := rfl
    rw [hu, hcode]
    clear hu
    go_wp2
    go_ret
    exact ⟨by rw [HR.out]; rfl, HB1.out⟩
  | true =>
    have HU := Lib.hid hu
    have hcode : CellP.code true = 0 := rfl
    go_enter Tryz.func39, Tryz.ntmps39
    go_wp2_with fail
    refine (may_any tx 1 true (by simp only [true_iff]; unfold RecP.May; omega) _).mono ?_
    rintro e w' ⟨rfl, rfl⟩
    go_wp2_with fail
    refine (may_any pv 0 true (by simp only [true_iff]; unfold RecP.May; omega) _).mono ?_
    rintro e w' ⟨rfl, rfl⟩
    go_wp2_with fail
    refine (may_any nx 0 true (by simp only [true_iff]; unfold RecP.May; omega) _).mono ?_
    rintro e w' ⟨rfl, rfl⟩
    go_wp2_with fail
    refine (UndoW.check_any pact puk Ap np cp Bp pst pk pkd pda plo phi pva pun W0 (HP.out.below (HB0.out.mono hBp)) (by omega) HPK.out.1 HPK.out.2).mono ?_
    rintro e W1 ⟨rfl, hb1⟩
    have HS1 := Lib.hid (HS0.out.next hb1)
    have HB1 := Lib.hid (bstep HB0.out hb1)
    clear hb1 g0 hl0 HS0 HB0
    have g0 := str15 HS1.out
    have hl0 := HS1.out.lt
    have hw1 := HB1.out.size
    rw [hu, hcode]
    clear hu hcode
    go_wp2
    go_loopw [44] (fun iv wr => ∃ k : Nat, k ≤ n ∧ iv = .int .i64 (k : Int) ∧ Hid (RecP.Pats l k) ∧ Hid (Below w.heap.size w wr) ∧ Hid (Str wr w.heap.size #[.int .i64 kd, .int .i64 tx, .int .i64 pv, .int .i64 nx, .slice A n c, .int .i64 pact, .string puk, .int .i64 pst, .string pk, .int .i64 pkd, .slice Ap np cp, .int .i64 plo, .int .i64 phi, .int .i64 pva, .int .i64 pun])) (fun iv _ => n - (intOf iv).toNat)
    case atStart => exact ⟨0, Nat.zero_le _, rfl, Lib.hid (RecP.pats_zero l), HB1, HS1⟩
    case round =>
      obtain ⟨k, hk, rfl, HK, HB, HS⟩ := hrel
      clear g0 hl0 HB1 HS1 hw1
      have hwr := HB.out.size
      have g0 := str15 HS.out
      have hl0 := HS.out.lt
      by_cases hlt : k < n
      · have hd : decide ((k : Int) < (n : Int)) = true := by simp; omega
        obtain ⟨b, o, x, A2, n2, c2, rfl, hb, hx, hy, hi, q0, q1, q2⟩ := patch_at HE.out hlt
        replace q0 := (HB.out.cell (p := ⟨b, o + k * 3, none⟩) (by show b < _; omega)).trans q0
        replace q1 := (HB.out.cell (p := ⟨b, o + k * 3 + 1, none⟩) (by show b < _; omega)).trans q1
        replace q2 := (HB.out.cell (p := ⟨b, o + k * 3 + 2, none⟩) (by show b < _; omega)).trans q2
        have HX := Lib.hid hx
        have HY := Lib.hid hy
        clear hx hy
        go_wp2_with fail
        generalize hW2 : wr.alloc (.cells #[.int .i64 x.page, .bool x.fresh, .slice A2 n2 c2] 68) = W2
        obtain ⟨HS2, HB2, hw2, hz2⟩ := new1 hW2
        have HB' := Lib.hid (bstep HB.out HB2.out)
        refine (PatchW.check_any x A2 n2 c2 B W2 (HY.out.below (HB'.out.mono hB)) (by omega) hi).mono ?_
        rintro e W3 ⟨rfl, hb3⟩
        have HB3 := Lib.hid (bstep HB'.out hb3)
        have HS3 := Lib.hid ((HS.out.next HB2.out).next hb3)
        clear hW2 hb3 HS2 HB2 HB' HS hz2 hw2 q0 q1 q2 g0 hl0 HB
        have g0 := str15 HS3.out
        have hl0 := HS3.out.lt
        cases hpr : PatchP.right x with
        | false =>
          have hcode : PatchW.code false = 1 := rfl
          have HR := Lib.hid (RecP.pats_bad (x := ⟨kd, tx, pv, nx, l, ⟨pact, puk, ⟨pst, pk, ⟨pkd, pda, plo, phi, pva⟩⟩, pun⟩⟩) HX.out hpr)
          rw [hcode]
          clear hpr hcode
          go_wp2
          go_ret
          exact ⟨by rw [HR.out]; rfl, HB3.out⟩
        | true =>
          have hcode : PatchW.code true = 0 := rfl
          have HK2 := Lib.hid (RecP.pats_step HK.out HX.out ((PatchP.right_iff x).1 hpr))
          rw [hcode]
          clear hpr hcode
          go_wp2
          go_roundw
          case rel => exact ⟨k + 1, by omega, by go_num, HK2, HB3, HS3⟩
          case measure => simp [intOf]; omega
      · have hd : decide ((k : Int) < (n : Int)) = false := by simp; omega
        have hkn : k = n := by omega
        subst hkn
        have HGOOD : Hid (RecP.Rest ⟨kd, tx, pv, nx, l, ⟨pact, puk, ⟨pst, pk, ⟨pkd, pda, plo, phi, pva⟩⟩, pun⟩⟩ → RecP.right ⟨kd, tx, pv, nx, l, ⟨pact, puk, ⟨pst, pk, ⟨pkd, pda, plo, phi, pva⟩⟩, pun⟩⟩ = true) := Lib.hid (fun h => RecP.right_yes _ ⟨⟨⟨by show 1 ≤ kd; omega, by show kd ≤ 4; omega⟩, ⟨by show 1 ≤ tx; omega, by show tx ≤ _; omega⟩, ⟨by show 0 ≤ pv; omega, by show pv ≤ _; omega⟩, ⟨by show 0 ≤ nx; omega, by show nx ≤ _; omega⟩⟩, by show l.length ≤ 4; rw [HLEN.out]; omega, HU.out, by show RecP.Pats l l.length; rw [HLEN.out]; exact HK.out, h⟩)
        have HBAD : Hid (¬ RecP.Rest ⟨kd, tx, pv, nx, l, ⟨pact, puk, ⟨pst, pk, ⟨pkd, pda, plo, phi, pva⟩⟩, pun⟩⟩ → RecP.right ⟨kd, tx, pv, nx, l, ⟨pact, puk, ⟨pst, pk, ⟨pkd, pda, plo, phi, pva⟩⟩, pun⟩⟩ = false) := Lib.hid (fun h => RecP.right_no _ (fun hr => h hr.2.2.2.2))
        have HACT := Lib.hid (RecP.act_zero _ HU.out)
        have h14 : kd = 1 ∨ kd = 2 ∨ kd = 3 ∨ kd = 4 := by omega
        clear hlt hd
        rcases h14 with rfl | rfl | rfl | rfl
        · by_cases hnx : nx = 0
          · subst hnx
            have HR := Lib.hid (HGOOD.out ⟨fun h => by rfl, fun h => by exact absurd rfl h, fun h => by (have h9 : (3 : Int) ≤ 1 := h); omega⟩)
            go_wp2
            go_ret
            exact ⟨by rw [HR.out]; rfl, HB.out⟩
          · have hd1 : (nx != 0) = true := by simpa using hnx
            have HR := Lib.hid (HBAD.out (fun h => hnx (h.1 (by show (1 : Int) ≠ 2; decide))))
            go_wp2
            go_ret
            exact ⟨by rw [HR.out]; rfl, HB.out⟩
        · go_wp2_with fail
          refine (UndoW.same_any pact puk Ap np cp Bp pst pk pkd pda plo phi pva pun 0 ⟨#[]⟩ none 0 0 0 0 ⟨#[]⟩ 0 [] 0 0 0 0 wr (HP.out.below (HB.out.mono hBp)) (by omega) (Bytes.none_ _ _) (Nat.zero_le _)).mono ?_
          rintro e W4 ⟨rfl, hb4⟩
          rw [same_zero, HACT.out]
          have HS4 := Lib.hid (HS.out.next hb4)
          have HB4 := Lib.hid (bstep HB.out hb4)
          clear hb4 g0 hl0
          have g0 := str15 HS4.out
          have hl0 := HS4.out.lt
          by_cases ha : pact = 0
          · have hd1 : decide (pact = 0) = true := by simpa using ha
            have HR := Lib.hid (HGOOD.out ⟨fun h => by exact absurd rfl h, fun h => by exact ha, fun h => by (have h9 : (3 : Int) ≤ 2 := h); omega⟩)
            rw [hd1]
            clear hd1
            go_wp2
            go_ret
            exact ⟨by rw [HR.out]; rfl, HB4.out⟩
          · have hd1 : decide (pact = 0) = false := by simpa using ha
            have HR := Lib.hid (HBAD.out (fun h => ha (h.2.1 (by show (2 : Int) ≠ 1; decide))))
            rw [hd1]
            clear hd1
            go_wp2
            go_ret
            exact ⟨by rw [HR.out]; rfl, HB4.out⟩
        · by_cases hnx : nx = 0
          · subst hnx
            go_wp2_with fail
            refine (UndoW.same_any pact puk Ap np cp Bp pst pk pkd pda plo phi pva pun 0 ⟨#[]⟩ none 0 0 0 0 ⟨#[]⟩ 0 [] 0 0 0 0 wr (HP.out.below (HB.out.mono hBp)) (by omega) (Bytes.none_ _ _) (Nat.zero_le _)).mono ?_
            rintro e W4 ⟨rfl, hb4⟩
            rw [same_zero, HACT.out]
            have HS4 := Lib.hid (HS.out.next hb4)
            have HB4 := Lib.hid (bstep HB.out hb4)
            clear hb4 g0 hl0
            have g0 := str15 HS4.out
            have hl0 := HS4.out.lt
            by_cases ha : pact = 0
            · have hd1 : decide (pact = 0) = true := by simpa using ha
              by_cases hn0 : k = 0
              · have hd2 : decide (0 < (k : Int)) = false := by simp; omega
                have HR := Lib.hid (HGOOD.out ⟨fun h => by rfl, fun h => by exact ha, fun h => by show l.length = 0; rw [HLEN.out]; exact hn0⟩)
                rw [hd1]
                clear hd1
                go_wp2
                go_ret
                exact ⟨by rw [HR.out]; rfl, HB4.out⟩
              · have hd2 : decide (0 < (k : Int)) = true := by simp; omega
                have HR := Lib.hid (HBAD.out (fun h => hn0 (by have h5 := h.2.2 (by show (3 : Int) ≤ 3; decide); dsimp only at h5; rw [HLEN.out] at h5; exact h5)))
                rw [hd1]
                clear hd1
                go_wp2
                go_ret
                exact ⟨by rw [HR.out]; rfl, HB4.out⟩
            · have hd1 : decide (pact = 0) = false := by simpa using ha
              have HR := Lib.hid (HBAD.out (fun h => ha (h.2.1 (by show (3 : Int) ≠ 1; decide))))
              rw [hd1]
              clear hd1
              go_wp2
              go_ret
              exact ⟨by rw [HR.out]; rfl, HB4.out⟩
          · have hd1 : (nx != 0) = true := by simpa using hnx
            have HR := Lib.hid (HBAD.out (fun h => hnx (h.1 (by show (3 : Int) ≠ 2; decide))))
            go_wp2
            go_ret
            exact ⟨by rw [HR.out]; rfl, HB.out⟩
        · by_cases hnx : nx = 0
          · subst hnx
            go_wp2_with fail
            refine (UndoW.same_any pact puk Ap np cp Bp pst pk pkd pda plo phi pva pun 0 ⟨#[]⟩ none 0 0 0 0 ⟨#[]⟩ 0 [] 0 0 0 0 wr (HP.out.below (HB.out.mono hBp)) (by omega) (Bytes.none_ _ _) (Nat.zero_le _)).mono ?_
            rintro e W4 ⟨rfl, hb4⟩
            rw [same_zero, HACT.out]
            have HS4 := Lib.hid (HS.out.next hb4)
            have HB4 := Lib.hid (bstep HB.out hb4)
            clear hb4 g0 hl0
            have g0 := str15 HS4.out
            have hl0 := HS4.out.lt
            by_cases ha : pact = 0
            · have hd1 : decide (pact = 0) = true := by simpa using ha
              by_cases hn0 : k = 0
              · have hd2 : decide (0 < (k : Int)) = false := by simp; omega
                have HR := Lib.hid (HGOOD.out ⟨fun h => by rfl, fun h => by exact ha, fun h => by show l.length = 0; rw [HLEN.out]; exact hn0⟩)
                rw [hd1]
                clear hd1
                go_wp2
                go_ret
                exact ⟨by rw [HR.out]; rfl, HB4.out⟩
              · have hd2 : decide (0 < (k : Int)) = true := by simp; omega
                have HR := Lib.hid (HBAD.out (fun h => hn0 (by have h5 := h.2.2 (by show (3 : Int) ≤ 4; decide); dsimp only at h5; rw [HLEN.out] at h5; exact h5)))
                rw [hd1]
                clear hd1
                go_wp2
                go_ret
                exact ⟨by rw [HR.out]; rfl, HB4.out⟩
            · have hd1 : decide (pact = 0) = false := by simpa using ha
              have HR := Lib.hid (HBAD.out (fun h => ha (h.2.1 (by show (4 : Int) ≠ 1; decide))))
              rw [hd1]
              clear hd1
              go_wp2
              go_ret
              exact ⟨by rw [HR.out]; rfl, HB4.out⟩
          · have hd1 : (nx != 0) = true := by simpa using hnx
            have HR := Lib.hid (HBAD.out (fun h => hnx (h.1 (by show (4 : Int) ≠ 2; decide))))
            go_wp2
            go_ret
            exact ⟨by rw [HR.out]; rfl, HB.out⟩
end Go.Proofs.YtpdfnlhhnodnjaaGreat.RecW
namespace Go.Proofs.YtpdfnlhhnodnjaaGreat.RefRec
open Go.RowKit RecW
set_option linter.unusedVariables false
set_option linter.unusedSimpArgs false
end Go.Proofs.YtpdfnlhhnodnjaaGreat.RefRec
end
section
namespace Go.Proofs.YtpdfnlhhnodnjaaGreat
open Go.RowKit
set_option linter.unusedVariables false
theorem splice_cons (cur : List Value) (o : Nat) (v : Value) (r : List Value) (h : o < cur.length) : splice (cur.set o v) (o + 1) r = splice cur o (v :: r) := by
  have e : (cur.set o v).take (o + 1) = cur.take o ++ [v] := by
    refine List.ext_getElem? fun j => ?_
    have hl : (cur.take o).length = o := by rw [List.length_take]; omega
    rcases Nat.lt_trichotomy j o with hj | rfl | hj
    · rw [List.getElem?_take_of_lt (by omega), List.getElem?_set_ne (by omega), List.getElem?_append_left (by omega), List.getElem?_take_of_lt hj]
    · rw [List.getElem?_take_of_lt (by omega), List.getElem?_set_self h, List.getElem?_append_right (by omega), hl]
      simp
    · rw [List.getElem?_eq_none (by simp; omega), List.getElem?_eq_none (by simp; omega)]
  unfold splice
  rw [e, List.drop_set_of_lt (by omega)]
  simp [Nat.add_assoc, Nat.add_comm 1]
theorem setCells_heap (b : Nat) : ∀ (vs : List Value) (o : Nat) (w : World) (cur : Array Value) (t : TypeId), w.heap[b]? = some (.cells cur t (0, 0)) → o + vs.length ≤ cur.size → (w.setCells b o vs).heap[b]? = some (.cells (splice cur.toList o vs).toArray t (0, 0))
  | [], o, w, cur, t, h, _ => by
    rw [World.setCells, h]
    simp [splice]
  | v :: r, o, w, cur, t, h, hl => by
    rw [World.setCells]
    have hl' : o + 1 + r.length ≤ cur.size := by simp at hl; omega
    have h1 : (w.setCell ⟨b, o, none⟩ v).heap[b]? = some (.cells (cur.setIfInBounds o v) t (0, 0)) := by simp [World.setCell, Array.getElem?_modify, h]
    rw [setCells_heap b r (o + 1) _ _ t h1 (by simpa using hl'), Array.toList_setIfInBounds, splice_cons _ _ _ _ (by simp at hl ⊢; omega)]
theorem grown_setCells (b : Nat) : ∀ (vs : List Value) (o : Nat) (w0 w : World), w0.grownBy w (some b) → w0.grownBy (w.setCells b o vs) (some b)
  | [], _, _, _, h => h
  | v :: r, o, w0, w, h => by
    rw [World.setCells]
    exact grown_setCells b r (o + 1) w0 _ (grown_set h o v)
theorem splice_get_in {cur vs : List Value} {o j : Nat} (h : o + vs.length ≤ cur.length) (hj : j < vs.length) : (splice cur o vs)[o + j]? = vs[j]? := by
  unfold splice
  have h0 : (cur.take o).length = o := by rw [List.length_take]; omega
  rw [List.getElem?_append_right (by omega), h0, List.getElem?_append_left (by omega)]
  congr 1
  omega
theorem splice_get_out {cur vs : List Value} {o j : Nat} (h : o + vs.length ≤ cur.length) (hj : j < o ∨ o + vs.length ≤ j) : (splice cur o vs)[j]? = cur[j]? := by
  unfold splice
  have h0 : (cur.take o).length = o := by rw [List.length_take]; omega
  rcases hj with hj | hj
  · rw [List.getElem?_append_left (by omega), List.getElem?_take_of_lt hj]
  · rw [List.getElem?_append_right (by omega), h0, List.getElem?_append_right (by omega), List.getElem?_drop]
    congr 1
    omega
theorem splice_len {cur vs : List Value} {o : Nat} (h : o + vs.length ≤ cur.length) : (splice cur o vs).length = cur.length := by
  unfold splice
  simp
  omega
/-- the block that such a slice lies in, if it has room -/
def OwnS (w : World) (gb : Option Nat) (A : Option Addr) (n c : Nat) (l : List UInt8) : Prop :=
  l.length = n ∧ n ≤ c ∧ c ≤ maxLen ∧ ((c = 0 ∧ gb = none) ∨ ∃ (g o : Nat) (cur : Array Value) (T : TypeId), gb = some g ∧ A = some ⟨g, o, none⟩ ∧ w.heap[g]? = some (.cells cur T (0, 0)) ∧ o + c ≤ cur.size ∧ ∀ (j : Nat) u, l[j]? = some u → cur[o + j]? = some (byteV u))
section
variable {w w' : World} {gb : Option Nat} {A : Option Addr} {n c : Nat} {l : List UInt8}
theorem OwnS.len (h : OwnS w gb A n c l) : l.length = n := h.1
theorem OwnS.none_ (w : World) : OwnS w none none 0 0 [] := ⟨rfl, Nat.le_refl _, by unfold maxLen; omega, .inl ⟨rfl, rfl⟩⟩
theorem OwnS.lt (h : OwnS w gb A n c l) : ∀ g, gb = some g → g < w.heap.size := by
  intro g hg
  obtain ⟨-, -, -, (⟨-, e⟩ | ⟨g', o, cur, T, e, -, hh, -⟩)⟩ := h
  · rw [e] at hg; cases hg
  · rw [e] at hg; cases hg; exact (Array.getElem?_eq_some_iff.1 hh).1
theorem OwnS.at_ (h : OwnS w gb A n c l) (hb : ∀ g, gb = some g → w'.heap[g]? = w.heap[g]?) : OwnS w' gb A n c l := by
  obtain ⟨h1, h2, h3, (h4 | ⟨g, o, cur, T, e, hA, hh, r⟩)⟩ := h
  · exact ⟨h1, h2, h3, .inl h4⟩
  · exact ⟨h1, h2, h3, .inr ⟨g, o, cur, T, e, hA, (hb g e).trans hh, r⟩⟩
theorem OwnS.next (h : OwnS w gb A n c l) (hb : Below w.heap.size w w') : OwnS w' gb A n c l := h.at_ fun g e => hb.block g (h.lt g e)
theorem OwnS.grown {g : Nat} (h : OwnS w gb A n c l) (hg : w.grownBy w' (some g)) (hne : gb ≠ some g) : OwnS w' gb A n c l := h.at_ fun k e => hg.block k (h.lt k e) (by rw [← e]; exact hne)
theorem OwnS.bytes (h : OwnS w gb A n c l) : Bytes w w.heap.size A n c l := by
  obtain ⟨h1, h2, h3, (⟨h4, -⟩ | ⟨g, o, cur, T, e, hA, hh, hs, hc⟩)⟩ := h
  · exact ⟨h1, h2, h3, fun hn => absurd hn (by omega)⟩
  · exact ⟨h1, h2, h3, fun _ => ⟨g, o, hA, (Array.getElem?_eq_some_iff.1 hh).1, fun j u hu => by rw [cell_of_row w g (o + j) cur T (0, 0) hh]; exact hc j u hu⟩⟩
/-- a part of it -/
theorem OwnS.cut (h : OwnS w gb A n c l) (lo hi m : Nat) (h1 : lo ≤ hi) (h2 : hi ≤ n) (h3 : hi ≤ m) (h4 : m ≤ c) : ∃ gb', OwnS w gb' (cutA A lo m 1) (hi - lo) (m - lo) ((l.drop lo).take (hi - lo)) ∧ (gb' = gb ∨ gb' = none) := by
  obtain ⟨hl, hc, hm, hx⟩ := h
  rcases hx with ⟨h0, e⟩ | ⟨g, o, cur, T, e, hA, hh, hs, hcell⟩
  · exact ⟨none, ⟨by simp; omega, by omega, by omega, .inl ⟨by omega, rfl⟩⟩, .inr rfl⟩
  · by_cases hml : m = lo
    · exact ⟨none, ⟨by simp; omega, by omega, by omega, .inl ⟨by omega, rfl⟩⟩, .inr rfl⟩
    · refine ⟨gb, ⟨by simp; omega, by omega, by omega, .inr ⟨g, o + lo, cur, T, e, ?_, hh, by omega, fun j u hu => ?_⟩⟩, .inl rfl⟩
      · unfold cutA
        rw [if_neg hml, hA]
        simp [add_none]
      · rw [List.getElem?_take] at hu
        split at hu
        · rw [List.getElem?_drop] at hu
          rw [Nat.add_assoc]
          exact hcell _ u hu
        · cases hu
/-- bytes that a call has made -/
theorem OwnS.of_own {base : Nat} {T : TypeId} (h : w.ownsRow base T 1 (.slice A n c) n (l.map byteV)) : ∃ gb, OwnS w gb A n c l ∧ ∀ g, gb = some g → base ≤ g := by
  have hl := (Bytes.own h).len
  rcases h.2 with ⟨e, h0⟩ | ⟨g, cap, cur, e, hg, hh, hnc, hm, hsz, htk⟩
  · cases e
    exact ⟨none, ⟨by simpa using hl, Nat.le_refl _, by unfold maxLen; omega, .inl ⟨rfl, rfl⟩⟩, by simp⟩
  · cases e
    by_cases hc0 : c = 0
    · exact ⟨none, ⟨hl, hnc, hm, .inl ⟨hc0, rfl⟩⟩, by simp⟩
    · refine ⟨some g, ⟨hl, hnc, hm, .inr ⟨g, 0, cur, T, rfl, rfl, hh, by omega, fun j u hu => ?_⟩⟩, fun k hk => by cases hk; exact hg⟩
      have hj : j < n := by rw [← hl]; exact (List.getElem?_eq_some_iff.1 hu).1
      have hx := congrArg (·[j]?) htk
      simp only [List.getElem?_take, List.getElem?_map, hu, Option.map_some] at hx
      rw [if_pos (by omega)] at hx
      simpa using hx
/-- an append onto it, out of whatever bytes -/
theorem OwnS.app {P : Program} (t ty e : TypeId) (ht : P.underlying t = some (.slice e)) (hi : (P.info? e).map (fun i => (i.zero, i.size, i.bytes)) = some (some (.int .u8 0), 1, 1)) (h : OwnS w gb A n c l) {B m c2 : Nat} {A2 : Option Addr} {l2 : List UInt8} (h2 : Bytes w B A2 m c2 l2) (hn : n + m ≤ 140737488355328) :
    ∃ A' c' w' gb', (appSem #[t, t] ty #[.slice A n c, .slice A2 m c2]).run P w = .ok (.slice A' (n + m) c') w' ∧ OwnS w' gb' A' (n + m) c' (l ++ l2) ∧ w.grownBy w' gb ∧ (gb' = gb ∨ gb' = some w.heap.size) := by
  obtain ⟨i0, hi0, hz0, hz1, hz2⟩ := info_parts hi
  have hm2 := h2.len
  have hln := h.len
  have hsrc : Src P 1 t (.slice A2 m c2) m (l2.map byteV) w := by
    by_cases h0 : m = 0
    · subst h0
      have : l2 = [] := List.eq_nil_of_length_eq_zero hm2
      subst this
      cases A2 with
      | none => exact Src.ofNil w ht c2
      | some a => exact Src.ofSlice w ht a 0 c2 [] (by simp) (fun j u hu => by simp at hu) (fun u hu => by cases hu)
    · obtain ⟨ad, rfl, hc⟩ := h2.src (by simp; omega)
      exact Src.ofSlice w ht ad m c2 _ (by simp [hm2]) hc (byteV_one l2)
  obtain ⟨hl, hc, hm, hx⟩ := h
  unfold appSem
  by_cases hroom : n + m ≤ c
  · rcases hx with ⟨h0, e1⟩ | ⟨g, o, cur, T, e1, hA, hh, hs, hcell⟩
    · have e2 : m = 0 := by omega
      have e3 : n = 0 := by omega
      subst e2
      have : l2 = [] := List.eq_nil_of_length_eq_zero hm2
      subst this
      exact ⟨A, c, w, none, run_append_nothing w t t ty e i0 ht hi0 A n c hc _ (by rw [hz1]; exact hsrc), ⟨by simpa using hl, by omega, hm, .inl ⟨h0, rfl⟩⟩, by rw [e1]; exact World.grownBy.refl w _, .inl e1.symm⟩
    · subst hA
      have hcl : ∀ j, j < (l2.map byteV).length → o + n + j < cur.size := fun j hj => by simp at hj; omega
      have hr := run_append_room_src (P := P) w t t ty e i0 ht hi0 g o n c (.slice A2 m c2) m (l2.map byteV) (by rw [hz1]; exact hsrc) hroom
        (fun j hj => by rw [hz1, Nat.mul_one, cell_of_row w g _ cur T (0, 0) hh, Array.getElem?_eq_getElem (hcl j hj)]; rfl)
        (fun j hj => by simp [World.frozen?, hh])
      rw [hz1, Nat.mul_one] at hr
      have hfit : o + n + (l2.map byteV).length ≤ cur.size := by simp; omega
      refine ⟨some ⟨g, o, none⟩, c, _, gb, hr, ⟨by simp; omega, by omega, hm, .inr ⟨g, o, _, T, e1, rfl, setCells_heap g _ _ w cur T hh hfit, ?_, fun j u hu => ?_⟩⟩, by rw [e1]; exact grown_setCells g _ _ w w (World.grownBy.refl w _), .inl rfl⟩
      · rw [List.size_toArray, splice_len (by simpa using hfit)]
        simpa using hs
      · rw [List.getElem?_toArray]
        by_cases hj : j < n
        · rw [splice_get_out (by simpa using hfit) (.inl (by omega)), Array.getElem?_toList]
          exact hcell j u (by rw [List.getElem?_append_left (by omega)] at hu; exact hu)
        · rw [List.getElem?_append_right (by omega)] at hu
          have hj2 : j - l.length < l2.length := (List.getElem?_eq_some_iff.1 hu).1
          have := splice_get_in (cur := cur.toList) (vs := l2.map byteV) (o := o + n) (j := j - l.length) (by simpa using hfit) (by simpa using hj2)
          rw [show o + n + (j - l.length) = o + j by omega] at this
          rw [this, List.getElem?_map, hu]
          rfl
  · have hg : c < n + m := by omega
    have hold : (Builtin.firstCells i0.size n (.slice A n c)).run P w.drew = .ok (l.map byteV).toArray w.drew := by
      rw [hz1]
      rcases hx with ⟨h0, e1⟩ | ⟨g, o, cur, T, e1, hA, hh, hs, hcell⟩
      · have e3 : n = 0 := by omega
        subst e3
        have : l = [] := List.eq_nil_of_length_eq_zero hl
        subst this
        cases A with
        | none => exact run_firstCells_none w.drew 1 0 0 c
        | some a => exact run_firstCells_some w.drew 1 0 a 0 c [] (by simp) (fun j v hv => by simp at hv)
      · subst hA
        refine run_firstCells_some w.drew 1 n _ n c _ (by simp [hl]) (fun j v hv => ?_)
        rw [List.getElem?_map, Option.map_eq_some_iff] at hv
        obtain ⟨u, hu, rfl⟩ := hv
        rw [add_none]
        show w.cell? _ = _
        rw [cell_of_row w g _ cur T (0, 0) hh]
        exact hcell j u hu
    have hr := run_append_grow_src (P := P) w t t ty e i0 _ ht hi0 hz0 A n c (l.map byteV) hold (.slice A2 m c2) m (l2.map byteV) (by rw [hz1]; exact hsrc) hg (by omega) (growslice_fits hg (by rw [hz2]; omega))
    refine ⟨_, _, _, some w.heap.size, hr, ⟨by simp; omega, grownCap_ge _ _ _ _, grownCap_le_maxLen _ _ _ _ (by unfold maxLen; omega), .inr ⟨_, 0, _, e, rfl, rfl, heap_alloc_new w.drew _, ?_, fun j u hu => ?_⟩⟩, ?_, .inr rfl⟩
    · have := grownCap_ge w (n + m) c e
      simp only [Array.size_append, List.size_toArray, List.length_append, List.length_map, size_zeroCells, Value.cells]
      simp
      omega
    · rw [Nat.zero_add]
      have hj : j < (l ++ l2).length := (List.getElem?_eq_some_iff.1 hu).1
      rw [Array.getElem?_append_left (by simpa using hj), List.getElem?_toArray, ← List.map_append, List.getElem?_map, hu]
      rfl
    · exact ⟨rfl, rfl, rfl, by simp, fun k hk _ => Below.heap_alloc w.drew _ k hk⟩
end
end Go.Proofs.YtpdfnlhhnodnjaaGreat
end
section
namespace Go.Proofs.YtpdfnlhhnodnjaaGreat
open Go.RowKit
namespace Reg

/-- nothing below N turns -/
def extN (N : Nat) : Way := ⟨fun w w' => Below N w w', Below.refl N, fun _ _ _ h k => h.trans k, fun _ => ⟨rfl, rfl, rfl, Nat.le_refl _, fun _ _ => rfl⟩⟩

/-- a word on what has come up, the slots and the world -/
abbrev Word := Array Bool → Act → World → Prop
/-- what is to be shown of an operation, beside such a word -/
def OblJ {R : Way} (P : Program) (ops : Array Oper) (Q : Exit → Act → World → Prop) (T : List (SP R)) (J : Word) (a0 : Act) (W : World) (j : Nat) (o : Oper) (s : List (Tmp × Option Nat)) : Prop :=
  ∀ (listed : Array Bool) (a : Act) (w : World), R.rel W w → sights T a0 a w s → listed.size = ops.size → a.tmps.size = a0.tmps.size → listed.getD j true = false → (∀ i, waits ops j i = true → listed.getD i false = true) → J listed a w →
    (Region.wanted o (yielded ops a.tmps) = true → o.wp P a w (fun a' w' => Done T j o a w a' w' ∧ J (listed.setIfInBounds j true) a' w') Q) ∧
    (Region.wanted o (yielded ops a.tmps) = false → predAt T j undef w ∧ J (listed.setIfInBounds j true) (a.put o.dst undef) w)
def OblsJ {R : Way} (P : Program) (ops : Array Oper) (Q : Exit → Act → World → Prop) (T : List (SP R)) (J : Word) (a0 : Act) (W : World) : Nat → List Oper → List (List (Tmp × Option Nat)) → Prop
  | _, [], _ => True
  | j, o :: l, [] => OblJ P ops Q T J a0 W j o [] ∧ OblsJ P ops Q T J a0 W (j + 1) l []
  | j, o :: l, s :: L => OblJ P ops Q T J a0 W j o s ∧ OblsJ P ops Q T J a0 W (j + 1) l L

section
variable {R : Way} {P : Program} {ops : Array Oper} {Q : Exit → Act → World → Prop} {T : List (SP R)} {J : Word} {a0 a : Act} {W w : World}
theorem oblsJ_at : ∀ (l : List Oper) (k i : Nat) (o : Oper), OblsJ P ops Q T J a0 W k l (lookAll ops k l) → l[i]? = some o → OblJ P ops Q T J a0 W (k + i) o (look1 ops (k + i) o)
  | [], _, _, _, _, h => by simp at h
  | _ :: _, _, 0, _, hO, h => by
    simp at h
    subst h
    exact hO.1
  | _ :: l, k, i + 1, o, hO, h => by
    have := oblsJ_at l (k + 1) i o hO.2 (by simpa using h)
    rwa [show k + 1 + i = k + (i + 1) by omega] at this

theorem wpAny_J (hf : Form ops a0.tmps.size) (hobl : OblsJ P ops Q T J a0 W 0 ops.toList (lookAll ops 0 ops.toList)) (hfin : ∀ w' listed, R.rel W w' → (∀ i, i < ops.size → listed.getD i false = true) → Fin (fun a w => J listed a w → Q .normal a w) w' (ops.toList.map (·.dst)) T a0) :
    ∀ (fuel : Nat) (listed : Array Bool) (a : Act) (w : World), listed.toList.count false = fuel → Inv ops T a0 W listed a w → J listed a w → wpAny P .any ops Q fuel listed a w := by
  have hend : ∀ (listed : Array Bool) (a : Act) (w : World), Inv ops T a0 W listed a w → J listed a w → Region.ready .any ops listed = [] → Q .normal a w := by
    intro listed a w hI hJ hr
    have hall := all_listed hf hI.lsize hr
    have h1 := fin_of (fun a w => J listed a w → Q .normal a w) a ops.toList T a0 (hfin w listed hI.ext hall) (fun i o ho => by
      have ho' : ops[i]? = some o := by simpa using ho
      exact hI.vals i o ho' (hall i (Array.getElem?_eq_some_iff.1 ho').1))
    rw [foldl_put a ops.toList a0 hI.size.symm hI.defers.symm (fun t ht => (hI.other t fun i hi => by
      obtain ⟨o, ho, hd⟩ := writer_some hi
      exact absurd hd (ht o (by rw [Array.mem_toList_iff]; exact Array.mem_of_getElem? ho))).symm)] at h1
    exact h1 hJ
  intro fuel
  induction fuel with
  | zero =>
    intro listed a w hc hI hJ
    have hr : Region.ready .any ops listed = [] := by
      rw [List.eq_nil_iff_forall_not_mem]
      intro j hj
      have h1 := (mem_ready.1 hj).1
      rw [Array.getD_eq_getD_getElem?] at h1
      cases hx : listed[j]? with
      | none => rw [hx] at h1; cases h1
      | some b =>
        rw [hx] at h1
        have h2 : b = false := h1
        subst h2
        have h3 : false ∈ listed.toList := by rw [Array.mem_toList_iff]; exact Array.mem_of_getElem? hx
        have := List.count_pos_iff.2 h3
        omega
    exact ⟨hr, hend _ _ _ hI hJ hr⟩
  | succ fuel ih =>
    intro listed a w hc hI hJ
    refine ⟨hend _ _ _ hI hJ, fun j hj => ?_⟩
    obtain ⟨hun, o, ho, hall⟩ := mem_ready.1 hj
    have hO := oblsJ_at ops.toList 0 j o hobl (by simpa using ho)
    rw [Nat.zero_add] at hO
    obtain ⟨hy, hn⟩ := hO listed a w hI.ext (sights_mk j _ fun t ht => hI.sight hf ho hun hall ht) hI.lsize hI.size hun (fun i hi => by
      obtain ⟨o', ho', e, he, hb, rfl⟩ := waits_edge hi
      rw [ho] at ho'
      cases ho'
      exact hall e he hb) hJ
    have hcnt : (listed.setIfInBounds j true).toList.count false = fuel := by
      have hjl : j < listed.size := by rw [hI.lsize]; exact (Array.getElem?_eq_some_iff.1 ho).1
      have hx : listed.toList[j]? = some false := by
        rw [Array.getD_eq_getD_getElem?, Array.getElem?_eq_getElem hjl] at hun
        have h2 : listed[j] = false := hun
        simp [hjl, h2]
      have := count_set listed.toList j hx
      rw [Array.toList_setIfInBounds]
      omega
    unfold wpOp
    rw [ho]
    dsimp only
    split
    · rename_i hw
      exact .inl (Oper.wp_mono (fun a' w' ⟨⟨v, e, hz, hp, hb⟩, hJ'⟩ => by
        subst e
        exact ih _ _ _ hcnt (hI.step hf ho hun hall hp hz hb) hJ') (hy hw))
    · rename_i hw
      have h2 := hn (by simpa using hw)
      exact ih _ _ _ hcnt (hI.step hf ho hun hall h2.1 (fun _ => rfl) (R.refl w)) h2.2

end
section
variable {N : Nat} {Z : Array Value} {X : Tmp → Array Value} {K : List (Nat × Tmp × Nat)} {listed : Array Bool} {a : Act} {w w' : World} {j : Nat}
end
/-- what an operation leaves that turns nothing that is there -/
def DoneB {R : Way} (T : List (SP R)) (j : Nat) (o : Oper) (a : Act) (w : World) (a' : Act) (w' : World) : Prop := ∃ v, a' = a.put o.dst v ∧ (o.dst = none → v = undef) ∧ predAt T j v w' ∧ Below w.heap.size w w'
section
variable {N : Nat} {Z : Array Value} {X : Tmp → Array Value} {K : List (Nat × Tmp × Nat)} {P : Program} {ops : Array Oper} {Q : Exit → Act → World → Prop} {T : List (SP (extN N))} {a0 : Act} {W : World} {j : Nat} {o : Oper} {s : List (Tmp × Option Nat)}
theorem wp_eqvB {R : Way} {T : List (SP R)} {a : Act} {w : World} {c : Value} (hd : o.dst ≠ none) (h : (execOp a.eval o).run P w = .ok (.value c) w) (hT : predAt T j c w) : o.wp P a w (DoneB T j o a w) Q := by
  unfold Oper.wp
  rw [h]
  exact ⟨c, rfl, fun h => absurd h hd, hT, bsame w⟩
theorem free {p q : Prop} {a : Act} (hg : o.guard = none) (h : p) : (Region.wanted o (yielded ops a.tmps) = true → p) ∧ (Region.wanted o (yielded ops a.tmps) = false → q) :=
  ⟨fun _ => h, fun hw => by simp [Region.wanted, hg] at hw⟩
end
end Reg
end Go.Proofs.YtpdfnlhhnodnjaaGreat
end
