/-
  Parts of the proof of RecRows.
-/
import Derived.Test.YtiokcemlfdonnaaRecR5
import Derived.Test.YtiokcemlfdonnaaRecR6
import Derived.Test.YtiokcemlfdonnaaRecR7
import Derived.Test.YtiokcemlfdonnaaRecR9
section
namespace Go.Proofs.Ytiokcemlfdonnaa.RecW
open Go.RowKit
set_option linter.unusedVariables false
set_option linter.unusedSimpArgs false
theorem str15 {w : World} {b : Nat} {c0 c1 c2 c3 c4 c5 c6 c7 c8 c9 d0 d1 d2 d3 d4 : Value} (h : Str w b #[c0, c1, c2, c3, c4, c5, c6, c7, c8, c9, d0, d1, d2, d3, d4]) :
    w.cell? ⟨b, 0, none⟩ = some c0 ∧ w.cell? ⟨b, 1, none⟩ = some c1 ∧ w.cell? ⟨b, 2, none⟩ = some c2 ∧ w.cell? ⟨b, 3, none⟩ = some c3 ∧ w.cell? ⟨b, 4, none⟩ = some c4 ∧ w.cell? ⟨b, 5, none⟩ = some c5 ∧ w.cell? ⟨b, 6, none⟩ = some c6 ∧ w.cell? ⟨b, 7, none⟩ = some c7 ∧ w.cell? ⟨b, 8, none⟩ = some c8 ∧ w.cell? ⟨b, 9, none⟩ = some c9 ∧ w.cell? ⟨b, 10, none⟩ = some d0 ∧ w.cell? ⟨b, 11, none⟩ = some d1 ∧ w.cell? ⟨b, 12, none⟩ = some d2 ∧ w.cell? ⟨b, 13, none⟩ = some d3 ∧ w.cell? ⟨b, 14, none⟩ = some d4 :=
  ⟨h.cell 0, h.cell 1, h.cell 2, h.cell 3, h.cell 4, h.cell 5, h.cell 6, h.cell 7, h.cell 8, h.cell 9, h.cell 10, h.cell 11, h.cell 12, h.cell 13, h.cell 14⟩
theorem same_zero (u : Undo) : UndoP.same u ⟨0, ⟨#[]⟩, ⟨0, ⟨#[]⟩, ⟨0, [], 0, 0, 0⟩⟩, 0⟩ = UndoP.same u UndoP.none := rfl
set_option maxRecDepth 100000 in
set_option maxHeartbeats 1000000 in
theorem may_any (m a : Int) (b : Bool) (hb : b = true ↔ RecP.May m a) (w : World) : Calls Try.prog 37 #[.int .i64 m, .int .i64 a] w fun e w' => e = .returned (.bool b) ∧ w = w' := by
  unfold RecP.May at hb
  by_cases h1 : a ≤ m
  · have d1 : decide (a ≤ m) = true := by simpa using h1
    by_cases h2 : m ≤ 281474976710656
    · have d2 : decide (m ≤ 281474976710656) = true := by simpa using h2
      have e : b = true := hb.2 ⟨h1, h2⟩
      subst e
      clear hb h1 h2
      go_enter Try.func37, Try.ntmps37
      go_wp2
      go_ret
      exact ⟨rfl, rfl⟩
    · have d2 : decide (m ≤ 281474976710656) = false := by simpa using h2
      have e : b = false := by cases b with | false => rfl | true => exact absurd (hb.1 rfl).2 h2
      subst e
      clear hb h1 h2
      go_enter Try.func37, Try.ntmps37
      go_wp2
      go_ret
      exact ⟨rfl, rfl⟩
  · have d1 : decide (a ≤ m) = false := by simpa using h1
    have e : b = false := by cases b with | false => rfl | true => exact absurd (hb.1 rfl).1 h1
    subst e
    clear hb h1
    go_enter Try.func37, Try.ntmps37
    go_wp2
    go_ret
    exact ⟨rfl, rfl⟩
set_option maxRecDepth 100000 in
set_option maxHeartbeats 4000000 in
theorem check_any (kd tx pv nx : Int) (A : Option Addr) (n c B : Nat) (l : List PatchX) (pact : Int) (puk : ByteArray) (Ap : Option Addr) (np cp Bp : Nat) (pst : Int) (pk : ByteArray) (pkd : Int) (pda : List UInt8) (plo phi pva : Int) (pun : Int) (w : World) (hE : Elems PatchE w B A n c l) (hB : B ≤ w.heap.size) (hp : Bytes w Bp Ap np cp pda) (hBp : Bp ≤ w.heap.size) (hpk : pk.size ≤ maxLen) (hpuk : puk.size ≤ maxLen) :
    Calls Try.prog 11 #[.agg #[.int .i64 kd, .int .i64 tx, .int .i64 pv, .int .i64 nx, .slice A n c, .int .i64 pact, .string puk, .int .i64 pst, .string pk, .int .i64 pkd, .slice Ap np cp, .int .i64 plo, .int .i64 phi, .int .i64 pva, .int .i64 pun]] w fun e w' => e = .returned (.int .i64 (PatchW.code (RecP.right ⟨kd, tx, pv, nx, l, ⟨pact, puk, ⟨pst, pk, ⟨pkd, pda, plo, phi, pva⟩⟩, pun⟩⟩))) ∧ Below w.heap.size w w' := by
  have HE := Lib.hid hE
  have HP := Lib.hid hp
  have hlen := hE.len
  have hcap := hE.cap
  have hcm := hcap.2
  unfold maxLen at hcm
  have HPK := Lib.hid (And.intro hpk hpuk)
  have HLEN := Lib.hid hlen
  clear hE hp hpk hpuk
  obtain ⟨W0, hW0⟩ : ∃ W, w.alloc (.cells #[.int .i64 kd, .int .i64 tx, .int .i64 pv, .int .i64 nx, .slice A n c, .int .i64 pact, .string puk, .int .i64 pst, .string pk, .int .i64 pkd, .slice Ap np cp, .int .i64 plo, .int .i64 phi, .int .i64 pva, .int .i64 pun] 31) = W := ⟨_, rfl⟩
  obtain ⟨HS0, HB0, hw0, hz0⟩ := new1 hW0
  have g0 := str15 HS0.out
  have hl0 := HS0.out.lt
  clear hz0
  by_cases c0 : kd < 1
  · have d0 : decide (kd < 1) = true := by simp; omega
    have HR := Lib.hid (RecP.right_no ⟨kd, tx, pv, nx, l, ⟨pact, puk, ⟨pst, pk, ⟨pkd, pda, plo, phi, pva⟩⟩, pun⟩⟩ (fun h => by obtain ⟨⟨⟨h1, h2⟩, h3, h4, h5⟩, -⟩ := h; dsimp only at h1 h2 h3 h4 h5; omega))
    go_enter Try.func11, Try.ntmps11
    go_wp2_with fail
    go_ret
    exact ⟨by rw [HR.out]; rfl, HB0.out⟩
  have d0 : decide (kd < 1) = false := by simp; omega
  by_cases c1 : 4 < kd
  · have d1 : decide (4 < kd) = true := by simp; omega
    have HR := Lib.hid (RecP.right_no ⟨kd, tx, pv, nx, l, ⟨pact, puk, ⟨pst, pk, ⟨pkd, pda, plo, phi, pva⟩⟩, pun⟩⟩ (fun h => by obtain ⟨⟨⟨h1, h2⟩, h3, h4, h5⟩, -⟩ := h; dsimp only at h1 h2 h3 h4 h5; omega))
    go_enter Try.func11, Try.ntmps11
    go_wp2_with fail
    go_ret
    exact ⟨by rw [HR.out]; rfl, HB0.out⟩
  have d1 : decide (4 < kd) = false := by simp; omega
  by_cases c2 : ¬ RecP.May tx 1
  · have HR := Lib.hid (RecP.right_no ⟨kd, tx, pv, nx, l, ⟨pact, puk, ⟨pst, pk, ⟨pkd, pda, plo, phi, pva⟩⟩, pun⟩⟩ (fun h => by obtain ⟨⟨⟨h1, h2⟩, h3, h4, h5⟩, -⟩ := h; dsimp only at h1 h2 h3 h4 h5; exact c2 h3))
    unfold RecP.May at *
    go_enter Try.func11, Try.ntmps11
    go_wp2_with fail
    refine (may_any tx 1 false (by unfold RecP.May; simp; omega) _).mono ?_
    rintro e w' ⟨rfl, rfl⟩
    go_wp2_with fail
    go_ret
    exact ⟨by rw [HR.out]; rfl, HB0.out⟩
  by_cases c3 : ¬ RecP.May pv 0
  · have HR := Lib.hid (RecP.right_no ⟨kd, tx, pv, nx, l, ⟨pact, puk, ⟨pst, pk, ⟨pkd, pda, plo, phi, pva⟩⟩, pun⟩⟩ (fun h => by obtain ⟨⟨⟨h1, h2⟩, h3, h4, h5⟩, -⟩ := h; dsimp only at h1 h2 h3 h4 h5; exact c3 h4))
    unfold RecP.May at *
    go_enter Try.func11, Try.ntmps11
    go_wp2_with fail
    refine (may_any tx 1 true (by simp only [true_iff]; unfold RecP.May; omega) _).mono ?_
    rintro e w' ⟨rfl, rfl⟩
    go_wp2_with fail
    refine (may_any pv 0 false (by unfold RecP.May; simp; omega) _).mono ?_
    rintro e w' ⟨rfl, rfl⟩
    go_wp2_with fail
    go_ret
    exact ⟨by rw [HR.out]; rfl, HB0.out⟩
  by_cases c4 : ¬ RecP.May nx 0
  · have HR := Lib.hid (RecP.right_no ⟨kd, tx, pv, nx, l, ⟨pact, puk, ⟨pst, pk, ⟨pkd, pda, plo, phi, pva⟩⟩, pun⟩⟩ (fun h => by obtain ⟨⟨⟨h1, h2⟩, h3, h4, h5⟩, -⟩ := h; dsimp only at h1 h2 h3 h4 h5; exact c4 h5))
    unfold RecP.May at *
    go_enter Try.func11, Try.ntmps11
    go_wp2_with fail
    refine (may_any tx 1 true (by simp only [true_iff]; unfold RecP.May; omega) _).mono ?_
    rintro e w' ⟨rfl, rfl⟩
    go_wp2_with fail
    refine (may_any pv 0 true (by simp only [true_iff]; unfold RecP.May; omega) _).mono ?_
    rintro e w' ⟨rfl, rfl⟩
    go_wp2_with fail
    refine (may_any nx 0 false (by unfold RecP.May; simp; omega) _).mono ?_
    rintro e w' ⟨rfl, rfl⟩
    go_wp2_with fail
    go_ret
    exact ⟨by rw [HR.out]; rfl, HB0.out⟩
  unfold RecP.May at c2 c3 c4
  by_cases c5 : 4 < n
  · have d5 : decide (4 < (n : Int)) = true := by simp; omega
    have HR := Lib.hid (RecP.right_no ⟨kd, tx, pv, nx, l, ⟨pact, puk, ⟨pst, pk, ⟨pkd, pda, plo, phi, pva⟩⟩, pun⟩⟩ (fun h => by have := h.2.1; dsimp only at this; omega))
    go_enter Try.func11, Try.ntmps11
    go_wp2_with fail
    refine (may_any tx 1 true (by simp only [true_iff]; unfold RecP.May; omega) _).mono ?_
    rintro e w' ⟨rfl, rfl⟩
    go_wp2_with fail
    refine (may_any pv 0 true (by simp only [true_iff]; unfold RecP.May; omega) _).mono ?_
    rintro e w' ⟨rfl, rfl⟩
    go_wp2_with fail
    refine (may_any nx 0 true (by simp only [true_iff]; unfold RecP.May; omega) _).mono ?_
    rintro e w' ⟨rfl, rfl⟩
    go_wp2_with fail
    go_ret
    exact ⟨by rw [HR.out]; rfl, HB0.out⟩
  have d5 : decide (4 < (n : Int)) = false := by simp; omega
  cases hu : UndoP.right ⟨pact, puk, ⟨pst, pk, ⟨pkd, pda, plo, phi, pva⟩⟩, pun⟩ with
  | false =>
    have HR := Lib.hid (RecP.right_no ⟨kd, tx, pv, nx, l, ⟨pact, puk, ⟨pst, pk, ⟨pkd, pda, plo, phi, pva⟩⟩, pun⟩⟩ (fun h => by have := h.2.2.1; dsimp only at this; rw [hu] at this; cases this))
    go_enter Try.func11, Try.ntmps11
    go_wp2_with fail
    refine (may_any tx 1 true (by simp only [true_iff]; unfold RecP.May; omega) _).mono ?_
    rintro e w' ⟨rfl, rfl⟩
    go_wp2_with fail
    refine (may_any pv 0 true (by simp only [true_iff]; unfold RecP.May; omega) _).mono ?_
    rintro e w' ⟨rfl, rfl⟩
    go_wp2_with fail
    refine (may_any nx 0 true (by simp only [true_iff]; unfold RecP.May; omega) _).mono ?_
    rintro e w' ⟨rfl, rfl⟩
    go_wp2_with fail
    refine (UndoW.check_any pact puk Ap np cp Bp pst pk pkd pda plo phi pva pun W0 (HP.out.below (HB0.out.mono hBp)) (by omega) HPK.out.1 HPK.out.2).mono ?_
    rintro e W1 ⟨rfl, hb1⟩
    have HS1 := Lib.hid (HS0.out.next hb1)
    have HB1 := Lib.hid (bstep HB0.out hb1)
    clear hb1 g0 hl0 HS0 HB0
    have g0 := str15 HS1.out
    have hl0 := HS1.out.lt
    have hw1 := HB1.out.size
    have hcode : CellP.code false = 1 := rfl
    rw [hu, hcode]
    clear hu
    go_wp2
    go_ret
    exact ⟨by rw [HR.out]; rfl, HB1.out⟩
  | true =>
    have HU := Lib.hid hu
    have hcode : CellP.code true = 0 := rfl
    go_enter Try.func11, Try.ntmps11
    go_wp2_with fail
    refine (may_any tx 1 true (by simp only [true_iff]; unfold RecP.May; omega) _).mono ?_
    rintro e w' ⟨rfl, rfl⟩
    go_wp2_with fail
    refine (may_any pv 0 true (by simp only [true_iff]; unfold RecP.May; omega) _).mono ?_
    rintro e w' ⟨rfl, rfl⟩
    go_wp2_with fail
    refine (may_any nx 0 true (by simp only [true_iff]; unfold RecP.May; omega) _).mono ?_
    rintro e w' ⟨rfl, rfl⟩
    go_wp2_with fail
    refine (UndoW.check_any pact puk Ap np cp Bp pst pk pkd pda plo phi pva pun W0 (HP.out.below (HB0.out.mono hBp)) (by omega) HPK.out.1 HPK.out.2).mono ?_
    rintro e W1 ⟨rfl, hb1⟩
    have HS1 := Lib.hid (HS0.out.next hb1)
    have HB1 := Lib.hid (bstep HB0.out hb1)
    clear hb1 g0 hl0 HS0 HB0
    have g0 := str15 HS1.out
    have hl0 := HS1.out.lt
    have hw1 := HB1.out.size
    rw [hu, hcode]
    clear hu hcode
    go_wp2
    go_loopw [44] (fun iv wr => ∃ k : Nat, k ≤ n ∧ iv = .int .i64 (k : Int) ∧ Hid (RecP.Pats l k) ∧ Hid (Below w.heap.size w wr) ∧ Hid (Str wr w.heap.size #[.int .i64 kd, .int .i64 tx, .int .i64 pv, .int .i64 nx, .slice A n c, .int .i64 pact, .string puk, .int .i64 pst, .string pk, .int .i64 pkd, .slice Ap np cp, .int .i64 plo, .int .i64 phi, .int .i64 pva, .int .i64 pun])) (fun iv _ => n - (intOf iv).toNat)
    case atStart => exact ⟨0, Nat.zero_le _, rfl, Lib.hid (RecP.pats_zero l), HB1, HS1⟩
    case round =>
      obtain ⟨k, hk, rfl, HK, HB, HS⟩ := hrel
      clear g0 hl0 HB1 HS1 hw1
      have hwr := HB.out.size
      have g0 := str15 HS.out
      have hl0 := HS.out.lt
      by_cases hlt : k < n
      · have hd : decide ((k : Int) < (n : Int)) = true := by simp; omega
        obtain ⟨b, o, x, A2, n2, c2, rfl, hb, hx, hy, hi, q0, q1, q2⟩ := patch_at HE.out hlt
        replace q0 := (HB.out.cell (p := ⟨b, o + k * 3, none⟩) (by show b < _; omega)).trans q0
        replace q1 := (HB.out.cell (p := ⟨b, o + k * 3 + 1, none⟩) (by show b < _; omega)).trans q1
        replace q2 := (HB.out.cell (p := ⟨b, o + k * 3 + 2, none⟩) (by show b < _; omega)).trans q2
        have HX := Lib.hid hx
        have HY := Lib.hid hy
        clear hx hy
        go_wp2_with fail
        generalize hW2 : wr.alloc (.cells #[.int .i64 x.page, .bool x.fresh, .slice A2 n2 c2] 63) = W2
        obtain ⟨HS2, HB2, hw2, hz2⟩ := new1 hW2
        have HB' := Lib.hid (bstep HB.out HB2.out)
        refine (PatchW.check_any x A2 n2 c2 B W2 (HY.out.below (HB'.out.mono hB)) (by omega) hi).mono ?_
        rintro e W3 ⟨rfl, hb3⟩
        have HB3 := Lib.hid (bstep HB'.out hb3)
        have HS3 := Lib.hid ((HS.out.next HB2.out).next hb3)
        clear hW2 hb3 HS2 HB2 HB' HS hz2 hw2 q0 q1 q2 g0 hl0 HB
        have g0 := str15 HS3.out
        have hl0 := HS3.out.lt
        cases hpr : PatchP.right x with
        | false =>
          have hcode : PatchW.code false = 1 := rfl
          have HR := Lib.hid (RecP.pats_bad (x := ⟨kd, tx, pv, nx, l, ⟨pact, puk, ⟨pst, pk, ⟨pkd, pda, plo, phi, pva⟩⟩, pun⟩⟩) HX.out hpr)
          rw [hcode]
          clear hpr hcode
          go_wp2
          go_ret
          exact ⟨by rw [HR.out]; rfl, HB3.out⟩
        | true =>
          have hcode : PatchW.code true = 0 := rfl
          have HK2 := Lib.hid (RecP.pats_step HK.out HX.out ((PatchP.right_iff x).1 hpr))
          rw [hcode]
          clear hpr hcode
          go_wp2
          go_roundw
          case rel => exact ⟨k + 1, by omega, by go_num, HK2, HB3, HS3⟩
          case measure => simp [intOf]; omega
      · have hd : decide ((k : Int) < (n : Int)) = false := by simp; omega
        have hkn : k = n := by omega
        subst hkn
        have HGOOD : Hid (RecP.Rest ⟨kd, tx, pv, nx, l, ⟨pact, puk, ⟨pst, pk, ⟨pkd, pda, plo, phi, pva⟩⟩, pun⟩⟩ → RecP.right ⟨kd, tx, pv, nx, l, ⟨pact, puk, ⟨pst, pk, ⟨pkd, pda, plo, phi, pva⟩⟩, pun⟩⟩ = true) := Lib.hid (fun h => RecP.right_yes _ ⟨⟨⟨by show 1 ≤ kd; omega, by show kd ≤ 4; omega⟩, ⟨by show 1 ≤ tx; omega, by show tx ≤ _; omega⟩, ⟨by show 0 ≤ pv; omega, by show pv ≤ _; omega⟩, ⟨by show 0 ≤ nx; omega, by show nx ≤ _; omega⟩⟩, by show l.length ≤ 4; rw [HLEN.out]; omega, HU.out, by show RecP.Pats l l.length; rw [HLEN.out]; exact HK.out, h⟩)
        have HBAD : Hid (¬ RecP.Rest ⟨kd, tx, pv, nx, l, ⟨pact, puk, ⟨pst, pk, ⟨pkd, pda, plo, phi, pva⟩⟩, pun⟩⟩ → RecP.right ⟨kd, tx, pv, nx, l, ⟨pact, puk, ⟨pst, pk, ⟨pkd, pda, plo, phi, pva⟩⟩, pun⟩⟩ = false) := Lib.hid (fun h => RecP.right_no _ (fun hr => h hr.2.2.2.2))
        have HACT := Lib.hid (RecP.act_zero _ HU.out)
        have h14 : kd = 1 ∨ kd = 2 ∨ kd = 3 ∨ kd = 4 := by omega
        clear hlt hd
        rcases h14 with rfl | rfl | rfl | rfl
        · by_cases hnx : nx = 0
          · subst hnx
            have HR := Lib.hid (HGOOD.out ⟨fun h => by rfl, fun h => by exact absurd rfl h, fun h => by (have h9 : (3 : Int) ≤ 1 := h); omega⟩)
            go_wp2
            go_ret
            exact ⟨by rw [HR.out]; rfl, HB.out⟩
          · have hd1 : (nx != 0) = true := by simpa using hnx
            have HR := Lib.hid (HBAD.out (fun h => hnx (h.1 (by show (1 : Int) ≠ 2; decide))))
            go_wp2
            go_ret
            exact ⟨by rw [HR.out]; rfl, HB.out⟩
        · go_wp2_with fail
          refine (UndoW.same_any pact puk Ap np cp Bp pst pk pkd pda plo phi pva pun 0 ⟨#[]⟩ none 0 0 0 0 ⟨#[]⟩ 0 [] 0 0 0 0 wr (HP.out.below (HB.out.mono hBp)) (by omega) (Bytes.none_ _ _) (Nat.zero_le _)).mono ?_
          rintro e W4 ⟨rfl, hb4⟩
          rw [same_zero, HACT.out]
          have HS4 := Lib.hid (HS.out.next hb4)
          have HB4 := Lib.hid (bstep HB.out hb4)
          clear hb4 g0 hl0
          have g0 := str15 HS4.out
          have hl0 := HS4.out.lt
          by_cases ha : pact = 0
          · have hd1 : decide (pact = 0) = true := by simpa using ha
            have HR := Lib.hid (HGOOD.out ⟨fun h => by exact absurd rfl h, fun h => by exact ha, fun h => by (have h9 : (3 : Int) ≤ 2 := h); omega⟩)
            rw [hd1]
            clear hd1
            go_wp2
            go_ret
            exact ⟨by rw [HR.out]; rfl, HB4.out⟩
          · have hd1 : decide (pact = 0) = false := by simpa using ha
            have HR := Lib.hid (HBAD.out (fun h => ha (h.2.1 (by show (2 : Int) ≠ 1; decide))))
            rw [hd1]
            clear hd1
            go_wp2
            go_ret
            exact ⟨by rw [HR.out]; rfl, HB4.out⟩
        · by_cases hnx : nx = 0
          · subst hnx
            go_wp2_with fail
            refine (UndoW.same_any pact puk Ap np cp Bp pst pk pkd pda plo phi pva pun 0 ⟨#[]⟩ none 0 0 0 0 ⟨#[]⟩ 0 [] 0 0 0 0 wr (HP.out.below (HB.out.mono hBp)) (by omega) (Bytes.none_ _ _) (Nat.zero_le _)).mono ?_
            rintro e W4 ⟨rfl, hb4⟩
            rw [same_zero, HACT.out]
            have HS4 := Lib.hid (HS.out.next hb4)
            have HB4 := Lib.hid (bstep HB.out hb4)
            clear hb4 g0 hl0
            have g0 := str15 HS4.out
            have hl0 := HS4.out.lt
            by_cases ha : pact = 0
            · have hd1 : decide (pact = 0) = true := by simpa using ha
              by_cases hn0 : k = 0
              · have hd2 : decide (0 < (k : Int)) = false := by simp; omega
                have HR := Lib.hid (HGOOD.out ⟨fun h => by rfl, fun h => by exact ha, fun h => by show l.length = 0; rw [HLEN.out]; exact hn0⟩)
                rw [hd1]
                clear hd1
                go_wp2
                go_ret
                exact ⟨by rw [HR.out]; rfl, HB4.out⟩
              · have hd2 : decide (0 < (k : Int)) = true := by simp; omega
                have HR := Lib.hid (HBAD.out (fun h => hn0 (by have h5 := h.2.2 (by show (3 : Int) ≤ 3; decide); dsimp only at h5; rw [HLEN.out] at h5; exact h5)))
                rw [hd1]
                clear hd1
                go_wp2
                go_ret
                exact ⟨by rw [HR.out]; rfl, HB4.out⟩
            · have hd1 : decide (pact = 0) = false := by simpa using ha
              have HR := Lib.hid (HBAD.out (fun h => ha (h.2.1 (by show (3 : Int) ≠ 1; decide))))
              rw [hd1]
              clear hd1
              go_wp2
              go_ret
              exact ⟨by rw [HR.out]; rfl, HB4.out⟩
          · have hd1 : (nx != 0) = true := by simpa using hnx
            have HR := Lib.hid (HBAD.out (fun h => hnx (h.1 (by show (3 : Int) ≠ 2; decide))))
            go_wp2
            go_ret
            exact ⟨by rw [HR.out]; rfl, HB.out⟩
        · by_cases hnx : nx = 0
          · subst hnx
            go_wp2_with fail
            refine (UndoW.same_any pact puk Ap np cp Bp pst pk pkd pda plo phi pva pun 0 ⟨#[]⟩ none 0 0 0 0 ⟨#[]⟩ 0 [] 0 0 0 0 wr (HP.out.below (HB.out.mono hBp)) (by omega) (Bytes.none_ _ _) (Nat.zero_le _)).mono ?_
            rintro e W4 ⟨rfl, hb4⟩
            rw [same_zero, HACT.out]
            have HS4 := Lib.hid (HS.out.next hb4)
            have HB4 := Lib.hid (bstep HB.out hb4)
            clear hb4 g0 hl0
            have g0 := str15 HS4.out
            have hl0 := HS4.out.lt
            by_cases ha : pact = 0
            · have hd1 : decide (pact = 0) = true := by simpa using ha
              by_cases hn0 : k = 0
              · have hd2 : decide (0 < (k : Int)) = false := by simp; omega
                have HR := Lib.hid (HGOOD.out ⟨fun h => by rfl, fun h => by exact ha, fun h => by show l.length = 0; rw [HLEN.out]; exact hn0⟩)
                rw [hd1]
                clear hd1
                go_wp2
                go_ret
                exact ⟨by rw [HR.out]; rfl, HB4.out⟩
              · have hd2 : decide (0 < (k : Int)) = true := by simp; omega
                have HR := Lib.hid (HBAD.out (fun h => hn0 (by have h5 := h.2.2 (by show (3 : Int) ≤ 4; decide); dsimp only at h5; rw [HLEN.out] at h5; exact h5)))
                rw [hd1]
                clear hd1
                go_wp2
                go_ret
                exact ⟨by rw [HR.out]; rfl, HB4.out⟩
            · have hd1 : decide (pact = 0) = false := by simpa using ha
              have HR := Lib.hid (HBAD.out (fun h => ha (h.2.1 (by show (4 : Int) ≠ 1; decide))))
              rw [hd1]
              clear hd1
              go_wp2
              go_ret
              exact ⟨by rw [HR.out]; rfl, HB4.out⟩
          · have hd1 : (nx != 0) = true := by simpa using hnx
            have HR := Lib.hid (HBAD.out (fun h => hnx (h.1 (by show (4 : Int) ≠ 2; decide))))
            go_wp2
            go_ret
            exact ⟨by rw [HR.out]; rfl, HB.out⟩
end Go.Proofs.Ytiokcemlfdonnaa.RecW
namespace Go.Proofs.Ytiokcemlfdonnaa.RefRec
open Go.RowKit RecW
set_option linter.unusedVariables false
set_option linter.unusedSimpArgs false
set_option maxRecDepth 100000 in
set_option maxHeartbeats 4000000 in
theorem right_any (kd tx pv nx : Int) (A : Option Addr) (n c B : Nat) (l : List PatchX) (pact : Int) (puk : ByteArray) (Ap : Option Addr) (np cp Bp : Nat) (pst : Int) (pk : ByteArray) (pkd : Int) (pda : List UInt8) (plo phi pva : Int) (pun : Int) (w : World) (hE : Elems PatchE w B A n c l) (hB : B ≤ w.heap.size) (hp : Bytes w Bp Ap np cp pda) (hBp : Bp ≤ w.heap.size) (hpk : pk.size ≤ maxLen) (hpuk : puk.size ≤ maxLen) :
    Calls Try.prog 14 #[.agg #[.int .i64 kd, .int .i64 tx, .int .i64 pv, .int .i64 nx, .slice A n c, .int .i64 pact, .string puk, .int .i64 pst, .string pk, .int .i64 pkd, .slice Ap np cp, .int .i64 plo, .int .i64 phi, .int .i64 pva, .int .i64 pun]] w fun e w' => e = .returned (.bool (RecP.right ⟨kd, tx, pv, nx, l, ⟨pact, puk, ⟨pst, pk, ⟨pkd, pda, plo, phi, pva⟩⟩, pun⟩⟩)) ∧ Below w.heap.size w w' := by
  have HE := Lib.hid hE
  have HP := Lib.hid hp
  have hlen := hE.len
  have hcap := hE.cap
  have hcm := hcap.2
  unfold maxLen at hcm
  have HPK := Lib.hid (And.intro hpk hpuk)
  have HLEN := Lib.hid hlen
  clear hE hp hpk hpuk
  obtain ⟨W0, hW0⟩ : ∃ W, w.alloc (.cells #[.int .i64 kd, .int .i64 tx, .int .i64 pv, .int .i64 nx, .slice A n c, .int .i64 pact, .string puk, .int .i64 pst, .string pk, .int .i64 pkd, .slice Ap np cp, .int .i64 plo, .int .i64 phi, .int .i64 pva, .int .i64 pun] 31) = W := ⟨_, rfl⟩
  obtain ⟨HS0, HB0, hw0, hz0⟩ := new1 hW0
  have g0 := str15 HS0.out
  have hl0 := HS0.out.lt
  clear hz0
  by_cases c0 : kd < 1
  · have d0 : decide (kd < 1) = true := by simp; omega
    have HR := Lib.hid (RecP.right_no ⟨kd, tx, pv, nx, l, ⟨pact, puk, ⟨pst, pk, ⟨pkd, pda, plo, phi, pva⟩⟩, pun⟩⟩ (fun h => by obtain ⟨⟨⟨h1, h2⟩, h3, h4, h5⟩, -⟩ := h; unfold RecP.May at h3 h4 h5; dsimp only at h1 h2 h3 h4 h5; omega))
    go_enter Try.func14, Try.ntmps14
    go_wp2
    go_ret
    exact ⟨by rw [HR.out]; rfl, HB0.out⟩
  have d0 : decide (kd < 1) = false := by simp; omega
  by_cases c1 : 4 < kd
  · have d1 : decide (4 < kd) = true := by simp; omega
    have HR := Lib.hid (RecP.right_no ⟨kd, tx, pv, nx, l, ⟨pact, puk, ⟨pst, pk, ⟨pkd, pda, plo, phi, pva⟩⟩, pun⟩⟩ (fun h => by obtain ⟨⟨⟨h1, h2⟩, h3, h4, h5⟩, -⟩ := h; unfold RecP.May at h3 h4 h5; dsimp only at h1 h2 h3 h4 h5; omega))
    go_enter Try.func14, Try.ntmps14
    go_wp2
    go_ret
    exact ⟨by rw [HR.out]; rfl, HB0.out⟩
  have d1 : decide (4 < kd) = false := by simp; omega
  by_cases c2 : tx < 1
  · have d2 : decide (tx < 1) = true := by simp; omega
    have HR := Lib.hid (RecP.right_no ⟨kd, tx, pv, nx, l, ⟨pact, puk, ⟨pst, pk, ⟨pkd, pda, plo, phi, pva⟩⟩, pun⟩⟩ (fun h => by obtain ⟨⟨⟨h1, h2⟩, h3, h4, h5⟩, -⟩ := h; unfold RecP.May at h3 h4 h5; dsimp only at h1 h2 h3 h4 h5; omega))
    go_enter Try.func14, Try.ntmps14
    go_wp2
    go_ret
    exact ⟨by rw [HR.out]; rfl, HB0.out⟩
  have d2 : decide (tx < 1) = false := by simp; omega
  by_cases c3 : 281474976710656 < tx
  · have d3 : decide (281474976710656 < tx) = true := by simp; omega
    have HR := Lib.hid (RecP.right_no ⟨kd, tx, pv, nx, l, ⟨pact, puk, ⟨pst, pk, ⟨pkd, pda, plo, phi, pva⟩⟩, pun⟩⟩ (fun h => by obtain ⟨⟨⟨h1, h2⟩, h3, h4, h5⟩, -⟩ := h; unfold RecP.May at h3 h4 h5; dsimp only at h1 h2 h3 h4 h5; omega))
    go_enter Try.func14, Try.ntmps14
    go_wp2
    go_ret
    exact ⟨by rw [HR.out]; rfl, HB0.out⟩
  have d3 : decide (281474976710656 < tx) = false := by simp; omega
  by_cases c4 : pv < 0
  · have d4 : decide (pv < 0) = true := by simp; omega
    have HR := Lib.hid (RecP.right_no ⟨kd, tx, pv, nx, l, ⟨pact, puk, ⟨pst, pk, ⟨pkd, pda, plo, phi, pva⟩⟩, pun⟩⟩ (fun h => by obtain ⟨⟨⟨h1, h2⟩, h3, h4, h5⟩, -⟩ := h; unfold RecP.May at h3 h4 h5; dsimp only at h1 h2 h3 h4 h5; omega))
    go_enter Try.func14, Try.ntmps14
    go_wp2
    go_ret
    exact ⟨by rw [HR.out]; rfl, HB0.out⟩
  have d4 : decide (pv < 0) = false := by simp; omega
  by_cases c5 : 281474976710656 < pv
  · have d5 : decide (281474976710656 < pv) = true := by simp; omega
    have HR := Lib.hid (RecP.right_no ⟨kd, tx, pv, nx, l, ⟨pact, puk, ⟨pst, pk, ⟨pkd, pda, plo, phi, pva⟩⟩, pun⟩⟩ (fun h => by obtain ⟨⟨⟨h1, h2⟩, h3, h4, h5⟩, -⟩ := h; unfold RecP.May at h3 h4 h5; dsimp only at h1 h2 h3 h4 h5; omega))
    go_enter Try.func14, Try.ntmps14
    go_wp2
    go_ret
    exact ⟨by rw [HR.out]; rfl, HB0.out⟩
  have d5 : decide (281474976710656 < pv) = false := by simp; omega
  by_cases c6 : nx < 0
  · have d6 : decide (nx < 0) = true := by simp; omega
    have HR := Lib.hid (RecP.right_no ⟨kd, tx, pv, nx, l, ⟨pact, puk, ⟨pst, pk, ⟨pkd, pda, plo, phi, pva⟩⟩, pun⟩⟩ (fun h => by obtain ⟨⟨⟨h1, h2⟩, h3, h4, h5⟩, -⟩ := h; unfold RecP.May at h3 h4 h5; dsimp only at h1 h2 h3 h4 h5; omega))
    go_enter Try.func14, Try.ntmps14
    go_wp2
    go_ret
    exact ⟨by rw [HR.out]; rfl, HB0.out⟩
  have d6 : decide (nx < 0) = false := by simp; omega
  by_cases c7 : 281474976710656 < nx
  · have d7 : decide (281474976710656 < nx) = true := by simp; omega
    have HR := Lib.hid (RecP.right_no ⟨kd, tx, pv, nx, l, ⟨pact, puk, ⟨pst, pk, ⟨pkd, pda, plo, phi, pva⟩⟩, pun⟩⟩ (fun h => by obtain ⟨⟨⟨h1, h2⟩, h3, h4, h5⟩, -⟩ := h; unfold RecP.May at h3 h4 h5; dsimp only at h1 h2 h3 h4 h5; omega))
    go_enter Try.func14, Try.ntmps14
    go_wp2
    go_ret
    exact ⟨by rw [HR.out]; rfl, HB0.out⟩
  have d7 : decide (281474976710656 < nx) = false := by simp; omega
  by_cases c8 : 4 < n
  · have d8 : decide (4 < (n : Int)) = true := by simp; omega
    have HR := Lib.hid (RecP.right_no ⟨kd, tx, pv, nx, l, ⟨pact, puk, ⟨pst, pk, ⟨pkd, pda, plo, phi, pva⟩⟩, pun⟩⟩ (fun h => by have := h.2.1; dsimp only at this; omega))
    go_enter Try.func14, Try.ntmps14
    go_wp2
    go_ret
    exact ⟨by rw [HR.out]; rfl, HB0.out⟩
  have d8 : decide (4 < (n : Int)) = false := by simp; omega
  cases hu : UndoP.right ⟨pact, puk, ⟨pst, pk, ⟨pkd, pda, plo, phi, pva⟩⟩, pun⟩ with
  | false =>
    have HR := Lib.hid (RecP.right_no ⟨kd, tx, pv, nx, l, ⟨pact, puk, ⟨pst, pk, ⟨pkd, pda, plo, phi, pva⟩⟩, pun⟩⟩ (fun h => by have := h.2.2.1; dsimp only at this; rw [hu] at this; cases this))
    go_enter Try.func14, Try.ntmps14
    go_wp2_with fail
    refine (UndoW.right_any pact puk Ap np cp Bp pst pk pkd pda plo phi pva pun W0 (HP.out.below (HB0.out.mono hBp)) (by omega) HPK.out.1 HPK.out.2).mono ?_
    rintro e W1 ⟨rfl, hb1⟩
    have HS1 := Lib.hid (HS0.out.next hb1)
    have HB1 := Lib.hid (bstep HB0.out hb1)
    clear hb1 g0 hl0 HS0 HB0
    have g0 := str15 HS1.out
    have hl0 := HS1.out.lt
    have hw1 := HB1.out.size
    rw [hu]
    clear hu
    go_wp2
    go_ret
    exact ⟨by rw [HR.out]; rfl, HB1.out⟩
  | true =>
    have HU := Lib.hid hu
    go_enter Try.func14, Try.ntmps14
    go_wp2_with fail
    refine (UndoW.right_any pact puk Ap np cp Bp pst pk pkd pda plo phi pva pun W0 (HP.out.below (HB0.out.mono hBp)) (by omega) HPK.out.1 HPK.out.2).mono ?_
    rintro e W1 ⟨rfl, hb1⟩
    have HS1 := Lib.hid (HS0.out.next hb1)
    have HB1 := Lib.hid (bstep HB0.out hb1)
    clear hb1 g0 hl0 HS0 HB0
    have g0 := str15 HS1.out
    have hl0 := HS1.out.lt
    have hw1 := HB1.out.size
    rw [hu]
    clear hu
    go_wp2
    go_loopw [3] (fun iv wr => ∃ k : Nat, k ≤ n ∧ iv = .int .i64 (k : Int) ∧ Hid (RecP.Pats l k) ∧ Hid (Below w.heap.size w wr) ∧ Hid (Str wr w.heap.size #[.int .i64 kd, .int .i64 tx, .int .i64 pv, .int .i64 nx, .slice A n c, .int .i64 pact, .string puk, .int .i64 pst, .string pk, .int .i64 pkd, .slice Ap np cp, .int .i64 plo, .int .i64 phi, .int .i64 pva, .int .i64 pun])) (fun iv _ => n - (intOf iv).toNat)
    case atStart => exact ⟨0, Nat.zero_le _, rfl, Lib.hid (RecP.pats_zero l), HB1, HS1⟩
    case round =>
      obtain ⟨k, hk, rfl, HK, HB, HS⟩ := hrel
      clear g0 hl0 HB1 HS1 hw1
      have hwr := HB.out.size
      have g0 := str15 HS.out
      have hl0 := HS.out.lt
      by_cases hlt : k < n
      · have hd : decide ((k : Int) < (n : Int)) = true := by simp; omega
        obtain ⟨b, o, x, A2, n2, c2, rfl, hb, hx, hy, hi, q0, q1, q2⟩ := patch_at HE.out hlt
        replace q0 := (HB.out.cell (p := ⟨b, o + k * 3, none⟩) (by show b < _; omega)).trans q0
        replace q1 := (HB.out.cell (p := ⟨b, o + k * 3 + 1, none⟩) (by show b < _; omega)).trans q1
        replace q2 := (HB.out.cell (p := ⟨b, o + k * 3 + 2, none⟩) (by show b < _; omega)).trans q2
        have HX := Lib.hid hx
        have HY := Lib.hid hy
        clear hx hy
        go_wp2_with fail
        refine (RefPatch.right_any x A2 n2 c2 B wr (HY.out.below (HB.out.mono hB)) (by omega) hi).mono ?_
        rintro e W3 ⟨rfl, hb3⟩
        have HB3 := Lib.hid (bstep HB.out hb3)
        have HS3 := Lib.hid (HS.out.next hb3)
        clear hb3 HS q0 q1 q2 g0 hl0 HB
        have g0 := str15 HS3.out
        have hl0 := HS3.out.lt
        cases hpr : PatchP.right x with
        | false =>
          have HR := Lib.hid (RecP.pats_bad (x := ⟨kd, tx, pv, nx, l, ⟨pact, puk, ⟨pst, pk, ⟨pkd, pda, plo, phi, pva⟩⟩, pun⟩⟩) HX.out hpr)
          clear hpr
          go_wp2
          go_ret
          exact ⟨by rw [HR.out]; rfl, HB3.out⟩
        | true =>
          have HK2 := Lib.hid (RecP.pats_step HK.out HX.out ((PatchP.right_iff x).1 hpr))
          clear hpr
          go_wp2
          go_roundw
          case rel => exact ⟨k + 1, by omega, by go_num, HK2, HB3, HS3⟩
          case measure => simp [intOf]; omega
      · have hd : decide ((k : Int) < (n : Int)) = false := by simp; omega
        have hkn : k = n := by omega
        subst hkn
        have HGOOD : Hid (RecP.Rest ⟨kd, tx, pv, nx, l, ⟨pact, puk, ⟨pst, pk, ⟨pkd, pda, plo, phi, pva⟩⟩, pun⟩⟩ → RecP.right ⟨kd, tx, pv, nx, l, ⟨pact, puk, ⟨pst, pk, ⟨pkd, pda, plo, phi, pva⟩⟩, pun⟩⟩ = true) := Lib.hid (fun h => RecP.right_yes _ ⟨⟨⟨by show 1 ≤ kd; omega, by show kd ≤ 4; omega⟩, ⟨by show 1 ≤ tx; omega, by show tx ≤ _; omega⟩, ⟨by show 0 ≤ pv; omega, by show pv ≤ _; omega⟩, ⟨by show 0 ≤ nx; omega, by show nx ≤ _; omega⟩⟩, by show l.length ≤ 4; rw [HLEN.out]; omega, HU.out, by show RecP.Pats l l.length; rw [HLEN.out]; exact HK.out, h⟩)
        have HBAD : Hid (¬ RecP.Rest ⟨kd, tx, pv, nx, l, ⟨pact, puk, ⟨pst, pk, ⟨pkd, pda, plo, phi, pva⟩⟩, pun⟩⟩ → RecP.right ⟨kd, tx, pv, nx, l, ⟨pact, puk, ⟨pst, pk, ⟨pkd, pda, plo, phi, pva⟩⟩, pun⟩⟩ = false) := Lib.hid (fun h => RecP.right_no _ (fun hr => h hr.2.2.2.2))
        have h14 : kd = 1 ∨ kd = 2 ∨ kd = 3 ∨ kd = 4 := by omega
        clear hlt hd
        rcases h14 with rfl | rfl | rfl | rfl
        · by_cases hnx : nx = 0
          · subst hnx
            have HR := Lib.hid (HGOOD.out ⟨fun h => by rfl, fun h => by exact absurd rfl h, fun h => by (have h9 : (3 : Int) ≤ 1 := h); omega⟩)
            go_wp2
            go_ret
            exact ⟨by rw [HR.out]; rfl, HB.out⟩
          · have hd1 : (nx != 0) = true := by simpa using hnx
            have HR := Lib.hid (HBAD.out (fun h => hnx (h.1 (by show (1 : Int) ≠ 2; decide))))
            go_wp2
            go_ret
            exact ⟨by rw [HR.out]; rfl, HB.out⟩
        · by_cases ha : pact = 0
          · have hd1 : (pact != 0) = false := by simpa using ha
            have HR := Lib.hid (HGOOD.out ⟨fun h => by exact absurd rfl h, fun h => by exact ha, fun h => by (have h9 : (3 : Int) ≤ 2 := h); omega⟩)
            go_wp2
            go_ret
            exact ⟨by rw [HR.out]; rfl, HB.out⟩
          · have hd1 : (pact != 0) = true := by simpa using ha
            have HR := Lib.hid (HBAD.out (fun h => ha (h.2.1 (by show (2 : Int) ≠ 1; decide))))
            go_wp2
            go_ret
            exact ⟨by rw [HR.out]; rfl, HB.out⟩
        · by_cases hnx : nx = 0
          · subst hnx
            by_cases ha : pact = 0
            · have hd1 : (pact != 0) = false := by simpa using ha
              by_cases hn0 : k = 0
              · have hd2 : ((k : Int) == 0) = true := by simp; omega
                have HR := Lib.hid (HGOOD.out ⟨fun h => by rfl, fun h => by exact ha, fun h => by show l.length = 0; rw [HLEN.out]; exact hn0⟩)
                go_wp2
                go_ret
                exact ⟨by rw [HR.out]; rfl, HB.out⟩
              · have hd2 : ((k : Int) == 0) = false := by simp; omega
                have HR := Lib.hid (HBAD.out (fun h => hn0 (by have h5 := h.2.2 (by show (3 : Int) ≤ 3; decide); dsimp only at h5; rw [HLEN.out] at h5; exact h5)))
                go_wp2
                go_ret
                exact ⟨by rw [HR.out]; rfl, HB.out⟩
            · have hd1 : (pact != 0) = true := by simpa using ha
              have HR := Lib.hid (HBAD.out (fun h => ha (h.2.1 (by show (3 : Int) ≠ 1; decide))))
              go_wp2
              go_ret
              exact ⟨by rw [HR.out]; rfl, HB.out⟩
          · have hd1 : (nx != 0) = true := by simpa using hnx
            have HR := Lib.hid (HBAD.out (fun h => hnx (h.1 (by show (3 : Int) ≠ 2; decide))))
            go_wp2
            go_ret
            exact ⟨by rw [HR.out]; rfl, HB.out⟩
        · by_cases hnx : nx = 0
          · subst hnx
            by_cases ha : pact = 0
            · have hd1 : (pact != 0) = false := by simpa using ha
              by_cases hn0 : k = 0
              · have hd2 : ((k : Int) == 0) = true := by simp; omega
                have HR := Lib.hid (HGOOD.out ⟨fun h => by rfl, fun h => by exact ha, fun h => by show l.length = 0; rw [HLEN.out]; exact hn0⟩)
                go_wp2
                go_ret
                exact ⟨by rw [HR.out]; rfl, HB.out⟩
              · have hd2 : ((k : Int) == 0) = false := by simp; omega
                have HR := Lib.hid (HBAD.out (fun h => hn0 (by have h5 := h.2.2 (by show (3 : Int) ≤ 4; decide); dsimp only at h5; rw [HLEN.out] at h5; exact h5)))
                go_wp2
                go_ret
                exact ⟨by rw [HR.out]; rfl, HB.out⟩
            · have hd1 : (pact != 0) = true := by simpa using ha
              have HR := Lib.hid (HBAD.out (fun h => ha (h.2.1 (by show (4 : Int) ≠ 1; decide))))
              go_wp2
              go_ret
              exact ⟨by rw [HR.out]; rfl, HB.out⟩
          · have hd1 : (nx != 0) = true := by simpa using hnx
            have HR := Lib.hid (HBAD.out (fun h => hnx (h.1 (by show (4 : Int) ≠ 2; decide))))
            go_wp2
            go_ret
            exact ⟨by rw [HR.out]; rfl, HB.out⟩
end Go.Proofs.Ytiokcemlfdonnaa.RefRec
end
