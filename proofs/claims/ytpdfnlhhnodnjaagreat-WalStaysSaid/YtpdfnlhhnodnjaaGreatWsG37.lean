/-
  Parts of the proof of WalStays.
-/
import Derived.Test.YtpdfnlhhnodnjaaGreatWsG6
import Derived.Test.YtpdfnlhhnodnjaaGreatWsG36
section
namespace Go.Proofs.YtpdfnlhhnodnjaaGreat.RecW
open Go.RowKit
set_option linter.unusedVariables false
set_option linter.unusedSimpArgs false
end Go.Proofs.YtpdfnlhhnodnjaaGreat.RecW
namespace Go.Proofs.YtpdfnlhhnodnjaaGreat.RefRec
open Go.RowKit RecW
set_option linter.unusedVariables false
set_option linter.unusedSimpArgs false
set_option maxRecDepth 100000 in
set_option maxHeartbeats 4000000 in
theorem same_any (kd tx pv nx : Int) (A : Option Addr) (n c B : Nat) (l : List PatchX) (pact : Int) (puk : ByteArray) (Ap : Option Addr) (np cp Bp : Nat) (pst : Int) (pk : ByteArray) (pkd : Int) (pda : List UInt8) (plo phi pva : Int) (pun : Int) (kd2 tx2 pv2 nx2 : Int) (A2 : Option Addr) (n2 c2 B2 : Nat) (l2 : List PatchX) (qact : Int) (quk : ByteArray) (Aq : Option Addr) (nq cq Bq : Nat) (qst : Int) (qk : ByteArray) (qkd : Int) (qda : List UInt8) (qlo qhi qva : Int) (qun : Int) (w : World) (hE : Elems PatchE w B A n c l) (hB : B ≤ w.heap.size) (hp : Bytes w Bp Ap np cp pda) (hBp : Bp ≤ w.heap.size) (hpk : pk.size ≤ maxLen) (hpuk : puk.size ≤ maxLen) (hE2 : Elems PatchE w B2 A2 n2 c2 l2) (hB2 : B2 ≤ w.heap.size) (hq : Bytes w Bq Aq nq cq qda) (hBq : Bq ≤ w.heap.size) (hqk : qk.size ≤ maxLen) (hquk : quk.size ≤ maxLen) :
    Calls Tryz.prog 14 #[.agg #[.int .i64 kd, .int .i64 tx, .int .i64 pv, .int .i64 nx, .slice A n c, .int .i64 pact, .string puk, .int .i64 pst, .string pk, .int .i64 pkd, .slice Ap np cp, .int .i64 plo, .int .i64 phi, .int .i64 pva, .int .i64 pun], .agg #[.int .i64 kd2, .int .i64 tx2, .int .i64 pv2, .int .i64 nx2, .slice A2 n2 c2, .int .i64 qact, .string quk, .int .i64 qst, .string qk, .int .i64 qkd, .slice Aq nq cq, .int .i64 qlo, .int .i64 qhi, .int .i64 qva, .int .i64 qun]] w fun e w' => e = .returned (.bool (RecP.same ⟨kd, tx, pv, nx, l, ⟨pact, puk, ⟨pst, pk, ⟨pkd, pda, plo, phi, pva⟩⟩, pun⟩⟩ ⟨kd2, tx2, pv2, nx2, l2, ⟨qact, quk, ⟨qst, qk, ⟨qkd, qda, qlo, qhi, qva⟩⟩, qun⟩⟩)) ∧ Below w.heap.size w w' := by
  have HSM : Hid (RecP.same ⟨kd, tx, pv, nx, l, ⟨pact, puk, ⟨pst, pk, ⟨pkd, pda, plo, phi, pva⟩⟩, pun⟩⟩ ⟨kd2, tx2, pv2, nx2, l2, ⟨qact, quk, ⟨qst, qk, ⟨qkd, qda, qlo, qhi, qva⟩⟩, qun⟩⟩ = ((kd == kd2) && ((tx == tx2) && ((pv == pv2) && ((nx == nx2) && (RecP.samePats l l2 && UndoP.same ⟨pact, puk, ⟨pst, pk, ⟨pkd, pda, plo, phi, pva⟩⟩, pun⟩ ⟨qact, quk, ⟨qst, qk, ⟨qkd, qda, qlo, qhi, qva⟩⟩, qun⟩)))))) := Lib.hid rfl
  have HE := Lib.hid hE
  have HE2 := Lib.hid hE2
  have HP := Lib.hid hp
  have HQ := Lib.hid hq
  have hlen := hE.len
  have hlen2 := hE2.len
  have hcap := hE.cap
  have hcm := hcap.2
  have hcap2 := hE2.cap
  have hcm2 := hcap2.2
  unfold maxLen at hcm hcm2
  clear hE hE2 hp hq hpk hpuk hqk hquk
  obtain ⟨W0, hW0⟩ : ∃ W, (w.alloc (.cells #[.int .i64 kd, .int .i64 tx, .int .i64 pv, .int .i64 nx, .slice A n c, .int .i64 pact, .string puk, .int .i64 pst, .string pk, .int .i64 pkd, .slice Ap np cp, .int .i64 plo, .int .i64 phi, .int .i64 pva, .int .i64 pun] 40)).alloc (.cells #[.int .i64 kd2, .int .i64 tx2, .int .i64 pv2, .int .i64 nx2, .slice A2 n2 c2, .int .i64 qact, .string quk, .int .i64 qst, .string qk, .int .i64 qkd, .slice Aq nq cq, .int .i64 qlo, .int .i64 qhi, .int .i64 qva, .int .i64 qun] 40) = W := ⟨_, rfl⟩
  obtain ⟨HS0, HS1, HB0, hw0, hz0⟩ := new2 hW0
  have g0 := str15 HS0.out
  have hl0 := HS0.out.lt
  have g1 := str15 HS1.out
  have hl1 := HS1.out.lt
  clear hz0
  by_cases c0 : kd = kd2
  rotate_left
  · have HD : Hid ((kd == kd2) = false) := Lib.hid (by simpa using c0)
    have d0 : (kd != kd2) = true := by simpa using c0
    clear c0
    go_enter Tryz.func14, Tryz.ntmps14
    go_wp2
    go_ret
    exact ⟨by rw [HSM.out, HD.out]; rfl, HB0.out⟩
  have D0 : Hid ((kd == kd2) = true) := Lib.hid (by simpa using c0)
  have d0 : (kd != kd2) = false := by simpa using c0
  clear c0
  by_cases c1 : tx = tx2
  rotate_left
  · have HD : Hid ((tx == tx2) = false) := Lib.hid (by simpa using c1)
    have d1 : (tx != tx2) = true := by simpa using c1
    clear c1
    go_enter Tryz.func14, Tryz.ntmps14
    go_wp2
    go_ret
    exact ⟨by rw [HSM.out, D0.out, HD.out]; rfl, HB0.out⟩
  have D1 : Hid ((tx == tx2) = true) := Lib.hid (by simpa using c1)
  have d1 : (tx != tx2) = false := by simpa using c1
  clear c1
  by_cases c2 : pv = pv2
  rotate_left
  · have HD : Hid ((pv == pv2) = false) := Lib.hid (by simpa using c2)
    have d2 : (pv != pv2) = true := by simpa using c2
    clear c2
    go_enter Tryz.func14, Tryz.ntmps14
    go_wp2
    go_ret
    exact ⟨by rw [HSM.out, D0.out, D1.out, HD.out]; rfl, HB0.out⟩
  have D2 : Hid ((pv == pv2) = true) := Lib.hid (by simpa using c2)
  have d2 : (pv != pv2) = false := by simpa using c2
  clear c2
  by_cases c3 : nx = nx2
  rotate_left
  · have HD : Hid ((nx == nx2) = false) := Lib.hid (by simpa using c3)
    have d3 : (nx != nx2) = true := by simpa using c3
    clear c3
    go_enter Tryz.func14, Tryz.ntmps14
    go_wp2
    go_ret
    exact ⟨by rw [HSM.out, D0.out, D1.out, D2.out, HD.out]; rfl, HB0.out⟩
  have D3 : Hid ((nx == nx2) = true) := Lib.hid (by simpa using c3)
  have d3 : (nx != nx2) = false := by simpa using c3
  clear c3
  have HSM2 : Hid (RecP.same ⟨kd, tx, pv, nx, l, ⟨pact, puk, ⟨pst, pk, ⟨pkd, pda, plo, phi, pva⟩⟩, pun⟩⟩ ⟨kd2, tx2, pv2, nx2, l2, ⟨qact, quk, ⟨qst, qk, ⟨qkd, qda, qlo, qhi, qva⟩⟩, qun⟩⟩ = (RecP.samePats l l2 && UndoP.same ⟨pact, puk, ⟨pst, pk, ⟨pkd, pda, plo, phi, pva⟩⟩, pun⟩ ⟨qact, quk, ⟨qst, qk, ⟨qkd, qda, qlo, qhi, qva⟩⟩, qun⟩)) := Lib.hid (by rw [HSM.out, D0.out, D1.out, D2.out, D3.out]; rfl)
  clear HSM
  by_cases hn : n = n2
  rotate_left
  · have HR : Hid (RecP.same ⟨kd, tx, pv, nx, l, ⟨pact, puk, ⟨pst, pk, ⟨pkd, pda, plo, phi, pva⟩⟩, pun⟩⟩ ⟨kd2, tx2, pv2, nx2, l2, ⟨qact, quk, ⟨qst, qk, ⟨qkd, qda, qlo, qhi, qva⟩⟩, qun⟩⟩ = false) := Lib.hid (by rw [HSM2.out, RecP.samePats_len (l := l) (m := l2) (by rw [hlen, hlen2]; exact hn)]; rfl)
    have hd : ((n : Int) != (n2 : Int)) = true := by simp; omega
    clear hn
    go_enter Tryz.func14, Tryz.ntmps14
    go_wp2
    go_ret
    exact ⟨by rw [HR.out]; rfl, HB0.out⟩
  subst hn
  have hd0 : ((n : Int) != (n : Int)) = false := by simp
  go_enter Tryz.func14, Tryz.ntmps14
  go_wp2_with fail
  refine (UndoW.refSame_any pact puk Ap np cp Bp pst pk pkd pda plo phi pva pun qact quk Aq nq cq Bq qst qk qkd qda qlo qhi qva qun W0 (HP.out.below (HB0.out.mono hBp)) (by omega) (HQ.out.below (HB0.out.mono hBq)) (by omega)).mono ?_
  rintro e W1 ⟨rfl, hb1⟩
  have HS0' := Lib.hid (HS0.out.next hb1)
  have HS1' := Lib.hid (HS1.out.next hb1)
  have HB1 := Lib.hid (bstep HB0.out hb1)
  clear hb1 HS0 HS1 HB0 g0 g1 hl0 hl1
  have g0 := str15 HS0'.out
  have hl0 := HS0'.out.lt
  have g1 := str15 HS1'.out
  have hl1 := HS1'.out.lt
  cases hu : UndoP.same ⟨pact, puk, ⟨pst, pk, ⟨pkd, pda, plo, phi, pva⟩⟩, pun⟩ ⟨qact, quk, ⟨qst, qk, ⟨qkd, qda, qlo, qhi, qva⟩⟩, qun⟩ with
  | false =>
    have HR : Hid (RecP.same ⟨kd, tx, pv, nx, l, ⟨pact, puk, ⟨pst, pk, ⟨pkd, pda, plo, phi, pva⟩⟩, pun⟩⟩ ⟨kd2, tx2, pv2, nx2, l2, ⟨qact, quk, ⟨qst, qk, ⟨qkd, qda, qlo, qhi, qva⟩⟩, qun⟩⟩ = false) := Lib.hid (by rw [HSM2.out, hu, Bool.and_false])
    clear hu
    go_wp2
    go_ret
    exact ⟨by rw [HR.out]; rfl, HB1.out⟩
  | true =>
    have HR : Hid (RecP.same ⟨kd, tx, pv, nx, l, ⟨pact, puk, ⟨pst, pk, ⟨pkd, pda, plo, phi, pva⟩⟩, pun⟩⟩ ⟨kd2, tx2, pv2, nx2, l2, ⟨qact, quk, ⟨qst, qk, ⟨qkd, qda, qlo, qhi, qva⟩⟩, qun⟩⟩ = RecP.samePats l l2) := Lib.hid (by rw [HSM2.out, hu, Bool.and_true])
    clear hu
    go_wp2
    go_loopw [5] (fun iv wr => ∃ k : Nat, k ≤ n ∧ iv = .int .i64 (k : Int) ∧ Hid (l.take k = l2.take k) ∧ Hid (Below w.heap.size w wr) ∧ Hid (Str wr w.heap.size #[.int .i64 kd, .int .i64 tx, .int .i64 pv, .int .i64 nx, .slice A n c, .int .i64 pact, .string puk, .int .i64 pst, .string pk, .int .i64 pkd, .slice Ap np cp, .int .i64 plo, .int .i64 phi, .int .i64 pva, .int .i64 pun]) ∧ Hid (Str wr (w.heap.size + 1) #[.int .i64 kd2, .int .i64 tx2, .int .i64 pv2, .int .i64 nx2, .slice A2 n c2, .int .i64 qact, .string quk, .int .i64 qst, .string qk, .int .i64 qkd, .slice Aq nq cq, .int .i64 qlo, .int .i64 qhi, .int .i64 qva, .int .i64 qun])) (fun iv _ => n - (intOf iv).toNat)
    case atStart => exact ⟨0, Nat.zero_le _, rfl, Lib.hid (by simp), HB1, HS0', HS1'⟩
    case round =>
      obtain ⟨k, hk, rfl, HK, HB, HT0, HT1⟩ := hrel
      clear g0 g1 hl0 hl1 HS0' HS1' HB1
      have hwr := HB.out.size
      have g0 := str15 HT0.out
      have hl0 := HT0.out.lt
      have g1 := str15 HT1.out
      have hl1 := HT1.out.lt
      by_cases hlt : k < n
      · have hd : decide ((k : Int) < (n : Int)) = true := by simp; omega
        obtain ⟨b, o, x, A3, n3, c3, rfl, hb, hx, hy, hi, q0, q1, q2⟩ := patch_at HE.out hlt
        obtain ⟨b', o', y, A4, n4, c4, rfl, hb', hx', hy', hi', r0, r1, r2⟩ := patch_at HE2.out hlt
        replace q0 := (HB.out.cell (p := ⟨b, o + k * 3, none⟩) (by show b < _; omega)).trans q0
        replace q1 := (HB.out.cell (p := ⟨b, o + k * 3 + 1, none⟩) (by show b < _; omega)).trans q1
        replace q2 := (HB.out.cell (p := ⟨b, o + k * 3 + 2, none⟩) (by show b < _; omega)).trans q2
        replace r0 := (HB.out.cell (p := ⟨b', o' + k * 3, none⟩) (by show b' < _; omega)).trans r0
        replace r1 := (HB.out.cell (p := ⟨b', o' + k * 3 + 1, none⟩) (by show b' < _; omega)).trans r1
        replace r2 := (HB.out.cell (p := ⟨b', o' + k * 3 + 2, none⟩) (by show b' < _; omega)).trans r2
        have HCC := Lib.hid (And.intro (And.intro q0 (And.intro q1 q2)) (And.intro r0 (And.intro r1 r2)))
        have HY := Lib.hid ((hy.below (HB.out.mono hB)))
        have HY2 := Lib.hid ((hy'.below (HB.out.mono hB2)))
        have HRQ := Lib.hid (And.intro hx hx')
        have hbw : b < wr.heap.size := by omega
        have hbw' : b' < wr.heap.size := by omega
        have hi1 := hi
        clear hy hy' hx hx' q0 q1 q2 r0 r1 r2
        go_wp2_with fail
        cases hs : PatchP.same x y with
        | true =>
          have HK2 := Lib.hid (RecP.take_same HK.out HRQ.out.1 HRQ.out.2 hs)
          have HEQ := Lib.hid hs
          clear hs
          refine Reg.wp_region_vals (R := ext) (W := wr) [Reg.eqv (.pointer (some ⟨w.heap.size, 4, none⟩)), Reg.eqv (.slice (some ⟨b, o, none⟩) n c), Reg.eqv (.int .i64 (k : Int)), Reg.eqv (.pointer (some ⟨b, o + k * 3, none⟩)), Reg.eqv (.agg #[.int .i64 x.page, .bool x.fresh, .slice A3 n3 c3]), Reg.eqv (.pointer (some ⟨w.heap.size + 1, 4, none⟩)), Reg.eqv (.slice (some ⟨b', o', none⟩) n c2), Reg.eqv (.int .i64 (k : Int)), Reg.eqv (.pointer (some ⟨b', o' + k * 3, none⟩)), Reg.eqv (.agg #[.int .i64 y.page, .bool y.fresh, .slice A4 n4 c4]), Reg.eqv (.bool true), Reg.eqv (.bool false)] 68 [[(2, none)], [(56, some 0)], [(5, none)], [(57, some 1), (58, some 2)], [(59, some 3)], [(3, none)], [(61, some 5)], [(5, none)], [(62, some 6), (63, some 7)], [(64, some 8)], [(60, some 4), (65, some 9)], [(66, some 10)]] rfl (by kernel_rfl) (by kernel_rfl) (by kernel_rfl) ?_ [some 56, some 57, some 58, some 59, some 60, some 61, some 62, some 63, some 64, some 65, some 66, some 67] (by kernel_rfl) ?_
          · refine ⟨?_, ?_, ?_, ?_, ?_, ?_, ?_, ?_, ?_, ?_, ?_, ?_, trivial⟩
            · intro ax wx hx hs
              obtain ⟨e2, -⟩ := hs
              have g2 := Reg.ev (v := .pointer (some ⟨w.heap.size, 0, none⟩)) e2
              exact Reg.obl_free rfl (Reg.wp_eqv (Option.some_ne_none _) (by go_simp) rfl)
            · intro ax wx hx hs
              obtain ⟨e56, -⟩ := hs
              have g56 := Reg.ev (v := .pointer (some ⟨w.heap.size, 4, none⟩)) e56
              have hx' : Below wr.heap.size wr wx := hx
              have l0 := str15 (HT0.out.next hx')
              have l1 := str15 (HT1.out.next hx')
              have m0 := (hx'.cell (p := ⟨b, o + k * 3, none⟩) hbw).trans HCC.out.1.1
              have m1 := (hx'.cell (p := ⟨b, o + k * 3 + 1, none⟩) hbw).trans HCC.out.1.2.1
              have m2 := (hx'.cell (p := ⟨b, o + k * 3 + 2, none⟩) hbw).trans HCC.out.1.2.2
              have m3 := (hx'.cell (p := ⟨b', o' + k * 3, none⟩) hbw').trans HCC.out.2.1
              have m4 := (hx'.cell (p := ⟨b', o' + k * 3 + 1, none⟩) hbw').trans HCC.out.2.2.1
              have m5 := (hx'.cell (p := ⟨b', o' + k * 3 + 2, none⟩) hbw').trans HCC.out.2.2.2
              exact Reg.obl_free rfl (Reg.wp_eqv (Option.some_ne_none _) (by go_simp) rfl)
            · intro ax wx hx hs
              obtain ⟨e5, -⟩ := hs
              have g5 := Reg.ev (v := .int .i64 (k : Int)) e5
              exact Reg.obl_free rfl (Reg.wp_eqv (Option.some_ne_none _) (by go_simp) rfl)
            · intro ax wx hx hs
              obtain ⟨e57, e58, -⟩ := hs
              have g57 := Reg.ev (v := .slice (some ⟨b, o, none⟩) n c) e57
              have g58 := Reg.ev (v := .int .i64 (k : Int)) e58
              refine Reg.obl_free rfl ?_
              exact Reg.wp_eqv (Option.some_ne_none _) (by go_simp; first | done | (intro hq; omega)) rfl
            · intro ax wx hx hs
              obtain ⟨e59, -⟩ := hs
              have g59 := Reg.ev (v := .pointer (some ⟨b, o + k * 3, none⟩)) e59
              have hx' : Below wr.heap.size wr wx := hx
              have l0 := str15 (HT0.out.next hx')
              have l1 := str15 (HT1.out.next hx')
              have m0 := (hx'.cell (p := ⟨b, o + k * 3, none⟩) hbw).trans HCC.out.1.1
              have m1 := (hx'.cell (p := ⟨b, o + k * 3 + 1, none⟩) hbw).trans HCC.out.1.2.1
              have m2 := (hx'.cell (p := ⟨b, o + k * 3 + 2, none⟩) hbw).trans HCC.out.1.2.2
              have m3 := (hx'.cell (p := ⟨b', o' + k * 3, none⟩) hbw').trans HCC.out.2.1
              have m4 := (hx'.cell (p := ⟨b', o' + k * 3 + 1, none⟩) hbw').trans HCC.out.2.2.1
              have m5 := (hx'.cell (p := ⟨b', o' + k * 3 + 2, none⟩) hbw').trans HCC.out.2.2.2
              exact Reg.obl_free rfl (Reg.wp_eqv (Option.some_ne_none _) (by go_simp) rfl)
            · intro ax wx hx hs
              obtain ⟨e3, -⟩ := hs
              have g3 := Reg.ev (v := .pointer (some ⟨w.heap.size + 1, 0, none⟩)) e3
              exact Reg.obl_free rfl (Reg.wp_eqv (Option.some_ne_none _) (by go_simp) rfl)
            · intro ax wx hx hs
              obtain ⟨e61, -⟩ := hs
              have g61 := Reg.ev (v := .pointer (some ⟨w.heap.size + 1, 4, none⟩)) e61
              have hx' : Below wr.heap.size wr wx := hx
              have l0 := str15 (HT0.out.next hx')
              have l1 := str15 (HT1.out.next hx')
              have m0 := (hx'.cell (p := ⟨b, o + k * 3, none⟩) hbw).trans HCC.out.1.1
              have m1 := (hx'.cell (p := ⟨b, o + k * 3 + 1, none⟩) hbw).trans HCC.out.1.2.1
              have m2 := (hx'.cell (p := ⟨b, o + k * 3 + 2, none⟩) hbw).trans HCC.out.1.2.2
              have m3 := (hx'.cell (p := ⟨b', o' + k * 3, none⟩) hbw').trans HCC.out.2.1
              have m4 := (hx'.cell (p := ⟨b', o' + k * 3 + 1, none⟩) hbw').trans HCC.out.2.2.1
              have m5 := (hx'.cell (p := ⟨b', o' + k * 3 + 2, none⟩) hbw').trans HCC.out.2.2.2
              exact Reg.obl_free rfl (Reg.wp_eqv (Option.some_ne_none _) (by go_simp) rfl)
            · intro ax wx hx hs
              obtain ⟨e5, -⟩ := hs
              have g5 := Reg.ev (v := .int .i64 (k : Int)) e5
              exact Reg.obl_free rfl (Reg.wp_eqv (Option.some_ne_none _) (by go_simp) rfl)
            · intro ax wx hx hs
              obtain ⟨e62, e63, -⟩ := hs
              have g62 := Reg.ev (v := .slice (some ⟨b', o', none⟩) n c2) e62
              have g63 := Reg.ev (v := .int .i64 (k : Int)) e63
              refine Reg.obl_free rfl ?_
              exact Reg.wp_eqv (Option.some_ne_none _) (by go_simp; first | done | (intro hq; omega)) rfl
            · intro ax wx hx hs
              obtain ⟨e64, -⟩ := hs
              have g64 := Reg.ev (v := .pointer (some ⟨b', o' + k * 3, none⟩)) e64
              have hx' : Below wr.heap.size wr wx := hx
              have l0 := str15 (HT0.out.next hx')
              have l1 := str15 (HT1.out.next hx')
              have m0 := (hx'.cell (p := ⟨b, o + k * 3, none⟩) hbw).trans HCC.out.1.1
              have m1 := (hx'.cell (p := ⟨b, o + k * 3 + 1, none⟩) hbw).trans HCC.out.1.2.1
              have m2 := (hx'.cell (p := ⟨b, o + k * 3 + 2, none⟩) hbw).trans HCC.out.1.2.2
              have m3 := (hx'.cell (p := ⟨b', o' + k * 3, none⟩) hbw').trans HCC.out.2.1
              have m4 := (hx'.cell (p := ⟨b', o' + k * 3 + 1, none⟩) hbw').trans HCC.out.2.2.1
              have m5 := (hx'.cell (p := ⟨b', o' + k * 3 + 2, none⟩) hbw').trans HCC.out.2.2.2
              exact Reg.obl_free rfl (Reg.wp_eqv (Option.some_ne_none _) (by go_simp) rfl)
            · intro ax wx hx hs
              obtain ⟨e60, e65, -⟩ := hs
              have g60 := Reg.ev (v := .agg #[.int .i64 x.page, .bool x.fresh, .slice A3 n3 c3]) e60
              have g65 := Reg.ev (v := .agg #[.int .i64 y.page, .bool y.fresh, .slice A4 n4 c4]) e65
              refine Reg.obl_free rfl ?_
              have hx' : Below wr.heap.size wr wx := hx
              go_simp
              refine (RefPatch.same_any x y A3 A4 n3 c3 n4 c4 B B2 wx (HY.out.below (hx'.mono (by omega))) (by have := hx'.size; omega) (HY2.out.below (hx'.mono (by omega))) (by have := hx'.size; omega)).mono ?_
              rintro e wy ⟨rfl, hby⟩
              rw [HEQ.out]
              exact Reg.done (Option.some_ne_none _) rfl hby
            · intro ax wx hx hs
              obtain ⟨e66, -⟩ := hs
              have g66 := Reg.ev (v := .bool true) e66
              exact Reg.obl_free rfl (Reg.wp_eqv (Option.some_ne_none _) (by go_simp) rfl)
          · intro W2 hwf
            simp only [Reg.Fin]
            rintro _ rfl _ rfl _ rfl _ rfl _ rfl _ rfl _ rfl _ rfl _ rfl _ rfl _ rfl _ rfl
            go_simp
            have hwf' : Below wr.heap.size wr W2 := hwf
            have HB2 := Lib.hid (bstep HB.out hwf')
            have HT2 := Lib.hid (HT0.out.next hwf')
            have HT3 := Lib.hid (HT1.out.next hwf')
            clear hwf hwf' g0 g1 hl0 hl1
            go_wp2
            go_roundw
            case rel => exact ⟨k + 1, by omega, by go_num, HK2, HB2, HT2, HT3⟩
            case measure => simp [intOf]; omega
        | false =>
          have HRR := Lib.hid (RecP.samePats_at HRQ.out.1 HRQ.out.2 hs)
          have HEQ := Lib.hid hs
          clear hs
          refine Reg.wp_region_vals (R := ext) (W := wr) [Reg.eqv (.pointer (some ⟨w.heap.size, 4, none⟩)), Reg.eqv (.slice (some ⟨b, o, none⟩) n c), Reg.eqv (.int .i64 (k : Int)), Reg.eqv (.pointer (some ⟨b, o + k * 3, none⟩)), Reg.eqv (.agg #[.int .i64 x.page, .bool x.fresh, .slice A3 n3 c3]), Reg.eqv (.pointer (some ⟨w.heap.size + 1, 4, none⟩)), Reg.eqv (.slice (some ⟨b', o', none⟩) n c2), Reg.eqv (.int .i64 (k : Int)), Reg.eqv (.pointer (some ⟨b', o' + k * 3, none⟩)), Reg.eqv (.agg #[.int .i64 y.page, .bool y.fresh, .slice A4 n4 c4]), Reg.eqv (.bool false), Reg.eqv (.bool true)] 68 [[(2, none)], [(56, some 0)], [(5, none)], [(57, some 1), (58, some 2)], [(59, some 3)], [(3, none)], [(61, some 5)], [(5, none)], [(62, some 6), (63, some 7)], [(64, some 8)], [(60, some 4), (65, some 9)], [(66, some 10)]] rfl (by kernel_rfl) (by kernel_rfl) (by kernel_rfl) ?_ [some 56, some 57, some 58, some 59, some 60, some 61, some 62, some 63, some 64, some 65, some 66, some 67] (by kernel_rfl) ?_
          · refine ⟨?_, ?_, ?_, ?_, ?_, ?_, ?_, ?_, ?_, ?_, ?_, ?_, trivial⟩
            · intro ax wx hx hs
              obtain ⟨e2, -⟩ := hs
              have g2 := Reg.ev (v := .pointer (some ⟨w.heap.size, 0, none⟩)) e2
              exact Reg.obl_free rfl (Reg.wp_eqv (Option.some_ne_none _) (by go_simp) rfl)
            · intro ax wx hx hs
              obtain ⟨e56, -⟩ := hs
              have g56 := Reg.ev (v := .pointer (some ⟨w.heap.size, 4, none⟩)) e56
              have hx' : Below wr.heap.size wr wx := hx
              have l0 := str15 (HT0.out.next hx')
              have l1 := str15 (HT1.out.next hx')
              have m0 := (hx'.cell (p := ⟨b, o + k * 3, none⟩) hbw).trans HCC.out.1.1
              have m1 := (hx'.cell (p := ⟨b, o + k * 3 + 1, none⟩) hbw).trans HCC.out.1.2.1
              have m2 := (hx'.cell (p := ⟨b, o + k * 3 + 2, none⟩) hbw).trans HCC.out.1.2.2
              have m3 := (hx'.cell (p := ⟨b', o' + k * 3, none⟩) hbw').trans HCC.out.2.1
              have m4 := (hx'.cell (p := ⟨b', o' + k * 3 + 1, none⟩) hbw').trans HCC.out.2.2.1
              have m5 := (hx'.cell (p := ⟨b', o' + k * 3 + 2, none⟩) hbw').trans HCC.out.2.2.2
              exact Reg.obl_free rfl (Reg.wp_eqv (Option.some_ne_none _) (by go_simp) rfl)
            · intro ax wx hx hs
              obtain ⟨e5, -⟩ := hs
              have g5 := Reg.ev (v := .int .i64 (k : Int)) e5
              exact Reg.obl_free rfl (Reg.wp_eqv (Option.some_ne_none _) (by go_simp) rfl)
            · intro ax wx hx hs
              obtain ⟨e57, e58, -⟩ := hs
              have g57 := Reg.ev (v := .slice (some ⟨b, o, none⟩) n c) e57
              have g58 := Reg.ev (v := .int .i64 (k : Int)) e58
              refine Reg.obl_free rfl ?_
              exact Reg.wp_eqv (Option.some_ne_none _) (by go_simp; first | done | (intro hq; omega)) rfl
            · intro ax wx hx hs
              obtain ⟨e59, -⟩ := hs
              have g59 := Reg.ev (v := .pointer (some ⟨b, o + k * 3, none⟩)) e59
              have hx' : Below wr.heap.size wr wx := hx
              have l0 := str15 (HT0.out.next hx')
              have l1 := str15 (HT1.out.next hx')
              have m0 := (hx'.cell (p := ⟨b, o + k * 3, none⟩) hbw).trans HCC.out.1.1
              have m1 := (hx'.cell (p := ⟨b, o + k * 3 + 1, none⟩) hbw).trans HCC.out.1.2.1
              have m2 := (hx'.cell (p := ⟨b, o + k * 3 + 2, none⟩) hbw).trans HCC.out.1.2.2
              have m3 := (hx'.cell (p := ⟨b', o' + k * 3, none⟩) hbw').trans HCC.out.2.1
              have m4 := (hx'.cell (p := ⟨b', o' + k * 3 + 1, none⟩) hbw').trans HCC.out.2.2.1
              have m5 := (hx'.cell (p := ⟨b', o' + k * 3 + 2, none⟩) hbw').trans HCC.out.2.2.2
              exact Reg.obl_free rfl (Reg.wp_eqv (Option.some_ne_none _) (by go_simp) rfl)
            · intro ax wx hx hs
              obtain ⟨e3, -⟩ := hs
              have g3 := Reg.ev (v := .pointer (some ⟨w.heap.size + 1, 0, none⟩)) e3
              exact Reg.obl_free rfl (Reg.wp_eqv (Option.some_ne_none _) (by go_simp) rfl)
            · intro ax wx hx hs
              obtain ⟨e61, -⟩ := hs
              have g61 := Reg.ev (v := .pointer (some ⟨w.heap.size + 1, 4, none⟩)) e61
              have hx' : Below wr.heap.size wr wx := hx
              have l0 := str15 (HT0.out.next hx')
              have l1 := str15 (HT1.out.next hx')
              have m0 := (hx'.cell (p := ⟨b, o + k * 3, none⟩) hbw).trans HCC.out.1.1
              have m1 := (hx'.cell (p := ⟨b, o + k * 3 + 1, none⟩) hbw).trans HCC.out.1.2.1
              have m2 := (hx'.cell (p := ⟨b, o + k * 3 + 2, none⟩) hbw).trans HCC.out.1.2.2
              have m3 := (hx'.cell (p := ⟨b', o' + k * 3, none⟩) hbw').trans HCC.out.2.1
              have m4 := (hx'.cell (p := ⟨b', o' + k * 3 + 1, none⟩) hbw').trans HCC.out.2.2.1
              have m5 := (hx'.cell (p := ⟨b', o' + k * 3 + 2, none⟩) hbw').trans HCC.out.2.2.2
              exact Reg.obl_free rfl (Reg.wp_eqv (Option.some_ne_none _) (by go_simp) rfl)
            · intro ax wx hx hs
              obtain ⟨e5, -⟩ := hs
              have g5 := Reg.ev (v := .int .i64 (k : Int)) e5
              exact Reg.obl_free rfl (Reg.wp_eqv (Option.some_ne_none _) (by go_simp) rfl)
            · intro ax wx hx hs
              obtain ⟨e62, e63, -⟩ := hs
              have g62 := Reg.ev (v := .slice (some ⟨b', o', none⟩) n c2) e62
              have g63 := Reg.ev (v := .int .i64 (k : Int)) e63
              refine Reg.obl_free rfl ?_
              exact Reg.wp_eqv (Option.some_ne_none _) (by go_simp; first | done | (intro hq; omega)) rfl
            · intro ax wx hx hs
              obtain ⟨e64, -⟩ := hs
              have g64 := Reg.ev (v := .pointer (some ⟨b', o' + k * 3, none⟩)) e64
              have hx' : Below wr.heap.size wr wx := hx
              have l0 := str15 (HT0.out.next hx')
              have l1 := str15 (HT1.out.next hx')
              have m0 := (hx'.cell (p := ⟨b, o + k * 3, none⟩) hbw).trans HCC.out.1.1
              have m1 := (hx'.cell (p := ⟨b, o + k * 3 + 1, none⟩) hbw).trans HCC.out.1.2.1
              have m2 := (hx'.cell (p := ⟨b, o + k * 3 + 2, none⟩) hbw).trans HCC.out.1.2.2
              have m3 := (hx'.cell (p := ⟨b', o' + k * 3, none⟩) hbw').trans HCC.out.2.1
              have m4 := (hx'.cell (p := ⟨b', o' + k * 3 + 1, none⟩) hbw').trans HCC.out.2.2.1
              have m5 := (hx'.cell (p := ⟨b', o' + k * 3 + 2, none⟩) hbw').trans HCC.out.2.2.2
              exact Reg.obl_free rfl (Reg.wp_eqv (Option.some_ne_none _) (by go_simp) rfl)
            · intro ax wx hx hs
              obtain ⟨e60, e65, -⟩ := hs
              have g60 := Reg.ev (v := .agg #[.int .i64 x.page, .bool x.fresh, .slice A3 n3 c3]) e60
              have g65 := Reg.ev (v := .agg #[.int .i64 y.page, .bool y.fresh, .slice A4 n4 c4]) e65
              refine Reg.obl_free rfl ?_
              have hx' : Below wr.heap.size wr wx := hx
              go_simp
              refine (RefPatch.same_any x y A3 A4 n3 c3 n4 c4 B B2 wx (HY.out.below (hx'.mono (by omega))) (by have := hx'.size; omega) (HY2.out.below (hx'.mono (by omega))) (by have := hx'.size; omega)).mono ?_
              rintro e wy ⟨rfl, hby⟩
              rw [HEQ.out]
              exact Reg.done (Option.some_ne_none _) rfl hby
            · intro ax wx hx hs
              obtain ⟨e66, -⟩ := hs
              have g66 := Reg.ev (v := .bool false) e66
              exact Reg.obl_free rfl (Reg.wp_eqv (Option.some_ne_none _) (by go_simp) rfl)
          · intro W2 hwf
            simp only [Reg.Fin]
            rintro _ rfl _ rfl _ rfl _ rfl _ rfl _ rfl _ rfl _ rfl _ rfl _ rfl _ rfl _ rfl
            go_simp
            have hwf' : Below wr.heap.size wr W2 := hwf
            have HB2 := Lib.hid (bstep HB.out hwf')
            have HT2 := Lib.hid (HT0.out.next hwf')
            have HT3 := Lib.hid (HT1.out.next hwf')
            clear hwf hwf' g0 g1 hl0 hl1
            go_wp2
            go_ret
            exact ⟨by rw [HR.out, HRR.out]; rfl, HB2.out⟩
      · have hd : decide ((k : Int) < (n : Int)) = false := by simp; omega
        have hkn : k = n := by omega
        subst hkn
        have HRR := Lib.hid (RecP.samePats_all HK.out hlen hlen2)
        go_wp2
        go_ret
        exact ⟨by rw [HR.out, HRR.out]; rfl, HB.out⟩
/-- no more than is asked -/
def Asked (x : RecX) : Prop := x.patches.length ≤ 6 ∧ (∀ p ∈ x.patches, PatchP.Asked p.runs) ∧ x.undo.key.size ≤ 300 ∧ x.undo.item.key.size ≤ 300 ∧ x.undo.item.cell.data.length ≤ 300
end Go.Proofs.YtpdfnlhhnodnjaaGreat.RefRec
end
section
namespace Go.Proofs.YtpdfnlhhnodnjaaGreat
open Go.RowKit
set_option linter.unusedVariables false
set_option linter.unusedSimpArgs false
instance (l : List RunX) : Decidable (PatchP.Asked l) := by unfold PatchP.Asked; infer_instance
instance (x : RecX) : Decidable (RefRec.Asked x) := by unfold RefRec.Asked; infer_instance
namespace RefPatch
set_option maxRecDepth 100000 in
set_option maxHeartbeats 1000000 in
theorem much_is (A : Option Addr) (n c B : Nat) (l : List RunX) (w : World) (hE : Elems RunE w B A n c l) :
    Calls Tryz.prog 20 #[.slice A n c] w fun e w' => e = .returned (.bool (!decide (PatchP.Asked l))) ∧ w = w' := by
  have HE := Lib.hid hE
  have hlen := hE.len
  have hcap := hE.cap
  have hcm := hcap.2
  unfold maxLen at hcm
  clear hE
  go_enter Tryz.func20, Tryz.ntmps20
  go_wp2
  go_loopw [3] (fun iv wr => ∃ k : Nat, k ≤ n ∧ k ≤ 100 ∧ iv = .int .i64 (k : Int) ∧ wr = w ∧ Hid (∀ j x, j < k → l[j]? = some x → x.data.length ≤ 600)) (fun iv _ => n - (intOf iv).toNat)
  case atStart => exact ⟨0, Nat.zero_le _, by omega, rfl, rfl, Lib.hid (fun j x h => absurd h (by omega))⟩
  case round =>
    obtain ⟨k, hk, hk1, rfl, hwr, HK⟩ := hrel
    subst hwr
    by_cases hlt : k < n
    · have hd : decide ((k : Int) < (n : Int)) = true := by simpa using hlt
      by_cases h100 : k < 100
      · have hd2 : decide ((k : Int) < 100) = true := by simp; omega
        obtain ⟨b, o, x, A2, n2, c2, rfl, hb, hx, hy, hi, q0, q1⟩ := run_at HE.out hlt
        have hyl := hy.len
        have hki : (0 : Int) ≤ (k : Int) := by omega
        by_cases hB : 600 < n2
        · have hd3 : decide ((600 : Int) < (n2 : Int)) = true := by simp; omega
          have HR : Hid ((!decide (PatchP.Asked l)) = true) := Lib.hid (by rw [decide_eq_false (fun ha => absurd (ha.2 x (List.mem_of_getElem? hx)) (by omega))]; rfl)
          clear hy hi hx hyl
          go_wp2
          go_ret
          exact ⟨by rw [HR.out] <;> rfl, rfl⟩
        · have hd3 : decide ((600 : Int) < (n2 : Int)) = false := by simp; omega
          have HN : Hid (∀ j y, j < k + 1 → l[j]? = some y → y.data.length ≤ 600) := Lib.hid (fun j y hj hy => by
            by_cases e : j = k
            · subst e; rw [hx] at hy; cases hy; omega
            · exact HK.out j y (by omega) hy)
          clear hy hi hx hyl
          go_wp2
          go_roundw
          case rel => exact ⟨k + 1, by omega, by omega, by go_num, (by first | rfl | trivial), HN⟩
          case measure => simp [intOf]; omega
      · have hd2 : decide ((k : Int) < 100) = false := by simp; omega
        have hd5 : decide ((60 : Int) < (n : Int)) = true := by simp; omega
        have HR : Hid ((!decide (PatchP.Asked l)) = true) := Lib.hid (by rw [decide_eq_false (fun ha => absurd ha.1 (by omega))]; rfl)
        go_wp2
        go_ret
        exact ⟨by rw [HR.out] <;> rfl, rfl⟩
    · have hd : decide ((k : Int) < (n : Int)) = false := by simp; omega
      have HF : Hid (∀ x ∈ l, x.data.length ≤ 600) := Lib.hid (fun x hx => by
        obtain ⟨j, hj, rfl⟩ := List.getElem_of_mem hx
        exact HK.out j _ (by omega) (List.getElem?_eq_getElem hj))
      by_cases h60 : 60 < n
      · have hd5 : decide ((60 : Int) < (n : Int)) = true := by simp; omega
        have HR : Hid ((!decide (PatchP.Asked l)) = true) := Lib.hid (by rw [decide_eq_false (fun ha => absurd ha.1 (by omega))]; rfl)
        go_wp2
        go_ret
        exact ⟨by rw [HR.out] <;> rfl, rfl⟩
      · have hd5 : decide ((60 : Int) < (n : Int)) = false := by simp; omega
        have HL := Lib.hid hlen
        have HR : Hid ((!decide (PatchP.Asked l)) = false) := Lib.hid (by rw [decide_eq_true (show PatchP.Asked l from ⟨by rw [HL.out]; omega, HF.out⟩)]; rfl)
        go_wp2
        go_ret
        exact ⟨by rw [HR.out] <;> rfl, rfl⟩
end RefPatch
namespace RefRec
open RecW
set_option maxRecDepth 100000 in
set_option maxHeartbeats 4000000 in
theorem much_is (kd tx pv nx : Int) (A : Option Addr) (n c B : Nat) (l : List PatchX) (pact : Int) (puk : ByteArray) (Ap : Option Addr) (np cp Bp : Nat) (pst : Int) (pk : ByteArray) (pkd : Int) (pda : List UInt8) (plo phi pva : Int) (pun : Int) (w : World) (hE : Elems PatchE w B A n c l) (hB : B ≤ w.heap.size) (hp : Bytes w Bp Ap np cp pda) (hBp : Bp ≤ w.heap.size) (hpk : pk.size ≤ maxLen) (hpuk : puk.size ≤ maxLen) :
    Calls Tryz.prog 7 #[.agg #[.int .i64 kd, .int .i64 tx, .int .i64 pv, .int .i64 nx, .slice A n c, .int .i64 pact, .string puk, .int .i64 pst, .string pk, .int .i64 pkd, .slice Ap np cp, .int .i64 plo, .int .i64 phi, .int .i64 pva, .int .i64 pun]] w fun e w' => e = .returned (.bool (!decide (Asked ⟨kd, tx, pv, nx, l, ⟨pact, puk, ⟨pst, pk, ⟨pkd, pda, plo, phi, pva⟩⟩, pun⟩⟩))) ∧ Below w.heap.size w w' := by
  have HE := Lib.hid hE
  have hlen := hE.len
  have hcap := hE.cap
  have hcm := hcap.2
  unfold maxLen at hcm
  have hpl := hp.len
  have hpm := Nat.le_trans hp.2.1 hp.2.2.1
  unfold maxLen at hpm hpk hpuk
  have HPL := Lib.hid hpl
  have HLEN := Lib.hid hlen
  clear hE hp hpl
  obtain ⟨W0, hW0⟩ : ∃ W, w.alloc (.cells #[.int .i64 kd, .int .i64 tx, .int .i64 pv, .int .i64 nx, .slice A n c, .int .i64 pact, .string puk, .int .i64 pst, .string pk, .int .i64 pkd, .slice Ap np cp, .int .i64 plo, .int .i64 phi, .int .i64 pva, .int .i64 pun] 40) = W := ⟨_, rfl⟩
  obtain ⟨HS0, HB0, hw0, hz0⟩ := new1 hW0
  have g0 := str15 HS0.out
  have hl0 := HS0.out.lt
  clear hz0
  go_enter Tryz.func7, Tryz.ntmps7
  go_wp2
  go_loopw [3] (fun iv wr => ∃ k : Nat, k ≤ n ∧ k ≤ 10 ∧ iv = .int .i64 (k : Int) ∧ wr = W0 ∧ Hid (∀ j x, j < k → l[j]? = some x → PatchP.Asked x.runs)) (fun iv _ => n - (intOf iv).toNat)
  case atStart => exact ⟨0, Nat.zero_le _, by omega, rfl, rfl, Lib.hid (fun j x h => absurd h (by omega))⟩
  case round =>
    obtain ⟨k, hk, hk1, rfl, hwr, HK⟩ := hrel
    subst hwr
    by_cases hlt : k < n
    · have hd : decide ((k : Int) < (n : Int)) = true := by simpa using hlt
      by_cases h10 : k < 10
      · have hd2 : decide ((k : Int) < 10) = true := by simp; omega
        obtain ⟨b, o, x, A2, n2, c2, rfl, hb, hx, hy, hi, q0, q1, q2⟩ := patch_at HE.out hlt
        replace q2 := (HB0.out.cell (p := ⟨b, o + k * 3 + 2, none⟩) (by show b < _; omega)).trans q2
        have HX := Lib.hid hx
        have HY := Lib.hid hy
        have hki : (0 : Int) ≤ (k : Int) := by omega
        clear hx hy q0 q1
        go_wp2_with fail
        refine (RefPatch.much_is A2 n2 c2 B x.runs wr (HY.out.below (HB0.out.mono hB))).mono ?_
        rintro e w' ⟨rfl, rfl⟩
        cases hr : decide (PatchP.Asked x.runs) with
        | false =>
          have HR : Hid ((!decide (Asked ⟨kd, tx, pv, nx, l, ⟨pact, puk, ⟨pst, pk, ⟨pkd, pda, plo, phi, pva⟩⟩, pun⟩⟩)) = true) := Lib.hid (by rw [decide_eq_false (fun ha => of_decide_eq_false hr (ha.2.1 x (List.mem_of_getElem? HX.out)))]; rfl)
          clear hr
          go_wp2
          go_ret
          exact ⟨by rw [HR.out] <;> rfl, HB0.out⟩
        | true =>
          have HR := Lib.hid (of_decide_eq_true hr)
          have HN : Hid (∀ j y, j < k + 1 → l[j]? = some y → PatchP.Asked y.runs) := Lib.hid (fun j y hj hy => by
            by_cases e : j = k
            · subst e; rw [HX.out] at hy; cases hy; exact HR.out
            · exact HK.out j y (by omega) hy)
          clear hr
          go_wp2
          go_roundw
          case rel => exact ⟨k + 1, by omega, by omega, by go_num, (by first | rfl | trivial), HN⟩
          case measure => simp [intOf]; omega
      · have hd2 : decide ((k : Int) < 10) = false := by simp; omega
        have hd5 : decide ((6 : Int) < (n : Int)) = true := by simp; omega
        have HR : Hid ((!decide (Asked ⟨kd, tx, pv, nx, l, ⟨pact, puk, ⟨pst, pk, ⟨pkd, pda, plo, phi, pva⟩⟩, pun⟩⟩)) = true) := Lib.hid (by rw [decide_eq_false (fun ha => absurd ha.1 (by show ¬ l.length ≤ 6; rw [HLEN.out]; omega))]; rfl)
        go_wp2
        go_ret
        exact ⟨by rw [HR.out] <;> rfl, HB0.out⟩
    · have hd : decide ((k : Int) < (n : Int)) = false := by simp; omega
      have HF : Hid (∀ x ∈ l, PatchP.Asked x.runs) := Lib.hid (fun x hx => by
        obtain ⟨j, hj, rfl⟩ := List.getElem_of_mem hx
        exact HK.out j _ (by omega) (List.getElem?_eq_getElem hj))
      by_cases h6 : 6 < n
      · have hd5 : decide ((6 : Int) < (n : Int)) = true := by simp; omega
        have HR : Hid ((!decide (Asked ⟨kd, tx, pv, nx, l, ⟨pact, puk, ⟨pst, pk, ⟨pkd, pda, plo, phi, pva⟩⟩, pun⟩⟩)) = true) := Lib.hid (by rw [decide_eq_false (fun ha => absurd ha.1 (by show ¬ l.length ≤ 6; rw [HLEN.out]; omega))]; rfl)
        go_wp2
        go_ret
        exact ⟨by rw [HR.out] <;> rfl, HB0.out⟩
      have hd5 : decide ((6 : Int) < (n : Int)) = false := by simp; omega
      by_cases hu : 300 < puk.size
      · have hd6 : decide ((300 : Int) < (puk.size : Int)) = true := by simp; omega
        have HR : Hid ((!decide (Asked ⟨kd, tx, pv, nx, l, ⟨pact, puk, ⟨pst, pk, ⟨pkd, pda, plo, phi, pva⟩⟩, pun⟩⟩)) = true) := Lib.hid (by rw [decide_eq_false (fun ha => absurd ha.2.2.1 (by show ¬ puk.size ≤ 300; omega))]; rfl)
        go_wp2
        go_ret
        exact ⟨by rw [HR.out] <;> rfl, HB0.out⟩
      have hd6 : decide ((300 : Int) < (puk.size : Int)) = false := by simp; omega
      by_cases hv : 300 < pk.size
      · have hd7 : decide ((300 : Int) < (pk.size : Int)) = true := by simp; omega
        have HR : Hid ((!decide (Asked ⟨kd, tx, pv, nx, l, ⟨pact, puk, ⟨pst, pk, ⟨pkd, pda, plo, phi, pva⟩⟩, pun⟩⟩)) = true) := Lib.hid (by rw [decide_eq_false (fun ha => absurd ha.2.2.2.1 (by show ¬ pk.size ≤ 300; omega))]; rfl)
        go_wp2
        go_ret
        exact ⟨by rw [HR.out] <;> rfl, HB0.out⟩
      have hd7 : decide ((300 : Int) < (pk.size : Int)) = false := by simp; omega
      by_cases hx : 300 < np
      · have hd8 : decide ((300 : Int) < (np : Int)) = true := by simp; omega
        have HR : Hid ((!decide (Asked ⟨kd, tx, pv, nx, l, ⟨pact, puk, ⟨pst, pk, ⟨pkd, pda, plo, phi, pva⟩⟩, pun⟩⟩)) = true) := Lib.hid (by rw [decide_eq_false (fun ha => absurd ha.2.2.2.2 (by show ¬ pda.length ≤ 300; rw [HPL.out]; omega))]; rfl)
        go_wp2
        go_ret
        exact ⟨by rw [HR.out] <;> rfl, HB0.out⟩
      have hd8 : decide ((300 : Int) < (np : Int)) = false := by simp; omega
      have HR : Hid ((!decide (Asked ⟨kd, tx, pv, nx, l, ⟨pact, puk, ⟨pst, pk, ⟨pkd, pda, plo, phi, pva⟩⟩, pun⟩⟩)) = false) := Lib.hid (by rw [decide_eq_true (show Asked ⟨kd, tx, pv, nx, l, ⟨pact, puk, ⟨pst, pk, ⟨pkd, pda, plo, phi, pva⟩⟩, pun⟩⟩ from ⟨by show l.length ≤ 6; rw [HLEN.out]; omega, HF.out, by show puk.size ≤ 300; omega, by show pk.size ≤ 300; omega, by show pda.length ≤ 300; rw [HPL.out]; omega⟩)]; rfl)
      go_wp2
      go_ret
      exact ⟨by rw [HR.out] <;> rfl, HB0.out⟩
end RefRec
end Go.Proofs.YtpdfnlhhnodnjaaGreat
end
section
namespace Go.Proofs.YtpdfnlhhnodnjaaGreat.WalW
open Go.RowKit RecW
set_option linter.unusedVariables false
set_option linter.unusedSimpArgs false
set_option maxRecDepth 100000 in
set_option maxHeartbeats 1000000 in
theorem code_any (n : Int) (w : World) : Calls Tryz.prog 9 #[.int .i64 n] w fun e w' => e = .returned (.int .i64 n) ∧ w = w' := by
  go_enter Tryz.func9, Tryz.ntmps9
  go_wp2
  go_ret
  exact ⟨rfl, rfl⟩
set_option maxRecDepth 100000 in
set_option maxHeartbeats 1000000 in
theorem append_nil (c0 c1 c2 c3 c4 c5 c6 c7 c8 c9 c10 c11 c12 c13 c14 : Value) (n : Int) (w : World) : Calls Tryz.prog 8 #[.pointer none, .agg #[c0, c1, c2, c3, c4, c5, c6, c7, c8, c9, c10, c11, c12, c13, c14], .int .i64 n] w fun e w' => e = .returned (.tuple #[.int .i64 0, .int .i64 4]) ∧ Below w.heap.size w w' := by
  go_enter Tryz.func8, Tryz.ntmps8
  go_wp2
  exact bodyPost_ret (v := .tuple #[.int .i64 0, .int .i64 4]) (by simp [results, Tryz.results8, go_sem, *]) rfl ⟨rfl, balloc (bsame w) _⟩
set_option maxRecDepth 100000 in
set_option maxHeartbeats 1000000 in
theorem all_nil (w : World) : Calls Tryz.prog 13 #[.pointer none] w fun e w' => e = .returned (.func (.func 28) #[] #[.pointer (some ⟨w.heap.size, 0, none⟩)]) ∧ w.alloc (.cells #[.pointer none] 26) = w' := by
  go_enter Tryz.func13, Tryz.ntmps13
  go_wp2
  go_ret
  exact ⟨rfl, rfl⟩
end Go.Proofs.YtpdfnlhhnodnjaaGreat.WalW
end
