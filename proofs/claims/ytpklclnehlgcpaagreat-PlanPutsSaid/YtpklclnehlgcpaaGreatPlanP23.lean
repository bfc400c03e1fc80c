/-
  Parts of the proof of PlanPuts.
-/
import Derived.Test.YtpklclnehlgcpaaGreatPlanP21
import Derived.Test.YtpklclnehlgcpaaGreatPlanP22
import Derived.Test.YtpklclnehlgcpaaGreatPlanP0
import Derived.Test.YtpklclnehlgcpaaGreatPlanP1
import Derived.Test.YtpklclnehlgcpaaGreatPlanP11
import Derived.Test.YtpklclnehlgcpaaGreatPlanP18
import Derived.Test.YtpklclnehlgcpaaGreatPlanP20
section
namespace Go.Proofs.YtpklclnehlgcpaaGreat.RecP
theorem parts_one (m : Int) (h0 : 0 ≤ m) (h1 : m < 256) : BeP.parts 1 m = [UInt8.ofNat m.toNat] := by
  have e : BeP.u64 m = m.toNat := by unfold BeP.u64; omega
  simp [BeP.parts, BeP.part, e]
theorem byte_of (m : Int) (h0 : 0 ≤ m) (h1 : m < 256) : ((UInt8.ofNat m.toNat).toNat : Int) = m := by
  simp; omega
theorem body_le4 (x : RecX) (h : x.patches.length ≤ 4) (hu : (UndoP.bytes x.undo).length ≤ 100) : (body x).length ≤ 1100000 := by
  have := patsB_le x.patches
  have h2 : x.patches.length * 252005 ≤ 4 * 252005 := Nat.mul_le_mul_right _ h
  rw [body_length]
  omega
end Go.Proofs.YtpklclnehlgcpaaGreat.RecP
namespace Go.Proofs.YtpklclnehlgcpaaGreat.RefRec
open Go.RowKit RecW
set_option linter.unusedVariables false
set_option linter.unusedSimpArgs false
attribute [local go_sem ↓] app_fold
set_option maxRecDepth 100000 in
set_option maxHeartbeats 4000000 in
theorem bytes_any (kd tx pv nx : Int) (A : Option Addr) (n c B : Nat) (l : List PatchX) (pact : Int) (puk : ByteArray) (Ap : Option Addr) (np cp Bp : Nat) (pst : Int) (pk : ByteArray) (pkd : Int) (pda : List UInt8) (plo phi pva : Int) (pun : Int) (w : World) (hE : Elems PatchE w B A n c l) (hB : B ≤ w.heap.size) (hp : Bytes w Bp Ap np cp pda) (hBp : Bp ≤ w.heap.size) (hpk : pk.size ≤ maxLen) (hpuk : puk.size ≤ maxLen) :
    Calls Tryz.prog 14 #[.agg #[.int .i64 kd, .int .i64 tx, .int .i64 pv, .int .i64 nx, .slice A n c, .int .i64 pact, .string puk, .int .i64 pst, .string pk, .int .i64 pkd, .slice Ap np cp, .int .i64 plo, .int .i64 phi, .int .i64 pva, .int .i64 pun]] w (GivesBytes w (RecP.bytes ⟨kd, tx, pv, nx, l, ⟨pact, puk, ⟨pst, pk, ⟨pkd, pda, plo, phi, pva⟩⟩, pun⟩⟩)) := by
  have HE := Lib.hid hE
  have HP := Lib.hid hp
  have hlen := hE.len
  have hcap := hE.cap
  have hcm := hcap.2
  unfold maxLen at hcm
  have HPK := Lib.hid (And.intro hpk hpuk)
  have HLEN := Lib.hid hlen
  have HEC := Lib.hid hE
  clear hE hp
  obtain ⟨W0, hW0⟩ : ∃ W, w.alloc (.cells #[.int .i64 kd, .int .i64 tx, .int .i64 pv, .int .i64 nx, .slice A n c, .int .i64 pact, .string puk, .int .i64 pst, .string pk, .int .i64 pkd, .slice Ap np cp, .int .i64 plo, .int .i64 phi, .int .i64 pva, .int .i64 pun] 42) = W := ⟨_, rfl⟩
  obtain ⟨HS0, HB0, hw0, hz0⟩ := new1 hW0
  have g0 := str15 HS0.out
  have hl0 := HS0.out.lt
  clear hz0
  go_enter Tryz.func14, Tryz.ntmps14
  go_wp2_with fail
  refine (right_any kd tx pv nx A n c B l pact puk Ap np cp Bp pst pk pkd pda plo phi pva pun W0 (HE.out.below (HB0.out.mono hB)) (by omega) (HP.out.below (HB0.out.mono hBp)) (by omega) HPK.out.1 HPK.out.2).mono ?_
  rintro e W1 ⟨rfl, hb1⟩
  have HS1 := Lib.hid (HS0.out.next hb1)
  have HB1 := Lib.hid (bstep HB0.out hb1)
  have hw1 := HB1.out.size
  clear hb1 HS0 HB0 g0 hl0
  have g0 := str15 HS1.out
  have hl0 := HS1.out.lt
  cases hr : RecP.right ⟨kd, tx, pv, nx, l, ⟨pact, puk, ⟨pst, pk, ⟨pkd, pda, plo, phi, pva⟩⟩, pun⟩⟩ with
  | false =>
    have HFIN : Hid (RecP.bytes ⟨kd, tx, pv, nx, l, ⟨pact, puk, ⟨pst, pk, ⟨pkd, pda, plo, phi, pva⟩⟩, pun⟩⟩ = []) := Lib.hid (by unfold RecP.bytes RecP.fits; rw [hr]; rfl)
    clear hr
    go_wp2
    go_ret
    exact ⟨none, 0, 0, rfl, by rw [HFIN.out]; exact Bytes.none_ _ _, HB1.out⟩
  | true =>
    have hR := (RecP.right_iff _).1 hr
    have HR := Lib.hid hr
    obtain ⟨⟨⟨k1, k2⟩, -⟩, k3, -, HPT, -⟩ := hR
    dsimp only at k1 k2 k3 HPT
    rw [hlen] at k3
    have hub := UndoP.bytes_le ⟨pact, puk, ⟨pst, pk, ⟨pkd, pda, plo, phi, pva⟩⟩, pun⟩
    have HBL := Lib.hid (RecP.body_le4 ⟨kd, tx, pv, nx, l, ⟨pact, puk, ⟨pst, pk, ⟨pkd, pda, plo, phi, pva⟩⟩, pun⟩⟩ (by show l.length ≤ 4; rw [hlen]; exact k3) hub)
    have HIN : Hid (RecP.inner ⟨kd, tx, pv, nx, l, ⟨pact, puk, ⟨pst, pk, ⟨pkd, pda, plo, phi, pva⟩⟩, pun⟩⟩ = BeP.parts 1 kd ++ (BeP.parts 8 tx ++ (BeP.parts 8 pv ++ (BeP.parts 8 nx ++ (BeP.parts 1 (n : Int) ++ (RecP.patsB l ++ UndoP.bytes ⟨pact, puk, ⟨pst, pk, ⟨pkd, pda, plo, phi, pva⟩⟩, pun⟩)))))) := Lib.hid (by unfold RecP.inner; dsimp only; rw [hlen])
    have HBO : Hid (RecP.body ⟨kd, tx, pv, nx, l, ⟨pact, puk, ⟨pst, pk, ⟨pkd, pda, plo, phi, pva⟩⟩, pun⟩⟩ = BeP.parts 4 ((CrcP.sum (RecP.inner ⟨kd, tx, pv, nx, l, ⟨pact, puk, ⟨pst, pk, ⟨pkd, pda, plo, phi, pva⟩⟩, pun⟩⟩) : Nat) : Int) ++ RecP.inner ⟨kd, tx, pv, nx, l, ⟨pact, puk, ⟨pst, pk, ⟨pkd, pda, plo, phi, pva⟩⟩, pun⟩⟩) := Lib.hid rfl
    have HFB : Hid (RecP.bytes ⟨kd, tx, pv, nx, l, ⟨pact, puk, ⟨pst, pk, ⟨pkd, pda, plo, phi, pva⟩⟩, pun⟩⟩ = if (RecP.body ⟨kd, tx, pv, nx, l, ⟨pact, puk, ⟨pst, pk, ⟨pkd, pda, plo, phi, pva⟩⟩, pun⟩⟩).length ≤ 65535 then BeP.parts 2 ((RecP.body ⟨kd, tx, pv, nx, l, ⟨pact, puk, ⟨pst, pk, ⟨pkd, pda, plo, phi, pva⟩⟩, pun⟩⟩).length : Nat) ++ RecP.body ⟨kd, tx, pv, nx, l, ⟨pact, puk, ⟨pst, pk, ⟨pkd, pda, plo, phi, pva⟩⟩, pun⟩⟩ else []) := Lib.hid (by unfold RecP.bytes RecP.fits; rw [HR.out]; simp)
    have HUB := Lib.hid hub
    clear hr HPT hub
    -- the kind
    have hkb := RecP.byte_of kd (by omega) (by omega)
    have hone := Own.one W1 (w.heap.size + 1) (by omega) (UInt8.ofNat kd.toNat)
    rw [hkb, ← RecP.parts_one kd (by omega) (by omega)] at hone
    have hw9 : kd % 256 = kd := by omega
    obtain ⟨g2, hK2⟩ := BK.of_own (w0 := w) hone (balloc HB1.out (.cells #[.int .u8 kd] 5)) (HS1.out.alloc _) (Nat.lt_succ_self _)
    have HK := Lib.hid hK2
    clear hK2 hone hkb
    go_wp2_with fail
    obtain ⟨W2, hW2⟩ : ∃ W, W1.alloc (.cells #[.int .u8 kd] 5) = W := ⟨_, rfl⟩
    rw [hW2] at HK ⊢
    clear hW2 hw9 HS1 HB1 g0 hl0
    have g0 := str15 HK.out.box
    have hl0 := HK.out.box.lt
    refine (RefBytes.bytes_any 8 tx _ (by omega)).mono ?_
    rintro e V3 ⟨B3, m3, d3, rfl, hy3, hb3⟩
    have hm3 := hy3.len
    rw [BeP.parts_length] at hm3
    subst hm3
    obtain ⟨A3, c3, W3, g3, happ3, hK3⟩ := (HK.out.next hb3).app hy3 (by omega)
    replace HK := Lib.hid hK3
    clear hK3 hy3 hb3 g0 hl0
    have g0 := str15 HK.out.box
    have hl0 := HK.out.box.lt
    go_wp2_with fail
    clear happ3
    refine (RefBytes.bytes_any 8 pv _ (by omega)).mono ?_
    rintro e V4 ⟨B4, m4, d4, rfl, hy4, hb4⟩
    have hm4 := hy4.len
    rw [BeP.parts_length] at hm4
    subst hm4
    obtain ⟨A4, c4, W4, g4, happ4, hK4⟩ := (HK.out.next hb4).app hy4 (by omega)
    replace HK := Lib.hid hK4
    clear hK4 hy4 hb4 g0 hl0
    have g0 := str15 HK.out.box
    have hl0 := HK.out.box.lt
    go_wp2_with fail
    clear happ4
    refine (RefBytes.bytes_any 8 nx _ (by omega)).mono ?_
    rintro e V5 ⟨B5, m5, d5, rfl, hy5, hb5⟩
    have hm5 := hy5.len
    rw [BeP.parts_length] at hm5
    subst hm5
    obtain ⟨A5, c5, W5, g5, happ5, hK5⟩ := (HK.out.next hb5).app hy5 (by omega)
    replace HK := Lib.hid hK5
    clear hK5 hy5 hb5 g0 hl0
    have g0 := str15 HK.out.box
    have hl0 := HK.out.box.lt
    have hn0 : (0 : Int) ≤ (n : Int) := by omega
    have hkb := RecP.byte_of (n : Int) (by omega) (by omega)
    have hone := (Own.one W5 W5.heap.size (Nat.le_refl _) (UInt8.ofNat (n : Int).toNat)).bytes
    rw [hkb, ← RecP.parts_one (n : Int) (by omega) (by omega)] at hone
    have hw9 : (n : Int) % 256 = (n : Int) := by omega
    obtain ⟨A7, c7, W7, g7, happ7, hK7⟩ := (HK.out.next (balloc (bsame W5) (.cells #[.int .u8 (n : Int)] 5))).app hone (by omega)
    replace HK := Lib.hid hK7
    clear hK7 hone hkb
    have g7' := str15 HK.out.box
    have hl7 := HK.out.box.lt
    obtain ⟨L0, hL0⟩ : ∃ L, BeP.parts 1 kd ++ BeP.parts 8 tx ++ BeP.parts 8 pv ++ BeP.parts 8 nx ++ BeP.parts 1 (n : Int) = L := ⟨_, rfl⟩
    have HIN2 : Hid (RecP.inner ⟨kd, tx, pv, nx, l, ⟨pact, puk, ⟨pst, pk, ⟨pkd, pda, plo, phi, pva⟩⟩, pun⟩⟩ = L0 ++ RecP.patsB l ++ UndoP.bytes ⟨pact, puk, ⟨pst, pk, ⟨pkd, pda, plo, phi, pva⟩⟩, pun⟩) := Lib.hid (by rw [HIN.out, ← hL0]; simp)
    rw [hL0] at HK
    have hL0l : L0.length ≤ 26 := by rw [← hL0]; simp [BeP.parts_length]
    clear hL0 HIN
    go_wp2
    clear happ5 happ7 hw9 g7' hl7
    go_loopw [3, 4] (fun bv iv wr => ∃ (k nk ck : Nat) (gk : Option Nat) (Ak : Option Addr), k ≤ n ∧ bv = .slice Ak nk ck ∧ iv = .int .i64 (k : Int) ∧ nk ≤ 26 + k * 252005 ∧ Hid (BK w wr gk Ak nk ck #[.int .i64 kd, .int .i64 tx, .int .i64 pv, .int .i64 nx, .slice A n c, .int .i64 pact, .string puk, .int .i64 pst, .string pk, .int .i64 pkd, .slice Ap np cp, .int .i64 plo, .int .i64 phi, .int .i64 pva, .int .i64 pun] (L0 ++ RecP.patsB (l.take k)))) (fun _ iv _ => n - (intOf iv).toNat)
    case atStart => exact ⟨0, _, _, g7, A7, Nat.zero_le _, rfl, rfl, by omega, Lib.hid (by simpa [RecP.patsB] using HK.out)⟩
    case round =>
      obtain ⟨k, nk, ck, gk, Ak, hk, rfl, rfl, hnk, HQ⟩ := hrel
      clear HK g0 hl0
      have g0 := str15 HQ.out.box
      have hl0 := HQ.out.box.lt
      have hwr := HQ.out.bel.size
      have hk4 : k * 252005 ≤ 4 * 252005 := Nat.mul_le_mul_right _ (by omega)
      by_cases hlt : k < n
      · have hd : decide ((k : Int) < (n : Int)) = true := by simp; omega
        obtain ⟨b, o, x, A4, n4, c4, rfl, hb, hx, hy, hi, q0, q1, q2⟩ := patch_at HE.out hlt
        replace q0 := (HQ.out.bel.cell (p := ⟨b, o + k * 3, none⟩) (by show b < _; omega)).trans q0
        replace q1 := (HQ.out.bel.cell (p := ⟨b, o + k * 3 + 1, none⟩) (by show b < _; omega)).trans q1
        replace q2 := (HQ.out.bel.cell (p := ⟨b, o + k * 3 + 2, none⟩) (by show b < _; omega)).trans q2
        have HX := Lib.hid (RecP.patsB_snoc l k x hx)
        have HY := Lib.hid hy
        have hpl := RecP.patch_le x
        clear hx hy
        go_wp2_with fail
        refine (RefPatch.bytes_any x A4 n4 c4 B wr (HY.out.below (HQ.out.bel.mono hB)) (by omega) hi).mono ?_
        rintro e W9 ⟨A9, n9, c9, rfl, hy9, hb9⟩
        have hn9 := hy9.len
        rw [hn9] at hpl
        obtain ⟨A10, c10, W10, g10, happ10, hK10⟩ := (HQ.out.next hb9).app hy9 (by omega)
        rw [List.append_assoc, ← HX.out] at hK10
        have HK11 := Lib.hid hK10
        have hnk2 : nk + n9 ≤ 26 + (k + 1) * 252005 := by rw [Nat.add_mul]; omega
        clear hK10 hy9 hb9 HQ g0 hl0 q0 q1 q2 hn9
        go_wp2
        go_roundw
        case rel => exact ⟨k + 1, _, c10, g10, A10, by omega, rfl, by go_num, hnk2, HK11⟩
        case measure => simp [intOf]; omega
      · have hd : decide ((k : Int) < (n : Int)) = false := by simp; omega
        have hkn : k = n := by omega
        subst hkn
        have htk : l.take k = l := List.take_of_length_le (by rw [HLEN.out]; exact Nat.le_refl _)
        rw [htk] at HQ
        clear htk
        go_wp2_with fail
        refine (RefUndoB.bytes_any pact puk Ap np cp Bp pst pk pkd pda plo phi pva pun wr (HP.out.below (HQ.out.bel.mono hBp)) (by omega) HPK.out.1 HPK.out.2).mono ?_
        rintro e W9 ⟨A9, n9, c9, rfl, hy9, hb9⟩
        have hn9 := hy9.len
        have hub := HUB.out
        rw [hn9] at hub
        obtain ⟨A10, c10, W10, g10, happ10, hK10⟩ := (HQ.out.next hb9).app hy9 (by omega)
        rw [← HIN2.out] at hK10
        have HK10 := Lib.hid hK10
        clear hK10 hy9 hb9 HQ g0 hl0 hn9
        go_wp2_with fail
        refine (RefCrc.seal_any A10 (nk + n9) c10 W10.heap.size (RecP.inner ⟨kd, tx, pv, nx, l, ⟨pact, puk, ⟨pst, pk, ⟨pkd, pda, plo, phi, pva⟩⟩, pun⟩⟩) W10 HK10.out.own.bytes (Nat.le_refl _) (by omega)).mono ?_
        rintro e W11 ⟨A11, n11, c11, rfl, hy11, hb11⟩
        rw [← HBO.out] at hy11
        have hn11 := hy11.len
        have hbl := HBL.out
        rw [hn11] at hbl
        have HY11 := Lib.hid hy11
        have HB11 := Lib.hid (bstep HK10.out.bel hb11)
        have HFB2 : Hid (RecP.bytes ⟨kd, tx, pv, nx, l, ⟨pact, puk, ⟨pst, pk, ⟨pkd, pda, plo, phi, pva⟩⟩, pun⟩⟩ = if n11 ≤ 65535 then BeP.parts 2 (n11 : Int) ++ RecP.body ⟨kd, tx, pv, nx, l, ⟨pact, puk, ⟨pst, pk, ⟨pkd, pda, plo, phi, pva⟩⟩, pun⟩⟩ else []) := Lib.hid (by rw [HFB.out, hn11])
        clear hy11 hb11 HK10 happ10 hn11
        by_cases hbig : 65535 < n11
        · have hd3 : decide ((65535 : Int) < (n11 : Int)) = true := by simp; omega
          have HFIN : Hid (RecP.bytes ⟨kd, tx, pv, nx, l, ⟨pact, puk, ⟨pst, pk, ⟨pkd, pda, plo, phi, pva⟩⟩, pun⟩⟩ = []) := Lib.hid (by rw [HFB2.out, if_neg (by omega)])
          go_wp2
          go_ret
          exact ⟨none, 0, 0, rfl, by rw [HFIN.out]; exact Bytes.none_ _ _, HB11.out⟩
        · have hd3 : decide ((65535 : Int) < (n11 : Int)) = false := by simp; omega
          have HFIN : Hid (RecP.bytes ⟨kd, tx, pv, nx, l, ⟨pact, puk, ⟨pst, pk, ⟨pkd, pda, plo, phi, pva⟩⟩, pun⟩⟩ = BeP.parts 2 (n11 : Int) ++ RecP.body ⟨kd, tx, pv, nx, l, ⟨pact, puk, ⟨pst, pk, ⟨pkd, pda, plo, phi, pva⟩⟩, pun⟩⟩) := Lib.hid (by rw [HFB2.out, if_pos (by omega)])
          go_wp2_with fail
          refine (RefBytesO.bytes_any 2 (n11 : Int) W11 (by omega)).mono ?_
          rintro e W12 ⟨A12, n12, c12, rfl, hO12, hb12⟩
          have hn12 : n12 = 2 := by rw [← hO12.len, BeP.parts_length]
          subst hn12
          obtain ⟨A13, c13, W13, happ13, hO13, hb13⟩ := hO12.app (HY11.out.next hb12) (by omega) hb12.size
          rw [← HFIN.out] at hO13
          have HO13 := Lib.hid hO13
          have HB13 := Lib.hid (bstep HB11.out (hb12.trans hb13))
          clear hO12 hb12 hO13 hb13 HY11
          go_wp2
          go_ret
          exact ⟨A13, _, c13, rfl, HO13.out.bytes, HB13.out⟩
end Go.Proofs.YtpklclnehlgcpaaGreat.RefRec
end
section
namespace Go.Proofs.YtpklclnehlgcpaaGreat
open Go.ChangeShapes Go.WideShapes Go.ChangeAt Go.RowKit
set_option linter.unusedVariables false
set_option maxRecDepth 100000

section
variable {H : Type} {enc : TypeId × Value → H} {W : World} {base : Nat} {v : Value} {d : DataW H} {p : List MemPlace}
end
end Go.Proofs.YtpklclnehlgcpaaGreat
end
section
namespace Go.Proofs.YtpklclnehlgcpaaGreat
open Go.ChangeShapes Go.WideShapes Go.ChangeAt Go.RowKit
set_option linter.unusedVariables false
set_option maxRecDepth 100000

/-- an item as a value -/
def RItem (w : World) (B : Nat) (v : Value) (x : Item) : Prop :=
  ∃ A n cap, v = .agg #[.int .i64 x.state, .string x.key, .int .i64 x.cell.kind, .slice A n cap, .int .i64 x.cell.lo, .int .i64 x.cell.hi, .int .i64 x.cell.val] ∧ Bytes w B A n cap x.cell.data ∧ x.key.size ≤ maxLen ∧ SlotP.In x
def RArr (n : Nat) (v : Value) (l : List UInt8) : Prop := v = .agg (rowV l) ∧ l.length = n
section
variable {H : Type} {enc : TypeId × Value → H} {P : Program} {w : World}
def byteOfV (v : Value) : UInt8 := match v with | .int _ z => UInt8.ofNat z.toNat | _ => 0
theorem arr_of {fuel n : Nat} {t e : TypeId} {cs : List Value} {x : DataW H × List MemPlace} (ht : P.underlying t = some (.array n e)) (he : P.underlying e = some (.int .u8)) (hce : P.cellsOf e = 1) (hct : P.cellsOf t = n)
    (h : DataW.trod enc P w 0 (fun _ => true) true fuel t cs = some x) : ∃ l, RArr n (.agg ⟨cs⟩) l := by
  obtain ⟨xs, m, _, _, hl, hx, hf⟩ := DataW.trod_array ht h
  rw [hct] at hl
  refine ⟨cs.map byteOfV, ?_, by simpa using hl⟩
  have : cs = (cs.map byteOfV).map byteV := by
    refine List.ext_getElem? fun i => ?_
    by_cases hi : i < cs.length
    · have h1 := hf i (by omega)
      rw [hce, Nat.mul_one, List.getElem?_eq_getElem (by omega)] at h1
      have h2 : (cs.drop i).take 1 = [cs[i]] := by rw [List.drop_eq_getElem_cons hi]; rfl
      rw [h2] at h1
      obtain ⟨z, e1, _, q⟩ := DataW.trod_int he h1
      have e2 : cs[i] = .int .u8 z := by simpa using e1
      rw [List.getElem?_map, List.getElem?_map, List.getElem?_eq_getElem hi, e2]
      simp only [Option.map_some, byteOfV, byteV, u8_of q]
    · rw [List.getElem?_eq_none (by omega), List.getElem?_eq_none (by simp; omega)]
  show Value.agg ⟨cs⟩ = .agg (rowV _)
  unfold rowV
  rw [← this]
end
section
variable {H : Type} {enc : TypeId × Value → H} {W : World} {base : Nat} {v : Value} {d : DataW H} {p : List MemPlace}
theorem open_item (hv : Value.okWide Tryz.prog W .any base 27 v) (h : DataW.Trod enc Tryz.prog W 0 (fun _ => true) true 27 v d p) : ∃ x, RItem W W.heap.size v x := by
  obtain ⟨cs, rfl, hsz⟩ := okWide_struct Tryz.underlying27 hv
  obtain ⟨l⟩ := cs
  obtain ⟨fuel, hf⟩ := h
  obtain ⟨hl, n, hg⟩ := field_of Tryz.underlying27 hf
  have hl' : l.length = 7 := hl.trans (by kernel_rfl)
  match l, hl' with
  | [c0, c1, c2, c3, c4, c5, c6], _ =>
    obtain ⟨y0, h0⟩ := hg 0 3 0 1 rfl (by kernel_rfl)
    have h0' : DataW.trod enc Tryz.prog W 0 (fun _ => true) true n 3 [c0] = some y0 := h0
    obtain ⟨z0, e0, _, q0⟩ := DataW.trod_int Tryz.underlying3 h0'
    obtain ⟨y1, h1⟩ := hg 1 9 1 1 rfl (by kernel_rfl)
    have h1' : DataW.trod enc Tryz.prog W 0 (fun _ => true) true n 9 [c1] = some y1 := h1
    obtain ⟨z1, e1, _, q1⟩ := DataW.trod_string Tryz.underlying9 h1'
    obtain ⟨w2, g2⟩ := hg 2 25 2 5 rfl (by kernel_rfl)
    have g2' : DataW.trod enc Tryz.prog W 0 (fun _ => true) true n 25 [c2, c3, c4, c5, c6] = some w2 := g2
    obtain ⟨_, m2, hg2⟩ := field_of Tryz.underlying25 g2'
    obtain ⟨y2, h2⟩ := hg2 0 3 0 1 rfl (by kernel_rfl)
    have h2' : DataW.trod enc Tryz.prog W 0 (fun _ => true) true m2 3 [c2] = some y2 := h2
    obtain ⟨z2, e2, _, q2⟩ := DataW.trod_int Tryz.underlying3 h2'
    obtain ⟨y3, h3⟩ := hg2 1 23 1 1 rfl (by kernel_rfl)
    have h3' : DataW.trod enc Tryz.prog W 0 (fun _ => true) true m2 23 [c3] = some y3 := h3
    obtain ⟨A3, n3, k3, z3, e3, q3⟩ := bytes_of Tryz.underlying23 Tryz.underlying5 (by kernel_rfl) h3'
    obtain ⟨y4, h4⟩ := hg2 2 3 2 1 rfl (by kernel_rfl)
    have h4' : DataW.trod enc Tryz.prog W 0 (fun _ => true) true m2 3 [c4] = some y4 := h4
    obtain ⟨z4, e4, _, q4⟩ := DataW.trod_int Tryz.underlying3 h4'
    obtain ⟨y5, h5⟩ := hg2 3 3 3 1 rfl (by kernel_rfl)
    have h5' : DataW.trod enc Tryz.prog W 0 (fun _ => true) true m2 3 [c5] = some y5 := h5
    obtain ⟨z5, e5, _, q5⟩ := DataW.trod_int Tryz.underlying3 h5'
    obtain ⟨y6, h6⟩ := hg2 4 3 4 1 rfl (by kernel_rfl)
    have h6' : DataW.trod enc Tryz.prog W 0 (fun _ => true) true m2 3 [c6] = some y6 := h6
    obtain ⟨z6, e6, _, q6⟩ := DataW.trod_int Tryz.underlying3 h6'
    simp only [List.cons.injEq, and_true] at e0 e1 e2 e3 e4 e5 e6
    subst e0 e1 e2 e3 e4 e5 e6
    exact ⟨⟨z0, z1, ⟨z2, z3, z4, z5, z6⟩⟩, A3, n3, k3, rfl, q3, q1, in64 q0, in64 q2, in64 q4, in64 q5, in64 q6⟩
theorem open_a512 (hv : Value.okWide Tryz.prog W .any base 22 v) (h : DataW.Trod enc Tryz.prog W 0 (fun _ => true) true 22 v d p) : ∃ l, RArr 512 v l := by
  have hv' := hv
  simp only [Value.okWide, Tryz.underlying22] at hv'
  obtain ⟨cs, rfl, hsz, _⟩ := hv'
  obtain ⟨l⟩ := cs
  obtain ⟨fuel, hf⟩ := h
  exact arr_of Tryz.underlying22 Tryz.underlying5 (by kernel_rfl) (by kernel_rfl) hf
end
end Go.Proofs.YtpklclnehlgcpaaGreat
end
section
namespace Go.Proofs.YtpklclnehlgcpaaGreat
open Go.RowKit
set_option linter.unusedVariables false
set_option linter.unusedSimpArgs false
namespace Reg
def small (m : Nat) : SP ext := ⟨fun v _ => ∃ n : Nat, v = .int .i64 (n : Int) ∧ n ≤ m, fun _ _ _ _ h => h⟩
end Reg
namespace planPuts
open PlanW
open RecW (str15)
attribute [local go_sem ↓] alPage_fold ldPage_fold stPage_fold bdPage_fold slPage_fold ld512_fold sl512_fold
theorem same_self (x : PatchX) : PatchP.same x x = true := by simp [PatchP.same]
/-- one patch as a literal -/
theorem patch_one {w : World} {b n c : Nat} {A : Option Addr} {x : PatchX} (hs : Str w b #[.int .i64 x.page, .bool x.fresh, .slice A n c]) (hE : Elems RunE w w.heap.size A n c x.runs) (hi : In64 x.page) : Elems PatchE w w.heap.size (some ⟨b, 0, none⟩) 1 1 [x] :=
  ⟨[patchV x A n c], ⟨⟨A, n, c, rfl, hE, hi⟩, trivial⟩, rfl, Nat.le_refl _, by unfold maxLen; omega, fun _ => ⟨b, 0, rfl, hs.lt, fun j v hv => by
    rw [List.flatten_singleton] at hv
    rw [hs.cell, Nat.zero_add]
    simpa [patchV] using hv⟩⟩
set_option maxRecDepth 100000 in
set_option maxHeartbeats 4000000 in
theorem walk (v0 v1 v2 : Value) (p : List UInt8) (i : Int) (a2 : Item) (w : World) (g0 : RArr 512 v0 p) (g1 : RInt w v1 i) (g2 : RItem w w.heap.size v2 a2) :
    Calls Tryz.prog 3 #[v0, v1, v2] w fun e w' => e = .returned (.bool true) ∧ Below w.heap.size w w' := by
  obtain ⟨rfl, hl⟩ := g0
  obtain ⟨rfl, -⟩ := g1
  obtain ⟨A, n, cap, rfl, hA, hka, -⟩ := g2
  have HL := Lib.hid hl
  have HA := Lib.hid hA
  have HKA := Lib.hid hka
  have hn := Nat.le_trans hA.2.1 hA.2.2.1
  have hbig := fun W => big_any A n cap a2 W hka hA.len hn
  have HPB := Lib.hid (PlanP.put_back hl i a2)
  have HPS := Lib.hid (PlanP.put_small hl i a2 2 1 0 0)
  have HLW := Lib.hid (PageP.withSlot_length p hl i a2)
  have HNO := Lib.hid (PlanP.num2 p)
  clear hA hl hka
  obtain ⟨s, k, ⟨kind, data, lo, hi, val⟩⟩ := a2
  dsimp only [PlanW.itV] at *
  cases hb : bigI ⟨s, k, ⟨kind, data, lo, hi, val⟩⟩ with
  | true =>
    rw [hb] at hbig
    go_enter Tryz.func3, Tryz.ntmps3
    go_wp2_with (first | (go_at_call 5; refine (hbig _).mono ?_; rintro e w' ⟨rfl, hbb⟩) | (go_at_call 6; refine (live_any _).mono ?_; rintro e w'' ⟨rfl, hbc⟩))
    go_ret
    exact ⟨rfl, bstep (bstep (balloc (balloc (bsame w) _) _) hbb) hbc⟩
  | false =>
  rw [hb] at hbig
  clear hb
  go_enter Tryz.func3, Tryz.ntmps3
  go_wp2_with fail
  generalize hW0 : ((w).alloc (.cells (rowV p) 22)).alloc (.cells #[.int .i64 s, .string k, .int .i64 kind, .slice A n cap, .int .i64 lo, .int .i64 hi, .int .i64 val] 27) = W0
  have HS0_0 : Hid (Str W0 (w.heap.size) (rowV p)) := Lib.hid (by rw [← hW0]; have := (Str.new (w) (rowV p) 22).alloc (.cells #[.int .i64 s, .string k, .int .i64 kind, .slice A n cap, .int .i64 lo, .int .i64 hi, .int .i64 val] 27); simpa using this)
  have HS1_0 : Hid (Str W0 (w.heap.size + 1) #[.int .i64 s, .string k, .int .i64 kind, .slice A n cap, .int .i64 lo, .int .i64 hi, .int .i64 val]) := Lib.hid (by rw [← hW0]; have := Str.new ((w).alloc (.cells (rowV p) 22)) #[.int .i64 s, .string k, .int .i64 kind, .slice A n cap, .int .i64 lo, .int .i64 hi, .int .i64 val] 27; simpa using this)
  have HB_0 : Hid (Below w.heap.size w W0) := Lib.hid (by rw [← hW0]; exact balloc (balloc (bsame w) _) _)
  have hw_0 := HB_0.out.size
  clear hW0
  have hl0_0 := HS0_0.out.lt
  obtain ⟨f1_0_0, f1_0_1, f1_0_2, f1_0_3, f1_0_4, f1_0_5, f1_0_6⟩ := str7 HS1_0.out
  have hl1_0 := HS1_0.out.lt
  refine (hbig _).mono ?_
  rintro e W1 ⟨rfl, hb1⟩
  have HS0_1 := Lib.hid (HS0_0.out.next hb1)
  have HS1_1 := Lib.hid (HS1_0.out.next hb1)
  have HB_1 := Lib.hid (bstep HB_0.out hb1)
  have hw_1 := HB_1.out.size
  have hws_1 := (hb1).size
  clear HS0_0 f1_0_0 f1_0_1 f1_0_2 f1_0_3 f1_0_4 f1_0_5 f1_0_6 HS1_0
  clear hb1
  have hl0_1 := HS0_1.out.lt
  obtain ⟨f1_1_0, f1_1_1, f1_1_2, f1_1_3, f1_1_4, f1_1_5, f1_1_6⟩ := str7 HS1_1.out
  have hl1_1 := HS1_1.out.lt
  clear hbig
  have hld := run_ld (P := Tryz.prog) arr512 HS0_1.out HL.out
  have hal := fun W => run_al (P := Tryz.prog) arrPage W
  have hst1 := run_st (P := Tryz.prog) arrPage (Str.new W1 (rowV (SlotP.zeros 512)) 30) (by rw [rowV_size]; exact SlotPut.zeros_len 512) (HL.out)
  obtain ⟨W2, hW2⟩ : ∃ W, (W1.alloc (.cells (rowV (SlotP.zeros 512)) 30)).setRow W1.heap.size (rowV p) = W := ⟨_, rfl⟩
  rw [hW2] at hst1
  have HS0_2 : Hid (Str W2 (w.heap.size) (rowV p)) := Lib.hid (by rw [← hW2]; exact (HS0_1.out.alloc _).setRow_other (by omega))
  have HS1_2 : Hid (Str W2 (w.heap.size + 1) #[.int .i64 s, .string k, .int .i64 kind, .slice A n cap, .int .i64 lo, .int .i64 hi, .int .i64 val]) := Lib.hid (by rw [← hW2]; exact (HS1_1.out.alloc _).setRow_other (by omega))
  have HS2_2 : Hid (Str W2 (W1.heap.size) (rowV p)) := Lib.hid (by rw [← hW2]; exact (Str.new W1 (rowV (SlotP.zeros 512)) 30).setRow)
  have hba2 : Below W1.heap.size W1 W2 := by rw [← hW2]; exact below_setRow (balloc (bsame _) _) (Nat.le_refl _) _
  have HB_2 := Lib.hid (bstep HB_1.out hba2)
  have hw_2 := HB_2.out.size
  have hws_2 := hba2.size
  clear hW2 hba2
  clear HS0_1 f1_1_0 f1_1_1 f1_1_2 f1_1_3 f1_1_4 f1_1_5 f1_1_6 HS1_1
  have hl0_2 := HS0_2.out.lt
  obtain ⟨f1_2_0, f1_2_1, f1_2_2, f1_2_3, f1_2_4, f1_2_5, f1_2_6⟩ := str7 HS1_2.out
  have hl1_2 := HS1_2.out.lt
  have hl2_2 := HS2_2.out.lt
  go_wp2_with fail
  clear hld hal hst1
  have hldp := run_ld (P := Tryz.prog) arrPage HS2_2.out HL.out
  go_simp
  go_wp2_with fail
  refine (Put_any p HL.out i A n cap w.heap.size ⟨s, k, ⟨kind, data, lo, hi, val⟩⟩ _ (HA.out.below HB_2.out) HB_2.out.size HKA.out).mono ?_
  rintro e W3 ⟨A1, n1, c1, rfl, hO1, hb3⟩
  dsimp only [patchV, PlanP.put]
  clear hldp
  have HS0_3 := Lib.hid (HS0_2.out.next hb3)
  have HS1_3 := Lib.hid (HS1_2.out.next hb3)
  have HS2_3 := Lib.hid (HS2_2.out.next hb3)
  have HB_3 := Lib.hid (bstep HB_2.out hb3)
  have hw_3 := HB_3.out.size
  have hws_3 := (hb3).size
  clear HS0_2 f1_2_0 f1_2_1 f1_2_2 f1_2_3 f1_2_4 f1_2_5 f1_2_6 HS1_2 HS2_2
  clear hb3
  have hl0_3 := HS0_3.out.lt
  obtain ⟨f1_3_0, f1_3_1, f1_3_2, f1_3_3, f1_3_4, f1_3_5, f1_3_6⟩ := str7 HS1_3.out
  have hl1_3 := HS1_3.out.lt
  have hl2_3 := HS2_3.out.lt
  have HYE_3 := Lib.hid (hO1)
  clear hO1
  go_wp2_with fail
  generalize hW4 : W3.alloc (.cells #[.int .i64 (NumP.val p 12 2), .bool false, .slice A1 n1 c1] 33) = W4
  have HS0_4 : Hid (Str W4 (w.heap.size) (rowV p)) := Lib.hid (by rw [← hW4]; exact HS0_3.out.alloc _)
  have HS1_4 : Hid (Str W4 (w.heap.size + 1) #[.int .i64 s, .string k, .int .i64 kind, .slice A n cap, .int .i64 lo, .int .i64 hi, .int .i64 val]) := Lib.hid (by rw [← hW4]; exact HS1_3.out.alloc _)
  have HS2_4 : Hid (Str W4 (W1.heap.size) (rowV p)) := Lib.hid (by rw [← hW4]; exact HS2_3.out.alloc _)
  have HS3_4 : Hid (Str W4 W3.heap.size #[.int .i64 (NumP.val p 12 2), .bool false, .slice A1 n1 c1]) := Lib.hid (by rw [← hW4]; exact Str.new W3 #[.int .i64 (NumP.val p 12 2), .bool false, .slice A1 n1 c1] 33)
  have hba4 : Below W3.heap.size W3 W4 := by rw [← hW4]; exact balloc (bsame _) _
  have HB_4 := Lib.hid (bstep HB_3.out hba4)
  have hw_4 := HB_4.out.size
  have hws_4 := hba4.size
  have HYE_4 := Lib.hid (HYE_3.out.next hba4)
  clear HYE_3
  clear hW4
  clear HS0_3 f1_3_0 f1_3_1 f1_3_2 f1_3_3 f1_3_4 f1_3_5 f1_3_6 HS1_3 HS2_3
  have hl0_4 := HS0_4.out.lt
  obtain ⟨f1_4_0, f1_4_1, f1_4_2, f1_4_3, f1_4_4, f1_4_5, f1_4_6⟩ := str7 HS1_4.out
  have hl1_4 := HS1_4.out.lt
  have hl2_4 := HS2_4.out.lt
  obtain ⟨f3_4_0, f3_4_1, f3_4_2⟩ := str3 HS3_4.out
  have hl3_4 := HS3_4.out.lt
  clear hba4
  have hldp := run_ld (P := Tryz.prog) arrPage HS2_4.out HL.out
  rw [hldp]
  go_wp2_with fail
  refine (PlanW.Apply_any p HL.out (PlanP.put p i ⟨s, k, ⟨kind, data, lo, hi, val⟩⟩) A1 n1 c1 W4.heap.size W4 HYE_4.out.elems (Nat.le_refl _)).mono ?_
  rintro e W5 ⟨rfl, hb5⟩
  rw [HPB.out]
  clear hldp
  have HS0_5 := Lib.hid (HS0_4.out.next hb5)
  have HS1_5 := Lib.hid (HS1_4.out.next hb5)
  have HS2_5 := Lib.hid (HS2_4.out.next hb5)
  have HS3_5 := Lib.hid (HS3_4.out.next hb5)
  have HB_5 := Lib.hid (bstep HB_4.out hb5)
  have hw_5 := HB_5.out.size
  have hws_5 := (hb5).size
  have HYE_5 := Lib.hid (HYE_4.out.next hb5)
  clear HYE_4
  clear HS0_4 f1_4_0 f1_4_1 f1_4_2 f1_4_3 f1_4_4 f1_4_5 f1_4_6 HS1_4 HS2_4 f3_4_0 f3_4_1 f3_4_2 HS3_4
  clear hb5
  have hl0_5 := HS0_5.out.lt
  obtain ⟨f1_5_0, f1_5_1, f1_5_2, f1_5_3, f1_5_4, f1_5_5, f1_5_6⟩ := str7 HS1_5.out
  have hl1_5 := HS1_5.out.lt
  have hl2_5 := HS2_5.out.lt
  obtain ⟨f3_5_0, f3_5_1, f3_5_2⟩ := str3 HS3_5.out
  have hl3_5 := HS3_5.out.lt
  have hal := fun W => run_al (P := Tryz.prog) arrPage W
  have hst5 := run_st (P := Tryz.prog) arrPage (Str.new W5 (rowV (SlotP.zeros 512)) 30) (by rw [rowV_size]; exact SlotPut.zeros_len 512) (HLW.out)
  obtain ⟨W6, hW6⟩ : ∃ W, (W5.alloc (.cells (rowV (SlotP.zeros 512)) 30)).setRow W5.heap.size (rowV (PageP.withSlot p i ⟨s, k, ⟨kind, data, lo, hi, val⟩⟩)) = W := ⟨_, rfl⟩
  rw [hW6] at hst5
  have HS0_6 : Hid (Str W6 (w.heap.size) (rowV p)) := Lib.hid (by rw [← hW6]; exact (HS0_5.out.alloc _).setRow_other (by omega))
  have HS1_6 : Hid (Str W6 (w.heap.size + 1) #[.int .i64 s, .string k, .int .i64 kind, .slice A n cap, .int .i64 lo, .int .i64 hi, .int .i64 val]) := Lib.hid (by rw [← hW6]; exact (HS1_5.out.alloc _).setRow_other (by omega))
  have HS2_6 : Hid (Str W6 (W1.heap.size) (rowV p)) := Lib.hid (by rw [← hW6]; exact (HS2_5.out.alloc _).setRow_other (by omega))
  have HS3_6 : Hid (Str W6 (W3.heap.size) #[.int .i64 (NumP.val p 12 2), .bool false, .slice A1 n1 c1]) := Lib.hid (by rw [← hW6]; exact (HS3_5.out.alloc _).setRow_other (by omega))
  have HS4_6 : Hid (Str W6 (W5.heap.size) (rowV (PageP.withSlot p i ⟨s, k, ⟨kind, data, lo, hi, val⟩⟩))) := Lib.hid (by rw [← hW6]; exact (Str.new W5 (rowV (SlotP.zeros 512)) 30).setRow)
  have hba6 : Below W5.heap.size W5 W6 := by rw [← hW6]; exact below_setRow (balloc (bsame _) _) (Nat.le_refl _) _
  have HB_6 := Lib.hid (bstep HB_5.out hba6)
  have hw_6 := HB_6.out.size
  have hws_6 := hba6.size
  have HYE_6 := Lib.hid (HYE_5.out.next hba6)
  clear HYE_5
  clear hW6 hba6
  clear HS0_5 f1_5_0 f1_5_1 f1_5_2 f1_5_3 f1_5_4 f1_5_5 f1_5_6 HS1_5 HS2_5 f3_5_0 f3_5_1 f3_5_2 HS3_5
  have hl0_6 := HS0_6.out.lt
  obtain ⟨f1_6_0, f1_6_1, f1_6_2, f1_6_3, f1_6_4, f1_6_5, f1_6_6⟩ := str7 HS1_6.out
  have hl1_6 := HS1_6.out.lt
  have hl2_6 := HS2_6.out.lt
  obtain ⟨f3_6_0, f3_6_1, f3_6_2⟩ := str3 HS3_6.out
  have hl3_6 := HS3_6.out.lt
  have hl4_6 := HS4_6.out.lt
  go_wp2_with fail
  clear hal hst5
  generalize hW7 : W6.alloc (.cells #[.int .i64 (NumP.val p 12 2), .bool false, .slice A1 n1 c1] 33) = W7
  have HS0_7 : Hid (Str W7 (w.heap.size) (rowV p)) := Lib.hid (by rw [← hW7]; exact HS0_6.out.alloc _)
  have HS1_7 : Hid (Str W7 (w.heap.size + 1) #[.int .i64 s, .string k, .int .i64 kind, .slice A n cap, .int .i64 lo, .int .i64 hi, .int .i64 val]) := Lib.hid (by rw [← hW7]; exact HS1_6.out.alloc _)
  have HS2_7 : Hid (Str W7 (W1.heap.size) (rowV p)) := Lib.hid (by rw [← hW7]; exact HS2_6.out.alloc _)
  have HS3_7 : Hid (Str W7 (W3.heap.size) #[.int .i64 (NumP.val p 12 2), .bool false, .slice A1 n1 c1]) := Lib.hid (by rw [← hW7]; exact HS3_6.out.alloc _)
  have HS4_7 : Hid (Str W7 (W5.heap.size) (rowV (PageP.withSlot p i ⟨s, k, ⟨kind, data, lo, hi, val⟩⟩))) := Lib.hid (by rw [← hW7]; exact HS4_6.out.alloc _)
  have HS5_7 : Hid (Str W7 W6.heap.size #[.int .i64 (NumP.val p 12 2), .bool false, .slice A1 n1 c1]) := Lib.hid (by rw [← hW7]; exact Str.new W6 #[.int .i64 (NumP.val p 12 2), .bool false, .slice A1 n1 c1] 33)
  have hba7 : Below W6.heap.size W6 W7 := by rw [← hW7]; exact balloc (bsame _) _
  have HB_7 := Lib.hid (bstep HB_6.out hba7)
  have hw_7 := HB_7.out.size
  have hws_7 := hba7.size
  have HYE_7 := Lib.hid (HYE_6.out.next hba7)
  clear HYE_6
  have hz7 : W7.heap.size = W6.heap.size + 1 := by rw [← hW7]; simp
  clear hW7
  clear HS0_6 f1_6_0 f1_6_1 f1_6_2 f1_6_3 f1_6_4 f1_6_5 f1_6_6 HS1_6 HS2_6 f3_6_0 f3_6_1 f3_6_2 HS3_6 HS4_6
  have hl0_7 := HS0_7.out.lt
  obtain ⟨f1_7_0, f1_7_1, f1_7_2, f1_7_3, f1_7_4, f1_7_5, f1_7_6⟩ := str7 HS1_7.out
  have hl1_7 := HS1_7.out.lt
  have hl2_7 := HS2_7.out.lt
  obtain ⟨f3_7_0, f3_7_1, f3_7_2⟩ := str3 HS3_7.out
  have hl3_7 := HS3_7.out.lt
  have hl4_7 := HS4_7.out.lt
  obtain ⟨f5_7_0, f5_7_1, f5_7_2⟩ := str3 HS5_7.out
  have hl5_7 := HS5_7.out.lt
  generalize hW8 : W7.alloc (.cells #[.int .i64 2, .int .i64 1, .int .i64 0, .int .i64 0, .slice (some ⟨W6.heap.size, 0, none⟩) 1 1, .int .i64 0, .string ⟨#[]⟩, .int .i64 0, .string ⟨#[]⟩, .int .i64 0, .slice none 0 0, .int .i64 0, .int .i64 0, .int .i64 0, .int .i64 0] 42) = W8
  have HS0_8 : Hid (Str W8 (w.heap.size) (rowV p)) := Lib.hid (by rw [← hW8]; exact HS0_7.out.alloc _)
  have HS1_8 : Hid (Str W8 (w.heap.size + 1) #[.int .i64 s, .string k, .int .i64 kind, .slice A n cap, .int .i64 lo, .int .i64 hi, .int .i64 val]) := Lib.hid (by rw [← hW8]; exact HS1_7.out.alloc _)
  have HS2_8 : Hid (Str W8 (W1.heap.size) (rowV p)) := Lib.hid (by rw [← hW8]; exact HS2_7.out.alloc _)
  have HS3_8 : Hid (Str W8 (W3.heap.size) #[.int .i64 (NumP.val p 12 2), .bool false, .slice A1 n1 c1]) := Lib.hid (by rw [← hW8]; exact HS3_7.out.alloc _)
  have HS4_8 : Hid (Str W8 (W5.heap.size) (rowV (PageP.withSlot p i ⟨s, k, ⟨kind, data, lo, hi, val⟩⟩))) := Lib.hid (by rw [← hW8]; exact HS4_7.out.alloc _)
  have HS5_8 : Hid (Str W8 (W6.heap.size) #[.int .i64 (NumP.val p 12 2), .bool false, .slice A1 n1 c1]) := Lib.hid (by rw [← hW8]; exact HS5_7.out.alloc _)
  have HS6_8 : Hid (Str W8 W7.heap.size #[.int .i64 2, .int .i64 1, .int .i64 0, .int .i64 0, .slice (some ⟨W6.heap.size, 0, none⟩) 1 1, .int .i64 0, .string ⟨#[]⟩, .int .i64 0, .string ⟨#[]⟩, .int .i64 0, .slice none 0 0, .int .i64 0, .int .i64 0, .int .i64 0, .int .i64 0]) := Lib.hid (by rw [← hW8]; exact Str.new W7 #[.int .i64 2, .int .i64 1, .int .i64 0, .int .i64 0, .slice (some ⟨W6.heap.size, 0, none⟩) 1 1, .int .i64 0, .string ⟨#[]⟩, .int .i64 0, .string ⟨#[]⟩, .int .i64 0, .slice none 0 0, .int .i64 0, .int .i64 0, .int .i64 0, .int .i64 0] 42)
  have hba8 : Below W7.heap.size W7 W8 := by rw [← hW8]; exact balloc (bsame _) _
  have HB_8 := Lib.hid (bstep HB_7.out hba8)
  have hw_8 := HB_8.out.size
  have hws_8 := hba8.size
  have HYE_8 := Lib.hid (HYE_7.out.next hba8)
  clear HYE_7
  clear hW8
  clear HS0_7 f1_7_0 f1_7_1 f1_7_2 f1_7_3 f1_7_4 f1_7_5 f1_7_6 HS1_7 HS2_7 f3_7_0 f3_7_1 f3_7_2 HS3_7 HS4_7 f5_7_0 f5_7_1 f5_7_2 HS5_7
  have hl0_8 := HS0_8.out.lt
  obtain ⟨f1_8_0, f1_8_1, f1_8_2, f1_8_3, f1_8_4, f1_8_5, f1_8_6⟩ := str7 HS1_8.out
  have hl1_8 := HS1_8.out.lt
  have hl2_8 := HS2_8.out.lt
  obtain ⟨f3_8_0, f3_8_1, f3_8_2⟩ := str3 HS3_8.out
  have hl3_8 := HS3_8.out.lt
  have hl4_8 := HS4_8.out.lt
  obtain ⟨f5_8_0, f5_8_1, f5_8_2⟩ := str3 HS5_8.out
  have hl5_8 := HS5_8.out.lt
  obtain ⟨f6_8_0, f6_8_1, f6_8_2, f6_8_3, f6_8_4, f6_8_5, f6_8_6, f6_8_7, f6_8_8, f6_8_9, f6_8_10, f6_8_11, f6_8_12, f6_8_13, f6_8_14⟩ := str15 HS6_8.out
  have hl6_8 := HS6_8.out.lt
  have HS6b : Hid (Str W8 (W6.heap.size + 1) #[.int .i64 2, .int .i64 1, .int .i64 0, .int .i64 0, .slice (some ⟨W6.heap.size, 0, none⟩) 1 1, .int .i64 0, .string ⟨#[]⟩, .int .i64 0, .string ⟨#[]⟩, .int .i64 0, .slice none 0 0, .int .i64 0, .int .i64 0, .int .i64 0, .int .i64 0]) := Lib.hid (by rw [← hz7]; exact HS6_8.out)
  clear hz7
  clear hba7 hba8
  have hsl := fun W => run_sl_all (P := Tryz.prog) arr512 w.heap.size W
  have hsl2 := fun W => run_sl_all (P := Tryz.prog) arrPage W5.heap.size W
  refine Reg.wp_region_vals (R := ext) (W := W8) [Reg.eqv (.agg #[.int .i64 (NumP.val p 12 2), .bool false, .slice A1 n1 c1]), Reg.eqv (.slice (some ⟨w.heap.size, 0, none⟩) 512 512), Reg.eqv (.int .i64 i), Reg.eqv (.agg #[.int .i64 s, .string k, .int .i64 kind, .slice A n cap, .int .i64 lo, .int .i64 hi, .int .i64 val]), Reg.runsM W8.heap.size (fun A n c => .agg (patchV (PlanP.put p i ⟨s, k, ⟨kind, data, lo, hi, val⟩⟩) A n c).toArray) (PlanP.put p i ⟨s, k, ⟨kind, data, lo, hi, val⟩⟩).runs, Reg.eqv (.bool true), Reg.eqv (.bool true), Reg.eqv (.int .i64 0), Reg.eqv (.int .i64 0), Reg.eqv (.bool true), Reg.eqv (.bool true), Reg.eqv (.bool true), Reg.eqv (.slice (some ⟨W5.heap.size, 0, none⟩) 512 512), Reg.eqv (.slice (some ⟨w.heap.size, 0, none⟩) 512 512), Reg.eqv (.int .i64 i), Reg.eqv (.agg #[.int .i64 s, .string k, .int .i64 kind, .slice A n cap, .int .i64 lo, .int .i64 hi, .int .i64 val]), Reg.bytes (PageP.withSlot p i ⟨s, k, ⟨kind, data, lo, hi, val⟩⟩), Reg.eqv (.bool true), Reg.eqv (.bool true), Reg.eqv (.bool true), Reg.eqv (.agg #[.int .i64 2, .int .i64 1, .int .i64 0, .int .i64 0, .slice (some ⟨W6.heap.size, 0, none⟩) 1 1, .int .i64 0, .string ⟨#[]⟩, .int .i64 0, .string ⟨#[]⟩, .int .i64 0, .slice none 0 0, .int .i64 0, .int .i64 0, .int .i64 0, .int .i64 0]), Reg.bytes (RecP.bytes ⟨2, 1, 0, 0, [(PlanP.put p i ⟨s, k, ⟨kind, data, lo, hi, val⟩⟩)], UndoP.none⟩), Reg.small 200, Reg.eqv (.bool true), Reg.eqv (.bool true), Reg.eqv (.bool true), Reg.eqv (.bool true), Reg.eqv (.bool true), Reg.eqv (.bool true)] 57 [[(8, none)], [(3, none)], [(1, none)], [(5, none)], [(30, some 1), (31, some 2), (32, some 3)], [(29, some 0), (33, some 4)], [(34, some 5)], [(10, none), (35, some 6)], [(36, some 7), (35, some 6)], [(37, some 8), (35, some 6)], [(35, some 6), (38, some 9)], [(39, some 10)], [(9, none), (40, some 11)], [(3, none), (40, some 11)], [(1, none), (40, some 11)], [(5, none), (40, some 11)], [(42, some 13), (43, some 14), (44, some 15), (40, some 11)], [(41, some 12), (45, some 16), (40, some 11)], [(40, some 11), (46, some 17)], [(47, some 18)], [(11, none), (48, some 19)], [(49, some 20), (48, some 19)], [(50, some 21), (48, some 19)], [(51, some 22), (48, some 19)], [(48, some 19), (52, some 23)], [(53, some 24)], [(54, some 25)], [(54, some 25), (55, some 26)], [(56, some 27)]] rfl (by kernel_rfl) (by kernel_rfl) (by kernel_rfl) ?_ [some 29, some 30, some 31, some 32, some 33, some 34, some 35, some 36, some 37, some 38, some 39, some 40, some 41, some 42, some 43, some 44, some 45, some 46, some 47, some 48, some 49, some 50, some 51, some 52, some 53, some 54, some 55, some 56, some 6] (by kernel_rfl) ?_
  · refine ⟨?_, ?_, ?_, ?_, ?_, ?_, ?_, ?_, ?_, ?_, ?_, ?_, ?_, ?_, ?_, ?_, ?_, ?_, ?_, ?_, ?_, ?_, ?_, ?_, ?_, ?_, ?_, ?_, ?_, trivial⟩
    · intro ax wx hx hs
      obtain ⟨e8, -⟩ := hs
      have g8 := Reg.ev (v := .pointer (some ⟨W3.heap.size, 0, none⟩)) e8
      have l0 := str7 (HS1_8.out.next hx)
      have l1 := str3 (HS3_8.out.next hx)
      have l2 := str15 (HS6b.out.next hx)
      exact Reg.obl_free rfl (Reg.wp_eqv (Option.some_ne_none _) (by go_simp) rfl)
    · intro ax wx hx hs
      obtain ⟨e3, -⟩ := hs
      have g3 := Reg.ev (v := .pointer (some ⟨w.heap.size, 0, none⟩)) e3
      exact Reg.obl_free rfl (Reg.wp_eqv (Option.some_ne_none _) (by go_simp) rfl)
    · intro ax wx hx hs
      obtain ⟨e1, -⟩ := hs
      have g1 := Reg.ev (v := .int .i64 i) e1
      exact Reg.obl_free rfl (Reg.wp_eqv (Option.some_ne_none _) (by go_simp) rfl)
    · intro ax wx hx hs
      obtain ⟨e5, -⟩ := hs
      have g5 := Reg.ev (v := .pointer (some ⟨w.heap.size + 1, 0, none⟩)) e5
      have l0 := str7 (HS1_8.out.next hx)
      have l1 := str3 (HS3_8.out.next hx)
      have l2 := str15 (HS6b.out.next hx)
      exact Reg.obl_free rfl (Reg.wp_eqv (Option.some_ne_none _) (by go_simp) rfl)
    · intro ax wx hx hs
      obtain ⟨e30, e31, e32, -⟩ := hs
      have g30 := Reg.ev (v := .slice (some ⟨w.heap.size, 0, none⟩) 512 512) e30
      have g31 := Reg.ev (v := .int .i64 i) e31
      have g32 := Reg.ev (v := .agg #[.int .i64 s, .string k, .int .i64 kind, .slice A n cap, .int .i64 lo, .int .i64 hi, .int .i64 val]) e32
      refine Reg.obl_free rfl ?_
      have hx' : Below W8.heap.size W8 wx := hx
      have hwx := hx'.size
      have hpt := (HS0_8.out.next hx').part 0 512 512 (by rw [HL.out]; omega) (by omega) (by unfold maxLen; omega)
      rw [List.drop_zero, List.take_of_length_le (by rw [HL.out]; omega)] at hpt
      go_simp
      refine (refPut_any p HL.out i A n cap w.heap.size ⟨s, k, ⟨kind, data, lo, hi, val⟩⟩ wx _ _ _ hpt (Nat.le_refl _) (HA.out.below (bstep HB_8.out hx')) (bstep HB_8.out hx').size HKA.out).mono ?_
      rintro e wy ⟨A9, n9, c9, rfl, hO9, hby⟩
      exact Reg.done (Option.some_ne_none _) ⟨A9, n9, c9, rfl, hO9.less hwx⟩ hby
    · intro ax wx hx hs
      obtain ⟨e29, e33, -⟩ := hs
      have g29 := Reg.ev (v := .agg #[.int .i64 (NumP.val p 12 2), .bool false, .slice A1 n1 c1]) e29
      refine Reg.obl_free rfl ?_
      have hx' : Below W8.heap.size W8 wx := hx
      have hwx := hx'.size
      obtain ⟨A9, n9, c9, e33, hO9⟩ := e33
      have g33 := Reg.ev e33
      go_simp
      refine (RefPatch.same_any (PlanP.put p i ⟨s, k, ⟨kind, data, lo, hi, val⟩⟩) (PlanP.put p i ⟨s, k, ⟨kind, data, lo, hi, val⟩⟩) A1 A9 n1 c1 n9 c9 wx.heap.size wx.heap.size wx (HYE_8.out.next hx').elems (Nat.le_refl _) hO9.elems (Nat.le_refl _)).mono ?_
      rintro e wy ⟨rfl, hby⟩
      rw [same_self]
      exact Reg.done (Option.some_ne_none _) rfl hby
    · intro ax wx hx hs
      obtain ⟨e34, -⟩ := hs
      have g34 := Reg.ev (v := .bool true) e34
      exact Reg.obl_free rfl (Reg.wp_eqv (Option.some_ne_none _) (by go_simp) rfl)
    · intro ax wx hx hs
      obtain ⟨e10, e35, -⟩ := hs
      have g10 := Reg.ev (v := .int .i64 0) e10
      have g35 := Reg.ev (v := .bool true) e35
      exact Reg.obl_want rfl rfl e35 (Reg.wp_eqv (Option.some_ne_none _) (by go_simp) rfl)
    · intro ax wx hx hs
      obtain ⟨e36, e35, -⟩ := hs
      have g36 := Reg.ev (v := .int .i64 0) e36
      have g35 := Reg.ev (v := .bool true) e35
      refine Reg.obl_want rfl rfl e35 ?_
      have hx' : Below W8.heap.size W8 wx := hx
      have hwx := hx'.size
      go_simp
      refine (code_any _ _).mono ?_
      rintro e wy ⟨rfl, rfl⟩
      exact Reg.done (Option.some_ne_none _) rfl (bsame _)
    · intro ax wx hx hs
      obtain ⟨e37, e35, -⟩ := hs
      have g37 := Reg.ev (v := .int .i64 0) e37
      have g35 := Reg.ev (v := .bool true) e35
      exact Reg.obl_want rfl rfl e35 (Reg.wp_eqv (Option.some_ne_none _) (by go_simp) rfl)
    · intro ax wx hx hs
      obtain ⟨e35, e38, -⟩ := hs
      have g35 := Reg.ev (v := .bool true) e35
      have g38 := Reg.ev (v := .bool true) e38
      exact Reg.obl_free rfl (Reg.wp_eqv (Option.some_ne_none _) (by go_simp) rfl)
    · intro ax wx hx hs
      obtain ⟨e39, -⟩ := hs
      have g39 := Reg.ev (v := .bool true) e39
      exact Reg.obl_free rfl (Reg.wp_eqv (Option.some_ne_none _) (by go_simp) rfl)
    · intro ax wx hx hs
      obtain ⟨e9, e40, -⟩ := hs
      have g9 := Reg.ev (v := .pointer (some ⟨W5.heap.size, 0, none⟩)) e9
      have g40 := Reg.ev (v := .bool true) e40
      exact Reg.obl_want rfl rfl e40 (Reg.wp_eqv (Option.some_ne_none _) (by go_simp) rfl)
    · intro ax wx hx hs
      obtain ⟨e3, e40, -⟩ := hs
      have g3 := Reg.ev (v := .pointer (some ⟨w.heap.size, 0, none⟩)) e3
      have g40 := Reg.ev (v := .bool true) e40
      exact Reg.obl_want rfl rfl e40 (Reg.wp_eqv (Option.some_ne_none _) (by go_simp) rfl)
    · intro ax wx hx hs
      obtain ⟨e1, e40, -⟩ := hs
      have g1 := Reg.ev (v := .int .i64 i) e1
      have g40 := Reg.ev (v := .bool true) e40
      exact Reg.obl_want rfl rfl e40 (Reg.wp_eqv (Option.some_ne_none _) (by go_simp) rfl)
    · intro ax wx hx hs
      obtain ⟨e5, e40, -⟩ := hs
      have g5 := Reg.ev (v := .pointer (some ⟨w.heap.size + 1, 0, none⟩)) e5
      have g40 := Reg.ev (v := .bool true) e40
      have l0 := str7 (HS1_8.out.next hx)
      have l1 := str3 (HS3_8.out.next hx)
      have l2 := str15 (HS6b.out.next hx)
      exact Reg.obl_want rfl rfl e40 (Reg.wp_eqv (Option.some_ne_none _) (by go_simp) rfl)
    · intro ax wx hx hs
      obtain ⟨e42, e43, e44, e40, -⟩ := hs
      have g42 := Reg.ev (v := .slice (some ⟨w.heap.size, 0, none⟩) 512 512) e42
      have g43 := Reg.ev (v := .int .i64 i) e43
      have g44 := Reg.ev (v := .agg #[.int .i64 s, .string k, .int .i64 kind, .slice A n cap, .int .i64 lo, .int .i64 hi, .int .i64 val]) e44
      have g40 := Reg.ev (v := .bool true) e40
      refine Reg.obl_want rfl rfl e40 ?_
      have hx' : Below W8.heap.size W8 wx := hx
      have hwx := hx'.size
      have hpt := (HS0_8.out.next hx').part 0 512 512 (by rw [HL.out]; omega) (by omega) (by unfold maxLen; omega)
      rw [List.drop_zero, List.take_of_length_le (by rw [HL.out]; omega)] at hpt
      go_simp
      refine (RefPage.withSlot_any _ _ _ p i A n cap w.heap.size ⟨s, k, ⟨kind, data, lo, hi, val⟩⟩ _ hpt (Nat.le_refl _) (HA.out.below (bstep HB_8.out hx')) (bstep HB_8.out hx').size HKA.out).mono ?_
      rintro e wy ⟨A8, n8, c8, rfl, hy8, hby⟩
      exact Reg.done (Option.some_ne_none _) ⟨A8, n8, c8, rfl, hy8⟩ hby
    · intro ax wx hx hs
      obtain ⟨e41, e45, e40, -⟩ := hs
      have g41 := Reg.ev (v := .slice (some ⟨W5.heap.size, 0, none⟩) 512 512) e41
      have g40 := Reg.ev (v := .bool true) e40
      refine Reg.obl_want rfl rfl e40 ?_
      have hx' : Below W8.heap.size W8 wx := hx
      have hwx := hx'.size
      obtain ⟨A8, n8, c8, e45, hy8⟩ := e45
      have g45 := Reg.ev e45
      have hpt := (HS4_8.out.next hx').part 0 512 512 (by rw [HLW.out]; omega) (by omega) (by unfold maxLen; omega)
      rw [List.drop_zero, List.take_of_length_le (by rw [HLW.out]; omega)] at hpt
      go_simp
      refine (Same.same_any _ _ _ _ _ _ _ _ _ _ _ hpt hy8).mono ?_
      rintro e wy ⟨rfl, rfl⟩
      rw [beq_self_eq_true]
      exact Reg.done (Option.some_ne_none _) rfl (bsame _)
    · intro ax wx hx hs
      obtain ⟨e40, e46, -⟩ := hs
      have g40 := Reg.ev (v := .bool true) e40
      have g46 := Reg.ev (v := .bool true) e46
      exact Reg.obl_free rfl (Reg.wp_eqv (Option.some_ne_none _) (by go_simp) rfl)
    · intro ax wx hx hs
      obtain ⟨e47, -⟩ := hs
      have g47 := Reg.ev (v := .bool true) e47
      exact Reg.obl_free rfl (Reg.wp_eqv (Option.some_ne_none _) (by go_simp) rfl)
    · intro ax wx hx hs
      obtain ⟨e11, e48, -⟩ := hs
      have g11 := Reg.ev (v := .pointer (some ⟨W6.heap.size + 1, 0, none⟩)) e11
      have g48 := Reg.ev (v := .bool true) e48
      have l0 := str7 (HS1_8.out.next hx)
      have l1 := str3 (HS3_8.out.next hx)
      have l2 := str15 (HS6b.out.next hx)
      exact Reg.obl_want rfl rfl e48 (Reg.wp_eqv (Option.some_ne_none _) (by go_simp) rfl)
    · intro ax wx hx hs
      obtain ⟨e49, e48, -⟩ := hs
      have g49 := Reg.ev (v := .agg #[.int .i64 2, .int .i64 1, .int .i64 0, .int .i64 0, .slice (some ⟨W6.heap.size, 0, none⟩) 1 1, .int .i64 0, .string ⟨#[]⟩, .int .i64 0, .string ⟨#[]⟩, .int .i64 0, .slice none 0 0, .int .i64 0, .int .i64 0, .int .i64 0, .int .i64 0]) e49
      have g48 := Reg.ev (v := .bool true) e48
      refine Reg.obl_want rfl rfl e48 ?_
      have hx' : Below W8.heap.size W8 wx := hx
      have hwx := hx'.size
      go_simp
      refine (RefRec.bytes_any 2 1 0 0 (some ⟨W6.heap.size, 0, none⟩) 1 1 wx.heap.size [(PlanP.put p i ⟨s, k, ⟨kind, data, lo, hi, val⟩⟩)] 0 ⟨#[]⟩ none 0 0 0 0 ⟨#[]⟩ 0 [] 0 0 0 0 wx (patch_one (HS5_8.out.next hx') (HYE_8.out.next hx').elems HNO.out) (Nat.le_refl _) (Bytes.none_ _ _) (Nat.zero_le _) (by show (0 : Nat) ≤ maxLen; unfold maxLen; omega) (by show (0 : Nat) ≤ maxLen; unfold maxLen; omega)).mono ?_
      rintro e wy ⟨A8, n8, c8, rfl, hy8, hby⟩
      exact Reg.done (Option.some_ne_none _) ⟨A8, n8, c8, rfl, hy8⟩ hby
    · intro ax wx hx hs
      obtain ⟨e50, e48, -⟩ := hs
      have g48 := Reg.ev (v := .bool true) e48
      refine Reg.obl_want rfl rfl e48 ?_
      obtain ⟨A8, n8, c8, e50, hy8⟩ := e50
      have g50 := Reg.ev e50
      have hn8 := hy8.len
      exact Reg.wp_same (Option.some_ne_none _) (by go_simp) ⟨n8, rfl, by rw [← hn8]; exact HPS.out⟩
    · intro ax wx hx hs
      obtain ⟨e51, e48, -⟩ := hs
      have g48 := Reg.ev (v := .bool true) e48
      refine Reg.obl_want rfl rfl e48 ?_
      obtain ⟨n8, e51, hn8⟩ := e51
      have g51 := Reg.ev e51
      have hd : decide ((n8 : Int) ≤ 200) = true := by simp; omega
      exact Reg.wp_eqv (Option.some_ne_none _) (by go_simp) rfl
    · intro ax wx hx hs
      obtain ⟨e48, e52, -⟩ := hs
      have g48 := Reg.ev (v := .bool true) e48
      have g52 := Reg.ev (v := .bool true) e52
      exact Reg.obl_free rfl (Reg.wp_eqv (Option.some_ne_none _) (by go_simp) rfl)
    · intro ax wx hx hs
      obtain ⟨e53, -⟩ := hs
      have g53 := Reg.ev (v := .bool true) e53
      exact Reg.obl_free rfl (Reg.wp_eqv (Option.some_ne_none _) (by go_simp) rfl)
    · intro ax wx hx hs
      obtain ⟨e54, -⟩ := hs
      have g54 := Reg.ev (v := .bool true) e54
      refine Reg.obl_want rfl rfl e54 ?_
      have hx' : Below W8.heap.size W8 wx := hx
      have hwx := hx'.size
      go_simp
      refine (live_any _).mono ?_
      rintro e wy ⟨rfl, hby⟩
      exact Reg.done (Option.some_ne_none _) rfl hby
    · intro ax wx hx hs
      obtain ⟨e54, e55, -⟩ := hs
      have g54 := Reg.ev (v := .bool true) e54
      have g55 := Reg.ev (v := .bool true) e55
      exact Reg.obl_free rfl (Reg.wp_eqv (Option.some_ne_none _) (by go_simp) rfl)
    · intro ax wx hx hs
      obtain ⟨e56, -⟩ := hs
      have g56 := Reg.ev (v := .bool true) e56
      exact Reg.obl_free rfl (Reg.wp_eqv (Option.some_ne_none _) (by go_simp) rfl)
  · intro W9 hwf
    simp only [Reg.Fin]
    rintro _ rfl _ rfl _ rfl _ rfl v33 h33 _ rfl _ rfl _ rfl _ rfl _ rfl _ rfl _ rfl _ rfl _ rfl _ rfl _ rfl v45 h45 _ rfl _ rfl _ rfl _ rfl v50 h50 v51 h51 _ rfl _ rfl _ rfl _ rfl _ rfl _ rfl
    go_simp
    go_wp2_with fail
    go_ret
    exact ⟨rfl, bstep HB_8.out hwf⟩
end planPuts
end Go.Proofs.YtpklclnehlgcpaaGreat
end
