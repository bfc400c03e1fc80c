/-
  Parts of the proof of PlanGrows.
-/
import Derived.Test.YtpklclnehlgcpaaGreatPlanG9
import Derived.Test.YtpklclnehlgcpaaGreatPlanG2
import Derived.Test.YtpklclnehlgcpaaGreatPlanG0
import Derived.Test.YtpklclnehlgcpaaGreatPlanG10
import Derived.Test.YtpklclnehlgcpaaGreatPlanG12
import Derived.Test.YtpklclnehlgcpaaGreatPlanG1
import Derived.Laws.Externs
section
namespace Go.Proofs.YtpklclnehlgcpaaGreat
open Go.RowKit

/-- a reader: what is ahead, and whether it is bad -/
def Rd (w : World) (b : Nat) (l : List UInt8) (bad : Bool) : Prop := ∃ A n c, Str w b #[.slice A n c, .bool bad] ∧ Bytes w b A n c l
theorem Rd.lt {w : World} {b : Nat} {l : List UInt8} {bad : Bool} (h : Rd w b l bad) : b < w.heap.size := by
  obtain ⟨A, n, c, hs, -⟩ := h
  exact hs.lt
theorem Rd.below {w w' : World} {b : Nat} {l : List UInt8} {bad : Bool} (h : Rd w b l bad) (hb : Below w.heap.size w w') : Rd w' b l bad := by
  obtain ⟨A, n, c, hs, hy⟩ := h
  exact ⟨A, n, c, hs.next hb, hy.keep fun p hp => hb.cell (Nat.lt_trans hp hs.lt)⟩
end Go.Proofs.YtpklclnehlgcpaaGreat
namespace Go.Proofs.YtpklclnehlgcpaaGreat.RdP
end Go.Proofs.YtpklclnehlgcpaaGreat.RdP
namespace Go.Proofs.YtpklclnehlgcpaaGreat.RdW
open Go.RowKit
attribute [local go_sem ↓] cut_fold

end Go.Proofs.YtpklclnehlgcpaaGreat.RdW
end
section
namespace Go.Proofs.YtpklclnehlgcpaaGreat.NumP
theorem num_inj : ∀ (n : Nat) (x y : List UInt8), x.length = n → y.length = n → num x = num y → x = y
  | 0, x, y, hx, hy, _ => by
    rw [List.eq_nil_of_length_eq_zero hx, List.eq_nil_of_length_eq_zero hy]
  | n + 1, x, y, hx, hy, h => by
    rcases List.eq_nil_or_concat x with rfl | ⟨a, c, rfl⟩
    · simp at hx
    rcases List.eq_nil_or_concat y with rfl | ⟨b, d, rfl⟩
    · simp at hy
    simp only [List.concat_eq_append, List.length_append, List.length_cons, List.length_nil] at hx hy h ⊢
    rw [num_snoc, num_snoc] at h
    have hc := c.toNat_lt
    have hd := d.toNat_lt
    have h1 : num a = num b := by omega
    have h2 : c.toNat = d.toNat := by omega
    rw [num_inj n a b (by omega) (by omega) h1, UInt8.toNat_inj.1 h2]
theorem u64_toI (u : Nat) (h : u < 18446744073709551616) : BeP.u64 (toI u) = u := by
  unfold BeP.u64 toI
  split <;> omega
theorem parts_back (x : List UInt8) (h : x.length = 8) : BeP.parts 8 (toI (num x)) = x :=
  num_inj 8 _ _ (BeP.parts_length _ _) h (by rw [num_parts8, u64_toI _ (num_lt8 x (by omega))])
theorem parts_val (l : List UInt8) (a : Nat) (h : a + 8 ≤ l.length) : BeP.parts 8 (val l a 8) = (l.drop a).take 8 := by
  rw [val, if_pos h, parts_back _ (by simp; omega)]
end Go.Proofs.YtpklclnehlgcpaaGreat.NumP
namespace Go.Proofs.YtpklclnehlgcpaaGreat.RdP
end Go.Proofs.YtpklclnehlgcpaaGreat.RdP
namespace Go.Proofs.YtpklclnehlgcpaaGreat.MetaP
def within (n least most : Int) : Bool := decide (least ≤ n) && decide (n ≤ most)
/-- may the layout be? -/
def right (b p f c l : Int) : Bool := within b 1 16 && (within p (b + 1) 1024 && (within f 4 64 && (within c 1 16 && within l 4 1024)))
def check (b p f c l : Int) : Int := if right b p f c l then 0 else 1
theorem within_iff (n a b : Int) : within n a b = true ↔ a ≤ n ∧ n ≤ b := by simp [within]
/-- what stands in a page is no layout -/
def bad (x : List UInt8) : Bool := (((NumP.val x 12 2 != 0) || (NumP.val x 16 1 != 0)) || (check (NumP.val x 17 1) (NumP.val x 18 2) (NumP.val x 20 1) (NumP.val x 21 1) (NumP.val x 22 2) != 0)) || !within (NumP.val x 14 2) (NumP.val x 17 1 + 1) (NumP.val x 18 2)
def cb (x : List UInt8) : Int := if bad x then 0 else NumP.val x 17 1
def cp (x : List UInt8) : Int := if bad x then 0 else NumP.val x 18 2
def cf (x : List UInt8) : Int := if bad x then 0 else NumP.val x 20 1
def cc (x : List UInt8) : Int := if bad x then 0 else NumP.val x 21 1
def cl (x : List UInt8) : Int := if bad x then 0 else NumP.val x 22 2
def err (x : List UInt8) : Int := if bad x then 14 else 0
end Go.Proofs.YtpklclnehlgcpaaGreat.MetaP
end
section
namespace Go.Proofs.YtpklclnehlgcpaaGreat
open Go.RowKit
set_option linter.unusedVariables false
set_option linter.unusedSimpArgs false
/-- the call hands bytes and a number over -/
def GivesBI (w : World) (x : List UInt8 × Int) (e : Ending) (w' : World) : Prop := ∃ A n c, e = .returned (.tuple #[.slice A n c, .int .i64 x.2]) ∧ Bytes w' w'.heap.size A n c x.1 ∧ Below w.heap.size w w'
namespace RefPatch
attribute [local go_sem ↓] app_fold cut_fold
set_option maxRecDepth 100000 in
set_option maxHeartbeats 4000000 in
theorem Apply_any (p : List UInt8) (hp : p.length = 512) (Ap : Option Addr) (cp : Nat) (A : Option Addr) (n c B : Nat) (l : List RunX) (w : World) (hY : Bytes w w.heap.size Ap 512 cp p) (hE : Elems RunE w B A n c l) (hB : B ≤ w.heap.size) :
    Calls Tryz.prog 40 #[.slice Ap 512 cp, .slice A n c] w (GivesBI w (DiffP.apply p l)) := by
  have HE := Lib.hid hE
  have hlen := hE.len
  have hcap := hE.cap
  have hcm := hcap.2
  unfold maxLen at hcm
  have HL := Lib.hid hp
  have HYP := Lib.hid hY
  clear hE hp hY
  go_enter Tryz.func40, Tryz.ntmps40
  go_wp2_with fail
  go_loopw [0, 6] (fun pv iv wr => ∃ (k : Nat) (q : List UInt8) (A1 : Option Addr) (c1 : Nat), k ≤ n ∧ iv = .int .i64 (k : Int) ∧ pv = .slice A1 512 c1 ∧ Hid (q.length = 512 ∧ DiffP.apply p l = DiffP.apply q (l.drop k)) ∧ Hid (Below w.heap.size w wr) ∧ Hid (Bytes wr wr.heap.size A1 512 c1 q)) (fun _ iv _ => n - (intOf iv).toNat)
  case atStart => exact ⟨0, p, Ap, cp, Nat.zero_le _, rfl, rfl, Lib.hid ⟨HL.out, rfl⟩, Lib.hid (bsame w), HYP⟩
  case round =>
    obtain ⟨k, q, A1, c1, hk, rfl, rfl, HQ, HB, HS⟩ := hrel
    have hwr := HB.out.size
    by_cases hlt : k < n
    · have hd : decide ((k : Int) < (n : Int)) = true := by simp; omega
      obtain ⟨b, o, r, A2, n2, c2, rfl, hb, hr, hy, hir, q0, q1⟩ := run_at HE.out hlt
      have hyl := hy.len
      have hym : n2 ≤ maxLen := Nat.le_trans hy.2.1 hy.2.2.1
      replace q0 := (HB.out.cell (p := ⟨b, o + k * 2, none⟩) (by show b < _; omega)).trans q0
      replace q1 := (HB.out.cell (p := ⟨b, o + k * 2 + 1, none⟩) (by show b < _; omega)).trans q1
      have hst : PatchP.stop r = r.at_ + (n2 : Nat) := by unfold PatchP.stop; rw [hyl]
      have hdr : l.drop k = r :: l.drop (k + 1) := by
        obtain ⟨h1, h2⟩ := List.getElem?_eq_some_iff.1 hr
        rw [List.drop_eq_getElem_cons h1, h2]
      have HDR := Lib.hid hdr
      have HYW := Lib.hid (hy.below (HB.out.mono hB))
      have hbw : b < wr.heap.size := by omega
      clear hdr
      obtain ⟨rp, rd⟩ := r
      dsimp only at *
      go_wp2_with fail
      refine (within_any ⟨rp, rd⟩ A2 n2 c2 hyl hym hir wr).mono ?_
      rintro e W2 ⟨rfl, hb2⟩
      have HB2 := Lib.hid (bstep HB.out hb2)
      have HQ2 := Lib.hid (And.intro ((hb2.cell (p := ⟨b, o + k * 2, none⟩) hbw).trans q0) ((hb2.cell (p := ⟨b, o + k * 2 + 1, none⟩) hbw).trans q1))
      have HP2 := Lib.hid ((HS.out.below hb2).more hb2.size)
      have HY2 := Lib.hid (HYW.out.below (hb2.mono (by omega)))
      have hw2 := hb2.size
      have hbw2 : b < W2.heap.size := by omega
      clear hb2 q0 q1 hy hr HB HS HYW
      cases hW : PatchP.within ⟨rp, rd⟩ with
      | true =>
        have hWi := DiffP.within_of hW
        have h12 : 12 ≤ rp := hWi.2.1
        have h512 := hWi.2.2
        rw [hst] at h512
        have HQ3 : Hid (DiffP.apply p l = DiffP.apply (DiffP.put q ⟨rp, rd⟩) (l.drop (k + 1))) := Lib.hid (by rw [HQ.out.2, HDR.out, DiffP.apply_go hW])
        have HPL := Lib.hid (DiffP.put_len (r := ⟨rp, rd⟩) HQ.out.1 hWi)
        clear hW hWi hst
        obtain ⟨a, rfl⟩ : ∃ a : Nat, rp = (a : Int) := ⟨rp.toNat, by omega⟩
        have hPE : DiffP.put q ⟨(a : Int), rd⟩ = SlotP.over q a rd := rfl
        rw [hPE] at HQ3 HPL
        clear hPE
        go_wp2_with fail
        have hwB : B ≤ W2.heap.size := by omega
        refine Reg.wp_region_vals (R := ext) (W := W2) [Reg.eqv (.slice A1 512 c1), Reg.eqv (.slice (some ⟨b, o, none⟩) n c), Reg.eqv (.int .i64 (k : Int)), Reg.eqv (.pointer (some ⟨b, o + k * 2, none⟩)), Reg.eqv (.pointer (some ⟨b, o + k * 2, none⟩)), Reg.eqv (.int .i64 (a : Int)), Reg.eqv (.slice (some ⟨b, o, none⟩) n c), Reg.eqv (.int .i64 (k : Int)), Reg.eqv (.pointer (some ⟨b, o + k * 2, none⟩)), Reg.eqv (.pointer (some ⟨b, o + k * 2 + 1, none⟩)), Reg.eqv (.slice A2 n2 c2), Reg.bytes (SlotP.over q a rd), Reg.bytes (SlotP.over q a rd)] 33 [[(0, none)], [(1, none)], [(6, none)], [(21, some 1), (22, some 2)], [(23, some 3)], [(24, some 4)], [(1, none)], [(6, none)], [(26, some 6), (27, some 7)], [(28, some 8)], [(29, some 9)], [(20, some 0), (25, some 5), (30, some 10)], [(31, some 11)]] rfl (by kernel_rfl) (by kernel_rfl) (by kernel_rfl) ?_ [some 20, some 21, some 22, some 23, some 24, some 25, some 26, some 27, some 28, some 29, some 30, some 31, some 0] (by kernel_rfl) ?_
        · refine ⟨?_, ?_, ?_, ?_, ?_, ?_, ?_, ?_, ?_, ?_, ?_, ?_, ?_, trivial⟩
          · intro ax wx hx hs
            obtain ⟨e0, -⟩ := hs
            have g0 := Reg.ev (v := .slice A1 512 c1) e0
            exact Reg.obl_free rfl (Reg.wp_eqv (Option.some_ne_none _) (by go_simp) rfl)
          · intro ax wx hx hs
            obtain ⟨e1, -⟩ := hs
            have g1 := Reg.ev (v := .slice (some ⟨b, o, none⟩) n c) e1
            exact Reg.obl_free rfl (Reg.wp_eqv (Option.some_ne_none _) (by go_simp) rfl)
          · intro ax wx hx hs
            obtain ⟨e6, -⟩ := hs
            have g6 := Reg.ev (v := .int .i64 (k : Int)) e6
            exact Reg.obl_free rfl (Reg.wp_eqv (Option.some_ne_none _) (by go_simp) rfl)
          · intro ax wx hx hs
            obtain ⟨e21, e22, -⟩ := hs
            have g21 := Reg.ev (v := .slice (some ⟨b, o, none⟩) n c) e21
            have g22 := Reg.ev (v := .int .i64 (k : Int)) e22
            refine Reg.obl_free rfl ?_
            exact Reg.wp_eqv (Option.some_ne_none _) (by go_simp; first | done | (intro hq; omega)) rfl
          · intro ax wx hx hs
            obtain ⟨e23, -⟩ := hs
            have g23 := Reg.ev (v := .pointer (some ⟨b, o + k * 2, none⟩)) e23
            exact Reg.obl_free rfl (Reg.wp_eqv (Option.some_ne_none _) (by go_simp) rfl)
          · intro ax wx hx hs
            obtain ⟨e24, -⟩ := hs
            have g24 := Reg.ev (v := .pointer (some ⟨b, o + k * 2, none⟩)) e24
            have q0 := (hx.cell (p := ⟨b, o + k * 2, none⟩) hbw2).trans HQ2.out.1
            have q1 := (hx.cell (p := ⟨b, o + k * 2 + 1, none⟩) hbw2).trans HQ2.out.2
            exact Reg.obl_free rfl (Reg.wp_eqv (Option.some_ne_none _) (by go_simp) rfl)
          · intro ax wx hx hs
            obtain ⟨e1, -⟩ := hs
            have g1 := Reg.ev (v := .slice (some ⟨b, o, none⟩) n c) e1
            exact Reg.obl_free rfl (Reg.wp_eqv (Option.some_ne_none _) (by go_simp) rfl)
          · intro ax wx hx hs
            obtain ⟨e6, -⟩ := hs
            have g6 := Reg.ev (v := .int .i64 (k : Int)) e6
            exact Reg.obl_free rfl (Reg.wp_eqv (Option.some_ne_none _) (by go_simp) rfl)
          · intro ax wx hx hs
            obtain ⟨e26, e27, -⟩ := hs
            have g26 := Reg.ev (v := .slice (some ⟨b, o, none⟩) n c) e26
            have g27 := Reg.ev (v := .int .i64 (k : Int)) e27
            refine Reg.obl_free rfl ?_
            exact Reg.wp_eqv (Option.some_ne_none _) (by go_simp; first | done | (intro hq; omega)) rfl
          · intro ax wx hx hs
            obtain ⟨e28, -⟩ := hs
            have g28 := Reg.ev (v := .pointer (some ⟨b, o + k * 2, none⟩)) e28
            exact Reg.obl_free rfl (Reg.wp_eqv (Option.some_ne_none _) (by go_simp) rfl)
          · intro ax wx hx hs
            obtain ⟨e29, -⟩ := hs
            have g29 := Reg.ev (v := .pointer (some ⟨b, o + k * 2 + 1, none⟩)) e29
            have q0 := (hx.cell (p := ⟨b, o + k * 2, none⟩) hbw2).trans HQ2.out.1
            have q1 := (hx.cell (p := ⟨b, o + k * 2 + 1, none⟩) hbw2).trans HQ2.out.2
            exact Reg.obl_free rfl (Reg.wp_eqv (Option.some_ne_none _) (by go_simp) rfl)
          · intro ax wx hx hs
            obtain ⟨e20, e25, e30, -⟩ := hs
            have g20 := Reg.ev (v := .slice A1 512 c1) e20
            have g25 := Reg.ev (v := .int .i64 (a : Int)) e25
            have g30 := Reg.ev (v := .slice A2 n2 c2) e30
            refine Reg.obl_free rfl ?_
            have hx' : Below W2.heap.size W2 wx := hx
            have hwx := hx'.size
            go_simp
            refine (RefPage.put_any A1 512 c1 W2.heap.size q a A2 n2 c2 W2.heap.size rd wx (HP2.out.below hx') hwx ((HY2.out.more hwB).below hx') hwx (by omega) (by omega)).mono ?_
            rintro e wy ⟨A4, n4, c4, rfl, hy4, hby⟩
            exact Reg.done (Option.some_ne_none _) ⟨A4, n4, c4, rfl, hy4⟩ hby
          · intro ax wx hx hs
            obtain ⟨e31, -⟩ := hs
            refine Reg.obl_free rfl ?_
            exact Reg.wp_same (Option.some_ne_none _) (by go_simp) e31
        · intro W3 hwf
          simp only [Reg.Fin]
          rintro _ rfl _ rfl _ rfl _ rfl _ rfl _ rfl _ rfl _ rfl _ rfl _ rfl _ rfl v31 h31 v0 h0
          go_simp
          obtain ⟨A4, n4, c4, rfl, hy4⟩ := h0
          have hwf' : Below W2.heap.size W2 W3 := hwf
          have hn4 : n4 = 512 := hy4.len.symm.trans HPL.out
          subst hn4
          have HY4 := Lib.hid hy4
          have HB4 := Lib.hid (bstep HB2.out hwf')
          clear hwf hwf' hy4 HP2 HB2 HY2
          go_wp2
          go_roundw
          case rel => exact ⟨k + 1, SlotP.over q a rd, A4, c4, by omega, by go_num, rfl, Lib.hid ⟨HPL.out, HQ3.out⟩, HB4, HY4⟩
          case measure => simp [intOf]; omega
      | false =>
        have HQ3 : Hid (DiffP.apply p l = (SlotP.zeros 512, 2)) := Lib.hid (by rw [HQ.out.2, HDR.out, DiffP.apply_no hW])
        clear hW
        go_wp2_with fail
        refine (RefPage.zeros_any 512 (by omega) W2).mono ?_
        rintro e W3 ⟨A4, n4, c4, rfl, hy4, hb4⟩
        have HY4 := Lib.hid hy4
        have HB4 := Lib.hid (bstep HB2.out hb4)
        clear hy4 hb4
        go_wp2
        exact bodyPost_ret (v := .tuple #[.slice A4 n4 c4, .int .i64 2]) (by simp [results, Tryz.results40, go_sem]) rfl ⟨A4, n4, c4, by rw [HQ3.out], by rw [HQ3.out]; exact HY4.out, HB4.out⟩
    · have hd : decide ((k : Int) < (n : Int)) = false := by simp; omega
      have hkn : k = n := by omega
      subst hkn
      have HQ2 : Hid (DiffP.apply p l = (q, 0)) := Lib.hid (by rw [HQ.out.2, List.drop_of_length_le (by omega), DiffP.apply_nil])
      go_wp2
      exact bodyPost_ret (v := .tuple #[.slice A1 512 c1, .int .i64 0]) (by simp [results, Tryz.results40, go_sem]) rfl ⟨A1, 512, c1, by rw [HQ2.out], by rw [HQ2.out]; exact HS.out, HB.out⟩
end RefPatch
theorem PlanP.fresh_eq (p : List UInt8) (no : Int) (hp : p.length = 512) : PlanP.fresh p no = SlotP.over (SlotP.over (SlotP.zeros 512) 12 (BeP.parts 2 no)) 4 ((p.drop 4).take 8) := by
  unfold PlanP.fresh
  rw [NumP.parts_val p 4 (by omega)]
namespace PlanW
attribute [local go_sem ↓] app_fold
set_option maxRecDepth 100000 in
set_option maxHeartbeats 1000000 in
theorem refApply_false (p : List UInt8) (hp : p.length = 512) (Ap : Option Addr) (cp : Nat) (pg : Int) (l : List RunX) (A : Option Addr) (n c B : Nat) (w : World) (hY : Bytes w w.heap.size Ap 512 cp p) (hE : Elems RunE w B A n c l) (hB : B ≤ w.heap.size) :
    Calls Tryz.prog 18 #[.slice Ap 512 cp, .agg #[.int .i64 pg, .bool false, .slice A n c]] w (GivesBI w (PlanP.apply p ⟨pg, false, l⟩)) := by
  have HL := Lib.hid hp
  have HE := Lib.hid hE
  have HY := Lib.hid hY
  obtain ⟨b, o, rfl, hbB, -⟩ := hY.2.2.2 (by omega)
  have hcp := hY.2.1
  clear hp hE hY
  go_enter Tryz.func18, Tryz.ntmps18
  go_wp2_with fail
  generalize hW0 : (w).alloc (.cells #[.int .i64 pg, .bool false, .slice A n c] 33) = W0
  have HS0_0 : Hid (Str W0 (w.heap.size) #[.int .i64 pg, .bool false, .slice A n c]) := Lib.hid (by rw [← hW0]; have := Str.new (w) #[.int .i64 pg, .bool false, .slice A n c] 33; simpa using this)
  have HB_0 : Hid (Below w.heap.size w W0) := Lib.hid (by rw [← hW0]; exact balloc (bsame w) _)
  have hw_0 := HB_0.out.size
  have hz0 : W0.heap.size = w.heap.size + 1 := by rw [← hW0]; simp
  clear hW0
  obtain ⟨f0_0_0, f0_0_1, f0_0_2⟩ := str3 HS0_0.out
  have hl0_0 := HS0_0.out.lt
  clear hz0
  have HX := HS0_0
  have HBB := HB_0
  have HFL := HL
  have HYY := Lib.hid ((HY.out.below HB_0.out).more HB_0.out.size)
  have lX := str3 HX.out
  have hlX := HX.out.lt
  have hwB := HBB.out.size
  go_wp2_with fail
  refine (RefPatch.Apply_any p HFL.out (some ⟨b, o, none⟩) cp A n c B l W0 HYY.out (HE.out.below (HBB.out.mono hB)) (by omega)).mono ?_
  rintro e W3 ⟨A6, n6, c6, rfl, hy6, hb3⟩
  have HY6 := Lib.hid hy6
  have HBF := Lib.hid (bstep HBB.out hb3)
  clear hb3 hy6
  go_wp2_with fail
  exact bodyPost_ret (v := .tuple #[.slice A6 n6 c6, .int .i64 (DiffP.apply p l).2]) (by simp [results, Tryz.results18, go_sem]) rfl ⟨A6, n6, c6, rfl, HY6.out, HBF.out⟩
set_option maxRecDepth 100000 in
set_option maxHeartbeats 1000000 in
theorem refApply_true (p : List UInt8) (hp : p.length = 512) (Ap : Option Addr) (cp : Nat) (pg : Int) (l : List RunX) (A : Option Addr) (n c B : Nat) (w : World) (hY : Bytes w w.heap.size Ap 512 cp p) (hE : Elems RunE w B A n c l) (hB : B ≤ w.heap.size) :
    Calls Tryz.prog 18 #[.slice Ap 512 cp, .agg #[.int .i64 pg, .bool true, .slice A n c]] w (GivesBI w (PlanP.apply p ⟨pg, true, l⟩)) := by
  have HL := Lib.hid hp
  have HE := Lib.hid hE
  have HY := Lib.hid hY
  obtain ⟨b, o, rfl, hbB, -⟩ := hY.2.2.2 (by omega)
  have hcp := hY.2.1
  clear hp hE hY
  go_enter Tryz.func18, Tryz.ntmps18
  go_wp2_with fail
  generalize hW0 : (w).alloc (.cells #[.int .i64 pg, .bool true, .slice A n c] 33) = W0
  have HS0_0 : Hid (Str W0 (w.heap.size) #[.int .i64 pg, .bool true, .slice A n c]) := Lib.hid (by rw [← hW0]; have := Str.new (w) #[.int .i64 pg, .bool true, .slice A n c] 33; simpa using this)
  have HB_0 : Hid (Below w.heap.size w W0) := Lib.hid (by rw [← hW0]; exact balloc (bsame w) _)
  have hw_0 := HB_0.out.size
  have hz0 : W0.heap.size = w.heap.size + 1 := by rw [← hW0]; simp
  clear hW0
  obtain ⟨f0_0_0, f0_0_1, f0_0_2⟩ := str3 HS0_0.out
  have hl0_0 := HS0_0.out.lt
  clear hz0
  go_wp2_with fail
  have HNL : Hid ((SlotP.over (SlotP.zeros 512) 12 (BeP.parts 2 pg)).length = 512) := Lib.hid (by rw [SlotP.over_length _ _ _ (by rw [BeP.parts_length, SlotPut.zeros_len]; omega), SlotPut.zeros_len])
  refine Reg.wp_region_vals (R := ext) (W := W0) [Reg.eqv (.pointer (some ⟨w.heap.size, 0, none⟩)), Reg.eqv (.int .i64 pg), Reg.bytes (SlotP.over (SlotP.zeros 512) 12 (BeP.parts 2 pg)), Reg.eqv (.slice (some ⟨b, o, none⟩) 512 cp), Reg.eqv (.slice (some ⟨b, o + 4, none⟩) 8 (cp - 4)), Reg.bytes (PlanP.fresh p pg), Reg.bytes (PlanP.fresh p pg)] 20 [[(3, none)], [(8, some 0)], [(9, some 1)], [(0, none)], [(11, some 3)], [(10, some 2), (12, some 4)], [(13, some 5)]] rfl (by kernel_rfl) (by kernel_rfl) (by kernel_rfl) ?_ [some 8, some 9, some 10, some 11, some 12, some 13, some 0] (by kernel_rfl) ?_
  · refine ⟨?_, ?_, ?_, ?_, ?_, ?_, ?_, trivial⟩
    · intro ax wx hx hs
      obtain ⟨e3, -⟩ := hs
      have g3 := Reg.ev (v := .pointer (some ⟨w.heap.size, 0, none⟩)) e3
      exact Reg.obl_free rfl (Reg.wp_eqv (Option.some_ne_none _) (by go_simp) rfl)
    · intro ax wx hx hs
      obtain ⟨e8, -⟩ := hs
      have g8 := Reg.ev (v := .pointer (some ⟨w.heap.size, 0, none⟩)) e8
      have li := str3 (HS0_0.out.next hx)
      exact Reg.obl_free rfl (Reg.wp_eqv (Option.some_ne_none _) (by go_simp) rfl)
    · intro ax wx hx hs
      obtain ⟨e9, -⟩ := hs
      have g9 := Reg.ev (v := .int .i64 pg) e9
      refine Reg.obl_free rfl ?_
      have hx' : Below W0.heap.size W0 wx := hx
      have hwx := hx'.size
      go_simp
      refine (RefPage.new_any pg wx).mono ?_
      rintro e wy ⟨A4, n4, c4, rfl, hy4, hby⟩
      exact Reg.done (Option.some_ne_none _) ⟨A4, n4, c4, rfl, hy4⟩ hby
    · intro ax wx hx hs
      obtain ⟨e0, -⟩ := hs
      have g0 := Reg.ev (v := .slice (some ⟨b, o, none⟩) 512 cp) e0
      exact Reg.obl_free rfl (Reg.wp_eqv (Option.some_ne_none _) (by go_simp) rfl)
    · intro ax wx hx hs
      obtain ⟨e11, -⟩ := hs
      have g11 := Reg.ev (v := .slice (some ⟨b, o, none⟩) 512 cp) e11
      refine Reg.obl_free rfl ?_
      have hne : ¬ cp = 4 := by omega
      have hc12 : ¬ (cp : Int) < 12 := by omega
      exact Reg.wp_eqv (Option.some_ne_none _) (by go_simp) rfl
    · intro ax wx hx hs
      obtain ⟨e10, e12, -⟩ := hs
      have g12 := Reg.ev (v := .slice (some ⟨b, o + 4, none⟩) 8 (cp - 4)) e12
      refine Reg.obl_free rfl ?_
      have hx' : Below W0.heap.size W0 wx := hx
      have hwx := hx'.size
      obtain ⟨A4, n4, c4, e10, hy4⟩ := e10
      have g10 := Reg.ev e10
      have hn4 : n4 = 512 := hy4.len.symm.trans HNL.out
      subst hn4
      have hyc := (HY.out.below (HB_0.out.trans (hx'.mono HB_0.out.size))).cut 4 12 cp (by omega) (by omega) (by omega) (Nat.le_refl _)
      rw [show cutA (some ⟨b, o, none⟩) 4 cp 1 = some ⟨b, o + 4, none⟩ by unfold cutA; rw [if_neg (by omega)]; simp [add_none]] at hyc
      go_simp
      refine (RefPage.put_any A4 512 c4 wx.heap.size (SlotP.over (SlotP.zeros 512) 12 (BeP.parts 2 pg)) 4 _ 8 (cp - 4) w.heap.size ((p.drop 4).take 8) wx hy4 (Nat.le_refl _) hyc (by omega) (by omega) (by omega)).mono ?_
      rintro e wy ⟨A5, n5, c5, rfl, hy5, hby⟩
      exact Reg.done (Option.some_ne_none _) ⟨A5, n5, c5, rfl, by rw [PlanP.fresh_eq p pg HL.out]; exact hy5⟩ hby
    · intro ax wx hx hs
      obtain ⟨e13, -⟩ := hs
      refine Reg.obl_free rfl ?_
      exact Reg.wp_same (Option.some_ne_none _) (by go_simp) e13
  · intro W1 hwf
    simp only [Reg.Fin]
    rintro _ rfl _ rfl v10 h10 _ rfl _ rfl v13 h13 v0 h0
    go_simp
    obtain ⟨A5, n5, c5, rfl, hy5⟩ := h0
    have hwf' : Below W0.heap.size W0 W1 := hwf
    have HFL := Lib.hid (PlanP.fresh_len p pg)
    have hn5 : n5 = 512 := hy5.len.symm.trans HFL.out
    subst hn5
    have HX := Lib.hid (HS0_0.out.next hwf')
    have HBB := Lib.hid (bstep HB_0.out hwf')
    have HYY := Lib.hid hy5
    clear hwf hwf' hy5 HS0_0 f0_0_0 f0_0_1 f0_0_2
    have lX := str3 HX.out
    have hlX := HX.out.lt
    have hwB := HBB.out.size
    go_wp2_with fail
    refine (RefPatch.Apply_any (PlanP.fresh p pg) HFL.out A5 c5 A n c B l W1 HYY.out (HE.out.below (HBB.out.mono hB)) (by omega)).mono ?_
    rintro e W3 ⟨A6, n6, c6, rfl, hy6, hb3⟩
    have HY6 := Lib.hid hy6
    have HBF := Lib.hid (bstep HBB.out hb3)
    clear hb3 hy6
    go_wp2_with fail
    exact bodyPost_ret (v := .tuple #[.slice A6 n6 c6, .int .i64 (DiffP.apply (PlanP.fresh p pg) l).2]) (by simp [results, Tryz.results18, go_sem]) rfl ⟨A6, n6, c6, rfl, HY6.out, HBF.out⟩
theorem refApply_any (p : List UInt8) (hp : p.length = 512) (Ap : Option Addr) (cp : Nat) (y : PatchX) (A : Option Addr) (n c B : Nat) (w : World) (hY : Bytes w w.heap.size Ap 512 cp p) (hE : Elems RunE w B A n c y.runs) (hB : B ≤ w.heap.size) :
    Calls Tryz.prog 18 #[.slice Ap 512 cp, .agg (patchV y A n c).toArray] w (GivesBI w (PlanP.apply p y)) := by
  obtain ⟨pg, fr, l⟩ := y
  cases fr with
  | true => exact refApply_true p hp Ap cp pg l A n c B w hY hE hB
  | false => exact refApply_false p hp Ap cp pg l A n c B w hY hE hB
end PlanW
end Go.Proofs.YtpklclnehlgcpaaGreat
end
section
namespace Go.Proofs.YtpklclnehlgcpaaGreat.WideP
def hi (x : Int) : Int := x / 18446744073709551616
def lo (x : Int) : Int := x % 18446744073709551616
/-- a number of 64 bits? -/
def fits (x : Int) : Bool := decide (-9223372036854775808 ≤ x) && decide (x ≤ 9223372036854775807)
def num (x : Int) : Int := if fits x then x else 0
def bor (x y : Int) : Int := if x < y then 1 else 0
end Go.Proofs.YtpklclnehlgcpaaGreat.WideP
namespace Go.Proofs.YtpklclnehlgcpaaGreat.WideW
open Go.RowKit

theorem add64 (x y : Int) (hx : 0 ≤ x) (hy : 0 ≤ y) (w : World) : (callFunc 117 #[.int .u64 x, .int .u64 y, .int .u64 0]).run Tryz.prog w =
    .ok (.value (.tuple #[.int .u64 ((x + y) % 18446744073709551616), .int .u64 ((x + y) / 18446744073709551616)])) w := by
  rw [run_callFunc_extern Tryz.func117 (by kernel_rfl) (by kernel_rfl) (by kernel_rfl) (e := add64Entry) (by kernel_rfl), run_add64 x y 0 hx hy (Int.le_refl 0) (by decide)]
  simp only [Result.andThen, Int.add_zero]
def sub64Entry : Array Value → Sem Value := fun args => do
  let (x, y, b) ← Extern.MathBitsCarry.three "Sub64" args
  pure (Extern.MathBitsCarry.pair ((x + Extern.MathBitsCarry.m64 - y - b) % Extern.MathBitsCarry.m64) (if x < y + b then 1 else 0))
theorem run_sub64 (P : Program) (x y : Nat) (w : World) : (sub64Entry #[.int .u64 x, .int .u64 y, .int .u64 0]).run P w =
      .ok (.tuple #[.int .u64 (((x + 18446744073709551616 - y) % 18446744073709551616 : Nat) : Int), .int .u64 ((if x < y then 1 else 0 : Nat) : Int)]) w := rfl
theorem sub64 (x y : Int) (hx : 0 ≤ x) (hy : 0 ≤ y) (hy' : y < 18446744073709551616) (w : World) : (callFunc 115 #[.int .u64 x, .int .u64 y, .int .u64 0]).run Tryz.prog w =
    .ok (.value (.tuple #[.int .u64 ((x - y) % 18446744073709551616), .int .u64 (WideP.bor x y)])) w := by
  obtain ⟨x, rfl⟩ := Int.eq_ofNat_of_zero_le hx
  obtain ⟨y, rfl⟩ := Int.eq_ofNat_of_zero_le hy
  have e1 : (((x + 18446744073709551616 - y) % 18446744073709551616 : Nat) : Int) = ((x : Int) - y) % 18446744073709551616 := by omega
  have e2 : ((if x < y then 1 else 0 : Nat) : Int) = WideP.bor x y := by unfold WideP.bor; split <;> split <;> omega
  rw [run_callFunc_extern Tryz.func115 (by kernel_rfl) (by kernel_rfl) (by kernel_rfl) (e := sub64Entry) (by kernel_rfl), run_sub64, e1, e2]
  rfl

theorem wrap_i64 (x : Int) (h1 : -9223372036854775808 ≤ x) (h2 : x ≤ 9223372036854775807) : wrap64 x = x := by
  simp only [wrap64]
  omega
theorem wrap_u64 (x : Int) : IntKind.u64.wrap x = WideP.lo x := by
  simp only [IntKind.wrap, IntKind.bits, IntKind.signed, WideP.lo]
  simp
theorem wrap_lo (x : Int) (h : WideP.fits x = true) : wrap64 (WideP.lo x) = x := by
  simp [WideP.fits] at h
  simp only [wrap64, WideP.lo]
  omega
theorem wrap_in (x : Int) : -9223372036854775808 ≤ wrap64 x ∧ wrap64 x ≤ 9223372036854775807 := by
  simp only [wrap64]
  omega
theorem lo_nonneg (x : Int) : 0 ≤ WideP.lo x := by unfold WideP.lo; omega
theorem lo_lt (x : Int) : WideP.lo x < 18446744073709551616 := by unfold WideP.lo; omega
theorem hi_wrap (x : Int) (h : WideP.fits x = false) : WideP.hi (wrap64 (WideP.lo x)) ≠ WideP.hi x := by
  simp [WideP.fits] at h
  simp only [wrap64, WideP.lo, WideP.hi]
  omega
theorem lo_wrap (x : Int) : WideP.lo (wrap64 (WideP.lo x)) = WideP.lo x := by
  simp only [wrap64, WideP.lo]
  omega
theorem join_hi (x y : Int) (hx1 : -1000000000000000000000 ≤ x) (hx2 : x ≤ 1000000000000000000000) (hy1 : -1000000000000000000000 ≤ y) (hy2 : y ≤ 1000000000000000000000) :
    wrap64 (wrap64 (WideP.hi x + WideP.hi y) + wrap64 ((WideP.lo x + WideP.lo y) / 18446744073709551616)) = WideP.hi (x + y) := by
  unfold WideP.hi WideP.lo
  rw [wrap_i64 (x / 18446744073709551616 + y / 18446744073709551616) (by omega) (by omega), wrap_i64 ((x % 18446744073709551616 + y % 18446744073709551616) / 18446744073709551616) (by omega) (by omega), wrap_i64 _ (by omega) (by omega)]
  omega
theorem join_lo (x y : Int) : (WideP.lo x + WideP.lo y) % 18446744073709551616 = WideP.lo (x + y) := by
  unfold WideP.lo
  omega
theorem take_hi (x y : Int) (hx1 : -1000000000000000000000 ≤ x) (hx2 : x ≤ 1000000000000000000000) (hy1 : -1000000000000000000000 ≤ y) (hy2 : y ≤ 1000000000000000000000) :
    wrap64 (wrap64 (WideP.hi x - WideP.hi y) - wrap64 (WideP.bor (WideP.lo x) (WideP.lo y))) = WideP.hi (x - y) := by
  unfold WideP.hi WideP.lo WideP.bor
  rw [wrap_i64 (x / 18446744073709551616 - y / 18446744073709551616) (by omega) (by omega)]
  split
  · rw [wrap_i64 1 (by omega) (by omega), wrap_i64 _ (by omega) (by omega)]
    omega
  · rw [wrap_i64 0 (by omega) (by omega), wrap_i64 _ (by omega) (by omega)]
    omega
theorem take_lo (x y : Int) : (WideP.lo x - WideP.lo y) % 18446744073709551616 = WideP.lo (x - y) := by
  unfold WideP.lo
  omega
theorem of_hi (n : Int) (h1 : -9223372036854775808 ≤ n) (h2 : n ≤ 9223372036854775807) : n / 9223372036854775808 = WideP.hi n := by
  unfold WideP.hi
  omega

set_option maxHeartbeats 400000 in
theorem of_any (n : Int) (h1 : -9223372036854775808 ≤ n) (h2 : n ≤ 9223372036854775807) (w : World) : Calls Tryz.prog 107 #[.int .i64 n] w fun e w' => e = .returned (.agg #[.int .i64 (WideP.hi n), .int .u64 (WideP.lo n)]) ∧ Below w.heap.size w w' := by
  have HH := Lib.hid (of_hi n h1 h2)
  have HL := Lib.hid (wrap_u64 n)
  go_enter Tryz.func107, Tryz.ntmps107
  go_wp2
  rw [HH.out, HL.out]
  exact bodyPost_ret (v := .agg #[.int .i64 (WideP.hi n), .int .u64 (WideP.lo n)]) (by simp [results, Tryz.results107, go_sem]) rfl ⟨rfl, balloc (bsame w) _⟩

set_option maxHeartbeats 400000 in
theorem join_any (x y : Int) (hx1 : -1000000000000000000000 ≤ x) (hx2 : x ≤ 1000000000000000000000) (hy1 : -1000000000000000000000 ≤ y) (hy2 : y ≤ 1000000000000000000000) (w : World) :
    Calls Tryz.prog 114 #[.agg #[.int .i64 (WideP.hi x), .int .u64 (WideP.lo x)], .agg #[.int .i64 (WideP.hi y), .int .u64 (WideP.lo y)]] w fun e w' => e = .returned (.agg #[.int .i64 (WideP.hi (x + y)), .int .u64 (WideP.lo (x + y))]) ∧ Below w.heap.size w w' := by
  have HH := Lib.hid (join_hi x y hx1 hx2 hy1 hy2)
  have HL := Lib.hid (join_lo x y)
  have l1 := lo_nonneg x
  have l2 := lo_nonneg y
  generalize WideP.lo x = lx at *
  generalize WideP.lo y = ly at *
  generalize WideP.hi x = hx at *
  generalize WideP.hi y = hy at *
  go_enter Tryz.func114, Tryz.ntmps114
  go_wp2_with (simp only [add64 lx ly l1 l2])
  rw [HH.out, HL.out]
  exact bodyPost_ret (v := .agg #[.int .i64 (WideP.hi (x + y)), .int .u64 (WideP.lo (x + y))]) (by simp [results, Tryz.results114, go_sem]) rfl ⟨rfl, balloc (balloc (balloc (bsame w) _) _) _⟩

set_option maxHeartbeats 400000 in
theorem plus_any (x n : Int) (hx1 : -1000000000000000000000 ≤ x) (hx2 : x ≤ 1000000000000000000000) (h1 : -9223372036854775808 ≤ n) (h2 : n ≤ 9223372036854775807) (w : World) : Calls Tryz.prog 108 #[.agg #[.int .i64 (WideP.hi x), .int .u64 (WideP.lo x)], .int .i64 n] w fun e w' => e = .returned (.agg #[.int .i64 (WideP.hi (x + n)), .int .u64 (WideP.lo (x + n))]) ∧ Below w.heap.size w w' := by
  go_enter Tryz.func108, Tryz.ntmps108
  go_wp2_with fail
  generalize hW0 : ((w).alloc (.cells #[.int .i64 (WideP.hi x), .int .u64 (WideP.lo x)] 154)).alloc (.cells #[.int .i64 0, .int .u64 0] 154) = W0
  have HS0_0 : Hid (Str W0 (w.heap.size) #[.int .i64 (WideP.hi x), .int .u64 (WideP.lo x)]) := Lib.hid (by rw [← hW0]; have := (Str.new (w) #[.int .i64 (WideP.hi x), .int .u64 (WideP.lo x)] 154).alloc (.cells #[.int .i64 0, .int .u64 0] 154); simpa using this)
  have HS1_0 : Hid (Str W0 (w.heap.size + 1) #[.int .i64 0, .int .u64 0]) := Lib.hid (by rw [← hW0]; have := Str.new ((w).alloc (.cells #[.int .i64 (WideP.hi x), .int .u64 (WideP.lo x)] 154)) #[.int .i64 0, .int .u64 0] 154; simpa using this)
  have HB_0 : Hid (Below w.heap.size w W0) := Lib.hid (by rw [← hW0]; exact balloc (balloc (bsame w) _) _)
  have hw_0 := HB_0.out.size
  clear hW0
  obtain ⟨f0_0_0, f0_0_1⟩ := str2 HS0_0.out
  have hl0_0 := HS0_0.out.lt
  obtain ⟨f1_0_0, f1_0_1⟩ := str2 HS1_0.out
  have hl1_0 := HS1_0.out.lt
  refine Reg.wp_region_tail (R := ext) (W := W0) [Reg.eqv (.agg #[.int .i64 (WideP.hi x), .int .u64 (WideP.lo x)]), Reg.eqv (.int .i64 n), Reg.eqv (.agg #[.int .i64 (WideP.hi n), .int .u64 (WideP.lo n)]), Reg.eqv (.agg #[.int .i64 (WideP.hi (x + n)), .int .u64 (WideP.lo (x + n))])] 9 4 _ [[(2, none)], [(1, none)], [(6, some 1)], [(5, some 0), (7, some 2)]] rfl (by kernel_rfl) (by kernel_rfl) (by rfl) (by rfl) rfl (by kernel_rfl) ?_ [some 5, some 6, some 7, some 8] (by kernel_rfl) ?_
  · refine ⟨?_, ?_, ?_, ?_, trivial⟩
    · intro ax wx hx hs
      obtain ⟨e2, -⟩ := hs
      have g2 := Reg.ev (v := .pointer (some ⟨w.heap.size, 0, none⟩)) e2
      obtain ⟨hc, -⟩ := bcell hx
      exact Reg.obl_free rfl (Reg.wp_eqv (Option.some_ne_none _) (by go_simp) rfl)
    · intro ax wx hx hs
      obtain ⟨e1, -⟩ := hs
      have g1 := Reg.ev (v := .int .i64 n) e1
      exact Reg.obl_free rfl (Reg.wp_eqv (Option.some_ne_none _) (by go_simp) rfl)
    · intro ax wx hx hs
      obtain ⟨e6, -⟩ := hs
      have g6 := Reg.ev (v := .int .i64 n) e6
      refine Reg.obl_free rfl ?_
      go_simp
      refine (of_any n h1 h2 _).mono ?_
      rintro e wy ⟨rfl, hby⟩
      exact Reg.done (Option.some_ne_none _) rfl hby
    · intro ax wx hx hs
      obtain ⟨e5, e7, -⟩ := hs
      have g5 := Reg.ev (v := .agg #[.int .i64 (WideP.hi x), .int .u64 (WideP.lo x)]) e5
      have g7 := Reg.ev (v := .agg #[.int .i64 (WideP.hi n), .int .u64 (WideP.lo n)]) e7
      refine Reg.obl_free rfl ?_
      go_simp
      refine (join_any x n hx1 hx2 (by omega) (by omega) _).mono ?_
      rintro e wy ⟨rfl, hby⟩
      exact Reg.done (Option.some_ne_none _) rfl hby
  · intro W1 hwf
    simp only [Reg.Fin]
    rintro _ rfl _ rfl _ rfl _ rfl
    have hwf' : Below W0.heap.size W0 W1 := hwf
    clear hwf
    have HS0_1 := Lib.hid (HS0_0.out.next hwf')
    have HS1_1 := Lib.hid (HS1_0.out.next hwf')
    have HB_1 := Lib.hid (bstep HB_0.out hwf')
    have hw_1 := HB_1.out.size
    have hws_1 := (hwf').size
    clear f0_0_0 f0_0_1 HS0_0 f1_0_0 f1_0_1 HS1_0
    clear hwf'
    obtain ⟨f0_1_0, f0_1_1⟩ := str2 HS0_1.out
    have hl0_1 := HS0_1.out.lt
    obtain ⟨f1_1_0, f1_1_1⟩ := str2 HS1_1.out
    have hl1_1 := HS1_1.out.lt
    have hfz := fun j => HS1_1.out.frozen j
    refine Reg.Goal.mk ?_
    go_simp
    go_wp2_with fail
    exact bodyPost_ret (v := .agg #[.int .i64 (WideP.hi (x + n)), .int .u64 (WideP.lo (x + n))]) (by simp [results, Tryz.results108, go_sem, *]) rfl ⟨rfl, below_grown HB_1.out (grown_set (grown_set (grown_refl _ _) 0 _) 1 _) (by omega)⟩

set_option maxHeartbeats 400000 in
theorem minus_any (x n : Int) (hx1 : -1000000000000000000000 ≤ x) (hx2 : x ≤ 1000000000000000000000) (h1 : -9223372036854775808 ≤ n) (h2 : n ≤ 9223372036854775807) (w : World) : Calls Tryz.prog 109 #[.agg #[.int .i64 (WideP.hi x), .int .u64 (WideP.lo x)], .int .i64 n] w fun e w' => e = .returned (.agg #[.int .i64 (WideP.hi (x - n)), .int .u64 (WideP.lo (x - n))]) ∧ Below w.heap.size w w' := by
  have HH := Lib.hid (take_hi x n hx1 hx2 (by omega) (by omega))
  have HL := Lib.hid (take_lo x n)
  have HO := Lib.hid (fun W => of_any n h1 h2 W)
  have l1 := lo_nonneg x
  have l2 := lo_nonneg n
  have l3 := lo_lt n
  generalize WideP.lo x = lx at *
  generalize WideP.lo n = ln at *
  generalize WideP.hi x = hx at *
  generalize WideP.hi n = hn at *
  go_enter Tryz.func109, Tryz.ntmps109
  go_wp2_with fail
  generalize hW0 : ((w).alloc (.cells #[.int .i64 hx, .int .u64 lx] 154)).alloc (.cells #[.int .i64 0, .int .u64 0] 154) = W0
  have HS0_0 : Hid (Str W0 (w.heap.size) #[.int .i64 hx, .int .u64 lx]) := Lib.hid (by rw [← hW0]; have := (Str.new (w) #[.int .i64 hx, .int .u64 lx] 154).alloc (.cells #[.int .i64 0, .int .u64 0] 154); simpa using this)
  have HS1_0 : Hid (Str W0 (w.heap.size + 1) #[.int .i64 0, .int .u64 0]) := Lib.hid (by rw [← hW0]; have := Str.new ((w).alloc (.cells #[.int .i64 hx, .int .u64 lx] 154)) #[.int .i64 0, .int .u64 0] 154; simpa using this)
  have HB_0 : Hid (Below w.heap.size w W0) := Lib.hid (by rw [← hW0]; exact balloc (balloc (bsame w) _) _)
  have hw_0 := HB_0.out.size
  clear hW0
  obtain ⟨f0_0_0, f0_0_1⟩ := str2 HS0_0.out
  have hl0_0 := HS0_0.out.lt
  obtain ⟨f1_0_0, f1_0_1⟩ := str2 HS1_0.out
  have hl1_0 := HS1_0.out.lt
  refine (HO.out _).mono ?_
  rintro e W1 ⟨rfl, hb1⟩
  have HS0_1 := Lib.hid (HS0_0.out.next hb1)
  have HS1_1 := Lib.hid (HS1_0.out.next hb1)
  have HB_1 := Lib.hid (bstep HB_0.out hb1)
  have hw_1 := HB_1.out.size
  have hws_1 := (hb1).size
  clear f0_0_0 f0_0_1 HS0_0 f1_0_0 f1_0_1 HS1_0
  clear hb1
  obtain ⟨f0_1_0, f0_1_1⟩ := str2 HS0_1.out
  have hl0_1 := HS0_1.out.lt
  obtain ⟨f1_1_0, f1_1_1⟩ := str2 HS1_1.out
  have hl1_1 := HS1_1.out.lt
  have hfz := fun j => HS1_1.out.frozen j
  go_wp2_with (simp only [sub64 lx ln l1 l2 l3])
  rw [HH.out, HL.out]
  exact bodyPost_ret (v := .agg #[.int .i64 (WideP.hi (x - n)), .int .u64 (WideP.lo (x - n))]) (by simp [results, Tryz.results109, go_sem, *]) rfl ⟨rfl, balloc (below_grown HB_1.out (grown_set (grown_set (grown_refl _ _) 0 _) 1 _) (by omega)) _⟩

set_option maxHeartbeats 400000 in
theorem int_any (x : Int) (w : World) : Calls Tryz.prog 113 #[.agg #[.int .i64 (WideP.hi x), .int .u64 (WideP.lo x)]] w fun e w' => e = .returned (.tuple #[.int .i64 (WideP.num x), .bool (WideP.fits x)]) ∧ Below w.heap.size w w' := by
  cases hf : WideP.fits x
  · have HN : Hid (WideP.num x = 0) := Lib.hid (by rw [WideP.num, if_neg (by rw [hf]; simp)])
    have hne := hi_wrap x hf
    have hle := lo_wrap x
    obtain ⟨h1, h2⟩ := wrap_in (WideP.lo x)
    generalize hu : wrap64 (WideP.lo x) = u at hne hle h1 h2
    have HW := Lib.hid hu
    clear hu
    have HO := Lib.hid (fun W => of_any u h1 h2 W)
    rw [hle] at HO
    clear hf h1 h2 hle
    generalize WideP.lo x = lx at *
    generalize hhx : WideP.hi x = qx at *
    clear hhx
    generalize WideP.hi u = hu at *
    go_enter Tryz.func113, Tryz.ntmps113
    go_wp2_with fail
    generalize hW0 : (w).alloc (.cells #[.int .i64 qx, .int .u64 lx] 154) = W0
    have HS0_0 : Hid (Str W0 (w.heap.size) #[.int .i64 qx, .int .u64 lx]) := Lib.hid (by rw [← hW0]; have := Str.new (w) #[.int .i64 qx, .int .u64 lx] 154; simpa using this)
    have HB_0 : Hid (Below w.heap.size w W0) := Lib.hid (by rw [← hW0]; exact balloc (bsame w) _)
    have hw_0 := HB_0.out.size
    clear hW0
    obtain ⟨f0_0_0, f0_0_1⟩ := str2 HS0_0.out
    have hl0_0 := HS0_0.out.lt
    rw [HW.out]
    refine Reg.wp_region_vals (R := ext) (W := W0) [Reg.eqv (.agg #[.int .i64 qx, .int .u64 lx]), Reg.eqv (.int .i64 u), Reg.eqv (.agg #[.int .i64 hu, .int .u64 lx]), Reg.eqv (.bool true)] 13 [[(1, none)], [(4, none)], [(9, some 1)], [(8, some 0), (10, some 2)]] rfl (by kernel_rfl) (by kernel_rfl) (by kernel_rfl) ?_ [some 8, some 9, some 10, some 11] (by kernel_rfl) ?_
    · refine ⟨?_, ?_, ?_, ?_, trivial⟩
      · intro ax wx hx hs
        obtain ⟨e1, -⟩ := hs
        have g1 := Reg.ev (v := .pointer (some ⟨w.heap.size, 0, none⟩)) e1
        obtain ⟨hc, -⟩ := bcell hx
        exact Reg.obl_free rfl (Reg.wp_eqv (Option.some_ne_none _) (by go_simp) rfl)
      · intro ax wx hx hs
        obtain ⟨e4, -⟩ := hs
        have g4 := Reg.ev (v := .int .i64 u) e4
        exact Reg.obl_free rfl (Reg.wp_eqv (Option.some_ne_none _) (by go_simp) rfl)
      · intro ax wx hx hs
        obtain ⟨e9, -⟩ := hs
        have g9 := Reg.ev (v := .int .i64 u) e9
        refine Reg.obl_free rfl ?_
        go_simp
        refine (HO.out _).mono ?_
        rintro e wy ⟨rfl, hby⟩
        exact Reg.done (Option.some_ne_none _) rfl hby
      · intro ax wx hx hs
        obtain ⟨e8, e10, -⟩ := hs
        have g8 := Reg.ev (v := .agg #[.int .i64 qx, .int .u64 lx]) e8
        have g10 := Reg.ev (v := .agg #[.int .i64 hu, .int .u64 lx]) e10
        refine Reg.obl_free rfl ?_
        exact Reg.wp_eqv (Option.some_ne_none _) (by go_simp; exact fun h => hne h.symm) rfl
    · intro W1 hwf
      simp only [Reg.Fin]
      rintro _ rfl _ rfl _ rfl _ rfl
      go_simp
      go_wp2_with fail
      rw [HN.out]
      exact bodyPost_ret (v := .tuple #[.int .i64 0, .bool false]) (by simp [results, Tryz.results113, go_sem, *]) rfl ⟨rfl, bstep HB_0.out hwf⟩
  · have HN : Hid (WideP.num x = x) := Lib.hid (by rw [WideP.num, if_pos hf])
    have HW := Lib.hid (wrap_lo x hf)
    have hin : -9223372036854775808 ≤ x ∧ x ≤ 9223372036854775807 := by simpa [WideP.fits] using hf
    obtain ⟨h1, h2⟩ := hin
    have HO := Lib.hid (fun W => of_any x h1 h2 W)
    clear hf h1 h2
    generalize WideP.lo x = lx at *
    generalize hhx : WideP.hi x = qx at *
    clear hhx
    go_enter Tryz.func113, Tryz.ntmps113
    go_wp2_with fail
    generalize hW0 : (w).alloc (.cells #[.int .i64 qx, .int .u64 lx] 154) = W0
    have HS0_0 : Hid (Str W0 (w.heap.size) #[.int .i64 qx, .int .u64 lx]) := Lib.hid (by rw [← hW0]; have := Str.new (w) #[.int .i64 qx, .int .u64 lx] 154; simpa using this)
    have HB_0 : Hid (Below w.heap.size w W0) := Lib.hid (by rw [← hW0]; exact balloc (bsame w) _)
    have hw_0 := HB_0.out.size
    clear hW0
    obtain ⟨f0_0_0, f0_0_1⟩ := str2 HS0_0.out
    have hl0_0 := HS0_0.out.lt
    rw [HW.out]
    refine Reg.wp_region_vals (R := ext) (W := W0) [Reg.eqv (.agg #[.int .i64 qx, .int .u64 lx]), Reg.eqv (.int .i64 x), Reg.eqv (.agg #[.int .i64 qx, .int .u64 lx]), Reg.eqv (.bool false)] 13 [[(1, none)], [(4, none)], [(9, some 1)], [(8, some 0), (10, some 2)]] rfl (by kernel_rfl) (by kernel_rfl) (by kernel_rfl) ?_ [some 8, some 9, some 10, some 11] (by kernel_rfl) ?_
    · refine ⟨?_, ?_, ?_, ?_, trivial⟩
      · intro ax wx hx hs
        obtain ⟨e1, -⟩ := hs
        have g1 := Reg.ev (v := .pointer (some ⟨w.heap.size, 0, none⟩)) e1
        obtain ⟨hc, -⟩ := bcell hx
        exact Reg.obl_free rfl (Reg.wp_eqv (Option.some_ne_none _) (by go_simp) rfl)
      · intro ax wx hx hs
        obtain ⟨e4, -⟩ := hs
        have g4 := Reg.ev (v := .int .i64 x) e4
        exact Reg.obl_free rfl (Reg.wp_eqv (Option.some_ne_none _) (by go_simp) rfl)
      · intro ax wx hx hs
        obtain ⟨e9, -⟩ := hs
        have g9 := Reg.ev (v := .int .i64 x) e9
        refine Reg.obl_free rfl ?_
        go_simp
        refine (HO.out _).mono ?_
        rintro e wy ⟨rfl, hby⟩
        exact Reg.done (Option.some_ne_none _) rfl hby
      · intro ax wx hx hs
        obtain ⟨e8, e10, -⟩ := hs
        have g8 := Reg.ev (v := .agg #[.int .i64 qx, .int .u64 lx]) e8
        have g10 := Reg.ev (v := .agg #[.int .i64 qx, .int .u64 lx]) e10
        exact Reg.obl_free rfl (Reg.wp_eqv (Option.some_ne_none _) (by go_simp) rfl)
    · intro W1 hwf
      simp only [Reg.Fin]
      rintro _ rfl _ rfl _ rfl _ rfl
      go_simp
      go_wp2_with fail
      rw [HN.out]
      exact bodyPost_ret (v := .tuple #[.int .i64 x, .bool true]) (by simp [results, Tryz.results113, go_sem, *]) rfl ⟨rfl, bstep HB_0.out hwf⟩

set_option maxHeartbeats 400000 in
theorem toldPlus (a b : Int) (ha1 : -9223372036854775808 ≤ a) (ha2 : a ≤ 9223372036854775807) (h1 : -9223372036854775808 ≤ b) (h2 : b ≤ 9223372036854775807) (w : World) :
    Calls Tryz.prog 106 #[.func (.func 108) #[.agg #[.int .i64 (WideP.hi a), .int .u64 (WideP.lo a)]] #[], .int .i64 b] w fun e w' => e = .returned (.tuple #[.int .i64 (WideP.num (a + b)), .bool (WideP.fits (a + b))]) ∧ Below w.heap.size w w' := by
  go_enter Tryz.func106, Tryz.ntmps106
  go_wp2_with fail
  refine (plus_any a b (by omega) (by omega) h1 h2 _).mono ?_
  rintro e w1 ⟨rfl, hb1⟩
  go_wp2_with fail
  refine (int_any (a + b) _).mono ?_
  rintro e w2 ⟨rfl, hb2⟩
  go_wp2_with fail
  exact bodyPost_ret (v := .tuple #[.int .i64 (WideP.num (a + b)), .bool (WideP.fits (a + b))]) (by simp [results, Tryz.results106, go_sem]) rfl ⟨rfl, bstep hb1 hb2⟩

set_option maxHeartbeats 400000 in
theorem add_any (a b : Int) (ha1 : -9223372036854775808 ≤ a) (ha2 : a ≤ 9223372036854775807) (h1 : -9223372036854775808 ≤ b) (h2 : b ≤ 9223372036854775807) (w : World) :
    Calls Tryz.prog 95 #[.int .i64 a, .int .i64 b] w fun e w' => e = .returned (.tuple #[.int .i64 (WideP.num (a + b)), .bool (WideP.fits (a + b))]) ∧ Below w.heap.size w w' := by
  go_enter Tryz.func95, Tryz.ntmps95
  go_wp2_with fail
  refine (of_any a ha1 ha2 _).mono ?_
  rintro e w1 ⟨rfl, hb1⟩
  go_wp2_with fail
  refine (toldPlus a b ha1 ha2 h1 h2 _).mono ?_
  rintro e w2 ⟨rfl, hb2⟩
  go_wp2_with fail
  exact bodyPost_ret (v := .tuple #[.int .i64 (WideP.num (a + b)), .bool (WideP.fits (a + b))]) (by simp [results, Tryz.results95, go_sem]) rfl ⟨rfl, bstep hb1 hb2⟩

set_option maxHeartbeats 400000 in
theorem toldMinus (a b : Int) (ha1 : -9223372036854775808 ≤ a) (ha2 : a ≤ 9223372036854775807) (h1 : -9223372036854775808 ≤ b) (h2 : b ≤ 9223372036854775807) (w : World) :
    Calls Tryz.prog 106 #[.func (.func 109) #[.agg #[.int .i64 (WideP.hi a), .int .u64 (WideP.lo a)]] #[], .int .i64 b] w fun e w' => e = .returned (.tuple #[.int .i64 (WideP.num (a - b)), .bool (WideP.fits (a - b))]) ∧ Below w.heap.size w w' := by
  go_enter Tryz.func106, Tryz.ntmps106
  go_wp2_with fail
  refine (minus_any a b (by omega) (by omega) h1 h2 _).mono ?_
  rintro e w1 ⟨rfl, hb1⟩
  go_wp2_with fail
  refine (int_any (a - b) _).mono ?_
  rintro e w2 ⟨rfl, hb2⟩
  go_wp2_with fail
  exact bodyPost_ret (v := .tuple #[.int .i64 (WideP.num (a - b)), .bool (WideP.fits (a - b))]) (by simp [results, Tryz.results106, go_sem]) rfl ⟨rfl, bstep hb1 hb2⟩

set_option maxHeartbeats 400000 in
theorem sub_any (a b : Int) (ha1 : -9223372036854775808 ≤ a) (ha2 : a ≤ 9223372036854775807) (h1 : -9223372036854775808 ≤ b) (h2 : b ≤ 9223372036854775807) (w : World) :
    Calls Tryz.prog 96 #[.int .i64 a, .int .i64 b] w fun e w' => e = .returned (.tuple #[.int .i64 (WideP.num (a - b)), .bool (WideP.fits (a - b))]) ∧ Below w.heap.size w w' := by
  go_enter Tryz.func96, Tryz.ntmps96
  go_wp2_with fail
  refine (of_any a ha1 ha2 _).mono ?_
  rintro e w1 ⟨rfl, hb1⟩
  go_wp2_with fail
  refine (toldMinus a b ha1 ha2 h1 h2 _).mono ?_
  rintro e w2 ⟨rfl, hb2⟩
  go_wp2_with fail
  exact bodyPost_ret (v := .tuple #[.int .i64 (WideP.num (a - b)), .bool (WideP.fits (a - b))]) (by simp [results, Tryz.results96, go_sem]) rfl ⟨rfl, bstep hb1 hb2⟩
end Go.Proofs.YtpklclnehlgcpaaGreat.WideW
end
section
namespace Go.Proofs.YtpklclnehlgcpaaGreat
theorem key_inj {a b : ByteArray} (h : a.toList = b.toList) : a = b := by
  rw [Lib.toList_data, Lib.toList_data] at h
  exact ByteArray.ext (Array.ext' h)
end Go.Proofs.YtpklclnehlgcpaaGreat
namespace Go.Proofs.YtpklclnehlgcpaaGreat.UndoP
def none : Undo := ⟨0, ByteArray.empty, SlotP.none, 0⟩
/-- does the slot stand for this key? -/
def stands (x : Item) (k : ByteArray) : Prop := (x.state = 1 ∨ x.state = 2) ∧ x.key = k
/-- how an operation is taken back -/
noncomputable def of (x : OpX) (was thn : Item) : Undo := by
  classical
  exact if x.act = 4 then ⟨3, x.key, SlotP.none, x.n⟩ else if x.act = 5 then ⟨2, x.key, SlotP.none, x.n⟩ else
    if x.act = 1 ∨ x.act = 2 ∨ x.act = 3 then (if stands was x.key then ⟨1, x.key, was, 0⟩ else ⟨1, x.key, ⟨2, thn.key, thn.cell⟩, 0⟩) else none
/-- the sum, or the difference -/
def sum (u : Undo) (now : Item) : Int := if u.act = 3 then now.cell.val - u.n else now.cell.val + u.n
/-- what a slot becomes -/
noncomputable def apply (u : Undo) (now : Item) : Item × Int := by
  classical
  exact if u.act = 1 then (u.item, 0) else if u.act = 2 ∨ u.act = 3 then
    (if now.state = 1 ∧ now.key = u.key then
      (if now.cell.kind = 2 ∧ CellP.right now.cell = true then
        (if sum u now < now.cell.lo ∨ now.cell.hi < sum u now then (SlotP.none, 8) else (⟨1, now.key, ⟨2, [], now.cell.lo, now.cell.hi, sum u now⟩⟩, 0)) else (SlotP.none, 6)) else (SlotP.none, 5)) else (SlotP.none, 1)
/-- are all fields the same? -/
def same (a b : Undo) : Bool := a.act == b.act && (a.key.toList == b.key.toList && (a.n == b.n && SlotP.same a.item b.item))
end Go.Proofs.YtpklclnehlgcpaaGreat.UndoP
namespace Go.Proofs.YtpklclnehlgcpaaGreat.UndoP
/-- may it be? -/
def right (u : Undo) : Bool :=
  if u.act = 0 then same u none
  else if u.act = 1 then KeyP.right u.key.data.toList && ((u.item.state == 1 || u.item.state == 2) && (SlotP.right u.item && (u.item.key.toList == u.key.toList && u.n == 0)))
  else if u.act = 2 ∨ u.act = 3 then KeyP.right u.key.data.toList && (decide (0 ≤ u.n) && SlotP.same u.item SlotP.none) else false
/-- its bytes, if it may be -/
def bytes (u : Undo) : List UInt8 :=
  if right u = true then (if u.act = 0 then [0] else [UInt8.ofNat u.act.toNat, UInt8.ofNat u.key.size] ++ (u.key.data.toList ++ (if u.act = 1 then SlotP.bytes u.item else BeP.parts 8 u.n))) else []
end Go.Proofs.YtpklclnehlgcpaaGreat.UndoP
end
section
namespace Go.Proofs.YtpklclnehlgcpaaGreat
/-- a key, and what it has -/
structure Pair where
  key : ByteArray
  cell : Cell
/-- what an operation tells -/
structure Answer where
  err : Int
  cell : Cell
namespace ModelP
abbrev lt (a b : ByteArray) : Prop := a.data.toList < b.data.toList
/-- may an operation be? -/
def good (x : OpX) : Bool :=
  decide (0 ≤ x.act ∧ x.act ≤ 5) && (KeyP.right x.key.data.toList && (if x.act = 1 then decide (x.data.length ≤ 32) else if x.act = 2 then (decide (x.lo ≤ x.n) && decide (x.n ≤ x.hi)) else (decide (x.act < 4) || decide (0 ≤ x.n))))
def code (b : Bool) : Int := if b then 0 else 1
def same (x y : OpX) : Bool := x.act == y.act && (x.key.toList == y.key.toList && (x.data == y.data && (x.lo == y.lo && (x.hi == y.hi && x.n == y.n))))
/-- how many keys lie ahead of k -/
def at_ (s : List Pair) (k : ByteArray) : Nat := match s with
  | [] => 0
  | p :: s => if p.key.data.toList < k.data.toList then at_ s k + 1 else 0
/-- what the key has -/
def find (s : List Pair) (k : ByteArray) : Option Cell := match s with
  | [] => none
  | p :: s => if p.key = k then some p.cell else find s k
/-- what an operation makes of a thing: the error, what is there then, what is told -/
def rule (t : Option Cell) (x : OpX) : Int × Option Cell × Cell :=
  if x.act = 0 then (match t with | none => (5, none, CellP.none) | some c => (0, some c, c))
  else if x.act = 1 then (if (t.getD CellP.none).kind = 2 then (6, none, CellP.none) else (0, some ⟨1, x.data, 0, 0, 0⟩, CellP.none))
  else if x.act = 2 then (match t with | some _ => (7, none, CellP.none) | none => (0, some ⟨2, [], x.lo, x.hi, x.n⟩, CellP.none))
  else if x.act = 3 then (match t with | none => (5, none, CellP.none) | some _ => (0, none, CellP.none))
  else match t with
    | none => (5, none, CellP.none)
    | some c => if c.kind ≠ 2 then (6, none, CellP.none) else
      if (if x.act = 4 then c.val + x.n else c.val - x.n) < c.lo ∨ c.hi < (if x.act = 4 then c.val + x.n else c.val - x.n) then (8, none, CellP.none)
      else (0, some ⟨2, [], c.lo, c.hi, if x.act = 4 then c.val + x.n else c.val - x.n⟩, CellP.none)
/-- a state in which a key has something, or nothing -/
def put (s : List Pair) (k : ByteArray) (c : Option Cell) : List Pair :=
  s.take (at_ s k) ++ ((match c with | some c => [⟨k, c⟩] | none => []) ++ (if (s[at_ s k]?).map (·.key) = some k then s.drop (at_ s k + 1) else s.drop (at_ s k)))
def step (s : List Pair) (x : OpX) : List Pair × Answer :=
  if good x = false then (s, ⟨1, CellP.none⟩)
  else if (rule (find s x.key) x).1 ≠ 0 then (s, ⟨(rule (find s x.key) x).1, CellP.none⟩)
  else (put s x.key (rule (find s x.key) x).2.1, ⟨0, (rule (find s x.key) x).2.2⟩)
def sameAll (s t : List Pair) : Bool := s.length == t.length && (s.zip t).all fun p => p.1.key.toList == p.2.key.toList && CellP.same p.1.cell p.2.cell
/-- rising -/
def Rises (s : List Pair) : Prop := s.Pairwise fun p q => lt p.key q.key
/-- is it a state? -/
def rightB : List Pair → Bool
  | [] => true
  | [p] => KeyP.right p.key.data.toList && CellP.right p.cell
  | p :: q :: s => KeyP.right p.key.data.toList && (CellP.right p.cell && (decide (p.key.data.toList < q.key.data.toList) && rightB (q :: s)))

theorem at_le (k : ByteArray) : ∀ s : List Pair, at_ s k ≤ s.length
  | [] => Nat.le_refl _
  | p :: s => by
    unfold at_
    split
    · have := at_le k s; simp; omega
    · omega
theorem at_lt (k : ByteArray) : ∀ (s : List Pair) (j : Nat) (p : Pair), j < at_ s k → s[j]? = some p → lt p.key k
  | [], j, p, h, _ => by simp [at_] at h
  | q :: s, 0, p, h, hp => by
    simp at hp; subst hp
    unfold at_ at h
    split at h
    · assumption
    · omega
  | q :: s, j + 1, p, h, hp => by
    unfold at_ at h
    split at h
    · exact at_lt k s j p (by omega) (by simpa using hp)
    · omega
theorem at_ge (k : ByteArray) : ∀ (s : List Pair) (p : Pair), s[at_ s k]? = some p → ¬ lt p.key k
  | [], p, hp => by simp at hp
  | q :: s, p, hp => by
    unfold at_ at hp
    split at hp
    · exact at_ge k s p (by simpa using hp)
    · rename_i h
      simp at hp; subst hp; exact h
/-- where all ahead are below and none behind is -/
theorem at_eq (k : ByteArray) : ∀ (s : List Pair) (i : Nat), i ≤ s.length → (∀ j p, j < i → s[j]? = some p → lt p.key k) → (∀ p, s[i]? = some p → ¬ lt p.key k) → at_ s k = i
  | [], i, hi, _, _ => by simp at hi; simp [at_, hi]
  | q :: s, 0, _, _, h2 => by
    have := h2 q rfl
    simp [at_]
    intro hh
    exact absurd hh this
  | q :: s, i + 1, hi, h1, h2 => by
    have hq := h1 0 q (by omega) rfl
    have := at_eq k s i (by simpa using hi) (fun j p hj hp => h1 (j + 1) p (by omega) (by simpa using hp)) (fun p hp => h2 p (by simpa using hp))
    unfold at_
    rw [if_pos hq, this]
theorem key_eq {a b : ByteArray} (h : a.data.toList = b.data.toList) : a = b := key_inj (by rw [Lib.toList_data, Lib.toList_data]; exact h)
theorem lt_irrefl (a : ByteArray) : ¬ lt a a := List.lt_irrefl _
theorem lt_trans {a b c : ByteArray} (h : lt a b) (h' : lt b c) : lt a c := List.lt_trans h h'
/-- what a key has in a state -/
theorem find_eq (k : ByteArray) : ∀ s : List Pair, Rises s → find s k = if (s[at_ s k]?).map (·.key) = some k then (s[at_ s k]?).map (·.cell) else none
  | [], _ => by simp [find, at_]
  | p :: s, h => by
    obtain ⟨hp, hs⟩ := List.pairwise_cons.1 h
    unfold find at_
    by_cases hk : p.key.data.toList < k.data.toList
    · have hne : ¬ p.key = k := by rintro rfl; exact List.lt_irrefl _ hk
      rw [if_neg hne, if_pos hk, find_eq k s hs]
      simp
    · rw [if_neg hk]
      by_cases he : p.key = k
      · simp [he]
      · rw [if_neg he]
        have : ¬ ((p :: s)[0]?).map (·.key) = some k := by simpa using he
        rw [if_neg this]
        have hge : k.data.toList < p.key.data.toList := by
          rcases List.le_iff_lt_or_eq.1 (List.not_lt.1 hk) with h1 | h1
          · exact h1
          · exact absurd (key_eq h1).symm he
        -- none further on
        have : ∀ t : List Pair, (∀ q ∈ t, lt p.key q.key) → find t k = none := by
          intro t
          induction t with
          | nil => intro _; rfl
          | cons q t ih =>
            intro hq
            have h1 := hq q (by simp)
            unfold find
            rw [if_neg (by rintro rfl; exact List.lt_irrefl _ (List.lt_trans hge h1))]
            exact ih fun r hr => hq r (by simp [hr])
        exact this s hp
end ModelP
end Go.Proofs.YtpklclnehlgcpaaGreat
end
