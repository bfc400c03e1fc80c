/-
  Parts of the proof of WalStays.
-/
import Derived.Test.YtpdfnlhhnodnjaaGreatWsG5
import Derived.Test.YtpdfnlhhnodnjaaGreatWsG9
import Derived.Test.YtpdfnlhhnodnjaaGreatWsG7
import Derived.Test.YtpdfnlhhnodnjaaGreatWsG2
import Derived.IntWalk
section
namespace Go.Proofs.YtpdfnlhhnodnjaaGreat.SlotPut
open Go.RowKit
attribute [local go_sem ↓] al64_fold ld64_fold st64_fold bd64_fold sl64_fold cp_fold

theorem bytes_zero (x : Item) (h : ¬ (x.state ≠ 0 ∧ SlotP.right x = true)) : SlotP.bytes x = SlotP.zeros 64 := by
  unfold SlotP.bytes
  rw [if_neg h]
theorem zeros_len (n : Nat) : (SlotP.zeros n).length = n := by simp [SlotP.zeros]

set_option maxRecDepth 100000 in
set_option maxHeartbeats 1000000 in
theorem put_zero (A : Option Addr) (n cap B : Nat) (x : Item) (w : World) (h : Bytes w B A n cap x.cell.data) (hB : B ≤ w.heap.size) (hk : x.key.size ≤ maxLen) (h0 : ¬ (x.state ≠ 0 ∧ SlotP.right x = true)) :
    Calls Tryz.prog 68 #[SlotW.itemV A n cap x] w fun e w' => e = .returned (.agg (rowV (SlotP.bytes x))) ∧ Below w.heap.size w w' := by
  rw [bytes_zero x h0]
  have HC := Lib.hid (fun W (hW : Bytes W B A n cap x.cell.data) (hB : B ≤ W.heap.size) => SlotW.check_any A n cap B x W hW hB hk)
  have H := Lib.hid h
  have hal := fun W => run_al (P := Tryz.prog) arr64 W
  have hzl := zeros_len 64
  clear h hk
  by_cases hs : x.state = 0
  · obtain ⟨s, k, kind, data, lo, hi, val⟩ := x
    dsimp only at *
    subst hs
    clear h0
    obtain ⟨W3, hW3⟩ : ∃ W3, ((w.alloc (.cells #[.int .i64 0, .string k, .int .i64 kind, .slice A n cap, .int .i64 lo, .int .i64 hi, .int .i64 val] 36)).alloc (.cells (rowV (SlotP.zeros 64)) 118)).alloc (.cells (rowV (SlotP.zeros 64)) 118) = W3 := ⟨_, rfl⟩
    have hS1 : Str W3 (w.heap.size + 1) (rowV (SlotP.zeros 64)) := by
      rw [← hW3]
      have := (Str.new (w.alloc (.cells #[.int .i64 0, .string k, .int .i64 kind, .slice A n cap, .int .i64 lo, .int .i64 hi, .int .i64 val] 36)) (rowV (SlotP.zeros 64)) 118).alloc (.cells (rowV (SlotP.zeros 64)) 118)
      simpa using this
    have hS2 : Str W3 (w.heap.size + 1 + 1) (rowV (SlotP.zeros 64)) := by
      rw [← hW3]
      have := Str.new ((w.alloc (.cells #[.int .i64 0, .string k, .int .i64 kind, .slice A n cap, .int .i64 lo, .int .i64 hi, .int .i64 val] 36)).alloc (.cells (rowV (SlotP.zeros 64)) 118)) (rowV (SlotP.zeros 64)) 118
      simpa using this
    have hld := run_ld (P := Tryz.prog) arr64 hS2 hzl
    have hst := run_st (P := Tryz.prog) arr64 hS1 (by rw [rowV_size]; exact hzl) hzl
    have HB : Hid (Below w.heap.size w (W3.setRow (w.heap.size + 1) (rowV (SlotP.zeros 64)))) := Lib.hid (below_setRow (by rw [← hW3]; exact balloc (balloc (balloc (bsame w) _) _) _) (by omega) _)
    have HS := Lib.hid (hS1.setRow (cs' := rowV (SlotP.zeros 64)))
    have HZ := Lib.hid hzl
    rw [← hW3] at hld hst HB HS
    clear hS1 hS2 hzl hW3
    go_enter Tryz.func68, Tryz.ntmps68
    go_wp2
    exact bodyPost_ret (v := .agg (rowV (SlotP.zeros 64))) (results_arr arr64 Tryz.results68 _ HS.out HZ.out rfl) rfl ⟨rfl, HB.out⟩
  · have hr : SlotP.right x = false := by
      cases hb : SlotP.right x
      · rfl
      · exact absurd ⟨hs, hb⟩ h0
    have HR := Lib.hid hr
    obtain ⟨s, k, kind, data, lo, hi, val⟩ := x
    dsimp only at *
    have hs0 : (s == 0) = false := by simpa using hs
    have hcf := SlotW.code_false
    clear h0 hr
    go_enter Tryz.func68, Tryz.ntmps68
    go_wp2_with fail
    refine (HC.out _ (((H.out.alloc hB _).alloc (by simp; omega) _).alloc (by simp; omega) _) (by simp; omega)).mono ?_
    rintro e w1 ⟨rfl, hb⟩
    rw [HR.out]
    have hS1 : Str w1 (w.heap.size + 1) (rowV (SlotP.zeros 64)) := by
      have := ((Str.new (w.alloc (.cells #[.int .i64 s, .string k, .int .i64 kind, .slice A n cap, .int .i64 lo, .int .i64 hi, .int .i64 val] 36)) (rowV (SlotP.zeros 64)) 118).alloc (.cells (rowV (SlotP.zeros 64)) 118)).next hb
      simpa using this
    have hS2 : Str w1 (w.heap.size + 1 + 1) (rowV (SlotP.zeros 64)) := by
      have := (Str.new ((w.alloc (.cells #[.int .i64 s, .string k, .int .i64 kind, .slice A n cap, .int .i64 lo, .int .i64 hi, .int .i64 val] 36)).alloc (.cells (rowV (SlotP.zeros 64)) 118)) (rowV (SlotP.zeros 64)) 118).next hb
      simpa using this
    have hld := run_ld (P := Tryz.prog) arr64 hS2 hzl
    have hst := run_st (P := Tryz.prog) arr64 hS1 (by rw [rowV_size]; exact hzl) hzl
    have HB : Hid (Below w.heap.size w (w1.setRow (w.heap.size + 1) (rowV (SlotP.zeros 64)))) := Lib.hid (below_setRow (bstep (balloc (balloc (balloc (bsame w) _) _) _) hb) (by omega) _)
    have HS := Lib.hid (hS1.setRow (cs' := rowV (SlotP.zeros 64)))
    have HZ := Lib.hid hzl
    clear hS1 hS2 hzl hb
    go_wp2
    exact bodyPost_ret (v := .agg (rowV (SlotP.zeros 64))) (results_arr arr64 Tryz.results68 _ HS.out HZ.out rfl) rfl ⟨rfl, HB.out⟩


set_option maxRecDepth 100000 in
set_option maxHeartbeats 1000000 in
theorem put_full (A : Option Addr) (n cap B : Nat) (x : Item) (w : World) (h : Bytes w B A n cap x.cell.data) (hB : B ≤ w.heap.size) (hk : x.key.size ≤ maxLen) (h0 : x.state ≠ 0) (hr : SlotP.right x = true) :
    Calls Tryz.prog 68 #[SlotW.itemV A n cap x] w fun e w' => e = .returned (.agg (rowV (SlotP.bytes x))) ∧ Below w.heap.size w w' := by
  have HC := Lib.hid (fun W (hW : Bytes W B A n cap x.cell.data) (hB : B ≤ W.heap.size) => SlotW.check_any A n cap B x W hW hB hk)
  have H := Lib.hid h
  have hal := fun W => run_al (P := Tryz.prog) arr64 W
  have HZ := Lib.hid (zeros_len 64)
  have hk16 : x.key.size ≤ 16 := SlotP.right_key x h0 hr
  have h12 := SlotP.right_state x h0 hr
  have HL := Lib.hid (SlotP.put_list x h0 hr)
  have HBL := Lib.hid (SlotP.cell_le x.cell)
  have HR := Lib.hid hr
  clear h hk hr
  obtain ⟨s, k, kind, data, lo, hi, val⟩ := x
  dsimp only at *
  have hkm : ((k.size : Int) % 256) = (k.size : Int) := by omega
  have hkb : Value.int .u8 (k.size : Int) = byteV (UInt8.ofNat k.size) := by
    have : (UInt8.ofNat k.size).toNat = k.size := by simp; omega
    simp [byteV, this]
  have HKB := Lib.hid hkb
  have hcf := SlotW.code_true
  clear hkb h0
  rcases h12 with rfl | rfl
  · go_enter Tryz.func68, Tryz.ntmps68
    go_wp2_with fail
    refine (HC.out _ (((H.out.alloc hB _).alloc (by simp; omega) _).alloc (by simp; omega) _) (by simp; omega)).mono ?_
    rintro e w1 ⟨rfl, hb⟩
    rw [HR.out]
    have hS0 : Str w1 w.heap.size #[.int .i64 1, .string k, .int .i64 kind, .slice A n cap, .int .i64 lo, .int .i64 hi, .int .i64 val] := ((((Str.new w #[.int .i64 1, .string k, .int .i64 kind, .slice A n cap, .int .i64 lo, .int .i64 hi, .int .i64 val] 36).alloc (.cells (rowV (SlotP.zeros 64)) 118)).alloc (.cells (rowV (SlotP.zeros 64)) 118))).next hb
    have hS1 : Str w1 (w.heap.size + 1) (rowV (SlotP.zeros 64)) := by
      have := ((Str.new (w.alloc (.cells #[.int .i64 1, .string k, .int .i64 kind, .slice A n cap, .int .i64 lo, .int .i64 hi, .int .i64 val] 36)) (rowV (SlotP.zeros 64)) 118).alloc (.cells (rowV (SlotP.zeros 64)) 118)).next hb
      simpa using this
    have hS2 : Str w1 (w.heap.size + 1 + 1) (rowV (SlotP.zeros 64)) := by
      have := (Str.new ((w.alloc (.cells #[.int .i64 1, .string k, .int .i64 kind, .slice A n cap, .int .i64 lo, .int .i64 hi, .int .i64 val] 36)).alloc (.cells (rowV (SlotP.zeros 64)) 118)) (rowV (SlotP.zeros 64)) 118).next hb
      simpa using this
    obtain ⟨p0, p1, p2, p3, p4, p5, p6⟩ := str7 hS0
    have c20 : w1.cell? ⟨w.heap.size + 1 + 1, 0, none⟩ = some (byteV 0) := by rw [hS2.cell]; rfl
    have c21 : w1.cell? ⟨w.heap.size + 1 + 1, 1, none⟩ = some (byteV 0) := by rw [hS2.cell]; rfl
    have kf := fun i => hS2.frozen i
    have HS0 := Lib.hid hS0
    have HS1 := Lib.hid hS1
    have HS2 := Lib.hid hS2
    have HB1 := Lib.hid (bstep (balloc (balloc (balloc (bsame w) _) _) _) hb)
    clear hS0 hS1 hS2 hb
    go_wp2_with fail
    obtain ⟨W4, hW4⟩ : ∃ W4, (w1.setCell ⟨w.heap.size + 1 + 1, 0, none⟩ (.int .u8 1)).setCell ⟨w.heap.size + 1 + 1, 1, none⟩ (.int .u8 (k.size : Int)) = W4 := ⟨_, rfl⟩
    have hT2 : Str W4 (w.heap.size + 1 + 1) (rowV (((SlotP.zeros 64).set 0 1).set 1 (UInt8.ofNat k.size))) := by
      rw [← hW4, HKB.out]
      have := (HS2.out.set 0 (byteV 1)).set 1 (byteV (UInt8.ofNat k.size))
      rw [rowV_set, rowV_set] at this
      exact this
    have hT0 : Str W4 w.heap.size #[.int .i64 1, .string k, .int .i64 kind, .slice A n cap, .int .i64 lo, .int .i64 hi, .int .i64 val] := by rw [← hW4]; exact (HS0.out.other 0 _ (by omega)).other 1 _ (by omega)
    have hT1 : Str W4 (w.heap.size + 1) (rowV (SlotP.zeros 64)) := by rw [← hW4]; exact (HS1.out.other 0 _ (by omega)).other 1 _ (by omega)
    have hB14 : Below w.heap.size w1 W4 := by rw [← hW4]; exact ((Below.refl _ _).setCell (by simp; omega) _).setCell (by simp; omega) _
    have HB4 := Lib.hid (HB1.out.trans hB14)
    have hlen2 : (((SlotP.zeros 64).set 0 1).set 1 (UInt8.ofNat k.size)).length = 64 := by simp [HZ.out]
    rw [hW4]
    obtain ⟨q0, q1, q2, q3, q4, q5, q6⟩ := str7 hT0
    have hl4 := hT0.lt
    have HT0 := Lib.hid hT0
    have HT1 := Lib.hid hT1
    have HT2 := Lib.hid hT2
    have HLEN2 := Lib.hid hlen2
    clear hW4 hT0 hT1 hT2 hB14 hlen2 p0 p1 p2 p3 p4 p5 p6 c20 c21 kf HS0 HS1 HS2 HB1
    have hsl := fun W => run_sl_from (P := Tryz.prog) arr64 (w.heap.size + 1 + 1) 2 (by omega) W
    simp only [Nat.reduceSub, Int.cast_ofNat_Int] at hsl
    refine Reg.wp_region_tail (R := ext) (W := W4) [Reg.eqv (.slice (some ⟨w.heap.size + 1 + 1, 2, none⟩) 62 62), Reg.eqv (.pointer (some ⟨w.heap.size, 1, none⟩)), Reg.eqv (.string k)] 36 3 _ [[(3, none)], [(1, none)], [(23, some 1)]] rfl (by kernel_rfl) (by kernel_rfl) (by rfl) (by rfl) rfl (by kernel_rfl) ?_ [some 22, some 23, some 24] (by kernel_rfl) ?_
    · refine ⟨?_, ?_, ?_, trivial⟩
      · intro ax wx hx hs
        obtain ⟨e3, -⟩ := hs
        have g3 := Reg.ev (v := .pointer (some ⟨w.heap.size + 1 + 1, 0, none⟩)) e3
        exact Reg.obl_free rfl (Reg.wp_eqv (Option.some_ne_none _) (by go_simp) rfl)
      · intro ax wx hx hs
        obtain ⟨e1, -⟩ := hs
        have g1 := Reg.ev (v := .pointer (some ⟨w.heap.size, 0, none⟩)) e1
        exact Reg.obl_free rfl (Reg.wp_eqv (Option.some_ne_none _) (by go_simp) rfl)
      · intro ax wx hx hs
        obtain ⟨e23, -⟩ := hs
        have g23 := Reg.ev (v := .pointer (some ⟨w.heap.size, 1, none⟩)) e23
        obtain ⟨hc, -⟩ := bcell hx
        exact Reg.obl_free rfl (Reg.wp_eqv (Option.some_ne_none _) (by go_simp) rfl)
    · intro wf hwf
      simp only [Reg.Fin]
      rintro _ rfl _ rfl _ rfl
      have hwf' : Below W4.heap.size W4 wf := hwf
      obtain ⟨w5, hcp, hU2, hg5⟩ := copy_string (P := Tryz.prog) 32 9 3 5 Tryz.underlying32 Be.sizeU8 (dLen := 62) (dCap := 62) (off := 2) (HT2.out.next hwf') k (by omega) (by rw [HLEN2.out]; omega)
      have hU0 := (HT0.out.next hwf').grown hg5 (by omega)
      have hU1 := (HT1.out.next hwf').grown hg5 (by omega)
      have HB5 := Lib.hid (below_grown (bstep HB4.out hwf') hg5 (by omega))
      have hD5 := H.out.below (HB5.out.mono hB)
      have hlen3 : (SlotP.over (((SlotP.zeros 64).set 0 1).set 1 (UInt8.ofNat k.size)) 2 k.data.toList).length = 64 := by
        rw [SlotP.over_length _ _ _ (by rw [HLEN2.out, Array.length_toList]; show 2 + k.size ≤ 64; omega), HLEN2.out]
      have HU0 := Lib.hid hU0
      have HU1 := Lib.hid hU1
      have HU2 := Lib.hid hU2
      have HD5 := Lib.hid hD5
      have HLEN3 := Lib.hid hlen3
      have hl5 := hU0.lt
      have hl5' := HB5.out.size
      obtain ⟨r0, r1, r2, r3, r4, r5, r6⟩ := str7 hU0
      clear hwf hwf' hU0 hU1 hU2 hg5 hD5 hlen3 q0 q1 q2 q3 q4 q5 q6 hl4 HT0 HT1 HT2 HLEN2 HB4 hsl
      refine Reg.Goal.mk ?_
      go_simp
      clear hcp
      go_wp2_with fail
      have hsl : ∀ W, (slSem 118 (.pointer (some ⟨w.heap.size + 1 + 1, 0, none⟩)) (some (.int .i64 (2 + (k.size : Int)))) none none).run Tryz.prog W = .ok (.slice (some ⟨w.heap.size + 1 + 1, 2 + k.size, none⟩) (64 - (2 + k.size)) (64 - (2 + k.size))) W := by
        intro W
        have := run_sl_from (P := Tryz.prog) arr64 (w.heap.size + 1 + 1) (2 + k.size) (by omega) W
        rwa [show ((2 + k.size : Nat) : Int) = 2 + (k.size : Int) by omega] at this
      refine Reg.wp_region_tail (R := ext) (W := w5) [Reg.eqv (.pointer (some ⟨w.heap.size, 1, none⟩)), Reg.eqv (.string k), Reg.eqv (.int .i64 (k.size : Int)), Reg.eqv (.int .i64 (2 + (k.size : Int))), Reg.eqv (.slice (some ⟨w.heap.size + 1 + 1, 2 + k.size, none⟩) (64 - (2 + k.size)) (64 - (2 + k.size))), Reg.eqv (.pointer (some ⟨w.heap.size, 2, none⟩)), Reg.eqv (.agg #[.int .i64 kind, .slice A n cap, .int .i64 lo, .int .i64 hi, .int .i64 val]), Reg.bytes (CellP.bytes ⟨kind, data, lo, hi, val⟩)] 36 8 _ [[(1, none)], [(26, some 0)], [(27, some 1)], [(28, some 2)], [(3, none), (29, some 3)], [(1, none)], [(31, some 5)], [(32, some 6)]] rfl (by kernel_rfl) (by kernel_rfl) (by rfl) (by rfl) rfl (by kernel_rfl) ?_ [some 26, some 27, some 28, some 29, some 30, some 31, some 32, some 33] (by kernel_rfl) ?_
      · refine ⟨?_, ?_, ?_, ?_, ?_, ?_, ?_, ?_, trivial⟩
        · intro ax wx hx hs
          obtain ⟨e1, -⟩ := hs
          have g1 := Reg.ev (v := .pointer (some ⟨w.heap.size, 0, none⟩)) e1
          exact Reg.obl_free rfl (Reg.wp_eqv (Option.some_ne_none _) (by go_simp) rfl)
        · intro ax wx hx hs
          obtain ⟨e26, -⟩ := hs
          have g26 := Reg.ev (v := .pointer (some ⟨w.heap.size, 1, none⟩)) e26
          obtain ⟨hc, -⟩ := bcell hx
          exact Reg.obl_free rfl (Reg.wp_eqv (Option.some_ne_none _) (by go_simp) rfl)
        · intro ax wx hx hs
          obtain ⟨e27, -⟩ := hs
          have g27 := Reg.ev (v := .string k) e27
          exact Reg.obl_free rfl (Reg.wp_eqv (Option.some_ne_none _) (by go_simp) rfl)
        · intro ax wx hx hs
          obtain ⟨e28, -⟩ := hs
          have g28 := Reg.ev (v := .int .i64 (k.size : Int)) e28
          refine Reg.obl_free rfl ?_
          exact Reg.wp_eqv (Option.some_ne_none _) (by go_simp; exact IntWalk.i64_in _ (by omega)) rfl
        · intro ax wx hx hs
          obtain ⟨e3, e29, -⟩ := hs
          have g3 := Reg.ev (v := .pointer (some ⟨w.heap.size + 1 + 1, 0, none⟩)) e3
          have g29 := Reg.ev (v := .int .i64 (2 + (k.size : Int))) e29
          exact Reg.obl_free rfl (Reg.wp_eqv (Option.some_ne_none _) (by go_simp) rfl)
        · intro ax wx hx hs
          obtain ⟨e1, -⟩ := hs
          have g1 := Reg.ev (v := .pointer (some ⟨w.heap.size, 0, none⟩)) e1
          exact Reg.obl_free rfl (Reg.wp_eqv (Option.some_ne_none _) (by go_simp) rfl)
        · intro ax wx hx hs
          obtain ⟨e31, -⟩ := hs
          have g31 := Reg.ev (v := .pointer (some ⟨w.heap.size, 2, none⟩)) e31
          obtain ⟨hc, -⟩ := bcell hx
          exact Reg.obl_free rfl (Reg.wp_eqv (Option.some_ne_none _) (by go_simp) rfl)
        · intro ax wx hx hs
          obtain ⟨e32, -⟩ := hs
          have g32 := Reg.ev (v := .agg #[.int .i64 kind, .slice A n cap, .int .i64 lo, .int .i64 hi, .int .i64 val]) e32
          refine Reg.obl_free rfl ?_
          go_simp
          have hx' : Below w5.heap.size w5 wx := hx
          refine (CellPut.put_any none A 0 0 n cap 0 B [] ⟨kind, data, lo, hi, val⟩ wx (Bytes.none_ _ _) (Nat.zero_le _) (HD5.out.below (hx'.mono (by omega))) (by have := hx'.size; omega) (by omega)).mono ?_
          rintro e wy ⟨A3, n3, c3, rfl, hy, hby⟩
          exact Reg.done (Option.some_ne_none _) ⟨A3, n3, c3, rfl, hy⟩ hby
      · intro wf hwf
        simp only [Reg.Fin]
        rintro _ rfl _ rfl _ rfl _ rfl _ rfl _ rfl _ rfl v33 h33
        obtain ⟨A3, n3, c3, rfl, hy⟩ := h33
        have hwf' : Below w5.heap.size w5 wf := hwf
        obtain ⟨w6, hcp, hV2, hg6⟩ := copy_bytes (P := Tryz.prog) 32 32 3 5 Tryz.underlying32 Be.sizeU8 (dLen := 64 - (2 + k.size)) (dCap := 64 - (2 + k.size)) (off := 2 + k.size) (HU2.out.next hwf') hy (by rw [HLEN3.out]; omega)
        have hn3 := hy.len
        rw [List.take_of_length_le (by have := HBL.out; omega)] at hV2
        have hx1 : UInt8.ofNat (Int.toNat 1) = 1 := rfl
        have hL := HL.out
        rw [hx1] at hL
        rw [hL] at hV2
        have hV1 := (HU1.out.next hwf').grown hg6 (by omega)
        have HB6 := Lib.hid (below_grown (bstep HB5.out hwf') hg6 (by omega))
        have hld := run_ld (P := Tryz.prog) arr64 hV2 (SlotP.bytes_length _)
        have hst := run_st (P := Tryz.prog) arr64 hV1 (by rw [rowV_size]; exact HZ.out) (SlotP.bytes_length ⟨1, k, kind, data, lo, hi, val⟩)
        have HB7 := Lib.hid (below_setRow HB6.out (by omega : w.heap.size ≤ w.heap.size + 1) (rowV (SlotP.bytes ⟨1, k, kind, data, lo, hi, val⟩)))
        have HS7 := Lib.hid (hV1.setRow (cs' := rowV (SlotP.bytes ⟨1, k, kind, data, lo, hi, val⟩)))
        clear hwf hwf' hV1 hV2 hg6 hL hx1 hn3 hy r0 r1 r2 r3 r4 r5 r6 hl5 hl5' hsl HU0 HU1 HU2 HD5 HLEN3 HB5 HB6
        refine Reg.Goal.mk ?_
        go_simp
        clear hcp
        go_wp2_with fail
        exact bodyPost_ret (v := .agg (rowV (SlotP.bytes ⟨1, k, kind, data, lo, hi, val⟩))) (results_arr arr64 Tryz.results68 _ HS7.out (SlotP.bytes_length _) rfl) rfl ⟨rfl, HB7.out⟩
  · go_enter Tryz.func68, Tryz.ntmps68
    go_wp2_with fail
    refine (HC.out _ (((H.out.alloc hB _).alloc (by simp; omega) _).alloc (by simp; omega) _) (by simp; omega)).mono ?_
    rintro e w1 ⟨rfl, hb⟩
    rw [HR.out]
    have hS0 : Str w1 w.heap.size #[.int .i64 2, .string k, .int .i64 kind, .slice A n cap, .int .i64 lo, .int .i64 hi, .int .i64 val] := ((((Str.new w #[.int .i64 2, .string k, .int .i64 kind, .slice A n cap, .int .i64 lo, .int .i64 hi, .int .i64 val] 36).alloc (.cells (rowV (SlotP.zeros 64)) 118)).alloc (.cells (rowV (SlotP.zeros 64)) 118))).next hb
    have hS1 : Str w1 (w.heap.size + 1) (rowV (SlotP.zeros 64)) := by
      have := ((Str.new (w.alloc (.cells #[.int .i64 2, .string k, .int .i64 kind, .slice A n cap, .int .i64 lo, .int .i64 hi, .int .i64 val] 36)) (rowV (SlotP.zeros 64)) 118).alloc (.cells (rowV (SlotP.zeros 64)) 118)).next hb
      simpa using this
    have hS2 : Str w1 (w.heap.size + 1 + 1) (rowV (SlotP.zeros 64)) := by
      have := (Str.new ((w.alloc (.cells #[.int .i64 2, .string k, .int .i64 kind, .slice A n cap, .int .i64 lo, .int .i64 hi, .int .i64 val] 36)).alloc (.cells (rowV (SlotP.zeros 64)) 118)) (rowV (SlotP.zeros 64)) 118).next hb
      simpa using this
    obtain ⟨p0, p1, p2, p3, p4, p5, p6⟩ := str7 hS0
    have c20 : w1.cell? ⟨w.heap.size + 1 + 1, 0, none⟩ = some (byteV 0) := by rw [hS2.cell]; rfl
    have c21 : w1.cell? ⟨w.heap.size + 1 + 1, 1, none⟩ = some (byteV 0) := by rw [hS2.cell]; rfl
    have kf := fun i => hS2.frozen i
    have HS0 := Lib.hid hS0
    have HS1 := Lib.hid hS1
    have HS2 := Lib.hid hS2
    have HB1 := Lib.hid (bstep (balloc (balloc (balloc (bsame w) _) _) _) hb)
    clear hS0 hS1 hS2 hb
    go_wp2_with fail
    obtain ⟨W4, hW4⟩ : ∃ W4, (w1.setCell ⟨w.heap.size + 1 + 1, 0, none⟩ (.int .u8 2)).setCell ⟨w.heap.size + 1 + 1, 1, none⟩ (.int .u8 (k.size : Int)) = W4 := ⟨_, rfl⟩
    have hT2 : Str W4 (w.heap.size + 1 + 1) (rowV (((SlotP.zeros 64).set 0 2).set 1 (UInt8.ofNat k.size))) := by
      rw [← hW4, HKB.out]
      have := (HS2.out.set 0 (byteV 2)).set 1 (byteV (UInt8.ofNat k.size))
      rw [rowV_set, rowV_set] at this
      exact this
    have hT0 : Str W4 w.heap.size #[.int .i64 2, .string k, .int .i64 kind, .slice A n cap, .int .i64 lo, .int .i64 hi, .int .i64 val] := by rw [← hW4]; exact (HS0.out.other 0 _ (by omega)).other 1 _ (by omega)
    have hT1 : Str W4 (w.heap.size + 1) (rowV (SlotP.zeros 64)) := by rw [← hW4]; exact (HS1.out.other 0 _ (by omega)).other 1 _ (by omega)
    have hB14 : Below w.heap.size w1 W4 := by rw [← hW4]; exact ((Below.refl _ _).setCell (by simp; omega) _).setCell (by simp; omega) _
    have HB4 := Lib.hid (HB1.out.trans hB14)
    have hlen2 : (((SlotP.zeros 64).set 0 2).set 1 (UInt8.ofNat k.size)).length = 64 := by simp [HZ.out]
    rw [hW4]
    obtain ⟨q0, q1, q2, q3, q4, q5, q6⟩ := str7 hT0
    have hl4 := hT0.lt
    have HT0 := Lib.hid hT0
    have HT1 := Lib.hid hT1
    have HT2 := Lib.hid hT2
    have HLEN2 := Lib.hid hlen2
    clear hW4 hT0 hT1 hT2 hB14 hlen2 p0 p1 p2 p3 p4 p5 p6 c20 c21 kf HS0 HS1 HS2 HB1
    have hsl := fun W => run_sl_from (P := Tryz.prog) arr64 (w.heap.size + 1 + 1) 2 (by omega) W
    simp only [Nat.reduceSub, Int.cast_ofNat_Int] at hsl
    refine Reg.wp_region_tail (R := ext) (W := W4) [Reg.eqv (.slice (some ⟨w.heap.size + 1 + 1, 2, none⟩) 62 62), Reg.eqv (.pointer (some ⟨w.heap.size, 1, none⟩)), Reg.eqv (.string k)] 36 3 _ [[(3, none)], [(1, none)], [(23, some 1)]] rfl (by kernel_rfl) (by kernel_rfl) (by rfl) (by rfl) rfl (by kernel_rfl) ?_ [some 22, some 23, some 24] (by kernel_rfl) ?_
    · refine ⟨?_, ?_, ?_, trivial⟩
      · intro ax wx hx hs
        obtain ⟨e3, -⟩ := hs
        have g3 := Reg.ev (v := .pointer (some ⟨w.heap.size + 1 + 1, 0, none⟩)) e3
        exact Reg.obl_free rfl (Reg.wp_eqv (Option.some_ne_none _) (by go_simp) rfl)
      · intro ax wx hx hs
        obtain ⟨e1, -⟩ := hs
        have g1 := Reg.ev (v := .pointer (some ⟨w.heap.size, 0, none⟩)) e1
        exact Reg.obl_free rfl (Reg.wp_eqv (Option.some_ne_none _) (by go_simp) rfl)
      · intro ax wx hx hs
        obtain ⟨e23, -⟩ := hs
        have g23 := Reg.ev (v := .pointer (some ⟨w.heap.size, 1, none⟩)) e23
        obtain ⟨hc, -⟩ := bcell hx
        exact Reg.obl_free rfl (Reg.wp_eqv (Option.some_ne_none _) (by go_simp) rfl)
    · intro wf hwf
      simp only [Reg.Fin]
      rintro _ rfl _ rfl _ rfl
      have hwf' : Below W4.heap.size W4 wf := hwf
      obtain ⟨w5, hcp, hU2, hg5⟩ := copy_string (P := Tryz.prog) 32 9 3 5 Tryz.underlying32 Be.sizeU8 (dLen := 62) (dCap := 62) (off := 2) (HT2.out.next hwf') k (by omega) (by rw [HLEN2.out]; omega)
      have hU0 := (HT0.out.next hwf').grown hg5 (by omega)
      have hU1 := (HT1.out.next hwf').grown hg5 (by omega)
      have HB5 := Lib.hid (below_grown (bstep HB4.out hwf') hg5 (by omega))
      have hD5 := H.out.below (HB5.out.mono hB)
      have hlen3 : (SlotP.over (((SlotP.zeros 64).set 0 2).set 1 (UInt8.ofNat k.size)) 2 k.data.toList).length = 64 := by
        rw [SlotP.over_length _ _ _ (by rw [HLEN2.out, Array.length_toList]; show 2 + k.size ≤ 64; omega), HLEN2.out]
      have HU0 := Lib.hid hU0
      have HU1 := Lib.hid hU1
      have HU2 := Lib.hid hU2
      have HD5 := Lib.hid hD5
      have HLEN3 := Lib.hid hlen3
      have hl5 := hU0.lt
      have hl5' := HB5.out.size
      obtain ⟨r0, r1, r2, r3, r4, r5, r6⟩ := str7 hU0
      clear hwf hwf' hU0 hU1 hU2 hg5 hD5 hlen3 q0 q1 q2 q3 q4 q5 q6 hl4 HT0 HT1 HT2 HLEN2 HB4 hsl
      refine Reg.Goal.mk ?_
      go_simp
      clear hcp
      go_wp2_with fail
      have hsl : ∀ W, (slSem 118 (.pointer (some ⟨w.heap.size + 1 + 1, 0, none⟩)) (some (.int .i64 (2 + (k.size : Int)))) none none).run Tryz.prog W = .ok (.slice (some ⟨w.heap.size + 1 + 1, 2 + k.size, none⟩) (64 - (2 + k.size)) (64 - (2 + k.size))) W := by
        intro W
        have := run_sl_from (P := Tryz.prog) arr64 (w.heap.size + 1 + 1) (2 + k.size) (by omega) W
        rwa [show ((2 + k.size : Nat) : Int) = 2 + (k.size : Int) by omega] at this
      refine Reg.wp_region_tail (R := ext) (W := w5) [Reg.eqv (.pointer (some ⟨w.heap.size, 1, none⟩)), Reg.eqv (.string k), Reg.eqv (.int .i64 (k.size : Int)), Reg.eqv (.int .i64 (2 + (k.size : Int))), Reg.eqv (.slice (some ⟨w.heap.size + 1 + 1, 2 + k.size, none⟩) (64 - (2 + k.size)) (64 - (2 + k.size))), Reg.eqv (.pointer (some ⟨w.heap.size, 2, none⟩)), Reg.eqv (.agg #[.int .i64 kind, .slice A n cap, .int .i64 lo, .int .i64 hi, .int .i64 val]), Reg.bytes (CellP.bytes ⟨kind, data, lo, hi, val⟩)] 36 8 _ [[(1, none)], [(26, some 0)], [(27, some 1)], [(28, some 2)], [(3, none), (29, some 3)], [(1, none)], [(31, some 5)], [(32, some 6)]] rfl (by kernel_rfl) (by kernel_rfl) (by rfl) (by rfl) rfl (by kernel_rfl) ?_ [some 26, some 27, some 28, some 29, some 30, some 31, some 32, some 33] (by kernel_rfl) ?_
      · refine ⟨?_, ?_, ?_, ?_, ?_, ?_, ?_, ?_, trivial⟩
        · intro ax wx hx hs
          obtain ⟨e1, -⟩ := hs
          have g1 := Reg.ev (v := .pointer (some ⟨w.heap.size, 0, none⟩)) e1
          exact Reg.obl_free rfl (Reg.wp_eqv (Option.some_ne_none _) (by go_simp) rfl)
        · intro ax wx hx hs
          obtain ⟨e26, -⟩ := hs
          have g26 := Reg.ev (v := .pointer (some ⟨w.heap.size, 1, none⟩)) e26
          obtain ⟨hc, -⟩ := bcell hx
          exact Reg.obl_free rfl (Reg.wp_eqv (Option.some_ne_none _) (by go_simp) rfl)
        · intro ax wx hx hs
          obtain ⟨e27, -⟩ := hs
          have g27 := Reg.ev (v := .string k) e27
          exact Reg.obl_free rfl (Reg.wp_eqv (Option.some_ne_none _) (by go_simp) rfl)
        · intro ax wx hx hs
          obtain ⟨e28, -⟩ := hs
          have g28 := Reg.ev (v := .int .i64 (k.size : Int)) e28
          refine Reg.obl_free rfl ?_
          exact Reg.wp_eqv (Option.some_ne_none _) (by go_simp; exact IntWalk.i64_in _ (by omega)) rfl
        · intro ax wx hx hs
          obtain ⟨e3, e29, -⟩ := hs
          have g3 := Reg.ev (v := .pointer (some ⟨w.heap.size + 1 + 1, 0, none⟩)) e3
          have g29 := Reg.ev (v := .int .i64 (2 + (k.size : Int))) e29
          exact Reg.obl_free rfl (Reg.wp_eqv (Option.some_ne_none _) (by go_simp) rfl)
        · intro ax wx hx hs
          obtain ⟨e1, -⟩ := hs
          have g1 := Reg.ev (v := .pointer (some ⟨w.heap.size, 0, none⟩)) e1
          exact Reg.obl_free rfl (Reg.wp_eqv (Option.some_ne_none _) (by go_simp) rfl)
        · intro ax wx hx hs
          obtain ⟨e31, -⟩ := hs
          have g31 := Reg.ev (v := .pointer (some ⟨w.heap.size, 2, none⟩)) e31
          obtain ⟨hc, -⟩ := bcell hx
          exact Reg.obl_free rfl (Reg.wp_eqv (Option.some_ne_none _) (by go_simp) rfl)
        · intro ax wx hx hs
          obtain ⟨e32, -⟩ := hs
          have g32 := Reg.ev (v := .agg #[.int .i64 kind, .slice A n cap, .int .i64 lo, .int .i64 hi, .int .i64 val]) e32
          refine Reg.obl_free rfl ?_
          go_simp
          have hx' : Below w5.heap.size w5 wx := hx
          refine (CellPut.put_any none A 0 0 n cap 0 B [] ⟨kind, data, lo, hi, val⟩ wx (Bytes.none_ _ _) (Nat.zero_le _) (HD5.out.below (hx'.mono (by omega))) (by have := hx'.size; omega) (by omega)).mono ?_
          rintro e wy ⟨A3, n3, c3, rfl, hy, hby⟩
          exact Reg.done (Option.some_ne_none _) ⟨A3, n3, c3, rfl, hy⟩ hby
      · intro wf hwf
        simp only [Reg.Fin]
        rintro _ rfl _ rfl _ rfl _ rfl _ rfl _ rfl _ rfl v33 h33
        obtain ⟨A3, n3, c3, rfl, hy⟩ := h33
        have hwf' : Below w5.heap.size w5 wf := hwf
        obtain ⟨w6, hcp, hV2, hg6⟩ := copy_bytes (P := Tryz.prog) 32 32 3 5 Tryz.underlying32 Be.sizeU8 (dLen := 64 - (2 + k.size)) (dCap := 64 - (2 + k.size)) (off := 2 + k.size) (HU2.out.next hwf') hy (by rw [HLEN3.out]; omega)
        have hn3 := hy.len
        rw [List.take_of_length_le (by have := HBL.out; omega)] at hV2
        have hx1 : UInt8.ofNat (Int.toNat 2) = 2 := rfl
        have hL := HL.out
        rw [hx1] at hL
        rw [hL] at hV2
        have hV1 := (HU1.out.next hwf').grown hg6 (by omega)
        have HB6 := Lib.hid (below_grown (bstep HB5.out hwf') hg6 (by omega))
        have hld := run_ld (P := Tryz.prog) arr64 hV2 (SlotP.bytes_length _)
        have hst := run_st (P := Tryz.prog) arr64 hV1 (by rw [rowV_size]; exact HZ.out) (SlotP.bytes_length ⟨2, k, kind, data, lo, hi, val⟩)
        have HB7 := Lib.hid (below_setRow HB6.out (by omega : w.heap.size ≤ w.heap.size + 1) (rowV (SlotP.bytes ⟨2, k, kind, data, lo, hi, val⟩)))
        have HS7 := Lib.hid (hV1.setRow (cs' := rowV (SlotP.bytes ⟨2, k, kind, data, lo, hi, val⟩)))
        clear hwf hwf' hV1 hV2 hg6 hL hx1 hn3 hy r0 r1 r2 r3 r4 r5 r6 hl5 hl5' hsl HU0 HU1 HU2 HD5 HLEN3 HB5 HB6
        refine Reg.Goal.mk ?_
        go_simp
        clear hcp
        go_wp2_with fail
        exact bodyPost_ret (v := .agg (rowV (SlotP.bytes ⟨2, k, kind, data, lo, hi, val⟩))) (results_arr arr64 Tryz.results68 _ HS7.out (SlotP.bytes_length _) rfl) rfl ⟨rfl, HB7.out⟩

theorem put_any (A : Option Addr) (n cap B : Nat) (x : Item) (w : World) (h : Bytes w B A n cap x.cell.data) (hB : B ≤ w.heap.size) (hk : x.key.size ≤ maxLen) :
    Calls Tryz.prog 68 #[SlotW.itemV A n cap x] w fun e w' => e = .returned (.agg (rowV (SlotP.bytes x))) ∧ Below w.heap.size w w' := by
  by_cases h0 : x.state ≠ 0 ∧ SlotP.right x = true
  · exact put_full A n cap B x w h hB hk h0.1 h0.2
  · exact put_zero A n cap B x w h hB hk h0
end Go.Proofs.YtpdfnlhhnodnjaaGreat.SlotPut
end
