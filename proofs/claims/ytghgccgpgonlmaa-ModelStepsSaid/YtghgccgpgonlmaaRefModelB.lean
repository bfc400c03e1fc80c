/-
  The reference's Same and Right, the program's Right: loops whose rounds draw their order.
-/
import Derived.Test.YtghgccgpgonlmaaModelI
import Derived.Test.YtghgccgpgonlmaaRegC
import Derived.BigQuiet
import Derived.Sort.Walk0
namespace Go.Proofs.Ytghgccgpgonlmaa.ModelW
open Go.RowKit
set_option linter.unusedVariables false
set_option maxRecDepth 100000 in
set_option maxHeartbeats 1000000 in
theorem refSameS_any (A A' : Option Addr) (n c n' c' B B' : Nat) (l l' : List Pair) (w : World) (h : Pairs w B A n c l) (hB : B ≤ w.heap.size) (h' : Pairs w B' A' n' c' l') (hB' : B' ≤ w.heap.size) (hn : n ≤ 100000) :
    Calls Try.prog 23 #[.slice A n c, .slice A' n' c'] w fun e w' => e = .returned (.bool (ModelP.sameAll l l')) ∧ Below w.heap.size w w' := by
  have H := Lib.hid h
  have H' := Lib.hid h'
  have hl := h.len
  have hl' := h'.len
  clear h h'
  by_cases hnn : n = n'
  · subst hnn
    have HLL : Hid (l.length = l'.length) := Lib.hid (by rw [hl, hl'])
    clear hl'
    have HL := Lib.hid hl
    clear hl
    go_enter Try.func23, Try.ntmps23
    go_wp2
    go_loopw [5] (fun i wr => ∃ k : Nat, k ≤ n ∧ i = .int .i64 (k : Int) ∧ Hid (Below w.heap.size w wr ∧ ∀ (j : Nat) p q, j < k → l[j]? = some p → l'[j]? = some q → sameP p q = true)) (fun i _ => n - (intOf i).toNat)
    case atStart => exact ⟨0, Nat.zero_le _, rfl, Lib.hid ⟨bsame w, fun j p q hj => absurd hj (by omega)⟩⟩
    case round =>
      obtain ⟨k, hk, rfl, HK⟩ := hrel
      have hsz := HK.out.1.size
      by_cases hlt : k < n
      · obtain ⟨b, o, p, Ap, np, cp, rfl, hbB, hp, hby, -, -, -, -, -, c0, c1, c2, c3, c4, c5⟩ := pair_at (H.out.below (HK.out.1.mono hB)) hlt
        obtain ⟨b', o', q, Aq, nq', cq, rfl, hbB', hq, hby', -, -, -, -, -, d0, d1, d2, d3, d4, d5⟩ := pair_at (H'.out.below (HK.out.1.mono hB')) hlt
        have HP := Lib.hid hp
        have HQ := Lib.hid hq
        clear hp hq
        have HY := Lib.hid (hby.more (show B ≤ wr.heap.size by omega))
        have HY' := Lib.hid (hby'.more (show B' ≤ wr.heap.size by omega))
        clear hby hby'
        obtain ⟨pk, pkd, pda, plo, phi, pva⟩ := p
        obtain ⟨qk, qkd, qda, qlo, qhi, qva⟩ := q
        dsimp only at *
        have hbw : b < wr.heap.size := by omega
        have hbw' : b' < wr.heap.size := by omega
        by_cases he : (pk.toList == qk.toList) = true
        · obtain ⟨sc, hsc⟩ : ∃ sc, CellP.same ⟨pkd, pda, plo, phi, pva⟩ ⟨qkd, qda, qlo, qhi, qva⟩ = sc := ⟨_, rfl⟩
          have HSC := Lib.hid hsc
          have HE : Hid (sameP ⟨pk, pkd, pda, plo, phi, pva⟩ ⟨qk, qkd, qda, qlo, qhi, qva⟩ = sc) := Lib.hid (by simp only [sameP, he, hsc, Bool.true_and])
          clear hsc
          go_wp2
          refine Reg.wp_region_vals (R := ext) (W := wr) [Reg.eqv (.slice (some ⟨b, o, none⟩) n c), Reg.eqv (.int .i64 (k : Int)), Reg.eqv (.pointer (some ⟨b, o + k * 6, none⟩)), Reg.eqv (.pointer (some ⟨b, o + k * 6, none⟩)), Reg.eqv (.string pk), Reg.eqv (.slice (some ⟨b', o', none⟩) n c'), Reg.eqv (.int .i64 (k : Int)), Reg.eqv (.pointer (some ⟨b', o' + k * 6, none⟩)), Reg.eqv (.pointer (some ⟨b', o' + k * 6, none⟩)), Reg.eqv (.string qk), Reg.eqv (.bool false), Reg.eqv (.bool false), Reg.eqv (.slice (some ⟨b, o, none⟩) n c), Reg.eqv (.int .i64 (k : Int)), Reg.eqv (.pointer (some ⟨b, o + k * 6, none⟩)), Reg.eqv (.pointer (some ⟨b, o + k * 6 + 1, none⟩)), Reg.eqv (.agg #[.int .i64 pkd, .slice Ap np cp, .int .i64 plo, .int .i64 phi, .int .i64 pva]), Reg.eqv (.slice (some ⟨b', o', none⟩) n c'), Reg.eqv (.int .i64 (k : Int)), Reg.eqv (.pointer (some ⟨b', o' + k * 6, none⟩)), Reg.eqv (.pointer (some ⟨b', o' + k * 6 + 1, none⟩)), Reg.eqv (.agg #[.int .i64 qkd, .slice Aq nq' cq, .int .i64 qlo, .int .i64 qhi, .int .i64 qva]), Reg.eqv (.bool sc), Reg.eqv (.bool (!sc)), Reg.eqv (.bool (!sc))] 42 [[(0, none)], [(5, none)], [(17, some 0), (18, some 1)], [(19, some 2)], [(20, some 3)], [(1, none)], [(5, none)], [(22, some 5), (23, some 6)], [(24, some 7)], [(25, some 8)], [(21, some 4), (26, some 9)], [(27, some 10)], [(0, none), (28, some 11)], [(5, none), (28, some 11)], [(29, some 12), (30, some 13), (28, some 11)], [(31, some 14), (28, some 11)], [(32, some 15), (28, some 11)], [(1, none), (28, some 11)], [(5, none), (28, some 11)], [(34, some 17), (35, some 18), (28, some 11)], [(36, some 19), (28, some 11)], [(37, some 20), (28, some 11)], [(33, some 16), (38, some 21), (28, some 11)], [(39, some 22), (28, some 11)], [(28, some 11), (40, some 23)]] rfl (by kernel_rfl) (by kernel_rfl) (by kernel_rfl) ?_ [some 17, some 18, some 19, some 20, some 21, some 22, some 23, some 24, some 25, some 26, some 27, some 28, some 29, some 30, some 31, some 32, some 33, some 34, some 35, some 36, some 37, some 38, some 39, some 40, some 41] (by kernel_rfl) ?_
          · refine ⟨?_, ?_, ?_, ?_, ?_, ?_, ?_, ?_, ?_, ?_, ?_, ?_, ?_, ?_, ?_, ?_, ?_, ?_, ?_, ?_, ?_, ?_, ?_, ?_, ?_, trivial⟩
            · intro ax wx hx hs
              obtain ⟨e0, -⟩ := hs
              have g0 := Reg.ev (v := .slice (some ⟨b, o, none⟩) n c) e0
              exact Reg.obl_free rfl (Reg.wp_eqv (Option.some_ne_none _) (by go_simp) rfl)
            · intro ax wx hx hs
              obtain ⟨e5, -⟩ := hs
              have g5 := Reg.ev (v := .int .i64 (k : Int)) e5
              exact Reg.obl_free rfl (Reg.wp_eqv (Option.some_ne_none _) (by go_simp) rfl)
            · intro ax wx hx hs
              obtain ⟨e17, e18, -⟩ := hs
              have g17 := Reg.ev (v := .slice (some ⟨b, o, none⟩) n c) e17
              have g18 := Reg.ev (v := .int .i64 (k : Int)) e18
              exact Reg.obl_free rfl (Reg.wp_eqv (Option.some_ne_none _) (by go_simp) rfl)
            · intro ax wx hx hs
              obtain ⟨e19, -⟩ := hs
              have g19 := Reg.ev (v := .pointer (some ⟨b, o + k * 6, none⟩)) e19
              exact Reg.obl_free rfl (Reg.wp_eqv (Option.some_ne_none _) (by go_simp) rfl)
            · intro ax wx hx hs
              obtain ⟨e20, -⟩ := hs
              have g20 := Reg.ev (v := .pointer (some ⟨b, o + k * 6, none⟩)) e20
              have hx' : Below wr.heap.size wr wx := hx
              have lc0 := (hx'.cell (p := ⟨b, o + k * 6, none⟩) hbw).trans c0
              have lc1 := (hx'.cell (p := ⟨b, o + k * 6 + 1, none⟩) hbw).trans c1
              have lc2 := (hx'.cell (p := ⟨b, o + k * 6 + 2, none⟩) hbw).trans c2
              have lc3 := (hx'.cell (p := ⟨b, o + k * 6 + 3, none⟩) hbw).trans c3
              have lc4 := (hx'.cell (p := ⟨b, o + k * 6 + 4, none⟩) hbw).trans c4
              have lc5 := (hx'.cell (p := ⟨b, o + k * 6 + 5, none⟩) hbw).trans c5
              have ld0 := (hx'.cell (p := ⟨b', o' + k * 6, none⟩) hbw').trans d0
              have ld1 := (hx'.cell (p := ⟨b', o' + k * 6 + 1, none⟩) hbw').trans d1
              have ld2 := (hx'.cell (p := ⟨b', o' + k * 6 + 2, none⟩) hbw').trans d2
              have ld3 := (hx'.cell (p := ⟨b', o' + k * 6 + 3, none⟩) hbw').trans d3
              have ld4 := (hx'.cell (p := ⟨b', o' + k * 6 + 4, none⟩) hbw').trans d4
              have ld5 := (hx'.cell (p := ⟨b', o' + k * 6 + 5, none⟩) hbw').trans d5
              exact Reg.obl_free rfl (Reg.wp_eqv (Option.some_ne_none _) (by go_simp) rfl)
            · intro ax wx hx hs
              obtain ⟨e1, -⟩ := hs
              have g1 := Reg.ev (v := .slice (some ⟨b', o', none⟩) n c') e1
              exact Reg.obl_free rfl (Reg.wp_eqv (Option.some_ne_none _) (by go_simp) rfl)
            · intro ax wx hx hs
              obtain ⟨e5, -⟩ := hs
              have g5 := Reg.ev (v := .int .i64 (k : Int)) e5
              exact Reg.obl_free rfl (Reg.wp_eqv (Option.some_ne_none _) (by go_simp) rfl)
            · intro ax wx hx hs
              obtain ⟨e22, e23, -⟩ := hs
              have g22 := Reg.ev (v := .slice (some ⟨b', o', none⟩) n c') e22
              have g23 := Reg.ev (v := .int .i64 (k : Int)) e23
              exact Reg.obl_free rfl (Reg.wp_eqv (Option.some_ne_none _) (by go_simp) rfl)
            · intro ax wx hx hs
              obtain ⟨e24, -⟩ := hs
              have g24 := Reg.ev (v := .pointer (some ⟨b', o' + k * 6, none⟩)) e24
              exact Reg.obl_free rfl (Reg.wp_eqv (Option.some_ne_none _) (by go_simp) rfl)
            · intro ax wx hx hs
              obtain ⟨e25, -⟩ := hs
              have g25 := Reg.ev (v := .pointer (some ⟨b', o' + k * 6, none⟩)) e25
              have hx' : Below wr.heap.size wr wx := hx
              have lc0 := (hx'.cell (p := ⟨b, o + k * 6, none⟩) hbw).trans c0
              have lc1 := (hx'.cell (p := ⟨b, o + k * 6 + 1, none⟩) hbw).trans c1
              have lc2 := (hx'.cell (p := ⟨b, o + k * 6 + 2, none⟩) hbw).trans c2
              have lc3 := (hx'.cell (p := ⟨b, o + k * 6 + 3, none⟩) hbw).trans c3
              have lc4 := (hx'.cell (p := ⟨b, o + k * 6 + 4, none⟩) hbw).trans c4
              have lc5 := (hx'.cell (p := ⟨b, o + k * 6 + 5, none⟩) hbw).trans c5
              have ld0 := (hx'.cell (p := ⟨b', o' + k * 6, none⟩) hbw').trans d0
              have ld1 := (hx'.cell (p := ⟨b', o' + k * 6 + 1, none⟩) hbw').trans d1
              have ld2 := (hx'.cell (p := ⟨b', o' + k * 6 + 2, none⟩) hbw').trans d2
              have ld3 := (hx'.cell (p := ⟨b', o' + k * 6 + 3, none⟩) hbw').trans d3
              have ld4 := (hx'.cell (p := ⟨b', o' + k * 6 + 4, none⟩) hbw').trans d4
              have ld5 := (hx'.cell (p := ⟨b', o' + k * 6 + 5, none⟩) hbw').trans d5
              exact Reg.obl_free rfl (Reg.wp_eqv (Option.some_ne_none _) (by go_simp) rfl)
            · intro ax wx hx hs
              obtain ⟨e21, e26, -⟩ := hs
              have g21 := Reg.ev (v := .string pk) e21
              have g26 := Reg.ev (v := .string qk) e26
              exact Reg.obl_free rfl (Reg.wp_eqv (Option.some_ne_none _) (by go_simp) rfl)
            · intro ax wx hx hs
              obtain ⟨e27, -⟩ := hs
              have g27 := Reg.ev (v := .bool false) e27
              exact Reg.obl_free rfl (Reg.wp_eqv (Option.some_ne_none _) (by go_simp) rfl)
            · intro ax wx hx hs
              obtain ⟨e0, e28, -⟩ := hs
              have g0 := Reg.ev (v := .slice (some ⟨b, o, none⟩) n c) e0
              have g28 := Reg.ev (v := .bool false) e28
              exact Reg.obl_want rfl rfl e28 (Reg.wp_eqv (Option.some_ne_none _) (by go_simp) rfl)
            · intro ax wx hx hs
              obtain ⟨e5, e28, -⟩ := hs
              have g5 := Reg.ev (v := .int .i64 (k : Int)) e5
              have g28 := Reg.ev (v := .bool false) e28
              exact Reg.obl_want rfl rfl e28 (Reg.wp_eqv (Option.some_ne_none _) (by go_simp) rfl)
            · intro ax wx hx hs
              obtain ⟨e29, e30, e28, -⟩ := hs
              have g29 := Reg.ev (v := .slice (some ⟨b, o, none⟩) n c) e29
              have g30 := Reg.ev (v := .int .i64 (k : Int)) e30
              have g28 := Reg.ev (v := .bool false) e28
              exact Reg.obl_want rfl rfl e28 (Reg.wp_eqv (Option.some_ne_none _) (by go_simp) rfl)
            · intro ax wx hx hs
              obtain ⟨e31, e28, -⟩ := hs
              have g31 := Reg.ev (v := .pointer (some ⟨b, o + k * 6, none⟩)) e31
              have g28 := Reg.ev (v := .bool false) e28
              exact Reg.obl_want rfl rfl e28 (Reg.wp_eqv (Option.some_ne_none _) (by go_simp) rfl)
            · intro ax wx hx hs
              obtain ⟨e32, e28, -⟩ := hs
              have g32 := Reg.ev (v := .pointer (some ⟨b, o + k * 6 + 1, none⟩)) e32
              have g28 := Reg.ev (v := .bool false) e28
              have hx' : Below wr.heap.size wr wx := hx
              have lc0 := (hx'.cell (p := ⟨b, o + k * 6, none⟩) hbw).trans c0
              have lc1 := (hx'.cell (p := ⟨b, o + k * 6 + 1, none⟩) hbw).trans c1
              have lc2 := (hx'.cell (p := ⟨b, o + k * 6 + 2, none⟩) hbw).trans c2
              have lc3 := (hx'.cell (p := ⟨b, o + k * 6 + 3, none⟩) hbw).trans c3
              have lc4 := (hx'.cell (p := ⟨b, o + k * 6 + 4, none⟩) hbw).trans c4
              have lc5 := (hx'.cell (p := ⟨b, o + k * 6 + 5, none⟩) hbw).trans c5
              have ld0 := (hx'.cell (p := ⟨b', o' + k * 6, none⟩) hbw').trans d0
              have ld1 := (hx'.cell (p := ⟨b', o' + k * 6 + 1, none⟩) hbw').trans d1
              have ld2 := (hx'.cell (p := ⟨b', o' + k * 6 + 2, none⟩) hbw').trans d2
              have ld3 := (hx'.cell (p := ⟨b', o' + k * 6 + 3, none⟩) hbw').trans d3
              have ld4 := (hx'.cell (p := ⟨b', o' + k * 6 + 4, none⟩) hbw').trans d4
              have ld5 := (hx'.cell (p := ⟨b', o' + k * 6 + 5, none⟩) hbw').trans d5
              exact Reg.obl_want rfl rfl e28 (Reg.wp_eqv (Option.some_ne_none _) (by go_simp) rfl)
            · intro ax wx hx hs
              obtain ⟨e1, e28, -⟩ := hs
              have g1 := Reg.ev (v := .slice (some ⟨b', o', none⟩) n c') e1
              have g28 := Reg.ev (v := .bool false) e28
              exact Reg.obl_want rfl rfl e28 (Reg.wp_eqv (Option.some_ne_none _) (by go_simp) rfl)
            · intro ax wx hx hs
              obtain ⟨e5, e28, -⟩ := hs
              have g5 := Reg.ev (v := .int .i64 (k : Int)) e5
              have g28 := Reg.ev (v := .bool false) e28
              exact Reg.obl_want rfl rfl e28 (Reg.wp_eqv (Option.some_ne_none _) (by go_simp) rfl)
            · intro ax wx hx hs
              obtain ⟨e34, e35, e28, -⟩ := hs
              have g34 := Reg.ev (v := .slice (some ⟨b', o', none⟩) n c') e34
              have g35 := Reg.ev (v := .int .i64 (k : Int)) e35
              have g28 := Reg.ev (v := .bool false) e28
              exact Reg.obl_want rfl rfl e28 (Reg.wp_eqv (Option.some_ne_none _) (by go_simp) rfl)
            · intro ax wx hx hs
              obtain ⟨e36, e28, -⟩ := hs
              have g36 := Reg.ev (v := .pointer (some ⟨b', o' + k * 6, none⟩)) e36
              have g28 := Reg.ev (v := .bool false) e28
              exact Reg.obl_want rfl rfl e28 (Reg.wp_eqv (Option.some_ne_none _) (by go_simp) rfl)
            · intro ax wx hx hs
              obtain ⟨e37, e28, -⟩ := hs
              have g37 := Reg.ev (v := .pointer (some ⟨b', o' + k * 6 + 1, none⟩)) e37
              have g28 := Reg.ev (v := .bool false) e28
              have hx' : Below wr.heap.size wr wx := hx
              have lc0 := (hx'.cell (p := ⟨b, o + k * 6, none⟩) hbw).trans c0
              have lc1 := (hx'.cell (p := ⟨b, o + k * 6 + 1, none⟩) hbw).trans c1
              have lc2 := (hx'.cell (p := ⟨b, o + k * 6 + 2, none⟩) hbw).trans c2
              have lc3 := (hx'.cell (p := ⟨b, o + k * 6 + 3, none⟩) hbw).trans c3
              have lc4 := (hx'.cell (p := ⟨b, o + k * 6 + 4, none⟩) hbw).trans c4
              have lc5 := (hx'.cell (p := ⟨b, o + k * 6 + 5, none⟩) hbw).trans c5
              have ld0 := (hx'.cell (p := ⟨b', o' + k * 6, none⟩) hbw').trans d0
              have ld1 := (hx'.cell (p := ⟨b', o' + k * 6 + 1, none⟩) hbw').trans d1
              have ld2 := (hx'.cell (p := ⟨b', o' + k * 6 + 2, none⟩) hbw').trans d2
              have ld3 := (hx'.cell (p := ⟨b', o' + k * 6 + 3, none⟩) hbw').trans d3
              have ld4 := (hx'.cell (p := ⟨b', o' + k * 6 + 4, none⟩) hbw').trans d4
              have ld5 := (hx'.cell (p := ⟨b', o' + k * 6 + 5, none⟩) hbw').trans d5
              exact Reg.obl_want rfl rfl e28 (Reg.wp_eqv (Option.some_ne_none _) (by go_simp) rfl)
            · intro ax wx hx hs
              obtain ⟨e33, e38, e28, -⟩ := hs
              have g33 := Reg.ev (v := .agg #[.int .i64 pkd, .slice Ap np cp, .int .i64 plo, .int .i64 phi, .int .i64 pva]) e33
              have g38 := Reg.ev (v := .agg #[.int .i64 qkd, .slice Aq nq' cq, .int .i64 qlo, .int .i64 qhi, .int .i64 qva]) e38
              have g28 := Reg.ev (v := .bool false) e28
              refine Reg.obl_want rfl rfl e28 ?_
              have hx' : Below wr.heap.size wr wx := hx
              go_simp
              refine (CellW.refSame_any Ap Aq np cp nq' cq wr.heap.size wr.heap.size ⟨pkd, pda, plo, phi, pva⟩ ⟨qkd, qda, qlo, qhi, qva⟩ wx (HY.out.below hx') (HY'.out.below hx') hx'.size hx'.size).mono ?_
              rw [HSC.out]
              rintro e wy ⟨rfl, hby⟩
              exact Reg.done (Option.some_ne_none _) rfl hby
            · intro ax wx hx hs
              obtain ⟨e39, e28, -⟩ := hs
              have g39 := Reg.ev (v := .bool sc) e39
              have g28 := Reg.ev (v := .bool false) e28
              exact Reg.obl_want rfl rfl e28 (Reg.wp_eqv (Option.some_ne_none _) (by go_simp) rfl)
            · intro ax wx hx hs
              obtain ⟨e28, e40, -⟩ := hs
              have g28 := Reg.ev (v := .bool false) e28
              have g40 := Reg.ev (v := .bool (!sc)) e40
              exact Reg.obl_free rfl (Reg.wp_eqv (Option.some_ne_none _) (by go_simp) rfl)
          · intro W2 hwf
            simp only [Reg.Fin]
            rintro _ rfl _ rfl _ rfl _ rfl _ rfl _ rfl _ rfl _ rfl _ rfl _ rfl _ rfl _ rfl _ rfl _ rfl _ rfl _ rfl _ rfl _ rfl _ rfl _ rfl _ rfl _ rfl _ rfl _ rfl _ rfl
            go_simp
            have HW2 := Lib.hid (show Below wr.heap.size wr W2 from hwf)
            clear hwf
            have HB1 := Lib.hid (bstep HK.out.1 HW2.out)
            cases sc with
            | true =>
              go_wp2
              go_roundw
              case rel => exact ⟨k + 1, by omega, by go_num, Lib.hid ⟨HB1.out, fun j p q hj h1 h2 => by
                rcases Nat.lt_or_ge j k with h3 | h3
                · exact HK.out.2 j p q h3 h1 h2
                · have : j = k := by omega
                  subst this
                  rw [HP.out] at h1; rw [HQ.out] at h2
                  cases h1; cases h2
                  exact HE.out⟩⟩
              case measure => simp [intOf]; omega
            | false =>
              go_wp2
              go_ret
              exact ⟨by rw [sameAll_at HP.out HQ.out HE.out]; rfl, HB1.out⟩
        · have he : (pk.toList == qk.toList) = false := by simpa using he
          have HE : Hid (sameP ⟨pk, pkd, pda, plo, phi, pva⟩ ⟨qk, qkd, qda, qlo, qhi, qva⟩ = false) := Lib.hid (by simp only [sameP, he, Bool.false_and])
          go_wp2
          refine Reg.wp_region_vals (R := ext) (W := wr) [Reg.eqv (.slice (some ⟨b, o, none⟩) n c), Reg.eqv (.int .i64 (k : Int)), Reg.eqv (.pointer (some ⟨b, o + k * 6, none⟩)), Reg.eqv (.pointer (some ⟨b, o + k * 6, none⟩)), Reg.eqv (.string pk), Reg.eqv (.slice (some ⟨b', o', none⟩) n c'), Reg.eqv (.int .i64 (k : Int)), Reg.eqv (.pointer (some ⟨b', o' + k * 6, none⟩)), Reg.eqv (.pointer (some ⟨b', o' + k * 6, none⟩)), Reg.eqv (.string qk), Reg.eqv (.bool true), Reg.eqv (.bool true), Reg.eqv undef, Reg.eqv undef, Reg.eqv undef, Reg.eqv undef, Reg.eqv undef, Reg.eqv undef, Reg.eqv undef, Reg.eqv undef, Reg.eqv undef, Reg.eqv undef, Reg.eqv undef, Reg.eqv undef, Reg.eqv (.bool true)] 42 [[(0, none)], [(5, none)], [(17, some 0), (18, some 1)], [(19, some 2)], [(20, some 3)], [(1, none)], [(5, none)], [(22, some 5), (23, some 6)], [(24, some 7)], [(25, some 8)], [(21, some 4), (26, some 9)], [(27, some 10)], [(0, none), (28, some 11)], [(5, none), (28, some 11)], [(29, some 12), (30, some 13), (28, some 11)], [(31, some 14), (28, some 11)], [(32, some 15), (28, some 11)], [(1, none), (28, some 11)], [(5, none), (28, some 11)], [(34, some 17), (35, some 18), (28, some 11)], [(36, some 19), (28, some 11)], [(37, some 20), (28, some 11)], [(33, some 16), (38, some 21), (28, some 11)], [(39, some 22), (28, some 11)], [(28, some 11), (40, some 23)]] rfl (by kernel_rfl) (by kernel_rfl) (by kernel_rfl) ?_ [some 17, some 18, some 19, some 20, some 21, some 22, some 23, some 24, some 25, some 26, some 27, some 28, some 29, some 30, some 31, some 32, some 33, some 34, some 35, some 36, some 37, some 38, some 39, some 40, some 41] (by kernel_rfl) ?_
          · refine ⟨?_, ?_, ?_, ?_, ?_, ?_, ?_, ?_, ?_, ?_, ?_, ?_, ?_, ?_, ?_, ?_, ?_, ?_, ?_, ?_, ?_, ?_, ?_, ?_, ?_, trivial⟩
            · intro ax wx hx hs
              obtain ⟨e0, -⟩ := hs
              have g0 := Reg.ev (v := .slice (some ⟨b, o, none⟩) n c) e0
              exact Reg.obl_free rfl (Reg.wp_eqv (Option.some_ne_none _) (by go_simp) rfl)
            · intro ax wx hx hs
              obtain ⟨e5, -⟩ := hs
              have g5 := Reg.ev (v := .int .i64 (k : Int)) e5
              exact Reg.obl_free rfl (Reg.wp_eqv (Option.some_ne_none _) (by go_simp) rfl)
            · intro ax wx hx hs
              obtain ⟨e17, e18, -⟩ := hs
              have g17 := Reg.ev (v := .slice (some ⟨b, o, none⟩) n c) e17
              have g18 := Reg.ev (v := .int .i64 (k : Int)) e18
              exact Reg.obl_free rfl (Reg.wp_eqv (Option.some_ne_none _) (by go_simp) rfl)
            · intro ax wx hx hs
              obtain ⟨e19, -⟩ := hs
              have g19 := Reg.ev (v := .pointer (some ⟨b, o + k * 6, none⟩)) e19
              exact Reg.obl_free rfl (Reg.wp_eqv (Option.some_ne_none _) (by go_simp) rfl)
            · intro ax wx hx hs
              obtain ⟨e20, -⟩ := hs
              have g20 := Reg.ev (v := .pointer (some ⟨b, o + k * 6, none⟩)) e20
              have hx' : Below wr.heap.size wr wx := hx
              have lc0 := (hx'.cell (p := ⟨b, o + k * 6, none⟩) hbw).trans c0
              have lc1 := (hx'.cell (p := ⟨b, o + k * 6 + 1, none⟩) hbw).trans c1
              have lc2 := (hx'.cell (p := ⟨b, o + k * 6 + 2, none⟩) hbw).trans c2
              have lc3 := (hx'.cell (p := ⟨b, o + k * 6 + 3, none⟩) hbw).trans c3
              have lc4 := (hx'.cell (p := ⟨b, o + k * 6 + 4, none⟩) hbw).trans c4
              have lc5 := (hx'.cell (p := ⟨b, o + k * 6 + 5, none⟩) hbw).trans c5
              have ld0 := (hx'.cell (p := ⟨b', o' + k * 6, none⟩) hbw').trans d0
              have ld1 := (hx'.cell (p := ⟨b', o' + k * 6 + 1, none⟩) hbw').trans d1
              have ld2 := (hx'.cell (p := ⟨b', o' + k * 6 + 2, none⟩) hbw').trans d2
              have ld3 := (hx'.cell (p := ⟨b', o' + k * 6 + 3, none⟩) hbw').trans d3
              have ld4 := (hx'.cell (p := ⟨b', o' + k * 6 + 4, none⟩) hbw').trans d4
              have ld5 := (hx'.cell (p := ⟨b', o' + k * 6 + 5, none⟩) hbw').trans d5
              exact Reg.obl_free rfl (Reg.wp_eqv (Option.some_ne_none _) (by go_simp) rfl)
            · intro ax wx hx hs
              obtain ⟨e1, -⟩ := hs
              have g1 := Reg.ev (v := .slice (some ⟨b', o', none⟩) n c') e1
              exact Reg.obl_free rfl (Reg.wp_eqv (Option.some_ne_none _) (by go_simp) rfl)
            · intro ax wx hx hs
              obtain ⟨e5, -⟩ := hs
              have g5 := Reg.ev (v := .int .i64 (k : Int)) e5
              exact Reg.obl_free rfl (Reg.wp_eqv (Option.some_ne_none _) (by go_simp) rfl)
            · intro ax wx hx hs
              obtain ⟨e22, e23, -⟩ := hs
              have g22 := Reg.ev (v := .slice (some ⟨b', o', none⟩) n c') e22
              have g23 := Reg.ev (v := .int .i64 (k : Int)) e23
              exact Reg.obl_free rfl (Reg.wp_eqv (Option.some_ne_none _) (by go_simp) rfl)
            · intro ax wx hx hs
              obtain ⟨e24, -⟩ := hs
              have g24 := Reg.ev (v := .pointer (some ⟨b', o' + k * 6, none⟩)) e24
              exact Reg.obl_free rfl (Reg.wp_eqv (Option.some_ne_none _) (by go_simp) rfl)
            · intro ax wx hx hs
              obtain ⟨e25, -⟩ := hs
              have g25 := Reg.ev (v := .pointer (some ⟨b', o' + k * 6, none⟩)) e25
              have hx' : Below wr.heap.size wr wx := hx
              have lc0 := (hx'.cell (p := ⟨b, o + k * 6, none⟩) hbw).trans c0
              have lc1 := (hx'.cell (p := ⟨b, o + k * 6 + 1, none⟩) hbw).trans c1
              have lc2 := (hx'.cell (p := ⟨b, o + k * 6 + 2, none⟩) hbw).trans c2
              have lc3 := (hx'.cell (p := ⟨b, o + k * 6 + 3, none⟩) hbw).trans c3
              have lc4 := (hx'.cell (p := ⟨b, o + k * 6 + 4, none⟩) hbw).trans c4
              have lc5 := (hx'.cell (p := ⟨b, o + k * 6 + 5, none⟩) hbw).trans c5
              have ld0 := (hx'.cell (p := ⟨b', o' + k * 6, none⟩) hbw').trans d0
              have ld1 := (hx'.cell (p := ⟨b', o' + k * 6 + 1, none⟩) hbw').trans d1
              have ld2 := (hx'.cell (p := ⟨b', o' + k * 6 + 2, none⟩) hbw').trans d2
              have ld3 := (hx'.cell (p := ⟨b', o' + k * 6 + 3, none⟩) hbw').trans d3
              have ld4 := (hx'.cell (p := ⟨b', o' + k * 6 + 4, none⟩) hbw').trans d4
              have ld5 := (hx'.cell (p := ⟨b', o' + k * 6 + 5, none⟩) hbw').trans d5
              exact Reg.obl_free rfl (Reg.wp_eqv (Option.some_ne_none _) (by go_simp) rfl)
            · intro ax wx hx hs
              obtain ⟨e21, e26, -⟩ := hs
              have g21 := Reg.ev (v := .string pk) e21
              have g26 := Reg.ev (v := .string qk) e26
              exact Reg.obl_free rfl (Reg.wp_eqv (Option.some_ne_none _) (by go_simp) rfl)
            · intro ax wx hx hs
              obtain ⟨e27, -⟩ := hs
              have g27 := Reg.ev (v := .bool true) e27
              exact Reg.obl_free rfl (Reg.wp_eqv (Option.some_ne_none _) (by go_simp) rfl)
            · intro ax wx hx hs
              obtain ⟨e0, e28, -⟩ := hs
              have g0 := Reg.ev (v := .slice (some ⟨b, o, none⟩) n c) e0
              have g28 := Reg.ev (v := .bool true) e28
              exact Reg.obl_skip rfl rfl e28 rfl rfl
            · intro ax wx hx hs
              obtain ⟨e5, e28, -⟩ := hs
              have g5 := Reg.ev (v := .int .i64 (k : Int)) e5
              have g28 := Reg.ev (v := .bool true) e28
              exact Reg.obl_skip rfl rfl e28 rfl rfl
            · intro ax wx hx hs
              obtain ⟨e29, e30, e28, -⟩ := hs
              have g29 := Reg.ev (v := undef) e29
              have g30 := Reg.ev (v := undef) e30
              have g28 := Reg.ev (v := .bool true) e28
              exact Reg.obl_skip rfl rfl e28 rfl rfl
            · intro ax wx hx hs
              obtain ⟨e31, e28, -⟩ := hs
              have g31 := Reg.ev (v := undef) e31
              have g28 := Reg.ev (v := .bool true) e28
              exact Reg.obl_skip rfl rfl e28 rfl rfl
            · intro ax wx hx hs
              obtain ⟨e32, e28, -⟩ := hs
              have g32 := Reg.ev (v := undef) e32
              have g28 := Reg.ev (v := .bool true) e28
              exact Reg.obl_skip rfl rfl e28 rfl rfl
            · intro ax wx hx hs
              obtain ⟨e1, e28, -⟩ := hs
              have g1 := Reg.ev (v := .slice (some ⟨b', o', none⟩) n c') e1
              have g28 := Reg.ev (v := .bool true) e28
              exact Reg.obl_skip rfl rfl e28 rfl rfl
            · intro ax wx hx hs
              obtain ⟨e5, e28, -⟩ := hs
              have g5 := Reg.ev (v := .int .i64 (k : Int)) e5
              have g28 := Reg.ev (v := .bool true) e28
              exact Reg.obl_skip rfl rfl e28 rfl rfl
            · intro ax wx hx hs
              obtain ⟨e34, e35, e28, -⟩ := hs
              have g34 := Reg.ev (v := undef) e34
              have g35 := Reg.ev (v := undef) e35
              have g28 := Reg.ev (v := .bool true) e28
              exact Reg.obl_skip rfl rfl e28 rfl rfl
            · intro ax wx hx hs
              obtain ⟨e36, e28, -⟩ := hs
              have g36 := Reg.ev (v := undef) e36
              have g28 := Reg.ev (v := .bool true) e28
              exact Reg.obl_skip rfl rfl e28 rfl rfl
            · intro ax wx hx hs
              obtain ⟨e37, e28, -⟩ := hs
              have g37 := Reg.ev (v := undef) e37
              have g28 := Reg.ev (v := .bool true) e28
              exact Reg.obl_skip rfl rfl e28 rfl rfl
            · intro ax wx hx hs
              obtain ⟨e33, e38, e28, -⟩ := hs
              have g33 := Reg.ev (v := undef) e33
              have g38 := Reg.ev (v := undef) e38
              have g28 := Reg.ev (v := .bool true) e28
              exact Reg.obl_skip rfl rfl e28 rfl rfl
            · intro ax wx hx hs
              obtain ⟨e39, e28, -⟩ := hs
              have g39 := Reg.ev (v := undef) e39
              have g28 := Reg.ev (v := .bool true) e28
              exact Reg.obl_skip rfl rfl e28 rfl rfl
            · intro ax wx hx hs
              obtain ⟨e28, e40, -⟩ := hs
              have g28 := Reg.ev (v := .bool true) e28
              have g40 := Reg.ev (v := undef) e40
              exact Reg.obl_free rfl (Reg.wp_eqv (Option.some_ne_none _) (by go_simp) rfl)
          · intro W2 hwf
            simp only [Reg.Fin]
            rintro _ rfl _ rfl _ rfl _ rfl _ rfl _ rfl _ rfl _ rfl _ rfl _ rfl _ rfl _ rfl _ rfl _ rfl _ rfl _ rfl _ rfl _ rfl _ rfl _ rfl _ rfl _ rfl _ rfl _ rfl _ rfl
            go_simp
            have HB1 := Lib.hid (bstep HK.out.1 (show Below wr.heap.size wr W2 from hwf))
            clear hwf
            go_wp2
            go_ret
            exact ⟨by rw [sameAll_at HP.out HQ.out HE.out]; rfl, HB1.out⟩
      · have hk' : k = n := by omega
        subst hk'
        go_wp2
        go_ret
        exact ⟨by rw [sameAll_of HLL.out (fun j p q h1 h2 => HK.out.2 j p q (by rw [← HL.out]; exact (List.getElem?_eq_some_iff.1 h1).1) h1 h2)]; rfl, HK.out.1⟩
  · have HE : Hid (ModelP.sameAll l l' = false) := Lib.hid (sameAll_len (by rw [hl, hl']; exact hnn))
    clear hl hl'
    have hne : ((n : Int) != (n' : Int)) = true := by simp; omega
    go_enter Try.func23, Try.ntmps23
    go_wp2
    go_ret
    exact ⟨by rw [HE.out]; rfl, bsame w⟩
theorem KeyS_less (a b : ByteArray) : Op.bytesLess a.toList b.toList = decide (ModelP.lt a b) := by
  rw [bytesLess_eq, Lib.toList_data, Lib.toList_data]
set_option maxRecDepth 100000 in
set_option maxHeartbeats 1000000 in
theorem refRight_any (A : Option Addr) (n c B : Nat) (l : List Pair) (w : World) (h : Pairs w B A n c l) (hB : B ≤ w.heap.size) (hn : n ≤ 100000) :
    Calls Try.prog 21 #[.slice A n c] w fun e w' => e = .returned (.bool (ModelP.rightB l)) ∧ Below w.heap.size w w' := by
  have H := Lib.hid h
  have HL := Lib.hid h.len
  clear h
  go_enter Try.func21, Try.ntmps21
  go_wp2
  go_loopw [3] (fun i wr => ∃ k : Nat, k ≤ n ∧ i = .int .i64 (k : Int) ∧ Hid (Below w.heap.size w wr ∧ (∀ (j : Nat) p, j < k → l[j]? = some p → ModelP.okP p) ∧ ∀ (j : Nat) p q, j + 1 < k → l[j]? = some p → l[j + 1]? = some q → ModelP.lt p.key q.key)) (fun i _ => n - (intOf i).toNat)
  case atStart => exact ⟨0, Nat.zero_le _, rfl, Lib.hid ⟨bsame w, fun j p hj => absurd hj (by omega), fun j p q hj => absurd hj (by omega)⟩⟩
  case round =>
    obtain ⟨k, hk, rfl, HK⟩ := hrel
    have hsz := HK.out.1.size
    by_cases hlt : k < n
    · obtain ⟨b, o, p, Ap, np, cp, rfl, hbB, hp, hby, hpk, -, -, -, -, c0, c1, c2, c3, c4, c5⟩ := pair_at (H.out.below (HK.out.1.mono hB)) hlt
      have HP := Lib.hid hp
      have hnp := hby.len
      have hnm := Nat.le_trans hby.2.1 hby.2.2.1
      clear hp hby
      obtain ⟨pk, pkd, pda, plo, phi, pva⟩ := p
      dsimp only at *
      have hbw : b < wr.heap.size := by omega
      by_cases hkr : KeyP.right pk.data.toList = true
      · have HKR := Lib.hid hkr
        by_cases hcr : CellP.right ⟨pkd, pda, plo, phi, pva⟩ = true
        · have HCR := Lib.hid hcr
          have HOK : Hid (ModelP.okP ⟨pk, pkd, pda, plo, phi, pva⟩) := Lib.hid ⟨hkr, hcr⟩
          clear hkr hcr
          rcases Nat.eq_zero_or_pos k with hk0 | hk0
          · have dk : decide (0 < (k : Int)) = false := by simp; omega
            have HK0 := Lib.hid hk0
            clear hk0
            go_wp2
            refine Reg.wp_region_vals (R := ext) (W := wr) [Reg.eqv (.slice (some ⟨b, o, none⟩) n c), Reg.eqv (.int .i64 (k : Int)), Reg.eqv (.pointer (some ⟨b, o + k * 6, none⟩)), Reg.eqv (.pointer (some ⟨b, o + k * 6, none⟩)), Reg.eqv (.string pk), Reg.eqv (.bool true), Reg.eqv (.bool false), Reg.eqv (.bool false), Reg.eqv (.slice (some ⟨b, o, none⟩) n c), Reg.eqv (.int .i64 (k : Int)), Reg.eqv (.pointer (some ⟨b, o + k * 6, none⟩)), Reg.eqv (.pointer (some ⟨b, o + k * 6 + 1, none⟩)), Reg.eqv (.agg #[.int .i64 pkd, .slice Ap np cp, .int .i64 plo, .int .i64 phi, .int .i64 pva]), Reg.eqv (.bool true), Reg.eqv (.bool false), Reg.eqv (.bool false), Reg.eqv (.bool false), Reg.eqv (.int .i64 (k : Int)), Reg.eqv (.bool false), Reg.eqv (.bool false), Reg.eqv undef, Reg.eqv undef, Reg.eqv undef, Reg.eqv undef, Reg.eqv undef, Reg.eqv undef, Reg.eqv undef, Reg.eqv undef, Reg.eqv undef, Reg.eqv undef, Reg.eqv undef, Reg.eqv undef, Reg.eqv (.bool false), Reg.eqv (.bool false)] 44 [[(0, none)], [(3, none)], [(10, some 0), (11, some 1)], [(12, some 2)], [(13, some 3)], [(14, some 4)], [(15, some 5)], [(16, some 6)], [(0, none), (17, some 7)], [(3, none), (17, some 7)], [(18, some 8), (19, some 9), (17, some 7)], [(20, some 10), (17, some 7)], [(21, some 11), (17, some 7)], [(22, some 12), (17, some 7)], [(23, some 13), (17, some 7)], [(17, some 7), (24, some 14)], [(25, some 15)], [(3, none), (26, some 16)], [(27, some 17), (26, some 16)], [(28, some 18), (26, some 16)], [(0, none), (29, some 19)], [(3, none), (29, some 19)], [(30, some 20), (31, some 21), (29, some 19)], [(32, some 22), (29, some 19)], [(33, some 23), (29, some 19)], [(0, none), (29, some 19)], [(3, none), (29, some 19)], [(36, some 26), (29, some 19)], [(35, some 25), (37, some 27), (29, some 19)], [(38, some 28), (29, some 19)], [(39, some 29), (29, some 19)], [(34, some 24), (40, some 30), (29, some 19)], [(29, some 19), (41, some 31), (26, some 16)], [(26, some 16), (42, some 32)]] rfl (by kernel_rfl) (by kernel_rfl) (by kernel_rfl) ?_ [some 10, some 11, some 12, some 13, some 14, some 15, some 16, some 17, some 18, some 19, some 20, some 21, some 22, some 23, some 24, some 25, some 26, some 27, some 28, some 29, some 30, some 31, some 32, some 33, some 34, some 35, some 36, some 37, some 38, some 39, some 40, some 41, some 42, some 43] (by kernel_rfl) ?_
            · refine ⟨?_, ?_, ?_, ?_, ?_, ?_, ?_, ?_, ?_, ?_, ?_, ?_, ?_, ?_, ?_, ?_, ?_, ?_, ?_, ?_, ?_, ?_, ?_, ?_, ?_, ?_, ?_, ?_, ?_, ?_, ?_, ?_, ?_, ?_, trivial⟩
              · intro ax wx hx hs
                obtain ⟨e0, -⟩ := hs
                have g0 := Reg.ev (v := .slice (some ⟨b, o, none⟩) n c) e0
                exact Reg.obl_free rfl (Reg.wp_eqv (Option.some_ne_none _) (by go_simp) rfl)
              · intro ax wx hx hs
                obtain ⟨e3, -⟩ := hs
                have g3 := Reg.ev (v := .int .i64 (k : Int)) e3
                exact Reg.obl_free rfl (Reg.wp_eqv (Option.some_ne_none _) (by go_simp) rfl)
              · intro ax wx hx hs
                obtain ⟨e10, e11, -⟩ := hs
                have g10 := Reg.ev (v := .slice (some ⟨b, o, none⟩) n c) e10
                have g11 := Reg.ev (v := .int .i64 (k : Int)) e11
                exact Reg.obl_free rfl (Reg.wp_eqv (Option.some_ne_none _) (by go_simp) rfl)
              · intro ax wx hx hs
                obtain ⟨e12, -⟩ := hs
                have g12 := Reg.ev (v := .pointer (some ⟨b, o + k * 6, none⟩)) e12
                exact Reg.obl_free rfl (Reg.wp_eqv (Option.some_ne_none _) (by go_simp) rfl)
              · intro ax wx hx hs
                obtain ⟨e13, -⟩ := hs
                have g13 := Reg.ev (v := .pointer (some ⟨b, o + k * 6, none⟩)) e13
                have hx' : Below wr.heap.size wr wx := hx
                have lc0 := (hx'.cell (p := ⟨b, o + k * 6, none⟩) hbw).trans c0
                have lc1 := (hx'.cell (p := ⟨b, o + k * 6 + 1, none⟩) hbw).trans c1
                have lc2 := (hx'.cell (p := ⟨b, o + k * 6 + 2, none⟩) hbw).trans c2
                have lc3 := (hx'.cell (p := ⟨b, o + k * 6 + 3, none⟩) hbw).trans c3
                have lc4 := (hx'.cell (p := ⟨b, o + k * 6 + 4, none⟩) hbw).trans c4
                have lc5 := (hx'.cell (p := ⟨b, o + k * 6 + 5, none⟩) hbw).trans c5
                exact Reg.obl_free rfl (Reg.wp_eqv (Option.some_ne_none _) (by go_simp) rfl)
              · intro ax wx hx hs
                obtain ⟨e14, -⟩ := hs
                have g14 := Reg.ev (v := .string pk) e14
                refine Reg.obl_free rfl ?_
                go_simp
                refine (Key.right_any pk wx hpk).mono ?_
                rw [HKR.out]
                rintro e wy ⟨rfl, rfl⟩
                exact Reg.done (Option.some_ne_none _) rfl (bsame _)
              · intro ax wx hx hs
                obtain ⟨e15, -⟩ := hs
                have g15 := Reg.ev (v := .bool true) e15
                exact Reg.obl_free rfl (Reg.wp_eqv (Option.some_ne_none _) (by go_simp) rfl)
              · intro ax wx hx hs
                obtain ⟨e16, -⟩ := hs
                have g16 := Reg.ev (v := .bool false) e16
                exact Reg.obl_free rfl (Reg.wp_eqv (Option.some_ne_none _) (by go_simp) rfl)
              · intro ax wx hx hs
                obtain ⟨e0, e17, -⟩ := hs
                have g0 := Reg.ev (v := .slice (some ⟨b, o, none⟩) n c) e0
                have g17 := Reg.ev (v := .bool false) e17
                exact Reg.obl_want rfl rfl e17 (Reg.wp_eqv (Option.some_ne_none _) (by go_simp) rfl)
              · intro ax wx hx hs
                obtain ⟨e3, e17, -⟩ := hs
                have g3 := Reg.ev (v := .int .i64 (k : Int)) e3
                have g17 := Reg.ev (v := .bool false) e17
                exact Reg.obl_want rfl rfl e17 (Reg.wp_eqv (Option.some_ne_none _) (by go_simp) rfl)
              · intro ax wx hx hs
                obtain ⟨e18, e19, e17, -⟩ := hs
                have g18 := Reg.ev (v := .slice (some ⟨b, o, none⟩) n c) e18
                have g19 := Reg.ev (v := .int .i64 (k : Int)) e19
                have g17 := Reg.ev (v := .bool false) e17
                exact Reg.obl_want rfl rfl e17 (Reg.wp_eqv (Option.some_ne_none _) (by go_simp) rfl)
              · intro ax wx hx hs
                obtain ⟨e20, e17, -⟩ := hs
                have g20 := Reg.ev (v := .pointer (some ⟨b, o + k * 6, none⟩)) e20
                have g17 := Reg.ev (v := .bool false) e17
                exact Reg.obl_want rfl rfl e17 (Reg.wp_eqv (Option.some_ne_none _) (by go_simp) rfl)
              · intro ax wx hx hs
                obtain ⟨e21, e17, -⟩ := hs
                have g21 := Reg.ev (v := .pointer (some ⟨b, o + k * 6 + 1, none⟩)) e21
                have g17 := Reg.ev (v := .bool false) e17
                have hx' : Below wr.heap.size wr wx := hx
                have lc0 := (hx'.cell (p := ⟨b, o + k * 6, none⟩) hbw).trans c0
                have lc1 := (hx'.cell (p := ⟨b, o + k * 6 + 1, none⟩) hbw).trans c1
                have lc2 := (hx'.cell (p := ⟨b, o + k * 6 + 2, none⟩) hbw).trans c2
                have lc3 := (hx'.cell (p := ⟨b, o + k * 6 + 3, none⟩) hbw).trans c3
                have lc4 := (hx'.cell (p := ⟨b, o + k * 6 + 4, none⟩) hbw).trans c4
                have lc5 := (hx'.cell (p := ⟨b, o + k * 6 + 5, none⟩) hbw).trans c5
                exact Reg.obl_want rfl rfl e17 (Reg.wp_eqv (Option.some_ne_none _) (by go_simp) rfl)
              · intro ax wx hx hs
                obtain ⟨e22, e17, -⟩ := hs
                have g22 := Reg.ev (v := .agg #[.int .i64 pkd, .slice Ap np cp, .int .i64 plo, .int .i64 phi, .int .i64 pva]) e22
                have g17 := Reg.ev (v := .bool false) e17
                refine Reg.obl_want rfl rfl e17 ?_
                go_simp
                refine (CellW.right_any Ap np cp ⟨pkd, pda, plo, phi, pva⟩ wx hnp hnm).mono ?_
                rw [HCR.out]
                rintro e wy ⟨rfl, hby⟩
                exact Reg.done (Option.some_ne_none _) rfl hby
              · intro ax wx hx hs
                obtain ⟨e23, e17, -⟩ := hs
                have g23 := Reg.ev (v := .bool true) e23
                have g17 := Reg.ev (v := .bool false) e17
                exact Reg.obl_want rfl rfl e17 (Reg.wp_eqv (Option.some_ne_none _) (by go_simp) rfl)
              · intro ax wx hx hs
                obtain ⟨e17, e24, -⟩ := hs
                have g17 := Reg.ev (v := .bool false) e17
                have g24 := Reg.ev (v := .bool false) e24
                exact Reg.obl_free rfl (Reg.wp_eqv (Option.some_ne_none _) (by go_simp) rfl)
              · intro ax wx hx hs
                obtain ⟨e25, -⟩ := hs
                have g25 := Reg.ev (v := .bool false) e25
                exact Reg.obl_free rfl (Reg.wp_eqv (Option.some_ne_none _) (by go_simp) rfl)
              · intro ax wx hx hs
                obtain ⟨e3, e26, -⟩ := hs
                have g3 := Reg.ev (v := .int .i64 (k : Int)) e3
                have g26 := Reg.ev (v := .bool false) e26
                exact Reg.obl_want rfl rfl e26 (Reg.wp_eqv (Option.some_ne_none _) (by go_simp) rfl)
              · intro ax wx hx hs
                obtain ⟨e27, e26, -⟩ := hs
                have g27 := Reg.ev (v := .int .i64 (k : Int)) e27
                have g26 := Reg.ev (v := .bool false) e26
                refine Reg.obl_want rfl rfl e26 ?_
                have hk0 := HK0.out
                exact Reg.wp_eqv (Option.some_ne_none _) (by go_simp) rfl
              · intro ax wx hx hs
                obtain ⟨e28, e26, -⟩ := hs
                have g28 := Reg.ev (v := .bool false) e28
                have g26 := Reg.ev (v := .bool false) e26
                exact Reg.obl_want rfl rfl e26 (Reg.wp_eqv (Option.some_ne_none _) (by go_simp) rfl)
              · intro ax wx hx hs
                obtain ⟨e0, e29, -⟩ := hs
                have g0 := Reg.ev (v := .slice (some ⟨b, o, none⟩) n c) e0
                have g29 := Reg.ev (v := .bool false) e29
                exact Reg.obl_skip rfl rfl e29 rfl rfl
              · intro ax wx hx hs
                obtain ⟨e3, e29, -⟩ := hs
                have g3 := Reg.ev (v := .int .i64 (k : Int)) e3
                have g29 := Reg.ev (v := .bool false) e29
                exact Reg.obl_skip rfl rfl e29 rfl rfl
              · intro ax wx hx hs
                obtain ⟨e30, e31, e29, -⟩ := hs
                have g30 := Reg.ev (v := undef) e30
                have g31 := Reg.ev (v := undef) e31
                have g29 := Reg.ev (v := .bool false) e29
                exact Reg.obl_skip rfl rfl e29 rfl rfl
              · intro ax wx hx hs
                obtain ⟨e32, e29, -⟩ := hs
                have g32 := Reg.ev (v := undef) e32
                have g29 := Reg.ev (v := .bool false) e29
                exact Reg.obl_skip rfl rfl e29 rfl rfl
              · intro ax wx hx hs
                obtain ⟨e33, e29, -⟩ := hs
                have g33 := Reg.ev (v := undef) e33
                have g29 := Reg.ev (v := .bool false) e29
                exact Reg.obl_skip rfl rfl e29 rfl rfl
              · intro ax wx hx hs
                obtain ⟨e0, e29, -⟩ := hs
                have g0 := Reg.ev (v := .slice (some ⟨b, o, none⟩) n c) e0
                have g29 := Reg.ev (v := .bool false) e29
                exact Reg.obl_skip rfl rfl e29 rfl rfl
              · intro ax wx hx hs
                obtain ⟨e3, e29, -⟩ := hs
                have g3 := Reg.ev (v := .int .i64 (k : Int)) e3
                have g29 := Reg.ev (v := .bool false) e29
                exact Reg.obl_skip rfl rfl e29 rfl rfl
              · intro ax wx hx hs
                obtain ⟨e36, e29, -⟩ := hs
                have g36 := Reg.ev (v := undef) e36
                have g29 := Reg.ev (v := .bool false) e29
                exact Reg.obl_skip rfl rfl e29 rfl rfl
              · intro ax wx hx hs
                obtain ⟨e35, e37, e29, -⟩ := hs
                have g35 := Reg.ev (v := undef) e35
                have g37 := Reg.ev (v := undef) e37
                have g29 := Reg.ev (v := .bool false) e29
                exact Reg.obl_skip rfl rfl e29 rfl rfl
              · intro ax wx hx hs
                obtain ⟨e38, e29, -⟩ := hs
                have g38 := Reg.ev (v := undef) e38
                have g29 := Reg.ev (v := .bool false) e29
                exact Reg.obl_skip rfl rfl e29 rfl rfl
              · intro ax wx hx hs
                obtain ⟨e39, e29, -⟩ := hs
                have g39 := Reg.ev (v := undef) e39
                have g29 := Reg.ev (v := .bool false) e29
                exact Reg.obl_skip rfl rfl e29 rfl rfl
              · intro ax wx hx hs
                obtain ⟨e34, e40, e29, -⟩ := hs
                have g34 := Reg.ev (v := undef) e34
                have g40 := Reg.ev (v := undef) e40
                have g29 := Reg.ev (v := .bool false) e29
                exact Reg.obl_skip rfl rfl e29 rfl rfl
              · intro ax wx hx hs
                obtain ⟨e29, e41, e26, -⟩ := hs
                have g29 := Reg.ev (v := .bool false) e29
                have g41 := Reg.ev (v := undef) e41
                have g26 := Reg.ev (v := .bool false) e26
                exact Reg.obl_want rfl rfl e26 (Reg.wp_eqv (Option.some_ne_none _) (by go_simp) rfl)
              · intro ax wx hx hs
                obtain ⟨e26, e42, -⟩ := hs
                have g26 := Reg.ev (v := .bool false) e26
                have g42 := Reg.ev (v := .bool false) e42
                exact Reg.obl_free rfl (Reg.wp_eqv (Option.some_ne_none _) (by go_simp) rfl)
            · intro W2 hwf
              simp only [Reg.Fin]
              rintro _ rfl _ rfl _ rfl _ rfl _ rfl _ rfl _ rfl _ rfl _ rfl _ rfl _ rfl _ rfl _ rfl _ rfl _ rfl _ rfl _ rfl _ rfl _ rfl _ rfl _ rfl _ rfl _ rfl _ rfl _ rfl _ rfl _ rfl _ rfl _ rfl _ rfl _ rfl _ rfl _ rfl _ rfl
              go_simp
              have HB1 := Lib.hid (bstep HK.out.1 (show Below wr.heap.size wr W2 from hwf))
              clear hwf
              go_wp2
              go_roundw
              case rel => exact ⟨k + 1, by omega, by go_num, Lib.hid ⟨HB1.out, fun j p hj h1 => by
                rcases Nat.lt_or_ge j k with h3 | h3
                · exact HK.out.2.1 j p h3 h1
                · have : j = k := by omega
                  subst this
                  rw [HP.out] at h1
                  cases h1
                  exact HOK.out, fun i p q hi h1 h2 => by
                rcases Nat.lt_or_ge (i + 1) k with h3 | h3
                · exact HK.out.2.2 i p q h3 h1 h2
                · have := HK0.out; omega⟩⟩
              case measure => simp [intOf]; omega
          · obtain ⟨j, hj⟩ : ∃ j, k = j + 1 := ⟨k - 1, by omega⟩
            obtain ⟨b', o', q, Aq, nq', cq, e, -, hq, -, hqk, -, -, -, -, d0, -⟩ := pair_at (H.out.below (HK.out.1.mono hB)) (show j < n by omega)
            cases e
            have HQ := Lib.hid hq
            obtain ⟨qk, qc⟩ := q
            dsimp only at *
            clear hq
            have dk : decide (0 < (k : Int)) = true := by simp; omega
            have w1 : IntKind.i64.wrap ((k : Int) - 1) = (j : Int) := by rw [show (k : Int) - 1 = (j : Int) by omega]; exact IntWalk.i64_in _ (by omega)
            have hjn : (j : Int) < (n : Int) := by omega
            have HJ := Lib.hid hj
            clear hj
            by_cases hlq : Op.bytesLess qk.toList pk.toList = true
            · have HLQ : Hid (ModelP.lt qk pk) := Lib.hid (by rw [KeyS_less] at hlq; simpa using hlq)
              have hl1 : Op.bytesLess pk.toList qk.toList = false := by rw [KeyS_less]; simp; exact fun h => List.lt_asymm HLQ.out h
              have hl2 : ¬ pk.toList = qk.toList := fun e => by have e2 := key_inj e; subst e2; exact ModelP.lt_irrefl _ HLQ.out
              go_wp2
              refine Reg.wp_region_vals (R := ext) (W := wr) [Reg.eqv (.slice (some ⟨b, o, none⟩) n c), Reg.eqv (.int .i64 (k : Int)), Reg.eqv (.pointer (some ⟨b, o + k * 6, none⟩)), Reg.eqv (.pointer (some ⟨b, o + k * 6, none⟩)), Reg.eqv (.string pk), Reg.eqv (.bool true), Reg.eqv (.bool false), Reg.eqv (.bool false), Reg.eqv (.slice (some ⟨b, o, none⟩) n c), Reg.eqv (.int .i64 (k : Int)), Reg.eqv (.pointer (some ⟨b, o + k * 6, none⟩)), Reg.eqv (.pointer (some ⟨b, o + k * 6 + 1, none⟩)), Reg.eqv (.agg #[.int .i64 pkd, .slice Ap np cp, .int .i64 plo, .int .i64 phi, .int .i64 pva]), Reg.eqv (.bool true), Reg.eqv (.bool false), Reg.eqv (.bool false), Reg.eqv (.bool false), Reg.eqv (.int .i64 (k : Int)), Reg.eqv (.bool true), Reg.eqv (.bool true), Reg.eqv (.slice (some ⟨b, o, none⟩) n c), Reg.eqv (.int .i64 (k : Int)), Reg.eqv (.pointer (some ⟨b, o + k * 6, none⟩)), Reg.eqv (.pointer (some ⟨b, o + k * 6, none⟩)), Reg.eqv (.string pk), Reg.eqv (.slice (some ⟨b, o, none⟩) n c), Reg.eqv (.int .i64 (k : Int)), Reg.eqv (.int .i64 (j : Int)), Reg.eqv (.pointer (some ⟨b, o + j * 6, none⟩)), Reg.eqv (.pointer (some ⟨b, o + j * 6, none⟩)), Reg.eqv (.string qk), Reg.eqv (.bool false), Reg.eqv (.bool false), Reg.eqv (.bool false)] 44 [[(0, none)], [(3, none)], [(10, some 0), (11, some 1)], [(12, some 2)], [(13, some 3)], [(14, some 4)], [(15, some 5)], [(16, some 6)], [(0, none), (17, some 7)], [(3, none), (17, some 7)], [(18, some 8), (19, some 9), (17, some 7)], [(20, some 10), (17, some 7)], [(21, some 11), (17, some 7)], [(22, some 12), (17, some 7)], [(23, some 13), (17, some 7)], [(17, some 7), (24, some 14)], [(25, some 15)], [(3, none), (26, some 16)], [(27, some 17), (26, some 16)], [(28, some 18), (26, some 16)], [(0, none), (29, some 19)], [(3, none), (29, some 19)], [(30, some 20), (31, some 21), (29, some 19)], [(32, some 22), (29, some 19)], [(33, some 23), (29, some 19)], [(0, none), (29, some 19)], [(3, none), (29, some 19)], [(36, some 26), (29, some 19)], [(35, some 25), (37, some 27), (29, some 19)], [(38, some 28), (29, some 19)], [(39, some 29), (29, some 19)], [(34, some 24), (40, some 30), (29, some 19)], [(29, some 19), (41, some 31), (26, some 16)], [(26, some 16), (42, some 32)]] rfl (by kernel_rfl) (by kernel_rfl) (by kernel_rfl) ?_ [some 10, some 11, some 12, some 13, some 14, some 15, some 16, some 17, some 18, some 19, some 20, some 21, some 22, some 23, some 24, some 25, some 26, some 27, some 28, some 29, some 30, some 31, some 32, some 33, some 34, some 35, some 36, some 37, some 38, some 39, some 40, some 41, some 42, some 43] (by kernel_rfl) ?_
              · refine ⟨?_, ?_, ?_, ?_, ?_, ?_, ?_, ?_, ?_, ?_, ?_, ?_, ?_, ?_, ?_, ?_, ?_, ?_, ?_, ?_, ?_, ?_, ?_, ?_, ?_, ?_, ?_, ?_, ?_, ?_, ?_, ?_, ?_, ?_, trivial⟩
                · intro ax wx hx hs
                  obtain ⟨e0, -⟩ := hs
                  have g0 := Reg.ev (v := .slice (some ⟨b, o, none⟩) n c) e0
                  exact Reg.obl_free rfl (Reg.wp_eqv (Option.some_ne_none _) (by go_simp) rfl)
                · intro ax wx hx hs
                  obtain ⟨e3, -⟩ := hs
                  have g3 := Reg.ev (v := .int .i64 (k : Int)) e3
                  exact Reg.obl_free rfl (Reg.wp_eqv (Option.some_ne_none _) (by go_simp) rfl)
                · intro ax wx hx hs
                  obtain ⟨e10, e11, -⟩ := hs
                  have g10 := Reg.ev (v := .slice (some ⟨b, o, none⟩) n c) e10
                  have g11 := Reg.ev (v := .int .i64 (k : Int)) e11
                  exact Reg.obl_free rfl (Reg.wp_eqv (Option.some_ne_none _) (by go_simp) rfl)
                · intro ax wx hx hs
                  obtain ⟨e12, -⟩ := hs
                  have g12 := Reg.ev (v := .pointer (some ⟨b, o + k * 6, none⟩)) e12
                  exact Reg.obl_free rfl (Reg.wp_eqv (Option.some_ne_none _) (by go_simp) rfl)
                · intro ax wx hx hs
                  obtain ⟨e13, -⟩ := hs
                  have g13 := Reg.ev (v := .pointer (some ⟨b, o + k * 6, none⟩)) e13
                  have hx' : Below wr.heap.size wr wx := hx
                  have lc0 := (hx'.cell (p := ⟨b, o + k * 6, none⟩) hbw).trans c0
                  have lc1 := (hx'.cell (p := ⟨b, o + k * 6 + 1, none⟩) hbw).trans c1
                  have lc2 := (hx'.cell (p := ⟨b, o + k * 6 + 2, none⟩) hbw).trans c2
                  have lc3 := (hx'.cell (p := ⟨b, o + k * 6 + 3, none⟩) hbw).trans c3
                  have lc4 := (hx'.cell (p := ⟨b, o + k * 6 + 4, none⟩) hbw).trans c4
                  have lc5 := (hx'.cell (p := ⟨b, o + k * 6 + 5, none⟩) hbw).trans c5
                  have ld0 := (hx'.cell (p := ⟨b, o + j * 6, none⟩) hbw).trans d0
                  exact Reg.obl_free rfl (Reg.wp_eqv (Option.some_ne_none _) (by go_simp) rfl)
                · intro ax wx hx hs
                  obtain ⟨e14, -⟩ := hs
                  have g14 := Reg.ev (v := .string pk) e14
                  refine Reg.obl_free rfl ?_
                  go_simp
                  refine (Key.right_any pk wx hpk).mono ?_
                  rw [HKR.out]
                  rintro e wy ⟨rfl, rfl⟩
                  exact Reg.done (Option.some_ne_none _) rfl (bsame _)
                · intro ax wx hx hs
                  obtain ⟨e15, -⟩ := hs
                  have g15 := Reg.ev (v := .bool true) e15
                  exact Reg.obl_free rfl (Reg.wp_eqv (Option.some_ne_none _) (by go_simp) rfl)
                · intro ax wx hx hs
                  obtain ⟨e16, -⟩ := hs
                  have g16 := Reg.ev (v := .bool false) e16
                  exact Reg.obl_free rfl (Reg.wp_eqv (Option.some_ne_none _) (by go_simp) rfl)
                · intro ax wx hx hs
                  obtain ⟨e0, e17, -⟩ := hs
                  have g0 := Reg.ev (v := .slice (some ⟨b, o, none⟩) n c) e0
                  have g17 := Reg.ev (v := .bool false) e17
                  exact Reg.obl_want rfl rfl e17 (Reg.wp_eqv (Option.some_ne_none _) (by go_simp) rfl)
                · intro ax wx hx hs
                  obtain ⟨e3, e17, -⟩ := hs
                  have g3 := Reg.ev (v := .int .i64 (k : Int)) e3
                  have g17 := Reg.ev (v := .bool false) e17
                  exact Reg.obl_want rfl rfl e17 (Reg.wp_eqv (Option.some_ne_none _) (by go_simp) rfl)
                · intro ax wx hx hs
                  obtain ⟨e18, e19, e17, -⟩ := hs
                  have g18 := Reg.ev (v := .slice (some ⟨b, o, none⟩) n c) e18
                  have g19 := Reg.ev (v := .int .i64 (k : Int)) e19
                  have g17 := Reg.ev (v := .bool false) e17
                  exact Reg.obl_want rfl rfl e17 (Reg.wp_eqv (Option.some_ne_none _) (by go_simp) rfl)
                · intro ax wx hx hs
                  obtain ⟨e20, e17, -⟩ := hs
                  have g20 := Reg.ev (v := .pointer (some ⟨b, o + k * 6, none⟩)) e20
                  have g17 := Reg.ev (v := .bool false) e17
                  exact Reg.obl_want rfl rfl e17 (Reg.wp_eqv (Option.some_ne_none _) (by go_simp) rfl)
                · intro ax wx hx hs
                  obtain ⟨e21, e17, -⟩ := hs
                  have g21 := Reg.ev (v := .pointer (some ⟨b, o + k * 6 + 1, none⟩)) e21
                  have g17 := Reg.ev (v := .bool false) e17
                  have hx' : Below wr.heap.size wr wx := hx
                  have lc0 := (hx'.cell (p := ⟨b, o + k * 6, none⟩) hbw).trans c0
                  have lc1 := (hx'.cell (p := ⟨b, o + k * 6 + 1, none⟩) hbw).trans c1
                  have lc2 := (hx'.cell (p := ⟨b, o + k * 6 + 2, none⟩) hbw).trans c2
                  have lc3 := (hx'.cell (p := ⟨b, o + k * 6 + 3, none⟩) hbw).trans c3
                  have lc4 := (hx'.cell (p := ⟨b, o + k * 6 + 4, none⟩) hbw).trans c4
                  have lc5 := (hx'.cell (p := ⟨b, o + k * 6 + 5, none⟩) hbw).trans c5
                  have ld0 := (hx'.cell (p := ⟨b, o + j * 6, none⟩) hbw).trans d0
                  exact Reg.obl_want rfl rfl e17 (Reg.wp_eqv (Option.some_ne_none _) (by go_simp) rfl)
                · intro ax wx hx hs
                  obtain ⟨e22, e17, -⟩ := hs
                  have g22 := Reg.ev (v := .agg #[.int .i64 pkd, .slice Ap np cp, .int .i64 plo, .int .i64 phi, .int .i64 pva]) e22
                  have g17 := Reg.ev (v := .bool false) e17
                  refine Reg.obl_want rfl rfl e17 ?_
                  go_simp
                  refine (CellW.right_any Ap np cp ⟨pkd, pda, plo, phi, pva⟩ wx hnp hnm).mono ?_
                  rw [HCR.out]
                  rintro e wy ⟨rfl, hby⟩
                  exact Reg.done (Option.some_ne_none _) rfl hby
                · intro ax wx hx hs
                  obtain ⟨e23, e17, -⟩ := hs
                  have g23 := Reg.ev (v := .bool true) e23
                  have g17 := Reg.ev (v := .bool false) e17
                  exact Reg.obl_want rfl rfl e17 (Reg.wp_eqv (Option.some_ne_none _) (by go_simp) rfl)
                · intro ax wx hx hs
                  obtain ⟨e17, e24, -⟩ := hs
                  have g17 := Reg.ev (v := .bool false) e17
                  have g24 := Reg.ev (v := .bool false) e24
                  exact Reg.obl_free rfl (Reg.wp_eqv (Option.some_ne_none _) (by go_simp) rfl)
                · intro ax wx hx hs
                  obtain ⟨e25, -⟩ := hs
                  have g25 := Reg.ev (v := .bool false) e25
                  exact Reg.obl_free rfl (Reg.wp_eqv (Option.some_ne_none _) (by go_simp) rfl)
                · intro ax wx hx hs
                  obtain ⟨e3, e26, -⟩ := hs
                  have g3 := Reg.ev (v := .int .i64 (k : Int)) e3
                  have g26 := Reg.ev (v := .bool false) e26
                  exact Reg.obl_want rfl rfl e26 (Reg.wp_eqv (Option.some_ne_none _) (by go_simp) rfl)
                · intro ax wx hx hs
                  obtain ⟨e27, e26, -⟩ := hs
                  have g27 := Reg.ev (v := .int .i64 (k : Int)) e27
                  have g26 := Reg.ev (v := .bool false) e26
                  exact Reg.obl_want rfl rfl e26 (Reg.wp_eqv (Option.some_ne_none _) (by go_simp) rfl)
                · intro ax wx hx hs
                  obtain ⟨e28, e26, -⟩ := hs
                  have g28 := Reg.ev (v := .bool true) e28
                  have g26 := Reg.ev (v := .bool false) e26
                  exact Reg.obl_want rfl rfl e26 (Reg.wp_eqv (Option.some_ne_none _) (by go_simp) rfl)
                · intro ax wx hx hs
                  obtain ⟨e0, e29, -⟩ := hs
                  have g0 := Reg.ev (v := .slice (some ⟨b, o, none⟩) n c) e0
                  have g29 := Reg.ev (v := .bool true) e29
                  exact Reg.obl_want rfl rfl e29 (Reg.wp_eqv (Option.some_ne_none _) (by go_simp) rfl)
                · intro ax wx hx hs
                  obtain ⟨e3, e29, -⟩ := hs
                  have g3 := Reg.ev (v := .int .i64 (k : Int)) e3
                  have g29 := Reg.ev (v := .bool true) e29
                  exact Reg.obl_want rfl rfl e29 (Reg.wp_eqv (Option.some_ne_none _) (by go_simp) rfl)
                · intro ax wx hx hs
                  obtain ⟨e30, e31, e29, -⟩ := hs
                  have g30 := Reg.ev (v := .slice (some ⟨b, o, none⟩) n c) e30
                  have g31 := Reg.ev (v := .int .i64 (k : Int)) e31
                  have g29 := Reg.ev (v := .bool true) e29
                  exact Reg.obl_want rfl rfl e29 (Reg.wp_eqv (Option.some_ne_none _) (by go_simp) rfl)
                · intro ax wx hx hs
                  obtain ⟨e32, e29, -⟩ := hs
                  have g32 := Reg.ev (v := .pointer (some ⟨b, o + k * 6, none⟩)) e32
                  have g29 := Reg.ev (v := .bool true) e29
                  exact Reg.obl_want rfl rfl e29 (Reg.wp_eqv (Option.some_ne_none _) (by go_simp) rfl)
                · intro ax wx hx hs
                  obtain ⟨e33, e29, -⟩ := hs
                  have g33 := Reg.ev (v := .pointer (some ⟨b, o + k * 6, none⟩)) e33
                  have g29 := Reg.ev (v := .bool true) e29
                  have hx' : Below wr.heap.size wr wx := hx
                  have lc0 := (hx'.cell (p := ⟨b, o + k * 6, none⟩) hbw).trans c0
                  have lc1 := (hx'.cell (p := ⟨b, o + k * 6 + 1, none⟩) hbw).trans c1
                  have lc2 := (hx'.cell (p := ⟨b, o + k * 6 + 2, none⟩) hbw).trans c2
                  have lc3 := (hx'.cell (p := ⟨b, o + k * 6 + 3, none⟩) hbw).trans c3
                  have lc4 := (hx'.cell (p := ⟨b, o + k * 6 + 4, none⟩) hbw).trans c4
                  have lc5 := (hx'.cell (p := ⟨b, o + k * 6 + 5, none⟩) hbw).trans c5
                  have ld0 := (hx'.cell (p := ⟨b, o + j * 6, none⟩) hbw).trans d0
                  exact Reg.obl_want rfl rfl e29 (Reg.wp_eqv (Option.some_ne_none _) (by go_simp) rfl)
                · intro ax wx hx hs
                  obtain ⟨e0, e29, -⟩ := hs
                  have g0 := Reg.ev (v := .slice (some ⟨b, o, none⟩) n c) e0
                  have g29 := Reg.ev (v := .bool true) e29
                  exact Reg.obl_want rfl rfl e29 (Reg.wp_eqv (Option.some_ne_none _) (by go_simp) rfl)
                · intro ax wx hx hs
                  obtain ⟨e3, e29, -⟩ := hs
                  have g3 := Reg.ev (v := .int .i64 (k : Int)) e3
                  have g29 := Reg.ev (v := .bool true) e29
                  exact Reg.obl_want rfl rfl e29 (Reg.wp_eqv (Option.some_ne_none _) (by go_simp) rfl)
                · intro ax wx hx hs
                  obtain ⟨e36, e29, -⟩ := hs
                  have g36 := Reg.ev (v := .int .i64 (k : Int)) e36
                  have g29 := Reg.ev (v := .bool true) e29
                  exact Reg.obl_want rfl rfl e29 (Reg.wp_eqv (Option.some_ne_none _) (by go_simp) rfl)
                · intro ax wx hx hs
                  obtain ⟨e35, e37, e29, -⟩ := hs
                  have g35 := Reg.ev (v := .slice (some ⟨b, o, none⟩) n c) e35
                  have g37 := Reg.ev (v := .int .i64 (j : Int)) e37
                  have g29 := Reg.ev (v := .bool true) e29
                  exact Reg.obl_want rfl rfl e29 (Reg.wp_eqv (Option.some_ne_none _) (by go_simp) rfl)
                · intro ax wx hx hs
                  obtain ⟨e38, e29, -⟩ := hs
                  have g38 := Reg.ev (v := .pointer (some ⟨b, o + j * 6, none⟩)) e38
                  have g29 := Reg.ev (v := .bool true) e29
                  exact Reg.obl_want rfl rfl e29 (Reg.wp_eqv (Option.some_ne_none _) (by go_simp) rfl)
                · intro ax wx hx hs
                  obtain ⟨e39, e29, -⟩ := hs
                  have g39 := Reg.ev (v := .pointer (some ⟨b, o + j * 6, none⟩)) e39
                  have g29 := Reg.ev (v := .bool true) e29
                  have hx' : Below wr.heap.size wr wx := hx
                  have lc0 := (hx'.cell (p := ⟨b, o + k * 6, none⟩) hbw).trans c0
                  have lc1 := (hx'.cell (p := ⟨b, o + k * 6 + 1, none⟩) hbw).trans c1
                  have lc2 := (hx'.cell (p := ⟨b, o + k * 6 + 2, none⟩) hbw).trans c2
                  have lc3 := (hx'.cell (p := ⟨b, o + k * 6 + 3, none⟩) hbw).trans c3
                  have lc4 := (hx'.cell (p := ⟨b, o + k * 6 + 4, none⟩) hbw).trans c4
                  have lc5 := (hx'.cell (p := ⟨b, o + k * 6 + 5, none⟩) hbw).trans c5
                  have ld0 := (hx'.cell (p := ⟨b, o + j * 6, none⟩) hbw).trans d0
                  exact Reg.obl_want rfl rfl e29 (Reg.wp_eqv (Option.some_ne_none _) (by go_simp) rfl)
                · intro ax wx hx hs
                  obtain ⟨e34, e40, e29, -⟩ := hs
                  have g34 := Reg.ev (v := .string pk) e34
                  have g40 := Reg.ev (v := .string qk) e40
                  have g29 := Reg.ev (v := .bool true) e29
                  exact Reg.obl_want rfl rfl e29 (Reg.wp_eqv (Option.some_ne_none _) (by go_simp) rfl)
                · intro ax wx hx hs
                  obtain ⟨e29, e41, e26, -⟩ := hs
                  have g29 := Reg.ev (v := .bool true) e29
                  have g41 := Reg.ev (v := .bool false) e41
                  have g26 := Reg.ev (v := .bool false) e26
                  exact Reg.obl_want rfl rfl e26 (Reg.wp_eqv (Option.some_ne_none _) (by go_simp) rfl)
                · intro ax wx hx hs
                  obtain ⟨e26, e42, -⟩ := hs
                  have g26 := Reg.ev (v := .bool false) e26
                  have g42 := Reg.ev (v := .bool false) e42
                  exact Reg.obl_free rfl (Reg.wp_eqv (Option.some_ne_none _) (by go_simp) rfl)
              · intro W2 hwf
                simp only [Reg.Fin]
                rintro _ rfl _ rfl _ rfl _ rfl _ rfl _ rfl _ rfl _ rfl _ rfl _ rfl _ rfl _ rfl _ rfl _ rfl _ rfl _ rfl _ rfl _ rfl _ rfl _ rfl _ rfl _ rfl _ rfl _ rfl _ rfl _ rfl _ rfl _ rfl _ rfl _ rfl _ rfl _ rfl _ rfl _ rfl
                go_simp
                have HB1 := Lib.hid (bstep HK.out.1 (show Below wr.heap.size wr W2 from hwf))
                clear hwf
                go_wp2
                go_roundw
                case rel => exact ⟨k + 1, by omega, by go_num, Lib.hid ⟨HB1.out, fun j p hj h1 => by
                  rcases Nat.lt_or_ge j k with h3 | h3
                  · exact HK.out.2.1 j p h3 h1
                  · have : j = k := by omega
                    subst this
                    rw [HP.out] at h1
                    cases h1
                    exact HOK.out, fun i p q hi h1 h2 => by
                  rcases Nat.lt_or_ge (i + 1) k with h3 | h3
                  · exact HK.out.2.2 i p q h3 h1 h2
                  · have e1 : i = j := by have := HJ.out; omega
                    subst e1
                    rw [HQ.out] at h1
                    rw [← HJ.out, HP.out] at h2
                    cases h1
                    cases h2
                    exact HLQ.out⟩⟩
                case measure => simp [intOf]; omega
            · have HLQ : Hid (¬ ModelP.lt qk pk) := Lib.hid (by rw [KeyS_less] at hlq; simpa using hlq)
              have hl1 : Op.bytesLess pk.toList qk.toList = true ∨ pk.toList = qk.toList := by
                rw [KeyS_less]
                simp only [decide_eq_true_eq]
                rcases List.le_iff_lt_or_eq.1 (List.not_lt.1 HLQ.out) with h1 | h1
                · exact .inl h1
                · exact .inr (by rw [ModelP.key_eq h1])
              clear hlq
              go_wp2
              refine Reg.wp_region_vals (R := ext) (W := wr) [Reg.eqv (.slice (some ⟨b, o, none⟩) n c), Reg.eqv (.int .i64 (k : Int)), Reg.eqv (.pointer (some ⟨b, o + k * 6, none⟩)), Reg.eqv (.pointer (some ⟨b, o + k * 6, none⟩)), Reg.eqv (.string pk), Reg.eqv (.bool true), Reg.eqv (.bool false), Reg.eqv (.bool false), Reg.eqv (.slice (some ⟨b, o, none⟩) n c), Reg.eqv (.int .i64 (k : Int)), Reg.eqv (.pointer (some ⟨b, o + k * 6, none⟩)), Reg.eqv (.pointer (some ⟨b, o + k * 6 + 1, none⟩)), Reg.eqv (.agg #[.int .i64 pkd, .slice Ap np cp, .int .i64 plo, .int .i64 phi, .int .i64 pva]), Reg.eqv (.bool true), Reg.eqv (.bool false), Reg.eqv (.bool false), Reg.eqv (.bool false), Reg.eqv (.int .i64 (k : Int)), Reg.eqv (.bool true), Reg.eqv (.bool true), Reg.eqv (.slice (some ⟨b, o, none⟩) n c), Reg.eqv (.int .i64 (k : Int)), Reg.eqv (.pointer (some ⟨b, o + k * 6, none⟩)), Reg.eqv (.pointer (some ⟨b, o + k * 6, none⟩)), Reg.eqv (.string pk), Reg.eqv (.slice (some ⟨b, o, none⟩) n c), Reg.eqv (.int .i64 (k : Int)), Reg.eqv (.int .i64 (j : Int)), Reg.eqv (.pointer (some ⟨b, o + j * 6, none⟩)), Reg.eqv (.pointer (some ⟨b, o + j * 6, none⟩)), Reg.eqv (.string qk), Reg.eqv (.bool true), Reg.eqv (.bool true), Reg.eqv (.bool true)] 44 [[(0, none)], [(3, none)], [(10, some 0), (11, some 1)], [(12, some 2)], [(13, some 3)], [(14, some 4)], [(15, some 5)], [(16, some 6)], [(0, none), (17, some 7)], [(3, none), (17, some 7)], [(18, some 8), (19, some 9), (17, some 7)], [(20, some 10), (17, some 7)], [(21, some 11), (17, some 7)], [(22, some 12), (17, some 7)], [(23, some 13), (17, some 7)], [(17, some 7), (24, some 14)], [(25, some 15)], [(3, none), (26, some 16)], [(27, some 17), (26, some 16)], [(28, some 18), (26, some 16)], [(0, none), (29, some 19)], [(3, none), (29, some 19)], [(30, some 20), (31, some 21), (29, some 19)], [(32, some 22), (29, some 19)], [(33, some 23), (29, some 19)], [(0, none), (29, some 19)], [(3, none), (29, some 19)], [(36, some 26), (29, some 19)], [(35, some 25), (37, some 27), (29, some 19)], [(38, some 28), (29, some 19)], [(39, some 29), (29, some 19)], [(34, some 24), (40, some 30), (29, some 19)], [(29, some 19), (41, some 31), (26, some 16)], [(26, some 16), (42, some 32)]] rfl (by kernel_rfl) (by kernel_rfl) (by kernel_rfl) ?_ [some 10, some 11, some 12, some 13, some 14, some 15, some 16, some 17, some 18, some 19, some 20, some 21, some 22, some 23, some 24, some 25, some 26, some 27, some 28, some 29, some 30, some 31, some 32, some 33, some 34, some 35, some 36, some 37, some 38, some 39, some 40, some 41, some 42, some 43] (by kernel_rfl) ?_
              · refine ⟨?_, ?_, ?_, ?_, ?_, ?_, ?_, ?_, ?_, ?_, ?_, ?_, ?_, ?_, ?_, ?_, ?_, ?_, ?_, ?_, ?_, ?_, ?_, ?_, ?_, ?_, ?_, ?_, ?_, ?_, ?_, ?_, ?_, ?_, trivial⟩
                · intro ax wx hx hs
                  obtain ⟨e0, -⟩ := hs
                  have g0 := Reg.ev (v := .slice (some ⟨b, o, none⟩) n c) e0
                  exact Reg.obl_free rfl (Reg.wp_eqv (Option.some_ne_none _) (by go_simp) rfl)
                · intro ax wx hx hs
                  obtain ⟨e3, -⟩ := hs
                  have g3 := Reg.ev (v := .int .i64 (k : Int)) e3
                  exact Reg.obl_free rfl (Reg.wp_eqv (Option.some_ne_none _) (by go_simp) rfl)
                · intro ax wx hx hs
                  obtain ⟨e10, e11, -⟩ := hs
                  have g10 := Reg.ev (v := .slice (some ⟨b, o, none⟩) n c) e10
                  have g11 := Reg.ev (v := .int .i64 (k : Int)) e11
                  exact Reg.obl_free rfl (Reg.wp_eqv (Option.some_ne_none _) (by go_simp) rfl)
                · intro ax wx hx hs
                  obtain ⟨e12, -⟩ := hs
                  have g12 := Reg.ev (v := .pointer (some ⟨b, o + k * 6, none⟩)) e12
                  exact Reg.obl_free rfl (Reg.wp_eqv (Option.some_ne_none _) (by go_simp) rfl)
                · intro ax wx hx hs
                  obtain ⟨e13, -⟩ := hs
                  have g13 := Reg.ev (v := .pointer (some ⟨b, o + k * 6, none⟩)) e13
                  have hx' : Below wr.heap.size wr wx := hx
                  have lc0 := (hx'.cell (p := ⟨b, o + k * 6, none⟩) hbw).trans c0
                  have lc1 := (hx'.cell (p := ⟨b, o + k * 6 + 1, none⟩) hbw).trans c1
                  have lc2 := (hx'.cell (p := ⟨b, o + k * 6 + 2, none⟩) hbw).trans c2
                  have lc3 := (hx'.cell (p := ⟨b, o + k * 6 + 3, none⟩) hbw).trans c3
                  have lc4 := (hx'.cell (p := ⟨b, o + k * 6 + 4, none⟩) hbw).trans c4
                  have lc5 := (hx'.cell (p := ⟨b, o + k * 6 + 5, none⟩) hbw).trans c5
                  have ld0 := (hx'.cell (p := ⟨b, o + j * 6, none⟩) hbw).trans d0
                  exact Reg.obl_free rfl (Reg.wp_eqv (Option.some_ne_none _) (by go_simp) rfl)
                · intro ax wx hx hs
                  obtain ⟨e14, -⟩ := hs
                  have g14 := Reg.ev (v := .string pk) e14
                  refine Reg.obl_free rfl ?_
                  go_simp
                  refine (Key.right_any pk wx hpk).mono ?_
                  rw [HKR.out]
                  rintro e wy ⟨rfl, rfl⟩
                  exact Reg.done (Option.some_ne_none _) rfl (bsame _)
                · intro ax wx hx hs
                  obtain ⟨e15, -⟩ := hs
                  have g15 := Reg.ev (v := .bool true) e15
                  exact Reg.obl_free rfl (Reg.wp_eqv (Option.some_ne_none _) (by go_simp) rfl)
                · intro ax wx hx hs
                  obtain ⟨e16, -⟩ := hs
                  have g16 := Reg.ev (v := .bool false) e16
                  exact Reg.obl_free rfl (Reg.wp_eqv (Option.some_ne_none _) (by go_simp) rfl)
                · intro ax wx hx hs
                  obtain ⟨e0, e17, -⟩ := hs
                  have g0 := Reg.ev (v := .slice (some ⟨b, o, none⟩) n c) e0
                  have g17 := Reg.ev (v := .bool false) e17
                  exact Reg.obl_want rfl rfl e17 (Reg.wp_eqv (Option.some_ne_none _) (by go_simp) rfl)
                · intro ax wx hx hs
                  obtain ⟨e3, e17, -⟩ := hs
                  have g3 := Reg.ev (v := .int .i64 (k : Int)) e3
                  have g17 := Reg.ev (v := .bool false) e17
                  exact Reg.obl_want rfl rfl e17 (Reg.wp_eqv (Option.some_ne_none _) (by go_simp) rfl)
                · intro ax wx hx hs
                  obtain ⟨e18, e19, e17, -⟩ := hs
                  have g18 := Reg.ev (v := .slice (some ⟨b, o, none⟩) n c) e18
                  have g19 := Reg.ev (v := .int .i64 (k : Int)) e19
                  have g17 := Reg.ev (v := .bool false) e17
                  exact Reg.obl_want rfl rfl e17 (Reg.wp_eqv (Option.some_ne_none _) (by go_simp) rfl)
                · intro ax wx hx hs
                  obtain ⟨e20, e17, -⟩ := hs
                  have g20 := Reg.ev (v := .pointer (some ⟨b, o + k * 6, none⟩)) e20
                  have g17 := Reg.ev (v := .bool false) e17
                  exact Reg.obl_want rfl rfl e17 (Reg.wp_eqv (Option.some_ne_none _) (by go_simp) rfl)
                · intro ax wx hx hs
                  obtain ⟨e21, e17, -⟩ := hs
                  have g21 := Reg.ev (v := .pointer (some ⟨b, o + k * 6 + 1, none⟩)) e21
                  have g17 := Reg.ev (v := .bool false) e17
                  have hx' : Below wr.heap.size wr wx := hx
                  have lc0 := (hx'.cell (p := ⟨b, o + k * 6, none⟩) hbw).trans c0
                  have lc1 := (hx'.cell (p := ⟨b, o + k * 6 + 1, none⟩) hbw).trans c1
                  have lc2 := (hx'.cell (p := ⟨b, o + k * 6 + 2, none⟩) hbw).trans c2
                  have lc3 := (hx'.cell (p := ⟨b, o + k * 6 + 3, none⟩) hbw).trans c3
                  have lc4 := (hx'.cell (p := ⟨b, o + k * 6 + 4, none⟩) hbw).trans c4
                  have lc5 := (hx'.cell (p := ⟨b, o + k * 6 + 5, none⟩) hbw).trans c5
                  have ld0 := (hx'.cell (p := ⟨b, o + j * 6, none⟩) hbw).trans d0
                  exact Reg.obl_want rfl rfl e17 (Reg.wp_eqv (Option.some_ne_none _) (by go_simp) rfl)
                · intro ax wx hx hs
                  obtain ⟨e22, e17, -⟩ := hs
                  have g22 := Reg.ev (v := .agg #[.int .i64 pkd, .slice Ap np cp, .int .i64 plo, .int .i64 phi, .int .i64 pva]) e22
                  have g17 := Reg.ev (v := .bool false) e17
                  refine Reg.obl_want rfl rfl e17 ?_
                  go_simp
                  refine (CellW.right_any Ap np cp ⟨pkd, pda, plo, phi, pva⟩ wx hnp hnm).mono ?_
                  rw [HCR.out]
                  rintro e wy ⟨rfl, hby⟩
                  exact Reg.done (Option.some_ne_none _) rfl hby
                · intro ax wx hx hs
                  obtain ⟨e23, e17, -⟩ := hs
                  have g23 := Reg.ev (v := .bool true) e23
                  have g17 := Reg.ev (v := .bool false) e17
                  exact Reg.obl_want rfl rfl e17 (Reg.wp_eqv (Option.some_ne_none _) (by go_simp) rfl)
                · intro ax wx hx hs
                  obtain ⟨e17, e24, -⟩ := hs
                  have g17 := Reg.ev (v := .bool false) e17
                  have g24 := Reg.ev (v := .bool false) e24
                  exact Reg.obl_free rfl (Reg.wp_eqv (Option.some_ne_none _) (by go_simp) rfl)
                · intro ax wx hx hs
                  obtain ⟨e25, -⟩ := hs
                  have g25 := Reg.ev (v := .bool false) e25
                  exact Reg.obl_free rfl (Reg.wp_eqv (Option.some_ne_none _) (by go_simp) rfl)
                · intro ax wx hx hs
                  obtain ⟨e3, e26, -⟩ := hs
                  have g3 := Reg.ev (v := .int .i64 (k : Int)) e3
                  have g26 := Reg.ev (v := .bool false) e26
                  exact Reg.obl_want rfl rfl e26 (Reg.wp_eqv (Option.some_ne_none _) (by go_simp) rfl)
                · intro ax wx hx hs
                  obtain ⟨e27, e26, -⟩ := hs
                  have g27 := Reg.ev (v := .int .i64 (k : Int)) e27
                  have g26 := Reg.ev (v := .bool false) e26
                  exact Reg.obl_want rfl rfl e26 (Reg.wp_eqv (Option.some_ne_none _) (by go_simp) rfl)
                · intro ax wx hx hs
                  obtain ⟨e28, e26, -⟩ := hs
                  have g28 := Reg.ev (v := .bool true) e28
                  have g26 := Reg.ev (v := .bool false) e26
                  exact Reg.obl_want rfl rfl e26 (Reg.wp_eqv (Option.some_ne_none _) (by go_simp) rfl)
                · intro ax wx hx hs
                  obtain ⟨e0, e29, -⟩ := hs
                  have g0 := Reg.ev (v := .slice (some ⟨b, o, none⟩) n c) e0
                  have g29 := Reg.ev (v := .bool true) e29
                  exact Reg.obl_want rfl rfl e29 (Reg.wp_eqv (Option.some_ne_none _) (by go_simp) rfl)
                · intro ax wx hx hs
                  obtain ⟨e3, e29, -⟩ := hs
                  have g3 := Reg.ev (v := .int .i64 (k : Int)) e3
                  have g29 := Reg.ev (v := .bool true) e29
                  exact Reg.obl_want rfl rfl e29 (Reg.wp_eqv (Option.some_ne_none _) (by go_simp) rfl)
                · intro ax wx hx hs
                  obtain ⟨e30, e31, e29, -⟩ := hs
                  have g30 := Reg.ev (v := .slice (some ⟨b, o, none⟩) n c) e30
                  have g31 := Reg.ev (v := .int .i64 (k : Int)) e31
                  have g29 := Reg.ev (v := .bool true) e29
                  exact Reg.obl_want rfl rfl e29 (Reg.wp_eqv (Option.some_ne_none _) (by go_simp) rfl)
                · intro ax wx hx hs
                  obtain ⟨e32, e29, -⟩ := hs
                  have g32 := Reg.ev (v := .pointer (some ⟨b, o + k * 6, none⟩)) e32
                  have g29 := Reg.ev (v := .bool true) e29
                  exact Reg.obl_want rfl rfl e29 (Reg.wp_eqv (Option.some_ne_none _) (by go_simp) rfl)
                · intro ax wx hx hs
                  obtain ⟨e33, e29, -⟩ := hs
                  have g33 := Reg.ev (v := .pointer (some ⟨b, o + k * 6, none⟩)) e33
                  have g29 := Reg.ev (v := .bool true) e29
                  have hx' : Below wr.heap.size wr wx := hx
                  have lc0 := (hx'.cell (p := ⟨b, o + k * 6, none⟩) hbw).trans c0
                  have lc1 := (hx'.cell (p := ⟨b, o + k * 6 + 1, none⟩) hbw).trans c1
                  have lc2 := (hx'.cell (p := ⟨b, o + k * 6 + 2, none⟩) hbw).trans c2
                  have lc3 := (hx'.cell (p := ⟨b, o + k * 6 + 3, none⟩) hbw).trans c3
                  have lc4 := (hx'.cell (p := ⟨b, o + k * 6 + 4, none⟩) hbw).trans c4
                  have lc5 := (hx'.cell (p := ⟨b, o + k * 6 + 5, none⟩) hbw).trans c5
                  have ld0 := (hx'.cell (p := ⟨b, o + j * 6, none⟩) hbw).trans d0
                  exact Reg.obl_want rfl rfl e29 (Reg.wp_eqv (Option.some_ne_none _) (by go_simp) rfl)
                · intro ax wx hx hs
                  obtain ⟨e0, e29, -⟩ := hs
                  have g0 := Reg.ev (v := .slice (some ⟨b, o, none⟩) n c) e0
                  have g29 := Reg.ev (v := .bool true) e29
                  exact Reg.obl_want rfl rfl e29 (Reg.wp_eqv (Option.some_ne_none _) (by go_simp) rfl)
                · intro ax wx hx hs
                  obtain ⟨e3, e29, -⟩ := hs
                  have g3 := Reg.ev (v := .int .i64 (k : Int)) e3
                  have g29 := Reg.ev (v := .bool true) e29
                  exact Reg.obl_want rfl rfl e29 (Reg.wp_eqv (Option.some_ne_none _) (by go_simp) rfl)
                · intro ax wx hx hs
                  obtain ⟨e36, e29, -⟩ := hs
                  have g36 := Reg.ev (v := .int .i64 (k : Int)) e36
                  have g29 := Reg.ev (v := .bool true) e29
                  exact Reg.obl_want rfl rfl e29 (Reg.wp_eqv (Option.some_ne_none _) (by go_simp) rfl)
                · intro ax wx hx hs
                  obtain ⟨e35, e37, e29, -⟩ := hs
                  have g35 := Reg.ev (v := .slice (some ⟨b, o, none⟩) n c) e35
                  have g37 := Reg.ev (v := .int .i64 (j : Int)) e37
                  have g29 := Reg.ev (v := .bool true) e29
                  exact Reg.obl_want rfl rfl e29 (Reg.wp_eqv (Option.some_ne_none _) (by go_simp) rfl)
                · intro ax wx hx hs
                  obtain ⟨e38, e29, -⟩ := hs
                  have g38 := Reg.ev (v := .pointer (some ⟨b, o + j * 6, none⟩)) e38
                  have g29 := Reg.ev (v := .bool true) e29
                  exact Reg.obl_want rfl rfl e29 (Reg.wp_eqv (Option.some_ne_none _) (by go_simp) rfl)
                · intro ax wx hx hs
                  obtain ⟨e39, e29, -⟩ := hs
                  have g39 := Reg.ev (v := .pointer (some ⟨b, o + j * 6, none⟩)) e39
                  have g29 := Reg.ev (v := .bool true) e29
                  have hx' : Below wr.heap.size wr wx := hx
                  have lc0 := (hx'.cell (p := ⟨b, o + k * 6, none⟩) hbw).trans c0
                  have lc1 := (hx'.cell (p := ⟨b, o + k * 6 + 1, none⟩) hbw).trans c1
                  have lc2 := (hx'.cell (p := ⟨b, o + k * 6 + 2, none⟩) hbw).trans c2
                  have lc3 := (hx'.cell (p := ⟨b, o + k * 6 + 3, none⟩) hbw).trans c3
                  have lc4 := (hx'.cell (p := ⟨b, o + k * 6 + 4, none⟩) hbw).trans c4
                  have lc5 := (hx'.cell (p := ⟨b, o + k * 6 + 5, none⟩) hbw).trans c5
                  have ld0 := (hx'.cell (p := ⟨b, o + j * 6, none⟩) hbw).trans d0
                  exact Reg.obl_want rfl rfl e29 (Reg.wp_eqv (Option.some_ne_none _) (by go_simp) rfl)
                · intro ax wx hx hs
                  obtain ⟨e34, e40, e29, -⟩ := hs
                  have g34 := Reg.ev (v := .string pk) e34
                  have g40 := Reg.ev (v := .string qk) e40
                  have g29 := Reg.ev (v := .bool true) e29
                  exact Reg.obl_want rfl rfl e29 (Reg.wp_eqv (Option.some_ne_none _) (by go_simp) rfl)
                · intro ax wx hx hs
                  obtain ⟨e29, e41, e26, -⟩ := hs
                  have g29 := Reg.ev (v := .bool true) e29
                  have g41 := Reg.ev (v := .bool true) e41
                  have g26 := Reg.ev (v := .bool false) e26
                  exact Reg.obl_want rfl rfl e26 (Reg.wp_eqv (Option.some_ne_none _) (by go_simp) rfl)
                · intro ax wx hx hs
                  obtain ⟨e26, e42, -⟩ := hs
                  have g26 := Reg.ev (v := .bool false) e26
                  have g42 := Reg.ev (v := .bool true) e42
                  exact Reg.obl_free rfl (Reg.wp_eqv (Option.some_ne_none _) (by go_simp) rfl)
              · intro W2 hwf
                simp only [Reg.Fin]
                rintro _ rfl _ rfl _ rfl _ rfl _ rfl _ rfl _ rfl _ rfl _ rfl _ rfl _ rfl _ rfl _ rfl _ rfl _ rfl _ rfl _ rfl _ rfl _ rfl _ rfl _ rfl _ rfl _ rfl _ rfl _ rfl _ rfl _ rfl _ rfl _ rfl _ rfl _ rfl _ rfl _ rfl _ rfl
                go_simp
                have HB1 := Lib.hid (bstep HK.out.1 (show Below wr.heap.size wr W2 from hwf))
                clear hwf
                have HE := Lib.hid (ModelP.wrong_to HQ.out (by rw [← HJ.out]; exact HP.out) HLQ.out)
                go_wp2
                go_ret
                exact ⟨by rw [HE.out]; rfl, HB1.out⟩
        · replace hcr : CellP.right ⟨pkd, pda, plo, phi, pva⟩ = false := by simpa using hcr
          have HCR := Lib.hid hcr
          have HE := Lib.hid (ModelP.wrong_at HP.out (fun hok => by have := hok.2; dsimp only at this; rw [hcr] at this; cases this))
          clear hkr hcr
          go_wp2
          refine Reg.wp_region_vals (R := ext) (W := wr) [Reg.eqv (.slice (some ⟨b, o, none⟩) n c), Reg.eqv (.int .i64 (k : Int)), Reg.eqv (.pointer (some ⟨b, o + k * 6, none⟩)), Reg.eqv (.pointer (some ⟨b, o + k * 6, none⟩)), Reg.eqv (.string pk), Reg.eqv (.bool true), Reg.eqv (.bool false), Reg.eqv (.bool false), Reg.eqv (.slice (some ⟨b, o, none⟩) n c), Reg.eqv (.int .i64 (k : Int)), Reg.eqv (.pointer (some ⟨b, o + k * 6, none⟩)), Reg.eqv (.pointer (some ⟨b, o + k * 6 + 1, none⟩)), Reg.eqv (.agg #[.int .i64 pkd, .slice Ap np cp, .int .i64 plo, .int .i64 phi, .int .i64 pva]), Reg.eqv (.bool false), Reg.eqv (.bool true), Reg.eqv (.bool true), Reg.eqv (.bool true), Reg.eqv undef, Reg.eqv undef, Reg.eqv undef, Reg.eqv undef, Reg.eqv undef, Reg.eqv undef, Reg.eqv undef, Reg.eqv undef, Reg.eqv undef, Reg.eqv undef, Reg.eqv undef, Reg.eqv undef, Reg.eqv undef, Reg.eqv undef, Reg.eqv undef, Reg.eqv undef, Reg.eqv (.bool true)] 44 [[(0, none)], [(3, none)], [(10, some 0), (11, some 1)], [(12, some 2)], [(13, some 3)], [(14, some 4)], [(15, some 5)], [(16, some 6)], [(0, none), (17, some 7)], [(3, none), (17, some 7)], [(18, some 8), (19, some 9), (17, some 7)], [(20, some 10), (17, some 7)], [(21, some 11), (17, some 7)], [(22, some 12), (17, some 7)], [(23, some 13), (17, some 7)], [(17, some 7), (24, some 14)], [(25, some 15)], [(3, none), (26, some 16)], [(27, some 17), (26, some 16)], [(28, some 18), (26, some 16)], [(0, none), (29, some 19)], [(3, none), (29, some 19)], [(30, some 20), (31, some 21), (29, some 19)], [(32, some 22), (29, some 19)], [(33, some 23), (29, some 19)], [(0, none), (29, some 19)], [(3, none), (29, some 19)], [(36, some 26), (29, some 19)], [(35, some 25), (37, some 27), (29, some 19)], [(38, some 28), (29, some 19)], [(39, some 29), (29, some 19)], [(34, some 24), (40, some 30), (29, some 19)], [(29, some 19), (41, some 31), (26, some 16)], [(26, some 16), (42, some 32)]] rfl (by kernel_rfl) (by kernel_rfl) (by kernel_rfl) ?_ [some 10, some 11, some 12, some 13, some 14, some 15, some 16, some 17, some 18, some 19, some 20, some 21, some 22, some 23, some 24, some 25, some 26, some 27, some 28, some 29, some 30, some 31, some 32, some 33, some 34, some 35, some 36, some 37, some 38, some 39, some 40, some 41, some 42, some 43] (by kernel_rfl) ?_
          · refine ⟨?_, ?_, ?_, ?_, ?_, ?_, ?_, ?_, ?_, ?_, ?_, ?_, ?_, ?_, ?_, ?_, ?_, ?_, ?_, ?_, ?_, ?_, ?_, ?_, ?_, ?_, ?_, ?_, ?_, ?_, ?_, ?_, ?_, ?_, trivial⟩
            · intro ax wx hx hs
              obtain ⟨e0, -⟩ := hs
              have g0 := Reg.ev (v := .slice (some ⟨b, o, none⟩) n c) e0
              exact Reg.obl_free rfl (Reg.wp_eqv (Option.some_ne_none _) (by go_simp) rfl)
            · intro ax wx hx hs
              obtain ⟨e3, -⟩ := hs
              have g3 := Reg.ev (v := .int .i64 (k : Int)) e3
              exact Reg.obl_free rfl (Reg.wp_eqv (Option.some_ne_none _) (by go_simp) rfl)
            · intro ax wx hx hs
              obtain ⟨e10, e11, -⟩ := hs
              have g10 := Reg.ev (v := .slice (some ⟨b, o, none⟩) n c) e10
              have g11 := Reg.ev (v := .int .i64 (k : Int)) e11
              exact Reg.obl_free rfl (Reg.wp_eqv (Option.some_ne_none _) (by go_simp) rfl)
            · intro ax wx hx hs
              obtain ⟨e12, -⟩ := hs
              have g12 := Reg.ev (v := .pointer (some ⟨b, o + k * 6, none⟩)) e12
              exact Reg.obl_free rfl (Reg.wp_eqv (Option.some_ne_none _) (by go_simp) rfl)
            · intro ax wx hx hs
              obtain ⟨e13, -⟩ := hs
              have g13 := Reg.ev (v := .pointer (some ⟨b, o + k * 6, none⟩)) e13
              have hx' : Below wr.heap.size wr wx := hx
              have lc0 := (hx'.cell (p := ⟨b, o + k * 6, none⟩) hbw).trans c0
              have lc1 := (hx'.cell (p := ⟨b, o + k * 6 + 1, none⟩) hbw).trans c1
              have lc2 := (hx'.cell (p := ⟨b, o + k * 6 + 2, none⟩) hbw).trans c2
              have lc3 := (hx'.cell (p := ⟨b, o + k * 6 + 3, none⟩) hbw).trans c3
              have lc4 := (hx'.cell (p := ⟨b, o + k * 6 + 4, none⟩) hbw).trans c4
              have lc5 := (hx'.cell (p := ⟨b, o + k * 6 + 5, none⟩) hbw).trans c5
              exact Reg.obl_free rfl (Reg.wp_eqv (Option.some_ne_none _) (by go_simp) rfl)
            · intro ax wx hx hs
              obtain ⟨e14, -⟩ := hs
              have g14 := Reg.ev (v := .string pk) e14
              refine Reg.obl_free rfl ?_
              go_simp
              refine (Key.right_any pk wx hpk).mono ?_
              rw [HKR.out]
              rintro e wy ⟨rfl, rfl⟩
              exact Reg.done (Option.some_ne_none _) rfl (bsame _)
            · intro ax wx hx hs
              obtain ⟨e15, -⟩ := hs
              have g15 := Reg.ev (v := .bool true) e15
              exact Reg.obl_free rfl (Reg.wp_eqv (Option.some_ne_none _) (by go_simp) rfl)
            · intro ax wx hx hs
              obtain ⟨e16, -⟩ := hs
              have g16 := Reg.ev (v := .bool false) e16
              exact Reg.obl_free rfl (Reg.wp_eqv (Option.some_ne_none _) (by go_simp) rfl)
            · intro ax wx hx hs
              obtain ⟨e0, e17, -⟩ := hs
              have g0 := Reg.ev (v := .slice (some ⟨b, o, none⟩) n c) e0
              have g17 := Reg.ev (v := .bool false) e17
              exact Reg.obl_want rfl rfl e17 (Reg.wp_eqv (Option.some_ne_none _) (by go_simp) rfl)
            · intro ax wx hx hs
              obtain ⟨e3, e17, -⟩ := hs
              have g3 := Reg.ev (v := .int .i64 (k : Int)) e3
              have g17 := Reg.ev (v := .bool false) e17
              exact Reg.obl_want rfl rfl e17 (Reg.wp_eqv (Option.some_ne_none _) (by go_simp) rfl)
            · intro ax wx hx hs
              obtain ⟨e18, e19, e17, -⟩ := hs
              have g18 := Reg.ev (v := .slice (some ⟨b, o, none⟩) n c) e18
              have g19 := Reg.ev (v := .int .i64 (k : Int)) e19
              have g17 := Reg.ev (v := .bool false) e17
              exact Reg.obl_want rfl rfl e17 (Reg.wp_eqv (Option.some_ne_none _) (by go_simp) rfl)
            · intro ax wx hx hs
              obtain ⟨e20, e17, -⟩ := hs
              have g20 := Reg.ev (v := .pointer (some ⟨b, o + k * 6, none⟩)) e20
              have g17 := Reg.ev (v := .bool false) e17
              exact Reg.obl_want rfl rfl e17 (Reg.wp_eqv (Option.some_ne_none _) (by go_simp) rfl)
            · intro ax wx hx hs
              obtain ⟨e21, e17, -⟩ := hs
              have g21 := Reg.ev (v := .pointer (some ⟨b, o + k * 6 + 1, none⟩)) e21
              have g17 := Reg.ev (v := .bool false) e17
              have hx' : Below wr.heap.size wr wx := hx
              have lc0 := (hx'.cell (p := ⟨b, o + k * 6, none⟩) hbw).trans c0
              have lc1 := (hx'.cell (p := ⟨b, o + k * 6 + 1, none⟩) hbw).trans c1
              have lc2 := (hx'.cell (p := ⟨b, o + k * 6 + 2, none⟩) hbw).trans c2
              have lc3 := (hx'.cell (p := ⟨b, o + k * 6 + 3, none⟩) hbw).trans c3
              have lc4 := (hx'.cell (p := ⟨b, o + k * 6 + 4, none⟩) hbw).trans c4
              have lc5 := (hx'.cell (p := ⟨b, o + k * 6 + 5, none⟩) hbw).trans c5
              exact Reg.obl_want rfl rfl e17 (Reg.wp_eqv (Option.some_ne_none _) (by go_simp) rfl)
            · intro ax wx hx hs
              obtain ⟨e22, e17, -⟩ := hs
              have g22 := Reg.ev (v := .agg #[.int .i64 pkd, .slice Ap np cp, .int .i64 plo, .int .i64 phi, .int .i64 pva]) e22
              have g17 := Reg.ev (v := .bool false) e17
              refine Reg.obl_want rfl rfl e17 ?_
              go_simp
              refine (CellW.right_any Ap np cp ⟨pkd, pda, plo, phi, pva⟩ wx hnp hnm).mono ?_
              rw [HCR.out]
              rintro e wy ⟨rfl, hby⟩
              exact Reg.done (Option.some_ne_none _) rfl hby
            · intro ax wx hx hs
              obtain ⟨e23, e17, -⟩ := hs
              have g23 := Reg.ev (v := .bool false) e23
              have g17 := Reg.ev (v := .bool false) e17
              exact Reg.obl_want rfl rfl e17 (Reg.wp_eqv (Option.some_ne_none _) (by go_simp) rfl)
            · intro ax wx hx hs
              obtain ⟨e17, e24, -⟩ := hs
              have g17 := Reg.ev (v := .bool false) e17
              have g24 := Reg.ev (v := .bool true) e24
              exact Reg.obl_free rfl (Reg.wp_eqv (Option.some_ne_none _) (by go_simp) rfl)
            · intro ax wx hx hs
              obtain ⟨e25, -⟩ := hs
              have g25 := Reg.ev (v := .bool true) e25
              exact Reg.obl_free rfl (Reg.wp_eqv (Option.some_ne_none _) (by go_simp) rfl)
            · intro ax wx hx hs
              obtain ⟨e3, e26, -⟩ := hs
              have g3 := Reg.ev (v := .int .i64 (k : Int)) e3
              have g26 := Reg.ev (v := .bool true) e26
              exact Reg.obl_skip rfl rfl e26 rfl rfl
            · intro ax wx hx hs
              obtain ⟨e27, e26, -⟩ := hs
              have g27 := Reg.ev (v := undef) e27
              have g26 := Reg.ev (v := .bool true) e26
              exact Reg.obl_skip rfl rfl e26 rfl rfl
            · intro ax wx hx hs
              obtain ⟨e28, e26, -⟩ := hs
              have g28 := Reg.ev (v := undef) e28
              have g26 := Reg.ev (v := .bool true) e26
              exact Reg.obl_skip rfl rfl e26 rfl rfl
            · intro ax wx hx hs
              obtain ⟨e0, e29, -⟩ := hs
              have g0 := Reg.ev (v := .slice (some ⟨b, o, none⟩) n c) e0
              have g29 := Reg.ev (v := undef) e29
              exact Reg.obl_skipU rfl rfl e29 rfl
            · intro ax wx hx hs
              obtain ⟨e3, e29, -⟩ := hs
              have g3 := Reg.ev (v := .int .i64 (k : Int)) e3
              have g29 := Reg.ev (v := undef) e29
              exact Reg.obl_skipU rfl rfl e29 rfl
            · intro ax wx hx hs
              obtain ⟨e30, e31, e29, -⟩ := hs
              have g30 := Reg.ev (v := undef) e30
              have g31 := Reg.ev (v := undef) e31
              have g29 := Reg.ev (v := undef) e29
              exact Reg.obl_skipU rfl rfl e29 rfl
            · intro ax wx hx hs
              obtain ⟨e32, e29, -⟩ := hs
              have g32 := Reg.ev (v := undef) e32
              have g29 := Reg.ev (v := undef) e29
              exact Reg.obl_skipU rfl rfl e29 rfl
            · intro ax wx hx hs
              obtain ⟨e33, e29, -⟩ := hs
              have g33 := Reg.ev (v := undef) e33
              have g29 := Reg.ev (v := undef) e29
              exact Reg.obl_skipU rfl rfl e29 rfl
            · intro ax wx hx hs
              obtain ⟨e0, e29, -⟩ := hs
              have g0 := Reg.ev (v := .slice (some ⟨b, o, none⟩) n c) e0
              have g29 := Reg.ev (v := undef) e29
              exact Reg.obl_skipU rfl rfl e29 rfl
            · intro ax wx hx hs
              obtain ⟨e3, e29, -⟩ := hs
              have g3 := Reg.ev (v := .int .i64 (k : Int)) e3
              have g29 := Reg.ev (v := undef) e29
              exact Reg.obl_skipU rfl rfl e29 rfl
            · intro ax wx hx hs
              obtain ⟨e36, e29, -⟩ := hs
              have g36 := Reg.ev (v := undef) e36
              have g29 := Reg.ev (v := undef) e29
              exact Reg.obl_skipU rfl rfl e29 rfl
            · intro ax wx hx hs
              obtain ⟨e35, e37, e29, -⟩ := hs
              have g35 := Reg.ev (v := undef) e35
              have g37 := Reg.ev (v := undef) e37
              have g29 := Reg.ev (v := undef) e29
              exact Reg.obl_skipU rfl rfl e29 rfl
            · intro ax wx hx hs
              obtain ⟨e38, e29, -⟩ := hs
              have g38 := Reg.ev (v := undef) e38
              have g29 := Reg.ev (v := undef) e29
              exact Reg.obl_skipU rfl rfl e29 rfl
            · intro ax wx hx hs
              obtain ⟨e39, e29, -⟩ := hs
              have g39 := Reg.ev (v := undef) e39
              have g29 := Reg.ev (v := undef) e29
              exact Reg.obl_skipU rfl rfl e29 rfl
            · intro ax wx hx hs
              obtain ⟨e34, e40, e29, -⟩ := hs
              have g34 := Reg.ev (v := undef) e34
              have g40 := Reg.ev (v := undef) e40
              have g29 := Reg.ev (v := undef) e29
              exact Reg.obl_skipU rfl rfl e29 rfl
            · intro ax wx hx hs
              obtain ⟨e29, e41, e26, -⟩ := hs
              have g29 := Reg.ev (v := undef) e29
              have g41 := Reg.ev (v := undef) e41
              have g26 := Reg.ev (v := .bool true) e26
              exact Reg.obl_skip rfl rfl e26 rfl rfl
            · intro ax wx hx hs
              obtain ⟨e26, e42, -⟩ := hs
              have g26 := Reg.ev (v := .bool true) e26
              have g42 := Reg.ev (v := undef) e42
              exact Reg.obl_free rfl (Reg.wp_eqv (Option.some_ne_none _) (by go_simp) rfl)
          · intro W2 hwf
            simp only [Reg.Fin]
            rintro _ rfl _ rfl _ rfl _ rfl _ rfl _ rfl _ rfl _ rfl _ rfl _ rfl _ rfl _ rfl _ rfl _ rfl _ rfl _ rfl _ rfl _ rfl _ rfl _ rfl _ rfl _ rfl _ rfl _ rfl _ rfl _ rfl _ rfl _ rfl _ rfl _ rfl _ rfl _ rfl _ rfl _ rfl
            go_simp
            have HB1 := Lib.hid (bstep HK.out.1 (show Below wr.heap.size wr W2 from hwf))
            clear hwf
            go_wp2
            go_ret
            exact ⟨by rw [HE.out]; rfl, HB1.out⟩
      · replace hkr : KeyP.right pk.data.toList = false := by simpa using hkr
        have HKR := Lib.hid hkr
        have HE := Lib.hid (ModelP.wrong_at HP.out (fun hok => by have := hok.1; dsimp only at this; rw [hkr] at this; cases this))
        clear hkr
        go_wp2
        refine Reg.wp_region_vals (R := ext) (W := wr) [Reg.eqv (.slice (some ⟨b, o, none⟩) n c), Reg.eqv (.int .i64 (k : Int)), Reg.eqv (.pointer (some ⟨b, o + k * 6, none⟩)), Reg.eqv (.pointer (some ⟨b, o + k * 6, none⟩)), Reg.eqv (.string pk), Reg.eqv (.bool false), Reg.eqv (.bool true), Reg.eqv (.bool true), Reg.eqv undef, Reg.eqv undef, Reg.eqv undef, Reg.eqv undef, Reg.eqv undef, Reg.eqv undef, Reg.eqv undef, Reg.eqv (.bool true), Reg.eqv (.bool true), Reg.eqv undef, Reg.eqv undef, Reg.eqv undef, Reg.eqv undef, Reg.eqv undef, Reg.eqv undef, Reg.eqv undef, Reg.eqv undef, Reg.eqv undef, Reg.eqv undef, Reg.eqv undef, Reg.eqv undef, Reg.eqv undef, Reg.eqv undef, Reg.eqv undef, Reg.eqv undef, Reg.eqv (.bool true)] 44 [[(0, none)], [(3, none)], [(10, some 0), (11, some 1)], [(12, some 2)], [(13, some 3)], [(14, some 4)], [(15, some 5)], [(16, some 6)], [(0, none), (17, some 7)], [(3, none), (17, some 7)], [(18, some 8), (19, some 9), (17, some 7)], [(20, some 10), (17, some 7)], [(21, some 11), (17, some 7)], [(22, some 12), (17, some 7)], [(23, some 13), (17, some 7)], [(17, some 7), (24, some 14)], [(25, some 15)], [(3, none), (26, some 16)], [(27, some 17), (26, some 16)], [(28, some 18), (26, some 16)], [(0, none), (29, some 19)], [(3, none), (29, some 19)], [(30, some 20), (31, some 21), (29, some 19)], [(32, some 22), (29, some 19)], [(33, some 23), (29, some 19)], [(0, none), (29, some 19)], [(3, none), (29, some 19)], [(36, some 26), (29, some 19)], [(35, some 25), (37, some 27), (29, some 19)], [(38, some 28), (29, some 19)], [(39, some 29), (29, some 19)], [(34, some 24), (40, some 30), (29, some 19)], [(29, some 19), (41, some 31), (26, some 16)], [(26, some 16), (42, some 32)]] rfl (by kernel_rfl) (by kernel_rfl) (by kernel_rfl) ?_ [some 10, some 11, some 12, some 13, some 14, some 15, some 16, some 17, some 18, some 19, some 20, some 21, some 22, some 23, some 24, some 25, some 26, some 27, some 28, some 29, some 30, some 31, some 32, some 33, some 34, some 35, some 36, some 37, some 38, some 39, some 40, some 41, some 42, some 43] (by kernel_rfl) ?_
        · refine ⟨?_, ?_, ?_, ?_, ?_, ?_, ?_, ?_, ?_, ?_, ?_, ?_, ?_, ?_, ?_, ?_, ?_, ?_, ?_, ?_, ?_, ?_, ?_, ?_, ?_, ?_, ?_, ?_, ?_, ?_, ?_, ?_, ?_, ?_, trivial⟩
          · intro ax wx hx hs
            obtain ⟨e0, -⟩ := hs
            have g0 := Reg.ev (v := .slice (some ⟨b, o, none⟩) n c) e0
            exact Reg.obl_free rfl (Reg.wp_eqv (Option.some_ne_none _) (by go_simp) rfl)
          · intro ax wx hx hs
            obtain ⟨e3, -⟩ := hs
            have g3 := Reg.ev (v := .int .i64 (k : Int)) e3
            exact Reg.obl_free rfl (Reg.wp_eqv (Option.some_ne_none _) (by go_simp) rfl)
          · intro ax wx hx hs
            obtain ⟨e10, e11, -⟩ := hs
            have g10 := Reg.ev (v := .slice (some ⟨b, o, none⟩) n c) e10
            have g11 := Reg.ev (v := .int .i64 (k : Int)) e11
            exact Reg.obl_free rfl (Reg.wp_eqv (Option.some_ne_none _) (by go_simp) rfl)
          · intro ax wx hx hs
            obtain ⟨e12, -⟩ := hs
            have g12 := Reg.ev (v := .pointer (some ⟨b, o + k * 6, none⟩)) e12
            exact Reg.obl_free rfl (Reg.wp_eqv (Option.some_ne_none _) (by go_simp) rfl)
          · intro ax wx hx hs
            obtain ⟨e13, -⟩ := hs
            have g13 := Reg.ev (v := .pointer (some ⟨b, o + k * 6, none⟩)) e13
            have hx' : Below wr.heap.size wr wx := hx
            have lc0 := (hx'.cell (p := ⟨b, o + k * 6, none⟩) hbw).trans c0
            have lc1 := (hx'.cell (p := ⟨b, o + k * 6 + 1, none⟩) hbw).trans c1
            have lc2 := (hx'.cell (p := ⟨b, o + k * 6 + 2, none⟩) hbw).trans c2
            have lc3 := (hx'.cell (p := ⟨b, o + k * 6 + 3, none⟩) hbw).trans c3
            have lc4 := (hx'.cell (p := ⟨b, o + k * 6 + 4, none⟩) hbw).trans c4
            have lc5 := (hx'.cell (p := ⟨b, o + k * 6 + 5, none⟩) hbw).trans c5
            exact Reg.obl_free rfl (Reg.wp_eqv (Option.some_ne_none _) (by go_simp) rfl)
          · intro ax wx hx hs
            obtain ⟨e14, -⟩ := hs
            have g14 := Reg.ev (v := .string pk) e14
            refine Reg.obl_free rfl ?_
            go_simp
            refine (Key.right_any pk wx hpk).mono ?_
            rw [HKR.out]
            rintro e wy ⟨rfl, rfl⟩
            exact Reg.done (Option.some_ne_none _) rfl (bsame _)
          · intro ax wx hx hs
            obtain ⟨e15, -⟩ := hs
            have g15 := Reg.ev (v := .bool false) e15
            exact Reg.obl_free rfl (Reg.wp_eqv (Option.some_ne_none _) (by go_simp) rfl)
          · intro ax wx hx hs
            obtain ⟨e16, -⟩ := hs
            have g16 := Reg.ev (v := .bool true) e16
            exact Reg.obl_free rfl (Reg.wp_eqv (Option.some_ne_none _) (by go_simp) rfl)
          · intro ax wx hx hs
            obtain ⟨e0, e17, -⟩ := hs
            have g0 := Reg.ev (v := .slice (some ⟨b, o, none⟩) n c) e0
            have g17 := Reg.ev (v := .bool true) e17
            exact Reg.obl_skip rfl rfl e17 rfl rfl
          · intro ax wx hx hs
            obtain ⟨e3, e17, -⟩ := hs
            have g3 := Reg.ev (v := .int .i64 (k : Int)) e3
            have g17 := Reg.ev (v := .bool true) e17
            exact Reg.obl_skip rfl rfl e17 rfl rfl
          · intro ax wx hx hs
            obtain ⟨e18, e19, e17, -⟩ := hs
            have g18 := Reg.ev (v := undef) e18
            have g19 := Reg.ev (v := undef) e19
            have g17 := Reg.ev (v := .bool true) e17
            exact Reg.obl_skip rfl rfl e17 rfl rfl
          · intro ax wx hx hs
            obtain ⟨e20, e17, -⟩ := hs
            have g20 := Reg.ev (v := undef) e20
            have g17 := Reg.ev (v := .bool true) e17
            exact Reg.obl_skip rfl rfl e17 rfl rfl
          · intro ax wx hx hs
            obtain ⟨e21, e17, -⟩ := hs
            have g21 := Reg.ev (v := undef) e21
            have g17 := Reg.ev (v := .bool true) e17
            exact Reg.obl_skip rfl rfl e17 rfl rfl
          · intro ax wx hx hs
            obtain ⟨e22, e17, -⟩ := hs
            have g22 := Reg.ev (v := undef) e22
            have g17 := Reg.ev (v := .bool true) e17
            exact Reg.obl_skip rfl rfl e17 rfl rfl
          · intro ax wx hx hs
            obtain ⟨e23, e17, -⟩ := hs
            have g23 := Reg.ev (v := undef) e23
            have g17 := Reg.ev (v := .bool true) e17
            exact Reg.obl_skip rfl rfl e17 rfl rfl
          · intro ax wx hx hs
            obtain ⟨e17, e24, -⟩ := hs
            have g17 := Reg.ev (v := .bool true) e17
            have g24 := Reg.ev (v := undef) e24
            exact Reg.obl_free rfl (Reg.wp_eqv (Option.some_ne_none _) (by go_simp) rfl)
          · intro ax wx hx hs
            obtain ⟨e25, -⟩ := hs
            have g25 := Reg.ev (v := .bool true) e25
            exact Reg.obl_free rfl (Reg.wp_eqv (Option.some_ne_none _) (by go_simp) rfl)
          · intro ax wx hx hs
            obtain ⟨e3, e26, -⟩ := hs
            have g3 := Reg.ev (v := .int .i64 (k : Int)) e3
            have g26 := Reg.ev (v := .bool true) e26
            exact Reg.obl_skip rfl rfl e26 rfl rfl
          · intro ax wx hx hs
            obtain ⟨e27, e26, -⟩ := hs
            have g27 := Reg.ev (v := undef) e27
            have g26 := Reg.ev (v := .bool true) e26
            exact Reg.obl_skip rfl rfl e26 rfl rfl
          · intro ax wx hx hs
            obtain ⟨e28, e26, -⟩ := hs
            have g28 := Reg.ev (v := undef) e28
            have g26 := Reg.ev (v := .bool true) e26
            exact Reg.obl_skip rfl rfl e26 rfl rfl
          · intro ax wx hx hs
            obtain ⟨e0, e29, -⟩ := hs
            have g0 := Reg.ev (v := .slice (some ⟨b, o, none⟩) n c) e0
            have g29 := Reg.ev (v := undef) e29
            exact Reg.obl_skipU rfl rfl e29 rfl
          · intro ax wx hx hs
            obtain ⟨e3, e29, -⟩ := hs
            have g3 := Reg.ev (v := .int .i64 (k : Int)) e3
            have g29 := Reg.ev (v := undef) e29
            exact Reg.obl_skipU rfl rfl e29 rfl
          · intro ax wx hx hs
            obtain ⟨e30, e31, e29, -⟩ := hs
            have g30 := Reg.ev (v := undef) e30
            have g31 := Reg.ev (v := undef) e31
            have g29 := Reg.ev (v := undef) e29
            exact Reg.obl_skipU rfl rfl e29 rfl
          · intro ax wx hx hs
            obtain ⟨e32, e29, -⟩ := hs
            have g32 := Reg.ev (v := undef) e32
            have g29 := Reg.ev (v := undef) e29
            exact Reg.obl_skipU rfl rfl e29 rfl
          · intro ax wx hx hs
            obtain ⟨e33, e29, -⟩ := hs
            have g33 := Reg.ev (v := undef) e33
            have g29 := Reg.ev (v := undef) e29
            exact Reg.obl_skipU rfl rfl e29 rfl
          · intro ax wx hx hs
            obtain ⟨e0, e29, -⟩ := hs
            have g0 := Reg.ev (v := .slice (some ⟨b, o, none⟩) n c) e0
            have g29 := Reg.ev (v := undef) e29
            exact Reg.obl_skipU rfl rfl e29 rfl
          · intro ax wx hx hs
            obtain ⟨e3, e29, -⟩ := hs
            have g3 := Reg.ev (v := .int .i64 (k : Int)) e3
            have g29 := Reg.ev (v := undef) e29
            exact Reg.obl_skipU rfl rfl e29 rfl
          · intro ax wx hx hs
            obtain ⟨e36, e29, -⟩ := hs
            have g36 := Reg.ev (v := undef) e36
            have g29 := Reg.ev (v := undef) e29
            exact Reg.obl_skipU rfl rfl e29 rfl
          · intro ax wx hx hs
            obtain ⟨e35, e37, e29, -⟩ := hs
            have g35 := Reg.ev (v := undef) e35
            have g37 := Reg.ev (v := undef) e37
            have g29 := Reg.ev (v := undef) e29
            exact Reg.obl_skipU rfl rfl e29 rfl
          · intro ax wx hx hs
            obtain ⟨e38, e29, -⟩ := hs
            have g38 := Reg.ev (v := undef) e38
            have g29 := Reg.ev (v := undef) e29
            exact Reg.obl_skipU rfl rfl e29 rfl
          · intro ax wx hx hs
            obtain ⟨e39, e29, -⟩ := hs
            have g39 := Reg.ev (v := undef) e39
            have g29 := Reg.ev (v := undef) e29
            exact Reg.obl_skipU rfl rfl e29 rfl
          · intro ax wx hx hs
            obtain ⟨e34, e40, e29, -⟩ := hs
            have g34 := Reg.ev (v := undef) e34
            have g40 := Reg.ev (v := undef) e40
            have g29 := Reg.ev (v := undef) e29
            exact Reg.obl_skipU rfl rfl e29 rfl
          · intro ax wx hx hs
            obtain ⟨e29, e41, e26, -⟩ := hs
            have g29 := Reg.ev (v := undef) e29
            have g41 := Reg.ev (v := undef) e41
            have g26 := Reg.ev (v := .bool true) e26
            exact Reg.obl_skip rfl rfl e26 rfl rfl
          · intro ax wx hx hs
            obtain ⟨e26, e42, -⟩ := hs
            have g26 := Reg.ev (v := .bool true) e26
            have g42 := Reg.ev (v := undef) e42
            exact Reg.obl_free rfl (Reg.wp_eqv (Option.some_ne_none _) (by go_simp) rfl)
        · intro W2 hwf
          simp only [Reg.Fin]
          rintro _ rfl _ rfl _ rfl _ rfl _ rfl _ rfl _ rfl _ rfl _ rfl _ rfl _ rfl _ rfl _ rfl _ rfl _ rfl _ rfl _ rfl _ rfl _ rfl _ rfl _ rfl _ rfl _ rfl _ rfl _ rfl _ rfl _ rfl _ rfl _ rfl _ rfl _ rfl _ rfl _ rfl _ rfl
          go_simp
          have HB1 := Lib.hid (bstep HK.out.1 (show Below wr.heap.size wr W2 from hwf))
          clear hwf
          go_wp2
          go_ret
          exact ⟨by rw [HE.out]; rfl, HB1.out⟩
    · have hk' : k = n := by omega
      subst hk'
      have HE := Lib.hid (ModelP.right_of (s := l) (fun j p h1 => HK.out.2.1 j p (by rw [← HL.out]; exact (List.getElem?_eq_some_iff.1 h1).1) h1) (fun j p q h1 h2 => HK.out.2.2 j p q (by rw [← HL.out]; exact (List.getElem?_eq_some_iff.1 h2).1) h1 h2))
      go_wp2
      go_ret
      exact ⟨by rw [HE.out]; rfl, HK.out.1⟩
end Go.Proofs.Ytghgccgpgonlmaa.ModelW
