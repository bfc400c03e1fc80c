/-
  model.Right: whether a list of pairs is a state.
-/
import Derived.Test.YtghgccgpgonlmaaRefModelB
namespace Go.Proofs.Ytghgccgpgonlmaa.ModelW
open Go.RowKit
set_option linter.unusedVariables false
set_option maxRecDepth 100000 in
set_option maxHeartbeats 1000000 in
theorem Right_any (A : Option Addr) (n c B : Nat) (l : List Pair) (w : World) (h : Pairs w B A n c l) (hB : B ≤ w.heap.size) (hn : n ≤ 100000) :
    Calls Try.prog 26 #[.slice A n c] w fun e w' => e = .returned (.bool (ModelP.rightB l)) ∧ Below w.heap.size w w' := by
  have H := Lib.hid h
  have HL := Lib.hid h.len
  clear h
  go_enter Try.func26, Try.ntmps26
  go_wp2
  go_loopw [7] (fun i wr => ∃ k : Nat, k ≤ n ∧ i = .int .i64 (k : Int) ∧ Hid (Below w.heap.size w wr ∧ (∀ (j : Nat) p, j < k → l[j]? = some p → ModelP.okP p) ∧ ∀ (j : Nat) p q, j + 1 < k → l[j]? = some p → l[j + 1]? = some q → ModelP.lt p.key q.key)) (fun i _ => n - (intOf i).toNat)
  case atStart => exact ⟨0, Nat.zero_le _, rfl, Lib.hid ⟨bsame w, fun j p hj => absurd hj (by omega), fun j p q hj => absurd hj (by omega)⟩⟩
  case round =>
    obtain ⟨k, hk, rfl, HK⟩ := hrel
    have hsz := HK.out.1.size
    by_cases hlt : k < n
    · obtain ⟨b, o, p, Ap, np, cp, rfl, hbB, hp, hby, hpk, -, -, -, -, c0, c1, c2, c3, c4, c5⟩ := pair_at (H.out.below (HK.out.1.mono hB)) hlt
      have HP := Lib.hid hp
      have hnp := hby.len
      have hnm := Nat.le_trans hby.2.1 hby.2.2.1
      clear hp hby
      obtain ⟨pk, pkd, pda, plo, phi, pva⟩ := p
      dsimp only at *
      have hbw : b < wr.heap.size := by omega
      obtain ⟨kr, hkr⟩ : ∃ kr, KeyP.right pk.data.toList = kr := ⟨_, rfl⟩
      have HKR := Lib.hid hkr
      clear hkr
      go_wp2_with fail
      generalize hW1 : wr.alloc (.cells #[.string pk, .int .i64 pkd, .slice Ap np cp, .int .i64 plo, .int .i64 phi, .int .i64 pva] 103) = W1
      have HS1 : Hid (Str W1 wr.heap.size #[.string pk, .int .i64 pkd, .slice Ap np cp, .int .i64 plo, .int .i64 phi, .int .i64 pva]) := Lib.hid (by rw [← hW1]; exact Str.new wr _ _)
      have hba : Below wr.heap.size wr W1 := by rw [← hW1]; exact balloc (bsame _) _
      clear hW1
      refine (Key.check_any pk _ hpk).mono ?_
      rw [HKR.out]
      rintro e W2 ⟨rfl, hb1⟩
      have HS2 := Lib.hid (HS1.out.next hb1)
      have HB2 := Lib.hid (bstep HK.out.1 (bstep hba hb1))
      have HR2 := Lib.hid (bstep hba hb1)
      clear hba hb1 HS1 c0 c1 c2 c3 c4 c5
      obtain ⟨f0, f1, f2, f3, f4, f5⟩ := str6 HS2.out
      have hfl := HS2.out.lt
      cases kr with
      | false =>
        have HE := Lib.hid (ModelP.wrong_at HP.out (fun hok => by have := hok.1; dsimp only at this; rw [HKR.out] at this; cases this))
        rw [show KeyP.code false = 1 from rfl]
        go_wp2
        go_ret
        exact ⟨by rw [HE.out]; rfl, HB2.out⟩
      | true =>
        rw [show KeyP.code true = 0 from rfl]
        obtain ⟨cr, hcr⟩ : ∃ cr, CellP.right ⟨pkd, pda, plo, phi, pva⟩ = cr := ⟨_, rfl⟩
        have HCR := Lib.hid hcr
        clear hcr
        go_wp2_with fail
        refine (CellW.check_any Ap np cp ⟨pkd, pda, plo, phi, pva⟩ _ hnp hnm).mono ?_
        rw [HCR.out]
        rintro e W3 ⟨rfl, hb2⟩
        have HS3 := Lib.hid (HS2.out.next hb2)
        have HB3 := Lib.hid (bstep HB2.out hb2)
        have HR3 := Lib.hid (bstep HR2.out hb2)
        have hsz3 := HR3.out.size
        clear hb2 HS2 f0 f1 f2 f3 f4 f5 hfl HB2 HR2
        obtain ⟨f0, f1, f2, f3, f4, f5⟩ := str6 HS3.out
        have hfl := HS3.out.lt
        cases cr with
        | false =>
          have HE := Lib.hid (ModelP.wrong_at HP.out (fun hok => by have := hok.2; dsimp only at this; rw [HCR.out] at this; cases this))
          rw [show CellP.code false = 1 from rfl]
          go_wp2
          go_ret
          exact ⟨by rw [HE.out]; rfl, HB3.out⟩
        | true =>
          rw [show CellP.code true = 0 from rfl]
          have HOK : Hid (ModelP.okP ⟨pk, pkd, pda, plo, phi, pva⟩) := Lib.hid ⟨HKR.out, HCR.out⟩
          rcases Nat.eq_zero_or_pos k with hk0 | hk0
          · have HK0 := Lib.hid hk0
            clear hk0
            go_wp2
            refine Reg.wp_region_vals (R := ext) (W := W3) [Reg.eqv (.int .i64 (k : Int)), Reg.eqv (.bool false), Reg.eqv (.bool false), Reg.eqv undef, Reg.eqv undef, Reg.eqv undef, Reg.eqv undef, Reg.eqv undef, Reg.eqv undef, Reg.eqv undef, Reg.eqv undef, Reg.eqv undef, Reg.eqv (.bool false)] 36 [[(3, none)], [(22, some 0)], [(23, some 1)], [(0, none), (24, some 2)], [(3, none), (24, some 2)], [(26, some 4), (24, some 2)], [(25, some 3), (27, some 5), (24, some 2)], [(28, some 6), (24, some 2)], [(29, some 7), (24, some 2)], [(4, none), (24, some 2)], [(31, some 9), (24, some 2)], [(30, some 8), (32, some 10), (24, some 2)], [(24, some 2), (33, some 11)]] rfl (by kernel_rfl) (by kernel_rfl) (by kernel_rfl) ?_ [some 22, some 23, some 24, some 25, some 26, some 27, some 28, some 29, some 30, some 31, some 32, some 33, some 34] (by kernel_rfl) ?_
            · refine ⟨?_, ?_, ?_, ?_, ?_, ?_, ?_, ?_, ?_, ?_, ?_, ?_, ?_, trivial⟩
              · intro ax wx hx hs
                obtain ⟨e3, -⟩ := hs
                have g3 := Reg.ev (v := .int .i64 (k : Int)) e3
                exact Reg.obl_free rfl (Reg.wp_eqv (Option.some_ne_none _) (by go_simp) rfl)
              · intro ax wx hx hs
                obtain ⟨e22, -⟩ := hs
                have g22 := Reg.ev (v := .int .i64 (k : Int)) e22
                refine Reg.obl_free rfl ?_
                have hk0 := HK0.out
                exact (Reg.wp_eqv (Option.some_ne_none _) (by go_simp) rfl)
              · intro ax wx hx hs
                obtain ⟨e23, -⟩ := hs
                have g23 := Reg.ev (v := .bool false) e23
                exact Reg.obl_free rfl (Reg.wp_eqv (Option.some_ne_none _) (by go_simp) rfl)
              · intro ax wx hx hs
                obtain ⟨e0, e24, -⟩ := hs
                have g0 := Reg.ev (v := .slice (some ⟨b, o, none⟩) n c) e0
                have g24 := Reg.ev (v := .bool false) e24
                exact Reg.obl_skip rfl rfl e24 rfl rfl
              · intro ax wx hx hs
                obtain ⟨e3, e24, -⟩ := hs
                have g3 := Reg.ev (v := .int .i64 (k : Int)) e3
                have g24 := Reg.ev (v := .bool false) e24
                exact Reg.obl_skip rfl rfl e24 rfl rfl
              · intro ax wx hx hs
                obtain ⟨e26, e24, -⟩ := hs
                have g26 := Reg.ev (v := undef) e26
                have g24 := Reg.ev (v := .bool false) e24
                exact Reg.obl_skip rfl rfl e24 rfl rfl
              · intro ax wx hx hs
                obtain ⟨e25, e27, e24, -⟩ := hs
                have g25 := Reg.ev (v := undef) e25
                have g27 := Reg.ev (v := undef) e27
                have g24 := Reg.ev (v := .bool false) e24
                exact Reg.obl_skip rfl rfl e24 rfl rfl
              · intro ax wx hx hs
                obtain ⟨e28, e24, -⟩ := hs
                have g28 := Reg.ev (v := undef) e28
                have g24 := Reg.ev (v := .bool false) e24
                exact Reg.obl_skip rfl rfl e24 rfl rfl
              · intro ax wx hx hs
                obtain ⟨e29, e24, -⟩ := hs
                have g29 := Reg.ev (v := undef) e29
                have g24 := Reg.ev (v := .bool false) e24
                exact Reg.obl_skip rfl rfl e24 rfl rfl
              · intro ax wx hx hs
                obtain ⟨e4, e24, -⟩ := hs
                have g4 := Reg.ev (v := .pointer (some ⟨wr.heap.size, 0, none⟩)) e4
                have g24 := Reg.ev (v := .bool false) e24
                exact Reg.obl_skip rfl rfl e24 rfl rfl
              · intro ax wx hx hs
                obtain ⟨e31, e24, -⟩ := hs
                have g31 := Reg.ev (v := undef) e31
                have g24 := Reg.ev (v := .bool false) e24
                exact Reg.obl_skip rfl rfl e24 rfl rfl
              · intro ax wx hx hs
                obtain ⟨e30, e32, e24, -⟩ := hs
                have g30 := Reg.ev (v := undef) e30
                have g32 := Reg.ev (v := undef) e32
                have g24 := Reg.ev (v := .bool false) e24
                exact Reg.obl_skip rfl rfl e24 rfl rfl
              · intro ax wx hx hs
                obtain ⟨e24, e33, -⟩ := hs
                have g24 := Reg.ev (v := .bool false) e24
                have g33 := Reg.ev (v := undef) e33
                exact Reg.obl_free rfl (Reg.wp_eqv (Option.some_ne_none _) (by go_simp) rfl)
            · intro W4 hwf
              simp only [Reg.Fin]
              rintro _ rfl _ rfl _ rfl _ rfl _ rfl _ rfl _ rfl _ rfl _ rfl _ rfl _ rfl _ rfl _ rfl
              go_simp
              have HB4 := Lib.hid (bstep HB3.out (show Below W3.heap.size W3 W4 from hwf))
              clear hwf
              go_wp2
              go_roundw
              case rel => exact ⟨k + 1, by omega, by go_num, Lib.hid ⟨HB4.out, fun j p hj h1 => by
                rcases Nat.lt_or_ge j k with h3 | h3
                · exact HK.out.2.1 j p h3 h1
                · have : j = k := by omega
                  subst this
                  rw [HP.out] at h1
                  cases h1
                  exact HOK.out, fun i p q hi h1 h2 => by
                rcases Nat.lt_or_ge (i + 1) k with h3 | h3
                · exact HK.out.2.2 i p q h3 h1 h2
                · have := HK0.out; omega⟩⟩
              case measure => simp [intOf]; omega
          · obtain ⟨j, hj⟩ : ∃ j, k = j + 1 := ⟨k - 1, by omega⟩
            obtain ⟨b', o', q, Aq, nq', cq, e, -, hq, -, hqk, -, -, -, -, d0, -⟩ := pair_at (H.out.below (HK.out.1.mono hB)) (show j < n by omega)
            cases e
            have HQ := Lib.hid hq
            obtain ⟨qk, qc⟩ := q
            dsimp only at *
            clear hq
            have dk : decide (0 < (k : Int)) = true := by simp; omega
            have w1 : IntKind.i64.wrap ((k : Int) - 1) = (j : Int) := by rw [show (k : Int) - 1 = (j : Int) by omega]; exact IntWalk.i64_in _ (by omega)
            have hjn : (j : Int) < (n : Int) := by omega
            have HJ := Lib.hid hj
            clear hj
            by_cases hlq : Op.bytesLess qk.toList pk.toList = true
            · have HLQ : Hid (ModelP.lt qk pk) := Lib.hid (by rw [KeyS_less] at hlq; simpa using hlq)
              have hl1 : Op.bytesLess pk.toList qk.toList = false := by rw [KeyS_less]; simp; exact fun h => List.lt_asymm HLQ.out h
              have hl2 : ¬ pk.toList = qk.toList := fun e => by have e2 := key_inj e; subst e2; exact ModelP.lt_irrefl _ HLQ.out
              have hl3 : ¬ qk.toList = pk.toList := fun e => hl2 e.symm
              go_wp2
              refine Reg.wp_region_vals (R := ext) (W := W3) [Reg.eqv (.int .i64 (k : Int)), Reg.eqv (.bool true), Reg.eqv (.bool true), Reg.eqv (.slice (some ⟨b, o, none⟩) n c), Reg.eqv (.int .i64 (k : Int)), Reg.eqv (.int .i64 (j : Int)), Reg.eqv (.pointer (some ⟨b, o + j * 6, none⟩)), Reg.eqv (.pointer (some ⟨b, o + j * 6, none⟩)), Reg.eqv (.string qk), Reg.eqv (.pointer (some ⟨wr.heap.size, 0, none⟩)), Reg.eqv (.string pk), Reg.eqv (.bool false), Reg.eqv (.bool false)] 36 [[(3, none)], [(22, some 0)], [(23, some 1)], [(0, none), (24, some 2)], [(3, none), (24, some 2)], [(26, some 4), (24, some 2)], [(25, some 3), (27, some 5), (24, some 2)], [(28, some 6), (24, some 2)], [(29, some 7), (24, some 2)], [(4, none), (24, some 2)], [(31, some 9), (24, some 2)], [(30, some 8), (32, some 10), (24, some 2)], [(24, some 2), (33, some 11)]] rfl (by kernel_rfl) (by kernel_rfl) (by kernel_rfl) ?_ [some 22, some 23, some 24, some 25, some 26, some 27, some 28, some 29, some 30, some 31, some 32, some 33, some 34] (by kernel_rfl) ?_
              · refine ⟨?_, ?_, ?_, ?_, ?_, ?_, ?_, ?_, ?_, ?_, ?_, ?_, ?_, trivial⟩
                · intro ax wx hx hs
                  obtain ⟨e3, -⟩ := hs
                  have g3 := Reg.ev (v := .int .i64 (k : Int)) e3
                  exact Reg.obl_free rfl (Reg.wp_eqv (Option.some_ne_none _) (by go_simp) rfl)
                · intro ax wx hx hs
                  obtain ⟨e22, -⟩ := hs
                  have g22 := Reg.ev (v := .int .i64 (k : Int)) e22
                  exact Reg.obl_free rfl (Reg.wp_eqv (Option.some_ne_none _) (by go_simp) rfl)
                · intro ax wx hx hs
                  obtain ⟨e23, -⟩ := hs
                  have g23 := Reg.ev (v := .bool true) e23
                  exact Reg.obl_free rfl (Reg.wp_eqv (Option.some_ne_none _) (by go_simp) rfl)
                · intro ax wx hx hs
                  obtain ⟨e0, e24, -⟩ := hs
                  have g0 := Reg.ev (v := .slice (some ⟨b, o, none⟩) n c) e0
                  have g24 := Reg.ev (v := .bool true) e24
                  exact Reg.obl_want rfl rfl e24 (Reg.wp_eqv (Option.some_ne_none _) (by go_simp) rfl)
                · intro ax wx hx hs
                  obtain ⟨e3, e24, -⟩ := hs
                  have g3 := Reg.ev (v := .int .i64 (k : Int)) e3
                  have g24 := Reg.ev (v := .bool true) e24
                  exact Reg.obl_want rfl rfl e24 (Reg.wp_eqv (Option.some_ne_none _) (by go_simp) rfl)
                · intro ax wx hx hs
                  obtain ⟨e26, e24, -⟩ := hs
                  have g26 := Reg.ev (v := .int .i64 (k : Int)) e26
                  have g24 := Reg.ev (v := .bool true) e24
                  exact Reg.obl_want rfl rfl e24 (Reg.wp_eqv (Option.some_ne_none _) (by go_simp) rfl)
                · intro ax wx hx hs
                  obtain ⟨e25, e27, e24, -⟩ := hs
                  have g25 := Reg.ev (v := .slice (some ⟨b, o, none⟩) n c) e25
                  have g27 := Reg.ev (v := .int .i64 (j : Int)) e27
                  have g24 := Reg.ev (v := .bool true) e24
                  exact Reg.obl_want rfl rfl e24 (Reg.wp_eqv (Option.some_ne_none _) (by go_simp) rfl)
                · intro ax wx hx hs
                  obtain ⟨e28, e24, -⟩ := hs
                  have g28 := Reg.ev (v := .pointer (some ⟨b, o + j * 6, none⟩)) e28
                  have g24 := Reg.ev (v := .bool true) e24
                  exact Reg.obl_want rfl rfl e24 (Reg.wp_eqv (Option.some_ne_none _) (by go_simp) rfl)
                · intro ax wx hx hs
                  obtain ⟨e29, e24, -⟩ := hs
                  have g29 := Reg.ev (v := .pointer (some ⟨b, o + j * 6, none⟩)) e29
                  have g24 := Reg.ev (v := .bool true) e24
                  have hx' : Below W3.heap.size W3 wx := hx
                  obtain ⟨l0, l1, l2, l3, l4, l5⟩ := str6 (HS3.out.next hx')
                  have ld0 := ((HR3.out.trans (hx'.mono hsz3)).cell (p := ⟨b, o + j * 6, none⟩) hbw).trans d0
                  exact Reg.obl_want rfl rfl e24 (Reg.wp_eqv (Option.some_ne_none _) (by go_simp) rfl)
                · intro ax wx hx hs
                  obtain ⟨e4, e24, -⟩ := hs
                  have g4 := Reg.ev (v := .pointer (some ⟨wr.heap.size, 0, none⟩)) e4
                  have g24 := Reg.ev (v := .bool true) e24
                  exact Reg.obl_want rfl rfl e24 (Reg.wp_eqv (Option.some_ne_none _) (by go_simp) rfl)
                · intro ax wx hx hs
                  obtain ⟨e31, e24, -⟩ := hs
                  have g31 := Reg.ev (v := .pointer (some ⟨wr.heap.size, 0, none⟩)) e31
                  have g24 := Reg.ev (v := .bool true) e24
                  have hx' : Below W3.heap.size W3 wx := hx
                  obtain ⟨l0, l1, l2, l3, l4, l5⟩ := str6 (HS3.out.next hx')
                  have ld0 := ((HR3.out.trans (hx'.mono hsz3)).cell (p := ⟨b, o + j * 6, none⟩) hbw).trans d0
                  exact Reg.obl_want rfl rfl e24 (Reg.wp_eqv (Option.some_ne_none _) (by go_simp) rfl)
                · intro ax wx hx hs
                  obtain ⟨e30, e32, e24, -⟩ := hs
                  have g30 := Reg.ev (v := .string qk) e30
                  have g32 := Reg.ev (v := .string pk) e32
                  have g24 := Reg.ev (v := .bool true) e24
                  exact Reg.obl_want rfl rfl e24 (Reg.wp_eqv (Option.some_ne_none _) (by go_simp) rfl)
                · intro ax wx hx hs
                  obtain ⟨e24, e33, -⟩ := hs
                  have g24 := Reg.ev (v := .bool true) e24
                  have g33 := Reg.ev (v := .bool false) e33
                  exact Reg.obl_free rfl (Reg.wp_eqv (Option.some_ne_none _) (by go_simp) rfl)
              · intro W4 hwf
                simp only [Reg.Fin]
                rintro _ rfl _ rfl _ rfl _ rfl _ rfl _ rfl _ rfl _ rfl _ rfl _ rfl _ rfl _ rfl _ rfl
                go_simp
                have HB4 := Lib.hid (bstep HB3.out (show Below W3.heap.size W3 W4 from hwf))
                clear hwf
                go_wp2
                go_roundw
                case rel => exact ⟨k + 1, by omega, by go_num, Lib.hid ⟨HB4.out, fun j p hj h1 => by
                  rcases Nat.lt_or_ge j k with h3 | h3
                  · exact HK.out.2.1 j p h3 h1
                  · have : j = k := by omega
                    subst this
                    rw [HP.out] at h1
                    cases h1
                    exact HOK.out, fun i p q hi h1 h2 => by
                  rcases Nat.lt_or_ge (i + 1) k with h3 | h3
                  · exact HK.out.2.2 i p q h3 h1 h2
                  · have e1 : i = j := by have := HJ.out; omega
                    subst e1
                    rw [HQ.out] at h1
                    rw [← HJ.out, HP.out] at h2
                    cases h1
                    cases h2
                    exact HLQ.out⟩⟩
                case measure => simp [intOf]; omega
            · have HLQ : Hid (¬ ModelP.lt qk pk) := Lib.hid (by rw [KeyS_less] at hlq; simpa using hlq)
              replace hlq : Op.bytesLess qk.toList pk.toList = false := by simpa using hlq
              have hl1 : Op.bytesLess pk.toList qk.toList = true ∨ qk.toList = pk.toList := by
                rw [KeyS_less]
                simp only [decide_eq_true_eq]
                rcases List.le_iff_lt_or_eq.1 (List.not_lt.1 HLQ.out) with h1 | h1
                · exact .inl h1
                · exact .inr (by rw [ModelP.key_eq h1])
              go_wp2
              refine Reg.wp_region_vals (R := ext) (W := W3) [Reg.eqv (.int .i64 (k : Int)), Reg.eqv (.bool true), Reg.eqv (.bool true), Reg.eqv (.slice (some ⟨b, o, none⟩) n c), Reg.eqv (.int .i64 (k : Int)), Reg.eqv (.int .i64 (j : Int)), Reg.eqv (.pointer (some ⟨b, o + j * 6, none⟩)), Reg.eqv (.pointer (some ⟨b, o + j * 6, none⟩)), Reg.eqv (.string qk), Reg.eqv (.pointer (some ⟨wr.heap.size, 0, none⟩)), Reg.eqv (.string pk), Reg.eqv (.bool true), Reg.eqv (.bool true)] 36 [[(3, none)], [(22, some 0)], [(23, some 1)], [(0, none), (24, some 2)], [(3, none), (24, some 2)], [(26, some 4), (24, some 2)], [(25, some 3), (27, some 5), (24, some 2)], [(28, some 6), (24, some 2)], [(29, some 7), (24, some 2)], [(4, none), (24, some 2)], [(31, some 9), (24, some 2)], [(30, some 8), (32, some 10), (24, some 2)], [(24, some 2), (33, some 11)]] rfl (by kernel_rfl) (by kernel_rfl) (by kernel_rfl) ?_ [some 22, some 23, some 24, some 25, some 26, some 27, some 28, some 29, some 30, some 31, some 32, some 33, some 34] (by kernel_rfl) ?_
              · refine ⟨?_, ?_, ?_, ?_, ?_, ?_, ?_, ?_, ?_, ?_, ?_, ?_, ?_, trivial⟩
                · intro ax wx hx hs
                  obtain ⟨e3, -⟩ := hs
                  have g3 := Reg.ev (v := .int .i64 (k : Int)) e3
                  exact Reg.obl_free rfl (Reg.wp_eqv (Option.some_ne_none _) (by go_simp) rfl)
                · intro ax wx hx hs
                  obtain ⟨e22, -⟩ := hs
                  have g22 := Reg.ev (v := .int .i64 (k : Int)) e22
                  exact Reg.obl_free rfl (Reg.wp_eqv (Option.some_ne_none _) (by go_simp) rfl)
                · intro ax wx hx hs
                  obtain ⟨e23, -⟩ := hs
                  have g23 := Reg.ev (v := .bool true) e23
                  exact Reg.obl_free rfl (Reg.wp_eqv (Option.some_ne_none _) (by go_simp) rfl)
                · intro ax wx hx hs
                  obtain ⟨e0, e24, -⟩ := hs
                  have g0 := Reg.ev (v := .slice (some ⟨b, o, none⟩) n c) e0
                  have g24 := Reg.ev (v := .bool true) e24
                  exact Reg.obl_want rfl rfl e24 (Reg.wp_eqv (Option.some_ne_none _) (by go_simp) rfl)
                · intro ax wx hx hs
                  obtain ⟨e3, e24, -⟩ := hs
                  have g3 := Reg.ev (v := .int .i64 (k : Int)) e3
                  have g24 := Reg.ev (v := .bool true) e24
                  exact Reg.obl_want rfl rfl e24 (Reg.wp_eqv (Option.some_ne_none _) (by go_simp) rfl)
                · intro ax wx hx hs
                  obtain ⟨e26, e24, -⟩ := hs
                  have g26 := Reg.ev (v := .int .i64 (k : Int)) e26
                  have g24 := Reg.ev (v := .bool true) e24
                  exact Reg.obl_want rfl rfl e24 (Reg.wp_eqv (Option.some_ne_none _) (by go_simp) rfl)
                · intro ax wx hx hs
                  obtain ⟨e25, e27, e24, -⟩ := hs
                  have g25 := Reg.ev (v := .slice (some ⟨b, o, none⟩) n c) e25
                  have g27 := Reg.ev (v := .int .i64 (j : Int)) e27
                  have g24 := Reg.ev (v := .bool true) e24
                  exact Reg.obl_want rfl rfl e24 (Reg.wp_eqv (Option.some_ne_none _) (by go_simp) rfl)
                · intro ax wx hx hs
                  obtain ⟨e28, e24, -⟩ := hs
                  have g28 := Reg.ev (v := .pointer (some ⟨b, o + j * 6, none⟩)) e28
                  have g24 := Reg.ev (v := .bool true) e24
                  exact Reg.obl_want rfl rfl e24 (Reg.wp_eqv (Option.some_ne_none _) (by go_simp) rfl)
                · intro ax wx hx hs
                  obtain ⟨e29, e24, -⟩ := hs
                  have g29 := Reg.ev (v := .pointer (some ⟨b, o + j * 6, none⟩)) e29
                  have g24 := Reg.ev (v := .bool true) e24
                  have hx' : Below W3.heap.size W3 wx := hx
                  obtain ⟨l0, l1, l2, l3, l4, l5⟩ := str6 (HS3.out.next hx')
                  have ld0 := ((HR3.out.trans (hx'.mono hsz3)).cell (p := ⟨b, o + j * 6, none⟩) hbw).trans d0
                  exact Reg.obl_want rfl rfl e24 (Reg.wp_eqv (Option.some_ne_none _) (by go_simp) rfl)
                · intro ax wx hx hs
                  obtain ⟨e4, e24, -⟩ := hs
                  have g4 := Reg.ev (v := .pointer (some ⟨wr.heap.size, 0, none⟩)) e4
                  have g24 := Reg.ev (v := .bool true) e24
                  exact Reg.obl_want rfl rfl e24 (Reg.wp_eqv (Option.some_ne_none _) (by go_simp) rfl)
                · intro ax wx hx hs
                  obtain ⟨e31, e24, -⟩ := hs
                  have g31 := Reg.ev (v := .pointer (some ⟨wr.heap.size, 0, none⟩)) e31
                  have g24 := Reg.ev (v := .bool true) e24
                  have hx' : Below W3.heap.size W3 wx := hx
                  obtain ⟨l0, l1, l2, l3, l4, l5⟩ := str6 (HS3.out.next hx')
                  have ld0 := ((HR3.out.trans (hx'.mono hsz3)).cell (p := ⟨b, o + j * 6, none⟩) hbw).trans d0
                  exact Reg.obl_want rfl rfl e24 (Reg.wp_eqv (Option.some_ne_none _) (by go_simp) rfl)
                · intro ax wx hx hs
                  obtain ⟨e30, e32, e24, -⟩ := hs
                  have g30 := Reg.ev (v := .string qk) e30
                  have g32 := Reg.ev (v := .string pk) e32
                  have g24 := Reg.ev (v := .bool true) e24
                  exact Reg.obl_want rfl rfl e24 (Reg.wp_eqv (Option.some_ne_none _) (by go_simp) rfl)
                · intro ax wx hx hs
                  obtain ⟨e24, e33, -⟩ := hs
                  have g24 := Reg.ev (v := .bool true) e24
                  have g33 := Reg.ev (v := .bool true) e33
                  exact Reg.obl_free rfl (Reg.wp_eqv (Option.some_ne_none _) (by go_simp) rfl)
              · intro W4 hwf
                simp only [Reg.Fin]
                rintro _ rfl _ rfl _ rfl _ rfl _ rfl _ rfl _ rfl _ rfl _ rfl _ rfl _ rfl _ rfl _ rfl
                go_simp
                have HB4 := Lib.hid (bstep HB3.out (show Below W3.heap.size W3 W4 from hwf))
                clear hwf
                have HE := Lib.hid (ModelP.wrong_to HQ.out (by rw [← HJ.out]; exact HP.out) HLQ.out)
                go_wp2
                go_ret
                exact ⟨by rw [HE.out]; rfl, HB4.out⟩
    · have hk' : k = n := by omega
      subst hk'
      have HE := Lib.hid (ModelP.right_of (s := l) (fun j p h1 => HK.out.2.1 j p (by rw [← HL.out]; exact (List.getElem?_eq_some_iff.1 h1).1) h1) (fun j p q h1 h2 => HK.out.2.2 j p q (by rw [← HL.out]; exact (List.getElem?_eq_some_iff.1 h2).1) h1 h2))
      go_wp2
      go_ret
      exact ⟨by rw [HE.out]; rfl, HK.out.1⟩
end Go.Proofs.Ytghgccgpgonlmaa.ModelW
