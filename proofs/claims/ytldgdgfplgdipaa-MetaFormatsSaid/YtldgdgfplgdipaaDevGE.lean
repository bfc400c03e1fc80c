/-
  Texts of one claim, joined: DevRead, DevSync, DevRead2, DevNew.
-/
import Derived.Test.YtldgdgfplgdipaaDevGD
import Derived.Maps.RangeWalk
import Derived.Laws.ResultCell
namespace Go.Proofs.Ytldgdgfplgdipaa.DevW
open Go.RowKit Go.Maps
set_option linter.unusedVariables false
set_option linter.unusedSimpArgs false
variable {d sb mb : Nat} {bp bs : List Nat} {gb : Option Nat} {A : Option Addr} {n c nm : Nat} {es : List (Int × SlV)} {X : DevX}
attribute [local go_sem ↓] ldPage_fold stPage_fold bdPage_fold alPage_fold alJob_fold bdJob_fold stJob_fold
theorem Ent.look {w : World} {k : Nat} {s : SlV} {N : Nat} {now : List (List UInt8)} {ops : Nat} (h : Ent w N now ops ((k : Int), s)) : ∃ ps q, s.A = some ⟨blk s, 0, none⟩ ∧ Pgs 30 w (blk s) s.n s.c ps ∧ 1 ≤ s.n ∧ ps[s.n - 1]? = some q ∧ now[k]? = some q := by
  obtain ⟨ps, h1, h2, h3, h4⟩ := h.pg
  have hl := h2.len
  have hp : 0 < ps.length := List.length_pos_iff.2 h3
  dsimp only at h1 h2 h4 hl
  obtain ⟨q, hq⟩ : ∃ q, ps.getLast? = some q := ⟨_, List.getLast?_eq_some_getLast h3⟩
  refine ⟨ps, q, h1, h2, by omega, ?_, ?_⟩
  · rw [← hl, ← List.getLast?_eq_getElem?]
    exact hq
  · rw [← hq, h4]
    simp
theorem look_at {w : World} {k : Nat} (h : MapM Try.prog intK slE 3 w mb nm es) (hk : k ≤ 100000) : (Instr.lookup 62 (.map (some mb)) (.int .i64 (k : Int)) false).run Try.prog w = .ok (slE.val ((MapP.get es (k : Int)).getD ⟨none, 0, 0⟩)) w :=
  h.look law Try.underlying62 (zeroS w) (k := (k : Int)) (keyOf_ (by unfold In64; omega))
set_option maxRecDepth 100000 in
set_option maxHeartbeats 1000000 in
theorem read_act (j k : Nat) (l q : List UInt8) (A0 : Option Addr) (m0 c0 : Nat) (w : World) (hJ : Str w j (jobC d (k : Int) l (.slice A0 m0 c0))) (hll : l.length = 512) (hD : Dev w d bs X) (hj : j ∉ bs) (hk : k < X.safe.length) (hq : X.now[k]? = some q) :
    Calls Try.prog 39 #[.pointer (some ⟨j, 0, none⟩)] w (Acts w d bs [j] X fun w' => Str w' j (jobC d (k : Int) q (.slice A0 m0 c0))) := by
  have HJ := Lib.hid hJ
  have hjl := hJ.lt
  have HD := Lib.hid hD
  have hok := hD.ok
  have hN := hok.n1
  have hq5 : q.length = 512 := hok.w1 q (List.mem_of_getElem? hq)
  obtain ⟨sb, mb, bp, gb, A, n, c, nm, es, hI, hbs⟩ := hD
  have hl := hI.box.lt
  obtain ⟨p, hp⟩ : ∃ p, X.safe[k]? = some p := ⟨_, List.getElem?_eq_getElem hk⟩
  have hp5 : p.length = 512 := hok.w0 p (List.mem_of_getElem? hp)
  have hsl := hI.pages.row.lt
  have hml := hI.pages.map.lt
  have HI := Lib.hid hI
  have HB := Lib.hid hbs
  have HP := Lib.hid hp
  have HQ := Lib.hid hq
  have HJN := Lib.hid hj
  have HJD : Hid (j ≠ d) := Lib.hid (fun e => hj (by rw [e]; exact HD.out.mem))
  have hk0 : (0 : Int) ≤ (k : Int) := by omega
  have hk1 : (k : Int) < (X.safe.length : Int) := by omega
  have hk2 : k ≤ 100000 := by omega
  clear hI hbs hok hJ hj hp hq
  go_enter Try.func39, Try.ntmps39
  go_wp2_with fail
  refine Reg.wp_region_tail (R := ext) (W := w) [Reg.eqv (.pointer (some ⟨j, 0, none⟩)), Reg.eqv (.pointer (some ⟨j, 0, none⟩)), Reg.eqv (.pointer (some ⟨j, 0, none⟩)), Reg.eqv (.pointer (some ⟨j, 0, none⟩)), Reg.eqv (.pointer (some ⟨d, 0, none⟩)), Reg.eqv (.pointer (some ⟨d, 0, none⟩)), Reg.eqv (.pointer (some ⟨d, 0, none⟩)), Reg.eqv (.slice (some ⟨sb, 0, none⟩) X.safe.length X.safe.length), Reg.eqv (.pointer (some ⟨j, 0, none⟩)), Reg.eqv (.pointer (some ⟨j, 0, none⟩)), Reg.eqv (.pointer (some ⟨j, 1, none⟩)), Reg.eqv (.int .i64 ((k : Int))), Reg.eqv (.pointer (some ⟨sb, k * 512, none⟩)), Reg.eqv (.agg (rowV p)), Reg.eqv (.pointer (some ⟨j, 0, none⟩)), Reg.eqv (.pointer (some ⟨j, 2, none⟩))] 43 16 _ [[(0, none)], [(0, none)], [(4, some 1)], [(5, some 2)], [(6, some 3)], [(7, some 4)], [(8, some 5)], [(9, some 6)], [(0, none)], [(11, some 8)], [(12, some 9)], [(13, some 10)], [(10, some 7), (14, some 11)], [(15, some 12)], [(3, some 0)], [(17, some 14)]] rfl (by kernel_rfl) (by kernel_rfl) (by rfl) (by rfl) rfl (by kernel_rfl) ?_ [some 3, some 4, some 5, some 6, some 7, some 8, some 9, some 10, some 11, some 12, some 13, some 14, some 15, some 16, some 17, some 18] (by kernel_rfl) ?_
  · refine ⟨?_, ?_, ?_, ?_, ?_, ?_, ?_, ?_, ?_, ?_, ?_, ?_, ?_, ?_, ?_, ?_, trivial⟩
    · intro ax wx hx hs
      obtain ⟨e0, -⟩ := hs
      have g0 := Reg.ev (v := .pointer (some ⟨j, 0, none⟩)) e0
      exact Reg.obl_free rfl (Reg.wp_eqv (Option.some_ne_none _) (by go_simp) rfl)
    · intro ax wx hx hs
      obtain ⟨e0, -⟩ := hs
      have g0 := Reg.ev (v := .pointer (some ⟨j, 0, none⟩)) e0
      exact Reg.obl_free rfl (Reg.wp_eqv (Option.some_ne_none _) (by go_simp) rfl)
    · intro ax wx hx hs
      obtain ⟨e4, -⟩ := hs
      have g4 := Reg.ev (v := .pointer (some ⟨j, 0, none⟩)) e4
      exact Reg.obl_free rfl (Reg.wp_eqv (Option.some_ne_none _) (by go_simp) rfl)
    · intro ax wx hx hs
      obtain ⟨e5, -⟩ := hs
      have g5 := Reg.ev (v := .pointer (some ⟨j, 0, none⟩)) e5
      exact Reg.obl_free rfl (Reg.wp_eqv (Option.some_ne_none _) (by go_simp) rfl)
    · intro ax wx hx hs
      obtain ⟨e6, -⟩ := hs
      have g6 := Reg.ev (v := .pointer (some ⟨j, 0, none⟩)) e6
      have l0 := str10 (HI.out.box.next hx)
      have l1 := job3 (HJ.out.next hx) hll
      exact Reg.obl_free rfl (Reg.wp_eqv (Option.some_ne_none _) (by go_simp) rfl)
    · intro ax wx hx hs
      obtain ⟨e7, -⟩ := hs
      have g7 := Reg.ev (v := .pointer (some ⟨d, 0, none⟩)) e7
      exact Reg.obl_free rfl (Reg.wp_eqv (Option.some_ne_none _) (by go_simp) rfl)
    · intro ax wx hx hs
      obtain ⟨e8, -⟩ := hs
      have g8 := Reg.ev (v := .pointer (some ⟨d, 0, none⟩)) e8
      exact Reg.obl_free rfl (Reg.wp_eqv (Option.some_ne_none _) (by go_simp) rfl)
    · intro ax wx hx hs
      obtain ⟨e9, -⟩ := hs
      have g9 := Reg.ev (v := .pointer (some ⟨d, 0, none⟩)) e9
      have l0 := str10 (HI.out.box.next hx)
      have l1 := job3 (HJ.out.next hx) hll
      exact Reg.obl_free rfl (Reg.wp_eqv (Option.some_ne_none _) (by go_simp) rfl)
    · intro ax wx hx hs
      obtain ⟨e0, -⟩ := hs
      have g0 := Reg.ev (v := .pointer (some ⟨j, 0, none⟩)) e0
      exact Reg.obl_free rfl (Reg.wp_eqv (Option.some_ne_none _) (by go_simp) rfl)
    · intro ax wx hx hs
      obtain ⟨e11, -⟩ := hs
      have g11 := Reg.ev (v := .pointer (some ⟨j, 0, none⟩)) e11
      exact Reg.obl_free rfl (Reg.wp_eqv (Option.some_ne_none _) (by go_simp) rfl)
    · intro ax wx hx hs
      obtain ⟨e12, -⟩ := hs
      have g12 := Reg.ev (v := .pointer (some ⟨j, 0, none⟩)) e12
      exact Reg.obl_free rfl (Reg.wp_eqv (Option.some_ne_none _) (by go_simp) rfl)
    · intro ax wx hx hs
      obtain ⟨e13, -⟩ := hs
      have g13 := Reg.ev (v := .pointer (some ⟨j, 1, none⟩)) e13
      have l0 := str10 (HI.out.box.next hx)
      have l1 := job3 (HJ.out.next hx) hll
      exact Reg.obl_free rfl (Reg.wp_eqv (Option.some_ne_none _) (by go_simp) rfl)
    · intro ax wx hx hs
      obtain ⟨e10, e14, -⟩ := hs
      have g10 := Reg.ev (v := .slice (some ⟨sb, 0, none⟩) X.safe.length X.safe.length) e10
      have g14 := Reg.ev (v := .int .i64 ((k : Int))) e14
      exact Reg.obl_free rfl (Reg.wp_eqv (Option.some_ne_none _) (by go_simp) rfl)
    · intro ax wx hx hs
      obtain ⟨e15, -⟩ := hs
      have g15 := Reg.ev (v := .pointer (some ⟨sb, k * 512, none⟩)) e15
      have l0 := str10 (HI.out.box.next hx)
      have l1 := job3 (HJ.out.next hx) hll
      refine Reg.obl_free rfl ?_
      have hld := (HI.out.pages.row.at_ (hx.block sb hsl)).load HP.out
      exact Reg.wp_eqv (Option.some_ne_none _) (by go_simp) rfl
    · intro ax wx hx hs
      obtain ⟨e3, -⟩ := hs
      have g3 := Reg.ev (v := .pointer (some ⟨j, 0, none⟩)) e3
      exact Reg.obl_free rfl (Reg.wp_eqv (Option.some_ne_none _) (by go_simp) rfl)
    · intro ax wx hx hs
      obtain ⟨e17, -⟩ := hs
      have g17 := Reg.ev (v := .pointer (some ⟨j, 0, none⟩)) e17
      exact Reg.obl_free rfl (Reg.wp_eqv (Option.some_ne_none _) (by go_simp) rfl)
  · intro W1 hwf
    simp only [Reg.Fin]
    rintro _ rfl _ rfl _ rfl _ rfl _ rfl _ rfl _ rfl _ rfl _ rfl _ rfl _ rfl _ rfl _ rfl _ rfl _ rfl _ rfl
    have hwf' : Below w.heap.size w W1 := hwf
    obtain ⟨W2, hst, hJ2, hg2, hz2⟩ := job_store (HJ.out.next hwf') hll hp5
    have hk2' := (Reg.KeepB.of (b0 := [j]) hwf').grown hg2 hwf'.size (.inr (by simp))
    have hD2 := HD.out.keepB hk2' (by intro b hb; rw [List.mem_singleton] at hb; rw [hb]; exact HJN.out)
    have hI2 : In W2 d sb mb bp gb A n c nm es X := HI.out.at_ (fun b hb => hk2'.block b (HI.out.lt b hb) (by intro h; rw [List.mem_singleton] at h; exact HJN.out (by rw [HB.out, ← h]; exact hb)))
    have hjl2 := hJ2.lt
    have HJ2 := Lib.hid hJ2
    have HK2 := Lib.hid hk2'
    have HI2 := Lib.hid hI2
    have hl2 := hI2.box.lt
    have hml2 := hI2.pages.map.lt
    clear hwf hwf' hJ2 hg2 hk2' hD2 hI2
    refine Reg.Goal.mk ?_
    go_simp
    clear hst
    cases hg : MapP.get es (k : Int) with
    | none =>
      have hpq : p = q := by
        have h1 := HI.out.pages.rest k hk hg
        rw [HQ.out, HP.out] at h1
        exact (Option.some.inj h1).symm
      have HG : Hid (∀ wx, Below W2.heap.size W2 wx → (Instr.lookup 62 (.map (some mb)) (.int .i64 (k : Int)) false).run Try.prog wx = .ok (.slice none 0 0) wx) := Lib.hid (fun wx hx => by
        have h := look_at (HI2.out.pages.map.at_ (hx.block mb hml2)) hk2
        rw [hg] at h
        exact h)
      clear hg
      go_wp2_with fail
      refine Reg.wp_region_vals (R := ext) (W := W2) [Reg.eqv (.pointer (some ⟨j, 0, none⟩)), Reg.eqv (.pointer (some ⟨j, 0, none⟩)), Reg.eqv (.pointer (some ⟨j, 0, none⟩)), Reg.eqv (.pointer (some ⟨d, 0, none⟩)), Reg.eqv (.pointer (some ⟨d, 0, none⟩)), Reg.eqv (.pointer (some ⟨d, 1, none⟩)), Reg.eqv (.map (some mb)), Reg.eqv (.pointer (some ⟨j, 0, none⟩)), Reg.eqv (.pointer (some ⟨j, 0, none⟩)), Reg.eqv (.pointer (some ⟨j, 1, none⟩)), Reg.eqv (.int .i64 ((k : Int))), Reg.eqv (.slice none 0 0), Reg.eqv (.slice none 0 0)] 43 [[(0, none)], [(19, some 0)], [(20, some 1)], [(21, some 2)], [(22, some 3)], [(23, some 4)], [(24, some 5)], [(0, none)], [(26, some 7)], [(27, some 8)], [(28, some 9)], [(25, some 6), (29, some 10)], [(30, some 11)]] rfl (by kernel_rfl) (by kernel_rfl) (by kernel_rfl) ?_ [some 19, some 20, some 21, some 22, some 23, some 24, some 25, some 26, some 27, some 28, some 29, some 30, some 2] (by kernel_rfl) ?_
      · refine ⟨?_, ?_, ?_, ?_, ?_, ?_, ?_, ?_, ?_, ?_, ?_, ?_, ?_, trivial⟩
        · intro ax wx hx hs
          obtain ⟨e0, -⟩ := hs
          have g0 := Reg.ev (v := .pointer (some ⟨j, 0, none⟩)) e0
          exact Reg.obl_free rfl (Reg.wp_eqv (Option.some_ne_none _) (by go_simp) rfl)
        · intro ax wx hx hs
          obtain ⟨e19, -⟩ := hs
          have g19 := Reg.ev (v := .pointer (some ⟨j, 0, none⟩)) e19
          exact Reg.obl_free rfl (Reg.wp_eqv (Option.some_ne_none _) (by go_simp) rfl)
        · intro ax wx hx hs
          obtain ⟨e20, -⟩ := hs
          have g20 := Reg.ev (v := .pointer (some ⟨j, 0, none⟩)) e20
          exact Reg.obl_free rfl (Reg.wp_eqv (Option.some_ne_none _) (by go_simp) rfl)
        · intro ax wx hx hs
          obtain ⟨e21, -⟩ := hs
          have g21 := Reg.ev (v := .pointer (some ⟨j, 0, none⟩)) e21
          have l0 := str10 (HI2.out.box.next hx)
          have l1 := job3 (HJ2.out.next hx) hp5
          exact Reg.obl_free rfl (Reg.wp_eqv (Option.some_ne_none _) (by go_simp) rfl)
        · intro ax wx hx hs
          obtain ⟨e22, -⟩ := hs
          have g22 := Reg.ev (v := .pointer (some ⟨d, 0, none⟩)) e22
          exact Reg.obl_free rfl (Reg.wp_eqv (Option.some_ne_none _) (by go_simp) rfl)
        · intro ax wx hx hs
          obtain ⟨e23, -⟩ := hs
          have g23 := Reg.ev (v := .pointer (some ⟨d, 0, none⟩)) e23
          exact Reg.obl_free rfl (Reg.wp_eqv (Option.some_ne_none _) (by go_simp) rfl)
        · intro ax wx hx hs
          obtain ⟨e24, -⟩ := hs
          have g24 := Reg.ev (v := .pointer (some ⟨d, 1, none⟩)) e24
          have l0 := str10 (HI2.out.box.next hx)
          have l1 := job3 (HJ2.out.next hx) hp5
          exact Reg.obl_free rfl (Reg.wp_eqv (Option.some_ne_none _) (by go_simp) rfl)
        · intro ax wx hx hs
          obtain ⟨e0, -⟩ := hs
          have g0 := Reg.ev (v := .pointer (some ⟨j, 0, none⟩)) e0
          exact Reg.obl_free rfl (Reg.wp_eqv (Option.some_ne_none _) (by go_simp) rfl)
        · intro ax wx hx hs
          obtain ⟨e26, -⟩ := hs
          have g26 := Reg.ev (v := .pointer (some ⟨j, 0, none⟩)) e26
          exact Reg.obl_free rfl (Reg.wp_eqv (Option.some_ne_none _) (by go_simp) rfl)
        · intro ax wx hx hs
          obtain ⟨e27, -⟩ := hs
          have g27 := Reg.ev (v := .pointer (some ⟨j, 0, none⟩)) e27
          exact Reg.obl_free rfl (Reg.wp_eqv (Option.some_ne_none _) (by go_simp) rfl)
        · intro ax wx hx hs
          obtain ⟨e28, -⟩ := hs
          have g28 := Reg.ev (v := .pointer (some ⟨j, 1, none⟩)) e28
          have l0 := str10 (HI2.out.box.next hx)
          have l1 := job3 (HJ2.out.next hx) hp5
          exact Reg.obl_free rfl (Reg.wp_eqv (Option.some_ne_none _) (by go_simp) rfl)
        · intro ax wx hx hs
          obtain ⟨e25, e29, -⟩ := hs
          have g25 := Reg.ev (v := .map (some mb)) e25
          have g29 := Reg.ev (v := .int .i64 ((k : Int))) e29
          refine Reg.obl_free rfl ?_
          have hlk := HG.out wx hx
          exact Reg.wp_eqv (Option.some_ne_none _) (by go_simp) rfl
        · intro ax wx hx hs
          obtain ⟨e30, -⟩ := hs
          have g30 := Reg.ev (v := .slice none 0 0) e30
          exact Reg.obl_free rfl (Reg.wp_eqv (Option.some_ne_none _) (by go_simp) rfl)
      · intro W3 hwf
        simp only [Reg.Fin]
        rintro _ rfl _ rfl _ rfl _ rfl _ rfl _ rfl _ rfl _ rfl _ rfl _ rfl _ rfl _ rfl _ rfl
        go_simp
        have hwf' : Below W2.heap.size W2 W3 := hwf
        have HJ3 := Lib.hid (HJ2.out.next hwf')
        have HK3 := Lib.hid (HK2.out.step hwf' HK2.out.size)
        have HI3 := Lib.hid (HI2.out.at_ (fun b hb => hwf'.block b (HI2.out.lt b hb)))
        clear hwf hwf'
        go_wp2
        go_end0
        exact ⟨rfl, bs, ⟨sb, mb, bp, gb, A, n, c, nm, es, HI3.out, HB.out⟩, HK3.out.more (by simp), fun b hb => .inl hb, by rw [← hpq]; exact HJ3.out⟩
    | some sv =>
      obtain ⟨ps, q', hA, hps, hn1, hqq, hnow⟩ := (HI2.out.pages.ent _ (MapP.get_mem hg)).look
      obtain rfl : q = q' := by rw [HQ.out] at hnow; exact Option.some.inj hnow
      have HG : Hid (∀ wx, Below W2.heap.size W2 wx → (Instr.lookup 62 (.map (some mb)) (.int .i64 (k : Int)) false).run Try.prog wx = .ok (.slice (some ⟨blk sv, 0, none⟩) sv.n sv.c) wx) := Lib.hid (fun wx hx => by
        have h := look_at (HI2.out.pages.map.at_ (hx.block mb hml2)) hk2
        rw [hg] at h
        have e : slE.val (some sv |>.getD ⟨none, 0, 0⟩) = .slice (some ⟨blk sv, 0, none⟩) sv.n sv.c := by
          show Value.slice sv.A sv.n sv.c = _
          rw [hA]
        rw [e] at h
        exact h)
      have HPS := Lib.hid hps
      have HQQ := Lib.hid hqq
      have hbl := hps.lt
      have hcl := hps.le
      have hcm := hps.elems.cap
      clear hg hA hps hqq hnow
      go_wp2_with fail
      refine Reg.wp_region_vals (R := ext) (W := W2) [Reg.eqv (.pointer (some ⟨j, 0, none⟩)), Reg.eqv (.pointer (some ⟨j, 0, none⟩)), Reg.eqv (.pointer (some ⟨j, 0, none⟩)), Reg.eqv (.pointer (some ⟨d, 0, none⟩)), Reg.eqv (.pointer (some ⟨d, 0, none⟩)), Reg.eqv (.pointer (some ⟨d, 1, none⟩)), Reg.eqv (.map (some mb)), Reg.eqv (.pointer (some ⟨j, 0, none⟩)), Reg.eqv (.pointer (some ⟨j, 0, none⟩)), Reg.eqv (.pointer (some ⟨j, 1, none⟩)), Reg.eqv (.int .i64 ((k : Int))), Reg.eqv (.slice (some ⟨blk sv, 0, none⟩) sv.n sv.c), Reg.eqv (.slice (some ⟨blk sv, 0, none⟩) sv.n sv.c)] 43 [[(0, none)], [(19, some 0)], [(20, some 1)], [(21, some 2)], [(22, some 3)], [(23, some 4)], [(24, some 5)], [(0, none)], [(26, some 7)], [(27, some 8)], [(28, some 9)], [(25, some 6), (29, some 10)], [(30, some 11)]] rfl (by kernel_rfl) (by kernel_rfl) (by kernel_rfl) ?_ [some 19, some 20, some 21, some 22, some 23, some 24, some 25, some 26, some 27, some 28, some 29, some 30, some 2] (by kernel_rfl) ?_
      · refine ⟨?_, ?_, ?_, ?_, ?_, ?_, ?_, ?_, ?_, ?_, ?_, ?_, ?_, trivial⟩
        · intro ax wx hx hs
          obtain ⟨e0, -⟩ := hs
          have g0 := Reg.ev (v := .pointer (some ⟨j, 0, none⟩)) e0
          exact Reg.obl_free rfl (Reg.wp_eqv (Option.some_ne_none _) (by go_simp) rfl)
        · intro ax wx hx hs
          obtain ⟨e19, -⟩ := hs
          have g19 := Reg.ev (v := .pointer (some ⟨j, 0, none⟩)) e19
          exact Reg.obl_free rfl (Reg.wp_eqv (Option.some_ne_none _) (by go_simp) rfl)
        · intro ax wx hx hs
          obtain ⟨e20, -⟩ := hs
          have g20 := Reg.ev (v := .pointer (some ⟨j, 0, none⟩)) e20
          exact Reg.obl_free rfl (Reg.wp_eqv (Option.some_ne_none _) (by go_simp) rfl)
        · intro ax wx hx hs
          obtain ⟨e21, -⟩ := hs
          have g21 := Reg.ev (v := .pointer (some ⟨j, 0, none⟩)) e21
          have l0 := str10 (HI2.out.box.next hx)
          have l1 := job3 (HJ2.out.next hx) hp5
          exact Reg.obl_free rfl (Reg.wp_eqv (Option.some_ne_none _) (by go_simp) rfl)
        · intro ax wx hx hs
          obtain ⟨e22, -⟩ := hs
          have g22 := Reg.ev (v := .pointer (some ⟨d, 0, none⟩)) e22
          exact Reg.obl_free rfl (Reg.wp_eqv (Option.some_ne_none _) (by go_simp) rfl)
        · intro ax wx hx hs
          obtain ⟨e23, -⟩ := hs
          have g23 := Reg.ev (v := .pointer (some ⟨d, 0, none⟩)) e23
          exact Reg.obl_free rfl (Reg.wp_eqv (Option.some_ne_none _) (by go_simp) rfl)
        · intro ax wx hx hs
          obtain ⟨e24, -⟩ := hs
          have g24 := Reg.ev (v := .pointer (some ⟨d, 1, none⟩)) e24
          have l0 := str10 (HI2.out.box.next hx)
          have l1 := job3 (HJ2.out.next hx) hp5
          exact Reg.obl_free rfl (Reg.wp_eqv (Option.some_ne_none _) (by go_simp) rfl)
        · intro ax wx hx hs
          obtain ⟨e0, -⟩ := hs
          have g0 := Reg.ev (v := .pointer (some ⟨j, 0, none⟩)) e0
          exact Reg.obl_free rfl (Reg.wp_eqv (Option.some_ne_none _) (by go_simp) rfl)
        · intro ax wx hx hs
          obtain ⟨e26, -⟩ := hs
          have g26 := Reg.ev (v := .pointer (some ⟨j, 0, none⟩)) e26
          exact Reg.obl_free rfl (Reg.wp_eqv (Option.some_ne_none _) (by go_simp) rfl)
        · intro ax wx hx hs
          obtain ⟨e27, -⟩ := hs
          have g27 := Reg.ev (v := .pointer (some ⟨j, 0, none⟩)) e27
          exact Reg.obl_free rfl (Reg.wp_eqv (Option.some_ne_none _) (by go_simp) rfl)
        · intro ax wx hx hs
          obtain ⟨e28, -⟩ := hs
          have g28 := Reg.ev (v := .pointer (some ⟨j, 1, none⟩)) e28
          have l0 := str10 (HI2.out.box.next hx)
          have l1 := job3 (HJ2.out.next hx) hp5
          exact Reg.obl_free rfl (Reg.wp_eqv (Option.some_ne_none _) (by go_simp) rfl)
        · intro ax wx hx hs
          obtain ⟨e25, e29, -⟩ := hs
          have g25 := Reg.ev (v := .map (some mb)) e25
          have g29 := Reg.ev (v := .int .i64 ((k : Int))) e29
          refine Reg.obl_free rfl ?_
          have hlk := HG.out wx hx
          exact Reg.wp_eqv (Option.some_ne_none _) (by go_simp) rfl
        · intro ax wx hx hs
          obtain ⟨e30, -⟩ := hs
          have g30 := Reg.ev (v := .slice (some ⟨blk sv, 0, none⟩) sv.n sv.c) e30
          exact Reg.obl_free rfl (Reg.wp_eqv (Option.some_ne_none _) (by go_simp) rfl)
      · intro W3 hwf
        simp only [Reg.Fin]
        rintro _ rfl _ rfl _ rfl _ rfl _ rfl _ rfl _ rfl _ rfl _ rfl _ rfl _ rfl _ rfl _ rfl
        go_simp
        have hwf' : Below W2.heap.size W2 W3 := hwf
        have hJ3 := HJ2.out.next hwf'
        have HK3 := Lib.hid (HK2.out.step hwf' HK2.out.size)
        have HI3 := Lib.hid (HI2.out.at_ (fun b hb => hwf'.block b (HI2.out.lt b hb)))
        have hps3 := HPS.out.at_ (hwf'.block _ hbl)
        obtain ⟨u, hu⟩ : ∃ u, sv.n = u + 1 := ⟨sv.n - 1, by omega⟩
        have hqu := HQQ.out
        rw [hu] at hqu
        rw [hu] at hps3
        have hld := hps3.load (k := u) hqu
        obtain ⟨W4, hst, hJ4, hg4, hz4⟩ := job_store hJ3 hp5 hq5
        have hd3 : decide ((0 : Int) < (sv.n : Int)) = true := by simp; omega
        have hu0 : (0 : Int) ≤ (u : Int) := by omega
        have hu1 : (u : Int) < ((u + 1 : Nat) : Int) := by omega
        have hu2 : (u : Int) ≤ 9223372036854775806 := by have := hcm.1; have := hcm.2; unfold maxLen at *; omega
        have fj := job3 hJ3 hp5
        have HJ4 := Lib.hid hJ4
        have HI4 := Lib.hid (HI3.out.at_ (fun b hb => hg4.block b (HI3.out.lt b hb) (by intro e; injection e with e; exact HJN.out (by rw [HB.out, ← e]; exact hb))))
        have HK4 := Lib.hid (HK3.out.grown hg4 HK3.out.size (.inr (by simp)))
        clear hwf hwf' hJ3 hps3 hqu hJ4 hg4 HI2 HI3 HK2 HK3
        go_wp2_with fail
        go_end0
        exact ⟨rfl, bs, ⟨sb, mb, bp, gb, A, n, c, nm, es, HI4.out, HB.out⟩, HK4.out.more (by simp), fun b hb => .inl hb, HJ4.out⟩
end Go.Proofs.Ytldgdgfplgdipaa.DevW
namespace Go.Proofs.Ytldgdgfplgdipaa.DevW
open Go.RowKit Go.Maps
set_option linter.unusedVariables false
set_option linter.unusedSimpArgs false
variable {d sb mb : Nat} {bp bs : List Nat} {gb : Option Nat} {A : Option Addr} {n c nm : Nat} {es : List (Int × SlV)} {X : DevX}
def _root_.Go.Proofs.Ytldgdgfplgdipaa.DevP.synced (X : DevX) : DevX := { X with safe := X.now }
def clrSem (ts : Array TypeId) (ty : TypeId) (args : Array Value) : Sem Value := Builtin.clear_ ts ty args
theorem clr_fold (ts : Array TypeId) (ty : TypeId) (args : Array Value) : Builtin.clear_ ts ty args = clrSem ts ty args := rfl
attribute [local go_sem ↓] ldPage_fold stPage_fold clr_fold
theorem key_inv {key : Value} {kl : Lit} (h : keyOf Try.prog 3 key = some kl) : ∃ x : Int, key = .int .i64 x := by
  obtain ⟨x, rfl, _⟩ := Maps.keyOf_int_inv Try.underlying3 h
  exact ⟨x, rfl⟩
theorem ext_of {a b : List (List UInt8)} (hl : a.length = b.length) (h : ∀ k, k < a.length → a[k]? = b[k]?) : a = b := List.ext_getElem? fun k => by
  by_cases hk : k < a.length
  · exact h k hk
  · rw [List.getElem?_eq_none (by omega), List.getElem?_eq_none (by omega)]
set_option maxRecDepth 100000 in
set_option maxHeartbeats 2000000 in
theorem sync_act (w : World) (hD : Dev w d bs X) :
    Calls Try.prog 50 #[.pointer (some ⟨d, 0, none⟩)] w (Acts w d bs [] (DevP.synced X) fun _ => True) := by
  have HD := Lib.hid hD
  have hok := hD.ok
  have hN := hok.n1
  obtain ⟨sb, mb, bp, gb, A0, n0, c0, nm, es, hI, hbs⟩ := hD
  have hl := hI.box.lt
  have hsl := hI.pages.row.lt
  have hml := hI.pages.map.lt
  have hnd := hI.pages.nd
  rw [hI.pages.bpe] at hnd
  simp only [List.nodup_cons, List.mem_cons, not_or] at hnd
  have HSE : Hid (∀ p ∈ es, blk p.2 ≠ sb) := Lib.hid (fun p hp e => hnd.1.2 (List.mem_map.2 ⟨p, hp, e⟩))
  have hsm : sb ≠ mb := hnd.1.1
  have hsd : d ≠ sb := fun e => hI.bp_ne sb (by rw [hI.pages.bpe]; simp) e.symm
  have f1 := str10 hI.box
  have HI := Lib.hid hI
  have HB := Lib.hid hbs
  have HOK := Lib.hid hok
  clear hI hbs hok hnd
  go_enter Try.func50, Try.ntmps50
  go_wp2_with (first
    | (at_range; refine wpList_range_own _ rfl _ 62 rfl 3 61 law Try.underlying62 (MapP.rdE slE) mb nm (MapP.dat intK es) rfl HI.out.pages.map.own ?_; intro w0 hrg0 hg0 hs0)
    | go_in)
  go_frame
  have HRG := Lib.hid hrg0
  have HB0 : Hid (Below w.heap.size w w0) := Lib.hid ⟨hg0.os, hg0.tape, hg0.output, hg0.size, fun k hk => hg0.block k hk (by simp)⟩
  clear hrg0 hg0 hs0 f1
  go_loopw [2] (fun _ wr => ∃ (left : Lit → Bool) (cnt : Nat) (sf : List (List UInt8)), Hid (wr.ranges Try.prog 3 (MapP.rdE slE) mb w.heap.size nm (MapP.dat intK es) left cnt ∧ Pgs 30 wr sb X.safe.length X.safe.length sf ∧ (∀ k : Nat, k < X.safe.length → left (intK.lit (k : Int)) = false → sf[k]? = X.now[k]?) ∧ Reg.KeepB w.heap.size [sb] w wr))
    (fun _ wr => wr.rangeLeft mb w.heap.size)
  case atStart =>
    refine ⟨_, _, X.safe, Lib.hid ⟨HRG.out, HI.out.pages.row.at_ (HB0.out.block sb hsl), fun k hk h => ?_, Reg.KeepB.of HB0.out⟩⟩
    rw [MapP.has_dat, MapP.has_false] at h
    exact (HI.out.pages.rest k hk (MapP.get_none.2 h)).symm
  case round =>
    obtain ⟨left, cnt, sf, HK⟩ := hrel
    have hwr := HK.out.2.2.2.size
    have hmr : wr.heap[mb]? = w.heap[mb]? := HK.out.2.2.2.block mb hml (by simpa using hsm.symm)
    have hdr : Str wr d (devC X.safe.length sb mb A0 n0 c0 X) := HK.out.2.2.2.str HI.out.box hl (by simpa using hsd)
    have HDR := Lib.hid hdr
    have hlr : d < wr.heap.size := hdr.lt
    have hsr : sb < wr.heap.size := HK.out.2.1.lt
    have hmlr : mb < wr.heap.size := by omega
    have hsfl : sf.length = X.safe.length := HK.out.2.1.len
    have HMR := Lib.hid hmr
    clear hmr hdr
    go_wp2_with (first
      | (at_next; refine wpList_next_ranges _ rfl _ rfl 3 law (MapP.rdE slE) (fun x : Int => Value.int .i64 x) (fun s : SlV => Value.slice s.A s.n s.c) (fun key kl hk => key_inv hk) (fun v y hv => by obtain ⟨s, rfl, _⟩ := MapP.rd_inv slE hv; exact ⟨s, rfl⟩) mb w.heap.size nm _ _ _ rfl HK.out.1 ?_ ?_)
      | go_in)
    · intro _ hl0
      have hnow : sf = X.now := ext_of (by rw [hsfl, HOK.out.nl]) (fun k hk => HK.out.2.2.1 k (by omega) (hl0 _))
      have hMM : MapM Try.prog intK slE 3 wr mb nm es := HI.out.pages.map.at_ HMR.out
      obtain ⟨w4, hclr, hM4, ht4⟩ := hMM.clear Try.underlying62 0
      have hg4 := ht4.grown
      have fr := str10 HDR.out
      have HW4 : Hid (MapM Try.prog intK slE 3 w4 mb 0 []) := Lib.hid hM4
      have HG4 := Lib.hid hg4
      have hcl : (clrSem #[62] 0 #[.map (some mb)]).run Try.prog wr = .ok (.tuple #[]) w4 := hclr
      clear hl0 hMM hM4 ht4 hg4 hclr
      go_wp2
      go_end0
      have ho := HOK.out
      have hin := HI.out
      have hsb4 : w4.heap[sb]? = wr.heap[sb]? := HG4.out.block sb hsr (by intro e; injection e with e; exact hsm e)
      have hd4 : Str w4 d (devC X.now.length sb mb A0 n0 c0 (DevP.synced X)) := by
        rw [ho.nl]
        exact HDR.out.grown HG4.out (fun e => by
          obtain ⟨t, ht⟩ := HDR.out
          obtain ⟨es5, c5, hb5, -⟩ := (hin.pages.map.at_ HMR.out).own
          rw [e, hb5] at ht
          cases ht)
      have hk4 : Reg.KeepB w.heap.size [sb, mb] w w4 := (HK.out.2.2.2.more (by simp)).grown HG4.out hwr (.inr (by simp))
      have hgn : ∀ x, gb = some x → x ∉ [sb, mb] := fun x e h => by
        have h1 := hin.nd
        rw [hin.pages.bpe] at h1
        simp only [List.nodup_cons, List.nodup_append, List.mem_append] at h1
        exact h1.2.2.2 x (by simp [e]) x (by simp only [List.mem_cons, List.not_mem_nil, or_false] at h ⊢; rcases h with h | h; exact .inl h; exact .inr (.inl h)) rfl
      have hlog := hin.log.at_ (w' := w4) (fun x e => hk4.block x (hin.log.lt x e) (hgn x e))
      have hnd : (d :: (gb.toList ++ [sb, mb])).Nodup := by
        have h1 := hin.nd
        rw [hin.pages.bpe] at h1
        refine List.Sublist.nodup ?_ h1
        refine List.Sublist.cons_cons _ (List.Sublist.append (List.Sublist.refl _) ?_)
        exact List.Sublist.cons_cons _ (List.Sublist.cons_cons _ (List.nil_sublist _))
      have hpg : Pages w4 sb mb [sb, mb] X.now X.now X.wr 0 [] := ⟨by rw [ho.nl, ← hnow]; exact HK.out.2.1.at_ hsb4, HW4.out, (fun p hp => absurd hp List.not_mem_nil), (fun k hk h => rfl), rfl, by simp [hsm], Nat.zero_le _⟩
      have hok2 : DevP.Ok (DevP.synced X) := ⟨by show 1 ≤ X.now.length; rw [ho.nl]; exact ho.n0, by show X.now.length ≤ 1024; rw [ho.nl]; exact ho.n1, rfl, ho.h0, ho.s0, ho.s1, ho.t0, ho.t1, ho.o0, ho.f0, ho.f1, ho.w1, ho.w1⟩
      have hsub : ∀ b ∈ [sb, mb], b ∈ bp := fun b hb => by
        rw [hin.pages.bpe]
        simp only [List.mem_cons, List.not_mem_nil, or_false] at hb ⊢
        rcases hb with h | h
        · exact .inl h
        · exact .inr (.inl h)
      refine ⟨rfl, _, ⟨sb, mb, [sb, mb], gb, A0, n0, c0, 0, [], ⟨hd4, hpg, hlog, hnd, hok2⟩, rfl⟩, hk4.more (fun b hb => by rw [HB.out]; simp [hsub b hb]), fun b hb => ?_, trivial⟩
      rw [HB.out]
      simp only [List.mem_cons, List.mem_append] at hb ⊢
      rcases hb with rfl | hb | hb
      · exact .inl (.inl rfl)
      · exact .inl (.inr (.inl hb))
      · exact .inl (.inr (.inr (hsub b (by simpa using hb))))
    · intro x sv kl yd yp w1 cnt1 hkey hlk hv hat hrg1 hcl hg1 hs1 hen
      obtain ⟨x', ex, rfl, -⟩ := Maps.keyOf_int_inv Try.underlying3 hkey
      cases ex
      obtain ⟨sv', hget, he⟩ := MapP.at_ent intK (L := es) (k := x) hat
      obtain rfl : sv = sv' := by
        have h1 : some (yd, yp) = some (DataW.held sv, []) := hv.symm.trans (MapP.rd_val slE sv)
        simp only [Option.some.injEq, Prod.mk.injEq] at h1
        have h2 := h1.1.symm.trans he
        injection h2
      have hent := HI.out.pages.ent _ (MapP.get_mem hget)
      have hx0 := hent.k0
      have hx1 := hent.k1
      dsimp only at hx0 hx1
      obtain ⟨k, rfl⟩ : ∃ k : Nat, x = (k : Int) := ⟨x.toNat, by omega⟩
      have hk : k < X.safe.length := by omega
      have hes := HSE.out _ (MapP.get_mem hget)
      have hbl0 := hent.lt
      have hentr : Ent wr X.safe.length X.now X.wr ((k : Int), sv) := hent.at_ (HK.out.2.2.2.block _ hbl0 (by simpa using hes))
      obtain ⟨ps, q, hA, hps, hn1, hqq, hnow⟩ := hentr.look
      have hq5 : q.length = 512 := HOK.out.w1 q (List.mem_of_getElem? hnow)
      obtain ⟨bk, hbk⟩ : ∃ b, blk sv = b := ⟨_, rfl⟩
      rw [hbk] at hA hps
      have hne1 : bk ≠ w.heap.size := by rw [← hbk]; dsimp only at hbl0; omega
      have hps1 : Pgs 30 w1 bk sv.n sv.c ps := hps.at_ (hg1.block bk hps.lt (by intro e; injection e with e; exact hne1 e))
      have hsf1 : Pgs 30 w1 sb X.safe.length X.safe.length sf := HK.out.2.1.at_ (hg1.block sb hsr (by intro e; injection e with e; omega))
      have hd1 : Str w1 d (devC X.safe.length sb mb A0 n0 c0 X) := HDR.out.grown hg1 (by omega)
      have hk1 : Reg.KeepB w.heap.size [sb] w w1 := HK.out.2.2.2.grown hg1 hwr (.inl (Nat.le_refl _))
      have hbkl := hps1.lt
      have hsbl := hsf1.lt
      have hdl1 := hd1.lt
      have HPS := Lib.hid hps1
      have HSF := Lib.hid hsf1
      have HD1 := Lib.hid hd1
      have HK1 := Lib.hid hk1
      have HRG1 := Lib.hid hrg1
      have HCL := Lib.hid hcl
      have HNOW := Lib.hid hnow
      have HQQ := Lib.hid hqq
      have HLEFT := Lib.hid HK.out.2.2.1
      have HRGO := Lib.hid HK.out.1
      obtain ⟨An, nn, cn⟩ := sv
      dsimp only at hA hn1 HPS hen HQQ
      subst hA
      obtain ⟨u, rfl⟩ : ∃ u, nn = u + 1 := ⟨nn - 1, by omega⟩
      have hcap := HPS.out.elems.cap
      have hcm := hcap.2
      unfold maxLen at hcm
      have hcl2 := hcap.1
      have HQU : Hid (ps[u]? = some q) := Lib.hid HQQ.out
      have hu0 : (0 : Int) ≤ (u : Int) := by omega
      have hu1 : (u : Int) < ((u + 1 : Nat) : Int) := by omega
      have hu2 : (u : Int) ≤ 9223372036854775806 := by omega
      have hkk0 : (0 : Int) ≤ (k : Int) := by omega
      have hkk1 : (k : Int) < (X.safe.length : Int) := by omega
      clear hkey hlk hv hat hrg1 hcl hg1 hs1 he hget hent hes hbl0 hentr hps hqq hnow hbk hps1 hsf1 hd1 hk1 HQQ HK HDR HMR hcap
      go_wp2_with fail
      refine Reg.wp_region_tail (R := ext) (W := w1) [Reg.eqv (.pointer (some ⟨d, 0, none⟩)), Reg.eqv (.pointer (some ⟨d, 0, none⟩)), Reg.eqv (.pointer (some ⟨d, 0, none⟩)), Reg.eqv (.slice (some ⟨sb, 0, none⟩) X.safe.length X.safe.length), Reg.eqv (.int .i64 ((k : Int))), Reg.eqv (.slice (some ⟨bk, 0, none⟩) (u + 1) cn), Reg.eqv (.slice (some ⟨bk, 0, none⟩) (u + 1) cn), Reg.eqv (.int .i64 ((u : Int) + 1)), Reg.eqv (.int .i64 (u : Int)), Reg.eqv (.pointer (some ⟨bk, u * 512, none⟩)), Reg.eqv (.agg (rowV q)), Reg.eqv (.pointer (some ⟨sb, k * 512, none⟩))] 30 12 _ [[(0, none)], [(14, some 0)], [(15, some 1)], [(16, some 2)], [(2, none)], [(3, none)], [(3, none)], [(20, some 6)], [(21, some 7)], [(19, some 5), (22, some 8)], [(23, some 9)], [(17, some 3), (18, some 4)]] rfl (by kernel_rfl) (by kernel_rfl) (by rfl) (by rfl) rfl (by kernel_rfl) ?_ [some 14, some 15, some 16, some 17, some 18, some 19, some 20, some 21, some 22, some 23, some 24, some 25] (by kernel_rfl) ?_
      · refine ⟨?_, ?_, ?_, ?_, ?_, ?_, ?_, ?_, ?_, ?_, ?_, ?_, trivial⟩
        · intro ax wx hx hs
          obtain ⟨e0, -⟩ := hs
          have g0 := Reg.ev (v := .pointer (some ⟨d, 0, none⟩)) e0
          exact Reg.obl_free rfl (Reg.wp_eqv (Option.some_ne_none _) (by go_simp) rfl)
        · intro ax wx hx hs
          obtain ⟨e14, -⟩ := hs
          have g14 := Reg.ev (v := .pointer (some ⟨d, 0, none⟩)) e14
          exact Reg.obl_free rfl (Reg.wp_eqv (Option.some_ne_none _) (by go_simp) rfl)
        · intro ax wx hx hs
          obtain ⟨e15, -⟩ := hs
          have g15 := Reg.ev (v := .pointer (some ⟨d, 0, none⟩)) e15
          exact Reg.obl_free rfl (Reg.wp_eqv (Option.some_ne_none _) (by go_simp) rfl)
        · intro ax wx hx hs
          obtain ⟨e16, -⟩ := hs
          have g16 := Reg.ev (v := .pointer (some ⟨d, 0, none⟩)) e16
          have l0 := str10 (HD1.out.next hx)
          exact Reg.obl_free rfl (Reg.wp_eqv (Option.some_ne_none _) (by go_simp) rfl)
        · intro ax wx hx hs
          obtain ⟨e2, -⟩ := hs
          have g2 := Reg.ev (v := .int .i64 ((k : Int))) e2
          exact Reg.obl_free rfl (Reg.wp_eqv (Option.some_ne_none _) (by go_simp) rfl)
        · intro ax wx hx hs
          obtain ⟨e3, -⟩ := hs
          have g3 := Reg.ev (v := .slice (some ⟨bk, 0, none⟩) (u + 1) cn) e3
          exact Reg.obl_free rfl (Reg.wp_eqv (Option.some_ne_none _) (by go_simp) rfl)
        · intro ax wx hx hs
          obtain ⟨e3, -⟩ := hs
          have g3 := Reg.ev (v := .slice (some ⟨bk, 0, none⟩) (u + 1) cn) e3
          exact Reg.obl_free rfl (Reg.wp_eqv (Option.some_ne_none _) (by go_simp) rfl)
        · intro ax wx hx hs
          obtain ⟨e20, -⟩ := hs
          have g20 := Reg.ev (v := .slice (some ⟨bk, 0, none⟩) (u + 1) cn) e20
          exact Reg.obl_free rfl (Reg.wp_eqv (Option.some_ne_none _) (by go_simp) rfl)
        · intro ax wx hx hs
          obtain ⟨e21, -⟩ := hs
          have g21 := Reg.ev (v := .int .i64 ((u : Int) + 1)) e21
          refine Reg.obl_free rfl ?_
          exact Reg.wp_eqv (Option.some_ne_none _) (by go_simp; exact IntWalk.i64_in _ (by omega)) rfl
        · intro ax wx hx hs
          obtain ⟨e19, e22, -⟩ := hs
          have g19 := Reg.ev (v := .slice (some ⟨bk, 0, none⟩) (u + 1) cn) e19
          have g22 := Reg.ev (v := .int .i64 (u : Int)) e22
          refine Reg.obl_free rfl ?_
          exact Reg.wp_eqv (Option.some_ne_none _) (by go_simp; intro h; omega) rfl
        · intro ax wx hx hs
          obtain ⟨e23, -⟩ := hs
          have g23 := Reg.ev (v := .pointer (some ⟨bk, u * 512, none⟩)) e23
          have l0 := str10 (HD1.out.next hx)
          refine Reg.obl_free rfl ?_
          have hld := (HPS.out.at_ (hx.block bk hbkl)).load HQU.out
          exact Reg.wp_eqv (Option.some_ne_none _) (by go_simp) rfl
        · intro ax wx hx hs
          obtain ⟨e17, e18, -⟩ := hs
          have g17 := Reg.ev (v := .slice (some ⟨sb, 0, none⟩) X.safe.length X.safe.length) e17
          have g18 := Reg.ev (v := .int .i64 ((k : Int))) e18
          exact Reg.obl_free rfl (Reg.wp_eqv (Option.some_ne_none _) (by go_simp) rfl)
      · intro W2 hwf
        simp only [Reg.Fin]
        rintro _ rfl _ rfl _ rfl _ rfl _ rfl _ rfl _ rfl _ rfl _ rfl _ rfl _ rfl _ rfl
        have hwf' : Below w1.heap.size w1 W2 := hwf
        obtain ⟨W3, hst, hsf3, hg3, hz3⟩ := (HSF.out.at_ (hwf'.block sb hsbl)).store (k := k) hk hq5
        have HK3 := Lib.hid ((HK1.out.step hwf' HK1.out.size).grown hg3 (by have := HK1.out.size; have := hwf'.size; omega) (.inr (by simp)))
        have HSF3 := Lib.hid hsf3
        have HRG3 := Lib.hid ((HRG1.out.kept (row := none) ⟨hwf'.os, hwf'.tape, hwf'.output, hwf'.size, fun i hi _ => hwf'.block i hi⟩ (by simp) (by simp)).kept hg3 (by intro e; injection e with e; exact hsm e.symm) (by intro e; injection e with e; omega))
        clear hwf hwf' hsf3 hg3
        refine Reg.Goal.mk ?_
        go_simp
        clear hst
        go_wp2
        go_roundw
        case rel =>
          refine ⟨_, cnt1, sf.set k q, Lib.hid ⟨HRG3.out, HSF3.out, fun i hi hl => ?_, HK3.out⟩⟩
          by_cases hik : i = k
          · subst hik
            rw [List.getElem?_set_self (by omega), HNOW.out]
          · rw [List.getElem?_set_ne (by omega)]
            refine HLEFT.out i hi ?_
            have hs := intK.same (i : Int) (k : Int)
            have hd : decide ((i : Int) = (k : Int)) = false := by simp; omega
            rw [hd] at hs
            have hl2 : (left (intK.lit (i : Int)) && !(intK.lit (i : Int)).sameKey (intK.lit (k : Int))) = false := hl
            rw [hs] at hl2
            simpa using hl2
        case measure => rw [HRG3.out.left_eq, HRGO.out.left_eq]; exact HCL.out
set_option maxRecDepth 100000 in
set_option maxHeartbeats 1000000 in
theorem Sync_any (w : World) (hD : Dev w d bs X) (hs : X.ops ≤ 1000000000) :
    Calls Try.prog 29 #[.pointer (some ⟨d, 0, none⟩)] w (Told w d bs (DevP.op X true (DevP.synced X)) (.int .i64 (DevP.err X true))) := by
  have hmf : ∀ (fn : Fn) (first cap : Array Value) (w : World), (Instr.makeFunc fn first cap).run Try.prog w = .ok (.func fn first cap) w := fun _ _ _ _ => rfl
  go_enter Try.func29, Try.ntmps29
  go_wp2_with fail
  refine (do_any 50 #[.pointer (some ⟨d, 0, none⟩)] (fun _ => True) [] true w (DevP.synced X) hD hs (by simp) (fun _ _ _ _ => trivial) rfl rfl rfl (fun _ => rfl) (fun _ W hb => ?_)).mono ?_
  · refine (sync_act W (hD.below hb)).mono ?_
    exact fun e w' h => h
  · rintro e w1 h
    have HT := Lib.hid (h.told (bsame w) (by simp))
    obtain ⟨rfl, -⟩ := h
    go_wp2
    go_ret
    exact HT.out
end Go.Proofs.Ytldgdgfplgdipaa.DevW
namespace Go.Proofs.Ytldgdgfplgdipaa.DevW
open Go.RowKit Go.Maps
set_option linter.unusedVariables false
set_option linter.unusedSimpArgs false
variable {d sb mb : Nat} {bp bs : List Nat} {gb : Option Nat} {A : Option Addr} {n c nm : Nat} {es : List (Int × SlV)} {X : DevX}
attribute [local go_sem ↓] ldPage_fold stPage_fold bdPage_fold alPage_fold alJob_fold bdJob_fold stJob_fold
theorem results_page {fn : Func} {p u : Tmp} (h : fn.results = #[.cell p 30, .tmp u]) (tmps : Array Value) {w : World} {g : Nat} {l : List UInt8} (hs : Str w g (rowV l)) (hl : l.length = 512) (hp : tmps.getD p undef = .pointer (some ⟨g, 0, none⟩)) :
    (results fn tmps).run Try.prog w = .ok (.tuple #[.agg (rowV l), tmps.getD u undef]) w := by
  have hr := run_ld (P := Try.prog) arrPage hs hl
  simp only [ldSem, Instr.loadAt, Instr.sureAddr, Sem.run_bind, Sem.run_pure, Result.andThen_ok] at hr
  rw [results_cell_tmp h, hp]
  simp [asAddr, hr]
/-- what a page reads as -/
def _root_.Go.Proofs.Ytldgdgfplgdipaa.DevP.read (X : DevX) (no : Int) (fits : Bool) : List UInt8 := if DevP.err X fits = 0 then (X.now[no.toNat]?).getD (SlotP.zeros 512) else SlotP.zeros 512
theorem op_same (X : DevX) (fits : Bool) : (DevP.op X fits X).safe = X.safe ∧ (DevP.op X fits X).now = X.now := by
  unfold DevP.op DevP.done DevP.stop
  repeat' split
  all_goals exact ⟨rfl, rfl⟩
abbrev fitsN (X : DevX) (no : Int) : Bool := decide (0 ≤ no) && decide (no < (X.safe.length : Nat))
set_option maxRecDepth 100000 in
set_option maxHeartbeats 1000000 in
theorem Read_any (no : Int) (w : World) (hD : Dev w d bs X) (hs : X.ops ≤ 1000000000) :
    Calls Try.prog 16 #[.pointer (some ⟨d, 0, none⟩), .int .i64 no] w (Told w d bs (DevP.op X (fitsN X no) X) (.tuple #[.agg (rowV (DevP.read X no (fitsN X no))), .int .i64 (DevP.err X (fitsN X no))])) := by
  have hmf : ∀ (fn : Fn) (first cap : Array Value) (w : World), (Instr.makeFunc fn first cap).run Try.prog w = .ok (.func fn first cap) w := fun _ _ _ _ => rfl
  have hz512 : (SlotP.zeros 512).length = 512 := List.length_replicate
  have halp := fun W => run_al (P := Try.prog) arrPage W
  have hal := job_al
  have hbd := fun W => job_bd2 d no W
  have hsz0 : (w.alloc (.cells (rowV (SlotP.zeros 512)) 30)).heap.size = w.heap.size + 1 := by simp
  have hst := job_st (d := d) (n := no) (l := SlotP.zeros 512) (A := none) (m := 0) (c := 0) (Str.new (w.alloc (.cells (rowV (SlotP.zeros 512)) 30)) jobZ 67) hz512
  rw [hsz0] at hst
  obtain ⟨W1, hW1⟩ : ∃ W, ((w.alloc (.cells (rowV (SlotP.zeros 512)) 30)).alloc (.cells jobZ 67)).setRow (w.heap.size + 1) (jobC d no (SlotP.zeros 512) (.slice none 0 0)) = W := ⟨_, rfl⟩
  rw [hW1] at hst
  have hJ1 : Str W1 (w.heap.size + 1) (jobC d no (SlotP.zeros 512) (.slice none 0 0)) := by rw [← hW1, ← hsz0]; exact (Str.new _ _ _).setRow
  have hP1 : Str W1 w.heap.size (rowV (SlotP.zeros 512)) := by rw [← hW1]; exact ((Str.new w _ _).alloc _).setRow_other (by omega)
  have hb1 : Below w.heap.size w W1 := by rw [← hW1]; exact below_setRow (balloc (balloc (bsame _) _) _) (by omega) _
  have hD1 := hD.below hb1
  have hj : w.heap.size + 1 ∉ bs := fun hm => by have := hD.lt _ hm; omega
  have hpn : w.heap.size ∉ bs := fun hm => by have := hD.lt _ hm; omega
  have HJ1 := Lib.hid hJ1
  have HP1 := Lib.hid hP1
  have HB1 := Lib.hid hb1
  have HD1 := Lib.hid hD1
  have HJN := Lib.hid hj
  have HPN := Lib.hid hpn
  clear hW1 hJ1 hP1 hb1 hD1 hj hpn hsz0
  obtain ⟨fits, hfits⟩ : ∃ f, fitsN X no = f := ⟨_, rfl⟩
  rw [hfits]
  have HFI := Lib.hid hfits
  clear hfits
  go_enter Try.func16, Try.ntmps16
  go_wp2_with fail
  refine (has_any no W1 HD1.out).mono ?_
  rintro e W2 ⟨rfl, hb2⟩
  rw [show (decide (0 ≤ no) && decide (no < (X.safe.length : Nat))) = fits from HFI.out]
  have hd2 := HD1.out.below hb2
  have hJ2 := HJ1.out.next hb2
  have hP2 := HP1.out.next hb2
  have hjl := hJ2.lt
  have hb3 := bstep HB1.out hb2
  clear hst hbd hal halp hb2
  go_wp2_with fail
  refine (do_any 39 #[.pointer (some ⟨w.heap.size + 1, 0, none⟩)] (fun W => Str W (w.heap.size + 1) (jobC d no ((X.now[no.toNat]?).getD (SlotP.zeros 512)) (.slice none 0 0))) [w.heap.size + 1] fits W2 X hd2 hs (by simpa using hjl) (fun W3 W4 hg hS => hS.grown hg (fun e => HJN.out (by rw [e]; exact hd2.mem))) rfl rfl rfl (fun _ => rfl) (fun hf W hb => ?_)).mono ?_
  · subst hf
    have hf := HFI.out
    simp only [fitsN, Bool.and_eq_true, decide_eq_true_eq] at hf
    obtain ⟨k, rfl⟩ : ∃ k : Nat, no = (k : Int) := ⟨no.toNat, by omega⟩
    have hk : k < X.safe.length := by omega
    have hkn : k < X.now.length := by rw [hD.ok.nl]; exact hk
    refine (read_act (w.heap.size + 1) k _ X.now[k] none 0 0 W (hJ2.next hb) hz512 (hd2.below hb) HJN.out hk (List.getElem?_eq_getElem hkn)).mono ?_
    intro e w' h
    rw [show ((k : Int).toNat) = k from rfl, List.getElem?_eq_getElem hkn]
    exact h
  · rintro e W3 hdid
    obtain ⟨rfl, bs', k1, k2, k3, k4, k5⟩ := hdid
    have hwide : (DevP.read X no fits).length = 512 := by
      unfold DevP.read
      split
      · cases hg : X.now[no.toNat]? with
        | none => exact hz512
        | some q => exact hD.ok.w1 q (List.mem_of_getElem? hg)
      · exact hz512
    have hJ3 : Str W3 (w.heap.size + 1) (jobC d no (DevP.read X no fits) (.slice none 0 0)) := by
      unfold DevP.read
      by_cases he : DevP.err X fits = 0
      · rw [if_pos he]
        exact k4 he
      · rw [if_neg he]
        exact hJ2.keepB (k5 he) HJN.out
    have hP3 : Str W3 w.heap.size (rowV (SlotP.zeros 512)) := hP2.keepB k3 (by
      intro h
      rcases List.mem_append.1 h with h | h
      · rw [List.mem_singleton] at h; omega
      · exact HPN.out h)
    have hld := job_load hJ3 hwide
    have hst := run_st (P := Try.prog) arrPage hP3 (by rw [rowV_size]; exact hz512) hwide
    have hjl3 := hJ3.lt
    have hpl3 := hP3.lt
    have hg4 := grown_setRow W3 w.heap.size (rowV (DevP.read X no fits))
    have HS4 := Lib.hid (hP3.setRow (cs' := rowV (DevP.read X no fits)))
    have HW := Lib.hid hwide
    have hnb : w.heap.size ∉ bs' := fun hm => by
      rcases k2 _ hm with h | h
      · exact HPN.out h
      · omega
    have HD4 := Lib.hid (k1.grown hg4 hnb)
    have HK4 := Lib.hid ((keep_since hb3 k3 (by simp)).grown hg4 (Nat.le_trans hb3.size k3.size) (.inl (Nat.le_refl _)))
    have HN4 : Hid (∀ b ∈ bs', b ∈ bs ∨ w.heap.size ≤ b) := Lib.hid (fun b hb => (k2 b hb).imp id fun h => Nat.le_trans hb3.size h)
    clear k1 k2 k3 k4 k5 hJ3 hP3 hJ2 hP2 hg4 hnb
    go_wp2_with fail
    exact bodyPost_ret (v := .tuple #[.agg (rowV (DevP.read X no fits)), .int .i64 (DevP.err X fits)]) (results_page Try.results16 _ HS4.out HW.out rfl) rfl ⟨rfl, bs', HD4.out, HN4.out, HK4.out⟩
end Go.Proofs.Ytldgdgfplgdipaa.DevW
namespace Go.Proofs.Ytldgdgfplgdipaa.DevW
open Go.RowKit Go.Maps
set_option linter.unusedVariables false
set_option linter.unusedSimpArgs false
/-- how many pages a device has -/
def _root_.Go.Proofs.Ytldgdgfplgdipaa.DevP.many (n : Int) : Nat := (min (max n 1) 1024).toNat
/-- the call hands back a new device -/
def GivesDev (w : World) (X : DevX) (e : Ending) (w' : World) : Prop := ∃ d bs, e = .returned (.pointer (some ⟨d, 0, none⟩)) ∧ Dev w' d bs X ∧ (∀ b ∈ bs, w.heap.size ≤ b) ∧ Below w.heap.size w w'
theorem new_in (N : Nat) (h1 : 1 ≤ N) (h2 : N ≤ 1024) (w w1 : World) (hz : w1.heap.size = w.heap.size + 1) (hb : Below w.heap.size w w1) (hO : OwnE PageE 30 w1 w.heap.size (some ⟨w.heap.size, 0, none⟩) N N (List.replicate N (SlotP.zeros 512))) (T : TypeId) :
    GivesDev w (DevP.new N) (.returned (.pointer (some ⟨w1.heap.size + 1, 0, none⟩))) ((w1.alloc (.map #[] 0)).alloc (.cells (devC N w.heap.size w1.heap.size none 0 0 (DevP.new N)) T)) := by
  have hm := MapM.made (P := Try.prog) (S := intK) (E := slE) (kt := 3) w1
  have hb1 : Below w1.heap.size w1 (w1.alloc (.map #[] 0)) := balloc (bsame w1) _
  have hs1 : (w1.alloc (.map #[] 0)).heap.size = w1.heap.size + 1 := by simp
  have hb2 : Below (w1.alloc (.map #[] 0)).heap.size (w1.alloc (.map #[] 0)) ((w1.alloc (.map #[] 0)).alloc (.cells (devC N w.heap.size w1.heap.size none 0 0 (DevP.new N)) T)) := balloc (bsame _) _
  have hlen : (List.replicate N (SlotP.zeros 512)).length = N := List.length_replicate
  have hrow : Pgs 30 w1 w.heap.size N N (List.replicate N (SlotP.zeros 512)) := hO.less (Nat.zero_le _)
  refine ⟨w1.heap.size + 1, [w1.heap.size + 1, w.heap.size, w1.heap.size], rfl, ⟨w.heap.size, w1.heap.size, [w.heap.size, w1.heap.size], none, none, 0, 0, 0, [], ⟨?_, ⟨?_, hm.at_ (hb2.block _ (by omega)), fun p hp => absurd hp List.not_mem_nil, fun k hk h => rfl, rfl, by simp; omega, Nat.zero_le _⟩, OwnS.none_ _, by simp; omega, DevP.ok_new h1 h2⟩, rfl⟩, ?_, (hb.trans (hb1.mono (by omega))).trans (hb2.mono (by omega))⟩
  · have := Str.new (w1.alloc (.map #[] 0)) (devC N w.heap.size w1.heap.size none 0 0 (DevP.new N)) T
    rw [hs1] at this
    show Str _ _ (devC (List.replicate N (SlotP.zeros 512)).length _ _ _ _ _ _)
    rw [hlen]
    exact this
  · show Pgs _ _ _ (List.replicate N (SlotP.zeros 512)).length (List.replicate N (SlotP.zeros 512)).length _
    rw [hlen]
    exact hrow.at_ ((hb2.block _ (by omega)).trans (hb1.block _ (by omega)))
  · intro b hb
    simp only [List.mem_cons, List.not_mem_nil, or_false] at hb
    omega
theorem make_pages (N : Nat) (h2 : N ≤ 1024) (w : World) : ∃ w1, (Instr.makeSlice 61 (.int .i64 (N : Int)) (.int .i64 (N : Int))).run Try.prog w = .ok (.slice (some ⟨w.heap.size, 0, none⟩) N N) w1 ∧ OwnE PageE 30 w1 w.heap.size (some ⟨w.heap.size, 0, none⟩) N N (List.replicate N (SlotP.zeros 512)) ∧ Below w.heap.size w w1 ∧ w1.heap.size = w.heap.size + 1 := by
  obtain ⟨i0, hi0, iz0, iz1, iz2⟩ := info_parts infoP
  exact own_made (E := PageE) (P := Try.prog) 61 i0 _ ((SlotP.zeros 512).map byteV) (SlotP.zeros 512) Try.underlying61 hi0 iz0 iz1 (by rw [← rowV_zeros]; rfl) (fun _ _ => ⟨rfl, List.length_replicate⟩) N (by rw [iz2]; omega) (by omega) w
set_option maxRecDepth 100000 in
set_option maxHeartbeats 1000000 in
theorem new_low (n : Int) (hn : n < 1) (w : World) : Calls Try.prog 14 #[.int .i64 n] w (GivesDev w (DevP.new 1)) := by
  obtain ⟨w1, hr, hO, hb, hz⟩ := make_pages 1 (by omega) w
  have hmm := @run_makeMap Try.prog
  have HF := Lib.hid (new_in 1 (by omega) (by omega) w w1 hz hb hO 64)
  clear hO hb hz
  simp only [Int.natCast_one] at hr
  go_enter Try.func14, Try.ntmps14
  go_wp2
  go_ret
  exact HF.out
set_option maxRecDepth 100000 in
set_option maxHeartbeats 1000000 in
theorem new_high (n : Int) (hn : 1024 < n) (w : World) : Calls Try.prog 14 #[.int .i64 n] w (GivesDev w (DevP.new 1024)) := by
  obtain ⟨w1, hr, hO, hb, hz⟩ := make_pages 1024 (by omega) w
  have hmm := @run_makeMap Try.prog
  have HF := Lib.hid (new_in 1024 (by omega) (by omega) w w1 hz hb hO 64)
  clear hO hb hz
  have hr2 : (Instr.makeSlice 61 (.int .i64 1024) (.int .i64 1024)).run Try.prog w = .ok (.slice (some ⟨w.heap.size, 0, none⟩) 1024 1024) w1 := hr
  clear hr
  go_enter Try.func14, Try.ntmps14
  go_wp2
  go_ret
  exact HF.out
set_option maxRecDepth 100000 in
set_option maxHeartbeats 1000000 in
theorem new_mid (n : Int) (N : Nat) (hn : n = (N : Int)) (h1 : 1 ≤ N) (h2 : N ≤ 1024) (w : World) : Calls Try.prog 14 #[.int .i64 n] w (GivesDev w (DevP.new N)) := by
  obtain ⟨w1, hr, hO, hb, hz⟩ := make_pages N (by omega) w
  have hmm := @run_makeMap Try.prog
  have HF := Lib.hid (new_in N (by omega) (by omega) w w1 hz hb hO 64)
  clear hO hb hz
  subst hn
  go_enter Try.func14, Try.ntmps14
  go_wp2
  go_ret
  exact HF.out
theorem new_any (n : Int) (w : World) : Calls Try.prog 14 #[.int .i64 n] w (GivesDev w (DevP.new (DevP.many n))) := by
  unfold DevP.many
  by_cases h1 : n < 1
  · rw [show (min (max n 1) 1024).toNat = 1 by omega]
    exact new_low n h1 w
  · by_cases h2 : 1024 < n
    · rw [show (min (max n 1) 1024).toNat = 1024 by omega]
      exact new_high n h2 w
    · exact new_mid n _ (by omega) (by omega) (by omega) w
set_option maxRecDepth 100000 in
set_option maxHeartbeats 1000000 in
theorem Sync_nil (w : World) : Calls Try.prog 29 #[.pointer none] w fun e w' => e = .returned (.int .i64 4) ∧ Below w.heap.size w w' := by
  go_enter Try.func29, Try.ntmps29
  go_wp2
  go_ret
  exact ⟨rfl, bsame w⟩
set_option maxRecDepth 100000 in
set_option maxHeartbeats 1000000 in
theorem Flush_nil (w : World) : Calls Try.prog 31 #[.pointer none] w fun e w' => e = .returned (.int .i64 4) ∧ Below w.heap.size w w' := by
  go_enter Try.func31, Try.ntmps31
  go_wp2
  go_ret
  exact ⟨rfl, bsame w⟩
set_option maxRecDepth 100000 in
set_option maxHeartbeats 1000000 in
theorem Cut_nil (no : Int) (w : World) : Calls Try.prog 32 #[.pointer none, .int .i64 no] w fun e w' => e = .returned (.int .i64 4) ∧ Below w.heap.size w w' := by
  go_enter Try.func32, Try.ntmps32
  go_wp2
  go_ret
  exact ⟨rfl, bsame w⟩
set_option maxRecDepth 100000 in
set_option maxHeartbeats 1000000 in
theorem Free_nil (no : Int) (w : World) : Calls Try.prog 33 #[.pointer none, .int .i64 no] w fun e w' => e = .returned (.int .i64 4) ∧ Below w.heap.size w w' := by
  go_enter Try.func33, Try.ntmps33
  go_wp2
  go_ret
  exact ⟨rfl, bsame w⟩
set_option maxRecDepth 100000 in
set_option maxHeartbeats 1000000 in
theorem Append_nil (A : Option Addr) (n c : Nat) (w : World) : Calls Try.prog 30 #[.pointer none, .slice A n c] w fun e w' => e = .returned (.int .i64 4) ∧ Below w.heap.size w w' := by
  go_enter Try.func30, Try.ntmps30
  go_wp2
  go_ret
  exact ⟨rfl, bsame w⟩
set_option maxRecDepth 100000 in
set_option maxHeartbeats 1000000 in
theorem Fuse_nil (no : Int) (w : World) : Calls Try.prog 20 #[.pointer none, .int .i64 no] w fun e w' => e = .returned (.tuple #[]) ∧ Below w.heap.size w w' := by
  go_enter Try.func20, Try.ntmps20
  go_wp2
  exact bodyPost_ret (results_none rfl _ _ _) rfl ⟨rfl, bsame w⟩
set_option maxRecDepth 100000 in
set_option maxHeartbeats 1000000 in
theorem Log_nil (w : World) : Calls Try.prog 7 #[.pointer none] w fun e w' => e = .returned (.slice none 0 0) ∧ Below w.heap.size w w' := by
  go_enter Try.func7, Try.ntmps7
  go_wp2
  go_ret
  exact ⟨rfl, bsame w⟩
set_option maxRecDepth 100000 in
set_option maxHeartbeats 1000000 in
theorem Crash_nil (A : Option Addr) (n c : Nat) (m : Int) (w : World) : Calls Try.prog 24 #[.pointer none, .agg #[.slice A n c, .int .i64 m]] w fun e w' => e = .returned (.tuple #[]) ∧ Below w.heap.size w w' := by
  go_enter Try.func24, Try.ntmps24
  go_wp2
  exact bodyPost_ret (results_none rfl _ _ _) rfl ⟨rfl, balloc (bsame w) _⟩
set_option maxRecDepth 100000 in
set_option maxHeartbeats 1000000 in
theorem Write_nil (no : Int) (p : List UInt8) (w : World) : Calls Try.prog 28 #[.pointer none, .int .i64 no, .agg (rowV p)] w fun e w' => e = .returned (.int .i64 4) ∧ Below w.heap.size w w' := by
  go_enter Try.func28, Try.ntmps28
  go_wp2
  go_ret
  exact ⟨rfl, balloc (bsame w) _⟩
section
attribute [local go_sem ↓] ldPage_fold stPage_fold bdPage_fold alPage_fold
set_option maxRecDepth 100000 in
set_option maxHeartbeats 1000000 in
theorem Read_nil (no : Int) (w : World) : Calls Try.prog 16 #[.pointer none, .int .i64 no] w fun e w' => e = .returned (.tuple #[.agg (rowV (SlotP.zeros 512)), .int .i64 4]) ∧ Below w.heap.size w w' := by
  have hz512 : (SlotP.zeros 512).length = 512 := List.length_replicate
  have halp := fun W => run_al (P := Try.prog) arrPage W
  have hbd := fun W => run_bd (P := Try.prog) arrPage W
  have hS := Str.new w (rowV (SlotP.zeros 512)) 30
  have hst := run_st (P := Try.prog) arrPage hS (by rw [rowV_size]; exact hz512) hz512
  have HS := Lib.hid (hS.setRow (cs' := rowV (SlotP.zeros 512)))
  have HB := Lib.hid (below_setRow (balloc (bsame w) (.cells (rowV (SlotP.zeros 512)) 30)) (Nat.le_refl _) (rowV (SlotP.zeros 512)))
  clear hS
  go_enter Try.func16, Try.ntmps16
  go_wp2_with fail
  exact bodyPost_ret (v := .tuple #[.agg (rowV (SlotP.zeros 512)), .int .i64 4]) (results_page Try.results16 _ HS.out hz512 rfl) rfl ⟨rfl, HB.out⟩
end
end Go.Proofs.Ytldgdgfplgdipaa.DevW
