/-
  Parts of the proof of PoolAhead.
-/
import Derived.Test.YtcfieofcnpalgaaGreatAhG8
import Derived.Laws.ResultCell
import Derived.Test.YtcfieofcnpalgaaGreatAhG4
section
namespace Go.Proofs.YtcfieofcnpalgaaGreat
open Go.RowKit Go.Maps
set_option linter.unusedVariables false
set_option linter.unusedSimpArgs false
namespace DevP
def op (X : DevX) (fits : Bool) (X1 : DevX) : DevX := if err X fits = 0 then done X1 else stop X fits
theorem err_zero {X : DevX} {fits : Bool} (h : err X fits = 0) : X.off = false ∧ fits = true ∧ (X.fused = true → X.fuse ≠ 0) := by
  unfold err at h
  cases ho : X.off with
  | true => simp [ho] at h
  | false =>
    cases fits with
    | false => simp [ho] at h
    | true =>
      refine ⟨rfl, rfl, fun hf h0 => ?_⟩
      simp [ho, hf, h0] at h
end DevP
namespace DevW
variable {d sb mb : Nat} {bp bs : List Nat} {gb : Option Nat} {A : Option Addr} {n c nm : Nat} {es : List (Int × SlV)} {X : DevX}
def Did (w : World) (d : Nat) (bs js : List Nat) (X : DevX) (fits : Bool) (X1 : DevX) (E : World → Prop) (e : Ending) (w' : World) : Prop :=
  e = .returned (.int .i64 (DevP.err X fits)) ∧ ∃ bs', Dev w' d bs' (DevP.op X fits X1) ∧ (∀ b ∈ bs', b ∈ bs ∨ w.heap.size ≤ b) ∧ Reg.KeepB w.heap.size (js ++ bs) w w' ∧ (DevP.err X fits = 0 → E w') ∧ (DevP.err X fits ≠ 0 → Reg.KeepB w.heap.size bs w w')
theorem do_any (fn : FuncId) (first : Array Value) (E : World → Prop) (js : List Nat) (fits : Bool) (w : World) (X1 : DevX) (hD : Dev w d bs X) (hs : X.ops ≤ 1000000000) (hj : ∀ b ∈ js, b < w.heap.size)
    (hE : ∀ W1 W2 : World, W1.grownBy W2 (some d) → E W1 → E W2) (h1 : X1.fused = X.fused) (h2 : X1.fuse = X.fuse) (h3 : X1.ops = X.ops)
    (hce : ∀ W : World, (callFunc fn first).run Tryz.prog W = .ok (.enter fn first) W)
    (hact : fits = true → ∀ W, Below w.heap.size w W → Calls Tryz.prog fn first W (Acts W d bs js X1 E)) :
    Calls Tryz.prog 39 #[.pointer (some ⟨d, 0, none⟩), .bool fits, .func (.func fn) first #[]] w (Did w d bs js X fits X1 E) := by
  by_cases he : DevP.err X fits = 0
  · obtain ⟨e1, rfl, e3⟩ := DevP.err_zero he
    refine (do_ok fn first E js w X1 hD hs e1 e3 hj hE h1 h2 h3 hce (hact rfl)).mono ?_
    rintro e w' ⟨rfl, bs', k1, k2, k3, k4⟩
    refine ⟨by rw [he], bs', ?_, k3, k2, fun _ => k4, fun hn => absurd he hn⟩
    unfold DevP.op
    rw [if_pos he]
    exact k1
  · refine (do_stop fits _ w hD he).mono ?_
    rintro e w' ⟨rfl, k1, k2⟩
    refine ⟨rfl, bs, ?_, fun b hb => .inl hb, k2.more (fun b hb => List.mem_append.2 (.inr hb)), fun h => absurd h he, fun _ => k2⟩
    unfold DevP.op
    rw [if_neg he]
    exact k1
/-- a device's method has told r -/
def Told (w : World) (d : Nat) (bs : List Nat) (X : DevX) (r : Value) (e : Ending) (w' : World) : Prop :=
  e = .returned r ∧ ∃ bs', Dev w' d bs' X ∧ (∀ b ∈ bs', b ∈ bs ∨ w.heap.size ≤ b) ∧ Reg.KeepB w.heap.size bs w w'
/-- what a call that began later has kept, of what was there before -/
theorem keep_since {w W1 w' : World} {js bs : List Nat} (h1 : Below w.heap.size w W1) (h2 : Reg.KeepB W1.heap.size (js ++ bs) W1 w') (hj : ∀ b ∈ js, w.heap.size ≤ b) : Reg.KeepB w.heap.size bs w w' :=
  ⟨h2.os.trans h1.os, h2.tape.trans h1.tape, h2.output.trans h1.output, Nat.le_trans h1.size h2.size, fun i hi hb => (h2.block i (Nat.lt_of_lt_of_le hi h1.size) (fun hm => by
    rcases List.mem_append.1 hm with hm | hm
    · have := hj i hm; omega
    · exact hb hm)).trans (h1.block i hi)⟩
theorem Did.told {w W1 w' : World} {js : List Nat} {fits : Bool} {X1 : DevX} {E : World → Prop} {e : Ending} (h : Did W1 d bs js X fits X1 E e w') (h1 : Below w.heap.size w W1) (hj : ∀ b ∈ js, w.heap.size ≤ b) : Told w d bs (DevP.op X fits X1) (.int .i64 (DevP.err X fits)) e w' := by
  obtain ⟨rfl, bs', k1, k2, k3, -⟩ := h
  exact ⟨rfl, bs', k1, fun b hb => (k2 b hb).imp id fun h => Nat.le_trans h1.size h, keep_since h1 k3 hj⟩
attribute [local go_sem ↓] alJob_fold bdJob_fold stJob_fold
end DevW
end Go.Proofs.YtcfieofcnpalgaaGreat
end
section
namespace Go.Proofs.YtcfieofcnpalgaaGreat.DevW
open Go.RowKit Go.Maps
set_option linter.unusedVariables false
set_option linter.unusedSimpArgs false
variable {d sb mb : Nat} {bp bs : List Nat} {gb : Option Nat} {A : Option Addr} {n c nm : Nat} {es : List (Int × SlV)} {X : DevX}
attribute [local go_sem ↓] ldPage_fold stPage_fold bdPage_fold alPage_fold alJob_fold bdJob_fold stJob_fold
theorem Ent.look {w : World} {k : Nat} {s : SlV} {N : Nat} {now : List (List UInt8)} {ops : Nat} (h : Ent w N now ops ((k : Int), s)) : ∃ ps q, s.A = some ⟨blk s, 0, none⟩ ∧ Pgs 42 w (blk s) s.n s.c ps ∧ 1 ≤ s.n ∧ ps[s.n - 1]? = some q ∧ now[k]? = some q := by
  obtain ⟨ps, h1, h2, h3, h4⟩ := h.pg
  have hl := h2.len
  have hp : 0 < ps.length := List.length_pos_iff.2 h3
  dsimp only at h1 h2 h4 hl
  obtain ⟨q, hq⟩ : ∃ q, ps.getLast? = some q := ⟨_, List.getLast?_eq_some_getLast h3⟩
  refine ⟨ps, q, h1, h2, by omega, ?_, ?_⟩
  · rw [← hl, ← List.getLast?_eq_getElem?]
    exact hq
  · rw [← hq, h4]
    simp
theorem look_at {w : World} {k : Nat} (h : MapM Tryz.prog intK slE 3 w mb nm es) (hk : k ≤ 100000) : (Instr.lookup 86 (.map (some mb)) (.int .i64 (k : Int)) false).run Tryz.prog w = .ok (slE.val ((MapP.get es (k : Int)).getD ⟨none, 0, 0⟩)) w :=
  h.look law Tryz.underlying86 (zeroS w) (k := (k : Int)) (keyOf_ (by unfold In64; omega))
set_option maxRecDepth 100000 in
set_option maxHeartbeats 1000000 in
theorem read_act (j k : Nat) (l q : List UInt8) (A0 : Option Addr) (m0 c0 : Nat) (w : World) (hJ : Str w j (jobC d (k : Int) l (.slice A0 m0 c0))) (hll : l.length = 512) (hD : Dev w d bs X) (hj : j ∉ bs) (hk : k < X.safe.length) (hq : X.now[k]? = some q) :
    Calls Tryz.prog 41 #[.pointer (some ⟨j, 0, none⟩)] w (Acts w d bs [j] X fun w' => Str w' j (jobC d (k : Int) q (.slice A0 m0 c0))) := by
  have HJ := Lib.hid hJ
  have hjl := hJ.lt
  have HD := Lib.hid hD
  have hok := hD.ok
  have hN := hok.n1
  have hq5 : q.length = 512 := hok.w1 q (List.mem_of_getElem? hq)
  obtain ⟨sb, mb, bp, gb, A, n, c, nm, es, hI, hbs⟩ := hD
  have hl := hI.box.lt
  obtain ⟨p, hp⟩ : ∃ p, X.safe[k]? = some p := ⟨_, List.getElem?_eq_getElem hk⟩
  have hp5 : p.length = 512 := hok.w0 p (List.mem_of_getElem? hp)
  have hsl := hI.pages.row.lt
  have hml := hI.pages.map.lt
  have HI := Lib.hid hI
  have HB := Lib.hid hbs
  have HP := Lib.hid hp
  have HQ := Lib.hid hq
  have HJN := Lib.hid hj
  have HJD : Hid (j ≠ d) := Lib.hid (fun e => hj (by rw [e]; exact HD.out.mem))
  have hk0 : (0 : Int) ≤ (k : Int) := by omega
  have hk1 : (k : Int) < (X.safe.length : Int) := by omega
  have hk2 : k ≤ 100000 := by omega
  clear hI hbs hok hJ hj hp hq
  go_enter Tryz.func41, Tryz.ntmps41
  go_wp2_with fail
  refine Reg.wp_region_tail (R := ext) (W := w) [Reg.eqv (.pointer (some ⟨j, 0, none⟩)), Reg.eqv (.pointer (some ⟨j, 0, none⟩)), Reg.eqv (.pointer (some ⟨j, 0, none⟩)), Reg.eqv (.pointer (some ⟨j, 0, none⟩)), Reg.eqv (.pointer (some ⟨d, 0, none⟩)), Reg.eqv (.pointer (some ⟨d, 0, none⟩)), Reg.eqv (.pointer (some ⟨d, 0, none⟩)), Reg.eqv (.slice (some ⟨sb, 0, none⟩) X.safe.length X.safe.length), Reg.eqv (.pointer (some ⟨j, 0, none⟩)), Reg.eqv (.pointer (some ⟨j, 0, none⟩)), Reg.eqv (.pointer (some ⟨j, 1, none⟩)), Reg.eqv (.int .i64 ((k : Int))), Reg.eqv (.pointer (some ⟨sb, k * 512, none⟩)), Reg.eqv (.agg (rowV p)), Reg.eqv (.pointer (some ⟨j, 0, none⟩)), Reg.eqv (.pointer (some ⟨j, 2, none⟩))] 43 16 _ [[(0, none)], [(0, none)], [(4, some 1)], [(5, some 2)], [(6, some 3)], [(7, some 4)], [(8, some 5)], [(9, some 6)], [(0, none)], [(11, some 8)], [(12, some 9)], [(13, some 10)], [(10, some 7), (14, some 11)], [(15, some 12)], [(3, some 0)], [(17, some 14)]] rfl (by kernel_rfl) (by kernel_rfl) (by rfl) (by rfl) rfl (by kernel_rfl) ?_ [some 3, some 4, some 5, some 6, some 7, some 8, some 9, some 10, some 11, some 12, some 13, some 14, some 15, some 16, some 17, some 18] (by kernel_rfl) ?_
  · refine ⟨?_, ?_, ?_, ?_, ?_, ?_, ?_, ?_, ?_, ?_, ?_, ?_, ?_, ?_, ?_, ?_, trivial⟩
    · intro ax wx hx hs
      obtain ⟨e0, -⟩ := hs
      have g0 := Reg.ev (v := .pointer (some ⟨j, 0, none⟩)) e0
      exact Reg.obl_free rfl (Reg.wp_eqv (Option.some_ne_none _) (by go_simp) rfl)
    · intro ax wx hx hs
      obtain ⟨e0, -⟩ := hs
      have g0 := Reg.ev (v := .pointer (some ⟨j, 0, none⟩)) e0
      exact Reg.obl_free rfl (Reg.wp_eqv (Option.some_ne_none _) (by go_simp) rfl)
    · intro ax wx hx hs
      obtain ⟨e4, -⟩ := hs
      have g4 := Reg.ev (v := .pointer (some ⟨j, 0, none⟩)) e4
      exact Reg.obl_free rfl (Reg.wp_eqv (Option.some_ne_none _) (by go_simp) rfl)
    · intro ax wx hx hs
      obtain ⟨e5, -⟩ := hs
      have g5 := Reg.ev (v := .pointer (some ⟨j, 0, none⟩)) e5
      exact Reg.obl_free rfl (Reg.wp_eqv (Option.some_ne_none _) (by go_simp) rfl)
    · intro ax wx hx hs
      obtain ⟨e6, -⟩ := hs
      have g6 := Reg.ev (v := .pointer (some ⟨j, 0, none⟩)) e6
      have l0 := str10 (HI.out.box.next hx)
      have l1 := job3 (HJ.out.next hx) hll
      exact Reg.obl_free rfl (Reg.wp_eqv (Option.some_ne_none _) (by go_simp) rfl)
    · intro ax wx hx hs
      obtain ⟨e7, -⟩ := hs
      have g7 := Reg.ev (v := .pointer (some ⟨d, 0, none⟩)) e7
      exact Reg.obl_free rfl (Reg.wp_eqv (Option.some_ne_none _) (by go_simp) rfl)
    · intro ax wx hx hs
      obtain ⟨e8, -⟩ := hs
      have g8 := Reg.ev (v := .pointer (some ⟨d, 0, none⟩)) e8
      exact Reg.obl_free rfl (Reg.wp_eqv (Option.some_ne_none _) (by go_simp) rfl)
    · intro ax wx hx hs
      obtain ⟨e9, -⟩ := hs
      have g9 := Reg.ev (v := .pointer (some ⟨d, 0, none⟩)) e9
      have l0 := str10 (HI.out.box.next hx)
      have l1 := job3 (HJ.out.next hx) hll
      exact Reg.obl_free rfl (Reg.wp_eqv (Option.some_ne_none _) (by go_simp) rfl)
    · intro ax wx hx hs
      obtain ⟨e0, -⟩ := hs
      have g0 := Reg.ev (v := .pointer (some ⟨j, 0, none⟩)) e0
      exact Reg.obl_free rfl (Reg.wp_eqv (Option.some_ne_none _) (by go_simp) rfl)
    · intro ax wx hx hs
      obtain ⟨e11, -⟩ := hs
      have g11 := Reg.ev (v := .pointer (some ⟨j, 0, none⟩)) e11
      exact Reg.obl_free rfl (Reg.wp_eqv (Option.some_ne_none _) (by go_simp) rfl)
    · intro ax wx hx hs
      obtain ⟨e12, -⟩ := hs
      have g12 := Reg.ev (v := .pointer (some ⟨j, 0, none⟩)) e12
      exact Reg.obl_free rfl (Reg.wp_eqv (Option.some_ne_none _) (by go_simp) rfl)
    · intro ax wx hx hs
      obtain ⟨e13, -⟩ := hs
      have g13 := Reg.ev (v := .pointer (some ⟨j, 1, none⟩)) e13
      have l0 := str10 (HI.out.box.next hx)
      have l1 := job3 (HJ.out.next hx) hll
      exact Reg.obl_free rfl (Reg.wp_eqv (Option.some_ne_none _) (by go_simp) rfl)
    · intro ax wx hx hs
      obtain ⟨e10, e14, -⟩ := hs
      have g10 := Reg.ev (v := .slice (some ⟨sb, 0, none⟩) X.safe.length X.safe.length) e10
      have g14 := Reg.ev (v := .int .i64 ((k : Int))) e14
      exact Reg.obl_free rfl (Reg.wp_eqv (Option.some_ne_none _) (by go_simp) rfl)
    · intro ax wx hx hs
      obtain ⟨e15, -⟩ := hs
      have g15 := Reg.ev (v := .pointer (some ⟨sb, k * 512, none⟩)) e15
      have l0 := str10 (HI.out.box.next hx)
      have l1 := job3 (HJ.out.next hx) hll
      refine Reg.obl_free rfl ?_
      have hld := (HI.out.pages.row.at_ (hx.block sb hsl)).load HP.out
      exact Reg.wp_eqv (Option.some_ne_none _) (by go_simp) rfl
    · intro ax wx hx hs
      obtain ⟨e3, -⟩ := hs
      have g3 := Reg.ev (v := .pointer (some ⟨j, 0, none⟩)) e3
      exact Reg.obl_free rfl (Reg.wp_eqv (Option.some_ne_none _) (by go_simp) rfl)
    · intro ax wx hx hs
      obtain ⟨e17, -⟩ := hs
      have g17 := Reg.ev (v := .pointer (some ⟨j, 0, none⟩)) e17
      exact Reg.obl_free rfl (Reg.wp_eqv (Option.some_ne_none _) (by go_simp) rfl)
  · intro W1 hwf
    simp only [Reg.Fin]
    rintro _ rfl _ rfl _ rfl _ rfl _ rfl _ rfl _ rfl _ rfl _ rfl _ rfl _ rfl _ rfl _ rfl _ rfl _ rfl _ rfl
    have hwf' : Below w.heap.size w W1 := hwf
    obtain ⟨W2, hst, hJ2, hg2, hz2⟩ := job_store (HJ.out.next hwf') hll hp5
    have hk2' := (Reg.KeepB.of (b0 := [j]) hwf').grown hg2 hwf'.size (.inr (by simp))
    have hD2 := HD.out.keepB hk2' (by intro b hb; rw [List.mem_singleton] at hb; rw [hb]; exact HJN.out)
    have hI2 : In W2 d sb mb bp gb A n c nm es X := HI.out.at_ (fun b hb => hk2'.block b (HI.out.lt b hb) (by intro h; rw [List.mem_singleton] at h; exact HJN.out (by rw [HB.out, ← h]; exact hb)))
    have hjl2 := hJ2.lt
    have HJ2 := Lib.hid hJ2
    have HK2 := Lib.hid hk2'
    have HI2 := Lib.hid hI2
    have hl2 := hI2.box.lt
    have hml2 := hI2.pages.map.lt
    clear hwf hwf' hJ2 hg2 hk2' hD2 hI2
    refine Reg.Goal.mk ?_
    go_simp
    clear hst
    cases hg : MapP.get es (k : Int) with
    | none =>
      have hpq : p = q := by
        have h1 := HI.out.pages.rest k hk hg
        rw [HQ.out, HP.out] at h1
        exact (Option.some.inj h1).symm
      have HG : Hid (∀ wx, Below W2.heap.size W2 wx → (Instr.lookup 86 (.map (some mb)) (.int .i64 (k : Int)) false).run Tryz.prog wx = .ok (.slice none 0 0) wx) := Lib.hid (fun wx hx => by
        have h := look_at (HI2.out.pages.map.at_ (hx.block mb hml2)) hk2
        rw [hg] at h
        exact h)
      clear hg
      go_wp2_with fail
      refine Reg.wp_region_vals (R := ext) (W := W2) [Reg.eqv (.pointer (some ⟨j, 0, none⟩)), Reg.eqv (.pointer (some ⟨j, 0, none⟩)), Reg.eqv (.pointer (some ⟨j, 0, none⟩)), Reg.eqv (.pointer (some ⟨d, 0, none⟩)), Reg.eqv (.pointer (some ⟨d, 0, none⟩)), Reg.eqv (.pointer (some ⟨d, 1, none⟩)), Reg.eqv (.map (some mb)), Reg.eqv (.pointer (some ⟨j, 0, none⟩)), Reg.eqv (.pointer (some ⟨j, 0, none⟩)), Reg.eqv (.pointer (some ⟨j, 1, none⟩)), Reg.eqv (.int .i64 ((k : Int))), Reg.eqv (.slice none 0 0), Reg.eqv (.slice none 0 0)] 43 [[(0, none)], [(19, some 0)], [(20, some 1)], [(21, some 2)], [(22, some 3)], [(23, some 4)], [(24, some 5)], [(0, none)], [(26, some 7)], [(27, some 8)], [(28, some 9)], [(25, some 6), (29, some 10)], [(30, some 11)]] rfl (by kernel_rfl) (by kernel_rfl) (by kernel_rfl) ?_ [some 19, some 20, some 21, some 22, some 23, some 24, some 25, some 26, some 27, some 28, some 29, some 30, some 2] (by kernel_rfl) ?_
      · refine ⟨?_, ?_, ?_, ?_, ?_, ?_, ?_, ?_, ?_, ?_, ?_, ?_, ?_, trivial⟩
        · intro ax wx hx hs
          obtain ⟨e0, -⟩ := hs
          have g0 := Reg.ev (v := .pointer (some ⟨j, 0, none⟩)) e0
          exact Reg.obl_free rfl (Reg.wp_eqv (Option.some_ne_none _) (by go_simp) rfl)
        · intro ax wx hx hs
          obtain ⟨e19, -⟩ := hs
          have g19 := Reg.ev (v := .pointer (some ⟨j, 0, none⟩)) e19
          exact Reg.obl_free rfl (Reg.wp_eqv (Option.some_ne_none _) (by go_simp) rfl)
        · intro ax wx hx hs
          obtain ⟨e20, -⟩ := hs
          have g20 := Reg.ev (v := .pointer (some ⟨j, 0, none⟩)) e20
          exact Reg.obl_free rfl (Reg.wp_eqv (Option.some_ne_none _) (by go_simp) rfl)
        · intro ax wx hx hs
          obtain ⟨e21, -⟩ := hs
          have g21 := Reg.ev (v := .pointer (some ⟨j, 0, none⟩)) e21
          have l0 := str10 (HI2.out.box.next hx)
          have l1 := job3 (HJ2.out.next hx) hp5
          exact Reg.obl_free rfl (Reg.wp_eqv (Option.some_ne_none _) (by go_simp) rfl)
        · intro ax wx hx hs
          obtain ⟨e22, -⟩ := hs
          have g22 := Reg.ev (v := .pointer (some ⟨d, 0, none⟩)) e22
          exact Reg.obl_free rfl (Reg.wp_eqv (Option.some_ne_none _) (by go_simp) rfl)
        · intro ax wx hx hs
          obtain ⟨e23, -⟩ := hs
          have g23 := Reg.ev (v := .pointer (some ⟨d, 0, none⟩)) e23
          exact Reg.obl_free rfl (Reg.wp_eqv (Option.some_ne_none _) (by go_simp) rfl)
        · intro ax wx hx hs
          obtain ⟨e24, -⟩ := hs
          have g24 := Reg.ev (v := .pointer (some ⟨d, 1, none⟩)) e24
          have l0 := str10 (HI2.out.box.next hx)
          have l1 := job3 (HJ2.out.next hx) hp5
          exact Reg.obl_free rfl (Reg.wp_eqv (Option.some_ne_none _) (by go_simp) rfl)
        · intro ax wx hx hs
          obtain ⟨e0, -⟩ := hs
          have g0 := Reg.ev (v := .pointer (some ⟨j, 0, none⟩)) e0
          exact Reg.obl_free rfl (Reg.wp_eqv (Option.some_ne_none _) (by go_simp) rfl)
        · intro ax wx hx hs
          obtain ⟨e26, -⟩ := hs
          have g26 := Reg.ev (v := .pointer (some ⟨j, 0, none⟩)) e26
          exact Reg.obl_free rfl (Reg.wp_eqv (Option.some_ne_none _) (by go_simp) rfl)
        · intro ax wx hx hs
          obtain ⟨e27, -⟩ := hs
          have g27 := Reg.ev (v := .pointer (some ⟨j, 0, none⟩)) e27
          exact Reg.obl_free rfl (Reg.wp_eqv (Option.some_ne_none _) (by go_simp) rfl)
        · intro ax wx hx hs
          obtain ⟨e28, -⟩ := hs
          have g28 := Reg.ev (v := .pointer (some ⟨j, 1, none⟩)) e28
          have l0 := str10 (HI2.out.box.next hx)
          have l1 := job3 (HJ2.out.next hx) hp5
          exact Reg.obl_free rfl (Reg.wp_eqv (Option.some_ne_none _) (by go_simp) rfl)
        · intro ax wx hx hs
          obtain ⟨e25, e29, -⟩ := hs
          have g25 := Reg.ev (v := .map (some mb)) e25
          have g29 := Reg.ev (v := .int .i64 ((k : Int))) e29
          refine Reg.obl_free rfl ?_
          have hlk := HG.out wx hx
          exact Reg.wp_eqv (Option.some_ne_none _) (by go_simp) rfl
        · intro ax wx hx hs
          obtain ⟨e30, -⟩ := hs
          have g30 := Reg.ev (v := .slice none 0 0) e30
          exact Reg.obl_free rfl (Reg.wp_eqv (Option.some_ne_none _) (by go_simp) rfl)
      · intro W3 hwf
        simp only [Reg.Fin]
        rintro _ rfl _ rfl _ rfl _ rfl _ rfl _ rfl _ rfl _ rfl _ rfl _ rfl _ rfl _ rfl _ rfl
        go_simp
        have hwf' : Below W2.heap.size W2 W3 := hwf
        have HJ3 := Lib.hid (HJ2.out.next hwf')
        have HK3 := Lib.hid (HK2.out.step hwf' HK2.out.size)
        have HI3 := Lib.hid (HI2.out.at_ (fun b hb => hwf'.block b (HI2.out.lt b hb)))
        clear hwf hwf'
        go_wp2
        go_end0
        exact ⟨rfl, bs, ⟨sb, mb, bp, gb, A, n, c, nm, es, HI3.out, HB.out⟩, HK3.out.more (by simp), fun b hb => .inl hb, by rw [← hpq]; exact HJ3.out⟩
    | some sv =>
      obtain ⟨ps, q', hA, hps, hn1, hqq, hnow⟩ := (HI2.out.pages.ent _ (MapP.get_mem hg)).look
      obtain rfl : q = q' := by rw [HQ.out] at hnow; exact Option.some.inj hnow
      have HG : Hid (∀ wx, Below W2.heap.size W2 wx → (Instr.lookup 86 (.map (some mb)) (.int .i64 (k : Int)) false).run Tryz.prog wx = .ok (.slice (some ⟨blk sv, 0, none⟩) sv.n sv.c) wx) := Lib.hid (fun wx hx => by
        have h := look_at (HI2.out.pages.map.at_ (hx.block mb hml2)) hk2
        rw [hg] at h
        have e : slE.val (some sv |>.getD ⟨none, 0, 0⟩) = .slice (some ⟨blk sv, 0, none⟩) sv.n sv.c := by
          show Value.slice sv.A sv.n sv.c = _
          rw [hA]
        rw [e] at h
        exact h)
      have HPS := Lib.hid hps
      have HQQ := Lib.hid hqq
      have hbl := hps.lt
      have hcl := hps.le
      have hcm := hps.elems.cap
      clear hg hA hps hqq hnow
      go_wp2_with fail
      refine Reg.wp_region_vals (R := ext) (W := W2) [Reg.eqv (.pointer (some ⟨j, 0, none⟩)), Reg.eqv (.pointer (some ⟨j, 0, none⟩)), Reg.eqv (.pointer (some ⟨j, 0, none⟩)), Reg.eqv (.pointer (some ⟨d, 0, none⟩)), Reg.eqv (.pointer (some ⟨d, 0, none⟩)), Reg.eqv (.pointer (some ⟨d, 1, none⟩)), Reg.eqv (.map (some mb)), Reg.eqv (.pointer (some ⟨j, 0, none⟩)), Reg.eqv (.pointer (some ⟨j, 0, none⟩)), Reg.eqv (.pointer (some ⟨j, 1, none⟩)), Reg.eqv (.int .i64 ((k : Int))), Reg.eqv (.slice (some ⟨blk sv, 0, none⟩) sv.n sv.c), Reg.eqv (.slice (some ⟨blk sv, 0, none⟩) sv.n sv.c)] 43 [[(0, none)], [(19, some 0)], [(20, some 1)], [(21, some 2)], [(22, some 3)], [(23, some 4)], [(24, some 5)], [(0, none)], [(26, some 7)], [(27, some 8)], [(28, some 9)], [(25, some 6), (29, some 10)], [(30, some 11)]] rfl (by kernel_rfl) (by kernel_rfl) (by kernel_rfl) ?_ [some 19, some 20, some 21, some 22, some 23, some 24, some 25, some 26, some 27, some 28, some 29, some 30, some 2] (by kernel_rfl) ?_
      · refine ⟨?_, ?_, ?_, ?_, ?_, ?_, ?_, ?_, ?_, ?_, ?_, ?_, ?_, trivial⟩
        · intro ax wx hx hs
          obtain ⟨e0, -⟩ := hs
          have g0 := Reg.ev (v := .pointer (some ⟨j, 0, none⟩)) e0
          exact Reg.obl_free rfl (Reg.wp_eqv (Option.some_ne_none _) (by go_simp) rfl)
        · intro ax wx hx hs
          obtain ⟨e19, -⟩ := hs
          have g19 := Reg.ev (v := .pointer (some ⟨j, 0, none⟩)) e19
          exact Reg.obl_free rfl (Reg.wp_eqv (Option.some_ne_none _) (by go_simp) rfl)
        · intro ax wx hx hs
          obtain ⟨e20, -⟩ := hs
          have g20 := Reg.ev (v := .pointer (some ⟨j, 0, none⟩)) e20
          exact Reg.obl_free rfl (Reg.wp_eqv (Option.some_ne_none _) (by go_simp) rfl)
        · intro ax wx hx hs
          obtain ⟨e21, -⟩ := hs
          have g21 := Reg.ev (v := .pointer (some ⟨j, 0, none⟩)) e21
          have l0 := str10 (HI2.out.box.next hx)
          have l1 := job3 (HJ2.out.next hx) hp5
          exact Reg.obl_free rfl (Reg.wp_eqv (Option.some_ne_none _) (by go_simp) rfl)
        · intro ax wx hx hs
          obtain ⟨e22, -⟩ := hs
          have g22 := Reg.ev (v := .pointer (some ⟨d, 0, none⟩)) e22
          exact Reg.obl_free rfl (Reg.wp_eqv (Option.some_ne_none _) (by go_simp) rfl)
        · intro ax wx hx hs
          obtain ⟨e23, -⟩ := hs
          have g23 := Reg.ev (v := .pointer (some ⟨d, 0, none⟩)) e23
          exact Reg.obl_free rfl (Reg.wp_eqv (Option.some_ne_none _) (by go_simp) rfl)
        · intro ax wx hx hs
          obtain ⟨e24, -⟩ := hs
          have g24 := Reg.ev (v := .pointer (some ⟨d, 1, none⟩)) e24
          have l0 := str10 (HI2.out.box.next hx)
          have l1 := job3 (HJ2.out.next hx) hp5
          exact Reg.obl_free rfl (Reg.wp_eqv (Option.some_ne_none _) (by go_simp) rfl)
        · intro ax wx hx hs
          obtain ⟨e0, -⟩ := hs
          have g0 := Reg.ev (v := .pointer (some ⟨j, 0, none⟩)) e0
          exact Reg.obl_free rfl (Reg.wp_eqv (Option.some_ne_none _) (by go_simp) rfl)
        · intro ax wx hx hs
          obtain ⟨e26, -⟩ := hs
          have g26 := Reg.ev (v := .pointer (some ⟨j, 0, none⟩)) e26
          exact Reg.obl_free rfl (Reg.wp_eqv (Option.some_ne_none _) (by go_simp) rfl)
        · intro ax wx hx hs
          obtain ⟨e27, -⟩ := hs
          have g27 := Reg.ev (v := .pointer (some ⟨j, 0, none⟩)) e27
          exact Reg.obl_free rfl (Reg.wp_eqv (Option.some_ne_none _) (by go_simp) rfl)
        · intro ax wx hx hs
          obtain ⟨e28, -⟩ := hs
          have g28 := Reg.ev (v := .pointer (some ⟨j, 1, none⟩)) e28
          have l0 := str10 (HI2.out.box.next hx)
          have l1 := job3 (HJ2.out.next hx) hp5
          exact Reg.obl_free rfl (Reg.wp_eqv (Option.some_ne_none _) (by go_simp) rfl)
        · intro ax wx hx hs
          obtain ⟨e25, e29, -⟩ := hs
          have g25 := Reg.ev (v := .map (some mb)) e25
          have g29 := Reg.ev (v := .int .i64 ((k : Int))) e29
          refine Reg.obl_free rfl ?_
          have hlk := HG.out wx hx
          exact Reg.wp_eqv (Option.some_ne_none _) (by go_simp) rfl
        · intro ax wx hx hs
          obtain ⟨e30, -⟩ := hs
          have g30 := Reg.ev (v := .slice (some ⟨blk sv, 0, none⟩) sv.n sv.c) e30
          exact Reg.obl_free rfl (Reg.wp_eqv (Option.some_ne_none _) (by go_simp) rfl)
      · intro W3 hwf
        simp only [Reg.Fin]
        rintro _ rfl _ rfl _ rfl _ rfl _ rfl _ rfl _ rfl _ rfl _ rfl _ rfl _ rfl _ rfl _ rfl
        go_simp
        have hwf' : Below W2.heap.size W2 W3 := hwf
        have hJ3 := HJ2.out.next hwf'
        have HK3 := Lib.hid (HK2.out.step hwf' HK2.out.size)
        have HI3 := Lib.hid (HI2.out.at_ (fun b hb => hwf'.block b (HI2.out.lt b hb)))
        have hps3 := HPS.out.at_ (hwf'.block _ hbl)
        obtain ⟨u, hu⟩ : ∃ u, sv.n = u + 1 := ⟨sv.n - 1, by omega⟩
        have hqu := HQQ.out
        rw [hu] at hqu
        rw [hu] at hps3
        have hld := hps3.load (k := u) hqu
        obtain ⟨W4, hst, hJ4, hg4, hz4⟩ := job_store hJ3 hp5 hq5
        have hd3 : decide ((0 : Int) < (sv.n : Int)) = true := by simp; omega
        have hu0 : (0 : Int) ≤ (u : Int) := by omega
        have hu1 : (u : Int) < ((u + 1 : Nat) : Int) := by omega
        have hu2 : (u : Int) ≤ 9223372036854775806 := by have := hcm.1; have := hcm.2; unfold maxLen at *; omega
        have fj := job3 hJ3 hp5
        have HJ4 := Lib.hid hJ4
        have HI4 := Lib.hid (HI3.out.at_ (fun b hb => hg4.block b (HI3.out.lt b hb) (by intro e; injection e with e; exact HJN.out (by rw [HB.out, ← e]; exact hb))))
        have HK4 := Lib.hid (HK3.out.grown hg4 HK3.out.size (.inr (by simp)))
        clear hwf hwf' hJ3 hps3 hqu hJ4 hg4 HI2 HI3 HK2 HK3
        go_wp2_with fail
        go_end0
        exact ⟨rfl, bs, ⟨sb, mb, bp, gb, A, n, c, nm, es, HI4.out, HB.out⟩, HK4.out.more (by simp), fun b hb => .inl hb, HJ4.out⟩
end Go.Proofs.YtcfieofcnpalgaaGreat.DevW
end
section
namespace Go.Proofs.YtcfieofcnpalgaaGreat.DevW
open Go.RowKit Go.Maps
set_option linter.unusedVariables false
set_option linter.unusedSimpArgs false
variable {d sb mb : Nat} {bp bs : List Nat} {gb : Option Nat} {A : Option Addr} {n c nm : Nat} {es : List (Int × SlV)} {X : DevX}
attribute [local go_sem ↓] ldPage_fold stPage_fold bdPage_fold alPage_fold alJob_fold bdJob_fold stJob_fold
theorem results_page {fn : Func} {p u : Tmp} (h : fn.results = #[.cell p 42, .tmp u]) (tmps : Array Value) {w : World} {g : Nat} {l : List UInt8} (hs : Str w g (rowV l)) (hl : l.length = 512) (hp : tmps.getD p undef = .pointer (some ⟨g, 0, none⟩)) :
    (results fn tmps).run Tryz.prog w = .ok (.tuple #[.agg (rowV l), tmps.getD u undef]) w := by
  have hr := run_ld (P := Tryz.prog) arrPage hs hl
  simp only [ldSem, Instr.loadAt, Instr.sureAddr, Sem.run_bind, Sem.run_pure, Result.andThen_ok] at hr
  rw [results_cell_tmp h, hp]
  simp [asAddr, hr]
/-- what a page reads as -/
def _root_.Go.Proofs.YtcfieofcnpalgaaGreat.DevP.read (X : DevX) (no : Int) (fits : Bool) : List UInt8 := if DevP.err X fits = 0 then (X.now[no.toNat]?).getD (SlotP.zeros 512) else SlotP.zeros 512
abbrev fitsN (X : DevX) (no : Int) : Bool := decide (0 ≤ no) && decide (no < (X.safe.length : Nat))
set_option maxRecDepth 100000 in
set_option maxHeartbeats 1000000 in
theorem Read_any (no : Int) (w : World) (hD : Dev w d bs X) (hs : X.ops ≤ 1000000000) :
    Calls Tryz.prog 13 #[.pointer (some ⟨d, 0, none⟩), .int .i64 no] w (Told w d bs (DevP.op X (fitsN X no) X) (.tuple #[.agg (rowV (DevP.read X no (fitsN X no))), .int .i64 (DevP.err X (fitsN X no))])) := by
  have hmf : ∀ (fn : Fn) (first cap : Array Value) (w : World), (Instr.makeFunc fn first cap).run Tryz.prog w = .ok (.func fn first cap) w := fun _ _ _ _ => rfl
  have hz512 : (SlotP.zeros 512).length = 512 := List.length_replicate
  have halp := fun W => run_al (P := Tryz.prog) arrPage W
  have hal := job_al
  have hbd := fun W => job_bd2 d no W
  have hsz0 : (w.alloc (.cells (rowV (SlotP.zeros 512)) 42)).heap.size = w.heap.size + 1 := by simp
  have hst := job_st (d := d) (n := no) (l := SlotP.zeros 512) (A := none) (m := 0) (c := 0) (Str.new (w.alloc (.cells (rowV (SlotP.zeros 512)) 42)) jobZ 81) hz512
  rw [hsz0] at hst
  obtain ⟨W1, hW1⟩ : ∃ W, ((w.alloc (.cells (rowV (SlotP.zeros 512)) 42)).alloc (.cells jobZ 81)).setRow (w.heap.size + 1) (jobC d no (SlotP.zeros 512) (.slice none 0 0)) = W := ⟨_, rfl⟩
  rw [hW1] at hst
  have hJ1 : Str W1 (w.heap.size + 1) (jobC d no (SlotP.zeros 512) (.slice none 0 0)) := by rw [← hW1, ← hsz0]; exact (Str.new _ _ _).setRow
  have hP1 : Str W1 w.heap.size (rowV (SlotP.zeros 512)) := by rw [← hW1]; exact ((Str.new w _ _).alloc _).setRow_other (by omega)
  have hb1 : Below w.heap.size w W1 := by rw [← hW1]; exact below_setRow (balloc (balloc (bsame _) _) _) (by omega) _
  have hD1 := hD.below hb1
  have hj : w.heap.size + 1 ∉ bs := fun hm => by have := hD.lt _ hm; omega
  have hpn : w.heap.size ∉ bs := fun hm => by have := hD.lt _ hm; omega
  have HJ1 := Lib.hid hJ1
  have HP1 := Lib.hid hP1
  have HB1 := Lib.hid hb1
  have HD1 := Lib.hid hD1
  have HJN := Lib.hid hj
  have HPN := Lib.hid hpn
  clear hW1 hJ1 hP1 hb1 hD1 hj hpn hsz0
  obtain ⟨fits, hfits⟩ : ∃ f, fitsN X no = f := ⟨_, rfl⟩
  rw [hfits]
  have HFI := Lib.hid hfits
  clear hfits
  go_enter Tryz.func13, Tryz.ntmps13
  go_wp2_with fail
  refine (has_any no W1 HD1.out).mono ?_
  rintro e W2 ⟨rfl, hb2⟩
  rw [show (decide (0 ≤ no) && decide (no < (X.safe.length : Nat))) = fits from HFI.out]
  have hd2 := HD1.out.below hb2
  have hJ2 := HJ1.out.next hb2
  have hP2 := HP1.out.next hb2
  have hjl := hJ2.lt
  have hb3 := bstep HB1.out hb2
  clear hst hbd hal halp hb2
  go_wp2_with fail
  refine (do_any 41 #[.pointer (some ⟨w.heap.size + 1, 0, none⟩)] (fun W => Str W (w.heap.size + 1) (jobC d no ((X.now[no.toNat]?).getD (SlotP.zeros 512)) (.slice none 0 0))) [w.heap.size + 1] fits W2 X hd2 hs (by simpa using hjl) (fun W3 W4 hg hS => hS.grown hg (fun e => HJN.out (by rw [e]; exact hd2.mem))) rfl rfl rfl (fun _ => rfl) (fun hf W hb => ?_)).mono ?_
  · subst hf
    have hf := HFI.out
    simp only [fitsN, Bool.and_eq_true, decide_eq_true_eq] at hf
    obtain ⟨k, rfl⟩ : ∃ k : Nat, no = (k : Int) := ⟨no.toNat, by omega⟩
    have hk : k < X.safe.length := by omega
    have hkn : k < X.now.length := by rw [hD.ok.nl]; exact hk
    refine (read_act (w.heap.size + 1) k _ X.now[k] none 0 0 W (hJ2.next hb) hz512 (hd2.below hb) HJN.out hk (List.getElem?_eq_getElem hkn)).mono ?_
    intro e w' h
    rw [show ((k : Int).toNat) = k from rfl, List.getElem?_eq_getElem hkn]
    exact h
  · rintro e W3 hdid
    obtain ⟨rfl, bs', k1, k2, k3, k4, k5⟩ := hdid
    have hwide : (DevP.read X no fits).length = 512 := by
      unfold DevP.read
      split
      · cases hg : X.now[no.toNat]? with
        | none => exact hz512
        | some q => exact hD.ok.w1 q (List.mem_of_getElem? hg)
      · exact hz512
    have hJ3 : Str W3 (w.heap.size + 1) (jobC d no (DevP.read X no fits) (.slice none 0 0)) := by
      unfold DevP.read
      by_cases he : DevP.err X fits = 0
      · rw [if_pos he]
        exact k4 he
      · rw [if_neg he]
        exact hJ2.keepB (k5 he) HJN.out
    have hP3 : Str W3 w.heap.size (rowV (SlotP.zeros 512)) := hP2.keepB k3 (by
      intro h
      rcases List.mem_append.1 h with h | h
      · rw [List.mem_singleton] at h; omega
      · exact HPN.out h)
    have hld := job_load hJ3 hwide
    have hst := run_st (P := Tryz.prog) arrPage hP3 (by rw [rowV_size]; exact hz512) hwide
    have hjl3 := hJ3.lt
    have hpl3 := hP3.lt
    have hg4 := grown_setRow W3 w.heap.size (rowV (DevP.read X no fits))
    have HS4 := Lib.hid (hP3.setRow (cs' := rowV (DevP.read X no fits)))
    have HW := Lib.hid hwide
    have hnb : w.heap.size ∉ bs' := fun hm => by
      rcases k2 _ hm with h | h
      · exact HPN.out h
      · omega
    have HD4 := Lib.hid (k1.grown hg4 hnb)
    have HK4 := Lib.hid ((keep_since hb3 k3 (by simp)).grown hg4 (Nat.le_trans hb3.size k3.size) (.inl (Nat.le_refl _)))
    have HN4 : Hid (∀ b ∈ bs', b ∈ bs ∨ w.heap.size ≤ b) := Lib.hid (fun b hb => (k2 b hb).imp id fun h => Nat.le_trans hb3.size h)
    clear k1 k2 k3 k4 k5 hJ3 hP3 hJ2 hP2 hg4 hnb
    go_wp2_with fail
    exact bodyPost_ret (v := .tuple #[.agg (rowV (DevP.read X no fits)), .int .i64 (DevP.err X fits)]) (results_page Tryz.results13 _ HS4.out HW.out rfl) rfl ⟨rfl, bs', HD4.out, HN4.out, HK4.out⟩
end Go.Proofs.YtcfieofcnpalgaaGreat.DevW
end
section
namespace Go.Proofs.YtcfieofcnpalgaaGreat
open Go.RowKit Go.Maps
set_option linter.unusedVariables false
set_option linter.unusedSimpArgs false
def bsSem (t : TypeId) (n : Nat) (ps : Array (Nat × Value)) : Sem Value := Instr.buildSlice t n ps
theorem PageE.lit {w wr : World} {b : Nat} {x : List UInt8} (hs : Str w b (rowV x)) (hl : x.length = 512) : ElemsIn PageE wr w w.heap.size (some ⟨b, 0, none⟩) 1 1 [x] :=
  ⟨[x.map byteV], ⟨⟨rfl, hl⟩, trivial⟩, rfl, Nat.le_refl _, by unfold maxLen; omega, fun _ => ⟨b, 0, rfl, hs.lt, fun j v hv => by
    rw [show [x.map byteV].flatten = x.map byteV by simp] at hv
    rw [Nat.zero_add, hs.cell j, rowV]
    simpa using hv⟩⟩
namespace DevW
theorem size_of {t : TypeId} {n : Nat} (h : (Tryz.prog.info? t).map (·.size) = some n) (w : World) : (sizeOf t).run Tryz.prog w = .ok n w := by
  cases hq : Tryz.prog.info? t with
  | none => simp [hq] at h
  | some i => simp [hq] at h; simp [sizeOf, typeInfo, hq, h]
theorem own_cells {α : Type} {E : El α} {T : TypeId} {w : World} {base n c : Nat} {ad : Addr} {l : List α} (h : OwnE E T w base (some ad) n c l) : ∃ cur, w.heap[ad.block]? = some (.cells cur T (0, 0)) := by
  obtain ⟨vs, h1, -⟩ := h
  rcases h1.2 with ⟨e, -⟩ | ⟨g, cap, cur, e, -, hh, -⟩
  · cases e
  · cases e
    exact ⟨cur, hh⟩
theorem map_ne {α : Type} {E : El α} {T kt : TypeId} {K β : Type} [DecidableEq K] {S : KeyS K} {El2 : ElS β} {w : World} {base n c b m : Nat} {ad : Addr} {l : List α} {L : MapP.T K β} (h : OwnE E T w base (some ad) n c l) (k : MapM Tryz.prog S El2 kt w b m L) : b ≠ ad.block := by
  rintro rfl
  obtain ⟨cur, h1⟩ := own_cells h
  obtain ⟨es, clock, hb, -⟩ := k.own
  rw [hb] at h1
  cases h1
theorem bs_fold (n : Nat) (ps : Array (Nat × Value)) : Instr.buildSlice 85 n ps = bsSem 85 n ps := rfl
theorem bs_page (p : List UInt8) (hp : p.length = 512) (w : World) : (bsSem 85 1 #[(0, .agg (rowV p))]).run Tryz.prog w = .ok (.slice (some ⟨w.heap.size, 0, none⟩) 1 1) (w.alloc (.cells (rowV p) 42)) := by
  have hz : ∀ w, (zeroValue 42).run Tryz.prog w = .ok (.agg (Array.replicate 512 (.int .u8 0))) w := (zero_of_info arrPage.info).1
  have hsz := size_of (t := 42) (n := 512) arrPage.size
  have hs : (rowV p).size = 512 := by rw [rowV_size, hp]
  have key : ∀ cs : Array Value, cs.size = 512 → Instr.fill (fun i => some (i * 512, 512)) cs [(0, .agg (rowV p))] = some (rowV p) := fun cs hc => by
    have h3 := foldl_set 0 (p.map byteV) 0 cs (by simp [hc, hp])
    have h4 : (rowV p).zipIdx.toList = (p.map byteV).zipIdx 0 := by simp [rowV]
    have hf : ((rowV p).zipIdx.foldl (fun cs (x : Value × Nat) => cs.setIfInBounds (0 + x.2) x.1) cs) = rowV p := by
      apply Array.ext'
      rw [← Array.foldl_toList, h4, h3]
      simp [splice, rowV, hc, hp]
    simp only [Instr.fill, Value.cells, hs, hc]
    rw [if_neg (by simp)]
    simp only [Nat.zero_mul]
    exact congrArg some hf
  unfold bsSem Instr.buildSlice
  simp only [Sem.run_bind, run_underlying Tryz.underlying85, Result.andThen_ok, hsz]
  simp [hz, key, newRow]
end DevW
namespace DevW
abbrev PT : TypeId := 42
/-- the parts of a page's writing -/
structure Wri where
  N : Nat
  mb : Nat
  nm : Nat
  es : List (Int × SlV)
  k : Nat
  A : Option Addr
  n : Nat
  c : Nat
  ps : List (List UInt8)
  p : List UInt8
def Wri.Side (I : Wri) (b : Bool) (a : Act) (w : World) : Prop := b = true → ∃ g, a.eval (.tmp 29) = .slice (some ⟨g, 0, none⟩) 1 1 ∧ Str w g (rowV I.p)
def Wri.Map (I : Wri) (w : World) : Prop := MapM Tryz.prog intK slE 3 w I.mb I.nm I.es
def Wri.Row (I : Wri) (w : World) (g c' : Nat) : Prop := Pgs PT w g (I.n + 1) c' (I.ps ++ [I.p]) ∧ (I.A = some ⟨g, 0, none⟩ ∨ I.N ≤ g)
def Wri.S (I : Wri) : Reg.LS := fun kk b a w => match kk with
  | 0 => I.Map w ∧ OwnE PageE PT w 0 I.A I.n I.c I.ps ∧ I.Side b a w
  | 1 => a.eval (.tmp 24) = .slice I.A I.n I.c ∧ I.Map w ∧ OwnE PageE PT w 0 I.A I.n I.c I.ps ∧ I.Side b a w
  | 2 => b = true ∧ ∃ g c', a.eval (.tmp 30) = .slice (some ⟨g, 0, none⟩) (I.n + 1) c' ∧ I.Row w g c' ∧ I.Map w
  | _ => ∃ g c', I.Row w g c' ∧ MapM Tryz.prog intK slE 3 w I.mb (I.nm + 1) (MapP.put (MapP.ltK intK) I.es (I.k : Int) ⟨some ⟨g, 0, none⟩, I.n + 1, c'⟩)
section
variable {I : Wri} {a : Act} {w w' : World} {b : Bool} {dst : Option Tmp} {v : Value}
theorem Wri.Map.next (h : I.Map w) (hb : Below w.heap.size w w') : I.Map w' := MapM.at_ h (hb.block _ (MapM.lt h))
theorem Wri.Row.next {g c' : Nat} (h : I.Row w g c') (hb : Below w.heap.size w w') : I.Row w' g c' := ⟨Pgs.at_ h.1 (hb.block _ (Pgs.lt h.1)), h.2⟩
theorem Wri.Side.put (hd : dst ≠ some 29) (h : I.Side b a w) (hb : Below w.heap.size w w') : I.Side b (a.put dst v) w' := fun e => by
  obtain ⟨g, h1, h2⟩ := h e
  exact ⟨g, by rw [Reg.eval_ne hd]; exact h1, h2.next hb⟩
theorem Wri.S_put (hd : dst ≠ some 24 ∧ dst ≠ some 29 ∧ dst ≠ some 30) (kk : Nat) (h : I.S kk b a w) (hb : Below w.heap.size w w') : I.S kk b (a.put dst v) w' := by
  obtain ⟨d1, d2, d3⟩ := hd
  match kk, h with
  | 0, h => exact ⟨h.1.next hb, h.2.1.next hb, h.2.2.put d2 hb⟩
  | 1, h => exact ⟨by rw [Reg.eval_ne d1]; exact h.1, h.2.1.next hb, h.2.2.1.next hb, h.2.2.2.put d2 hb⟩
  | 2, h =>
    obtain ⟨e, g, c', h1, h2, h3⟩ := h
    exact ⟨e, g, c', by rw [Reg.eval_ne d3]; exact h1, h2.next hb, h3.next hb⟩
  | _ + 3, h =>
    obtain ⟨g, c', h2, h3⟩ := h
    exact ⟨g, c', h2.next hb, MapM.at_ h3 (hb.block _ (MapM.lt h3))⟩
/-- the row of one page -/
theorem Wri.S_side (kk : Nat) (h : I.S kk false a w) (ha : 29 < a.tmps.size) : I.S kk true (a.put (some 29) (.slice (some ⟨w.heap.size, 0, none⟩) 1 1)) (w.alloc (.cells (rowV I.p) PT)) := by
  have hb : Below w.heap.size w (w.alloc (.cells (rowV I.p) PT)) := balloc (bsame w) _
  have hs : I.Side true (a.put (some 29) (.slice (some ⟨w.heap.size, 0, none⟩) 1 1)) (w.alloc (.cells (rowV I.p) PT)) := fun _ => ⟨w.heap.size, Reg.eval_put_same ha, Str.new w _ _⟩
  match kk, h with
  | 0, h => exact ⟨h.1.next hb, h.2.1.next hb, hs⟩
  | 1, h => exact ⟨by rw [Reg.eval_ne (by decide)]; exact h.1, h.2.1.next hb, h.2.2.1.next hb, hs⟩
  | 2, h => cases h.1
  | _ + 3, h =>
    obtain ⟨g, c', h2, h3⟩ := h
    exact ⟨g, c', h2.next hb, MapM.at_ h3 (hb.block _ (MapM.lt h3))⟩
/-- the look -/
theorem Wri.S_zero (h : I.S 0 b a w) (ha : 24 < a.tmps.size) : I.S 1 b (a.put (some 24) (.slice I.A I.n I.c)) w :=
  ⟨Reg.eval_put_same ha, h.1, h.2.1, Wri.Side.put (by decide) h.2.2 (bsame w)⟩
theorem keep_row {N mb : Nat} {A : Option Addr} (h : w.grownBy w' ((Value.slice A 0 0).ownBlock)) (hN : N ≤ w.heap.size) : Reg.KeepB N (mb :: (A.map (·.block)).toList) w w' := by
  refine ⟨h.os, h.tape, h.output, h.size, fun i hi hn => h.block i (by omega) (fun e => hn ?_)⟩
  cases A with
  | none => cases e
  | some a => cases e; simp
/-- the append -/
theorem Wri.S_one (h : I.S 1 true a w) (ha : 30 < a.tmps.size) (hN : I.N ≤ w.heap.size) (hp : I.p.length = 512) (hn : I.n ≤ 2000000000) :
    ∃ A2 A' c' w', a.eval (.tmp 24) = .slice I.A I.n I.c ∧ a.eval (.tmp 29) = .slice A2 1 1 ∧ (appSem #[85, 85] 85 #[.slice I.A I.n I.c, .slice A2 1 1]).run Tryz.prog w = .ok (.slice A' (I.n + 1) c') w' ∧ I.S 2 true (a.put (some 30) (.slice A' (I.n + 1) c')) w' ∧ Reg.KeepB I.N (I.mb :: (I.A.map (·.block)).toList) w w' := by
  obtain ⟨h1, h2, h3, h4⟩ := h
  obtain ⟨g, h5, h6⟩ := h4 rfl
  obtain ⟨i0, hi0, iz0, iz1, iz2⟩ := info_parts infoP
  obtain ⟨A', c', w', k1, k2, k3, k4, k5⟩ := h3.app (P := Tryz.prog) 85 85 i0 _ 512 Tryz.underlying85 hi0 iz0 iz1 iz2 (by simp [Value.cells, PageE]) (PageE.lit h6 hp) (by unfold maxLen; omega) (by omega) (Nat.zero_le _)
  have hle := k2.elemsIn.cap.1
  obtain ⟨g', cur, vs, rfl, -⟩ := k2.row (by omega)
  refine ⟨_, _, c', w', h1, h5, k1, ⟨rfl, g', c', Reg.eval_put_same ha, ⟨k2, ?_⟩, MapM.at_ h2 (k4.block _ (MapM.lt h2) ?_)⟩, keep_row k4 hN⟩
  · rcases k5 with e | ⟨a', e, ha'⟩
    · exact .inl e.symm
    · cases e
      exact .inr (by rw [show g' = w.heap.size from ha']; exact hN)
  · intro e
    cases hA : I.A with
    | none => rw [hA] at e; cases e
    | some ad =>
      rw [hA] at e h3
      injection e with e
      exact map_ne h3 h2 e
/-- the map's store -/
theorem Wri.S_two (h : I.S 2 b a w) (hN : I.N ≤ w.heap.size) (hk : I.k ≤ 100000) (hn : I.nm ≤ 2000000000) :
    ∃ A' c' w', a.eval (.tmp 30) = .slice A' (I.n + 1) c' ∧ (Instr.mapUpdate 86 (.map (some I.mb)) (.int .i64 (I.k : Int)) (.slice A' (I.n + 1) c')).run Tryz.prog w = .ok () w' ∧ I.S 3 b a w' ∧ Reg.KeepB I.N (I.mb :: (I.A.map (·.block)).toList) w w' := by
  obtain ⟨e, g, c', h1, h2, h3⟩ := h
  obtain ⟨w', k1, k2, k3⟩ := MapM.store h3 law Tryz.underlying86 (by unfold maxLen; omega) (k := (I.k : Int)) (keyOf_ (by unfold In64; omega)) ⟨some ⟨g, 0, none⟩, I.n + 1, c'⟩
  have hne := map_ne h2.1 h3
  refine ⟨_, c', w', h1, k1, ⟨g, c', ⟨Pgs.at_ h2.1 (k3.grown.block g (Pgs.lt h2.1) (fun e => by injection e with e; exact hne e.symm)), h2.2⟩, k2⟩, (Reg.KeepB.of (Below.refl _ w)).grown k3.grown hN (.inr (by simp))⟩
end
end DevW
end Go.Proofs.YtcfieofcnpalgaaGreat
end
