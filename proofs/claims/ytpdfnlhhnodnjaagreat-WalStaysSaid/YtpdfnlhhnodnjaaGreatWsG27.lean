/-
  Parts of the proof of WalStays.
-/
import Derived.Test.YtpdfnlhhnodnjaaGreatWsG26
import Derived.BigQuiet
import Derived.Test.YtpdfnlhhnodnjaaGreatWsG3
import Derived.Test.YtpdfnlhhnodnjaaGreatWsG8
section
namespace Go.Proofs.YtpdfnlhhnodnjaaGreat.DevW
open Go.RowKit Go.Maps
set_option linter.unusedVariables false
set_option linter.unusedSimpArgs false
variable {d sb mb : Nat} {bp bs : List Nat} {gb : Option Nat} {A : Option Addr} {n c nm : Nat} {es : List (Int × SlV)} {X : DevX}
attribute [local go_sem ↓] cut_fold
theorem In.bp_ne {w : World} (h : In w d sb mb bp gb A n c nm es X) : ∀ b ∈ bp, b ≠ d := fun b hb e => (List.nodup_cons.1 h.nd).1 (by rw [← e]; simp [hb])
theorem In.gb_ne {w : World} (h : In w d sb mb bp gb A n c nm es X) : gb ≠ some d := fun e => (List.nodup_cons.1 h.nd).1 (by simp [e])
/-- the log and the box have turned -/
theorem In.relog {w w' : World} {X' : DevX} {gb' : Option Nat} {A' : Option Addr} {n' c' : Nat} (h : In w d sb mb bp gb A n c nm es X) (hk : ∀ b ∈ bp, w'.heap[b]? = w.heap[b]?) (hb : Str w' d (devC X.safe.length sb mb A' n' c' X')) (hl : OwnS w' gb' A' n' c' X'.log)
    (hg : gb' = gb ∨ gb' = none ∨ ∃ g, gb' = some g ∧ w.heap.size ≤ g) (e1 : X'.safe = X.safe) (e2 : X'.now = X.now) (ho : X.wr ≤ X'.wr) (hok : DevP.Ok X') : ∃ bs', Dev w' d bs' X' ∧ ∀ b ∈ bs', b ∈ d :: (gb.toList ++ bp) ∨ w.heap.size ≤ b := by
  have hp := (h.pages.at_ (w' := w') hk).mono ho
  have hnd : (d :: (gb'.toList ++ bp)).Nodup := by
    rcases hg with rfl | rfl | ⟨g, rfl, hg⟩
    · exact h.nd
    · have := h.nd
      simp only [List.nodup_cons, List.mem_append, List.nodup_append, Option.toList_none, List.nil_append] at this ⊢
      exact ⟨fun hm => this.1 (.inr hm), this.2.2.1⟩
    · have h1 := h.nd
      simp only [List.nodup_cons, List.mem_append, List.nodup_append, Option.toList_some, List.cons_append, List.nil_append, List.mem_cons] at h1 ⊢
      have h2 := h.box.lt
      have h3 := h.pages.lt
      refine ⟨?_, ?_, h1.2.2.1⟩
      · rintro (e | hm)
        · omega
        · exact h1.1 (.inr hm)
      · intro hm
        have := h3 g hm
        omega
  rw [← e1] at hb
  rw [← e1, ← e2] at hp
  refine ⟨_, ⟨sb, mb, bp, gb', A', n', c', nm, es, ⟨hb, hp, hl, hnd, hok⟩, rfl⟩, fun b hm => ?_⟩
  simp only [List.mem_cons, List.mem_append, Option.mem_toList] at hm ⊢
  rcases hm with rfl | hm | hm
  · exact .inl (.inl rfl)
  · rcases hg with rfl | rfl | ⟨g, rfl, hg⟩
    · exact .inl (.inr (.inl hm))
    · cases hm
    · simp only [Option.some.injEq] at hm
      subst hm
      exact .inr hg
  · exact .inl (.inr (.inr hm))
/-- the call has done its act -/
def Acts (w : World) (d : Nat) (bs js : List Nat) (X : DevX) (E : World → Prop) (e : Ending) (w' : World) : Prop := e = .returned (.tuple #[]) ∧ ∃ bs', Dev w' d bs' X ∧ Reg.KeepB w.heap.size (js ++ bs) w w' ∧ (∀ b ∈ bs', b ∈ bs ∨ w.heap.size ≤ b) ∧ E w'
set_option maxRecDepth 100000 in
set_option maxHeartbeats 1000000 in
theorem flush_act (w : World) (hD : Dev w d bs X) (hs : DevP.Small X) :
    Calls Tryz.prog 49 #[.pointer (some ⟨d, 0, none⟩)] w (Acts w d bs [] { X with sure := X.head + (X.log.length : Nat) } fun _ => True) := by
  have HSM := Lib.hid hs
  have HD := Lib.hid hD
  have hok := hD.ok
  obtain ⟨sb, mb, bp, gb, A, n, c, nm, es, hI, hbs⟩ := hD
  have hn := hI.log.len
  have hnc := hI.log.2.1
  have hcm := hI.log.2.2.1
  unfold maxLen at hcm
  have hl := hI.box.lt
  have hs1 := hs.1
  have hs2 := hs.2.1
  have hh0 := hok.h0
  have hu0 := hok.s0
  have hu1 := hok.s1
  have ht0 := hok.t0
  have ht1 := hok.t1
  have ho0 := hok.o0
  have HI := Lib.hid hI
  have HB := Lib.hid hbs
  have HOK := Lib.hid hok
  have HND := Lib.hid hI.nd
  clear hI hbs hs hok
  subst hn
  go_enter Tryz.func49, Tryz.ntmps49
  go_wp2_with fail
  refine (end_any w HD.out HSM.out).mono ?_
  rintro e w1 ⟨rfl, hb1⟩
  have hI1 := HI.out.at_ (fun b hm => hb1.block b (HI.out.lt b hm))
  have f1 := str10 hI1.box
  have hz := fun j => hI1.box.frozen j
  have hl1 := hI1.box.lt
  have HI1 := Lib.hid hI1
  clear hI1
  go_wp2
  go_end0
  have hg := grown_set (grown_refl w1 d) 5 (.int .i64 (X.head + (X.log.length : Nat)))
  refine ⟨rfl, bs, ⟨sb, mb, bp, gb, A, _, c, nm, es, HI1.out.turn (X' := { X with sure := X.head + (X.log.length : Nat) }) hg (HI1.out.box.set 5 (.int .i64 (X.head + (X.log.length : Nat)))) rfl rfl rfl (Nat.le_refl _) ?_, HB.out⟩, (Reg.KeepB.of (b0 := bs) hb1).grown hg hb1.size (.inr HD.out.mem), fun b hb => .inl hb, trivial⟩
  have k := HOK.out
  exact ⟨k.n0, k.n1, k.nl, k.h0, by show X.head ≤ X.head + _; omega, Int.le_refl _, k.t0, k.t1, k.o0, k.f0, k.f1, k.w0, k.w1⟩
set_option maxRecDepth 100000 in
set_option maxHeartbeats 1000000 in
theorem cut_act (j : Nat) (no : Int) (l : List UInt8) (s : Value) (w : World) (hJ : Str w j (jobC d no l s)) (hll : l.length = 512) (hD : Dev w d bs X) (hs : DevP.Small X) (hj : j ∉ bs) (h1 : X.head ≤ no) (h2 : no ≤ X.head + (X.log.length : Nat)) :
    Calls Tryz.prog 38 #[.pointer (some ⟨j, 0, none⟩)] w (Acts w d bs [] { X with log := X.log.take (no - X.head).toNat, sure := min X.sure no } fun _ => True) := by
  have HJ := Lib.hid hJ
  have hjl := hJ.lt
  have HD := Lib.hid hD
  have hok := hD.ok
  obtain ⟨sb, mb, bp, gb, A, n, c, nm, es, hI, hbs⟩ := hD
  have hn := hI.log.len
  have hnc := hI.log.2.1
  have hcm := hI.log.2.2.1
  unfold maxLen at hcm
  have hl := hI.box.lt
  have hs1 := hs.1
  have hs2 := hs.2.1
  have hh0 := hok.h0
  have hu0 := hok.s0
  have hu1 := hok.s1
  have ht0 := hok.t0
  have ht1 := hok.t1
  have ho0 := hok.o0
  have HI := Lib.hid hI
  have HB := Lib.hid hbs
  have HOK := Lib.hid hok
  have HND := Lib.hid hI.nd
  clear hI hbs hs hok
  obtain ⟨k, hk⟩ : ∃ k : Nat, no = X.head + (k : Int) := ⟨(no - X.head).toNat, by omega⟩
  have hkn : k ≤ n := by omega
  have hke : (no - X.head).toNat = k := by omega
  have hsub : no - X.head = (k : Int) := by omega
  have HKE := Lib.hid hke
  clear hk hke
  have HJN := Lib.hid hj
  have HJD : Hid (j ≠ d) := Lib.hid (fun e => hj (by rw [e]; exact HD.out.mem))
  clear hJ hj
  go_enter Tryz.func38, Tryz.ntmps38
  go_wp2_with fail
  refine Reg.wp_region_tail (R := ext) (W := w) [Reg.eqv (.pointer (some ⟨j, 0, none⟩)), Reg.eqv (.pointer (some ⟨j, 0, none⟩)), Reg.eqv (.pointer (some ⟨j, 0, none⟩)), Reg.eqv (.pointer (some ⟨d, 0, none⟩)), Reg.eqv (.pointer (some ⟨j, 0, none⟩)), Reg.eqv (.pointer (some ⟨j, 0, none⟩)), Reg.eqv (.pointer (some ⟨j, 0, none⟩)), Reg.eqv (.pointer (some ⟨d, 0, none⟩)), Reg.eqv (.pointer (some ⟨d, 0, none⟩)), Reg.eqv (.pointer (some ⟨d, 2, none⟩)), Reg.eqv (.slice A n c), Reg.eqv (.pointer (some ⟨j, 0, none⟩)), Reg.eqv (.pointer (some ⟨j, 0, none⟩)), Reg.eqv (.pointer (some ⟨j, 1, none⟩)), Reg.eqv (.int .i64 no), Reg.eqv (.pointer (some ⟨j, 0, none⟩)), Reg.eqv (.pointer (some ⟨j, 0, none⟩)), Reg.eqv (.pointer (some ⟨j, 0, none⟩)), Reg.eqv (.pointer (some ⟨d, 0, none⟩)), Reg.eqv (.pointer (some ⟨d, 0, none⟩)), Reg.eqv (.pointer (some ⟨d, 4, none⟩)), Reg.eqv (.int .i64 (X.head)), Reg.eqv (.int .i64 (k : Int)), Reg.eqv (.slice (cutA A 0 c 1) k c), Reg.eqv (.pointer (some ⟨d, 0, none⟩)), Reg.eqv (.pointer (some ⟨d, 2, none⟩))] 46 26 _ [[(0, none)], [(2, some 0)], [(3, some 1)], [(4, some 2)], [(0, none)], [(6, some 4)], [(7, some 5)], [(8, some 6)], [(9, some 7)], [(10, some 8)], [(11, some 9)], [(0, none)], [(13, some 11)], [(14, some 12)], [(15, some 13)], [(0, none)], [(17, some 15)], [(18, some 16)], [(19, some 17)], [(20, some 18)], [(21, some 19)], [(22, some 20)], [(16, some 14), (23, some 21)], [(12, some 10), (24, some 22)], [(5, some 3)], [(26, some 24)]] rfl (by kernel_rfl) (by kernel_rfl) (by rfl) (by rfl) rfl (by kernel_rfl) ?_ [some 2, some 3, some 4, some 5, some 6, some 7, some 8, some 9, some 10, some 11, some 12, some 13, some 14, some 15, some 16, some 17, some 18, some 19, some 20, some 21, some 22, some 23, some 24, some 25, some 26, some 27] (by kernel_rfl) ?_
  · refine ⟨?_, ?_, ?_, ?_, ?_, ?_, ?_, ?_, ?_, ?_, ?_, ?_, ?_, ?_, ?_, ?_, ?_, ?_, ?_, ?_, ?_, ?_, ?_, ?_, ?_, ?_, trivial⟩
    · intro ax wx hx hs
      obtain ⟨e0, -⟩ := hs
      have g0 := Reg.ev (v := .pointer (some ⟨j, 0, none⟩)) e0
      exact Reg.obl_free rfl (Reg.wp_eqv (Option.some_ne_none _) (by go_simp) rfl)
    · intro ax wx hx hs
      obtain ⟨e2, -⟩ := hs
      have g2 := Reg.ev (v := .pointer (some ⟨j, 0, none⟩)) e2
      exact Reg.obl_free rfl (Reg.wp_eqv (Option.some_ne_none _) (by go_simp) rfl)
    · intro ax wx hx hs
      obtain ⟨e3, -⟩ := hs
      have g3 := Reg.ev (v := .pointer (some ⟨j, 0, none⟩)) e3
      exact Reg.obl_free rfl (Reg.wp_eqv (Option.some_ne_none _) (by go_simp) rfl)
    · intro ax wx hx hs
      obtain ⟨e4, -⟩ := hs
      have g4 := Reg.ev (v := .pointer (some ⟨j, 0, none⟩)) e4
      have l0 := str10 (HI.out.box.next hx)
      have l1 := job3 (HJ.out.next hx) hll
      exact Reg.obl_free rfl (Reg.wp_eqv (Option.some_ne_none _) (by go_simp) rfl)
    · intro ax wx hx hs
      obtain ⟨e0, -⟩ := hs
      have g0 := Reg.ev (v := .pointer (some ⟨j, 0, none⟩)) e0
      exact Reg.obl_free rfl (Reg.wp_eqv (Option.some_ne_none _) (by go_simp) rfl)
    · intro ax wx hx hs
      obtain ⟨e6, -⟩ := hs
      have g6 := Reg.ev (v := .pointer (some ⟨j, 0, none⟩)) e6
      exact Reg.obl_free rfl (Reg.wp_eqv (Option.some_ne_none _) (by go_simp) rfl)
    · intro ax wx hx hs
      obtain ⟨e7, -⟩ := hs
      have g7 := Reg.ev (v := .pointer (some ⟨j, 0, none⟩)) e7
      exact Reg.obl_free rfl (Reg.wp_eqv (Option.some_ne_none _) (by go_simp) rfl)
    · intro ax wx hx hs
      obtain ⟨e8, -⟩ := hs
      have g8 := Reg.ev (v := .pointer (some ⟨j, 0, none⟩)) e8
      have l0 := str10 (HI.out.box.next hx)
      have l1 := job3 (HJ.out.next hx) hll
      exact Reg.obl_free rfl (Reg.wp_eqv (Option.some_ne_none _) (by go_simp) rfl)
    · intro ax wx hx hs
      obtain ⟨e9, -⟩ := hs
      have g9 := Reg.ev (v := .pointer (some ⟨d, 0, none⟩)) e9
      exact Reg.obl_free rfl (Reg.wp_eqv (Option.some_ne_none _) (by go_simp) rfl)
    · intro ax wx hx hs
      obtain ⟨e10, -⟩ := hs
      have g10 := Reg.ev (v := .pointer (some ⟨d, 0, none⟩)) e10
      exact Reg.obl_free rfl (Reg.wp_eqv (Option.some_ne_none _) (by go_simp) rfl)
    · intro ax wx hx hs
      obtain ⟨e11, -⟩ := hs
      have g11 := Reg.ev (v := .pointer (some ⟨d, 2, none⟩)) e11
      have l0 := str10 (HI.out.box.next hx)
      have l1 := job3 (HJ.out.next hx) hll
      exact Reg.obl_free rfl (Reg.wp_eqv (Option.some_ne_none _) (by go_simp) rfl)
    · intro ax wx hx hs
      obtain ⟨e0, -⟩ := hs
      have g0 := Reg.ev (v := .pointer (some ⟨j, 0, none⟩)) e0
      exact Reg.obl_free rfl (Reg.wp_eqv (Option.some_ne_none _) (by go_simp) rfl)
    · intro ax wx hx hs
      obtain ⟨e13, -⟩ := hs
      have g13 := Reg.ev (v := .pointer (some ⟨j, 0, none⟩)) e13
      exact Reg.obl_free rfl (Reg.wp_eqv (Option.some_ne_none _) (by go_simp) rfl)
    · intro ax wx hx hs
      obtain ⟨e14, -⟩ := hs
      have g14 := Reg.ev (v := .pointer (some ⟨j, 0, none⟩)) e14
      exact Reg.obl_free rfl (Reg.wp_eqv (Option.some_ne_none _) (by go_simp) rfl)
    · intro ax wx hx hs
      obtain ⟨e15, -⟩ := hs
      have g15 := Reg.ev (v := .pointer (some ⟨j, 1, none⟩)) e15
      have l0 := str10 (HI.out.box.next hx)
      have l1 := job3 (HJ.out.next hx) hll
      exact Reg.obl_free rfl (Reg.wp_eqv (Option.some_ne_none _) (by go_simp) rfl)
    · intro ax wx hx hs
      obtain ⟨e0, -⟩ := hs
      have g0 := Reg.ev (v := .pointer (some ⟨j, 0, none⟩)) e0
      exact Reg.obl_free rfl (Reg.wp_eqv (Option.some_ne_none _) (by go_simp) rfl)
    · intro ax wx hx hs
      obtain ⟨e17, -⟩ := hs
      have g17 := Reg.ev (v := .pointer (some ⟨j, 0, none⟩)) e17
      exact Reg.obl_free rfl (Reg.wp_eqv (Option.some_ne_none _) (by go_simp) rfl)
    · intro ax wx hx hs
      obtain ⟨e18, -⟩ := hs
      have g18 := Reg.ev (v := .pointer (some ⟨j, 0, none⟩)) e18
      exact Reg.obl_free rfl (Reg.wp_eqv (Option.some_ne_none _) (by go_simp) rfl)
    · intro ax wx hx hs
      obtain ⟨e19, -⟩ := hs
      have g19 := Reg.ev (v := .pointer (some ⟨j, 0, none⟩)) e19
      have l0 := str10 (HI.out.box.next hx)
      have l1 := job3 (HJ.out.next hx) hll
      exact Reg.obl_free rfl (Reg.wp_eqv (Option.some_ne_none _) (by go_simp) rfl)
    · intro ax wx hx hs
      obtain ⟨e20, -⟩ := hs
      have g20 := Reg.ev (v := .pointer (some ⟨d, 0, none⟩)) e20
      exact Reg.obl_free rfl (Reg.wp_eqv (Option.some_ne_none _) (by go_simp) rfl)
    · intro ax wx hx hs
      obtain ⟨e21, -⟩ := hs
      have g21 := Reg.ev (v := .pointer (some ⟨d, 0, none⟩)) e21
      exact Reg.obl_free rfl (Reg.wp_eqv (Option.some_ne_none _) (by go_simp) rfl)
    · intro ax wx hx hs
      obtain ⟨e22, -⟩ := hs
      have g22 := Reg.ev (v := .pointer (some ⟨d, 4, none⟩)) e22
      have l0 := str10 (HI.out.box.next hx)
      have l1 := job3 (HJ.out.next hx) hll
      exact Reg.obl_free rfl (Reg.wp_eqv (Option.some_ne_none _) (by go_simp) rfl)
    · intro ax wx hx hs
      obtain ⟨e16, e23, -⟩ := hs
      have g16 := Reg.ev (v := .int .i64 no) e16
      have g23 := Reg.ev (v := .int .i64 (X.head)) e23
      refine Reg.obl_free rfl ?_
      exact Reg.wp_eqv (Option.some_ne_none _) (by go_simp; exact IntWalk.i64_in _ (by omega)) rfl
    · intro ax wx hx hs
      obtain ⟨e12, e24, -⟩ := hs
      have g12 := Reg.ev (v := .slice A n c) e12
      have g24 := Reg.ev (v := .int .i64 (k : Int)) e24
      refine Reg.obl_free rfl ?_
      have hq1 : (0 : Int) ≤ (k : Int) := by omega
      have hq2 : (k : Int) ≤ (c : Int) := by omega
      exact Reg.wp_eqv (Option.some_ne_none _) (by go_simp) rfl
    · intro ax wx hx hs
      obtain ⟨e5, -⟩ := hs
      have g5 := Reg.ev (v := .pointer (some ⟨d, 0, none⟩)) e5
      exact Reg.obl_free rfl (Reg.wp_eqv (Option.some_ne_none _) (by go_simp) rfl)
    · intro ax wx hx hs
      obtain ⟨e26, -⟩ := hs
      have g26 := Reg.ev (v := .pointer (some ⟨d, 0, none⟩)) e26
      exact Reg.obl_free rfl (Reg.wp_eqv (Option.some_ne_none _) (by go_simp) rfl)
  · intro W1 hwf
    simp only [Reg.Fin]
    rintro _ rfl _ rfl _ rfl _ rfl _ rfl _ rfl _ rfl _ rfl _ rfl _ rfl _ rfl _ rfl _ rfl _ rfl _ rfl _ rfl _ rfl _ rfl _ rfl _ rfl _ rfl _ rfl _ rfl _ rfl _ rfl _ rfl
    have hwf' : Below w.heap.size w W1 := hwf
    have hI1 := HI.out.at_ (fun b hm => hwf'.block b (HI.out.lt b hm))
    have hz := fun i => hI1.box.frozen i
    have f1 := str10 hI1.box
    have hl1 := hI1.box.lt
    obtain ⟨gb', hO1, hgb⟩ := hI1.log.cut 0 k c (Nat.zero_le _) hkn (by omega) (Nat.le_refl _)
    rw [Nat.sub_zero, List.drop_zero, Nat.sub_zero] at hO1
    have hg1 := grown_set (grown_refl W1 d) 2 (.slice (cutA A 0 c 1) k c)
    have hS2 := hI1.box.set 2 (.slice (cutA A 0 c 1) k c)
    have HJ1 := Lib.hid (HJ.out.next hwf')
    have HI1 := Lib.hid hI1
    have HO1 := Lib.hid hO1
    have HG1 := Lib.hid hg1
    have HS2 := Lib.hid hS2
    have HBW := Lib.hid hwf'
    have HGB := Lib.hid hgb
    clear hwf hwf' hI1 hO1 hg1 hS2 hgb
    refine Reg.Goal.mk ?_
    go_simp
    generalize hW2 : W1.setCell ⟨d, 2, none⟩ (.slice (cutA A 0 c 1) k c) = W2
    rw [hW2] at HG1 HS2
    clear hW2 hz f1
    have HO2 := Lib.hid (HO1.out.grown HG1.out (by intro e; rcases HGB.out with e1 | e1; exact HI.out.gb_ne (e1.symm.trans e); rw [e1] at e; cases e))
    have HJ2 := Lib.hid (HJ1.out.grown HG1.out HJD.out)
    have HK2 := Lib.hid ((Reg.KeepB.of (b0 := [d]) HBW.out).grown HG1.out HBW.out.size (.inr (by simp)))
    have hsz2 := HG1.out.size
    have hl2 : d < W2.heap.size := by omega
    have HS3 : Hid (Str W2 d (devC X.safe.length sb mb (cutA A 0 c 1) k c X)) := Lib.hid HS2.out
    have hjl2 : j < W2.heap.size := by have := HJ2.out.lt; omega
    clear HJ1 HO1 HS2
    go_wp2_with fail
    refine Reg.wp_region_tail (R := ext) (W := W2) [Reg.eqv (.pointer (some ⟨j, 0, none⟩)), Reg.eqv (.pointer (some ⟨j, 0, none⟩)), Reg.eqv (.pointer (some ⟨j, 0, none⟩)), Reg.eqv (.pointer (some ⟨d, 0, none⟩)), Reg.eqv (.pointer (some ⟨j, 0, none⟩)), Reg.eqv (.pointer (some ⟨j, 0, none⟩)), Reg.eqv (.pointer (some ⟨j, 0, none⟩)), Reg.eqv (.pointer (some ⟨d, 0, none⟩)), Reg.eqv (.pointer (some ⟨d, 0, none⟩)), Reg.eqv (.pointer (some ⟨d, 5, none⟩)), Reg.eqv (.int .i64 (X.sure)), Reg.eqv (.pointer (some ⟨j, 0, none⟩)), Reg.eqv (.pointer (some ⟨j, 0, none⟩)), Reg.eqv (.pointer (some ⟨j, 1, none⟩)), Reg.eqv (.int .i64 no), Reg.eqv (.int .i64 (min X.sure no)), Reg.eqv (.pointer (some ⟨d, 0, none⟩)), Reg.eqv (.pointer (some ⟨d, 5, none⟩))] 46 18 _ [[(0, none)], [(28, some 0)], [(29, some 1)], [(30, some 2)], [(0, none)], [(32, some 4)], [(33, some 5)], [(34, some 6)], [(35, some 7)], [(36, some 8)], [(37, some 9)], [(0, none)], [(39, some 11)], [(40, some 12)], [(41, some 13)], [(38, some 10), (42, some 14)], [(31, some 3)], [(44, some 16)]] rfl (by kernel_rfl) (by kernel_rfl) (by rfl) (by rfl) rfl (by kernel_rfl) ?_ [some 28, some 29, some 30, some 31, some 32, some 33, some 34, some 35, some 36, some 37, some 38, some 39, some 40, some 41, some 42, some 43, some 44, some 45] (by kernel_rfl) ?_
    · refine ⟨?_, ?_, ?_, ?_, ?_, ?_, ?_, ?_, ?_, ?_, ?_, ?_, ?_, ?_, ?_, ?_, ?_, ?_, trivial⟩
      · intro ax wx hx hs
        obtain ⟨e0, -⟩ := hs
        have g0 := Reg.ev (v := .pointer (some ⟨j, 0, none⟩)) e0
        exact Reg.obl_free rfl (Reg.wp_eqv (Option.some_ne_none _) (by go_simp) rfl)
      · intro ax wx hx hs
        obtain ⟨e28, -⟩ := hs
        have g28 := Reg.ev (v := .pointer (some ⟨j, 0, none⟩)) e28
        exact Reg.obl_free rfl (Reg.wp_eqv (Option.some_ne_none _) (by go_simp) rfl)
      · intro ax wx hx hs
        obtain ⟨e29, -⟩ := hs
        have g29 := Reg.ev (v := .pointer (some ⟨j, 0, none⟩)) e29
        exact Reg.obl_free rfl (Reg.wp_eqv (Option.some_ne_none _) (by go_simp) rfl)
      · intro ax wx hx hs
        obtain ⟨e30, -⟩ := hs
        have g30 := Reg.ev (v := .pointer (some ⟨j, 0, none⟩)) e30
        have l0 := str10 (HS3.out.next hx)
        have l1 := job3 (HJ2.out.next hx) hll
        exact Reg.obl_free rfl (Reg.wp_eqv (Option.some_ne_none _) (by go_simp) rfl)
      · intro ax wx hx hs
        obtain ⟨e0, -⟩ := hs
        have g0 := Reg.ev (v := .pointer (some ⟨j, 0, none⟩)) e0
        exact Reg.obl_free rfl (Reg.wp_eqv (Option.some_ne_none _) (by go_simp) rfl)
      · intro ax wx hx hs
        obtain ⟨e32, -⟩ := hs
        have g32 := Reg.ev (v := .pointer (some ⟨j, 0, none⟩)) e32
        exact Reg.obl_free rfl (Reg.wp_eqv (Option.some_ne_none _) (by go_simp) rfl)
      · intro ax wx hx hs
        obtain ⟨e33, -⟩ := hs
        have g33 := Reg.ev (v := .pointer (some ⟨j, 0, none⟩)) e33
        exact Reg.obl_free rfl (Reg.wp_eqv (Option.some_ne_none _) (by go_simp) rfl)
      · intro ax wx hx hs
        obtain ⟨e34, -⟩ := hs
        have g34 := Reg.ev (v := .pointer (some ⟨j, 0, none⟩)) e34
        have l0 := str10 (HS3.out.next hx)
        have l1 := job3 (HJ2.out.next hx) hll
        exact Reg.obl_free rfl (Reg.wp_eqv (Option.some_ne_none _) (by go_simp) rfl)
      · intro ax wx hx hs
        obtain ⟨e35, -⟩ := hs
        have g35 := Reg.ev (v := .pointer (some ⟨d, 0, none⟩)) e35
        exact Reg.obl_free rfl (Reg.wp_eqv (Option.some_ne_none _) (by go_simp) rfl)
      · intro ax wx hx hs
        obtain ⟨e36, -⟩ := hs
        have g36 := Reg.ev (v := .pointer (some ⟨d, 0, none⟩)) e36
        exact Reg.obl_free rfl (Reg.wp_eqv (Option.some_ne_none _) (by go_simp) rfl)
      · intro ax wx hx hs
        obtain ⟨e37, -⟩ := hs
        have g37 := Reg.ev (v := .pointer (some ⟨d, 5, none⟩)) e37
        have l0 := str10 (HS3.out.next hx)
        have l1 := job3 (HJ2.out.next hx) hll
        exact Reg.obl_free rfl (Reg.wp_eqv (Option.some_ne_none _) (by go_simp) rfl)
      · intro ax wx hx hs
        obtain ⟨e0, -⟩ := hs
        have g0 := Reg.ev (v := .pointer (some ⟨j, 0, none⟩)) e0
        exact Reg.obl_free rfl (Reg.wp_eqv (Option.some_ne_none _) (by go_simp) rfl)
      · intro ax wx hx hs
        obtain ⟨e39, -⟩ := hs
        have g39 := Reg.ev (v := .pointer (some ⟨j, 0, none⟩)) e39
        exact Reg.obl_free rfl (Reg.wp_eqv (Option.some_ne_none _) (by go_simp) rfl)
      · intro ax wx hx hs
        obtain ⟨e40, -⟩ := hs
        have g40 := Reg.ev (v := .pointer (some ⟨j, 0, none⟩)) e40
        exact Reg.obl_free rfl (Reg.wp_eqv (Option.some_ne_none _) (by go_simp) rfl)
      · intro ax wx hx hs
        obtain ⟨e41, -⟩ := hs
        have g41 := Reg.ev (v := .pointer (some ⟨j, 1, none⟩)) e41
        have l0 := str10 (HS3.out.next hx)
        have l1 := job3 (HJ2.out.next hx) hll
        exact Reg.obl_free rfl (Reg.wp_eqv (Option.some_ne_none _) (by go_simp) rfl)
      · intro ax wx hx hs
        obtain ⟨e38, e42, -⟩ := hs
        have g38 := Reg.ev (v := .int .i64 (X.sure)) e38
        have g42 := Reg.ev (v := .int .i64 no) e42
        refine Reg.obl_free rfl ?_
        exact Reg.wp_eqv (Option.some_ne_none _) (by go_simp; split <;> omega) rfl
      · intro ax wx hx hs
        obtain ⟨e31, -⟩ := hs
        have g31 := Reg.ev (v := .pointer (some ⟨d, 0, none⟩)) e31
        exact Reg.obl_free rfl (Reg.wp_eqv (Option.some_ne_none _) (by go_simp) rfl)
      · intro ax wx hx hs
        obtain ⟨e44, -⟩ := hs
        have g44 := Reg.ev (v := .pointer (some ⟨d, 0, none⟩)) e44
        exact Reg.obl_free rfl (Reg.wp_eqv (Option.some_ne_none _) (by go_simp) rfl)
    · intro W3 hwf
      simp only [Reg.Fin]
      rintro _ rfl _ rfl _ rfl _ rfl _ rfl _ rfl _ rfl _ rfl _ rfl _ rfl _ rfl _ rfl _ rfl _ rfl _ rfl _ rfl _ rfl _ rfl
      have hwf' : Below W2.heap.size W2 W3 := hwf
      have hS3 := HS3.out.next hwf'
      have hz := fun i => hS3.frozen i
      have f1 := str10 hS3
      have hl3 := hS3.lt
      have hg3 := grown_set (grown_refl W3 d) 5 (.int .i64 (min X.sure no))
      have HS4 := Lib.hid (hS3.set 5 (.int .i64 (min X.sure no)))
      have HO4 := Lib.hid ((HO2.out.next hwf').grown hg3 (by intro e; rcases HGB.out with e1 | e1; exact HI.out.gb_ne (e1.symm.trans e); rw [e1] at e; cases e))
      have HK4 := Lib.hid ((HK2.out.step hwf' HK2.out.size).grown hg3 (by have := HK2.out.size; have := hwf'.size; omega) (.inr (by simp)))
      clear hwf hwf' hS3 hg3
      refine Reg.Goal.mk ?_
      go_simp
      go_wp2
      go_end0
      have hk := HOK.out
      have hbp : ∀ b ∈ bp, (W3.setCell ⟨d, 5, none⟩ (.int .i64 (min X.sure no))).heap[b]? = w.heap[b]? := fun b hm => HK4.out.block b (HI.out.pages.lt b hm) (by have := HI.out.bp_ne b hm; simpa using this)
      have hok2 : DevP.Ok { X with log := X.log.take (no - X.head).toNat, sure := min X.sure no } := by
        rw [HKE.out]
        exact ⟨hk.n0, hk.n1, hk.nl, hk.h0, by show X.head ≤ min X.sure no; omega, by show min X.sure no ≤ X.head + ((X.log.take k).length : Nat); rw [List.length_take]; omega, hk.t0, hk.t1, hk.o0, hk.f0, hk.f1, hk.w0, hk.w1⟩
      obtain ⟨bs', hD', hn'⟩ := HI.out.relog (X' := { X with log := X.log.take (no - X.head).toNat, sure := min X.sure no }) hbp HS4.out (by rw [HKE.out]; exact HO4.out) (HGB.out.imp id .inl) rfl rfl (Nat.le_refl _) hok2
      exact ⟨rfl, bs', hD', HK4.out.more (fun b hb => by rw [List.mem_singleton] at hb; rw [hb]; exact HD.out.mem), fun b hb => by rw [HB.out]; exact hn' b hb, trivial⟩
end Go.Proofs.YtpdfnlhhnodnjaaGreat.DevW
end
section
namespace Go.Proofs.YtpdfnlhhnodnjaaGreat
open Go.RowKit Go.Maps
set_option linter.unusedVariables false
set_option linter.unusedSimpArgs false
namespace DevP
def op (X : DevX) (fits : Bool) (X1 : DevX) : DevX := if err X fits = 0 then done X1 else stop X fits
theorem err_zero {X : DevX} {fits : Bool} (h : err X fits = 0) : X.off = false ∧ fits = true ∧ (X.fused = true → X.fuse ≠ 0) := by
  unfold err at h
  cases ho : X.off with
  | true => simp [ho] at h
  | false =>
    cases fits with
    | false => simp [ho] at h
    | true =>
      refine ⟨rfl, rfl, fun hf h0 => ?_⟩
      simp [ho, hf, h0] at h
end DevP
namespace DevW
variable {d sb mb : Nat} {bp bs : List Nat} {gb : Option Nat} {A : Option Addr} {n c nm : Nat} {es : List (Int × SlV)} {X : DevX}
def Did (w : World) (d : Nat) (bs js : List Nat) (X : DevX) (fits : Bool) (X1 : DevX) (E : World → Prop) (e : Ending) (w' : World) : Prop :=
  e = .returned (.int .i64 (DevP.err X fits)) ∧ ∃ bs', Dev w' d bs' (DevP.op X fits X1) ∧ (∀ b ∈ bs', b ∈ bs ∨ w.heap.size ≤ b) ∧ Reg.KeepB w.heap.size (js ++ bs) w w' ∧ (DevP.err X fits = 0 → E w') ∧ (DevP.err X fits ≠ 0 → Reg.KeepB w.heap.size bs w w')
theorem do_any (fn : FuncId) (first : Array Value) (E : World → Prop) (js : List Nat) (fits : Bool) (w : World) (X1 : DevX) (hD : Dev w d bs X) (hs : X.ops ≤ 1000000000) (hj : ∀ b ∈ js, b < w.heap.size)
    (hE : ∀ W1 W2 : World, W1.grownBy W2 (some d) → E W1 → E W2) (h1 : X1.fused = X.fused) (h2 : X1.fuse = X.fuse) (h3 : X1.ops = X.ops)
    (hce : ∀ W : World, (callFunc fn first).run Tryz.prog W = .ok (.enter fn first) W)
    (hact : fits = true → ∀ W, Below w.heap.size w W → Calls Tryz.prog fn first W (Acts W d bs js X1 E)) :
    Calls Tryz.prog 36 #[.pointer (some ⟨d, 0, none⟩), .bool fits, .func (.func fn) first #[]] w (Did w d bs js X fits X1 E) := by
  by_cases he : DevP.err X fits = 0
  · obtain ⟨e1, rfl, e3⟩ := DevP.err_zero he
    refine (do_ok fn first E js w X1 hD hs e1 e3 hj hE h1 h2 h3 hce (hact rfl)).mono ?_
    rintro e w' ⟨rfl, bs', k1, k2, k3, k4⟩
    refine ⟨by rw [he], bs', ?_, k3, k2, fun _ => k4, fun hn => absurd he hn⟩
    unfold DevP.op
    rw [if_pos he]
    exact k1
  · refine (do_stop fits _ w hD he).mono ?_
    rintro e w' ⟨rfl, k1, k2⟩
    refine ⟨rfl, bs, ?_, fun b hb => .inl hb, k2.more (fun b hb => List.mem_append.2 (.inr hb)), fun h => absurd h he, fun _ => k2⟩
    unfold DevP.op
    rw [if_neg he]
    exact k1
/-- a device's method has told r -/
def Told (w : World) (d : Nat) (bs : List Nat) (X : DevX) (r : Value) (e : Ending) (w' : World) : Prop :=
  e = .returned r ∧ ∃ bs', Dev w' d bs' X ∧ (∀ b ∈ bs', b ∈ bs ∨ w.heap.size ≤ b) ∧ Reg.KeepB w.heap.size bs w w'
/-- what a call that began later has kept, of what was there before -/
theorem keep_since {w W1 w' : World} {js bs : List Nat} (h1 : Below w.heap.size w W1) (h2 : Reg.KeepB W1.heap.size (js ++ bs) W1 w') (hj : ∀ b ∈ js, w.heap.size ≤ b) : Reg.KeepB w.heap.size bs w w' :=
  ⟨h2.os.trans h1.os, h2.tape.trans h1.tape, h2.output.trans h1.output, Nat.le_trans h1.size h2.size, fun i hi hb => (h2.block i (Nat.lt_of_lt_of_le hi h1.size) (fun hm => by
    rcases List.mem_append.1 hm with hm | hm
    · have := hj i hm; omega
    · exact hb hm)).trans (h1.block i hi)⟩
theorem Did.told {w W1 w' : World} {js : List Nat} {fits : Bool} {X1 : DevX} {E : World → Prop} {e : Ending} (h : Did W1 d bs js X fits X1 E e w') (h1 : Below w.heap.size w W1) (hj : ∀ b ∈ js, w.heap.size ≤ b) : Told w d bs (DevP.op X fits X1) (.int .i64 (DevP.err X fits)) e w' := by
  obtain ⟨rfl, bs', k1, k2, k3, -⟩ := h
  exact ⟨rfl, bs', k1, fun b hb => (k2 b hb).imp id fun h => Nat.le_trans h1.size h, keep_since h1 k3 hj⟩
attribute [local go_sem ↓] alJob_fold bdJob_fold stJob_fold
set_option maxRecDepth 100000 in
set_option maxHeartbeats 1000000 in
theorem Flush_any (w : World) (hD : Dev w d bs X) (hs : DevP.Small X) :
    Calls Tryz.prog 25 #[.pointer (some ⟨d, 0, none⟩)] w (Told w d bs (DevP.op X true { X with sure := X.head + (X.log.length : Nat) }) (.int .i64 (DevP.err X true))) := by
  have hmf : ∀ (fn : Fn) (first cap : Array Value) (w : World), (Instr.makeFunc fn first cap).run Tryz.prog w = .ok (.func fn first cap) w := fun _ _ _ _ => rfl
  go_enter Tryz.func25, Tryz.ntmps25
  go_wp2_with fail
  refine (do_any 49 #[.pointer (some ⟨d, 0, none⟩)] (fun _ => True) [] true w { X with sure := X.head + (X.log.length : Nat) } hD hs.1 (by simp) (fun _ _ _ _ => trivial) rfl rfl rfl (fun _ => rfl) (fun _ W hb => ?_)).mono ?_
  · refine (flush_act W (hD.below hb) hs).mono ?_
    exact fun e w' h => h
  · rintro e w1 h
    have HT := Lib.hid (h.told (bsame w) (by simp))
    obtain ⟨rfl, -⟩ := h
    go_wp2
    go_ret
    exact HT.out
set_option maxRecDepth 100000 in
set_option maxHeartbeats 1000000 in
theorem Cut_any (no : Int) (w : World) (hD : Dev w d bs X) (hs : DevP.Small X) :
    Calls Tryz.prog 19 #[.pointer (some ⟨d, 0, none⟩), .int .i64 no] w (Told w d bs (DevP.op X (decide (X.head ≤ no) && decide (no ≤ X.head + (X.log.length : Nat))) { X with log := X.log.take (no - X.head).toNat, sure := min X.sure no }) (.int .i64 (DevP.err X (decide (X.head ≤ no) && decide (no ≤ X.head + (X.log.length : Nat)))))) := by
  have hmf : ∀ (fn : Fn) (first cap : Array Value) (w : World), (Instr.makeFunc fn first cap).run Tryz.prog w = .ok (.func fn first cap) w := fun _ _ _ _ => rfl
  have hz512 : (SlotP.zeros 512).length = 512 := List.length_replicate
  have hal := job_al
  have hbd := fun W => job_bd2 d no W
  have hst := job_st (d := d) (n := no) (l := SlotP.zeros 512) (A := none) (m := 0) (c := 0) (Str.new w jobZ 86) hz512
  obtain ⟨W1, hW1⟩ : ∃ W, (w.alloc (.cells jobZ 86)).setRow w.heap.size (jobC d no (SlotP.zeros 512) (.slice none 0 0)) = W := ⟨_, rfl⟩
  rw [hW1] at hst
  have hJ1 : Str W1 w.heap.size (jobC d no (SlotP.zeros 512) (.slice none 0 0)) := by rw [← hW1]; exact (Str.new _ _ _).setRow
  have hb1 : Below w.heap.size w W1 := by rw [← hW1]; exact below_setRow (balloc (bsame _) _) (Nat.le_refl _) _
  have hD1 := hD.below hb1
  have hj : w.heap.size ∉ bs := fun hm => by have := hD.lt _ hm; omega
  have HJ1 := Lib.hid hJ1
  have HB1 := Lib.hid hb1
  have HD1 := Lib.hid hD1
  have HJN := Lib.hid hj
  clear hW1 hJ1 hb1 hD1 hj
  obtain ⟨fits, hfits⟩ : ∃ f, (decide (X.head ≤ no) && decide (no ≤ X.head + (X.log.length : Nat))) = f := ⟨_, rfl⟩
  rw [hfits]
  have HFI := Lib.hid hfits
  clear hfits
  go_enter Tryz.func19, Tryz.ntmps19
  go_wp2_with fail
  refine (spans_any no W1 HD1.out hs).mono ?_
  rintro e W2 ⟨rfl, hb2⟩
  rw [HFI.out]
  have hd2 := HD1.out.below hb2
  have hJ2 := HJ1.out.next hb2
  have hjl := hJ2.lt
  have hb3 := bstep HB1.out hb2
  clear hst hbd hal hb2
  go_wp2_with fail
  refine (do_any 38 #[.pointer (some ⟨w.heap.size, 0, none⟩)] (fun _ => True) [] fits W2 { X with log := X.log.take (no - X.head).toNat, sure := min X.sure no } hd2 hs.1 (by simp) (fun _ _ _ _ => trivial) rfl rfl rfl (fun _ => rfl) (fun hf W hb => ?_)).mono ?_
  · subst hf
    have hf := HFI.out
    simp only [Bool.and_eq_true, decide_eq_true_eq] at hf
    refine (cut_act w.heap.size no _ _ W (hJ2.next hb) hz512 (hd2.below hb) hs HJN.out hf.1 hf.2).mono ?_
    exact fun e w' h => h
  · rintro e w1 h
    have HT := Lib.hid (h.told hb3 (by simp))
    obtain ⟨rfl, -⟩ := h
    go_wp2
    go_ret
    exact HT.out
end DevW
end Go.Proofs.YtpdfnlhhnodnjaaGreat
end
section
namespace Go.Proofs.YtpdfnlhhnodnjaaGreat
open Go.RowKit
set_option linter.unusedVariables false
set_option linter.unusedSimpArgs false
/-- a number in a slice -/
def IntE : El Int where
  size := 1
  pos := by decide
  rel w B vs x := vs = [.int .i64 x]
  len := by rintro w B vs p rfl; rfl
  one := by rintro w B vs p rfl v hv; simp only [List.mem_singleton] at hv; subst hv; rfl
  sub := by rintro w w' B vs p hs h; exact h
  more := by rintro w B B' vs p hB h; exact h
theorem intE_flat {w : World} {B : Nat} : ∀ {vs : List (List Value)} {l : List Int}, Rel2 (IntE.rel w B) vs l → vs.flatten = l.map (Value.int .i64)
  | [], [], _ => rfl
  | [], _ :: _, h => h.elim
  | _ :: _, [], h => h.elim
  | v :: vs, x :: l, h => by
    have h1 : v = [.int .i64 x] := h.1
    rw [List.flatten_cons, h1, intE_flat h.2]
    rfl
theorem intE_rel (w : World) (B : Nat) : ∀ l : List Int, Rel2 (IntE.rel w B) (l.map fun x => [.int .i64 x]) l
  | [] => trivial
  | x :: l => ⟨rfl, intE_rel w B l⟩
theorem intE_map (l : List Int) : (l.map fun x => [Value.int .i64 x]).flatten = l.map (Value.int .i64) := by
  induction l with
  | nil => rfl
  | cons x l ih => rw [List.map_cons, List.flatten_cons, ih]; rfl
theorem IntE.own {w : World} {T : TypeId} {base n c : Nat} {A : Option Addr} {l : List Int} (h : OwnE IntE T w base A n c l) : w.ownsRow base T 1 (.slice A n c) n (l.map (Value.int .i64)) := by
  obtain ⟨vs, h1, h2⟩ := h
  rw [← intE_flat h2]
  exact h1
theorem IntE.mk' {w : World} {T : TypeId} {base n c : Nat} {A : Option Addr} {l : List Int} (h : w.ownsRow base T 1 (.slice A n c) n (l.map (Value.int .i64))) : OwnE IntE T w base A n c l :=
  ⟨l.map fun x => [.int .i64 x], by rw [intE_map]; exact h, intE_rel _ _ l⟩
theorem IntE.grown {w w' : World} {T : TypeId} {base n c g : Nat} {A : Option Addr} {l : List Int} (h : OwnE IntE T w base A n c l) (hg : w.grownBy w' (some g)) (hne : g < base) : OwnE IntE T w' base A n c l :=
  IntE.mk' (own_grown (IntE.own h) hg (fun a e => by have := h.ge a e; omega))
/-- a number typed out, as a source -/
theorem IntE.lit {w wr : World} {b : Nat} {x : Int} (hs : Str w b #[.int .i64 x]) : ElemsIn IntE wr w w.heap.size (some ⟨b, 0, none⟩) 1 1 [x] :=
  ⟨[[.int .i64 x]], ⟨rfl, trivial⟩, rfl, Nat.le_refl _, by unfold maxLen; omega, fun _ => ⟨b, 0, rfl, hs.lt, fun j v hv => by
    have hj : j = 0 := by have := (List.getElem?_eq_some_iff.1 hv).1; simp at this; omega
    subst hj
    simp at hv
    subst hv
    exact hs.cell 0⟩⟩
theorem infoI : (Tryz.prog.info? 3).map (fun i => (i.zero, i.size, i.bytes)) = some (some (.int .i64 0), 1, 8) := by kernel_rfl
end Go.Proofs.YtpdfnlhhnodnjaaGreat
end
section
namespace Go.Proofs.YtpdfnlhhnodnjaaGreat
open Go.RowKit Go.Maps
set_option linter.unusedVariables false
/-- a struct as a map's element -/
def recS : ElS (Array Value) where
  val cs := .agg cs
  inv v := match v with
    | .agg cs => some cs
    | _ => none
  inv_val _ := rfl
  val_inv := by
    intro v a h
    split at h
    · cases h; rfl
    · cases h
theorem own_at {w w' : World} {base : Nat} {e : TypeId} {size n c : Nat} {A : Option Addr} {xs : List Value} (h : w.ownsRow base e size (.slice A n c) n xs) (hb : ∀ a, A = some a → w'.heap[a.block]? = w.heap[a.block]?) : w'.ownsRow base e size (.slice A n c) n xs := by
  obtain ⟨h1, h2 | ⟨g, cap, cur, h3, h4, h5, h6⟩⟩ := h
  · exact ⟨h1, .inl h2⟩
  · refine ⟨h1, .inr ⟨g, cap, cur, h3, h4, ?_, h6⟩⟩
    cases h3
    exact (hb _ rfl).trans h5
theorem IntE.at_ {w w' : World} {T : TypeId} {base n c : Nat} {A : Option Addr} {l : List Int} (h : OwnE IntE T w base A n c l) (hb : ∀ a, A = some a → w'.heap[a.block]? = w.heap[a.block]?) : OwnE IntE T w' base A n c l :=
  IntE.mk' (own_at (IntE.own h) hb)
theorem IntE.lt {w : World} {T : TypeId} {base n c : Nat} {A : Option Addr} {l : List Int} (h : OwnE IntE T w base A n c l) : ∀ a, A = some a → a.block < w.heap.size := by
  obtain ⟨h1, ⟨h2, -⟩ | ⟨g, cap, cur, h3, h4, h5, h6⟩⟩ := IntE.own h
  · intro a e
    cases h2
    cases e
  · intro a e
    cases h3
    cases e
    exact (Array.getElem?_eq_some_iff.1 h5).1
namespace WalW
def logC (d mb : Nat) (A : Option Addr) (n c : Nat) (lim kept forced : Int) : Array Value := #[.pointer (some ⟨d, 0, none⟩), .int .i64 lim, .int .i64 kept, .int .i64 forced, .map (some mb), .slice A n c]
/-- a log in memory, all of its parts named -/
structure LogIn (w : World) (lb d mb nm : Nat) (A : Option Addr) (n c : Nat) (bs : List Nat) (X : DevX) (L : MapP.T Int (Array Value)) (lim kept forced : Int) (ps : List Int) : Prop where
  box : Str w lb (logC d mb A n c lim kept forced)
  dev : DevW.Dev w d bs X
  map : MapM Tryz.prog intK recS 3 w mb nm L
  row : OwnE IntE 3 w 0 A n c ps
  n1 : lb ≠ mb
  n2 : lb ∉ bs
  n3 : mb ∉ bs
  n4 : ∀ a, A = some a → a.block ≠ lb ∧ a.block ≠ mb ∧ a.block ∉ bs
section
variable {w w' : World} {lb d mb nm n c : Nat} {A : Option Addr} {bs : List Nat} {X : DevX} {L : MapP.T Int (Array Value)} {lim kept forced : Int} {ps : List Int}
theorem LogIn.next (h : LogIn w lb d mb nm A n c bs X L lim kept forced ps) (hb : Below w.heap.size w w') : LogIn w' lb d mb nm A n c bs X L lim kept forced ps :=
  ⟨h.box.next hb, h.dev.below hb, h.map.at_ (hb.block _ h.map.lt), h.row.next hb, h.n1, h.n2, h.n3, h.n4⟩
/-- the device has done something -/
theorem LogIn.told {X' : DevX} {bs' : List Nat} (h : LogIn w lb d mb nm A n c bs X L lim kept forced ps) (hD : DevW.Dev w' d bs' X') (hn : ∀ b ∈ bs', b ∈ bs ∨ w.heap.size ≤ b) (k : Reg.KeepB w.heap.size bs w w') : LogIn w' lb d mb nm A n c bs' X' L lim kept forced ps := by
  have hl := h.box.lt
  have hm := h.map.lt
  have hr := IntE.lt h.row
  refine ⟨h.box.keepB k h.n2, hD, h.map.at_ (k.block _ hm h.n3), IntE.at_ h.row (fun a e => k.block _ (hr a e) (h.n4 a e).2.2), h.n1, fun hb => ?_, fun hb => ?_, fun a e => ⟨(h.n4 a e).1, (h.n4 a e).2.1, fun hb => ?_⟩⟩
  · rcases hn _ hb with hb | hb
    · exact h.n2 hb
    · omega
  · rcases hn _ hb with hb | hb
    · exact h.n3 hb
    · omega
  · rcases hn _ hb with hb | hb
    · exact (h.n4 a e).2.2 hb
    · have := hr a e; omega
/-- a field of the box is set -/
theorem LogIn.turn {lim' kept' forced' : Int} (h : LogIn w lb d mb nm A n c bs X L lim kept forced ps) (hg : w.grownBy w' (some lb)) (hs : Str w' lb (logC d mb A n c lim' kept' forced')) : LogIn w' lb d mb nm A n c bs X L lim' kept' forced' ps :=
  ⟨hs, h.dev.grown hg h.n2, h.map.at_ (hg.block _ h.map.lt (fun e => by injection e with e; exact h.n1 e.symm)), IntE.at_ h.row (fun a e => hg.block _ (IntE.lt h.row a e) (fun e2 => by injection e2 with e2; exact (h.n4 a e).1 e2)), h.n1, h.n2, h.n3, h.n4⟩
/-- a record is kept by its place -/
theorem LogIn.keep {nm' : Nat} {L' : MapP.T Int (Array Value)} (h : LogIn w lb d mb nm A n c bs X L lim kept forced ps) (hg : w.grownBy w' (some mb)) (hm : MapM Tryz.prog intK recS 3 w' mb nm' L') : LogIn w' lb d mb nm' A n c bs X L' lim kept forced ps :=
  ⟨h.box.grown hg (fun e => h.n1 e), h.dev.grown hg h.n3, hm, IntE.at_ h.row (fun a e => hg.block _ (IntE.lt h.row a e) (fun e2 => by injection e2 with e2; exact (h.n4 a e).2.1 e2)), h.n1, h.n2, h.n3, h.n4⟩
end
end WalW
end Go.Proofs.YtpdfnlhhnodnjaaGreat
end
