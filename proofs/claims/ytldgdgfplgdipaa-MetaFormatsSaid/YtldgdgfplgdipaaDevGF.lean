/-
  Texts of one claim, joined: DevAdd, DevCrash, DevWri, DevWrite, DevWrite2.
-/
import Derived.Test.YtldgdgfplgdipaaDevGD
import Derived.Test.YtldgdgfplgdipaaRegL
import Derived.Test.YtldgdgfplgdipaaDevGE
import Derived.Test.YtldgdgfplgdipaaElemG
namespace Go.Proofs.Ytldgdgfplgdipaa
open Go.RowKit Go.Maps
set_option linter.unusedVariables false
set_option linter.unusedSimpArgs false
theorem Bytes.keepE {w w' : World} {B n c : Nat} {b0 : List Nat} {A : Option Addr} {l : List UInt8} (h : Bytes w B A n c l) (hne : 0 < n → ∀ a, A = some a → a.block ∉ b0) (k : Reg.KeepB B b0 w w') : Bytes w' B A n c l :=
  ⟨h.1, h.2.1, h.2.2.1, fun hn => by
    obtain ⟨b, o, e, hb, hc⟩ := h.2.2.2 hn
    exact ⟨b, o, e, hb, fun j u hu => (k.cell (p := ⟨b, o + j, none⟩) hb (show b ∉ b0 from hne hn _ e)).trans (hc j u hu)⟩⟩
namespace DevW
/-- the parts of an append to the log -/
structure Add where
  N : Nat
  d : Nat
  box : Array Value
  gb : Option Nat
  A : Option Addr
  n : Nat
  c : Nat
  log : List UInt8
  m : Nat
  l2 : List UInt8
def Add.Row (I : Add) (w : World) (A' : Option Addr) (c' : Nat) : Prop := ∃ gb', OwnS w gb' A' (I.n + I.m) c' (I.log ++ I.l2) ∧ (gb' = I.gb ∨ ∃ g, gb' = some g ∧ I.N ≤ g)
def Add.S (I : Add) : Reg.LS := fun k b a w => match k with
  | 0 => Str w I.d I.box ∧ OwnS w I.gb I.A I.n I.c I.log
  | 1 => a.eval (.tmp 12) = .slice I.A I.n I.c ∧ Str w I.d I.box ∧ OwnS w I.gb I.A I.n I.c I.log
  | 2 => ∃ A' c', a.eval (.tmp 17) = .slice A' (I.n + I.m) c' ∧ Str w I.d I.box ∧ I.Row w A' c'
  | _ => ∃ A' c', Str w I.d (I.box.setIfInBounds 2 (.slice A' (I.n + I.m) c')) ∧ I.Row w A' c'
section
variable {I : Add} {a : Act} {w w' : World} {b : Bool} {dst : Option Tmp} {v : Value}
theorem Add.Row.next {A' : Option Addr} {c' : Nat} (h : I.Row w A' c') (hb : Below w.heap.size w w') : I.Row w' A' c' := by
  obtain ⟨gb', h1, h2⟩ := h
  exact ⟨gb', h1.next hb, h2⟩
theorem Add.S_put (hd : dst ≠ some 12 ∧ dst ≠ some 17) (k : Nat) (h : I.S k b a w) (hb : Below w.heap.size w w') : I.S k b (a.put dst v) w' := by
  match k, h with
  | 0, h => exact ⟨h.1.next hb, h.2.next hb⟩
  | 1, h => exact ⟨by rw [Reg.eval_ne hd.1]; exact h.1, h.2.1.next hb, h.2.2.next hb⟩
  | 2, h =>
    obtain ⟨A', c', h1, h2, h3⟩ := h
    exact ⟨A', c', by rw [Reg.eval_ne hd.2]; exact h1, h2.next hb, h3.next hb⟩
  | _ + 3, h =>
    obtain ⟨A', c', h2, h3⟩ := h
    exact ⟨A', c', h2.next hb, h3.next hb⟩
theorem Add.S_zero (h : I.S 0 b a w) (ha : 12 < a.tmps.size) : I.S 1 b (a.put (some 12) (.slice I.A I.n I.c)) w := ⟨Reg.eval_put_same ha, h.1, h.2⟩
theorem keep_gb {N d : Nat} {gb : Option Nat} (h : w.grownBy w' gb) (hN : N ≤ w.heap.size) : Reg.KeepB N (d :: gb.toList) w w' := by
  refine ⟨h.os, h.tape, h.output, h.size, fun i hi hn => h.block i (by omega) (fun e => hn ?_)⟩
  rw [← e]
  simp
theorem Add.S_one (h : I.S 1 b a w) (ha : 17 < a.tmps.size) (hN : I.N ≤ w.heap.size) (hg : I.gb ≠ some I.d) {B c2 : Nat} {A2 : Option Addr} (hy : Bytes w B A2 I.m c2 I.l2) (hn : I.n + I.m ≤ 140737488355328) :
    ∃ A' c' w', a.eval (.tmp 12) = .slice I.A I.n I.c ∧ (appSem #[22, 22] 22 #[.slice I.A I.n I.c, .slice A2 I.m c2]).run Try.prog w = .ok (.slice A' (I.n + I.m) c') w' ∧ I.S 2 b (a.put (some 17) (.slice A' (I.n + I.m) c')) w' ∧ Reg.KeepB I.N (I.d :: I.gb.toList) w w' := by
  obtain ⟨h1, h2, h3⟩ := h
  obtain ⟨A', c', w', gb', k1, k2, k3, k4⟩ := h3.app (P := Try.prog) 22 22 5 Try.underlying22 Be.infoU8 hy hn
  refine ⟨A', c', w', h1, k1, ⟨A', c', Reg.eval_put_same ha, ?_, gb', k2, ?_⟩, keep_gb k3 hN⟩
  · obtain ⟨t, ht⟩ := h2
    exact ⟨t, (k3.block I.d (Array.getElem?_eq_some_iff.1 ht).1 (fun e => hg e.symm)).trans ht⟩
  · exact k4.imp id fun e => ⟨_, e, hN⟩
theorem Add.S_two (h : I.S 2 b a w) (hg : I.gb ≠ some I.d) (hd : I.d < I.N) :
    ∃ A' c', a.eval (.tmp 17) = .slice A' (I.n + I.m) c' ∧ Str w I.d I.box ∧ I.S 3 b a (w.setCell ⟨I.d, 2, none⟩ (.slice A' (I.n + I.m) c')) := by
  obtain ⟨A', c', h1, h2, gb', h3, h4⟩ := h
  refine ⟨A', c', h1, h2, A', c', h2.set 2 _, gb', h3.grown (grown_set (grown_refl w _) 2 _) ?_, h4⟩
  intro e
  rcases h4 with h4 | ⟨g, h4, h5⟩
  · exact hg (h4.symm.trans e)
  · rw [h4] at e; cases e; omega
end
variable {d sb mb : Nat} {bp bs : List Nat} {gb : Option Nat} {A : Option Addr} {n c nm : Nat} {es : List (Int × SlV)} {X : DevX}
attribute [local go_sem ↓] app_fold alJob_fold bdJob_fold stJob_fold
set_option maxRecDepth 100000 in
set_option maxHeartbeats 1000000 in
theorem add_act (j : Nat) (at_ : Int) (l : List UInt8) (A2 : Option Addr) (m c2 B : Nat) (l2 : List UInt8) (w : World) (hJ : Str w j (jobC d at_ l (.slice A2 m c2))) (hll : l.length = 512) (hD : Dev w d bs X) (hs : DevP.Small X) (hj : j ∉ bs) (hy : Bytes w B A2 m c2 l2) (hB : B ≤ w.heap.size) (hA : 0 < m → ∀ a, A2 = some a → a.block ∉ bs) (hm : m ≤ 1000000000) :
    Calls Try.prog 51 #[.pointer (some ⟨j, 0, none⟩)] w (Acts w d bs [] { X with log := X.log ++ l2 } fun _ => True) := by
  have HJ := Lib.hid hJ
  have hjl := hJ.lt
  have HD := Lib.hid hD
  have hok := hD.ok
  obtain ⟨sb, mb, bp, gb, A, n, c, nm, es, hI, hbs⟩ := hD
  have hn := hI.log.len
  have hnc := hI.log.2.1
  have hcm := hI.log.2.2.1
  unfold maxLen at hcm
  have hl := hI.box.lt
  have hs1 := hs.1
  have hs2 := hs.2.1
  have hh0 := hok.h0
  have hu0 := hok.s0
  have hu1 := hok.s1
  have ht0 := hok.t0
  have ht1 := hok.t1
  have ho0 := hok.o0
  have HI := Lib.hid hI
  have HB := Lib.hid hbs
  have HOK := Lib.hid hok
  have HND := Lib.hid hI.nd
  clear hI hbs hs hok
  have HNN := Lib.hid hn
  have hnb : n ≤ 100000000000000 := by omega
  have HJN : Hid (j ∉ d :: gb.toList) := Lib.hid (fun h => hj (by rw [HB.out]; simp only [List.mem_cons, List.mem_append] at h ⊢; exact h.imp id .inl))
  have HAN : Hid (0 < m → ∀ a, A2 = some a → a.block ∉ d :: gb.toList) := Lib.hid (fun h0 a e h => hA h0 a e (by rw [HB.out]; simp only [List.mem_cons, List.mem_append] at h ⊢; exact h.imp id .inl))
  have HY := Lib.hid (hy.more hB)
  have hGD : gb ≠ some d := HI.out.gb_ne
  have HGD := Lib.hid hGD
  clear hJ hj hn hy hA hGD
  go_enter Try.func51, Try.ntmps51
  go_wp2_with fail
  refine Reg.wp_region_box (R := (Reg.extB w.heap.size (d :: gb.toList))) (W := w) (Reg.LineJ (Reg.Line.mk [10, 15, 18] 19 (Add.S (Add.mk w.heap.size d (devC X.safe.length sb mb A n c X) gb A n c X.log m l2)))) [Reg.eqv (.pointer (some ⟨j, 0, none⟩)), Reg.eqv (.pointer (some ⟨j, 0, none⟩)), Reg.eqv (.pointer (some ⟨j, 0, none⟩)), Reg.eqv (.pointer (some ⟨d, 0, none⟩)), Reg.eqv (.pointer (some ⟨j, 0, none⟩)), Reg.eqv (.pointer (some ⟨j, 0, none⟩)), Reg.eqv (.pointer (some ⟨j, 0, none⟩)), Reg.eqv (.pointer (some ⟨d, 0, none⟩)), Reg.eqv (.pointer (some ⟨d, 0, none⟩)), Reg.eqv (.pointer (some ⟨d, 2, none⟩)), Reg.any, Reg.eqv (.pointer (some ⟨j, 0, none⟩)), Reg.eqv (.pointer (some ⟨j, 0, none⟩)), Reg.eqv (.pointer (some ⟨j, 514, none⟩)), Reg.eqv (.slice A2 m c2), Reg.any, Reg.eqv (.pointer (some ⟨d, 0, none⟩)), Reg.eqv (.pointer (some ⟨d, 2, none⟩)), Reg.any] 20 [[(0, none)], [(2, some 0)], [(3, some 1)], [(4, some 2)], [(0, none)], [(6, some 4)], [(7, some 5)], [(8, some 6)], [(9, some 7)], [(10, some 8)], [(11, some 9)], [(0, none)], [(13, some 11)], [(14, some 12)], [(15, some 13)], [(12, some 10), (16, some 14)], [(5, some 3)], [(18, some 16)], [(19, some 17), (17, some 15)]] rfl (by kernel_rfl) (by kernel_rfl) (fun _ h => Reg.line_zero (l := (Reg.Line.mk [10, 15, 18] 19 (Add.S (Add.mk w.heap.size d (devC X.safe.length sb mb A n c X) gb A n c X.log m l2)))) ⟨HI.out.box, HI.out.log⟩ h) (by kernel_rfl) ?_ [some 2, some 3, some 4, some 5, some 6, some 7, some 8, some 9, some 10, some 11, some 12, some 13, some 14, some 15, some 16, some 17, some 18, some 19, none] (by kernel_rfl) ?_
  · refine ⟨?_, ?_, ?_, ?_, ?_, ?_, ?_, ?_, ?_, ?_, ?_, ?_, ?_, ?_, ?_, ?_, ?_, ?_, ?_, trivial⟩
    · refine Reg.oblL_ord (l := (Reg.Line.mk [10, 15, 18] 19 (Add.S (Add.mk w.heap.size d (devC X.safe.length sb mb A n c X) gb A n c X.log m l2)))) (by show 0 ∉ [10, 15, 18] ∧ 0 ≠ 19; decide) (Reg.extB_next rfl) (fun k1 b1 a1 w1 v1 w2 h1 h2 => Add.S_put (I := (Add.mk w.heap.size d (devC X.safe.length sb mb A n c X) gb A n c X.log m l2)) (b := b1) (dst := (some 2)) (by decide) k1 h1 h2) ?_
      intro ax wx hx hs
      obtain ⟨e0, -⟩ := hs
      have g0 := Reg.ev (v := .pointer (some ⟨j, 0, none⟩)) e0
      exact Reg.obl_freeL rfl (Reg.wp_eqvB (Option.some_ne_none _) (by go_simp) rfl)
    · refine Reg.oblL_ord (l := (Reg.Line.mk [10, 15, 18] 19 (Add.S (Add.mk w.heap.size d (devC X.safe.length sb mb A n c X) gb A n c X.log m l2)))) (by show 1 ∉ [10, 15, 18] ∧ 1 ≠ 19; decide) (Reg.extB_next rfl) (fun k1 b1 a1 w1 v1 w2 h1 h2 => Add.S_put (I := (Add.mk w.heap.size d (devC X.safe.length sb mb A n c X) gb A n c X.log m l2)) (b := b1) (dst := (some 3)) (by decide) k1 h1 h2) ?_
      intro ax wx hx hs
      obtain ⟨e2, -⟩ := hs
      have g2 := Reg.ev (v := .pointer (some ⟨j, 0, none⟩)) e2
      exact Reg.obl_freeL rfl (Reg.wp_eqvB (Option.some_ne_none _) (by go_simp) rfl)
    · refine Reg.oblL_ord (l := (Reg.Line.mk [10, 15, 18] 19 (Add.S (Add.mk w.heap.size d (devC X.safe.length sb mb A n c X) gb A n c X.log m l2)))) (by show 2 ∉ [10, 15, 18] ∧ 2 ≠ 19; decide) (Reg.extB_next rfl) (fun k1 b1 a1 w1 v1 w2 h1 h2 => Add.S_put (I := (Add.mk w.heap.size d (devC X.safe.length sb mb A n c X) gb A n c X.log m l2)) (b := b1) (dst := (some 4)) (by decide) k1 h1 h2) ?_
      intro ax wx hx hs
      obtain ⟨e3, -⟩ := hs
      have g3 := Reg.ev (v := .pointer (some ⟨j, 0, none⟩)) e3
      exact Reg.obl_freeL rfl (Reg.wp_eqvB (Option.some_ne_none _) (by go_simp) rfl)
    · refine Reg.oblL_ord (l := (Reg.Line.mk [10, 15, 18] 19 (Add.S (Add.mk w.heap.size d (devC X.safe.length sb mb A n c X) gb A n c X.log m l2)))) (by show 3 ∉ [10, 15, 18] ∧ 3 ≠ 19; decide) (Reg.extB_next rfl) (fun k1 b1 a1 w1 v1 w2 h1 h2 => Add.S_put (I := (Add.mk w.heap.size d (devC X.safe.length sb mb A n c X) gb A n c X.log m l2)) (b := b1) (dst := (some 5)) (by decide) k1 h1 h2) ?_
      intro ax wx hx hs
      obtain ⟨e4, -⟩ := hs
      have g4 := Reg.ev (v := .pointer (some ⟨j, 0, none⟩)) e4
      have l1 := job3 (Reg.KeepB.str hx HJ.out (by omega) HJN.out) hll
      exact Reg.obl_freeL rfl (Reg.wp_eqvB (Option.some_ne_none _) (by go_simp) rfl)
    · refine Reg.oblL_ord (l := (Reg.Line.mk [10, 15, 18] 19 (Add.S (Add.mk w.heap.size d (devC X.safe.length sb mb A n c X) gb A n c X.log m l2)))) (by show 4 ∉ [10, 15, 18] ∧ 4 ≠ 19; decide) (Reg.extB_next rfl) (fun k1 b1 a1 w1 v1 w2 h1 h2 => Add.S_put (I := (Add.mk w.heap.size d (devC X.safe.length sb mb A n c X) gb A n c X.log m l2)) (b := b1) (dst := (some 6)) (by decide) k1 h1 h2) ?_
      intro ax wx hx hs
      obtain ⟨e0, -⟩ := hs
      have g0 := Reg.ev (v := .pointer (some ⟨j, 0, none⟩)) e0
      exact Reg.obl_freeL rfl (Reg.wp_eqvB (Option.some_ne_none _) (by go_simp) rfl)
    · refine Reg.oblL_ord (l := (Reg.Line.mk [10, 15, 18] 19 (Add.S (Add.mk w.heap.size d (devC X.safe.length sb mb A n c X) gb A n c X.log m l2)))) (by show 5 ∉ [10, 15, 18] ∧ 5 ≠ 19; decide) (Reg.extB_next rfl) (fun k1 b1 a1 w1 v1 w2 h1 h2 => Add.S_put (I := (Add.mk w.heap.size d (devC X.safe.length sb mb A n c X) gb A n c X.log m l2)) (b := b1) (dst := (some 7)) (by decide) k1 h1 h2) ?_
      intro ax wx hx hs
      obtain ⟨e6, -⟩ := hs
      have g6 := Reg.ev (v := .pointer (some ⟨j, 0, none⟩)) e6
      exact Reg.obl_freeL rfl (Reg.wp_eqvB (Option.some_ne_none _) (by go_simp) rfl)
    · refine Reg.oblL_ord (l := (Reg.Line.mk [10, 15, 18] 19 (Add.S (Add.mk w.heap.size d (devC X.safe.length sb mb A n c X) gb A n c X.log m l2)))) (by show 6 ∉ [10, 15, 18] ∧ 6 ≠ 19; decide) (Reg.extB_next rfl) (fun k1 b1 a1 w1 v1 w2 h1 h2 => Add.S_put (I := (Add.mk w.heap.size d (devC X.safe.length sb mb A n c X) gb A n c X.log m l2)) (b := b1) (dst := (some 8)) (by decide) k1 h1 h2) ?_
      intro ax wx hx hs
      obtain ⟨e7, -⟩ := hs
      have g7 := Reg.ev (v := .pointer (some ⟨j, 0, none⟩)) e7
      exact Reg.obl_freeL rfl (Reg.wp_eqvB (Option.some_ne_none _) (by go_simp) rfl)
    · refine Reg.oblL_ord (l := (Reg.Line.mk [10, 15, 18] 19 (Add.S (Add.mk w.heap.size d (devC X.safe.length sb mb A n c X) gb A n c X.log m l2)))) (by show 7 ∉ [10, 15, 18] ∧ 7 ≠ 19; decide) (Reg.extB_next rfl) (fun k1 b1 a1 w1 v1 w2 h1 h2 => Add.S_put (I := (Add.mk w.heap.size d (devC X.safe.length sb mb A n c X) gb A n c X.log m l2)) (b := b1) (dst := (some 9)) (by decide) k1 h1 h2) ?_
      intro ax wx hx hs
      obtain ⟨e8, -⟩ := hs
      have g8 := Reg.ev (v := .pointer (some ⟨j, 0, none⟩)) e8
      have l1 := job3 (Reg.KeepB.str hx HJ.out (by omega) HJN.out) hll
      exact Reg.obl_freeL rfl (Reg.wp_eqvB (Option.some_ne_none _) (by go_simp) rfl)
    · refine Reg.oblL_ord (l := (Reg.Line.mk [10, 15, 18] 19 (Add.S (Add.mk w.heap.size d (devC X.safe.length sb mb A n c X) gb A n c X.log m l2)))) (by show 8 ∉ [10, 15, 18] ∧ 8 ≠ 19; decide) (Reg.extB_next rfl) (fun k1 b1 a1 w1 v1 w2 h1 h2 => Add.S_put (I := (Add.mk w.heap.size d (devC X.safe.length sb mb A n c X) gb A n c X.log m l2)) (b := b1) (dst := (some 10)) (by decide) k1 h1 h2) ?_
      intro ax wx hx hs
      obtain ⟨e9, -⟩ := hs
      have g9 := Reg.ev (v := .pointer (some ⟨d, 0, none⟩)) e9
      exact Reg.obl_freeL rfl (Reg.wp_eqvB (Option.some_ne_none _) (by go_simp) rfl)
    · refine Reg.oblL_ord (l := (Reg.Line.mk [10, 15, 18] 19 (Add.S (Add.mk w.heap.size d (devC X.safe.length sb mb A n c X) gb A n c X.log m l2)))) (by show 9 ∉ [10, 15, 18] ∧ 9 ≠ 19; decide) (Reg.extB_next rfl) (fun k1 b1 a1 w1 v1 w2 h1 h2 => Add.S_put (I := (Add.mk w.heap.size d (devC X.safe.length sb mb A n c X) gb A n c X.log m l2)) (b := b1) (dst := (some 11)) (by decide) k1 h1 h2) ?_
      intro ax wx hx hs
      obtain ⟨e10, -⟩ := hs
      have g10 := Reg.ev (v := .pointer (some ⟨d, 0, none⟩)) e10
      exact Reg.obl_freeL rfl (Reg.wp_eqvB (Option.some_ne_none _) (by go_simp) rfl)
    · refine Reg.oblL_line (l := (Reg.Line.mk [10, 15, 18] 19 (Add.S (Add.mk w.heap.size d (devC X.safe.length sb mb A n c X) gb A n c X.log m l2)))) (k := 0) rfl rfl (by show List.Nodup [10, 15, 18]; decide) (by show 10 ≠ 19; decide) (by show 10 < 19; decide) (.inl rfl) ?_
      intro b ax wx hx hs has hwb hS
      obtain ⟨e11, -⟩ := hs
      have g11 := Reg.ev (v := .pointer (some ⟨d, 2, none⟩)) e11
      have hxs : w.heap.size ≤ wx.heap.size := Reg.KeepB.size hx
      have z0 : wx.cell? ⟨d, 2, none⟩ = some (.slice A n c) := hS.1.cell 2
      refine Oper.wp_mono (K := fun a1 w1 => a1 = ax.put (some 12) (.slice A n c) ∧ w1 = wx) ?_ ?_
      · rintro a1 w1 ⟨rfl, rfl⟩
        exact ⟨⟨_, rfl, (fun h => by cases h), trivial, Reg.KeepB.of (Below.refl _ _)⟩, Add.S_zero (I := (Add.mk w.heap.size d (devC X.safe.length sb mb A n c X) gb A n c X.log m l2)) (b := b) hS (by rw [has]; show 12 < 20; decide)⟩
      · clear has hS
        go_simp
    · refine Reg.oblL_ord (l := (Reg.Line.mk [10, 15, 18] 19 (Add.S (Add.mk w.heap.size d (devC X.safe.length sb mb A n c X) gb A n c X.log m l2)))) (by show 11 ∉ [10, 15, 18] ∧ 11 ≠ 19; decide) (Reg.extB_next rfl) (fun k1 b1 a1 w1 v1 w2 h1 h2 => Add.S_put (I := (Add.mk w.heap.size d (devC X.safe.length sb mb A n c X) gb A n c X.log m l2)) (b := b1) (dst := (some 13)) (by decide) k1 h1 h2) ?_
      intro ax wx hx hs
      obtain ⟨e0, -⟩ := hs
      have g0 := Reg.ev (v := .pointer (some ⟨j, 0, none⟩)) e0
      exact Reg.obl_freeL rfl (Reg.wp_eqvB (Option.some_ne_none _) (by go_simp) rfl)
    · refine Reg.oblL_ord (l := (Reg.Line.mk [10, 15, 18] 19 (Add.S (Add.mk w.heap.size d (devC X.safe.length sb mb A n c X) gb A n c X.log m l2)))) (by show 12 ∉ [10, 15, 18] ∧ 12 ≠ 19; decide) (Reg.extB_next rfl) (fun k1 b1 a1 w1 v1 w2 h1 h2 => Add.S_put (I := (Add.mk w.heap.size d (devC X.safe.length sb mb A n c X) gb A n c X.log m l2)) (b := b1) (dst := (some 14)) (by decide) k1 h1 h2) ?_
      intro ax wx hx hs
      obtain ⟨e13, -⟩ := hs
      have g13 := Reg.ev (v := .pointer (some ⟨j, 0, none⟩)) e13
      exact Reg.obl_freeL rfl (Reg.wp_eqvB (Option.some_ne_none _) (by go_simp) rfl)
    · refine Reg.oblL_ord (l := (Reg.Line.mk [10, 15, 18] 19 (Add.S (Add.mk w.heap.size d (devC X.safe.length sb mb A n c X) gb A n c X.log m l2)))) (by show 13 ∉ [10, 15, 18] ∧ 13 ≠ 19; decide) (Reg.extB_next rfl) (fun k1 b1 a1 w1 v1 w2 h1 h2 => Add.S_put (I := (Add.mk w.heap.size d (devC X.safe.length sb mb A n c X) gb A n c X.log m l2)) (b := b1) (dst := (some 15)) (by decide) k1 h1 h2) ?_
      intro ax wx hx hs
      obtain ⟨e14, -⟩ := hs
      have g14 := Reg.ev (v := .pointer (some ⟨j, 0, none⟩)) e14
      exact Reg.obl_freeL rfl (Reg.wp_eqvB (Option.some_ne_none _) (by go_simp) rfl)
    · refine Reg.oblL_ord (l := (Reg.Line.mk [10, 15, 18] 19 (Add.S (Add.mk w.heap.size d (devC X.safe.length sb mb A n c X) gb A n c X.log m l2)))) (by show 14 ∉ [10, 15, 18] ∧ 14 ≠ 19; decide) (Reg.extB_next rfl) (fun k1 b1 a1 w1 v1 w2 h1 h2 => Add.S_put (I := (Add.mk w.heap.size d (devC X.safe.length sb mb A n c X) gb A n c X.log m l2)) (b := b1) (dst := (some 16)) (by decide) k1 h1 h2) ?_
      intro ax wx hx hs
      obtain ⟨e15, -⟩ := hs
      have g15 := Reg.ev (v := .pointer (some ⟨j, 514, none⟩)) e15
      have l1 := job3 (Reg.KeepB.str hx HJ.out (by omega) HJN.out) hll
      exact Reg.obl_freeL rfl (Reg.wp_eqvB (Option.some_ne_none _) (by go_simp) rfl)
    · refine Reg.oblL_line (l := (Reg.Line.mk [10, 15, 18] 19 (Add.S (Add.mk w.heap.size d (devC X.safe.length sb mb A n c X) gb A n c X.log m l2)))) (k := 1) rfl rfl (by show List.Nodup [10, 15, 18]; decide) (by show 15 ≠ 19; decide) (by show 15 < 19; decide) (.inr ⟨10, rfl, by kernel_rfl⟩) ?_
      intro b ax wx hx hs has hwb hS
      obtain ⟨e12, e16, -⟩ := hs
      have g16 := Reg.ev (v := .slice A2 m c2) e16
      have hxs : w.heap.size ≤ wx.heap.size := Reg.KeepB.size hx
      have hbx : Bytes wx w.heap.size A2 m c2 l2 := HY.out.keepE HAN.out hx
      obtain ⟨A', c', w4, k1, k2, k3, k4⟩ := Add.S_one (I := (Add.mk w.heap.size d (devC X.safe.length sb mb A n c X) gb A n c X.log m l2)) (b := b) hS (by rw [has]; show 17 < 20; decide) hxs HGD.out hbx (by show n + m ≤ _; omega)
      exact wp_appT (.tmp 12) (.tmp 16) rfl rfl k1 e16 k2 ⟨⟨_, rfl, (fun h => by cases h), trivial, k4⟩, k3⟩
    · refine Reg.oblL_ord (l := (Reg.Line.mk [10, 15, 18] 19 (Add.S (Add.mk w.heap.size d (devC X.safe.length sb mb A n c X) gb A n c X.log m l2)))) (by show 16 ∉ [10, 15, 18] ∧ 16 ≠ 19; decide) (Reg.extB_next rfl) (fun k1 b1 a1 w1 v1 w2 h1 h2 => Add.S_put (I := (Add.mk w.heap.size d (devC X.safe.length sb mb A n c X) gb A n c X.log m l2)) (b := b1) (dst := (some 18)) (by decide) k1 h1 h2) ?_
      intro ax wx hx hs
      obtain ⟨e5, -⟩ := hs
      have g5 := Reg.ev (v := .pointer (some ⟨d, 0, none⟩)) e5
      exact Reg.obl_freeL rfl (Reg.wp_eqvB (Option.some_ne_none _) (by go_simp) rfl)
    · refine Reg.oblL_ord (l := (Reg.Line.mk [10, 15, 18] 19 (Add.S (Add.mk w.heap.size d (devC X.safe.length sb mb A n c X) gb A n c X.log m l2)))) (by show 17 ∉ [10, 15, 18] ∧ 17 ≠ 19; decide) (Reg.extB_next rfl) (fun k1 b1 a1 w1 v1 w2 h1 h2 => Add.S_put (I := (Add.mk w.heap.size d (devC X.safe.length sb mb A n c X) gb A n c X.log m l2)) (b := b1) (dst := (some 19)) (by decide) k1 h1 h2) ?_
      intro ax wx hx hs
      obtain ⟨e18, -⟩ := hs
      have g18 := Reg.ev (v := .pointer (some ⟨d, 0, none⟩)) e18
      exact Reg.obl_freeL rfl (Reg.wp_eqvB (Option.some_ne_none _) (by go_simp) rfl)
    · refine Reg.oblL_line (l := (Reg.Line.mk [10, 15, 18] 19 (Add.S (Add.mk w.heap.size d (devC X.safe.length sb mb A n c X) gb A n c X.log m l2)))) (k := 2) rfl rfl (by show List.Nodup [10, 15, 18]; decide) (by show 18 ≠ 19; decide) (by show 18 < 19; decide) (.inr ⟨15, rfl, by kernel_rfl⟩) ?_
      intro b ax wx hx hs has hwb hS
      obtain ⟨e19, e17, -⟩ := hs
      have g19 := Reg.ev (v := .pointer (some ⟨d, 2, none⟩)) e19
      have hxs : w.heap.size ≤ wx.heap.size := Reg.KeepB.size hx
      obtain ⟨A', c', k1, k2, k3⟩ := Add.S_two (I := (Add.mk w.heap.size d (devC X.safe.length sb mb A n c X) gb A n c X.log m l2)) (b := b) hS HGD.out (by show d < w.heap.size; omega)
      have g17 := Reg.ev k1
      have z1 : wx.frozen? ⟨d, 2, none⟩ = false := k2.frozen 2
      have z0 : wx.cell? ⟨d, 2, none⟩ = some (.slice A n c) := k2.cell 2
      have z2 := k2.lt
      refine Oper.wp_mono (K := fun a1 w1 => a1 = ax ∧ w1 = wx.setCell ⟨d, 2, none⟩ (.slice A' (n + m) c')) ?_ ?_
      · rintro a1 w1 ⟨rfl, rfl⟩
        exact ⟨⟨undef, rfl, fun _ => rfl, trivial, Reg.KeepB.grown (Reg.KeepB.of (Below.refl _ wx)) (grown_set (grown_refl wx _) 2 _) hxs (.inr (by simp))⟩, k3⟩
      · clear has k3 hS
        go_simp
  · intro W1 listed hwf hall
    simp only [Reg.Fin]
    rintro _ rfl _ rfl _ rfl _ rfl _ rfl _ rfl _ rfl _ rfl _ rfl _ rfl v12 h12 _ rfl _ rfl _ rfl _ rfl v17 h17 _ rfl _ rfl vn18 hn18
    intro hJ
    obtain ⟨bL, hbL, hSL⟩ := Reg.line_end (l := (Reg.Line.mk [10, 15, 18] 19 (Add.S (Add.mk w.heap.size d (devC X.safe.length sb mb A n c X) gb A n c X.log m l2)))) (n := 19) hall (by show ∀ c ∈ [10, 15, 18], c < 19; decide) hJ
    clear hJ hall hbL
    go_simp
    obtain ⟨A', c', hS1, gb', hO1, hg1⟩ := hSL
    dsimp only at hS1 hO1 hg1
    have hk1 : Reg.KeepB w.heap.size (d :: gb.toList) w W1 := hwf
    have HS1 := Lib.hid hS1
    have HO1 := Lib.hid hO1
    have HG1 := Lib.hid hg1
    have HK1 := Lib.hid hk1
    clear hS1 hO1 hg1 hwf hk1
    go_wp2
    go_end0
    have hk := HOK.out
    have hbp : ∀ b ∈ bp, W1.heap[b]? = w.heap[b]? := fun b hm => HK1.out.block b (HI.out.pages.lt b hm) (by
      have h1 := HI.out.bp_ne b hm
      have h2 := HI.out.nd
      simp only [List.nodup_cons, List.nodup_append, List.mem_append] at h2
      simp only [List.mem_cons, not_or]
      exact ⟨h1, fun h3 => h2.2.2.2 b h3 b hm rfl⟩)
    have hok2 : DevP.Ok { X with log := X.log ++ l2 } := ⟨hk.n0, hk.n1, hk.nl, hk.h0, hk.s0, by show X.sure ≤ X.head + ((X.log ++ l2).length : Nat); rw [List.length_append]; omega, hk.t0, hk.t1, hk.o0, hk.f0, hk.f1, hk.w0, hk.w1⟩
    obtain ⟨bs', hD', hn'⟩ := HI.out.relog (X' := { X with log := X.log ++ l2 }) hbp HS1.out HO1.out (HG1.out.imp id .inr) rfl rfl (Nat.le_refl _) hok2
    exact ⟨rfl, bs', hD', HK1.out.more (fun b hb => by rw [HB.out]; simp only [List.nil_append, List.mem_cons, List.mem_append] at hb ⊢; exact hb.imp id .inl), fun b hb => by rw [HB.out]; exact hn' b hb, trivial⟩
set_option maxRecDepth 100000 in
set_option maxHeartbeats 1000000 in
theorem Append_any (A2 : Option Addr) (m c2 B : Nat) (l2 : List UInt8) (w : World) (hD : Dev w d bs X) (hs : DevP.Small X) (hy : Bytes w B A2 m c2 l2) (hB : B ≤ w.heap.size) (hA : 0 < m → ∀ a, A2 = some a → a.block ∉ bs) (hm : m ≤ 1000000000) :
    Calls Try.prog 30 #[.pointer (some ⟨d, 0, none⟩), .slice A2 m c2] w (Told w d bs (DevP.op X true { X with log := X.log ++ l2 }) (.int .i64 (DevP.err X true))) := by
  have hmf : ∀ (fn : Fn) (first cap : Array Value) (w : World), (Instr.makeFunc fn first cap).run Try.prog w = .ok (.func fn first cap) w := fun _ _ _ _ => rfl
  have HA := Lib.hid hA
  have HY := Lib.hid (hy.more hB)
  clear hA hy
  have hz512 : (SlotP.zeros 512).length = 512 := List.length_replicate
  have hal := job_al
  have hbd := fun W => job_bd3 d A2 m c2 W
  have hst := job_st (d := d) (n := 0) (l := SlotP.zeros 512) (A := A2) (m := m) (c := c2) (Str.new w jobZ 67) hz512
  obtain ⟨W1, hW1⟩ : ∃ W, (w.alloc (.cells jobZ 67)).setRow w.heap.size (jobC d 0 (SlotP.zeros 512) (.slice A2 m c2)) = W := ⟨_, rfl⟩
  rw [hW1] at hst
  have hJ1 : Str W1 w.heap.size (jobC d 0 (SlotP.zeros 512) (.slice A2 m c2)) := by rw [← hW1]; exact (Str.new _ _ _).setRow
  have hb1 : Below w.heap.size w W1 := by rw [← hW1]; exact below_setRow (balloc (bsame _) _) (Nat.le_refl _) _
  have hD1 := hD.below hb1
  have hj : w.heap.size ∉ bs := fun hm => by have := hD.lt _ hm; omega
  have HJ1 := Lib.hid hJ1
  have HB1 := Lib.hid hb1
  have HD1 := Lib.hid hD1
  have HJN := Lib.hid hj
  clear hW1 hJ1 hb1 hD1 hj
  go_enter Try.func30, Try.ntmps30
  go_wp2_with fail
  refine (do_any 51 #[.pointer (some ⟨w.heap.size, 0, none⟩)] (fun _ => True) [] true W1 { X with log := X.log ++ l2 } HD1.out hs.1 (by simp) (fun _ _ _ _ => trivial) rfl rfl rfl (fun _ => rfl) (fun hf W hb => ?_)).mono ?_
  · have hs1 := HB1.out.size
    have hs2 := hb.size
    refine (add_act w.heap.size 0 _ A2 m c2 w.heap.size l2 W (HJ1.out.next hb) hz512 (HD1.out.below hb) hs HJN.out ((HY.out.below HB1.out).below (hb.mono hs1)) (by omega) HA.out hm).mono ?_
    exact fun e w' h => h
  · rintro e w1 h
    have HT := Lib.hid (h.told HB1.out (by simp))
    obtain ⟨rfl, -⟩ := h
    go_wp2
    go_ret
    exact HT.out
end DevW
end Go.Proofs.Ytldgdgfplgdipaa
namespace Go.Proofs.Ytldgdgfplgdipaa.DevW
open Go.RowKit Go.Maps
set_option linter.unusedVariables false
set_option linter.unusedSimpArgs false
variable {d sb mb : Nat} {bp bs : List Nat} {gb : Option Nat} {A : Option Addr} {n c nm : Nat} {es : List (Int × SlV)} {X : DevX}
/-- how many bytes of the log stay, that were not safe -/
def _root_.Go.Proofs.Ytldgdgfplgdipaa.DevP.stay (X : DevX) (m : Int) : Int := min (max m 0) (X.head + (X.log.length : Nat) - X.sure)
/-- the device when the power has failed, and come back -/
def _root_.Go.Proofs.Ytldgdgfplgdipaa.DevP.crashed (X : DevX) (m : Int) : DevX := { X with now := X.safe, log := X.log.take (X.sure + DevP.stay X m - X.head).toNat, sure := X.sure + DevP.stay X m, fused := false, fuse := 0, off := false }
theorem nodup_le : ∀ (N : Nat) (l : List Nat), l.Nodup → (∀ x ∈ l, x < N) → l.length ≤ N
  | 0, l, _, h => by
    cases l with
    | nil => exact Nat.le_refl _
    | cons x r => exact absurd (h x (by simp)) (Nat.not_lt_zero _)
  | N + 1, l, hn, h => by
    have h1 := nodup_le N (l.erase N) (hn.erase N) (fun x hx => by
      have h2 := (hn.mem_erase_iff).1 hx
      have := h x h2.2
      have := h2.1
      omega)
    rw [List.length_erase] at h1
    split at h1 <;> omega
theorem Pages.few {w : World} {safe now : List (List UInt8)} {wr : Nat} (h : Pages w sb mb bp safe now wr nm es) : es.length ≤ safe.length := by
  have hn : (es.map (fun p => p.1.toNat)).Nodup := by
    have h1 : (es.map (·.1)).Nodup := h.map.nd
    refine List.pairwise_map.2 ((List.pairwise_map.1 h1).imp_of_mem ?_)
    intro a b ha hb hne e
    have := (h.ent a ha).k0
    have := (h.ent b hb).k0
    omega
  have := nodup_le safe.length _ hn (fun x hx => by
    obtain ⟨p, hp, rfl⟩ := List.mem_map.1 hx
    have := (h.ent p hp).k1
    have := (h.ent p hp).k0
    omega)
  simpa using this
/-- all writings that were not safe are let go of -/
theorem In.cleared {w w' : World} (h : In w d sb mb bp gb A n c nm es X) (hM : MapM Try.prog intK slE 3 w' mb 0 []) (hg : w.grownBy w' (some mb)) : In w' d sb mb [sb, mb] gb A n c 0 [] { X with now := X.safe } ∧ (∀ b ∈ d :: (gb.toList ++ [sb, mb]), b ∈ d :: (gb.toList ++ bp)) := by
  have ho := h.ok
  have h1 := h.nd
  have h0 := h.pages.nd
  rw [h.pages.bpe] at h0
  have hsub : ∀ b ∈ [sb, mb], b ∈ bp := fun b hb => by
    rw [h.pages.bpe]
    simp only [List.mem_cons, List.not_mem_nil, or_false] at hb ⊢
    rcases hb with h | h
    · exact .inl h
    · exact .inr (.inl h)
  simp only [List.nodup_cons, List.mem_cons, not_or] at h0
  simp only [List.nodup_cons, List.nodup_append, List.mem_append, not_or] at h1
  have hdm : d ≠ mb := fun e => h1.1.2 (by rw [e]; exact hsub mb (by simp))
  have hnd : (d :: (gb.toList ++ [sb, mb])).Nodup := by
    simp only [List.nodup_cons, List.nodup_append, List.mem_append, not_or]
    refine ⟨⟨h1.1.1, fun hm => h1.1.2 (hsub d hm)⟩, h1.2.1, ⟨by simpa using h0.1.1, List.not_mem_nil, List.nodup_nil⟩, fun x hx y hy e => h1.2.2.2 x hx y (hsub y hy) e⟩
  refine ⟨⟨h.box.grown hg hdm, ⟨h.pages.row.at_ (hg.block sb h.pages.row.lt (by intro e; injection e with e; exact h0.1.1 e)), hM, (fun p hp => absurd hp List.not_mem_nil), (fun k hk _ => rfl), rfl, by simpa using h0.1.1, Nat.zero_le _⟩, h.log.grown hg ?_, hnd, ⟨ho.n0, ho.n1, rfl, ho.h0, ho.s0, ho.s1, ho.t0, ho.t1, ho.o0, ho.f0, ho.f1, ho.w0, ho.w0⟩⟩, fun b hb => ?_⟩
  · intro e
    exact h1.2.2.2 mb (by simp [e]) mb (hsub mb (by simp)) rfl
  · simp only [List.mem_cons, List.mem_append] at hb ⊢
    rcases hb with h | h | h
    · exact .inl h
    · exact .inr (.inl h)
    · exact .inr (.inr (hsub b (by simpa using h)))
attribute [local go_sem ↓] clr_fold cut_fold app_fold
/-- what was collected is not looked at -/
def Col (w W0 wr : World) (mb nm : Nat) (es : List (Int × SlV)) (left : Lit → Bool) (cnt : Nat) (A : Option Addr) (m c : Nat) (ss : List Int) : Prop :=
  wr.ranges Try.prog 3 (MapP.rdE slE) mb W0.heap.size nm (MapP.dat intK es) left cnt ∧ m + cnt ≤ es.length ∧ OwnE IntE 3 wr (W0.heap.size + 1) A m c ss ∧ Below W0.heap.size W0 wr ∧ W0.heap.size + 1 ≤ wr.heap.size
set_option maxRecDepth 100000 in
set_option maxHeartbeats 4000000 in
theorem Crash_any (m : Int) (hm : In64 m) (w : World) (hD : Dev w d bs X) (hs : DevP.Small X) :
    Calls Try.prog 24 #[.pointer (some ⟨d, 0, none⟩), .agg #[.slice none 0 0, .int .i64 m]] w (Told w d bs (DevP.crashed X m) (.tuple #[])) := by
  obtain ⟨i0, hi0, iz0, iz1, iz2⟩ := info_parts infoI
  have HI0 := Lib.hid hi0
  have HM := Lib.hid hm
  have HD := Lib.hid hD
  have hok := hD.ok
  have hN := hok.n1
  have HSM := Lib.hid hs
  have hs2 := hs.2.1
  have hh0 := hok.h0
  have hu0 := hok.s0
  have hu1 := hok.s1
  obtain ⟨sb, mb, bp, gb, A0, n0, c0, nm, es, hI, hbs⟩ := hD
  have hl := hI.box.lt
  have hml := hI.pages.map.lt
  have hfew : es.length ≤ 1024 := Nat.le_trans hI.pages.few hN
  have HN0 : Hid (X.log.length = n0) := Lib.hid hI.log.len
  have hnc := hI.log.2.1
  have hcm := hI.log.2.2.1
  unfold maxLen at hcm
  have HI := Lib.hid hI
  have HB := Lib.hid hbs
  have HOK := Lib.hid hok
  obtain ⟨W0, hW0⟩ : ∃ W, w.alloc (.cells #[.slice none 0 0, .int .i64 m] 25) = W := ⟨_, rfl⟩
  have hS0 : Str W0 w.heap.size #[.slice none 0 0, .int .i64 m] := by rw [← hW0]; exact Str.new _ _ _
  have hb0 : Below w.heap.size w W0 := by rw [← hW0]; exact balloc (bsame w) _
  have hz0 : w.heap.size < W0.heap.size := by rw [← hW0]; simp
  have hI0 := HI.out.at_ (fun b hm => hb0.block b (HI.out.lt b hm))
  have HS0 := Lib.hid hS0
  have HBW := Lib.hid hb0
  have HIW := Lib.hid hI0
  have f1 := str10 hI0.box
  have f2 := str2 hS0
  have hl0 := hI0.box.lt
  have hlf := hS0.lt
  clear hI hbs hok hs hm hi0 hS0 hb0 hI0
  go_enter Try.func24, Try.ntmps24
  go_wp2_with (first
    | (at_range; refine wpList_range_own _ rfl _ 62 rfl 3 61 law Try.underlying62 (MapP.rdE slE) mb nm (MapP.dat intK es) rfl HIW.out.pages.map.own ?_; intro w0 hrg0 hg0 hs0)
    | go_in)
  go_frame
  have HRG := Lib.hid hrg0
  have HB0 : Hid (Below W0.heap.size W0 w0) := Lib.hid ⟨hg0.os, hg0.tape, hg0.output, hg0.size, fun k hk => hg0.block k hk (by simp)⟩
  have HZ0 := Lib.hid hs0
  clear hrg0 hg0 hs0 f1 f2
  go_loopw [4] (fun sv wr => ∃ (left : Lit → Bool) (cnt q c : Nat) (A : Option Addr) (ss : List Int), sv = .slice A q c ∧ Hid (Col w W0 wr mb nm es left cnt A q c ss))
    (fun _ wr => wr.rangeLeft mb W0.heap.size)
  case atStart =>
    exact ⟨_, _, 0, 0, none, [], rfl, Lib.hid ⟨HRG.out, by rw [MapP.size_dat]; omega, OwnE.none_ _ _ _ _, HB0.out, by have := HZ0.out; omega⟩⟩
  case round =>
    obtain ⟨left, cnt, q, c, A, ss, rfl, HK⟩ := hrel
    have hwr := HK.out.2.2.2.2
    have hmc := HK.out.2.1
    have hml2 : q ≤ 1024 := by omega
    go_wp2_with (first
      | (at_next; refine wpList_next_ranges _ rfl _ rfl 3 law (MapP.rdE slE) (fun x : Int => Value.int .i64 x) (fun s : SlV => Value.slice s.A s.n s.c) (fun key kl hk => key_inv hk) (fun v y hv => by obtain ⟨s, rfl, _⟩ := MapP.rd_inv slE hv; exact ⟨s, rfl⟩) mb W0.heap.size nm _ _ _ rfl HK.out.1 ?_ ?_)
      | go_in)
    · intro _ hl0
      clear hl0
      go_wp2_with fail
      refine (TxnW.sort_own A q c _ ss _ HK.out.2.2.1 (by omega)).mono ?_
      rintro e W2 ⟨rfl, hO, hg⟩
      have HO := Lib.hid hO
      have hbW2 : Below W0.heap.size W0 W2 := below_grownO HK.out.2.2.2.1 hg (by omega) (by
        intro j hj
        cases A with
        | none => cases hj
        | some a => cases hj; have := HK.out.2.2.1.ge a rfl; omega)
      have HB2 := Lib.hid hbW2
      have HI2 := Lib.hid (HIW.out.at_ (fun b hb => hbW2.block b (HIW.out.lt b hb)))
      have HS2 := Lib.hid (HS0.out.next hbW2)
      have hsz2 := hbW2.size
      have f1 := str10 HI2.out.box
      have f2 := str2 HS2.out
      have hl2 := HI2.out.box.lt
      have hlf2 := HS2.out.lt
      have hml3 := HI2.out.pages.map.lt
      clear hO hg HK hbW2
      go_wp2_with fail
      go_loopw [30] (fun iv wr => iv = .int .i64 0 ∧ wr = W2) (fun _ _ => 0)
      case atStart => exact ⟨rfl, rfl⟩
      case round =>
        obtain ⟨rfl, hwe⟩ := hrel
        subst hwe
        by_cases hq0 : q = 0
        · subst hq0
          have hd31 : decide ((0 : Int) < ((0 : Nat) : Int)) = false := by decide
          obtain ⟨W4, hclr0, hM4, ht4⟩ := HI2.out.pages.map.clear Try.underlying62 0
          have hclr : (clrSem #[62] 0 #[.map (some mb)]).run Try.prog wr = .ok (.tuple #[]) W4 := hclr0
          obtain ⟨hI4, hsub4⟩ := HI2.out.cleared hM4 ht4.grown
          have HG4 := Lib.hid ht4.grown
          have HI4 := Lib.hid hI4
          have HSUB := Lib.hid hsub4
          have hlf4 : w.heap.size ≠ mb := by
            intro e
            obtain ⟨t, ht⟩ := HS2.out
            obtain ⟨es5, c5, hb5, -⟩ := HI2.out.pages.map.own
            rw [e, hb5] at ht
            cases ht
          have HS4 := Lib.hid (HS2.out.grown HG4.out hlf4)
          have HK4 := Lib.hid ((Reg.KeepB.of (b0 := bs) (HBW.out.trans (HB2.out.mono (by omega)))).grown HG4.out (Nat.le_trans HBW.out.size HB2.out.size) (.inr (by rw [HB.out]; have hm : mb ∈ bp := by { rw [HI.out.pages.bpe]; simp }; simp [hm])))
          clear hclr0 hM4 ht4 hI4 hsub4
          go_wp2_with fail
          have HD4 : Hid (Dev W4 d (d :: (gb.toList ++ [sb, mb])) { X with now := X.safe }) := Lib.hid ⟨sb, mb, _, gb, A0, n0, c0, 0, [], HI4.out, rfl⟩
          have HSM4 : Hid (DevP.Small { X with now := X.safe }) := Lib.hid ⟨HSM.out.1, HSM.out.2.1, HSM.out.2.2⟩
          obtain ⟨s, hs⟩ : ∃ s, DevP.stay X m = s := ⟨_, rfl⟩
          have HST := Lib.hid hs
          have hst : min (max m 0) (X.head + (X.log.length : Nat) - X.sure) = s := hs
          have hs0 : 0 ≤ s := by omega
          have hs1 : s ≤ X.head + (X.log.length : Nat) - X.sure := by omega
          have hmi := HM.out
          unfold In64 at hmi
          have HMI := Lib.hid hmi
          clear hs hmi hclr f1 f2
          obtain ⟨y, hy⟩ : ∃ y : Int, X.head + (X.log.length : Nat) = y := ⟨_, rfl⟩
          have HY := Lib.hid hy
          have hy1 : 0 ≤ y := by omega
          have hy2 : y ≤ 100000000000000 := by omega
          have hy3 : X.sure ≤ y := by omega
          have hst2 : min (max m 0) (y - X.sure) = s := by rw [← hy]; exact hst
          have HST2 := Lib.hid hst2
          have hs1' : s ≤ y - X.sure := by omega
          clear hst hs1 hy hst2
          have hl4 := HI4.out.box.lt
          have hlf4' := HS4.out.lt
          refine Reg.wp_region_vals (R := ext) (W := W4) [Reg.eqv (.pointer (some ⟨w.heap.size, 1, none⟩)), Reg.eqv (.int .i64 m), Reg.eqv (.int .i64 (max m 0)), Reg.eqv (.pointer (some ⟨d, 0, none⟩)), Reg.eqv (.int .i64 y), Reg.eqv (.pointer (some ⟨d, 0, none⟩)), Reg.eqv (.pointer (some ⟨d, 0, none⟩)), Reg.eqv (.pointer (some ⟨d, 5, none⟩)), Reg.eqv (.int .i64 (X.sure)), Reg.eqv (.int .i64 (y - X.sure)), Reg.eqv (.int .i64 s), Reg.eqv (.int .i64 s)] 116 [[(3, none)], [(72, some 0)], [(73, some 1)], [(0, none)], [(75, some 3)], [(0, none)], [(77, some 5)], [(78, some 6)], [(79, some 7)], [(76, some 4), (80, some 8)], [(74, some 2), (81, some 9)], [(82, some 10)]] rfl (by kernel_rfl) (by kernel_rfl) (by kernel_rfl) ?_ [some 72, some 73, some 74, some 75, some 76, some 77, some 78, some 79, some 80, some 81, some 82, some 10] (by kernel_rfl) ?_
          · refine ⟨?_, ?_, ?_, ?_, ?_, ?_, ?_, ?_, ?_, ?_, ?_, ?_, trivial⟩
            · intro ax wx hx hs
              obtain ⟨e3, -⟩ := hs
              have g3 := Reg.ev (v := .pointer (some ⟨w.heap.size, 0, none⟩)) e3
              exact Reg.obl_free rfl (Reg.wp_eqv (Option.some_ne_none _) (by go_simp) rfl)
            · intro ax wx hx hs
              obtain ⟨e72, -⟩ := hs
              have g72 := Reg.ev (v := .pointer (some ⟨w.heap.size, 1, none⟩)) e72
              have l0 := str10 (HI4.out.box.next hx)
              have l1 := str2 (HS4.out.next hx)
              exact Reg.obl_free rfl (Reg.wp_eqv (Option.some_ne_none _) (by go_simp) rfl)
            · intro ax wx hx hs
              obtain ⟨e73, -⟩ := hs
              have g73 := Reg.ev (v := .int .i64 m) e73
              refine Reg.obl_free rfl ?_
              have hmi := HMI.out
              exact Reg.wp_eqv (Option.some_ne_none _) (by go_simp <;> (first | (split <;> omega) | omega)) rfl
            · intro ax wx hx hs
              obtain ⟨e0, -⟩ := hs
              have g0 := Reg.ev (v := .pointer (some ⟨d, 0, none⟩)) e0
              exact Reg.obl_free rfl (Reg.wp_eqv (Option.some_ne_none _) (by go_simp) rfl)
            · intro ax wx hx hs
              obtain ⟨e75, -⟩ := hs
              have g75 := Reg.ev (v := .pointer (some ⟨d, 0, none⟩)) e75
              refine Reg.obl_free rfl ?_
              have hx' : Below W4.heap.size W4 wx := hx
              go_simp
              refine (end_any wx (HD4.out.below hx') HSM4.out).mono ?_
              rintro e wy ⟨rfl, hby⟩
              exact Reg.done (Option.some_ne_none _) (by show Value.int _ _ = _; exact congrArg (Value.int .i64) HY.out) hby
            · intro ax wx hx hs
              obtain ⟨e0, -⟩ := hs
              have g0 := Reg.ev (v := .pointer (some ⟨d, 0, none⟩)) e0
              exact Reg.obl_free rfl (Reg.wp_eqv (Option.some_ne_none _) (by go_simp) rfl)
            · intro ax wx hx hs
              obtain ⟨e77, -⟩ := hs
              have g77 := Reg.ev (v := .pointer (some ⟨d, 0, none⟩)) e77
              exact Reg.obl_free rfl (Reg.wp_eqv (Option.some_ne_none _) (by go_simp) rfl)
            · intro ax wx hx hs
              obtain ⟨e78, -⟩ := hs
              have g78 := Reg.ev (v := .pointer (some ⟨d, 0, none⟩)) e78
              exact Reg.obl_free rfl (Reg.wp_eqv (Option.some_ne_none _) (by go_simp) rfl)
            · intro ax wx hx hs
              obtain ⟨e79, -⟩ := hs
              have g79 := Reg.ev (v := .pointer (some ⟨d, 5, none⟩)) e79
              have l0 := str10 (HI4.out.box.next hx)
              have l1 := str2 (HS4.out.next hx)
              exact Reg.obl_free rfl (Reg.wp_eqv (Option.some_ne_none _) (by go_simp) rfl)
            · intro ax wx hx hs
              obtain ⟨e76, e80, -⟩ := hs
              have g76 := Reg.ev (v := .int .i64 y) e76
              have g80 := Reg.ev (v := .int .i64 (X.sure)) e80
              refine Reg.obl_free rfl ?_
              exact Reg.wp_eqv (Option.some_ne_none _) (by go_simp; exact IntWalk.i64_in _ (by omega)) rfl
            · intro ax wx hx hs
              obtain ⟨e74, e81, -⟩ := hs
              have g74 := Reg.ev (v := .int .i64 (max m 0)) e74
              have g81 := Reg.ev (v := .int .i64 (y - X.sure)) e81
              refine Reg.obl_free rfl ?_
              have hst2 := HST2.out
              have hmi := HMI.out
              exact Reg.wp_eqv (Option.some_ne_none _) (by go_simp <;> (first | (split <;> omega) | omega)) rfl
            · intro ax wx hx hs
              obtain ⟨e82, -⟩ := hs
              have g82 := Reg.ev (v := .int .i64 s) e82
              exact Reg.obl_free rfl (Reg.wp_eqv (Option.some_ne_none _) (by go_simp) rfl)
          · intro W5 hwf
            simp only [Reg.Fin]
            rintro _ rfl _ rfl _ rfl _ rfl _ rfl _ rfl _ rfl _ rfl _ rfl _ rfl _ rfl _ rfl
            go_simp
            have hwf' : Below W4.heap.size W4 W5 := hwf
            have HI5 := Lib.hid (HI4.out.at_ (fun b hb => hwf'.block b (HI4.out.lt b hb)))
            have HK5 := Lib.hid (HK4.out.step hwf' HK4.out.size)
            clear hwf hwf'
            obtain ⟨k, hk⟩ : ∃ k : Nat, X.sure + s - X.head = (k : Int) := ⟨(X.sure + s - X.head).toNat, by omega⟩
            have HKK := Lib.hid hk
            have hkl : k ≤ X.log.length := by have := HY.out; omega
            have hkn : k ≤ n0 := by rw [← HN0.out]; exact hkl
            have hkc : k ≤ c0 := by omega
            clear hk
            have hl5 := HI5.out.box.lt
            go_wp2_with fail
            refine Reg.wp_region_tail (R := ext) (W := W5) [Reg.eqv (.pointer (some ⟨d, 0, none⟩)), Reg.eqv (.pointer (some ⟨d, 0, none⟩)), Reg.eqv (.pointer (some ⟨d, 0, none⟩)), Reg.eqv (.pointer (some ⟨d, 2, none⟩)), Reg.eqv (.slice A0 n0 c0), Reg.eqv (.pointer (some ⟨d, 0, none⟩)), Reg.eqv (.pointer (some ⟨d, 0, none⟩)), Reg.eqv (.pointer (some ⟨d, 5, none⟩)), Reg.eqv (.int .i64 (X.sure)), Reg.eqv (.int .i64 s), Reg.eqv (.int .i64 (X.sure + s)), Reg.eqv (.pointer (some ⟨d, 0, none⟩)), Reg.eqv (.pointer (some ⟨d, 0, none⟩)), Reg.eqv (.pointer (some ⟨d, 4, none⟩)), Reg.eqv (.int .i64 (X.head)), Reg.eqv (.int .i64 (k : Int)), Reg.eqv (.slice (cutA A0 0 c0 1) k c0), Reg.eqv (.pointer (some ⟨d, 0, none⟩)), Reg.eqv (.pointer (some ⟨d, 2, none⟩))] 116 19 _ [[(0, none)], [(0, none)], [(84, some 1)], [(85, some 2)], [(86, some 3)], [(0, none)], [(88, some 5)], [(89, some 6)], [(90, some 7)], [(10, none)], [(91, some 8), (92, some 9)], [(0, none)], [(94, some 11)], [(95, some 12)], [(96, some 13)], [(93, some 10), (97, some 14)], [(87, some 4), (98, some 15)], [(83, some 0)], [(100, some 17)]] rfl (by kernel_rfl) (by kernel_rfl) (by rfl) (by rfl) rfl (by kernel_rfl) ?_ [some 83, some 84, some 85, some 86, some 87, some 88, some 89, some 90, some 91, some 92, some 93, some 94, some 95, some 96, some 97, some 98, some 99, some 100, some 101] (by kernel_rfl) ?_
            · refine ⟨?_, ?_, ?_, ?_, ?_, ?_, ?_, ?_, ?_, ?_, ?_, ?_, ?_, ?_, ?_, ?_, ?_, ?_, ?_, trivial⟩
              · intro ax wx hx hs
                obtain ⟨e0, -⟩ := hs
                have g0 := Reg.ev (v := .pointer (some ⟨d, 0, none⟩)) e0
                exact Reg.obl_free rfl (Reg.wp_eqv (Option.some_ne_none _) (by go_simp) rfl)
              · intro ax wx hx hs
                obtain ⟨e0, -⟩ := hs
                have g0 := Reg.ev (v := .pointer (some ⟨d, 0, none⟩)) e0
                exact Reg.obl_free rfl (Reg.wp_eqv (Option.some_ne_none _) (by go_simp) rfl)
              · intro ax wx hx hs
                obtain ⟨e84, -⟩ := hs
                have g84 := Reg.ev (v := .pointer (some ⟨d, 0, none⟩)) e84
                exact Reg.obl_free rfl (Reg.wp_eqv (Option.some_ne_none _) (by go_simp) rfl)
              · intro ax wx hx hs
                obtain ⟨e85, -⟩ := hs
                have g85 := Reg.ev (v := .pointer (some ⟨d, 0, none⟩)) e85
                exact Reg.obl_free rfl (Reg.wp_eqv (Option.some_ne_none _) (by go_simp) rfl)
              · intro ax wx hx hs
                obtain ⟨e86, -⟩ := hs
                have g86 := Reg.ev (v := .pointer (some ⟨d, 2, none⟩)) e86
                have l0 := str10 (HI5.out.box.next hx)
                exact Reg.obl_free rfl (Reg.wp_eqv (Option.some_ne_none _) (by go_simp) rfl)
              · intro ax wx hx hs
                obtain ⟨e0, -⟩ := hs
                have g0 := Reg.ev (v := .pointer (some ⟨d, 0, none⟩)) e0
                exact Reg.obl_free rfl (Reg.wp_eqv (Option.some_ne_none _) (by go_simp) rfl)
              · intro ax wx hx hs
                obtain ⟨e88, -⟩ := hs
                have g88 := Reg.ev (v := .pointer (some ⟨d, 0, none⟩)) e88
                exact Reg.obl_free rfl (Reg.wp_eqv (Option.some_ne_none _) (by go_simp) rfl)
              · intro ax wx hx hs
                obtain ⟨e89, -⟩ := hs
                have g89 := Reg.ev (v := .pointer (some ⟨d, 0, none⟩)) e89
                exact Reg.obl_free rfl (Reg.wp_eqv (Option.some_ne_none _) (by go_simp) rfl)
              · intro ax wx hx hs
                obtain ⟨e90, -⟩ := hs
                have g90 := Reg.ev (v := .pointer (some ⟨d, 5, none⟩)) e90
                have l0 := str10 (HI5.out.box.next hx)
                exact Reg.obl_free rfl (Reg.wp_eqv (Option.some_ne_none _) (by go_simp) rfl)
              · intro ax wx hx hs
                obtain ⟨e10, -⟩ := hs
                have g10 := Reg.ev (v := .int .i64 s) e10
                exact Reg.obl_free rfl (Reg.wp_eqv (Option.some_ne_none _) (by go_simp) rfl)
              · intro ax wx hx hs
                obtain ⟨e91, e92, -⟩ := hs
                have g91 := Reg.ev (v := .int .i64 (X.sure)) e91
                have g92 := Reg.ev (v := .int .i64 s) e92
                refine Reg.obl_free rfl ?_
                exact Reg.wp_eqv (Option.some_ne_none _) (by go_simp; exact IntWalk.i64_in _ (by omega)) rfl
              · intro ax wx hx hs
                obtain ⟨e0, -⟩ := hs
                have g0 := Reg.ev (v := .pointer (some ⟨d, 0, none⟩)) e0
                exact Reg.obl_free rfl (Reg.wp_eqv (Option.some_ne_none _) (by go_simp) rfl)
              · intro ax wx hx hs
                obtain ⟨e94, -⟩ := hs
                have g94 := Reg.ev (v := .pointer (some ⟨d, 0, none⟩)) e94
                exact Reg.obl_free rfl (Reg.wp_eqv (Option.some_ne_none _) (by go_simp) rfl)
              · intro ax wx hx hs
                obtain ⟨e95, -⟩ := hs
                have g95 := Reg.ev (v := .pointer (some ⟨d, 0, none⟩)) e95
                exact Reg.obl_free rfl (Reg.wp_eqv (Option.some_ne_none _) (by go_simp) rfl)
              · intro ax wx hx hs
                obtain ⟨e96, -⟩ := hs
                have g96 := Reg.ev (v := .pointer (some ⟨d, 4, none⟩)) e96
                have l0 := str10 (HI5.out.box.next hx)
                exact Reg.obl_free rfl (Reg.wp_eqv (Option.some_ne_none _) (by go_simp) rfl)
              · intro ax wx hx hs
                obtain ⟨e93, e97, -⟩ := hs
                have g93 := Reg.ev (v := .int .i64 (X.sure + s)) e93
                have g97 := Reg.ev (v := .int .i64 (X.head)) e97
                refine Reg.obl_free rfl ?_
                exact Reg.wp_eqv (Option.some_ne_none _) (by go_simp; rw [HKK.out]; exact IntWalk.i64_in _ (by omega)) rfl
              · intro ax wx hx hs
                obtain ⟨e87, e98, -⟩ := hs
                have g87 := Reg.ev (v := .slice A0 n0 c0) e87
                have g98 := Reg.ev (v := .int .i64 (k : Int)) e98
                refine Reg.obl_free rfl ?_
                have hq1 : (0 : Int) ≤ (k : Int) := by omega
                have hq2 : (k : Int) ≤ (c0 : Int) := by omega
                exact Reg.wp_eqv (Option.some_ne_none _) (by go_simp) rfl
              · intro ax wx hx hs
                obtain ⟨e83, -⟩ := hs
                have g83 := Reg.ev (v := .pointer (some ⟨d, 0, none⟩)) e83
                exact Reg.obl_free rfl (Reg.wp_eqv (Option.some_ne_none _) (by go_simp) rfl)
              · intro ax wx hx hs
                obtain ⟨e100, -⟩ := hs
                have g100 := Reg.ev (v := .pointer (some ⟨d, 0, none⟩)) e100
                exact Reg.obl_free rfl (Reg.wp_eqv (Option.some_ne_none _) (by go_simp) rfl)
            · intro W6 hwf
              simp only [Reg.Fin]
              rintro _ rfl _ rfl _ rfl _ rfl _ rfl _ rfl _ rfl _ rfl _ rfl _ rfl _ rfl _ rfl _ rfl _ rfl _ rfl _ rfl _ rfl _ rfl _ rfl
              have hwf' : Below W5.heap.size W5 W6 := hwf
              have hI6 := HI5.out.at_ (fun b hb => hwf'.block b (HI5.out.lt b hb))
              have HK6 := Lib.hid (HK5.out.step hwf' HK5.out.size)
              have hz := fun i => hI6.box.frozen i
              have f1 := str10 hI6.box
              have hl6 := hI6.box.lt
              obtain ⟨gb', hO7, hgb⟩ := hI6.log.cut 0 k c0 (Nat.zero_le _) hkn (by omega) (Nat.le_refl _)
              rw [Nat.sub_zero, List.drop_zero, Nat.sub_zero] at hO7
              have hg7 := grown_set (grown_refl W6 d) 2 (.slice (cutA A0 0 c0 1) k c0)
              have hk1 := HKK.out
              have ho := HOK.out
              have hok5 : DevP.Ok { X with now := X.safe, log := X.log.take k } := ⟨ho.n0, ho.n1, rfl, ho.h0, ho.s0, by show X.sure ≤ X.head + ((X.log.take k).length : Nat); rw [List.length_take]; omega, ho.t0, ho.t1, ho.o0, ho.f0, ho.f1, ho.w0, ho.w0⟩
              obtain ⟨bs7, hD7, hn7⟩ := hI6.relog (X' := { X with now := X.safe, log := X.log.take k }) (fun b hb => hg7.block b (hI6.pages.lt b hb) (by intro e; injection e with e; exact hI6.bp_ne b hb e)) (hI6.box.set 2 (.slice (cutA A0 0 c0 1) k c0)) (hO7.grown hg7 (by intro e; rcases hgb with e1 | e1; exact hI6.gb_ne (e1.symm.trans e); rw [e1] at e; cases e)) (hgb.imp id .inl) rfl rfl (Nat.le_refl _) hok5
              have HK7 := Lib.hid (HK6.out.grown hg7 HK6.out.size (.inr HD.out.mem))
              have hsz6 := HK6.out.size
              have HN7 : Hid (∀ b ∈ bs7, b ∈ bs ∨ w.heap.size ≤ b) := Lib.hid (fun b hb => by
                rcases hn7 b hb with h | h
                · exact .inl (by rw [HB.out]; exact HSUB.out b h)
                · exact .inr (by omega))
              have HD7 := Lib.hid hD7
              clear hwf hwf' hI6 hO7 hgb hg7 hok5 hD7 hn7 hk1 ho
              refine Reg.Goal.mk ?_
              go_simp
              generalize hW7 : W6.setCell ⟨d, 2, none⟩ (.slice (cutA A0 0 c0 1) k c0) = W7
              rw [hW7] at HK7 HD7
              clear hW7 hz f1
              go_wp2_with fail
              refine (end_any W7 HD7.out (by have h := HSM.out; refine ⟨h.1, ?_, h.2.2⟩; have h2 := h.2.1; show X.head + ((X.log.take k).length : Nat) ≤ _; rw [List.length_take]; omega)).mono ?_
              rintro e W8 ⟨rfl, hb8⟩
              have hlen : ((X.log.take k).length : Int) = (k : Int) := by rw [List.length_take]; omega
              have hD8 := HD7.out.below hb8
              have HK8 := Lib.hid (HK7.out.step hb8 HK7.out.size)
              obtain ⟨sb8, mb8, bp8, gb8, A8, n8, c8, nm8, es8, hI8, hbs8⟩ := hD8
              have hz := fun i => hI8.box.frozen i
              have f1 := str10 hI8.box
              have hl8 := hI8.box.lt
              have HI8 := Lib.hid hI8
              have HB8 := Lib.hid hbs8
              have hEE : X.head + ((X.log.take k).length : Nat) = X.sure + s := by have := HKK.out; omega
              have HEE := Lib.hid hEE
              dsimp only
              rw [hEE]
              have hss1 : 0 ≤ X.sure + s := by omega
              have hss2 : X.sure + s ≤ 100000000000000 := by omega
              have hg9 := grown_set (grown_set (grown_set (grown_set (grown_refl W8 d) 5 (.int .i64 (X.sure + s))) 6 (.bool false)) 7 (.int .i64 0)) 8 (.bool false)
              have hS9 := (((HI8.out.box.set 5 (.int .i64 (X.sure + s))).set 6 (.bool false)).set 7 (.int .i64 0)).set 8 (.bool false)
              have HG9 := Lib.hid hg9
              have HS9 := Lib.hid hS9
              clear hb8 hI8 hbs8 hEE hlen hg9 hS9
              go_wp2
              go_end0
              have ho := HOK.out
              have hcr : DevP.crashed X m = { X with now := X.safe, log := X.log.take k, sure := X.sure + s, fused := false, fuse := 0, off := false } := by
                unfold DevP.crashed
                rw [HST.out, HKK.out]
                rfl
              have hok9 : DevP.Ok (DevP.crashed X m) := by
                rw [hcr]
                exact ⟨ho.n0, ho.n1, rfl, ho.h0, by show X.head ≤ X.sure + s; omega, by show X.sure + s ≤ X.head + ((X.log.take k).length : Nat); rw [HEE.out]; exact Int.le_refl _, ho.t0, ho.t1, ho.o0, Int.le_refl _, by show (0 : Int) ≤ _; omega, ho.w0, ho.w0⟩
              refine ⟨rfl, bs7, ⟨sb8, mb8, bp8, gb8, A8, n8, c8, nm8, es8, HI8.out.turn (X' := DevP.crashed X m) HG9.out (by rw [hcr]; exact HS9.out) (by rw [hcr]) (by rw [hcr]) (by rw [hcr]) (by rw [hcr]; exact Nat.le_refl _) hok9, HB8.out⟩, HN7.out, HK8.out.grown HG9.out HK8.out.size (.inr HD.out.mem)⟩
        · have hd31 : decide ((0 : Int) < (q : Int)) = true := by simp; omega
          obtain ⟨b9, o9, vs9, e9, hb9, hr9, hc9⟩ := HO.out.elems.at_ (k := 0) (by omega)
          subst e9
          have hc0 := hc9 0 _ (by rw [show vs9 = _ from hr9]; rfl)
          simp only [Nat.zero_mul, Nat.add_zero] at hc0
          have hq1 : (0 : Int) < (q : Int) := by omega
          clear hc9 hr9
          obtain ⟨W4, hclr0, hM4, ht4⟩ := HI2.out.pages.map.clear Try.underlying62 0
          have hclr : (clrSem #[62] 0 #[.map (some mb)]).run Try.prog wr = .ok (.tuple #[]) W4 := hclr0
          obtain ⟨hI4, hsub4⟩ := HI2.out.cleared hM4 ht4.grown
          have HG4 := Lib.hid ht4.grown
          have HI4 := Lib.hid hI4
          have HSUB := Lib.hid hsub4
          have hlf4 : w.heap.size ≠ mb := by
            intro e
            obtain ⟨t, ht⟩ := HS2.out
            obtain ⟨es5, c5, hb5, -⟩ := HI2.out.pages.map.own
            rw [e, hb5] at ht
            cases ht
          have HS4 := Lib.hid (HS2.out.grown HG4.out hlf4)
          have HK4 := Lib.hid ((Reg.KeepB.of (b0 := bs) (HBW.out.trans (HB2.out.mono (by omega)))).grown HG4.out (Nat.le_trans HBW.out.size HB2.out.size) (.inr (by rw [HB.out]; have hm : mb ∈ bp := by { rw [HI.out.pages.bpe]; simp }; simp [hm])))
          clear hclr0 hM4 ht4 hI4 hsub4
          go_wp2_with fail
          have HD4 : Hid (Dev W4 d (d :: (gb.toList ++ [sb, mb])) { X with now := X.safe }) := Lib.hid ⟨sb, mb, _, gb, A0, n0, c0, 0, [], HI4.out, rfl⟩
          have HSM4 : Hid (DevP.Small { X with now := X.safe }) := Lib.hid ⟨HSM.out.1, HSM.out.2.1, HSM.out.2.2⟩
          obtain ⟨s, hs⟩ : ∃ s, DevP.stay X m = s := ⟨_, rfl⟩
          have HST := Lib.hid hs
          have hst : min (max m 0) (X.head + (X.log.length : Nat) - X.sure) = s := hs
          have hs0 : 0 ≤ s := by omega
          have hs1 : s ≤ X.head + (X.log.length : Nat) - X.sure := by omega
          have hmi := HM.out
          unfold In64 at hmi
          have HMI := Lib.hid hmi
          clear hs hmi hclr f1 f2
          obtain ⟨y, hy⟩ : ∃ y : Int, X.head + (X.log.length : Nat) = y := ⟨_, rfl⟩
          have HY := Lib.hid hy
          have hy1 : 0 ≤ y := by omega
          have hy2 : y ≤ 100000000000000 := by omega
          have hy3 : X.sure ≤ y := by omega
          have hst2 : min (max m 0) (y - X.sure) = s := by rw [← hy]; exact hst
          have HST2 := Lib.hid hst2
          have hs1' : s ≤ y - X.sure := by omega
          clear hst hs1 hy hst2
          have hl4 := HI4.out.box.lt
          have hlf4' := HS4.out.lt
          refine Reg.wp_region_vals (R := ext) (W := W4) [Reg.eqv (.pointer (some ⟨w.heap.size, 1, none⟩)), Reg.eqv (.int .i64 m), Reg.eqv (.int .i64 (max m 0)), Reg.eqv (.pointer (some ⟨d, 0, none⟩)), Reg.eqv (.int .i64 y), Reg.eqv (.pointer (some ⟨d, 0, none⟩)), Reg.eqv (.pointer (some ⟨d, 0, none⟩)), Reg.eqv (.pointer (some ⟨d, 5, none⟩)), Reg.eqv (.int .i64 (X.sure)), Reg.eqv (.int .i64 (y - X.sure)), Reg.eqv (.int .i64 s), Reg.eqv (.int .i64 s)] 116 [[(3, none)], [(72, some 0)], [(73, some 1)], [(0, none)], [(75, some 3)], [(0, none)], [(77, some 5)], [(78, some 6)], [(79, some 7)], [(76, some 4), (80, some 8)], [(74, some 2), (81, some 9)], [(82, some 10)]] rfl (by kernel_rfl) (by kernel_rfl) (by kernel_rfl) ?_ [some 72, some 73, some 74, some 75, some 76, some 77, some 78, some 79, some 80, some 81, some 82, some 10] (by kernel_rfl) ?_
          · refine ⟨?_, ?_, ?_, ?_, ?_, ?_, ?_, ?_, ?_, ?_, ?_, ?_, trivial⟩
            · intro ax wx hx hs
              obtain ⟨e3, -⟩ := hs
              have g3 := Reg.ev (v := .pointer (some ⟨w.heap.size, 0, none⟩)) e3
              exact Reg.obl_free rfl (Reg.wp_eqv (Option.some_ne_none _) (by go_simp) rfl)
            · intro ax wx hx hs
              obtain ⟨e72, -⟩ := hs
              have g72 := Reg.ev (v := .pointer (some ⟨w.heap.size, 1, none⟩)) e72
              have l0 := str10 (HI4.out.box.next hx)
              have l1 := str2 (HS4.out.next hx)
              exact Reg.obl_free rfl (Reg.wp_eqv (Option.some_ne_none _) (by go_simp) rfl)
            · intro ax wx hx hs
              obtain ⟨e73, -⟩ := hs
              have g73 := Reg.ev (v := .int .i64 m) e73
              refine Reg.obl_free rfl ?_
              have hmi := HMI.out
              exact Reg.wp_eqv (Option.some_ne_none _) (by go_simp <;> (first | (split <;> omega) | omega)) rfl
            · intro ax wx hx hs
              obtain ⟨e0, -⟩ := hs
              have g0 := Reg.ev (v := .pointer (some ⟨d, 0, none⟩)) e0
              exact Reg.obl_free rfl (Reg.wp_eqv (Option.some_ne_none _) (by go_simp) rfl)
            · intro ax wx hx hs
              obtain ⟨e75, -⟩ := hs
              have g75 := Reg.ev (v := .pointer (some ⟨d, 0, none⟩)) e75
              refine Reg.obl_free rfl ?_
              have hx' : Below W4.heap.size W4 wx := hx
              go_simp
              refine (end_any wx (HD4.out.below hx') HSM4.out).mono ?_
              rintro e wy ⟨rfl, hby⟩
              exact Reg.done (Option.some_ne_none _) (by show Value.int _ _ = _; exact congrArg (Value.int .i64) HY.out) hby
            · intro ax wx hx hs
              obtain ⟨e0, -⟩ := hs
              have g0 := Reg.ev (v := .pointer (some ⟨d, 0, none⟩)) e0
              exact Reg.obl_free rfl (Reg.wp_eqv (Option.some_ne_none _) (by go_simp) rfl)
            · intro ax wx hx hs
              obtain ⟨e77, -⟩ := hs
              have g77 := Reg.ev (v := .pointer (some ⟨d, 0, none⟩)) e77
              exact Reg.obl_free rfl (Reg.wp_eqv (Option.some_ne_none _) (by go_simp) rfl)
            · intro ax wx hx hs
              obtain ⟨e78, -⟩ := hs
              have g78 := Reg.ev (v := .pointer (some ⟨d, 0, none⟩)) e78
              exact Reg.obl_free rfl (Reg.wp_eqv (Option.some_ne_none _) (by go_simp) rfl)
            · intro ax wx hx hs
              obtain ⟨e79, -⟩ := hs
              have g79 := Reg.ev (v := .pointer (some ⟨d, 5, none⟩)) e79
              have l0 := str10 (HI4.out.box.next hx)
              have l1 := str2 (HS4.out.next hx)
              exact Reg.obl_free rfl (Reg.wp_eqv (Option.some_ne_none _) (by go_simp) rfl)
            · intro ax wx hx hs
              obtain ⟨e76, e80, -⟩ := hs
              have g76 := Reg.ev (v := .int .i64 y) e76
              have g80 := Reg.ev (v := .int .i64 (X.sure)) e80
              refine Reg.obl_free rfl ?_
              exact Reg.wp_eqv (Option.some_ne_none _) (by go_simp; exact IntWalk.i64_in _ (by omega)) rfl
            · intro ax wx hx hs
              obtain ⟨e74, e81, -⟩ := hs
              have g74 := Reg.ev (v := .int .i64 (max m 0)) e74
              have g81 := Reg.ev (v := .int .i64 (y - X.sure)) e81
              refine Reg.obl_free rfl ?_
              have hst2 := HST2.out
              have hmi := HMI.out
              exact Reg.wp_eqv (Option.some_ne_none _) (by go_simp <;> (first | (split <;> omega) | omega)) rfl
            · intro ax wx hx hs
              obtain ⟨e82, -⟩ := hs
              have g82 := Reg.ev (v := .int .i64 s) e82
              exact Reg.obl_free rfl (Reg.wp_eqv (Option.some_ne_none _) (by go_simp) rfl)
          · intro W5 hwf
            simp only [Reg.Fin]
            rintro _ rfl _ rfl _ rfl _ rfl _ rfl _ rfl _ rfl _ rfl _ rfl _ rfl _ rfl _ rfl
            go_simp
            have hwf' : Below W4.heap.size W4 W5 := hwf
            have HI5 := Lib.hid (HI4.out.at_ (fun b hb => hwf'.block b (HI4.out.lt b hb)))
            have HK5 := Lib.hid (HK4.out.step hwf' HK4.out.size)
            clear hwf hwf'
            obtain ⟨k, hk⟩ : ∃ k : Nat, X.sure + s - X.head = (k : Int) := ⟨(X.sure + s - X.head).toNat, by omega⟩
            have HKK := Lib.hid hk
            have hkl : k ≤ X.log.length := by have := HY.out; omega
            have hkn : k ≤ n0 := by rw [← HN0.out]; exact hkl
            have hkc : k ≤ c0 := by omega
            clear hk
            have hl5 := HI5.out.box.lt
            go_wp2_with fail
            refine Reg.wp_region_tail (R := ext) (W := W5) [Reg.eqv (.pointer (some ⟨d, 0, none⟩)), Reg.eqv (.pointer (some ⟨d, 0, none⟩)), Reg.eqv (.pointer (some ⟨d, 0, none⟩)), Reg.eqv (.pointer (some ⟨d, 2, none⟩)), Reg.eqv (.slice A0 n0 c0), Reg.eqv (.pointer (some ⟨d, 0, none⟩)), Reg.eqv (.pointer (some ⟨d, 0, none⟩)), Reg.eqv (.pointer (some ⟨d, 5, none⟩)), Reg.eqv (.int .i64 (X.sure)), Reg.eqv (.int .i64 s), Reg.eqv (.int .i64 (X.sure + s)), Reg.eqv (.pointer (some ⟨d, 0, none⟩)), Reg.eqv (.pointer (some ⟨d, 0, none⟩)), Reg.eqv (.pointer (some ⟨d, 4, none⟩)), Reg.eqv (.int .i64 (X.head)), Reg.eqv (.int .i64 (k : Int)), Reg.eqv (.slice (cutA A0 0 c0 1) k c0), Reg.eqv (.pointer (some ⟨d, 0, none⟩)), Reg.eqv (.pointer (some ⟨d, 2, none⟩))] 116 19 _ [[(0, none)], [(0, none)], [(84, some 1)], [(85, some 2)], [(86, some 3)], [(0, none)], [(88, some 5)], [(89, some 6)], [(90, some 7)], [(10, none)], [(91, some 8), (92, some 9)], [(0, none)], [(94, some 11)], [(95, some 12)], [(96, some 13)], [(93, some 10), (97, some 14)], [(87, some 4), (98, some 15)], [(83, some 0)], [(100, some 17)]] rfl (by kernel_rfl) (by kernel_rfl) (by rfl) (by rfl) rfl (by kernel_rfl) ?_ [some 83, some 84, some 85, some 86, some 87, some 88, some 89, some 90, some 91, some 92, some 93, some 94, some 95, some 96, some 97, some 98, some 99, some 100, some 101] (by kernel_rfl) ?_
            · refine ⟨?_, ?_, ?_, ?_, ?_, ?_, ?_, ?_, ?_, ?_, ?_, ?_, ?_, ?_, ?_, ?_, ?_, ?_, ?_, trivial⟩
              · intro ax wx hx hs
                obtain ⟨e0, -⟩ := hs
                have g0 := Reg.ev (v := .pointer (some ⟨d, 0, none⟩)) e0
                exact Reg.obl_free rfl (Reg.wp_eqv (Option.some_ne_none _) (by go_simp) rfl)
              · intro ax wx hx hs
                obtain ⟨e0, -⟩ := hs
                have g0 := Reg.ev (v := .pointer (some ⟨d, 0, none⟩)) e0
                exact Reg.obl_free rfl (Reg.wp_eqv (Option.some_ne_none _) (by go_simp) rfl)
              · intro ax wx hx hs
                obtain ⟨e84, -⟩ := hs
                have g84 := Reg.ev (v := .pointer (some ⟨d, 0, none⟩)) e84
                exact Reg.obl_free rfl (Reg.wp_eqv (Option.some_ne_none _) (by go_simp) rfl)
              · intro ax wx hx hs
                obtain ⟨e85, -⟩ := hs
                have g85 := Reg.ev (v := .pointer (some ⟨d, 0, none⟩)) e85
                exact Reg.obl_free rfl (Reg.wp_eqv (Option.some_ne_none _) (by go_simp) rfl)
              · intro ax wx hx hs
                obtain ⟨e86, -⟩ := hs
                have g86 := Reg.ev (v := .pointer (some ⟨d, 2, none⟩)) e86
                have l0 := str10 (HI5.out.box.next hx)
                exact Reg.obl_free rfl (Reg.wp_eqv (Option.some_ne_none _) (by go_simp) rfl)
              · intro ax wx hx hs
                obtain ⟨e0, -⟩ := hs
                have g0 := Reg.ev (v := .pointer (some ⟨d, 0, none⟩)) e0
                exact Reg.obl_free rfl (Reg.wp_eqv (Option.some_ne_none _) (by go_simp) rfl)
              · intro ax wx hx hs
                obtain ⟨e88, -⟩ := hs
                have g88 := Reg.ev (v := .pointer (some ⟨d, 0, none⟩)) e88
                exact Reg.obl_free rfl (Reg.wp_eqv (Option.some_ne_none _) (by go_simp) rfl)
              · intro ax wx hx hs
                obtain ⟨e89, -⟩ := hs
                have g89 := Reg.ev (v := .pointer (some ⟨d, 0, none⟩)) e89
                exact Reg.obl_free rfl (Reg.wp_eqv (Option.some_ne_none _) (by go_simp) rfl)
              · intro ax wx hx hs
                obtain ⟨e90, -⟩ := hs
                have g90 := Reg.ev (v := .pointer (some ⟨d, 5, none⟩)) e90
                have l0 := str10 (HI5.out.box.next hx)
                exact Reg.obl_free rfl (Reg.wp_eqv (Option.some_ne_none _) (by go_simp) rfl)
              · intro ax wx hx hs
                obtain ⟨e10, -⟩ := hs
                have g10 := Reg.ev (v := .int .i64 s) e10
                exact Reg.obl_free rfl (Reg.wp_eqv (Option.some_ne_none _) (by go_simp) rfl)
              · intro ax wx hx hs
                obtain ⟨e91, e92, -⟩ := hs
                have g91 := Reg.ev (v := .int .i64 (X.sure)) e91
                have g92 := Reg.ev (v := .int .i64 s) e92
                refine Reg.obl_free rfl ?_
                exact Reg.wp_eqv (Option.some_ne_none _) (by go_simp; exact IntWalk.i64_in _ (by omega)) rfl
              · intro ax wx hx hs
                obtain ⟨e0, -⟩ := hs
                have g0 := Reg.ev (v := .pointer (some ⟨d, 0, none⟩)) e0
                exact Reg.obl_free rfl (Reg.wp_eqv (Option.some_ne_none _) (by go_simp) rfl)
              · intro ax wx hx hs
                obtain ⟨e94, -⟩ := hs
                have g94 := Reg.ev (v := .pointer (some ⟨d, 0, none⟩)) e94
                exact Reg.obl_free rfl (Reg.wp_eqv (Option.some_ne_none _) (by go_simp) rfl)
              · intro ax wx hx hs
                obtain ⟨e95, -⟩ := hs
                have g95 := Reg.ev (v := .pointer (some ⟨d, 0, none⟩)) e95
                exact Reg.obl_free rfl (Reg.wp_eqv (Option.some_ne_none _) (by go_simp) rfl)
              · intro ax wx hx hs
                obtain ⟨e96, -⟩ := hs
                have g96 := Reg.ev (v := .pointer (some ⟨d, 4, none⟩)) e96
                have l0 := str10 (HI5.out.box.next hx)
                exact Reg.obl_free rfl (Reg.wp_eqv (Option.some_ne_none _) (by go_simp) rfl)
              · intro ax wx hx hs
                obtain ⟨e93, e97, -⟩ := hs
                have g93 := Reg.ev (v := .int .i64 (X.sure + s)) e93
                have g97 := Reg.ev (v := .int .i64 (X.head)) e97
                refine Reg.obl_free rfl ?_
                exact Reg.wp_eqv (Option.some_ne_none _) (by go_simp; rw [HKK.out]; exact IntWalk.i64_in _ (by omega)) rfl
              · intro ax wx hx hs
                obtain ⟨e87, e98, -⟩ := hs
                have g87 := Reg.ev (v := .slice A0 n0 c0) e87
                have g98 := Reg.ev (v := .int .i64 (k : Int)) e98
                refine Reg.obl_free rfl ?_
                have hq1 : (0 : Int) ≤ (k : Int) := by omega
                have hq2 : (k : Int) ≤ (c0 : Int) := by omega
                exact Reg.wp_eqv (Option.some_ne_none _) (by go_simp) rfl
              · intro ax wx hx hs
                obtain ⟨e83, -⟩ := hs
                have g83 := Reg.ev (v := .pointer (some ⟨d, 0, none⟩)) e83
                exact Reg.obl_free rfl (Reg.wp_eqv (Option.some_ne_none _) (by go_simp) rfl)
              · intro ax wx hx hs
                obtain ⟨e100, -⟩ := hs
                have g100 := Reg.ev (v := .pointer (some ⟨d, 0, none⟩)) e100
                exact Reg.obl_free rfl (Reg.wp_eqv (Option.some_ne_none _) (by go_simp) rfl)
            · intro W6 hwf
              simp only [Reg.Fin]
              rintro _ rfl _ rfl _ rfl _ rfl _ rfl _ rfl _ rfl _ rfl _ rfl _ rfl _ rfl _ rfl _ rfl _ rfl _ rfl _ rfl _ rfl _ rfl _ rfl
              have hwf' : Below W5.heap.size W5 W6 := hwf
              have hI6 := HI5.out.at_ (fun b hb => hwf'.block b (HI5.out.lt b hb))
              have HK6 := Lib.hid (HK5.out.step hwf' HK5.out.size)
              have hz := fun i => hI6.box.frozen i
              have f1 := str10 hI6.box
              have hl6 := hI6.box.lt
              obtain ⟨gb', hO7, hgb⟩ := hI6.log.cut 0 k c0 (Nat.zero_le _) hkn (by omega) (Nat.le_refl _)
              rw [Nat.sub_zero, List.drop_zero, Nat.sub_zero] at hO7
              have hg7 := grown_set (grown_refl W6 d) 2 (.slice (cutA A0 0 c0 1) k c0)
              have hk1 := HKK.out
              have ho := HOK.out
              have hok5 : DevP.Ok { X with now := X.safe, log := X.log.take k } := ⟨ho.n0, ho.n1, rfl, ho.h0, ho.s0, by show X.sure ≤ X.head + ((X.log.take k).length : Nat); rw [List.length_take]; omega, ho.t0, ho.t1, ho.o0, ho.f0, ho.f1, ho.w0, ho.w0⟩
              obtain ⟨bs7, hD7, hn7⟩ := hI6.relog (X' := { X with now := X.safe, log := X.log.take k }) (fun b hb => hg7.block b (hI6.pages.lt b hb) (by intro e; injection e with e; exact hI6.bp_ne b hb e)) (hI6.box.set 2 (.slice (cutA A0 0 c0 1) k c0)) (hO7.grown hg7 (by intro e; rcases hgb with e1 | e1; exact hI6.gb_ne (e1.symm.trans e); rw [e1] at e; cases e)) (hgb.imp id .inl) rfl rfl (Nat.le_refl _) hok5
              have HK7 := Lib.hid (HK6.out.grown hg7 HK6.out.size (.inr HD.out.mem))
              have hsz6 := HK6.out.size
              have HN7 : Hid (∀ b ∈ bs7, b ∈ bs ∨ w.heap.size ≤ b) := Lib.hid (fun b hb => by
                rcases hn7 b hb with h | h
                · exact .inl (by rw [HB.out]; exact HSUB.out b h)
                · exact .inr (by omega))
              have HD7 := Lib.hid hD7
              clear hwf hwf' hI6 hO7 hgb hg7 hok5 hD7 hn7 hk1 ho
              refine Reg.Goal.mk ?_
              go_simp
              generalize hW7 : W6.setCell ⟨d, 2, none⟩ (.slice (cutA A0 0 c0 1) k c0) = W7
              rw [hW7] at HK7 HD7
              clear hW7 hz f1
              go_wp2_with fail
              refine (end_any W7 HD7.out (by have h := HSM.out; refine ⟨h.1, ?_, h.2.2⟩; have h2 := h.2.1; show X.head + ((X.log.take k).length : Nat) ≤ _; rw [List.length_take]; omega)).mono ?_
              rintro e W8 ⟨rfl, hb8⟩
              have hlen : ((X.log.take k).length : Int) = (k : Int) := by rw [List.length_take]; omega
              have hD8 := HD7.out.below hb8
              have HK8 := Lib.hid (HK7.out.step hb8 HK7.out.size)
              obtain ⟨sb8, mb8, bp8, gb8, A8, n8, c8, nm8, es8, hI8, hbs8⟩ := hD8
              have hz := fun i => hI8.box.frozen i
              have f1 := str10 hI8.box
              have hl8 := hI8.box.lt
              have HI8 := Lib.hid hI8
              have HB8 := Lib.hid hbs8
              have hEE : X.head + ((X.log.take k).length : Nat) = X.sure + s := by have := HKK.out; omega
              have HEE := Lib.hid hEE
              dsimp only
              rw [hEE]
              have hss1 : 0 ≤ X.sure + s := by omega
              have hss2 : X.sure + s ≤ 100000000000000 := by omega
              have hg9 := grown_set (grown_set (grown_set (grown_set (grown_refl W8 d) 5 (.int .i64 (X.sure + s))) 6 (.bool false)) 7 (.int .i64 0)) 8 (.bool false)
              have hS9 := (((HI8.out.box.set 5 (.int .i64 (X.sure + s))).set 6 (.bool false)).set 7 (.int .i64 0)).set 8 (.bool false)
              have HG9 := Lib.hid hg9
              have HS9 := Lib.hid hS9
              clear hb8 hI8 hbs8 hEE hlen hg9 hS9
              go_wp2
              go_end0
              have ho := HOK.out
              have hcr : DevP.crashed X m = { X with now := X.safe, log := X.log.take k, sure := X.sure + s, fused := false, fuse := 0, off := false } := by
                unfold DevP.crashed
                rw [HST.out, HKK.out]
                rfl
              have hok9 : DevP.Ok (DevP.crashed X m) := by
                rw [hcr]
                exact ⟨ho.n0, ho.n1, rfl, ho.h0, by show X.head ≤ X.sure + s; omega, by show X.sure + s ≤ X.head + ((X.log.take k).length : Nat); rw [HEE.out]; exact Int.le_refl _, ho.t0, ho.t1, ho.o0, Int.le_refl _, by show (0 : Int) ≤ _; omega, ho.w0, ho.w0⟩
              refine ⟨rfl, bs7, ⟨sb8, mb8, bp8, gb8, A8, n8, c8, nm8, es8, HI8.out.turn (X' := DevP.crashed X m) HG9.out (by rw [hcr]; exact HS9.out) (by rw [hcr]) (by rw [hcr]) (by rw [hcr]) (by rw [hcr]; exact Nat.le_refl _) hok9, HB8.out⟩, HN7.out, HK8.out.grown HG9.out HK8.out.size (.inr HD.out.mem)⟩
    · intro x sv kl yd yp w1 cnt1 hkey hlk hv hat hrg1 hcl hg1 hs1 hen
      obtain ⟨x', ex, rfl, -⟩ := Maps.keyOf_int_inv Try.underlying3 hkey
      cases ex
      have hsz1 := hg1.size
      have hO1 := IntE.grown HK.out.2.2.1 hg1 (by omega)
      have hB1 := below_grown HK.out.2.2.2.1 hg1 (by omega)
      have hba : Below w1.heap.size w1 (w1.alloc (.cells #[.int .i64 x] 3)) := balloc (bsame w1) _
      have hO2 := hO1.next hba
      obtain ⟨A', c', w3, happ, hO3, hb3, hg3, hA3⟩ := hO2.app (P := Try.prog) 23 23 i0 _ 8 Try.underlying23 HI0.out iz0 iz1 iz2 rfl (IntE.lit (wr := hid A (w1.alloc (.cells #[.int .i64 x] 3))) (x := x) (Str.new w1 _ _)) (by unfold maxLen; omega) (by omega) (by simp; omega)
      have hrgA := World.ranges.alloc hrg1 (.cells #[.int .i64 x] 3)
      have HRG1 := Lib.hid (hrgA.kept hg3 (by
        intro e
        cases A with
        | none => cases e
        | some a => injection e with e2; have := HK.out.2.2.1.ge a rfl; omega) (by
        intro e
        cases A with
        | none => cases e
        | some a => injection e with e2; have := HK.out.2.2.1.ge a rfl; omega))
      have HB3 := Lib.hid ((hB1.trans (hba.mono (by omega))).trans (hb3.mono (by omega)))
      have HO3 := Lib.hid hO3
      have hsz3 : W0.heap.size + 1 ≤ w3.heap.size := by have := hb3.size; have := hba.size; omega
      have HCL := Lib.hid hcl
      have HRGO := Lib.hid HK.out.1
      clear hkey hlk hv hat hrg1 hcl hg1 hs1 hO1 hB1 hba hO2 hO3 hb3 hg3 hA3 hrgA hsz1 HK
      go_wp2
      go_roundw
      case rel => exact ⟨_, cnt1, q + 1, c', A', _, rfl, Lib.hid ⟨HRG1.out, by have := HCL.out; omega, HO3.out, HB3.out, hsz3⟩⟩
      case measure => rw [HRG1.out.left_eq, HRGO.out.left_eq]; exact HCL.out
end Go.Proofs.Ytldgdgfplgdipaa.DevW
namespace Go.Proofs.Ytldgdgfplgdipaa
open Go.RowKit Go.Maps
set_option linter.unusedVariables false
set_option linter.unusedSimpArgs false
def bsSem (t : TypeId) (n : Nat) (ps : Array (Nat × Value)) : Sem Value := Instr.buildSlice t n ps
theorem PageE.lit {w wr : World} {b : Nat} {x : List UInt8} (hs : Str w b (rowV x)) (hl : x.length = 512) : ElemsIn PageE wr w w.heap.size (some ⟨b, 0, none⟩) 1 1 [x] :=
  ⟨[x.map byteV], ⟨⟨rfl, hl⟩, trivial⟩, rfl, Nat.le_refl _, by unfold maxLen; omega, fun _ => ⟨b, 0, rfl, hs.lt, fun j v hv => by
    rw [show [x.map byteV].flatten = x.map byteV by simp] at hv
    rw [Nat.zero_add, hs.cell j, rowV]
    simpa using hv⟩⟩
namespace DevW
theorem size_of {t : TypeId} {n : Nat} (h : (Try.prog.info? t).map (·.size) = some n) (w : World) : (sizeOf t).run Try.prog w = .ok n w := by
  cases hq : Try.prog.info? t with
  | none => simp [hq] at h
  | some i => simp [hq] at h; simp [sizeOf, typeInfo, hq, h]
theorem own_cells {α : Type} {E : El α} {T : TypeId} {w : World} {base n c : Nat} {ad : Addr} {l : List α} (h : OwnE E T w base (some ad) n c l) : ∃ cur, w.heap[ad.block]? = some (.cells cur T (0, 0)) := by
  obtain ⟨vs, h1, -⟩ := h
  rcases h1.2 with ⟨e, -⟩ | ⟨g, cap, cur, e, -, hh, -⟩
  · cases e
  · cases e
    exact ⟨cur, hh⟩
theorem map_ne {α : Type} {E : El α} {T kt : TypeId} {K β : Type} [DecidableEq K] {S : KeyS K} {El2 : ElS β} {w : World} {base n c b m : Nat} {ad : Addr} {l : List α} {L : MapP.T K β} (h : OwnE E T w base (some ad) n c l) (k : MapM Try.prog S El2 kt w b m L) : b ≠ ad.block := by
  rintro rfl
  obtain ⟨cur, h1⟩ := own_cells h
  obtain ⟨es, clock, hb, -⟩ := k.own
  rw [hb] at h1
  cases h1
theorem bs_fold (n : Nat) (ps : Array (Nat × Value)) : Instr.buildSlice 61 n ps = bsSem 61 n ps := rfl
theorem bs_page (p : List UInt8) (hp : p.length = 512) (w : World) : (bsSem 61 1 #[(0, .agg (rowV p))]).run Try.prog w = .ok (.slice (some ⟨w.heap.size, 0, none⟩) 1 1) (w.alloc (.cells (rowV p) 30)) := by
  have hz : ∀ w, (zeroValue 30).run Try.prog w = .ok (.agg (Array.replicate 512 (.int .u8 0))) w := (zero_of_info arrPage.info).1
  have hsz := size_of (t := 30) (n := 512) arrPage.size
  have hs : (rowV p).size = 512 := by rw [rowV_size, hp]
  have key : ∀ cs : Array Value, cs.size = 512 → Instr.fill (fun i => some (i * 512, 512)) cs [(0, .agg (rowV p))] = some (rowV p) := fun cs hc => by
    have h3 := foldl_set 0 (p.map byteV) 0 cs (by simp [hc, hp])
    have h4 : (rowV p).zipIdx.toList = (p.map byteV).zipIdx 0 := by simp [rowV]
    have hf : ((rowV p).zipIdx.foldl (fun cs (x : Value × Nat) => cs.setIfInBounds (0 + x.2) x.1) cs) = rowV p := by
      apply Array.ext'
      rw [← Array.foldl_toList, h4, h3]
      simp [splice, rowV, hc, hp]
    simp only [Instr.fill, Value.cells, hs, hc]
    rw [if_neg (by simp)]
    simp only [Nat.zero_mul]
    exact congrArg some hf
  unfold bsSem Instr.buildSlice
  simp only [Sem.run_bind, run_underlying Try.underlying61, Result.andThen_ok, hsz]
  simp [hz, key, newRow]
end DevW
namespace DevW
abbrev PT : TypeId := 30
/-- the parts of a page's writing -/
structure Wri where
  N : Nat
  mb : Nat
  nm : Nat
  es : List (Int × SlV)
  k : Nat
  A : Option Addr
  n : Nat
  c : Nat
  ps : List (List UInt8)
  p : List UInt8
def Wri.Side (I : Wri) (b : Bool) (a : Act) (w : World) : Prop := b = true → ∃ g, a.eval (.tmp 29) = .slice (some ⟨g, 0, none⟩) 1 1 ∧ Str w g (rowV I.p)
def Wri.Map (I : Wri) (w : World) : Prop := MapM Try.prog intK slE 3 w I.mb I.nm I.es
def Wri.Row (I : Wri) (w : World) (g c' : Nat) : Prop := Pgs PT w g (I.n + 1) c' (I.ps ++ [I.p]) ∧ (I.A = some ⟨g, 0, none⟩ ∨ I.N ≤ g)
def Wri.S (I : Wri) : Reg.LS := fun kk b a w => match kk with
  | 0 => I.Map w ∧ OwnE PageE PT w 0 I.A I.n I.c I.ps ∧ I.Side b a w
  | 1 => a.eval (.tmp 24) = .slice I.A I.n I.c ∧ I.Map w ∧ OwnE PageE PT w 0 I.A I.n I.c I.ps ∧ I.Side b a w
  | 2 => b = true ∧ ∃ g c', a.eval (.tmp 30) = .slice (some ⟨g, 0, none⟩) (I.n + 1) c' ∧ I.Row w g c' ∧ I.Map w
  | _ => ∃ g c', I.Row w g c' ∧ MapM Try.prog intK slE 3 w I.mb (I.nm + 1) (MapP.put (MapP.ltK intK) I.es (I.k : Int) ⟨some ⟨g, 0, none⟩, I.n + 1, c'⟩)
section
variable {I : Wri} {a : Act} {w w' : World} {b : Bool} {dst : Option Tmp} {v : Value}
theorem Wri.Map.next (h : I.Map w) (hb : Below w.heap.size w w') : I.Map w' := MapM.at_ h (hb.block _ (MapM.lt h))
theorem Wri.Row.next {g c' : Nat} (h : I.Row w g c') (hb : Below w.heap.size w w') : I.Row w' g c' := ⟨Pgs.at_ h.1 (hb.block _ (Pgs.lt h.1)), h.2⟩
theorem Wri.Side.put (hd : dst ≠ some 29) (h : I.Side b a w) (hb : Below w.heap.size w w') : I.Side b (a.put dst v) w' := fun e => by
  obtain ⟨g, h1, h2⟩ := h e
  exact ⟨g, by rw [Reg.eval_ne hd]; exact h1, h2.next hb⟩
theorem Wri.S_put (hd : dst ≠ some 24 ∧ dst ≠ some 29 ∧ dst ≠ some 30) (kk : Nat) (h : I.S kk b a w) (hb : Below w.heap.size w w') : I.S kk b (a.put dst v) w' := by
  obtain ⟨d1, d2, d3⟩ := hd
  match kk, h with
  | 0, h => exact ⟨h.1.next hb, h.2.1.next hb, h.2.2.put d2 hb⟩
  | 1, h => exact ⟨by rw [Reg.eval_ne d1]; exact h.1, h.2.1.next hb, h.2.2.1.next hb, h.2.2.2.put d2 hb⟩
  | 2, h =>
    obtain ⟨e, g, c', h1, h2, h3⟩ := h
    exact ⟨e, g, c', by rw [Reg.eval_ne d3]; exact h1, h2.next hb, h3.next hb⟩
  | _ + 3, h =>
    obtain ⟨g, c', h2, h3⟩ := h
    exact ⟨g, c', h2.next hb, MapM.at_ h3 (hb.block _ (MapM.lt h3))⟩
/-- the row of one page -/
theorem Wri.S_side (kk : Nat) (h : I.S kk false a w) (ha : 29 < a.tmps.size) : I.S kk true (a.put (some 29) (.slice (some ⟨w.heap.size, 0, none⟩) 1 1)) (w.alloc (.cells (rowV I.p) PT)) := by
  have hb : Below w.heap.size w (w.alloc (.cells (rowV I.p) PT)) := balloc (bsame w) _
  have hs : I.Side true (a.put (some 29) (.slice (some ⟨w.heap.size, 0, none⟩) 1 1)) (w.alloc (.cells (rowV I.p) PT)) := fun _ => ⟨w.heap.size, Reg.eval_put_same ha, Str.new w _ _⟩
  match kk, h with
  | 0, h => exact ⟨h.1.next hb, h.2.1.next hb, hs⟩
  | 1, h => exact ⟨by rw [Reg.eval_ne (by decide)]; exact h.1, h.2.1.next hb, h.2.2.1.next hb, hs⟩
  | 2, h => cases h.1
  | _ + 3, h =>
    obtain ⟨g, c', h2, h3⟩ := h
    exact ⟨g, c', h2.next hb, MapM.at_ h3 (hb.block _ (MapM.lt h3))⟩
/-- the look -/
theorem Wri.S_zero (h : I.S 0 b a w) (ha : 24 < a.tmps.size) : I.S 1 b (a.put (some 24) (.slice I.A I.n I.c)) w :=
  ⟨Reg.eval_put_same ha, h.1, h.2.1, Wri.Side.put (by decide) h.2.2 (bsame w)⟩
theorem keep_row {N mb : Nat} {A : Option Addr} (h : w.grownBy w' ((Value.slice A 0 0).ownBlock)) (hN : N ≤ w.heap.size) : Reg.KeepB N (mb :: (A.map (·.block)).toList) w w' := by
  refine ⟨h.os, h.tape, h.output, h.size, fun i hi hn => h.block i (by omega) (fun e => hn ?_)⟩
  cases A with
  | none => cases e
  | some a => cases e; simp
/-- the append -/
theorem Wri.S_one (h : I.S 1 true a w) (ha : 30 < a.tmps.size) (hN : I.N ≤ w.heap.size) (hp : I.p.length = 512) (hn : I.n ≤ 2000000000) :
    ∃ A2 A' c' w', a.eval (.tmp 24) = .slice I.A I.n I.c ∧ a.eval (.tmp 29) = .slice A2 1 1 ∧ (appSem #[61, 61] 61 #[.slice I.A I.n I.c, .slice A2 1 1]).run Try.prog w = .ok (.slice A' (I.n + 1) c') w' ∧ I.S 2 true (a.put (some 30) (.slice A' (I.n + 1) c')) w' ∧ Reg.KeepB I.N (I.mb :: (I.A.map (·.block)).toList) w w' := by
  obtain ⟨h1, h2, h3, h4⟩ := h
  obtain ⟨g, h5, h6⟩ := h4 rfl
  obtain ⟨i0, hi0, iz0, iz1, iz2⟩ := info_parts infoP
  obtain ⟨A', c', w', k1, k2, k3, k4, k5⟩ := h3.app (P := Try.prog) 61 61 i0 _ 512 Try.underlying61 hi0 iz0 iz1 iz2 (by simp [Value.cells, PageE]) (PageE.lit h6 hp) (by unfold maxLen; omega) (by omega) (Nat.zero_le _)
  have hle := k2.elemsIn.cap.1
  obtain ⟨g', cur, vs, rfl, -⟩ := k2.row (by omega)
  refine ⟨_, _, c', w', h1, h5, k1, ⟨rfl, g', c', Reg.eval_put_same ha, ⟨k2, ?_⟩, MapM.at_ h2 (k4.block _ (MapM.lt h2) ?_)⟩, keep_row k4 hN⟩
  · rcases k5 with e | ⟨a', e, ha'⟩
    · exact .inl e.symm
    · cases e
      exact .inr (by rw [show g' = w.heap.size from ha']; exact hN)
  · intro e
    cases hA : I.A with
    | none => rw [hA] at e; cases e
    | some ad =>
      rw [hA] at e h3
      injection e with e
      exact map_ne h3 h2 e
/-- the map's store -/
theorem Wri.S_two (h : I.S 2 b a w) (hN : I.N ≤ w.heap.size) (hk : I.k ≤ 100000) (hn : I.nm ≤ 2000000000) :
    ∃ A' c' w', a.eval (.tmp 30) = .slice A' (I.n + 1) c' ∧ (Instr.mapUpdate 62 (.map (some I.mb)) (.int .i64 (I.k : Int)) (.slice A' (I.n + 1) c')).run Try.prog w = .ok () w' ∧ I.S 3 b a w' ∧ Reg.KeepB I.N (I.mb :: (I.A.map (·.block)).toList) w w' := by
  obtain ⟨e, g, c', h1, h2, h3⟩ := h
  obtain ⟨w', k1, k2, k3⟩ := MapM.store h3 law Try.underlying62 (by unfold maxLen; omega) (k := (I.k : Int)) (keyOf_ (by unfold In64; omega)) ⟨some ⟨g, 0, none⟩, I.n + 1, c'⟩
  have hne := map_ne h2.1 h3
  refine ⟨_, c', w', h1, k1, ⟨g, c', ⟨Pgs.at_ h2.1 (k3.grown.block g (Pgs.lt h2.1) (fun e => by injection e with e; exact hne e.symm)), h2.2⟩, k2⟩, (Reg.KeepB.of (Below.refl _ w)).grown k3.grown hN (.inr (by simp))⟩
end
end DevW
end Go.Proofs.Ytldgdgfplgdipaa
namespace Go.Proofs.Ytldgdgfplgdipaa.DevW
open Go.RowKit Go.Maps
set_option linter.unusedVariables false
set_option linter.unusedSimpArgs false
variable {d sb mb : Nat} {bp bs : List Nat} {gb : Option Nat} {A : Option Addr} {n c nm : Nat} {es : List (Int × SlV)} {X : DevX}
/-- a page has been written once more -/
theorem Pages.wrote {w w' : World} {safe now : List (List UInt8)} {wr k g c' : Nat} {ps : List (List UInt8)} {p : List UInt8} (h : Pages w sb mb bp safe now wr nm es) (hnl : now.length = safe.length) (hk : k < safe.length)
    (hold : (MapP.get es (k : Int) = none ∧ A = none ∧ n = 0) ∨ ∃ s, MapP.get es (k : Int) = some s ∧ A = s.A ∧ n = s.n)
    (hrow : Pgs PT w' g (n + 1) c' (ps ++ [p])) (hg : A = some ⟨g, 0, none⟩ ∨ w.heap.size ≤ g) (hmap : MapM Try.prog intK slE 3 w' mb (nm + 1) (MapP.put (MapP.ltK intK) es (k : Int) ⟨some ⟨g, 0, none⟩, n + 1, c'⟩))
    (hkeep : ∀ b ∈ bp, b ≠ mb → (∀ a, A = some a → a.block ≠ b) → w'.heap[b]? = w.heap[b]?) :
    ∃ bp', Pages w' sb mb bp' safe (now.set k p) (wr + 1) (nm + 1) (MapP.put (MapP.ltK intK) es (k : Int) ⟨some ⟨g, 0, none⟩, n + 1, c'⟩) ∧ ∀ b ∈ bp', b ∈ bp ∨ w.heap.size ≤ b := by
  obtain ⟨a1, a2, a3, a4, rfl, a6, a7⟩ := h
  have hn6 := a6
  simp only [List.nodup_cons, List.mem_cons, not_or] at hn6
  obtain ⟨⟨hsm, hse⟩, hme, hee⟩ := hn6
  have hlt : ∀ y ∈ es, blk y.2 < w.heap.size := fun y hy => (a3 y hy).lt
  -- the block that turns is none of the others
  have hA : ∀ a, A = some a → ∃ s, (((k : Int), s) : Int × SlV) ∈ es ∧ blk s = a.block := fun a e => by
    rcases hold with ⟨-, e1, -⟩ | ⟨s, e1, e2, -⟩
    · rw [e1] at e; cases e
    · refine ⟨s, MapP.get_mem e1, ?_⟩
      unfold blk
      rw [← e2, e]
  have hinj : ∀ x ∈ es, ∀ y ∈ es, blk x.2 = blk y.2 → x = y := fun x hx y hy e => by
    have := List.pairwise_map.1 hee
    by_cases hxy : x = y
    · exact hxy
    · exact absurd e (by
        obtain ⟨i, hi, rfl⟩ := List.getElem_of_mem hx
        obtain ⟨j, hj, rfl⟩ := List.getElem_of_mem hy
        have hp := List.pairwise_iff_getElem.1 this
        rcases Nat.lt_trichotomy i j with h | rfl | h
        · exact hp i j hi hj h
        · exact absurd rfl hxy
        · exact fun e => hp j i hj hi h e.symm)
  have hsA : ∀ a, A = some a → a.block ≠ sb := fun a e e2 => by
    obtain ⟨s, hs, hb⟩ := hA a e
    exact hse (by rw [← e2, ← hb]; exact List.mem_map.2 ⟨_, hs, rfl⟩)
  have hmA : ∀ a, A = some a → a.block ≠ mb := fun a e e2 => by
    obtain ⟨s, hs, hb⟩ := hA a e
    exact hme (by rw [← e2, ← hb]; exact List.mem_map.2 ⟨_, hs, rfl⟩)
  have hgs : g ≠ sb := by
    rcases hg with e | e
    · exact hsA _ e
    · have := a1.lt; omega
  have hgm : g ≠ mb := by
    rcases hg with e | e
    · exact hmA _ e
    · have := a2.lt; omega
  have hge : ∀ y ∈ es, y.1 ≠ (k : Int) → g ≠ blk y.2 := fun y hy hne e2 => by
    rcases hg with e | e
    · obtain ⟨s, hs, hb⟩ := hA _ e
      have := hinj _ hs y hy (by rw [hb]; exact e2)
      exact hne (by rw [← this])
    · have := hlt y hy; omega
  have hln : n ≤ wr := by
    rcases hold with ⟨-, -, e⟩ | ⟨s, e1, -, e2⟩
    · omega
    · have := (a3 _ (MapP.get_mem e1)).le
      rw [e2]; exact this
  refine ⟨_, ⟨a1.at_ (hkeep sb (by simp) (by omega) (fun a e => hsA a e)), hmap, fun y hy => ?_, fun k' hk' hg' => ?_, rfl, ?_, by omega⟩, fun b hb => ?_⟩
  · rcases MapP.mem_put.1 hy with rfl | ⟨hy, hne⟩
    · refine ⟨by dsimp only; omega, by dsimp only; omega, ⟨ps ++ [p], rfl, hrow, by simp, ?_⟩, by dsimp only; omega⟩
      rw [List.getLast?_append]
      simp [hnl, hk]
    · have hy1 := a3 y hy
      obtain ⟨ps', e1, e2, e3, e4⟩ := hy1.pg
      have hbk : w'.heap[blk y.2]? = w.heap[blk y.2]? := hkeep _ (by simp only [List.mem_cons, List.mem_map]; exact .inr (.inr ⟨y, hy, rfl⟩)) (fun e => hme (by rw [← e]; exact List.mem_map.2 ⟨y, hy, rfl⟩)) (fun a e e5 => by
        obtain ⟨s, hs, hb⟩ := hA _ e
        have := hinj _ hs y hy (by rw [hb]; exact e5)
        exact hne (by rw [← this]))
      have hk0 := hy1.k0
      refine ⟨hy1.k0, hy1.k1, ⟨ps', e1, e2.at_ hbk, e3, ?_⟩, Nat.le_succ_of_le hy1.le⟩
      rw [e4, List.getElem?_set_ne (by omega)]
  · have h1 := MapP.get_none.1 hg'
    have hkk : k' ≠ k := fun e => h1 _ (MapP.mem_put.2 (.inl rfl)) (by rw [e])
    have h2 : MapP.get es (k' : Int) = none := MapP.get_none.2 fun q hq e => h1 q (MapP.mem_put.2 (.inr ⟨hq, by rw [e]; omega⟩)) e
    rw [List.getElem?_set_ne (fun e => hkk e.symm)]
    exact a4 k' hk' h2
  · have hp := (MapP.perm_ins (lt := MapP.ltK intK) ((k : Int), (⟨some ⟨g, 0, none⟩, n + 1, c'⟩ : SlV)) (MapP.del es (k : Int))).map (fun q => blk q.2)
    have hsub : ∀ x ∈ (MapP.del es (k : Int)).map (fun q => blk q.2), x ∈ es.map (fun q => blk q.2) := fun x hx => by
      obtain ⟨y, hy, rfl⟩ := List.mem_map.1 hx
      exact List.mem_map.2 ⟨y, (MapP.mem_del.1 hy).1, rfl⟩
    have hm : ∀ x, x ∈ (MapP.put (MapP.ltK intK) es (k : Int) (⟨some ⟨g, 0, none⟩, n + 1, c'⟩ : SlV)).map (fun q => blk q.2) → x = g ∨ x ∈ es.map (fun q => blk q.2) := fun x hx => by
      have h1 := (hp.mem_iff).1 hx
      rw [List.map_cons, List.mem_cons] at h1
      exact h1.imp id (hsub x)
    refine List.nodup_cons.2 ⟨fun hx => ?_, List.nodup_cons.2 ⟨fun hx => ?_, ?_⟩⟩
    · rcases List.mem_cons.1 hx with e | hx
      · exact hsm e
      · rcases hm _ hx with e | hx
        · exact hgs e.symm
        · exact hse hx
    · rcases hm _ hx with e | hx
      · exact hgm e.symm
      · exact hme hx
    · rw [MapP.put, hp.nodup_iff, List.map_cons]
      refine List.nodup_cons.2 ⟨fun hx => ?_, List.Sublist.nodup (List.Sublist.map _ List.filter_sublist) hee⟩
      obtain ⟨y, hy, e⟩ := List.mem_map.1 hx
      have hy' := MapP.mem_del.1 hy
      exact hge y hy'.1 hy'.2 e.symm
  · simp only [List.mem_cons, List.mem_map] at hb ⊢
    rcases hb with rfl | rfl | ⟨y, hy, rfl⟩
    · exact .inl (.inl rfl)
    · exact .inl (.inr (.inl rfl))
    · rcases MapP.mem_put.1 hy with rfl | ⟨hy, -⟩
      · rcases hg with e | e
        · obtain ⟨s, hs, hb⟩ := hA _ e
          exact .inl (.inr (.inr ⟨_, hs, hb⟩))
        · exact .inr e
      · exact .inl (.inr (.inr ⟨y, hy, rfl⟩))
/-- a page written -/
def _root_.Go.Proofs.Ytldgdgfplgdipaa.DevP.wrote (X : DevX) (k : Nat) (p : List UInt8) : DevX := { X with now := X.now.set k p, wr := X.wr + 1 }
attribute [local go_sem ↓] app_fold ldPage_fold bs_fold
set_option maxRecDepth 100000 in
set_option maxHeartbeats 2000000 in
theorem write_act (j k : Nat) (p : List UInt8) (s : Value) (w : World) (hJ : Str w j (jobC d (k : Int) p s)) (hp : p.length = 512) (hD : Dev w d bs X) (hs : DevP.Small X) (hj : j ∉ bs) (hk : k < X.safe.length) :
    Calls Try.prog 49 #[.pointer (some ⟨j, 0, none⟩)] w (Acts w d bs [] (DevP.wrote X k p) fun _ => True) := by
  have HJ := Lib.hid hJ
  have hjl := hJ.lt
  have HD := Lib.hid hD
  have hok := hD.ok
  have hN := hok.n1
  obtain ⟨sb, mb, bp, gb, A0, n0, c0, nm, es, hI, hbs⟩ := hD
  have hl := hI.box.lt
  have hml := hI.pages.map.lt
  have hnm : nm ≤ 1000000000 := Nat.le_trans hI.pages.nml hs.2.2
  have hk0 : (0 : Int) ≤ (k : Int) := by omega
  have hk2 : k ≤ 100000 := by omega
  obtain ⟨A, n, c, ps, hold, hps, hget, hAb⟩ : ∃ A n c ps, ((MapP.get es (k : Int) = none ∧ A = none ∧ n = 0) ∨ ∃ s, MapP.get es (k : Int) = some s ∧ A = s.A ∧ n = s.n) ∧ OwnE PageE PT w 0 A n c ps ∧ slE.val ((MapP.get es (k : Int)).getD ⟨none, 0, 0⟩) = .slice A n c ∧ (∀ a, A = some a → a.block ∈ bp) := by
    cases hg : MapP.get es (k : Int) with
    | none => exact ⟨none, 0, 0, [], .inl ⟨rfl, rfl, rfl⟩, OwnE.none_ _ _ _ _, rfl, by simp⟩
    | some sv =>
      obtain ⟨ps, h1, h2, -⟩ := (hI.pages.ent _ (MapP.get_mem hg)).pg
      refine ⟨sv.A, sv.n, sv.c, ps, .inr ⟨sv, rfl, rfl, rfl⟩, ?_, rfl, fun a e => ?_⟩
      · rw [h1]; exact h2
      · rw [hI.pages.bpe]
        simp only [List.mem_cons, List.mem_map]
        exact .inr (.inr ⟨_, MapP.get_mem hg, by unfold blk; rw [e]⟩)
  have hnb : n ≤ 1000000000 := by
    rcases hold with ⟨-, -, e⟩ | ⟨sv, e1, -, e2⟩
    · omega
    · have := (hI.pages.ent _ (MapP.get_mem e1)).le
      have h3 := hs.2.2
      dsimp only at this
      omega
  have hmb : mb ∈ bp := by rw [hI.pages.bpe]; simp
  have HI := Lib.hid hI
  have HB := Lib.hid hbs
  have HOK := Lib.hid hok
  have HOLD := Lib.hid hold
  have HPS := Lib.hid hps
  have HGET := Lib.hid hget
  have HBN : Hid (∀ b ∈ mb :: (A.map (·.block)).toList, b ∈ bp) := Lib.hid (fun b hb => by
    simp only [List.mem_cons, Option.mem_toList, Option.map_eq_some_iff] at hb
    rcases hb with rfl | ⟨a, e, rfl⟩
    · exact hmb
    · exact hAb a e)
  have HDN : Hid (d ∉ mb :: (A.map (·.block)).toList) := Lib.hid (fun h => HI.out.bp_ne _ (HBN.out _ h) rfl)
  have HJN : Hid (j ∉ mb :: (A.map (·.block)).toList) := Lib.hid (fun h => hj (by rw [HB.out]; simp [HBN.out _ h]))
  clear hI hbs hok hJ hj hold hps hget hAb hmb hs
  go_enter Try.func49, Try.ntmps49
  go_wp2_with fail
  refine Reg.wp_region_box (R := (Reg.extB w.heap.size (mb :: (A.map (·.block)).toList))) (W := w) (Reg.LineJ (Reg.Line.mk [22, 28, 29] 27 (Wri.S (Wri.mk w.heap.size mb nm es k A n c ps p)))) [Reg.eqv (.pointer (some ⟨j, 0, none⟩)), Reg.eqv (.pointer (some ⟨j, 0, none⟩)), Reg.eqv (.pointer (some ⟨j, 0, none⟩)), Reg.eqv (.pointer (some ⟨d, 0, none⟩)), Reg.eqv (.pointer (some ⟨d, 0, none⟩)), Reg.eqv (.pointer (some ⟨d, 1, none⟩)), Reg.eqv (.map (some mb)), Reg.eqv (.pointer (some ⟨j, 0, none⟩)), Reg.eqv (.pointer (some ⟨j, 0, none⟩)), Reg.eqv (.pointer (some ⟨j, 1, none⟩)), Reg.eqv (.int .i64 ((k : Int))), Reg.eqv (.pointer (some ⟨j, 0, none⟩)), Reg.eqv (.pointer (some ⟨j, 0, none⟩)), Reg.eqv (.pointer (some ⟨j, 0, none⟩)), Reg.eqv (.pointer (some ⟨d, 0, none⟩)), Reg.eqv (.pointer (some ⟨d, 0, none⟩)), Reg.eqv (.pointer (some ⟨d, 1, none⟩)), Reg.eqv (.map (some mb)), Reg.eqv (.pointer (some ⟨j, 0, none⟩)), Reg.eqv (.pointer (some ⟨j, 0, none⟩)), Reg.eqv (.pointer (some ⟨j, 1, none⟩)), Reg.eqv (.int .i64 ((k : Int))), Reg.any, Reg.eqv (.pointer (some ⟨j, 0, none⟩)), Reg.eqv (.pointer (some ⟨j, 0, none⟩)), Reg.eqv (.pointer (some ⟨j, 2, none⟩)), Reg.eqv (.agg (rowV p)), Reg.any, Reg.any, Reg.any] 31 [[(0, none)], [(2, some 0)], [(3, some 1)], [(4, some 2)], [(5, some 3)], [(6, some 4)], [(7, some 5)], [(0, none)], [(9, some 7)], [(10, some 8)], [(11, some 9)], [(0, none)], [(13, some 11)], [(14, some 12)], [(15, some 13)], [(16, some 14)], [(17, some 15)], [(18, some 16)], [(0, none)], [(20, some 18)], [(21, some 19)], [(22, some 20)], [(19, some 17), (23, some 21)], [(0, none)], [(25, some 23)], [(26, some 24)], [(27, some 25)], [(28, some 26)], [(24, some 22), (29, some 27)], [(8, some 6), (12, some 10), (30, some 28)]] rfl (by kernel_rfl) (by kernel_rfl) (fun _ h => Reg.line_zero (l := (Reg.Line.mk [22, 28, 29] 27 (Wri.S (Wri.mk w.heap.size mb nm es k A n c ps p)))) ⟨HI.out.pages.map.at_ rfl, HPS.out.next ((bsame w).drew), fun e => by cases e⟩ h) (by kernel_rfl) ?_ [some 2, some 3, some 4, some 5, some 6, some 7, some 8, some 9, some 10, some 11, some 12, some 13, some 14, some 15, some 16, some 17, some 18, some 19, some 20, some 21, some 22, some 23, some 24, some 25, some 26, some 27, some 28, some 29, some 30, none] (by kernel_rfl) ?_
  · refine ⟨?_, ?_, ?_, ?_, ?_, ?_, ?_, ?_, ?_, ?_, ?_, ?_, ?_, ?_, ?_, ?_, ?_, ?_, ?_, ?_, ?_, ?_, ?_, ?_, ?_, ?_, ?_, ?_, ?_, ?_, trivial⟩
    · refine Reg.oblL_ord (l := (Reg.Line.mk [22, 28, 29] 27 (Wri.S (Wri.mk w.heap.size mb nm es k A n c ps p)))) (by show 0 ∉ [22, 28, 29] ∧ 0 ≠ 27; decide) (Reg.extB_next rfl) (fun k1 b1 a1 w1 v1 w2 h1 h2 => Wri.S_put (I := (Wri.mk w.heap.size mb nm es k A n c ps p)) (b := b1) (dst := (some 2)) (by decide) k1 h1 h2) ?_
      intro ax wx hx hs
      obtain ⟨e0, -⟩ := hs
      have g0 := Reg.ev (v := .pointer (some ⟨j, 0, none⟩)) e0
      exact Reg.obl_freeL rfl (Reg.wp_eqvB (Option.some_ne_none _) (by go_simp) rfl)
    · refine Reg.oblL_ord (l := (Reg.Line.mk [22, 28, 29] 27 (Wri.S (Wri.mk w.heap.size mb nm es k A n c ps p)))) (by show 1 ∉ [22, 28, 29] ∧ 1 ≠ 27; decide) (Reg.extB_next rfl) (fun k1 b1 a1 w1 v1 w2 h1 h2 => Wri.S_put (I := (Wri.mk w.heap.size mb nm es k A n c ps p)) (b := b1) (dst := (some 3)) (by decide) k1 h1 h2) ?_
      intro ax wx hx hs
      obtain ⟨e2, -⟩ := hs
      have g2 := Reg.ev (v := .pointer (some ⟨j, 0, none⟩)) e2
      exact Reg.obl_freeL rfl (Reg.wp_eqvB (Option.some_ne_none _) (by go_simp) rfl)
    · refine Reg.oblL_ord (l := (Reg.Line.mk [22, 28, 29] 27 (Wri.S (Wri.mk w.heap.size mb nm es k A n c ps p)))) (by show 2 ∉ [22, 28, 29] ∧ 2 ≠ 27; decide) (Reg.extB_next rfl) (fun k1 b1 a1 w1 v1 w2 h1 h2 => Wri.S_put (I := (Wri.mk w.heap.size mb nm es k A n c ps p)) (b := b1) (dst := (some 4)) (by decide) k1 h1 h2) ?_
      intro ax wx hx hs
      obtain ⟨e3, -⟩ := hs
      have g3 := Reg.ev (v := .pointer (some ⟨j, 0, none⟩)) e3
      exact Reg.obl_freeL rfl (Reg.wp_eqvB (Option.some_ne_none _) (by go_simp) rfl)
    · refine Reg.oblL_ord (l := (Reg.Line.mk [22, 28, 29] 27 (Wri.S (Wri.mk w.heap.size mb nm es k A n c ps p)))) (by show 3 ∉ [22, 28, 29] ∧ 3 ≠ 27; decide) (Reg.extB_next rfl) (fun k1 b1 a1 w1 v1 w2 h1 h2 => Wri.S_put (I := (Wri.mk w.heap.size mb nm es k A n c ps p)) (b := b1) (dst := (some 5)) (by decide) k1 h1 h2) ?_
      intro ax wx hx hs
      obtain ⟨e4, -⟩ := hs
      have g4 := Reg.ev (v := .pointer (some ⟨j, 0, none⟩)) e4
      have hjx := Reg.KeepB.str hx HJ.out (by omega) HJN.out
      have l0 := str10 (Reg.KeepB.str hx HI.out.box (by omega) HDN.out)
      have l1 := job3 hjx hp
      exact Reg.obl_freeL rfl (Reg.wp_eqvB (Option.some_ne_none _) (by go_simp) rfl)
    · refine Reg.oblL_ord (l := (Reg.Line.mk [22, 28, 29] 27 (Wri.S (Wri.mk w.heap.size mb nm es k A n c ps p)))) (by show 4 ∉ [22, 28, 29] ∧ 4 ≠ 27; decide) (Reg.extB_next rfl) (fun k1 b1 a1 w1 v1 w2 h1 h2 => Wri.S_put (I := (Wri.mk w.heap.size mb nm es k A n c ps p)) (b := b1) (dst := (some 6)) (by decide) k1 h1 h2) ?_
      intro ax wx hx hs
      obtain ⟨e5, -⟩ := hs
      have g5 := Reg.ev (v := .pointer (some ⟨d, 0, none⟩)) e5
      exact Reg.obl_freeL rfl (Reg.wp_eqvB (Option.some_ne_none _) (by go_simp) rfl)
    · refine Reg.oblL_ord (l := (Reg.Line.mk [22, 28, 29] 27 (Wri.S (Wri.mk w.heap.size mb nm es k A n c ps p)))) (by show 5 ∉ [22, 28, 29] ∧ 5 ≠ 27; decide) (Reg.extB_next rfl) (fun k1 b1 a1 w1 v1 w2 h1 h2 => Wri.S_put (I := (Wri.mk w.heap.size mb nm es k A n c ps p)) (b := b1) (dst := (some 7)) (by decide) k1 h1 h2) ?_
      intro ax wx hx hs
      obtain ⟨e6, -⟩ := hs
      have g6 := Reg.ev (v := .pointer (some ⟨d, 0, none⟩)) e6
      exact Reg.obl_freeL rfl (Reg.wp_eqvB (Option.some_ne_none _) (by go_simp) rfl)
    · refine Reg.oblL_ord (l := (Reg.Line.mk [22, 28, 29] 27 (Wri.S (Wri.mk w.heap.size mb nm es k A n c ps p)))) (by show 6 ∉ [22, 28, 29] ∧ 6 ≠ 27; decide) (Reg.extB_next rfl) (fun k1 b1 a1 w1 v1 w2 h1 h2 => Wri.S_put (I := (Wri.mk w.heap.size mb nm es k A n c ps p)) (b := b1) (dst := (some 8)) (by decide) k1 h1 h2) ?_
      intro ax wx hx hs
      obtain ⟨e7, -⟩ := hs
      have g7 := Reg.ev (v := .pointer (some ⟨d, 1, none⟩)) e7
      have hjx := Reg.KeepB.str hx HJ.out (by omega) HJN.out
      have l0 := str10 (Reg.KeepB.str hx HI.out.box (by omega) HDN.out)
      have l1 := job3 hjx hp
      exact Reg.obl_freeL rfl (Reg.wp_eqvB (Option.some_ne_none _) (by go_simp) rfl)
    · refine Reg.oblL_ord (l := (Reg.Line.mk [22, 28, 29] 27 (Wri.S (Wri.mk w.heap.size mb nm es k A n c ps p)))) (by show 7 ∉ [22, 28, 29] ∧ 7 ≠ 27; decide) (Reg.extB_next rfl) (fun k1 b1 a1 w1 v1 w2 h1 h2 => Wri.S_put (I := (Wri.mk w.heap.size mb nm es k A n c ps p)) (b := b1) (dst := (some 9)) (by decide) k1 h1 h2) ?_
      intro ax wx hx hs
      obtain ⟨e0, -⟩ := hs
      have g0 := Reg.ev (v := .pointer (some ⟨j, 0, none⟩)) e0
      exact Reg.obl_freeL rfl (Reg.wp_eqvB (Option.some_ne_none _) (by go_simp) rfl)
    · refine Reg.oblL_ord (l := (Reg.Line.mk [22, 28, 29] 27 (Wri.S (Wri.mk w.heap.size mb nm es k A n c ps p)))) (by show 8 ∉ [22, 28, 29] ∧ 8 ≠ 27; decide) (Reg.extB_next rfl) (fun k1 b1 a1 w1 v1 w2 h1 h2 => Wri.S_put (I := (Wri.mk w.heap.size mb nm es k A n c ps p)) (b := b1) (dst := (some 10)) (by decide) k1 h1 h2) ?_
      intro ax wx hx hs
      obtain ⟨e9, -⟩ := hs
      have g9 := Reg.ev (v := .pointer (some ⟨j, 0, none⟩)) e9
      exact Reg.obl_freeL rfl (Reg.wp_eqvB (Option.some_ne_none _) (by go_simp) rfl)
    · refine Reg.oblL_ord (l := (Reg.Line.mk [22, 28, 29] 27 (Wri.S (Wri.mk w.heap.size mb nm es k A n c ps p)))) (by show 9 ∉ [22, 28, 29] ∧ 9 ≠ 27; decide) (Reg.extB_next rfl) (fun k1 b1 a1 w1 v1 w2 h1 h2 => Wri.S_put (I := (Wri.mk w.heap.size mb nm es k A n c ps p)) (b := b1) (dst := (some 11)) (by decide) k1 h1 h2) ?_
      intro ax wx hx hs
      obtain ⟨e10, -⟩ := hs
      have g10 := Reg.ev (v := .pointer (some ⟨j, 0, none⟩)) e10
      exact Reg.obl_freeL rfl (Reg.wp_eqvB (Option.some_ne_none _) (by go_simp) rfl)
    · refine Reg.oblL_ord (l := (Reg.Line.mk [22, 28, 29] 27 (Wri.S (Wri.mk w.heap.size mb nm es k A n c ps p)))) (by show 10 ∉ [22, 28, 29] ∧ 10 ≠ 27; decide) (Reg.extB_next rfl) (fun k1 b1 a1 w1 v1 w2 h1 h2 => Wri.S_put (I := (Wri.mk w.heap.size mb nm es k A n c ps p)) (b := b1) (dst := (some 12)) (by decide) k1 h1 h2) ?_
      intro ax wx hx hs
      obtain ⟨e11, -⟩ := hs
      have g11 := Reg.ev (v := .pointer (some ⟨j, 1, none⟩)) e11
      have hjx := Reg.KeepB.str hx HJ.out (by omega) HJN.out
      have l0 := str10 (Reg.KeepB.str hx HI.out.box (by omega) HDN.out)
      have l1 := job3 hjx hp
      exact Reg.obl_freeL rfl (Reg.wp_eqvB (Option.some_ne_none _) (by go_simp) rfl)
    · refine Reg.oblL_ord (l := (Reg.Line.mk [22, 28, 29] 27 (Wri.S (Wri.mk w.heap.size mb nm es k A n c ps p)))) (by show 11 ∉ [22, 28, 29] ∧ 11 ≠ 27; decide) (Reg.extB_next rfl) (fun k1 b1 a1 w1 v1 w2 h1 h2 => Wri.S_put (I := (Wri.mk w.heap.size mb nm es k A n c ps p)) (b := b1) (dst := (some 13)) (by decide) k1 h1 h2) ?_
      intro ax wx hx hs
      obtain ⟨e0, -⟩ := hs
      have g0 := Reg.ev (v := .pointer (some ⟨j, 0, none⟩)) e0
      exact Reg.obl_freeL rfl (Reg.wp_eqvB (Option.some_ne_none _) (by go_simp) rfl)
    · refine Reg.oblL_ord (l := (Reg.Line.mk [22, 28, 29] 27 (Wri.S (Wri.mk w.heap.size mb nm es k A n c ps p)))) (by show 12 ∉ [22, 28, 29] ∧ 12 ≠ 27; decide) (Reg.extB_next rfl) (fun k1 b1 a1 w1 v1 w2 h1 h2 => Wri.S_put (I := (Wri.mk w.heap.size mb nm es k A n c ps p)) (b := b1) (dst := (some 14)) (by decide) k1 h1 h2) ?_
      intro ax wx hx hs
      obtain ⟨e13, -⟩ := hs
      have g13 := Reg.ev (v := .pointer (some ⟨j, 0, none⟩)) e13
      exact Reg.obl_freeL rfl (Reg.wp_eqvB (Option.some_ne_none _) (by go_simp) rfl)
    · refine Reg.oblL_ord (l := (Reg.Line.mk [22, 28, 29] 27 (Wri.S (Wri.mk w.heap.size mb nm es k A n c ps p)))) (by show 13 ∉ [22, 28, 29] ∧ 13 ≠ 27; decide) (Reg.extB_next rfl) (fun k1 b1 a1 w1 v1 w2 h1 h2 => Wri.S_put (I := (Wri.mk w.heap.size mb nm es k A n c ps p)) (b := b1) (dst := (some 15)) (by decide) k1 h1 h2) ?_
      intro ax wx hx hs
      obtain ⟨e14, -⟩ := hs
      have g14 := Reg.ev (v := .pointer (some ⟨j, 0, none⟩)) e14
      exact Reg.obl_freeL rfl (Reg.wp_eqvB (Option.some_ne_none _) (by go_simp) rfl)
    · refine Reg.oblL_ord (l := (Reg.Line.mk [22, 28, 29] 27 (Wri.S (Wri.mk w.heap.size mb nm es k A n c ps p)))) (by show 14 ∉ [22, 28, 29] ∧ 14 ≠ 27; decide) (Reg.extB_next rfl) (fun k1 b1 a1 w1 v1 w2 h1 h2 => Wri.S_put (I := (Wri.mk w.heap.size mb nm es k A n c ps p)) (b := b1) (dst := (some 16)) (by decide) k1 h1 h2) ?_
      intro ax wx hx hs
      obtain ⟨e15, -⟩ := hs
      have g15 := Reg.ev (v := .pointer (some ⟨j, 0, none⟩)) e15
      have hjx := Reg.KeepB.str hx HJ.out (by omega) HJN.out
      have l0 := str10 (Reg.KeepB.str hx HI.out.box (by omega) HDN.out)
      have l1 := job3 hjx hp
      exact Reg.obl_freeL rfl (Reg.wp_eqvB (Option.some_ne_none _) (by go_simp) rfl)
    · refine Reg.oblL_ord (l := (Reg.Line.mk [22, 28, 29] 27 (Wri.S (Wri.mk w.heap.size mb nm es k A n c ps p)))) (by show 15 ∉ [22, 28, 29] ∧ 15 ≠ 27; decide) (Reg.extB_next rfl) (fun k1 b1 a1 w1 v1 w2 h1 h2 => Wri.S_put (I := (Wri.mk w.heap.size mb nm es k A n c ps p)) (b := b1) (dst := (some 17)) (by decide) k1 h1 h2) ?_
      intro ax wx hx hs
      obtain ⟨e16, -⟩ := hs
      have g16 := Reg.ev (v := .pointer (some ⟨d, 0, none⟩)) e16
      exact Reg.obl_freeL rfl (Reg.wp_eqvB (Option.some_ne_none _) (by go_simp) rfl)
    · refine Reg.oblL_ord (l := (Reg.Line.mk [22, 28, 29] 27 (Wri.S (Wri.mk w.heap.size mb nm es k A n c ps p)))) (by show 16 ∉ [22, 28, 29] ∧ 16 ≠ 27; decide) (Reg.extB_next rfl) (fun k1 b1 a1 w1 v1 w2 h1 h2 => Wri.S_put (I := (Wri.mk w.heap.size mb nm es k A n c ps p)) (b := b1) (dst := (some 18)) (by decide) k1 h1 h2) ?_
      intro ax wx hx hs
      obtain ⟨e17, -⟩ := hs
      have g17 := Reg.ev (v := .pointer (some ⟨d, 0, none⟩)) e17
      exact Reg.obl_freeL rfl (Reg.wp_eqvB (Option.some_ne_none _) (by go_simp) rfl)
    · refine Reg.oblL_ord (l := (Reg.Line.mk [22, 28, 29] 27 (Wri.S (Wri.mk w.heap.size mb nm es k A n c ps p)))) (by show 17 ∉ [22, 28, 29] ∧ 17 ≠ 27; decide) (Reg.extB_next rfl) (fun k1 b1 a1 w1 v1 w2 h1 h2 => Wri.S_put (I := (Wri.mk w.heap.size mb nm es k A n c ps p)) (b := b1) (dst := (some 19)) (by decide) k1 h1 h2) ?_
      intro ax wx hx hs
      obtain ⟨e18, -⟩ := hs
      have g18 := Reg.ev (v := .pointer (some ⟨d, 1, none⟩)) e18
      have hjx := Reg.KeepB.str hx HJ.out (by omega) HJN.out
      have l0 := str10 (Reg.KeepB.str hx HI.out.box (by omega) HDN.out)
      have l1 := job3 hjx hp
      exact Reg.obl_freeL rfl (Reg.wp_eqvB (Option.some_ne_none _) (by go_simp) rfl)
    · refine Reg.oblL_ord (l := (Reg.Line.mk [22, 28, 29] 27 (Wri.S (Wri.mk w.heap.size mb nm es k A n c ps p)))) (by show 18 ∉ [22, 28, 29] ∧ 18 ≠ 27; decide) (Reg.extB_next rfl) (fun k1 b1 a1 w1 v1 w2 h1 h2 => Wri.S_put (I := (Wri.mk w.heap.size mb nm es k A n c ps p)) (b := b1) (dst := (some 20)) (by decide) k1 h1 h2) ?_
      intro ax wx hx hs
      obtain ⟨e0, -⟩ := hs
      have g0 := Reg.ev (v := .pointer (some ⟨j, 0, none⟩)) e0
      exact Reg.obl_freeL rfl (Reg.wp_eqvB (Option.some_ne_none _) (by go_simp) rfl)
    · refine Reg.oblL_ord (l := (Reg.Line.mk [22, 28, 29] 27 (Wri.S (Wri.mk w.heap.size mb nm es k A n c ps p)))) (by show 19 ∉ [22, 28, 29] ∧ 19 ≠ 27; decide) (Reg.extB_next rfl) (fun k1 b1 a1 w1 v1 w2 h1 h2 => Wri.S_put (I := (Wri.mk w.heap.size mb nm es k A n c ps p)) (b := b1) (dst := (some 21)) (by decide) k1 h1 h2) ?_
      intro ax wx hx hs
      obtain ⟨e20, -⟩ := hs
      have g20 := Reg.ev (v := .pointer (some ⟨j, 0, none⟩)) e20
      exact Reg.obl_freeL rfl (Reg.wp_eqvB (Option.some_ne_none _) (by go_simp) rfl)
    · refine Reg.oblL_ord (l := (Reg.Line.mk [22, 28, 29] 27 (Wri.S (Wri.mk w.heap.size mb nm es k A n c ps p)))) (by show 20 ∉ [22, 28, 29] ∧ 20 ≠ 27; decide) (Reg.extB_next rfl) (fun k1 b1 a1 w1 v1 w2 h1 h2 => Wri.S_put (I := (Wri.mk w.heap.size mb nm es k A n c ps p)) (b := b1) (dst := (some 22)) (by decide) k1 h1 h2) ?_
      intro ax wx hx hs
      obtain ⟨e21, -⟩ := hs
      have g21 := Reg.ev (v := .pointer (some ⟨j, 0, none⟩)) e21
      exact Reg.obl_freeL rfl (Reg.wp_eqvB (Option.some_ne_none _) (by go_simp) rfl)
    · refine Reg.oblL_ord (l := (Reg.Line.mk [22, 28, 29] 27 (Wri.S (Wri.mk w.heap.size mb nm es k A n c ps p)))) (by show 21 ∉ [22, 28, 29] ∧ 21 ≠ 27; decide) (Reg.extB_next rfl) (fun k1 b1 a1 w1 v1 w2 h1 h2 => Wri.S_put (I := (Wri.mk w.heap.size mb nm es k A n c ps p)) (b := b1) (dst := (some 23)) (by decide) k1 h1 h2) ?_
      intro ax wx hx hs
      obtain ⟨e22, -⟩ := hs
      have g22 := Reg.ev (v := .pointer (some ⟨j, 1, none⟩)) e22
      have hjx := Reg.KeepB.str hx HJ.out (by omega) HJN.out
      have l0 := str10 (Reg.KeepB.str hx HI.out.box (by omega) HDN.out)
      have l1 := job3 hjx hp
      exact Reg.obl_freeL rfl (Reg.wp_eqvB (Option.some_ne_none _) (by go_simp) rfl)
    · refine Reg.oblL_line (l := (Reg.Line.mk [22, 28, 29] 27 (Wri.S (Wri.mk w.heap.size mb nm es k A n c ps p)))) (k := 0) rfl rfl (by show List.Nodup [22, 28, 29]; decide) (by show 22 ≠ 27; decide) (by show 22 < 30; decide) (.inl rfl) ?_
      intro b ax wx hx hs has hwb hS
      obtain ⟨e19, e23, -⟩ := hs
      have g19 := Reg.ev (v := .map (some mb)) e19
      have g23 := Reg.ev (v := .int .i64 ((k : Int))) e23
      have hxs : w.heap.size ≤ wx.heap.size := Reg.KeepB.size hx
      have hlk := look_at hS.1 hk2
      rw [HGET.out] at hlk
      refine Oper.wp_mono (K := fun a1 w1 => a1 = ax.put (some 24) (.slice A n c) ∧ w1 = wx) ?_ ?_
      · rintro a1 w1 ⟨rfl, rfl⟩
        exact ⟨⟨_, rfl, (fun h => by cases h), trivial, Reg.KeepB.of (Below.refl _ _)⟩, Wri.S_zero (I := (Wri.mk w.heap.size mb nm es k A n c ps p)) (b := b) hS (by rw [has]; show 24 < 31; decide)⟩
      · clear has hS
        go_simp
    · refine Reg.oblL_ord (l := (Reg.Line.mk [22, 28, 29] 27 (Wri.S (Wri.mk w.heap.size mb nm es k A n c ps p)))) (by show 23 ∉ [22, 28, 29] ∧ 23 ≠ 27; decide) (Reg.extB_next rfl) (fun k1 b1 a1 w1 v1 w2 h1 h2 => Wri.S_put (I := (Wri.mk w.heap.size mb nm es k A n c ps p)) (b := b1) (dst := (some 25)) (by decide) k1 h1 h2) ?_
      intro ax wx hx hs
      obtain ⟨e0, -⟩ := hs
      have g0 := Reg.ev (v := .pointer (some ⟨j, 0, none⟩)) e0
      exact Reg.obl_freeL rfl (Reg.wp_eqvB (Option.some_ne_none _) (by go_simp) rfl)
    · refine Reg.oblL_ord (l := (Reg.Line.mk [22, 28, 29] 27 (Wri.S (Wri.mk w.heap.size mb nm es k A n c ps p)))) (by show 24 ∉ [22, 28, 29] ∧ 24 ≠ 27; decide) (Reg.extB_next rfl) (fun k1 b1 a1 w1 v1 w2 h1 h2 => Wri.S_put (I := (Wri.mk w.heap.size mb nm es k A n c ps p)) (b := b1) (dst := (some 26)) (by decide) k1 h1 h2) ?_
      intro ax wx hx hs
      obtain ⟨e25, -⟩ := hs
      have g25 := Reg.ev (v := .pointer (some ⟨j, 0, none⟩)) e25
      exact Reg.obl_freeL rfl (Reg.wp_eqvB (Option.some_ne_none _) (by go_simp) rfl)
    · refine Reg.oblL_ord (l := (Reg.Line.mk [22, 28, 29] 27 (Wri.S (Wri.mk w.heap.size mb nm es k A n c ps p)))) (by show 25 ∉ [22, 28, 29] ∧ 25 ≠ 27; decide) (Reg.extB_next rfl) (fun k1 b1 a1 w1 v1 w2 h1 h2 => Wri.S_put (I := (Wri.mk w.heap.size mb nm es k A n c ps p)) (b := b1) (dst := (some 27)) (by decide) k1 h1 h2) ?_
      intro ax wx hx hs
      obtain ⟨e26, -⟩ := hs
      have g26 := Reg.ev (v := .pointer (some ⟨j, 0, none⟩)) e26
      exact Reg.obl_freeL rfl (Reg.wp_eqvB (Option.some_ne_none _) (by go_simp) rfl)
    · refine Reg.oblL_ord (l := (Reg.Line.mk [22, 28, 29] 27 (Wri.S (Wri.mk w.heap.size mb nm es k A n c ps p)))) (by show 26 ∉ [22, 28, 29] ∧ 26 ≠ 27; decide) (Reg.extB_next rfl) (fun k1 b1 a1 w1 v1 w2 h1 h2 => Wri.S_put (I := (Wri.mk w.heap.size mb nm es k A n c ps p)) (b := b1) (dst := (some 28)) (by decide) k1 h1 h2) ?_
      intro ax wx hx hs
      obtain ⟨e27, -⟩ := hs
      have g27 := Reg.ev (v := .pointer (some ⟨j, 2, none⟩)) e27
      have hjx := Reg.KeepB.str hx HJ.out (by omega) HJN.out
      have l0 := str10 (Reg.KeepB.str hx HI.out.box (by omega) HDN.out)
      have l1 := job3 hjx hp
      refine Reg.obl_freeL rfl ?_
      have hld := job_load hjx hp
      exact Reg.wp_eqvB (Option.some_ne_none _) (by go_simp) rfl
    · refine Reg.oblL_side (l := (Reg.Line.mk [22, 28, 29] 27 (Wri.S (Wri.mk w.heap.size mb nm es k A n c ps p)))) rfl rfl (by show 27 ∉ [22, 28, 29]; decide) (by show 27 < 30; decide) ?_
      intro k1 ax wx hx hs has hS
      obtain ⟨e28, -⟩ := hs
      have g28 := Reg.ev (v := .agg (rowV p)) e28
      have hxs : w.heap.size ≤ wx.heap.size := Reg.KeepB.size hx
      have hbs := bs_page p hp wx
      refine Oper.wp_mono (K := fun a1 w1 => a1 = ax.put (some 29) (.slice (some ⟨wx.heap.size, 0, none⟩) 1 1) ∧ w1 = wx.alloc (.cells (rowV p) PT)) ?_ ?_
      · rintro a1 w1 ⟨rfl, rfl⟩
        exact ⟨⟨_, rfl, (fun h => by cases h), trivial, Reg.KeepB.of ((balloc (bsame wx) _).mono hxs)⟩, Wri.S_side (I := (Wri.mk w.heap.size mb nm es k A n c ps p)) k1 hS (by rw [has]; show 29 < 31; decide)⟩
      · clear has hS
        go_simp
    · refine Reg.oblL_line (l := (Reg.Line.mk [22, 28, 29] 27 (Wri.S (Wri.mk w.heap.size mb nm es k A n c ps p)))) (k := 1) rfl rfl (by show List.Nodup [22, 28, 29]; decide) (by show 28 ≠ 27; decide) (by show 28 < 30; decide) (.inr ⟨22, rfl, by kernel_rfl⟩) ?_
      intro b ax wx hx hs has hwb hS
      obtain ⟨e24, e29, -⟩ := hs
      have hxs : w.heap.size ≤ wx.heap.size := Reg.KeepB.size hx
      obtain rfl := hwb (by kernel_rfl)
      obtain ⟨A2, A', c', w4, k1, k1', k2, k3, k4⟩ := Wri.S_one (I := (Wri.mk w.heap.size mb nm es k A n c ps p)) hS (by rw [has]; show 30 < 31; decide) hxs hp (by show n ≤ _; omega)
      exact wp_appT (.tmp 24) (.tmp 29) rfl rfl k1 k1' k2 ⟨⟨_, rfl, (fun h => by cases h), trivial, k4⟩, k3⟩
    · refine Reg.oblL_line (l := (Reg.Line.mk [22, 28, 29] 27 (Wri.S (Wri.mk w.heap.size mb nm es k A n c ps p)))) (k := 2) rfl rfl (by show List.Nodup [22, 28, 29]; decide) (by show 29 ≠ 27; decide) (by show 29 < 30; decide) (.inr ⟨28, rfl, by kernel_rfl⟩) ?_
      intro b ax wx hx hs has hwb hS
      obtain ⟨e8, e12, e30, -⟩ := hs
      have g8 := Reg.ev (v := .map (some mb)) e8
      have g12 := Reg.ev (v := .int .i64 ((k : Int))) e12
      have hxs : w.heap.size ≤ wx.heap.size := Reg.KeepB.size hx
      obtain ⟨A', c', w4, k1, k2, k3, k4⟩ := Wri.S_two (I := (Wri.mk w.heap.size mb nm es k A n c ps p)) (b := b) hS hxs hk2 (by show nm ≤ _; omega)
      have g30 := Reg.ev k1
      refine Oper.wp_mono (K := fun a1 w1 => a1 = ax ∧ w1 = w4) ?_ ?_
      · rintro a1 w1 ⟨rfl, rfl⟩
        exact ⟨⟨undef, rfl, fun _ => rfl, trivial, k4⟩, k3⟩
      · clear has k3 hS k4
        go_simp
  · intro W1 listed hwf hall
    simp only [Reg.Fin]
    rintro _ rfl _ rfl _ rfl _ rfl _ rfl _ rfl _ rfl _ rfl _ rfl _ rfl _ rfl _ rfl _ rfl _ rfl _ rfl _ rfl _ rfl _ rfl _ rfl _ rfl _ rfl _ rfl v24 h24 _ rfl _ rfl _ rfl _ rfl v29 h29 v30 h30 vn29 hn29
    intro hJ
    obtain ⟨bL, hbL, hSL⟩ := Reg.line_end (l := (Reg.Line.mk [22, 28, 29] 27 (Wri.S (Wri.mk w.heap.size mb nm es k A n c ps p)))) (n := 30) hall (by show ∀ c ∈ [22, 28, 29], c < 30; decide) hJ
    clear hJ hall hbL
    go_simp
    obtain ⟨g, c', ⟨hr1, hr2⟩, hm1⟩ := hSL
    dsimp only at hr1 hr2 hm1
    have hk1 : Reg.KeepB w.heap.size (mb :: (A.map (·.block)).toList) w W1 := hwf
    have HK1 := Lib.hid hk1
    have HR1 := Lib.hid hr1
    have HR2 := Lib.hid hr2
    have HM1 := Lib.hid hm1
    clear hwf hk1 hr1 hr2 hm1
    go_wp2
    go_end0
    have ho := HOK.out
    have hin := HI.out
    obtain ⟨bp', hp', hn'⟩ := hin.pages.wrote (k := k) (p := p) (ps := ps) ho.nl hk HOLD.out HR1.out HR2.out HM1.out (fun b hb h1 h2 => HK1.out.block b (hin.pages.lt b hb) (by
      simp only [List.mem_cons, Option.mem_toList, Option.map_eq_some_iff, not_or, not_exists, not_and]
      exact ⟨h1, h2⟩))
    have hdW : W1.heap[d]? = w.heap[d]? := HK1.out.block d hin.box.lt HDN.out
    have hgn : ∀ x, gb = some x → x ∉ mb :: (A.map (·.block)).toList := fun x e h => by
      have h1 := hin.nd
      simp only [List.nodup_cons, List.nodup_append, List.mem_append] at h1
      exact h1.2.2.2 x (by simp [e]) x (HBN.out _ h) rfl
    have hbox : Str W1 d (devC X.safe.length sb mb A0 n0 c0 (DevP.wrote X k p)) := by
      obtain ⟨t, ht⟩ := hin.box
      exact ⟨t, hdW.trans ht⟩
    have hlog := hin.log.at_ (w' := W1) (fun x e => HK1.out.block x (hin.log.lt x e) (hgn x e))
    have hnd : (d :: (gb.toList ++ bp')).Nodup := by
      have h1 := hin.nd
      simp only [List.nodup_cons, List.nodup_append, List.mem_append, not_or] at h1 ⊢
      refine ⟨⟨h1.1.1, fun h => ?_⟩, h1.2.1, hp'.nd, fun x hx y hy e => ?_⟩
      · rcases hn' d h with h | h
        · exact h1.1.2 h
        · have := hin.box.lt; omega
      · subst e
        rcases hn' x hy with h | h
        · exact h1.2.2.2 x hx x h rfl
        · have := hin.log.lt x (by simpa using hx); omega
    have hok2 : DevP.Ok (DevP.wrote X k p) := ⟨ho.n0, ho.n1, by show (X.now.set k p).length = _; rw [List.length_set]; exact ho.nl, ho.h0, ho.s0, ho.s1, ho.t0, ho.t1, ho.o0, ho.f0, ho.f1, ho.w0, fun q hq => by
      rcases List.mem_or_eq_of_mem_set hq with h | h
      · exact ho.w1 q h
      · rw [h]; exact hp⟩
    refine ⟨rfl, _, ⟨sb, mb, bp', gb, A0, n0, c0, nm + 1, _, ⟨hbox, hp', hlog, hnd, hok2⟩, rfl⟩, HK1.out.more (fun b hb => by rw [HB.out]; simp [HBN.out b hb]), fun b hb => ?_, trivial⟩
    rw [HB.out]
    simp only [List.mem_cons, List.mem_append] at hb ⊢
    rcases hb with rfl | hb | hb
    · exact .inl (.inl rfl)
    · exact .inl (.inr (.inl hb))
    · exact (hn' b hb).imp (fun h => .inr (.inr h)) id
end Go.Proofs.Ytldgdgfplgdipaa.DevW
namespace Go.Proofs.Ytldgdgfplgdipaa.DevW
open Go.RowKit Go.Maps
set_option linter.unusedVariables false
set_option linter.unusedSimpArgs false
variable {d sb mb : Nat} {bp bs : List Nat} {gb : Option Nat} {A : Option Addr} {n c nm : Nat} {es : List (Int × SlV)} {X : DevX}
attribute [local go_sem ↓] ldPage_fold stPage_fold bdPage_fold alPage_fold alJob_fold bdJob_fold stJob_fold
set_option maxRecDepth 100000 in
set_option maxHeartbeats 1000000 in
theorem Write_any (no : Int) (p : List UInt8) (hp : p.length = 512) (w : World) (hD : Dev w d bs X) (hs : DevP.Small X) :
    Calls Try.prog 28 #[.pointer (some ⟨d, 0, none⟩), .int .i64 no, .agg (rowV p)] w (Told w d bs (DevP.op X (decide (0 ≤ no) && decide (no < (X.safe.length : Nat))) (DevP.wrote X no.toNat p)) (.int .i64 (DevP.err X (decide (0 ≤ no) && decide (no < (X.safe.length : Nat)))))) := by
  have hmf : ∀ (fn : Fn) (first cap : Array Value) (w : World), (Instr.makeFunc fn first cap).run Try.prog w = .ok (.func fn first cap) w := fun _ _ _ _ => rfl
  have hld := run_ld (P := Try.prog) arrPage (Str.new w (rowV p) 30) hp
  have hal := job_al
  have hbd := fun W => job_bdP d no p hp W
  have hsz0 : (w.alloc (.cells (rowV p) 30)).heap.size = w.heap.size + 1 := by simp
  have hst := job_st (d := d) (n := no) (l := p) (A := none) (m := 0) (c := 0) (Str.new (w.alloc (.cells (rowV p) 30)) jobZ 67) hp
  rw [hsz0] at hst
  obtain ⟨W1, hW1⟩ : ∃ W, ((w.alloc (.cells (rowV p) 30)).alloc (.cells jobZ 67)).setRow (w.heap.size + 1) (jobC d no p (.slice none 0 0)) = W := ⟨_, rfl⟩
  rw [hW1] at hst
  have hJ1 : Str W1 (w.heap.size + 1) (jobC d no p (.slice none 0 0)) := by rw [← hW1, ← hsz0]; exact (Str.new _ _ _).setRow
  have hb1 : Below w.heap.size w W1 := by rw [← hW1]; exact below_setRow (balloc (balloc (bsame _) _) _) (by omega) _
  have hD1 := hD.below hb1
  have hj : w.heap.size + 1 ∉ bs := fun hm => by have := hD.lt _ hm; omega
  have HJ1 := Lib.hid hJ1
  have HB1 := Lib.hid hb1
  have HD1 := Lib.hid hD1
  have HJN := Lib.hid hj
  clear hW1 hJ1 hb1 hD1 hj hsz0
  obtain ⟨fits, hfits⟩ : ∃ f, (decide (0 ≤ no) && decide (no < (X.safe.length : Nat))) = f := ⟨_, rfl⟩
  rw [hfits]
  have HFI := Lib.hid hfits
  clear hfits
  go_enter Try.func28, Try.ntmps28
  go_wp2_with fail
  refine (has_any no W1 HD1.out).mono ?_
  rintro e W2 ⟨rfl, hb2⟩
  rw [HFI.out]
  have hd2 := HD1.out.below hb2
  have hJ2 := HJ1.out.next hb2
  have hjl := hJ2.lt
  have hb3 := bstep HB1.out hb2
  clear hst hbd hal hld hb2
  go_wp2_with fail
  refine (do_any 49 #[.pointer (some ⟨w.heap.size + 1, 0, none⟩)] (fun _ => True) [] fits W2 (DevP.wrote X no.toNat p) hd2 hs.1 (by simp) (fun _ _ _ _ => trivial) rfl rfl rfl (fun _ => rfl) (fun hf W hb => ?_)).mono ?_
  · subst hf
    have hf := HFI.out
    simp only [Bool.and_eq_true, decide_eq_true_eq] at hf
    obtain ⟨k, rfl⟩ : ∃ k : Nat, no = (k : Int) := ⟨no.toNat, by omega⟩
    have hk : k < X.safe.length := by omega
    refine (write_act (w.heap.size + 1) k p (.slice none 0 0) W (hJ2.next hb) hp (hd2.below hb) hs HJN.out hk).mono ?_
    exact fun e w' h => h
  · rintro e w1 h
    have HT := Lib.hid (h.told hb3 (by simp))
    obtain ⟨rfl, -⟩ := h
    go_wp2
    go_ret
    exact HT.out
end Go.Proofs.Ytldgdgfplgdipaa.DevW
