/-
  Parts of the proof of WalStays.
-/
import Derived.Test.YtpdfnlhhnodnjaaGreatWsG27
import Derived.Test.YtpdfnlhhnodnjaaGreatWsG15
import Derived.Test.YtpdfnlhhnodnjaaGreatWsG28
import Derived.Test.YtpdfnlhhnodnjaaGreatWsG29
import Derived.Test.YtpdfnlhhnodnjaaGreatWsG16
section
namespace Go.Proofs.YtpdfnlhhnodnjaaGreat
open Go.RowKit Go.Maps
set_option linter.unusedVariables false
set_option linter.unusedSimpArgs false
theorem Bytes.keepE {w w' : World} {B n c : Nat} {b0 : List Nat} {A : Option Addr} {l : List UInt8} (h : Bytes w B A n c l) (hne : 0 < n → ∀ a, A = some a → a.block ∉ b0) (k : Reg.KeepB B b0 w w') : Bytes w' B A n c l :=
  ⟨h.1, h.2.1, h.2.2.1, fun hn => by
    obtain ⟨b, o, e, hb, hc⟩ := h.2.2.2 hn
    exact ⟨b, o, e, hb, fun j u hu => (k.cell (p := ⟨b, o + j, none⟩) hb (show b ∉ b0 from hne hn _ e)).trans (hc j u hu)⟩⟩
namespace DevW
/-- the parts of an append to the log -/
structure Add where
  N : Nat
  d : Nat
  box : Array Value
  gb : Option Nat
  A : Option Addr
  n : Nat
  c : Nat
  log : List UInt8
  m : Nat
  l2 : List UInt8
def Add.Row (I : Add) (w : World) (A' : Option Addr) (c' : Nat) : Prop := ∃ gb', OwnS w gb' A' (I.n + I.m) c' (I.log ++ I.l2) ∧ (gb' = I.gb ∨ ∃ g, gb' = some g ∧ I.N ≤ g)
def Add.S (I : Add) : Reg.LS := fun k b a w => match k with
  | 0 => Str w I.d I.box ∧ OwnS w I.gb I.A I.n I.c I.log
  | 1 => a.eval (.tmp 12) = .slice I.A I.n I.c ∧ Str w I.d I.box ∧ OwnS w I.gb I.A I.n I.c I.log
  | 2 => ∃ A' c', a.eval (.tmp 17) = .slice A' (I.n + I.m) c' ∧ Str w I.d I.box ∧ I.Row w A' c'
  | _ => ∃ A' c', Str w I.d (I.box.setIfInBounds 2 (.slice A' (I.n + I.m) c')) ∧ I.Row w A' c'
section
variable {I : Add} {a : Act} {w w' : World} {b : Bool} {dst : Option Tmp} {v : Value}
theorem Add.Row.next {A' : Option Addr} {c' : Nat} (h : I.Row w A' c') (hb : Below w.heap.size w w') : I.Row w' A' c' := by
  obtain ⟨gb', h1, h2⟩ := h
  exact ⟨gb', h1.next hb, h2⟩
theorem Add.S_put (hd : dst ≠ some 12 ∧ dst ≠ some 17) (k : Nat) (h : I.S k b a w) (hb : Below w.heap.size w w') : I.S k b (a.put dst v) w' := by
  match k, h with
  | 0, h => exact ⟨h.1.next hb, h.2.next hb⟩
  | 1, h => exact ⟨by rw [Reg.eval_ne hd.1]; exact h.1, h.2.1.next hb, h.2.2.next hb⟩
  | 2, h =>
    obtain ⟨A', c', h1, h2, h3⟩ := h
    exact ⟨A', c', by rw [Reg.eval_ne hd.2]; exact h1, h2.next hb, h3.next hb⟩
  | _ + 3, h =>
    obtain ⟨A', c', h2, h3⟩ := h
    exact ⟨A', c', h2.next hb, h3.next hb⟩
theorem Add.S_zero (h : I.S 0 b a w) (ha : 12 < a.tmps.size) : I.S 1 b (a.put (some 12) (.slice I.A I.n I.c)) w := ⟨Reg.eval_put_same ha, h.1, h.2⟩
theorem keep_gb {N d : Nat} {gb : Option Nat} (h : w.grownBy w' gb) (hN : N ≤ w.heap.size) : Reg.KeepB N (d :: gb.toList) w w' := by
  refine ⟨h.os, h.tape, h.output, h.size, fun i hi hn => h.block i (by omega) (fun e => hn ?_)⟩
  rw [← e]
  simp
theorem Add.S_one (h : I.S 1 b a w) (ha : 17 < a.tmps.size) (hN : I.N ≤ w.heap.size) (hg : I.gb ≠ some I.d) {B c2 : Nat} {A2 : Option Addr} (hy : Bytes w B A2 I.m c2 I.l2) (hn : I.n + I.m ≤ 140737488355328) :
    ∃ A' c' w', a.eval (.tmp 12) = .slice I.A I.n I.c ∧ (appSem #[32, 32] 32 #[.slice I.A I.n I.c, .slice A2 I.m c2]).run Tryz.prog w = .ok (.slice A' (I.n + I.m) c') w' ∧ I.S 2 b (a.put (some 17) (.slice A' (I.n + I.m) c')) w' ∧ Reg.KeepB I.N (I.d :: I.gb.toList) w w' := by
  obtain ⟨h1, h2, h3⟩ := h
  obtain ⟨A', c', w', gb', k1, k2, k3, k4⟩ := h3.app (P := Tryz.prog) 32 32 5 Tryz.underlying32 Be.infoU8 hy hn
  refine ⟨A', c', w', h1, k1, ⟨A', c', Reg.eval_put_same ha, ?_, gb', k2, ?_⟩, keep_gb k3 hN⟩
  · obtain ⟨t, ht⟩ := h2
    exact ⟨t, (k3.block I.d (Array.getElem?_eq_some_iff.1 ht).1 (fun e => hg e.symm)).trans ht⟩
  · exact k4.imp id fun e => ⟨_, e, hN⟩
theorem Add.S_two (h : I.S 2 b a w) (hg : I.gb ≠ some I.d) (hd : I.d < I.N) :
    ∃ A' c', a.eval (.tmp 17) = .slice A' (I.n + I.m) c' ∧ Str w I.d I.box ∧ I.S 3 b a (w.setCell ⟨I.d, 2, none⟩ (.slice A' (I.n + I.m) c')) := by
  obtain ⟨A', c', h1, h2, gb', h3, h4⟩ := h
  refine ⟨A', c', h1, h2, A', c', h2.set 2 _, gb', h3.grown (grown_set (grown_refl w _) 2 _) ?_, h4⟩
  intro e
  rcases h4 with h4 | ⟨g, h4, h5⟩
  · exact hg (h4.symm.trans e)
  · rw [h4] at e; cases e; omega
end
variable {d sb mb : Nat} {bp bs : List Nat} {gb : Option Nat} {A : Option Addr} {n c nm : Nat} {es : List (Int × SlV)} {X : DevX}
attribute [local go_sem ↓] app_fold alJob_fold bdJob_fold stJob_fold
set_option maxRecDepth 100000 in
set_option maxHeartbeats 1000000 in
theorem add_act (j : Nat) (at_ : Int) (l : List UInt8) (A2 : Option Addr) (m c2 B : Nat) (l2 : List UInt8) (w : World) (hJ : Str w j (jobC d at_ l (.slice A2 m c2))) (hll : l.length = 512) (hD : Dev w d bs X) (hs : DevP.Small X) (hj : j ∉ bs) (hy : Bytes w B A2 m c2 l2) (hB : B ≤ w.heap.size) (hA : 0 < m → ∀ a, A2 = some a → a.block ∉ bs) (hm : m ≤ 1000000000) :
    Calls Tryz.prog 46 #[.pointer (some ⟨j, 0, none⟩)] w (Acts w d bs [] { X with log := X.log ++ l2 } fun _ => True) := by
  have HJ := Lib.hid hJ
  have hjl := hJ.lt
  have HD := Lib.hid hD
  have hok := hD.ok
  obtain ⟨sb, mb, bp, gb, A, n, c, nm, es, hI, hbs⟩ := hD
  have hn := hI.log.len
  have hnc := hI.log.2.1
  have hcm := hI.log.2.2.1
  unfold maxLen at hcm
  have hl := hI.box.lt
  have hs1 := hs.1
  have hs2 := hs.2.1
  have hh0 := hok.h0
  have hu0 := hok.s0
  have hu1 := hok.s1
  have ht0 := hok.t0
  have ht1 := hok.t1
  have ho0 := hok.o0
  have HI := Lib.hid hI
  have HB := Lib.hid hbs
  have HOK := Lib.hid hok
  have HND := Lib.hid hI.nd
  clear hI hbs hs hok
  have HNN := Lib.hid hn
  have hnb : n ≤ 100000000000000 := by omega
  have HJN : Hid (j ∉ d :: gb.toList) := Lib.hid (fun h => hj (by rw [HB.out]; simp only [List.mem_cons, List.mem_append] at h ⊢; exact h.imp id .inl))
  have HAN : Hid (0 < m → ∀ a, A2 = some a → a.block ∉ d :: gb.toList) := Lib.hid (fun h0 a e h => hA h0 a e (by rw [HB.out]; simp only [List.mem_cons, List.mem_append] at h ⊢; exact h.imp id .inl))
  have HY := Lib.hid (hy.more hB)
  have hGD : gb ≠ some d := HI.out.gb_ne
  have HGD := Lib.hid hGD
  clear hJ hj hn hy hA hGD
  go_enter Tryz.func46, Tryz.ntmps46
  go_wp2_with fail
  refine Reg.wp_region_box (R := (Reg.extB w.heap.size (d :: gb.toList))) (W := w) (Reg.LineJ (Reg.Line.mk [10, 15, 18] 19 (Add.S (Add.mk w.heap.size d (devC X.safe.length sb mb A n c X) gb A n c X.log m l2)))) [Reg.eqv (.pointer (some ⟨j, 0, none⟩)), Reg.eqv (.pointer (some ⟨j, 0, none⟩)), Reg.eqv (.pointer (some ⟨j, 0, none⟩)), Reg.eqv (.pointer (some ⟨d, 0, none⟩)), Reg.eqv (.pointer (some ⟨j, 0, none⟩)), Reg.eqv (.pointer (some ⟨j, 0, none⟩)), Reg.eqv (.pointer (some ⟨j, 0, none⟩)), Reg.eqv (.pointer (some ⟨d, 0, none⟩)), Reg.eqv (.pointer (some ⟨d, 0, none⟩)), Reg.eqv (.pointer (some ⟨d, 2, none⟩)), Reg.any, Reg.eqv (.pointer (some ⟨j, 0, none⟩)), Reg.eqv (.pointer (some ⟨j, 0, none⟩)), Reg.eqv (.pointer (some ⟨j, 514, none⟩)), Reg.eqv (.slice A2 m c2), Reg.any, Reg.eqv (.pointer (some ⟨d, 0, none⟩)), Reg.eqv (.pointer (some ⟨d, 2, none⟩)), Reg.any] 20 [[(0, none)], [(2, some 0)], [(3, some 1)], [(4, some 2)], [(0, none)], [(6, some 4)], [(7, some 5)], [(8, some 6)], [(9, some 7)], [(10, some 8)], [(11, some 9)], [(0, none)], [(13, some 11)], [(14, some 12)], [(15, some 13)], [(12, some 10), (16, some 14)], [(5, some 3)], [(18, some 16)], [(19, some 17), (17, some 15)]] rfl (by kernel_rfl) (by kernel_rfl) (fun _ h => Reg.line_zero (l := (Reg.Line.mk [10, 15, 18] 19 (Add.S (Add.mk w.heap.size d (devC X.safe.length sb mb A n c X) gb A n c X.log m l2)))) ⟨HI.out.box, HI.out.log⟩ h) (by kernel_rfl) ?_ [some 2, some 3, some 4, some 5, some 6, some 7, some 8, some 9, some 10, some 11, some 12, some 13, some 14, some 15, some 16, some 17, some 18, some 19, none] (by kernel_rfl) ?_
  · refine ⟨?_, ?_, ?_, ?_, ?_, ?_, ?_, ?_, ?_, ?_, ?_, ?_, ?_, ?_, ?_, ?_, ?_, ?_, ?_, trivial⟩
    · refine Reg.oblL_ord (l := (Reg.Line.mk [10, 15, 18] 19 (Add.S (Add.mk w.heap.size d (devC X.safe.length sb mb A n c X) gb A n c X.log m l2)))) (by show 0 ∉ [10, 15, 18] ∧ 0 ≠ 19; decide) (Reg.extB_next rfl) (fun k1 b1 a1 w1 v1 w2 h1 h2 => Add.S_put (I := (Add.mk w.heap.size d (devC X.safe.length sb mb A n c X) gb A n c X.log m l2)) (b := b1) (dst := (some 2)) (by decide) k1 h1 h2) ?_
      intro ax wx hx hs
      obtain ⟨e0, -⟩ := hs
      have g0 := Reg.ev (v := .pointer (some ⟨j, 0, none⟩)) e0
      exact Reg.obl_freeL rfl (Reg.wp_eqvB (Option.some_ne_none _) (by go_simp) rfl)
    · refine Reg.oblL_ord (l := (Reg.Line.mk [10, 15, 18] 19 (Add.S (Add.mk w.heap.size d (devC X.safe.length sb mb A n c X) gb A n c X.log m l2)))) (by show 1 ∉ [10, 15, 18] ∧ 1 ≠ 19; decide) (Reg.extB_next rfl) (fun k1 b1 a1 w1 v1 w2 h1 h2 => Add.S_put (I := (Add.mk w.heap.size d (devC X.safe.length sb mb A n c X) gb A n c X.log m l2)) (b := b1) (dst := (some 3)) (by decide) k1 h1 h2) ?_
      intro ax wx hx hs
      obtain ⟨e2, -⟩ := hs
      have g2 := Reg.ev (v := .pointer (some ⟨j, 0, none⟩)) e2
      exact Reg.obl_freeL rfl (Reg.wp_eqvB (Option.some_ne_none _) (by go_simp) rfl)
    · refine Reg.oblL_ord (l := (Reg.Line.mk [10, 15, 18] 19 (Add.S (Add.mk w.heap.size d (devC X.safe.length sb mb A n c X) gb A n c X.log m l2)))) (by show 2 ∉ [10, 15, 18] ∧ 2 ≠ 19; decide) (Reg.extB_next rfl) (fun k1 b1 a1 w1 v1 w2 h1 h2 => Add.S_put (I := (Add.mk w.heap.size d (devC X.safe.length sb mb A n c X) gb A n c X.log m l2)) (b := b1) (dst := (some 4)) (by decide) k1 h1 h2) ?_
      intro ax wx hx hs
      obtain ⟨e3, -⟩ := hs
      have g3 := Reg.ev (v := .pointer (some ⟨j, 0, none⟩)) e3
      exact Reg.obl_freeL rfl (Reg.wp_eqvB (Option.some_ne_none _) (by go_simp) rfl)
    · refine Reg.oblL_ord (l := (Reg.Line.mk [10, 15, 18] 19 (Add.S (Add.mk w.heap.size d (devC X.safe.length sb mb A n c X) gb A n c X.log m l2)))) (by show 3 ∉ [10, 15, 18] ∧ 3 ≠ 19; decide) (Reg.extB_next rfl) (fun k1 b1 a1 w1 v1 w2 h1 h2 => Add.S_put (I := (Add.mk w.heap.size d (devC X.safe.length sb mb A n c X) gb A n c X.log m l2)) (b := b1) (dst := (some 5)) (by decide) k1 h1 h2) ?_
      intro ax wx hx hs
      obtain ⟨e4, -⟩ := hs
      have g4 := Reg.ev (v := .pointer (some ⟨j, 0, none⟩)) e4
      have l1 := job3 (Reg.KeepB.str hx HJ.out (by omega) HJN.out) hll
      exact Reg.obl_freeL rfl (Reg.wp_eqvB (Option.some_ne_none _) (by go_simp) rfl)
    · refine Reg.oblL_ord (l := (Reg.Line.mk [10, 15, 18] 19 (Add.S (Add.mk w.heap.size d (devC X.safe.length sb mb A n c X) gb A n c X.log m l2)))) (by show 4 ∉ [10, 15, 18] ∧ 4 ≠ 19; decide) (Reg.extB_next rfl) (fun k1 b1 a1 w1 v1 w2 h1 h2 => Add.S_put (I := (Add.mk w.heap.size d (devC X.safe.length sb mb A n c X) gb A n c X.log m l2)) (b := b1) (dst := (some 6)) (by decide) k1 h1 h2) ?_
      intro ax wx hx hs
      obtain ⟨e0, -⟩ := hs
      have g0 := Reg.ev (v := .pointer (some ⟨j, 0, none⟩)) e0
      exact Reg.obl_freeL rfl (Reg.wp_eqvB (Option.some_ne_none _) (by go_simp) rfl)
    · refine Reg.oblL_ord (l := (Reg.Line.mk [10, 15, 18] 19 (Add.S (Add.mk w.heap.size d (devC X.safe.length sb mb A n c X) gb A n c X.log m l2)))) (by show 5 ∉ [10, 15, 18] ∧ 5 ≠ 19; decide) (Reg.extB_next rfl) (fun k1 b1 a1 w1 v1 w2 h1 h2 => Add.S_put (I := (Add.mk w.heap.size d (devC X.safe.length sb mb A n c X) gb A n c X.log m l2)) (b := b1) (dst := (some 7)) (by decide) k1 h1 h2) ?_
      intro ax wx hx hs
      obtain ⟨e6, -⟩ := hs
      have g6 := Reg.ev (v := .pointer (some ⟨j, 0, none⟩)) e6
      exact Reg.obl_freeL rfl (Reg.wp_eqvB (Option.some_ne_none _) (by go_simp) rfl)
    · refine Reg.oblL_ord (l := (Reg.Line.mk [10, 15, 18] 19 (Add.S (Add.mk w.heap.size d (devC X.safe.length sb mb A n c X) gb A n c X.log m l2)))) (by show 6 ∉ [10, 15, 18] ∧ 6 ≠ 19; decide) (Reg.extB_next rfl) (fun k1 b1 a1 w1 v1 w2 h1 h2 => Add.S_put (I := (Add.mk w.heap.size d (devC X.safe.length sb mb A n c X) gb A n c X.log m l2)) (b := b1) (dst := (some 8)) (by decide) k1 h1 h2) ?_
      intro ax wx hx hs
      obtain ⟨e7, -⟩ := hs
      have g7 := Reg.ev (v := .pointer (some ⟨j, 0, none⟩)) e7
      exact Reg.obl_freeL rfl (Reg.wp_eqvB (Option.some_ne_none _) (by go_simp) rfl)
    · refine Reg.oblL_ord (l := (Reg.Line.mk [10, 15, 18] 19 (Add.S (Add.mk w.heap.size d (devC X.safe.length sb mb A n c X) gb A n c X.log m l2)))) (by show 7 ∉ [10, 15, 18] ∧ 7 ≠ 19; decide) (Reg.extB_next rfl) (fun k1 b1 a1 w1 v1 w2 h1 h2 => Add.S_put (I := (Add.mk w.heap.size d (devC X.safe.length sb mb A n c X) gb A n c X.log m l2)) (b := b1) (dst := (some 9)) (by decide) k1 h1 h2) ?_
      intro ax wx hx hs
      obtain ⟨e8, -⟩ := hs
      have g8 := Reg.ev (v := .pointer (some ⟨j, 0, none⟩)) e8
      have l1 := job3 (Reg.KeepB.str hx HJ.out (by omega) HJN.out) hll
      exact Reg.obl_freeL rfl (Reg.wp_eqvB (Option.some_ne_none _) (by go_simp) rfl)
    · refine Reg.oblL_ord (l := (Reg.Line.mk [10, 15, 18] 19 (Add.S (Add.mk w.heap.size d (devC X.safe.length sb mb A n c X) gb A n c X.log m l2)))) (by show 8 ∉ [10, 15, 18] ∧ 8 ≠ 19; decide) (Reg.extB_next rfl) (fun k1 b1 a1 w1 v1 w2 h1 h2 => Add.S_put (I := (Add.mk w.heap.size d (devC X.safe.length sb mb A n c X) gb A n c X.log m l2)) (b := b1) (dst := (some 10)) (by decide) k1 h1 h2) ?_
      intro ax wx hx hs
      obtain ⟨e9, -⟩ := hs
      have g9 := Reg.ev (v := .pointer (some ⟨d, 0, none⟩)) e9
      exact Reg.obl_freeL rfl (Reg.wp_eqvB (Option.some_ne_none _) (by go_simp) rfl)
    · refine Reg.oblL_ord (l := (Reg.Line.mk [10, 15, 18] 19 (Add.S (Add.mk w.heap.size d (devC X.safe.length sb mb A n c X) gb A n c X.log m l2)))) (by show 9 ∉ [10, 15, 18] ∧ 9 ≠ 19; decide) (Reg.extB_next rfl) (fun k1 b1 a1 w1 v1 w2 h1 h2 => Add.S_put (I := (Add.mk w.heap.size d (devC X.safe.length sb mb A n c X) gb A n c X.log m l2)) (b := b1) (dst := (some 11)) (by decide) k1 h1 h2) ?_
      intro ax wx hx hs
      obtain ⟨e10, -⟩ := hs
      have g10 := Reg.ev (v := .pointer (some ⟨d, 0, none⟩)) e10
      exact Reg.obl_freeL rfl (Reg.wp_eqvB (Option.some_ne_none _) (by go_simp) rfl)
    · refine Reg.oblL_line (l := (Reg.Line.mk [10, 15, 18] 19 (Add.S (Add.mk w.heap.size d (devC X.safe.length sb mb A n c X) gb A n c X.log m l2)))) (k := 0) rfl rfl (by show List.Nodup [10, 15, 18]; decide) (by show 10 ≠ 19; decide) (by show 10 < 19; decide) (.inl rfl) ?_
      intro b ax wx hx hs has hwb hS
      obtain ⟨e11, -⟩ := hs
      have g11 := Reg.ev (v := .pointer (some ⟨d, 2, none⟩)) e11
      have hxs : w.heap.size ≤ wx.heap.size := Reg.KeepB.size hx
      have z0 : wx.cell? ⟨d, 2, none⟩ = some (.slice A n c) := hS.1.cell 2
      refine Oper.wp_mono (K := fun a1 w1 => a1 = ax.put (some 12) (.slice A n c) ∧ w1 = wx) ?_ ?_
      · rintro a1 w1 ⟨rfl, rfl⟩
        exact ⟨⟨_, rfl, (fun h => by cases h), trivial, Reg.KeepB.of (Below.refl _ _)⟩, Add.S_zero (I := (Add.mk w.heap.size d (devC X.safe.length sb mb A n c X) gb A n c X.log m l2)) (b := b) hS (by rw [has]; show 12 < 20; decide)⟩
      · clear has hS
        go_simp
    · refine Reg.oblL_ord (l := (Reg.Line.mk [10, 15, 18] 19 (Add.S (Add.mk w.heap.size d (devC X.safe.length sb mb A n c X) gb A n c X.log m l2)))) (by show 11 ∉ [10, 15, 18] ∧ 11 ≠ 19; decide) (Reg.extB_next rfl) (fun k1 b1 a1 w1 v1 w2 h1 h2 => Add.S_put (I := (Add.mk w.heap.size d (devC X.safe.length sb mb A n c X) gb A n c X.log m l2)) (b := b1) (dst := (some 13)) (by decide) k1 h1 h2) ?_
      intro ax wx hx hs
      obtain ⟨e0, -⟩ := hs
      have g0 := Reg.ev (v := .pointer (some ⟨j, 0, none⟩)) e0
      exact Reg.obl_freeL rfl (Reg.wp_eqvB (Option.some_ne_none _) (by go_simp) rfl)
    · refine Reg.oblL_ord (l := (Reg.Line.mk [10, 15, 18] 19 (Add.S (Add.mk w.heap.size d (devC X.safe.length sb mb A n c X) gb A n c X.log m l2)))) (by show 12 ∉ [10, 15, 18] ∧ 12 ≠ 19; decide) (Reg.extB_next rfl) (fun k1 b1 a1 w1 v1 w2 h1 h2 => Add.S_put (I := (Add.mk w.heap.size d (devC X.safe.length sb mb A n c X) gb A n c X.log m l2)) (b := b1) (dst := (some 14)) (by decide) k1 h1 h2) ?_
      intro ax wx hx hs
      obtain ⟨e13, -⟩ := hs
      have g13 := Reg.ev (v := .pointer (some ⟨j, 0, none⟩)) e13
      exact Reg.obl_freeL rfl (Reg.wp_eqvB (Option.some_ne_none _) (by go_simp) rfl)
    · refine Reg.oblL_ord (l := (Reg.Line.mk [10, 15, 18] 19 (Add.S (Add.mk w.heap.size d (devC X.safe.length sb mb A n c X) gb A n c X.log m l2)))) (by show 13 ∉ [10, 15, 18] ∧ 13 ≠ 19; decide) (Reg.extB_next rfl) (fun k1 b1 a1 w1 v1 w2 h1 h2 => Add.S_put (I := (Add.mk w.heap.size d (devC X.safe.length sb mb A n c X) gb A n c X.log m l2)) (b := b1) (dst := (some 15)) (by decide) k1 h1 h2) ?_
      intro ax wx hx hs
      obtain ⟨e14, -⟩ := hs
      have g14 := Reg.ev (v := .pointer (some ⟨j, 0, none⟩)) e14
      exact Reg.obl_freeL rfl (Reg.wp_eqvB (Option.some_ne_none _) (by go_simp) rfl)
    · refine Reg.oblL_ord (l := (Reg.Line.mk [10, 15, 18] 19 (Add.S (Add.mk w.heap.size d (devC X.safe.length sb mb A n c X) gb A n c X.log m l2)))) (by show 14 ∉ [10, 15, 18] ∧ 14 ≠ 19; decide) (Reg.extB_next rfl) (fun k1 b1 a1 w1 v1 w2 h1 h2 => Add.S_put (I := (Add.mk w.heap.size d (devC X.safe.length sb mb A n c X) gb A n c X.log m l2)) (b := b1) (dst := (some 16)) (by decide) k1 h1 h2) ?_
      intro ax wx hx hs
      obtain ⟨e15, -⟩ := hs
      have g15 := Reg.ev (v := .pointer (some ⟨j, 514, none⟩)) e15
      have l1 := job3 (Reg.KeepB.str hx HJ.out (by omega) HJN.out) hll
      exact Reg.obl_freeL rfl (Reg.wp_eqvB (Option.some_ne_none _) (by go_simp) rfl)
    · refine Reg.oblL_line (l := (Reg.Line.mk [10, 15, 18] 19 (Add.S (Add.mk w.heap.size d (devC X.safe.length sb mb A n c X) gb A n c X.log m l2)))) (k := 1) rfl rfl (by show List.Nodup [10, 15, 18]; decide) (by show 15 ≠ 19; decide) (by show 15 < 19; decide) (.inr ⟨10, rfl, by kernel_rfl⟩) ?_
      intro b ax wx hx hs has hwb hS
      obtain ⟨e12, e16, -⟩ := hs
      have g16 := Reg.ev (v := .slice A2 m c2) e16
      have hxs : w.heap.size ≤ wx.heap.size := Reg.KeepB.size hx
      have hbx : Bytes wx w.heap.size A2 m c2 l2 := HY.out.keepE HAN.out hx
      obtain ⟨A', c', w4, k1, k2, k3, k4⟩ := Add.S_one (I := (Add.mk w.heap.size d (devC X.safe.length sb mb A n c X) gb A n c X.log m l2)) (b := b) hS (by rw [has]; show 17 < 20; decide) hxs HGD.out hbx (by show n + m ≤ _; omega)
      exact wp_appT (.tmp 12) (.tmp 16) rfl rfl k1 e16 k2 ⟨⟨_, rfl, (fun h => by cases h), trivial, k4⟩, k3⟩
    · refine Reg.oblL_ord (l := (Reg.Line.mk [10, 15, 18] 19 (Add.S (Add.mk w.heap.size d (devC X.safe.length sb mb A n c X) gb A n c X.log m l2)))) (by show 16 ∉ [10, 15, 18] ∧ 16 ≠ 19; decide) (Reg.extB_next rfl) (fun k1 b1 a1 w1 v1 w2 h1 h2 => Add.S_put (I := (Add.mk w.heap.size d (devC X.safe.length sb mb A n c X) gb A n c X.log m l2)) (b := b1) (dst := (some 18)) (by decide) k1 h1 h2) ?_
      intro ax wx hx hs
      obtain ⟨e5, -⟩ := hs
      have g5 := Reg.ev (v := .pointer (some ⟨d, 0, none⟩)) e5
      exact Reg.obl_freeL rfl (Reg.wp_eqvB (Option.some_ne_none _) (by go_simp) rfl)
    · refine Reg.oblL_ord (l := (Reg.Line.mk [10, 15, 18] 19 (Add.S (Add.mk w.heap.size d (devC X.safe.length sb mb A n c X) gb A n c X.log m l2)))) (by show 17 ∉ [10, 15, 18] ∧ 17 ≠ 19; decide) (Reg.extB_next rfl) (fun k1 b1 a1 w1 v1 w2 h1 h2 => Add.S_put (I := (Add.mk w.heap.size d (devC X.safe.length sb mb A n c X) gb A n c X.log m l2)) (b := b1) (dst := (some 19)) (by decide) k1 h1 h2) ?_
      intro ax wx hx hs
      obtain ⟨e18, -⟩ := hs
      have g18 := Reg.ev (v := .pointer (some ⟨d, 0, none⟩)) e18
      exact Reg.obl_freeL rfl (Reg.wp_eqvB (Option.some_ne_none _) (by go_simp) rfl)
    · refine Reg.oblL_line (l := (Reg.Line.mk [10, 15, 18] 19 (Add.S (Add.mk w.heap.size d (devC X.safe.length sb mb A n c X) gb A n c X.log m l2)))) (k := 2) rfl rfl (by show List.Nodup [10, 15, 18]; decide) (by show 18 ≠ 19; decide) (by show 18 < 19; decide) (.inr ⟨15, rfl, by kernel_rfl⟩) ?_
      intro b ax wx hx hs has hwb hS
      obtain ⟨e19, e17, -⟩ := hs
      have g19 := Reg.ev (v := .pointer (some ⟨d, 2, none⟩)) e19
      have hxs : w.heap.size ≤ wx.heap.size := Reg.KeepB.size hx
      obtain ⟨A', c', k1, k2, k3⟩ := Add.S_two (I := (Add.mk w.heap.size d (devC X.safe.length sb mb A n c X) gb A n c X.log m l2)) (b := b) hS HGD.out (by show d < w.heap.size; omega)
      have g17 := Reg.ev k1
      have z1 : wx.frozen? ⟨d, 2, none⟩ = false := k2.frozen 2
      have z0 : wx.cell? ⟨d, 2, none⟩ = some (.slice A n c) := k2.cell 2
      have z2 := k2.lt
      refine Oper.wp_mono (K := fun a1 w1 => a1 = ax ∧ w1 = wx.setCell ⟨d, 2, none⟩ (.slice A' (n + m) c')) ?_ ?_
      · rintro a1 w1 ⟨rfl, rfl⟩
        exact ⟨⟨undef, rfl, fun _ => rfl, trivial, Reg.KeepB.grown (Reg.KeepB.of (Below.refl _ wx)) (grown_set (grown_refl wx _) 2 _) hxs (.inr (by simp))⟩, k3⟩
      · clear has k3 hS
        go_simp
  · intro W1 listed hwf hall
    simp only [Reg.Fin]
    rintro _ rfl _ rfl _ rfl _ rfl _ rfl _ rfl _ rfl _ rfl _ rfl _ rfl v12 h12 _ rfl _ rfl _ rfl _ rfl v17 h17 _ rfl _ rfl vn18 hn18
    intro hJ
    obtain ⟨bL, hbL, hSL⟩ := Reg.line_end (l := (Reg.Line.mk [10, 15, 18] 19 (Add.S (Add.mk w.heap.size d (devC X.safe.length sb mb A n c X) gb A n c X.log m l2)))) (n := 19) hall (by show ∀ c ∈ [10, 15, 18], c < 19; decide) hJ
    clear hJ hall hbL
    go_simp
    obtain ⟨A', c', hS1, gb', hO1, hg1⟩ := hSL
    dsimp only at hS1 hO1 hg1
    have hk1 : Reg.KeepB w.heap.size (d :: gb.toList) w W1 := hwf
    have HS1 := Lib.hid hS1
    have HO1 := Lib.hid hO1
    have HG1 := Lib.hid hg1
    have HK1 := Lib.hid hk1
    clear hS1 hO1 hg1 hwf hk1
    go_wp2
    go_end0
    have hk := HOK.out
    have hbp : ∀ b ∈ bp, W1.heap[b]? = w.heap[b]? := fun b hm => HK1.out.block b (HI.out.pages.lt b hm) (by
      have h1 := HI.out.bp_ne b hm
      have h2 := HI.out.nd
      simp only [List.nodup_cons, List.nodup_append, List.mem_append] at h2
      simp only [List.mem_cons, not_or]
      exact ⟨h1, fun h3 => h2.2.2.2 b h3 b hm rfl⟩)
    have hok2 : DevP.Ok { X with log := X.log ++ l2 } := ⟨hk.n0, hk.n1, hk.nl, hk.h0, hk.s0, by show X.sure ≤ X.head + ((X.log ++ l2).length : Nat); rw [List.length_append]; omega, hk.t0, hk.t1, hk.o0, hk.f0, hk.f1, hk.w0, hk.w1⟩
    obtain ⟨bs', hD', hn'⟩ := HI.out.relog (X' := { X with log := X.log ++ l2 }) hbp HS1.out HO1.out (HG1.out.imp id .inr) rfl rfl (Nat.le_refl _) hok2
    exact ⟨rfl, bs', hD', HK1.out.more (fun b hb => by rw [HB.out]; simp only [List.nil_append, List.mem_cons, List.mem_append] at hb ⊢; exact hb.imp id .inl), fun b hb => by rw [HB.out]; exact hn' b hb, trivial⟩
set_option maxRecDepth 100000 in
set_option maxHeartbeats 1000000 in
theorem Append_any (A2 : Option Addr) (m c2 B : Nat) (l2 : List UInt8) (w : World) (hD : Dev w d bs X) (hs : DevP.Small X) (hy : Bytes w B A2 m c2 l2) (hB : B ≤ w.heap.size) (hA : 0 < m → ∀ a, A2 = some a → a.block ∉ bs) (hm : m ≤ 1000000000) :
    Calls Tryz.prog 23 #[.pointer (some ⟨d, 0, none⟩), .slice A2 m c2] w (Told w d bs (DevP.op X true { X with log := X.log ++ l2 }) (.int .i64 (DevP.err X true))) := by
  have hmf : ∀ (fn : Fn) (first cap : Array Value) (w : World), (Instr.makeFunc fn first cap).run Tryz.prog w = .ok (.func fn first cap) w := fun _ _ _ _ => rfl
  have HA := Lib.hid hA
  have HY := Lib.hid (hy.more hB)
  clear hA hy
  have hz512 : (SlotP.zeros 512).length = 512 := List.length_replicate
  have hal := job_al
  have hbd := fun W => job_bd3 d A2 m c2 W
  have hst := job_st (d := d) (n := 0) (l := SlotP.zeros 512) (A := A2) (m := m) (c := c2) (Str.new w jobZ 86) hz512
  obtain ⟨W1, hW1⟩ : ∃ W, (w.alloc (.cells jobZ 86)).setRow w.heap.size (jobC d 0 (SlotP.zeros 512) (.slice A2 m c2)) = W := ⟨_, rfl⟩
  rw [hW1] at hst
  have hJ1 : Str W1 w.heap.size (jobC d 0 (SlotP.zeros 512) (.slice A2 m c2)) := by rw [← hW1]; exact (Str.new _ _ _).setRow
  have hb1 : Below w.heap.size w W1 := by rw [← hW1]; exact below_setRow (balloc (bsame _) _) (Nat.le_refl _) _
  have hD1 := hD.below hb1
  have hj : w.heap.size ∉ bs := fun hm => by have := hD.lt _ hm; omega
  have HJ1 := Lib.hid hJ1
  have HB1 := Lib.hid hb1
  have HD1 := Lib.hid hD1
  have HJN := Lib.hid hj
  clear hW1 hJ1 hb1 hD1 hj
  go_enter Tryz.func23, Tryz.ntmps23
  go_wp2_with fail
  refine (do_any 46 #[.pointer (some ⟨w.heap.size, 0, none⟩)] (fun _ => True) [] true W1 { X with log := X.log ++ l2 } HD1.out hs.1 (by simp) (fun _ _ _ _ => trivial) rfl rfl rfl (fun _ => rfl) (fun hf W hb => ?_)).mono ?_
  · have hs1 := HB1.out.size
    have hs2 := hb.size
    refine (add_act w.heap.size 0 _ A2 m c2 w.heap.size l2 W (HJ1.out.next hb) hz512 (HD1.out.below hb) hs HJN.out ((HY.out.below HB1.out).below (hb.mono hs1)) (by omega) HA.out hm).mono ?_
    exact fun e w' h => h
  · rintro e w1 h
    have HT := Lib.hid (h.told HB1.out (by simp))
    obtain ⟨rfl, -⟩ := h
    go_wp2
    go_ret
    exact HT.out
end DevW
end Go.Proofs.YtpdfnlhhnodnjaaGreat
end
section
namespace Go.Proofs.YtpdfnlhhnodnjaaGreat.WalW
open Go.RowKit Go.Maps RecW
set_option linter.unusedVariables false
set_option linter.unusedSimpArgs false
section
variable {lb d mb nm n c : Nat} {A : Option Addr} {bs : List Nat} {X : DevX} {L : MapP.T Int (Array Value)} {lim kept forced : Int} {ps : List Int}
/-- the device behind an append -/
def appX (X : DevX) (l : List UInt8) : DevX := DevP.done { X with log := X.log ++ l }
/-- the log behind an append -/
def Apped (B0 lb d mb n nm : Nat) (A : Option Addr) (bs : List Nat) (X' : DevX) (lim kept forced : Int) (ps : List Int) (pl : Int) (w : World) (e : Ending) (w' : World) : Prop := ∃ A' c' bs' L', e = .returned (.tuple #[.int .i64 pl, .int .i64 0]) ∧ Below B0 w w' ∧ LogIn w' lb d mb (nm + 1) A' (n + 1) c' bs' X' L' lim kept forced ps ∧ Hi B0 lb mb A' bs' ∧ Offs w w' lb mb A bs A' bs'
theorem appX_op (X : DevX) (l : List UInt8) (ho : X.off = false) (hf : X.fused = false) : DevP.op X true { X with log := X.log ++ l } = appX X l ∧ DevP.err X true = 0 := by
  have he : DevP.err X true = 0 := by unfold DevP.err; simp [ho, hf]
  exact ⟨by unfold DevP.op; rw [if_pos he]; rfl, he⟩
end
end Go.Proofs.YtpdfnlhhnodnjaaGreat.WalW
end
