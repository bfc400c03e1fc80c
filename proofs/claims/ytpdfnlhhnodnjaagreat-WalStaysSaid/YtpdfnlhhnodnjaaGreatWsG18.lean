/-
  Parts of the proof of WalStays.
-/
import Derived.Test.YtpdfnlhhnodnjaaGreatWsG17
import Derived.Test.YtpdfnlhhnodnjaaGreatWsG8
import Derived.Test.YtpdfnlhhnodnjaaGreatProg
import Derived.Test.YtpdfnlhhnodnjaaGreatWsG13
import Derived.Test.YtpdfnlhhnodnjaaGreatWsG4
import Derived.Test.YtpdfnlhhnodnjaaGreatWsG3
import Derived.Test.YtpdfnlhhnodnjaaGreatWsG1
import Derived.Test.YtpdfnlhhnodnjaaGreatWsG0
section
namespace Go.Proofs.YtpdfnlhhnodnjaaGreat.PatchW
open Go.RowKit
set_option linter.unusedVariables false
set_option linter.unusedSimpArgs false
attribute [local go_sem ↓] app_fold cut_fold
/-- the parts of a run's bytes being its own -/
structure Cop where
  N : Nat
  base : Nat
  A : Option Addr
  n : Nat
  c : Nat
  l : List RunX
  k : Nat
  r : RunX
  m : Nat
abbrev RT : TypeId := 90
def Cop.S (I : Cop) : Reg.LS := fun kk b a w => match kk with
  | 0 => OwnE (RunF I.base) RT w I.base I.A I.n I.c (marks I.l I.k)
  | 1 => (∃ A4 c4, a.eval (.tmp 42) = .slice A4 I.m c4 ∧ Bytes (above I.N w) w.heap.size A4 I.m c4 I.r.data) ∧ OwnE (RunF I.base) RT w I.base I.A I.n I.c (marks I.l I.k)
  | _ => OwnE (RunF I.base) RT w I.base I.A I.n I.c (marks I.l (I.k + 1))
section
variable {I : Cop} {a : Act} {w w' : World} {b : Bool} {dst : Option Tmp} {v : Value}
theorem Cop.S_put (hd : dst ≠ some 42) (kk : Nat) (h : I.S kk b a w) (hb : Below w.heap.size w w') : I.S kk b (a.put dst v) w' := by
  match kk, h with
  | 0, h => exact OwnE.next h hb
  | 1, h =>
    obtain ⟨⟨A4, c4, h1, h2⟩, h3⟩ := h
    exact ⟨⟨A4, c4, by rw [Reg.eval_ne hd]; exact h1, (h2.sub (above_sub (sub_below hb))).more hb.size⟩, h3.next hb⟩
  | _ + 2, h => exact OwnE.next h hb
theorem Cop.S_zero (h : I.S 0 b a w) (ha : 42 < a.tmps.size) (hN : I.N ≤ w.heap.size) {B c2 : Nat} {A2 : Option Addr} (hy : Bytes w B A2 I.m c2 I.r.data) (hm : I.m ≤ 100000) :
    ∃ A4 c4 w', (appSem #[32, 32] 32 #[.slice none 0 0, .slice A2 I.m c2]).run Tryz.prog w = .ok (.slice A4 (0 + I.m) c4) w' ∧ I.S 1 b (a.put (some 42) (.slice A4 (0 + I.m) c4)) w' ∧ Below w.heap.size w w' := by
  obtain ⟨A4, c4, w', g4, happ, hO, hg, hgb⟩ := (OwnS.none_ w).app (P := Tryz.prog) 32 32 5 Tryz.underlying32 Be.infoU8 hy (by omega)
  have hb : Below w.heap.size w w' := (Below.refl _ w).grown hg (Nat.le_refl _) (fun k e => by cases e)
  rw [Nat.zero_add] at *
  rw [List.nil_append] at hO
  refine ⟨A4, c4, w', happ, ⟨⟨A4, c4, Reg.eval_put_same ha, hO.above (fun g e => ?_)⟩, OwnE.next h hb⟩, hb⟩
  rcases hgb with e1 | e1
  · rw [e1] at e; cases e
  · rw [e1] at e; cases e; exact hN
theorem Cop.S_one (h : I.S 1 b a w) (hk : I.k < I.n) (hr : I.l[I.k]? = some I.r) (hi : In64 I.r.at_) (hbN : I.base ≤ I.N) (hAN : ∀ ad, I.A = some ad → ad.block < I.N) (hlen : I.r.data.length = I.m) :
    ∃ A4 c4 g, a.eval (.tmp 42) = .slice A4 I.m c4 ∧ I.A = some ⟨g, 0, none⟩ ∧ I.base ≤ g ∧ g < w.heap.size ∧ (w.cell? ⟨g, I.k * 2 + 1, none⟩).isSome = true ∧ w.frozen? ⟨g, I.k * 2 + 1, none⟩ = false ∧ I.S 2 b a (w.setCell ⟨g, I.k * 2 + 1, none⟩ (.slice A4 I.m c4)) := by
  obtain ⟨⟨A4, c4, h1, h2⟩, h3⟩ := h
  obtain ⟨g, e, hg1, hg2, hc, hf, hO⟩ := h3.write1 (P := Tryz.prog) (j := I.k) (i := 1) (v := .slice A4 I.m c4) (x := (I.r, true)) hk (by show 1 < 2; omega) rfl (fun g vs hA hq => by
    obtain ⟨A5, n5, c5, e5, hy5, hi5, -⟩ := hq (I.r, false) (by rw [marks_get, hr]; simp)
    subst e5
    have hgN := hAN _ hA
    have hs1 : Sub w.heap.size (above I.N w) (hide w g) := above_hid (A := some ⟨g, 0, none⟩) (fun a e => by cases e; exact hgN)
    have hs2 : Sub w.heap.size (above I.N w) (above I.base (hide w g)) := fun p v hp hv => by
      by_cases hb : p.block < I.N
      · rw [above_in I.N w p hb] at hv; cases hv
      · rw [above_out I.base _ p (by omega)]
        exact hs1 p v hp hv
    exact ⟨A4, I.m, c4, rfl, h2.sub hs1, hi, fun _ => h2.sub hs2⟩)
  refine ⟨A4, c4, g, h1, e, hg1, hg2, hc, hf, ?_⟩
  show OwnE (RunF I.base) RT _ I.base I.A I.n I.c (marks I.l (I.k + 1))
  rw [← marks_set I.l I.k I.r hr]
  exact hO
end
theorem sub_hide_keep {w w' : World} {g B : Nat} (k : Reg.KeepB B [g] w w') : Sub B (hide w g) w' := fun p v hp hv => by
  by_cases e : p.block = g
  · rw [← e, hide_none] at hv; cases hv
  · rw [hide_other w g p e] at hv
    exact (k.cell hp (by simpa using e)).trans hv
/-- what Get's rounds keep -/
structure GR (w wr : World) (x : PatchX) (d : Nat) (k : Nat) (A2 : Option Addr) (R c2 : Nat) : Prop where
  res : Str wr w.heap.size #[.int .i64 0, .bool false, .slice none 0 0]
  box : Str wr d #[.int .i64 x.page, .bool x.fresh, .slice A2 R c2]
  own : OwnE (RunF (w.heap.size + 1)) 90 wr (w.heap.size + 1) A2 R c2 (marks x.runs k)
  bel : Below w.heap.size w wr
  dlo : w.heap.size < d
  alo : ∀ a, A2 = some a → a.block < d
set_option maxRecDepth 100000 in
set_option maxHeartbeats 4000000 in
theorem get_any (x : PatchX) (more : List UInt8) (A : Option Addr) (n c B : Nat) (w : World) (hR : PatchP.Right x) (h : Bytes w B A n c (PatchP.body x ++ more)) (hB : B ≤ w.heap.size) :
    Calls Tryz.prog 89 #[.slice A n c] w fun e w' => ∃ A2 c2, e = .returned (.tuple #[.agg #[.int .i64 x.page, .bool x.fresh, .slice A2 x.runs.length c2], .int .i64 ((PatchP.body x).length : Nat), .int .i64 0]) ∧ Elems RunE (above w.heap.size w') w'.heap.size A2 x.runs.length c2 x.runs ∧ Below w.heap.size w w' := by
  have H := Lib.hid h
  have HR := Lib.hid hR
  have hlen := h.len
  have hcap := Nat.le_trans h.2.1 h.2.2.1
  unfold maxLen at hcap
  have hbl : (PatchP.body x).length ≤ n := by rw [← hlen, List.length_append]; omega
  have h5 : 5 ≤ (PatchP.body x).length := by unfold PatchP.body; rw [List.length_append, PatchP.head_length]; omega
  obtain ⟨b, o, hA, hbB, hbyte⟩ := h.at_ (k := 2) (by omega)
  have hbv : (PatchP.body x ++ more)[2]'(by rw [hlen]; omega) = if x.fresh then 1 else 0 := by
    have h1 := PatchP.got_byte (x := x) (more := more)
    rw [List.getElem?_eq_getElem (by rw [hlen]; omega)] at h1
    exact Option.some.inj h1
  rw [hbv] at hbyte
  subst hA
  have hrl := hR.2.2.1
  have HIN := Lib.hid (fun k r (hr : x.runs[k]? = some r) => PatchP.in_runs hR hr)
  have hpg : In64 x.page := ⟨by have := hR.1; omega, by have := hR.2.1; omega⟩
  have HRY := Lib.hid (PatchP.right_yes x hR)
  obtain ⟨N, hN⟩ : ∃ N, (PatchP.body x).length = N := ⟨_, rfl⟩
  rw [hN] at hbl h5 ⊢
  obtain ⟨R, hRl⟩ : ∃ R, x.runs.length = R := ⟨_, rfl⟩
  rw [hRl] at hrl ⊢
  have HRL := Lib.hid hRl
  have HNN := Lib.hid hN
  clear hRl hN hbv h hR
  obtain ⟨W0, hW0⟩ : ∃ W, w.alloc (.cells #[.int .i64 0, .bool false, .slice none 0 0] 68) = W := ⟨_, rfl⟩
  obtain ⟨HS0, HB0, hw0, hz0⟩ := new1 hW0
  have H0 := Lib.hid (H.out.below (HB0.out.mono hB))
  go_enter Tryz.func89, Tryz.ntmps89
  go_wp2_with fail
  refine (parse_any x more _ n c B W0 HR.out H0.out (by omega)).mono ?_
  rintro e W1 ⟨A2, c2, rfl, hO1, hb1⟩
  rw [HRL.out] at hO1 ⊢
  rw [HNN.out]
  have HS1 := Lib.hid (HS0.out.next hb1)
  have HB1 := Lib.hid (bstep HB0.out hb1)
  rw [hz0] at hO1
  have HO1 := Lib.hid hO1
  have hs1 := hb1.size
  clear hO1 hb1 HS0 HB0
  obtain ⟨W2, hW2⟩ : ∃ W, W1.alloc (.cells #[.int .i64 x.page, .bool x.fresh, .slice A2 R c2] 68) = W := ⟨_, rfl⟩
  obtain ⟨HS2, HB2, hw2, hz2⟩ := new1 hW2
  have hlo : ∀ a, A2 = some a → a.block < W1.heap.size := fun a e => by
    obtain ⟨vs, h1, -⟩ := HO1.out
    rcases h1.2 with ⟨e1, -⟩ | ⟨g, cap, cur, e1, -, hh, -⟩
    · cases e1; cases e
    · cases e1; cases e; exact (Array.getElem?_eq_some_iff.1 hh).1
  have HP : Hid (GR w W2 x W1.heap.size 0 A2 R c2) := Lib.hid ⟨HS1.out.next HB2.out, HS2.out, (HO1.out.marks0 _).next HB2.out, bstep HB1.out HB2.out, by omega, hlo⟩
  have HE2 : Hid (Elems RunE W2 W2.heap.size A2 R c2 x.runs) := Lib.hid (HO1.out.elems.next HB2.out)
  have hcap2 := HO1.out.elemsIn.cap
  have hcm2 := hcap2.2
  unfold maxLen at hcm2
  have hb2 : Below w.heap.size w W2 := HP.out.bel
  replace hbyte := (hb2.cell (p := ⟨b, o + 2, none⟩) (by show b < _; omega)).trans hbyte
  have hbw : b < W2.heap.size := by have := hb2.size; omega
  have hg0 := str3 HP.out.box
  have hg1 := HP.out.box.lt
  clear HS1 HB1 HO1 HS2 HB2 hz2 hb2 hlo
  have hcode : code true = 0 := rfl
  have hfin2 : byteV (if x.fresh then 1 else 0) = .int .u8 (if x.fresh then 1 else 0) := by cases x.fresh <;> rfl
  rw [hfin2] at hbyte
  have hle : decide ((1 : Int) < (if x.fresh then 1 else 0)) = false := by cases x.fresh <;> rfl
  clear hfin2
  obtain ⟨fb, hfb⟩ : ∃ z : Int, (if x.fresh then (1 : Int) else 0) = z := ⟨_, rfl⟩
  rw [hfb] at hbyte hle
  clear hfb
  go_wp2_with fail
  refine (check_any x A2 R c2 W2.heap.size W2 HE2.out (Nat.le_refl _) hpg).mono ?_
  rintro e W3 ⟨rfl, hb3⟩
  rw [HRY.out, hcode]
  replace HP : Hid (GR w W3 x W1.heap.size 0 A2 R c2) := Lib.hid ⟨HP.out.res.next hb3, HP.out.box.next hb3, HP.out.own.next hb3, bstep HP.out.bel hb3, HP.out.dlo, HP.out.alo⟩
  clear hb3 hg0 hg1 hbyte hle HE2 hbw
  have hg0 := str3 HP.out.box
  have hg1 := HP.out.box.lt
  go_wp2
  go_loopw [32] (fun iv wr => ∃ k : Nat, k ≤ R ∧ iv = .int .i64 (k : Int) ∧ Hid (GR w wr x W1.heap.size k A2 R c2)) (fun iv _ => R - (intOf iv).toNat)
  case atStart => exact ⟨0, Nat.zero_le _, rfl, HP⟩
  case round =>
    obtain ⟨k, hk, rfl, HQ⟩ := hrel
    clear HP hg0 hg1
    have hwr := HQ.out.bel.size
    have hg0 := str3 HQ.out.box
    have hg1 := HQ.out.box.lt
    have hg2 := str3 HQ.out.res
    have hg3 := HQ.out.res.lt
    by_cases hlt : k < R
    · have hd : decide ((k : Int) < (R : Int)) = true := by simp; omega
      obtain ⟨r, hr⟩ : ∃ r, x.runs[k]? = some r := ⟨_, List.getElem?_eq_getElem (by rw [HRL.out]; exact hlt)⟩
      obtain ⟨i1, i2, i3, i4⟩ := HIN.out k r hr
      have HR0 := Lib.hid hr
      have hown := HQ.out.own
      obtain ⟨g, o2, vs, hAe, hgw, ⟨A4, n4, c4, hvs, hy4, hi4, -⟩, hcl⟩ := hown.elemsIn.at_ hlt
      have hmk : (marks x.runs k)[k]'(by rw [marks_length, HRL.out]; exact hlt) = (r, false) := by
        have h1 := marks_get x.runs k k
        rw [hr, List.getElem?_eq_getElem (by rw [marks_length, HRL.out]; exact hlt)] at h1
        have := Option.some.inj h1
        rw [this]; simp
      rw [hmk] at hvs hy4 hi4
      dsimp only at hvs hy4 hi4
      subst hvs
      have q0 := hcl 0 _ rfl
      have q1 := hcl 1 _ rfl
      rw [Nat.add_zero] at q0
      have ho2 : o2 = 0 := by
        obtain ⟨vs', h1', -⟩ := hown
        rcases h1'.2 with ⟨e1, -⟩ | ⟨g', cap, cur, e1, -, hh, -⟩
        · rw [hAe] at e1; cases e1
        · rw [hAe] at e1; cases e1; rfl
      subst ho2
      rw [Nat.zero_add] at q0 q1
      have hsz : (RunF (w.heap.size + 1)).size = 2 := rfl
      rw [hsz] at q0 q1
      have hn4 : r.data.length = n4 := hy4.len
      have hyb : Bytes wr wr.heap.size A4 n4 c4 r.data := hy4.sub (sub_hid _ _ _)
      rw [hn4] at i3 i4
      have hgd := HQ.out.alo _ hAe
      have hgb := hown.ge _ hAe
      dsimp only at hgd hgb
      obtain ⟨W4, hW4⟩ : ∃ W, wr.alloc (.cells #[.int .i64 r.at_, .slice A4 n4 c4] 90) = W := ⟨_, rfl⟩
      obtain ⟨HS4, HB4, hw4, hz4⟩ := new1 hW4
      have HY4 := Lib.hid ((hy4.sub (hid_below _ HB4.out)).more hw4)
      have HI4 := Lib.hid hi4
      have HQ4 : Hid (GR w W4 x W1.heap.size k A2 R c2) := Lib.hid ⟨HQ.out.res.next HB4.out, HQ.out.box.next HB4.out, HQ.out.own.next HB4.out, bstep HQ.out.bel HB4.out, HQ.out.dlo, HQ.out.alo⟩
      subst hAe
      obtain ⟨rp, rd⟩ := r
      dsimp only at *
      have HN4 := Lib.hid hn4
      clear hown hy4 hi4 hyb hmk hcl hr HQ hg0 hg1 hg2 hg3 HB4 hz4 hsz hn4
      have hg0 := str3 HQ4.out.box
      have hg1 := HQ4.out.box.lt
      have hl4 := HS4.out.lt
      go_wp2_with fail
      clear q0 q1
      refine Reg.wp_region_box (R := (Reg.extB W4.heap.size [g])) (W := W4) (Reg.LineJ (Reg.Line.mk [5, 8] 9 (Cop.S (Cop.mk W4.heap.size (w.heap.size + 1) (some ⟨g, 0, none⟩) R c2 x.runs k ⟨rp, rd⟩ n4)))) [Reg.eqv (.pointer (some ⟨W1.heap.size, 2, none⟩)), Reg.eqv (.slice (some ⟨g, 0, none⟩) R c2), Reg.eqv (.int .i64 (k : Int)), Reg.eqv (.pointer (some ⟨wr.heap.size, 1, none⟩)), Reg.eqv (.slice A4 n4 c4), Reg.any, Reg.eqv (.pointer (some ⟨g, k * 2, none⟩)), Reg.eqv (.pointer (some ⟨g, k * 2 + 1, none⟩)), Reg.any] 48 [[(5, none)], [(37, some 0)], [(8, none)], [(9, none)], [(40, some 3)], [(41, some 4)], [(38, some 1), (39, some 2)], [(43, some 6)], [(44, some 7), (42, some 5)]] rfl (by kernel_rfl) (by kernel_rfl) (fun _ h => Reg.line_zero (l := (Reg.Line.mk [5, 8] 9 (Cop.S (Cop.mk W4.heap.size (w.heap.size + 1) (some ⟨g, 0, none⟩) R c2 x.runs k ⟨rp, rd⟩ n4)))) (HQ4.out.own.next ((bsame W4).drew)) h) (by kernel_rfl) ?_ [some 37, some 38, some 39, some 40, some 41, some 42, some 43, some 44, none] (by kernel_rfl) ?_
      · refine ⟨?_, ?_, ?_, ?_, ?_, ?_, ?_, ?_, ?_, trivial⟩
        · refine Reg.oblL_ord (l := (Reg.Line.mk [5, 8] 9 (Cop.S (Cop.mk W4.heap.size (w.heap.size + 1) (some ⟨g, 0, none⟩) R c2 x.runs k ⟨rp, rd⟩ n4)))) (by show 0 ∉ [5, 8] ∧ 0 ≠ 9; decide) (Reg.extB_next rfl) (fun k1 b1 a1 w1 v1 w2 h1 h2 => Cop.S_put (I := (Cop.mk W4.heap.size (w.heap.size + 1) (some ⟨g, 0, none⟩) R c2 x.runs k ⟨rp, rd⟩ n4)) (b := b1) (dst := (some 37)) (by decide) k1 h1 h2) ?_
          intro ax wx hx hs
          obtain ⟨e5, -⟩ := hs
          have g5 := Reg.ev (v := .pointer (some ⟨W1.heap.size, 0, none⟩)) e5
          exact Reg.obl_freeL rfl (Reg.wp_eqvB (Option.some_ne_none _) (by go_simp) rfl)
        · refine Reg.oblL_ord (l := (Reg.Line.mk [5, 8] 9 (Cop.S (Cop.mk W4.heap.size (w.heap.size + 1) (some ⟨g, 0, none⟩) R c2 x.runs k ⟨rp, rd⟩ n4)))) (by show 1 ∉ [5, 8] ∧ 1 ≠ 9; decide) (Reg.extB_next rfl) (fun k1 b1 a1 w1 v1 w2 h1 h2 => Cop.S_put (I := (Cop.mk W4.heap.size (w.heap.size + 1) (some ⟨g, 0, none⟩) R c2 x.runs k ⟨rp, rd⟩ n4)) (b := b1) (dst := (some 38)) (by decide) k1 h1 h2) ?_
          intro ax wx hx hs
          obtain ⟨e37, -⟩ := hs
          have g37 := Reg.ev (v := .pointer (some ⟨W1.heap.size, 2, none⟩)) e37
          have l0 := str3 (Reg.KeepB.str hx HQ4.out.box (by omega) (by simp only [List.mem_cons, List.not_mem_nil, or_false]; omega))
          have l1 := str2 (Reg.KeepB.str hx HS4.out (by omega) (by simp only [List.mem_cons, List.not_mem_nil, or_false]; omega))
          exact Reg.obl_freeL rfl (Reg.wp_eqvB (Option.some_ne_none _) (by go_simp) rfl)
        · refine Reg.oblL_ord (l := (Reg.Line.mk [5, 8] 9 (Cop.S (Cop.mk W4.heap.size (w.heap.size + 1) (some ⟨g, 0, none⟩) R c2 x.runs k ⟨rp, rd⟩ n4)))) (by show 2 ∉ [5, 8] ∧ 2 ≠ 9; decide) (Reg.extB_next rfl) (fun k1 b1 a1 w1 v1 w2 h1 h2 => Cop.S_put (I := (Cop.mk W4.heap.size (w.heap.size + 1) (some ⟨g, 0, none⟩) R c2 x.runs k ⟨rp, rd⟩ n4)) (b := b1) (dst := (some 39)) (by decide) k1 h1 h2) ?_
          intro ax wx hx hs
          obtain ⟨e8, -⟩ := hs
          have g8 := Reg.ev (v := .int .i64 (k : Int)) e8
          exact Reg.obl_freeL rfl (Reg.wp_eqvB (Option.some_ne_none _) (by go_simp) rfl)
        · refine Reg.oblL_ord (l := (Reg.Line.mk [5, 8] 9 (Cop.S (Cop.mk W4.heap.size (w.heap.size + 1) (some ⟨g, 0, none⟩) R c2 x.runs k ⟨rp, rd⟩ n4)))) (by show 3 ∉ [5, 8] ∧ 3 ≠ 9; decide) (Reg.extB_next rfl) (fun k1 b1 a1 w1 v1 w2 h1 h2 => Cop.S_put (I := (Cop.mk W4.heap.size (w.heap.size + 1) (some ⟨g, 0, none⟩) R c2 x.runs k ⟨rp, rd⟩ n4)) (b := b1) (dst := (some 40)) (by decide) k1 h1 h2) ?_
          intro ax wx hx hs
          obtain ⟨e9, -⟩ := hs
          have g9 := Reg.ev (v := .pointer (some ⟨wr.heap.size, 0, none⟩)) e9
          exact Reg.obl_freeL rfl (Reg.wp_eqvB (Option.some_ne_none _) (by go_simp) rfl)
        · refine Reg.oblL_ord (l := (Reg.Line.mk [5, 8] 9 (Cop.S (Cop.mk W4.heap.size (w.heap.size + 1) (some ⟨g, 0, none⟩) R c2 x.runs k ⟨rp, rd⟩ n4)))) (by show 4 ∉ [5, 8] ∧ 4 ≠ 9; decide) (Reg.extB_next rfl) (fun k1 b1 a1 w1 v1 w2 h1 h2 => Cop.S_put (I := (Cop.mk W4.heap.size (w.heap.size + 1) (some ⟨g, 0, none⟩) R c2 x.runs k ⟨rp, rd⟩ n4)) (b := b1) (dst := (some 41)) (by decide) k1 h1 h2) ?_
          intro ax wx hx hs
          obtain ⟨e40, -⟩ := hs
          have g40 := Reg.ev (v := .pointer (some ⟨wr.heap.size, 1, none⟩)) e40
          have l0 := str3 (Reg.KeepB.str hx HQ4.out.box (by omega) (by simp only [List.mem_cons, List.not_mem_nil, or_false]; omega))
          have l1 := str2 (Reg.KeepB.str hx HS4.out (by omega) (by simp only [List.mem_cons, List.not_mem_nil, or_false]; omega))
          exact Reg.obl_freeL rfl (Reg.wp_eqvB (Option.some_ne_none _) (by go_simp) rfl)
        · refine Reg.oblL_line (l := (Reg.Line.mk [5, 8] 9 (Cop.S (Cop.mk W4.heap.size (w.heap.size + 1) (some ⟨g, 0, none⟩) R c2 x.runs k ⟨rp, rd⟩ n4)))) (k := 0) rfl rfl (by show List.Nodup [5, 8]; decide) (by show 5 ≠ 9; decide) (by show 5 < 9; decide) (.inl rfl) ?_
          intro b ax wx hx hs has hwb hS
          obtain ⟨e41, -⟩ := hs
          have g41 := Reg.ev (v := .slice A4 n4 c4) e41
          have hxs : W4.heap.size ≤ wx.heap.size := Reg.KeepB.size hx
          have hbx : Bytes wx W4.heap.size A4 n4 c4 rd := HY4.out.sub (sub_hide_keep hx)
          obtain ⟨A5, c5, w5, k1, k2, k3⟩ := Cop.S_zero (I := (Cop.mk W4.heap.size (w.heap.size + 1) (some ⟨g, 0, none⟩) R c2 x.runs k ⟨rp, rd⟩ n4)) (b := b) hS (by rw [has]; show 42 < 48; decide) hxs hbx (by show n4 ≤ _; omega)
          rw [Nat.zero_add] at k1 k2
          refine Oper.wp_mono (K := fun a1 w1 => a1 = ax.put (some 42) (.slice A5 n4 c5) ∧ w1 = w5) ?_ ?_
          · rintro a1 w1 ⟨rfl, rfl⟩
            exact ⟨⟨_, rfl, (fun h => by cases h), trivial, Reg.KeepB.of (k3.mono hxs)⟩, k2⟩
          · clear has hS k2 k3
            go_simp
        · refine Reg.oblL_ord (l := (Reg.Line.mk [5, 8] 9 (Cop.S (Cop.mk W4.heap.size (w.heap.size + 1) (some ⟨g, 0, none⟩) R c2 x.runs k ⟨rp, rd⟩ n4)))) (by show 6 ∉ [5, 8] ∧ 6 ≠ 9; decide) (Reg.extB_next rfl) (fun k1 b1 a1 w1 v1 w2 h1 h2 => Cop.S_put (I := (Cop.mk W4.heap.size (w.heap.size + 1) (some ⟨g, 0, none⟩) R c2 x.runs k ⟨rp, rd⟩ n4)) (b := b1) (dst := (some 43)) (by decide) k1 h1 h2) ?_
          intro ax wx hx hs
          obtain ⟨e38, e39, -⟩ := hs
          have g38 := Reg.ev (v := .slice (some ⟨g, 0, none⟩) R c2) e38
          have g39 := Reg.ev (v := .int .i64 (k : Int)) e39
          refine Reg.obl_freeL rfl ?_
          exact Reg.wp_eqvB (Option.some_ne_none _) (by go_simp; first | done | (intro hq; omega)) rfl
        · refine Reg.oblL_ord (l := (Reg.Line.mk [5, 8] 9 (Cop.S (Cop.mk W4.heap.size (w.heap.size + 1) (some ⟨g, 0, none⟩) R c2 x.runs k ⟨rp, rd⟩ n4)))) (by show 7 ∉ [5, 8] ∧ 7 ≠ 9; decide) (Reg.extB_next rfl) (fun k1 b1 a1 w1 v1 w2 h1 h2 => Cop.S_put (I := (Cop.mk W4.heap.size (w.heap.size + 1) (some ⟨g, 0, none⟩) R c2 x.runs k ⟨rp, rd⟩ n4)) (b := b1) (dst := (some 44)) (by decide) k1 h1 h2) ?_
          intro ax wx hx hs
          obtain ⟨e43, -⟩ := hs
          have g43 := Reg.ev (v := .pointer (some ⟨g, k * 2, none⟩)) e43
          exact Reg.obl_freeL rfl (Reg.wp_eqvB (Option.some_ne_none _) (by go_simp) rfl)
        · refine Reg.oblL_line (l := (Reg.Line.mk [5, 8] 9 (Cop.S (Cop.mk W4.heap.size (w.heap.size + 1) (some ⟨g, 0, none⟩) R c2 x.runs k ⟨rp, rd⟩ n4)))) (k := 1) rfl rfl (by show List.Nodup [5, 8]; decide) (by show 8 ≠ 9; decide) (by show 8 < 9; decide) (.inr ⟨5, rfl, by kernel_rfl⟩) ?_
          intro b ax wx hx hs has hwb hS
          obtain ⟨e44, e42, -⟩ := hs
          have g44 := Reg.ev (v := .pointer (some ⟨g, k * 2 + 1, none⟩)) e44
          have hxs : W4.heap.size ≤ wx.heap.size := Reg.KeepB.size hx
          obtain ⟨A5, c5, g5, k1, k2, k3, k4, k5, k6, k7⟩ := Cop.S_one (I := (Cop.mk W4.heap.size (w.heap.size + 1) (some ⟨g, 0, none⟩) R c2 x.runs k ⟨rp, rd⟩ n4)) (b := b) hS hlt HR0.out HI4.out (by show w.heap.size + 1 ≤ W4.heap.size; omega) (fun ad e => by cases e; show g < W4.heap.size; omega) HN4.out
          cases k2
          have g42 := Reg.ev k1
          dsimp only at k5 k6 k7
          obtain ⟨vv, hvv⟩ := Option.isSome_iff_exists.1 k5
          refine Oper.wp_mono (K := fun a1 w1 => a1 = ax ∧ w1 = wx.setCell ⟨g, k * 2 + 1, none⟩ (.slice A5 n4 c5)) ?_ ?_
          · rintro a1 w1 ⟨rfl, rfl⟩
            exact ⟨⟨undef, rfl, fun _ => rfl, trivial, Reg.KeepB.grown (Reg.KeepB.of (Below.refl _ wx)) (grown_set (grown_refl wx _) _ _) hxs (.inr (by simp))⟩, k7⟩
          · clear has hS k7 k5
            go_simp
      · intro W5 listed hwf hall
        simp only [Reg.Fin]
        rintro _ rfl _ rfl _ rfl _ rfl _ rfl v42 h42 _ rfl _ rfl vn8 hn8
        intro hJ
        obtain ⟨bL, hbL, hSL⟩ := Reg.line_end (l := (Reg.Line.mk [5, 8] 9 (Cop.S (Cop.mk W4.heap.size (w.heap.size + 1) (some ⟨g, 0, none⟩) R c2 x.runs k ⟨rp, rd⟩ n4)))) (n := 9) hall (by show ∀ c ∈ [5, 8], c < 9; decide) hJ
        clear hJ hall hbL
        go_simp
        have hO5 : OwnE (RunF (w.heap.size + 1)) RT W5 (w.heap.size + 1) (some ⟨g, 0, none⟩) R c2 (marks x.runs (k + 1)) := hSL
        have hwf' : Reg.KeepB W4.heap.size [g] W4 W5 := hwf
        have hw45 := hwf'.size
        have HQ5 : Hid (GR w W5 x W1.heap.size (k + 1) (some ⟨g, 0, none⟩) R c2) := Lib.hid ⟨HQ4.out.res.keepB hwf' (by simp only [List.mem_cons, List.not_mem_nil, or_false]; omega), HQ4.out.box.keepB hwf' (by simp only [List.mem_cons, List.not_mem_nil, or_false]; omega), hO5, HQ4.out.bel.trans (hwf'.below (by omega) (by intro b hb; simp only [List.mem_cons, List.not_mem_nil, or_false] at hb; rw [hb]; omega)), HQ4.out.dlo, HQ4.out.alo⟩
        clear hO5 hwf hwf' hSL hg0 hg1 HQ4 HS4 HY4
        go_wp2
        go_roundw
        case rel => exact ⟨k + 1, by omega, by go_num, HQ5⟩
        case measure => simp [intOf]; omega
    · have hd : decide ((k : Int) < (R : Int)) = false := by simp; omega
      have hkn : k = R := by omega
      subst hkn
      have hown := HQ.out.own
      have hf1 := fun j => HQ.out.res.frozen j
      have hgs : wr.grownBy (((wr.setCell ⟨w.heap.size, 0, none⟩ (.int .i64 x.page)).setCell ⟨w.heap.size, 1, none⟩ (.bool x.fresh)).setCell ⟨w.heap.size, 2, none⟩ (.slice A2 k c2)) (some w.heap.size) := grown_set (grown_set (grown_set (grown_refl wr _) 0 _) 1 _) 2 _
      have hown2 := OwnE.grownU (runF_byt _) hown HQ.out.res (by decide) hgs (fun a e => by have := hown.ge a e; omega)
      have hrl2 : marks x.runs k = marks x.runs x.runs.length := by rw [HRL.out]
      rw [hrl2] at hown2
      have hfin := hown2.marked.sub (above_less (base' := w.heap.size) (by omega))
      have hbel := below_grown HQ.out.bel hgs (Nat.le_refl _)
      have HFIN := Lib.hid (And.intro hfin hbel)
      clear hown hfin hbel hgs hown2 hrl2
      go_wp2
      exact bodyPost_ret (v := .tuple #[.agg #[.int .i64 x.page, .bool x.fresh, .slice A2 k c2], .int .i64 (N : Int), .int .i64 0]) (by simp [results, Tryz.results89, go_sem, *]) rfl ⟨A2, c2, rfl, HFIN.out.1, HFIN.out.2⟩
end Go.Proofs.YtpdfnlhhnodnjaaGreat.PatchW
end
section
namespace Go.Proofs.YtpdfnlhhnodnjaaGreat.CellGet
open Go.RowKit
attribute [local go_sem ↓] app_fold cut_fold

/-- the call hands back this cell, this number, and this error's number -/
def GotCell (w : World) (r : Cell × Int × Int) (e : Ending) (w' : World) : Prop := ∃ A n cap, e = .returned (.tuple #[.agg #[.int .i64 r.1.kind, .slice A n cap, .int .i64 r.1.lo, .int .i64 r.1.hi, .int .i64 r.1.val], .int .i64 r.2.1, .int .i64 r.2.2]) ∧ Bytes w' w'.heap.size A n cap r.1.data ∧ Below w.heap.size w w'
/-- and its bytes lie where nothing was before -/
def NewCell (w : World) (r : Cell × Int × Int) (e : Ending) (w' : World) : Prop := ∃ A n cap, e = .returned (.tuple #[.agg #[.int .i64 r.1.kind, .slice A n cap, .int .i64 r.1.lo, .int .i64 r.1.hi, .int .i64 r.1.val], .int .i64 r.2.1, .int .i64 r.2.2]) ∧ (Bytes w' w'.heap.size A n cap r.1.data ∧ ∀ a, A = some a → w.heap.size ≤ a.block) ∧ Below w.heap.size w w'
theorem NewCell.got {w w' : World} {r : Cell × Int × Int} {e : Ending} (h : NewCell w r e w') : GotCell w r e w' := by
  obtain ⟨A, n, c, h1, h2, h3⟩ := h
  exact ⟨A, n, c, h1, h2.1, h3⟩

set_option maxRecDepth 100000 in
set_option maxHeartbeats 1000000 in
theorem get_new (A : Option Addr) (n c B : Nat) (l : List UInt8) (w : World) (h : Bytes w B A n c l) (hB : B ≤ w.heap.size) :
    Calls Tryz.prog 115 #[.slice A n c] w (NewCell w (CellP.get l)) := by
  obtain ⟨i0, hi, hz0, hz1, hz2⟩ := info_parts Be.infoU8
  have hn := Nat.le_trans h.2.1 h.2.2.1
  have hl := h.len
  have hv1 := CellP.val_in l 0 1 (by omega)
  have H := Lib.hid h
  have HL := Lib.hid hl
  by_cases h0 : l.length < 1
  · have HG := Lib.hid (CellP.get_short l h0)
    rw [HG.out]
    have HT := Lib.hid (NumW.there_no l 0 1 (by omega))
    go_enter Tryz.func115, Tryz.ntmps115
    go_wp2_with fail
    refine (NumW.num_any A n c B 0 1 l _ (H.out.alloc hB _) (by omega) (by omega) (by omega)).mono ?_
    rintro e w1 ⟨rfl, rfl⟩
    rw [HT.out]
    go_wp2_with fail
    exact bodyPost_ret (v := .tuple #[.agg #[.int .i64 0, .slice none 0 0, .int .i64 0, .int .i64 0, .int .i64 0], .int .i64 0, .int .i64 13]) (by simp [results, Tryz.results115, go_sem]) rfl ⟨none, 0, 0, rfl, ⟨Bytes.none_ _ _, fun a e => by cases e⟩, by repeat (first | refine Below.setCell ?_ (by simp) _ | exact balloc (bsame _) _)⟩
  · have HT := Lib.hid (NumW.there_yes l 0 1 (by omega))
    by_cases hk1 : NumP.val l 0 1 = 1
    · have HK := Lib.hid hk1
      by_cases h2 : l.length < 2
      · have HG := Lib.hid (CellP.get_rec_short l h0 hk1 (.inl h2))
        rw [HG.out]
        have HT2 := Lib.hid (NumW.there_no l 1 1 (by omega))
        have HV2 := Lib.hid (NumW.val_no l 1 1 (by omega))
        clear hk1
        go_enter Tryz.func115, Tryz.ntmps115
        go_wp2_with fail
        refine (NumW.num_any A n c B 0 1 l _ (H.out.alloc hB _) (by omega) (by omega) (by omega)).mono ?_
        rintro e w1 ⟨rfl, rfl⟩
        rw [HT.out, HK.out]
        go_wp2_with fail
        refine (NumW.num_any A n c B 1 1 l _ ((H.out.alloc hB _).alloc (by simp; omega) _) (by omega) (by omega) (by omega)).mono ?_
        rintro e w1 ⟨rfl, rfl⟩
        rw [HT2.out, HV2.out]
        go_wp2_with fail
        exact bodyPost_ret (v := .tuple #[.agg #[.int .i64 0, .slice none 0 0, .int .i64 0, .int .i64 0, .int .i64 0], .int .i64 0, .int .i64 13]) (by simp [results, Tryz.results115, go_sem]) rfl ⟨none, 0, 0, rfl, ⟨Bytes.none_ _ _, fun a e => by cases e⟩, by repeat (first | refine Below.setCell ?_ (by simp) _ | exact balloc (balloc (bsame _) _) _)⟩
      · have HT2 := Lib.hid (NumW.there_yes l 1 1 (by omega))
        have HV2 := Lib.hid (CellP.len1_val l (by omega))
        have hm := CellP.len1_lt l
        obtain ⟨m, hm'⟩ : ∃ m, CellP.len1 l = m := ⟨_, rfl⟩
        have HM := Lib.hid hm'
        rw [hm'] at hm
        by_cases h3 : l.length < 2 + CellP.len1 l
        · have HG := Lib.hid (CellP.get_rec_short l h0 hk1 (.inr h3))
          rw [HG.out]
          have h4 : (n : Int) < 2 + (m : Int) := by omega
          clear hk1 hm'
          go_enter Tryz.func115, Tryz.ntmps115
          go_wp2_with fail
          refine (NumW.num_any A n c B 0 1 l _ (H.out.alloc hB _) (by omega) (by omega) (by omega)).mono ?_
          rintro e w1 ⟨rfl, rfl⟩
          rw [HT.out, HK.out]
          go_wp2_with fail
          refine (NumW.num_any A n c B 1 1 l _ ((H.out.alloc hB _).alloc (by simp; omega) _) (by omega) (by omega) (by omega)).mono ?_
          rintro e w1 ⟨rfl, rfl⟩
          rw [HT2.out, HV2.out, HM.out]
          go_wp2_with fail
          exact bodyPost_ret (v := .tuple #[.agg #[.int .i64 0, .slice none 0 0, .int .i64 0, .int .i64 0, .int .i64 0], .int .i64 0, .int .i64 13]) (by simp [results, Tryz.results115, go_sem]) rfl ⟨none, 0, 0, rfl, ⟨Bytes.none_ _ _, fun a e => by cases e⟩, by repeat (first | refine Below.setCell ?_ (by simp) _ | exact balloc (balloc (bsame _) _) _)⟩
        · have hnl : ¬ (l.length < 2 ∨ l.length < 2 + CellP.len1 l) := by omega
          have h4 : ¬ (n : Int) < 2 + (m : Int) := by omega
          have h5 : 2 + m ≤ n := by omega
          have hcn := h.2.1
          have hcm := h.2.2.1
          have hcut := h.cut 2 (2 + m) c (by omega) h5 (by omega) (by omega)
          rw [show 2 + m - 2 = m by omega] at hcut
          have hld := hcut.len
          obtain ⟨d, hd⟩ : ∃ d, (l.drop 2).take m = d := ⟨_, rfl⟩
          have HD := Lib.hid hd
          rw [hd] at hcut hld
          clear hd
          obtain ⟨W2, hW2⟩ : ∃ W2, (w.alloc (.cells #[.int .i64 0, .slice none 0 0, .int .i64 0, .int .i64 0, .int .i64 0] 34)).alloc (.cells #[.int .i64 1, .slice none 0 0, .int .i64 0, .int .i64 0, .int .i64 0] 34) = W2 := ⟨_, rfl⟩
          have hz2' : W2.heap.size = w.heap.size + 1 + 1 := by rw [← hW2]; simp
          have hbyW : Bytes W2 B (cutA A 2 c 1) m (c - 2) d := by
            rw [← hW2]
            exact (hcut.alloc hB _).alloc (by simp; omega) _
          obtain ⟨v', w3, happ, hown3, hgrow3⟩ := run_append_bytes (P := Tryz.prog) W2 W2.heap.size 32 32 5 i0 _ Tryz.underlying32 hi hz0 hz1 hz2 rfl (.slice none 0 0) 0 [] (World.ownsRow_nil _ _ _ _) B _ m _ d hbyW (by omega) (Nat.le_refl _)
          simp only [Nat.zero_add, List.nil_append] at hown3
          obtain ⟨A3, c3, rfl⟩ := own_slice hown3
          have hb3 : Below W2.heap.size W2 w3 := (Below.refl _ W2).grown hgrow3 (Nat.le_refl _) (fun k e => by simp [Value.ownBlock] at e)
          rw [hz2'] at hown3
          have HO3 := Lib.hid hown3
          have HA3 : Hid (∀ a, A3 = some a → w.heap.size ≤ a.block) := Lib.hid (fun a e => by have := own_block hown3 a.block (by rw [e]; rfl); omega)
          have HB3 := Lib.hid hb3
          obtain ⟨hc3, hf3⟩ := bcell hb3
          rw [← hW2] at hc3 hf3 happ
          have hs3 := hb3.size
          rw [hz2'] at hs3
          have hs3' : w.heap.size < w3.heap.size := by omega
          have hs3'' : w.heap.size + 1 < w3.heap.size := by omega
          have HW3 : Hid (Below w.heap.size w w3) := Lib.hid (by
            refine Below.trans ?_ (hb3.mono (by rw [hz2']; omega))
            rw [← hW2]
            exact balloc (balloc (bsame _) _) _)
          have HS0 : Hid (Str w3 w.heap.size #[.int .i64 0, .slice none 0 0, .int .i64 0, .int .i64 0, .int .i64 0]) := Lib.hid (by
            refine Str.next ?_ hb3
            rw [← hW2]
            exact (Str.new w _ _).alloc _)
          have HS1 : Hid (Str w3 (w.heap.size + 1) #[.int .i64 1, .slice none 0 0, .int .i64 0, .int .i64 0, .int .i64 0]) := Lib.hid (by
            refine Str.next ?_ hb3
            rw [← hW2]
            have := Str.new (w.alloc (.cells #[.int .i64 0, .slice none 0 0, .int .i64 0, .int .i64 0, .int .i64 0] 34)) #[.int .i64 1, .slice none 0 0, .int .i64 0, .int .i64 0, .int .i64 0] 34
            simpa using this)
          clear hown3 hgrow3 hcut hbyW hb3 hs3 hz2'
          subst hW2
          by_cases hr : d.length ≤ 32
          · have HG : Hid (CellP.get l = (⟨1, d, 0, 0, 0⟩, 2 + (m : Int), 0)) := Lib.hid (by rw [CellP.get_rec l h0 hk1 hnl (by omega), hm', HD.out])
            rw [HG.out]
            have HR := Lib.hid (CellP.right_rec d hr)
            clear hk1 hm' hnl h3
            have hcd : CellP.code true = 0 := rfl
            go_enter Tryz.func115, Tryz.ntmps115
            go_wp2_with fail
            refine (NumW.num_any A n c B 0 1 l _ (H.out.alloc hB _) (by omega) (by omega) (by omega)).mono ?_
            rintro e w1 ⟨rfl, rfl⟩
            rw [HT.out, HK.out]
            go_wp2_with fail
            refine (NumW.num_any A n c B 1 1 l _ ((H.out.alloc hB _).alloc (by simp; omega) _) (by omega) (by omega) (by omega)).mono ?_
            rintro e w1 ⟨rfl, rfl⟩
            rw [HT2.out, HV2.out, HM.out]
            go_wp2_with fail
            refine (CellW.check_any A3 m c3 ⟨1, d, 0, 0, 0⟩ _ hld (by unfold maxLen at *; omega)).mono ?_
            rintro e w4 ⟨rfl, hb4⟩
            rw [HR.out]
            have hS := ((HS0.out.other 1 (.slice A3 m c3) (by omega : w.heap.size ≠ w.heap.size + 1)).next hb4)
            have hS1 := ((HS1.out.set 1 (.slice A3 m c3)).next hb4)
            obtain ⟨k0, k1, k2, k3, k4⟩ := str5 hS
            obtain ⟨q0, q1, q2, q3, q4⟩ := str5 hS1
            have kf := fun i => hS.frozen i
            have hb34 : Below w.heap.size w w4 := (HW3.out.setCell (by simp) _).trans (hb4.mono (by simp; omega))
            have HB34 := Lib.hid hb34
            have HB4 := Lib.hid hb4
            clear hS hS1 hb34 hb4 hc3 hf3 happ
            go_wp2_with fail
            refine bodyPost_ret (v := .tuple #[.agg #[.int .i64 1, .slice A3 m c3, .int .i64 0, .int .i64 0, .int .i64 0], .int .i64 (2 + (m : Int)), .int .i64 0]) (by simp [results, Tryz.results115, go_sem, *]) rfl ⟨A3, m, c3, rfl, ⟨?_, HA3.out⟩, by repeat (first | refine Below.setCell ?_ (by simp) _ | exact HB34.out)⟩
            refine Bytes.own (base := w.heap.size + 1 + 1) (k := m) (e := 5) ?_
            repeat (first | refine own_set ?_ (by omega) _ _ | exact own_next (own_set HO3.out (by omega) _ _) HB4.out)
          · have HG : Hid (CellP.get l = (CellP.none, 0, 12)) := Lib.hid (CellP.get_rec_form l h0 hk1 hnl (by omega))
            rw [HG.out]
            have HR := Lib.hid (CellP.right_rec_no d hr)
            clear hk1 hm' hnl h3
            have hcd : CellP.code false = 1 := rfl
            go_enter Tryz.func115, Tryz.ntmps115
            go_wp2_with fail
            refine (NumW.num_any A n c B 0 1 l _ (H.out.alloc hB _) (by omega) (by omega) (by omega)).mono ?_
            rintro e w1 ⟨rfl, rfl⟩
            rw [HT.out, HK.out]
            go_wp2_with fail
            refine (NumW.num_any A n c B 1 1 l _ ((H.out.alloc hB _).alloc (by simp; omega) _) (by omega) (by omega) (by omega)).mono ?_
            rintro e w1 ⟨rfl, rfl⟩
            rw [HT2.out, HV2.out, HM.out]
            go_wp2_with fail
            refine (CellW.check_any A3 m c3 ⟨1, d, 0, 0, 0⟩ _ hld (by unfold maxLen at *; omega)).mono ?_
            rintro e w4 ⟨rfl, hb4⟩
            rw [HR.out]
            have hS := ((HS0.out.other 1 (.slice A3 m c3) (by omega : w.heap.size ≠ w.heap.size + 1)).next hb4)
            have hS1 := ((HS1.out.set 1 (.slice A3 m c3)).next hb4)
            obtain ⟨k0, k1, k2, k3, k4⟩ := str5 hS
            obtain ⟨q0, q1, q2, q3, q4⟩ := str5 hS1
            have kf := fun i => hS.frozen i
            have hb34 : Below w.heap.size w w4 := (HW3.out.setCell (by simp) _).trans (hb4.mono (by simp; omega))
            have HB34 := Lib.hid hb34
            have HB4 := Lib.hid hb4
            clear hS hS1 hb34 hb4 hc3 hf3 happ
            go_wp2_with fail
            exact bodyPost_ret (v := .tuple #[.agg #[.int .i64 0, .slice none 0 0, .int .i64 0, .int .i64 0, .int .i64 0], .int .i64 0, .int .i64 12]) (by simp [results, Tryz.results115, go_sem, *]) rfl ⟨none, 0, 0, rfl, ⟨Bytes.none_ _ _, fun a e => by cases e⟩, by repeat (first | refine Below.setCell ?_ (by simp) _ | exact HB34.out)⟩
    · by_cases hk2 : NumP.val l 0 1 = 2
      · have HK := Lib.hid hk2
        by_cases h2 : l.length < 25
        · have HG := Lib.hid (CellP.get_cnt_short l h0 hk2 h2)
          rw [HG.out]
          have h4 : (n : Int) < 25 := by omega
          clear hk1 hk2
          go_enter Tryz.func115, Tryz.ntmps115
          go_wp2_with fail
          refine (NumW.num_any A n c B 0 1 l _ (H.out.alloc hB _) (by omega) (by omega) (by omega)).mono ?_
          rintro e w1 ⟨rfl, rfl⟩
          rw [HT.out, HK.out]
          go_wp2_with fail
          exact bodyPost_ret (v := .tuple #[.agg #[.int .i64 0, .slice none 0 0, .int .i64 0, .int .i64 0, .int .i64 0], .int .i64 0, .int .i64 13]) (by simp [results, Tryz.results115, go_sem]) rfl ⟨none, 0, 0, rfl, ⟨Bytes.none_ _ _, fun a e => by cases e⟩, by repeat (first | refine Below.setCell ?_ (by simp) _ | exact balloc (balloc (bsame _) _) _)⟩
        · have h4 : ¬ (n : Int) < 25 := by omega
          have hx1 := CellP.val_in l 1 8 (by omega)
          have hx2 := CellP.val_in l 9 8 (by omega)
          have hx3 := CellP.val_in l 17 8 (by omega)
          have HGY := fun h3 => Lib.hid (CellP.get_cnt l h0 hk2 h2 h3)
          have HGN := fun h3 => Lib.hid (CellP.get_cnt_form l h0 hk2 h2 h3)
          obtain ⟨lo, hlo⟩ : ∃ x, NumP.val l 1 8 = x := ⟨_, rfl⟩
          obtain ⟨hi', hhi⟩ : ∃ x, NumP.val l 9 8 = x := ⟨_, rfl⟩
          obtain ⟨v, hv⟩ : ∃ x, NumP.val l 17 8 = x := ⟨_, rfl⟩
          rw [hlo, hhi, hv] at HGY HGN
          rw [hlo] at hx1
          rw [hhi] at hx2
          rw [hv] at hx3
          have HLO := Lib.hid hlo
          have HHI := Lib.hid hhi
          have HV := Lib.hid hv
          clear hlo hhi hv hk1 hk2
          by_cases h3 : lo ≤ v ∧ v ≤ hi'
          · have HG := HGY h3
            rw [HG.out]
            have HR := Lib.hid (CellP.right_cnt lo hi' v h3)
            clear HGY HGN h3
            have hcd : CellP.code true = 0 := rfl
            go_enter Tryz.func115, Tryz.ntmps115
            go_wp2_with fail
            refine (NumW.num_any A n c B 0 1 l _ (H.out.alloc hB _) (by omega) (by omega) (by omega)).mono ?_
            rintro e w1 ⟨rfl, rfl⟩
            rw [HT.out, HK.out]
            go_wp2_with fail
            refine (NumW.num_any A n c B 1 8 l _ ((H.out.alloc hB _).alloc (by simp; omega) _) (by omega) (by omega) (by omega)).mono ?_
            rintro e w1 ⟨rfl, rfl⟩
            rw [HLO.out]
            go_wp2_with fail
            refine (NumW.num_any A n c B 9 8 l _ ((H.out.alloc hB _).alloc (by simp; omega) _) (by omega) (by omega) (by omega)).mono ?_
            rintro e w1 ⟨rfl, rfl⟩
            rw [HHI.out]
            go_wp2_with fail
            refine (NumW.num_any A n c B 17 8 l _ ((H.out.alloc hB _).alloc (by simp; omega) _) (by omega) (by omega) (by omega)).mono ?_
            rintro e w1 ⟨rfl, rfl⟩
            rw [HV.out]
            go_wp2_with fail
            refine (CellW.check_any none 0 0 ⟨2, [], lo, hi', v⟩ _ rfl (Nat.zero_le _)).mono ?_
            rintro e w4 ⟨rfl, hb4⟩
            rw [HR.out]
            have hS := ((Str.new w #[.int .i64 0, .slice none 0 0, .int .i64 0, .int .i64 0, .int .i64 0] 34).alloc _).next hb4
            have hS1 := (Str.new (w.alloc (.cells #[.int .i64 0, .slice none 0 0, .int .i64 0, .int .i64 0, .int .i64 0] 34)) #[.int .i64 2, .slice none 0 0, .int .i64 lo, .int .i64 hi', .int .i64 v] 34).next hb4
            simp only [World.size_alloc] at hS1
            obtain ⟨k0, k1, k2, k3, k4⟩ := str5 hS
            obtain ⟨q0, q1, q2, q3, q4⟩ := str5 hS1
            have kf := fun i => hS.frozen i
            have HB34 := Lib.hid (bstep (balloc (balloc (bsame _) _) _) hb4)
            clear hS hS1 hb4
            go_wp2_with fail
            exact bodyPost_ret (v := .tuple #[.agg #[.int .i64 2, .slice none 0 0, .int .i64 lo, .int .i64 hi', .int .i64 v], .int .i64 25, .int .i64 0]) (by simp [results, Tryz.results115, go_sem, *]) rfl ⟨none, 0, 0, rfl, ⟨Bytes.none_ _ _, fun a e => by cases e⟩, by repeat (first | refine Below.setCell ?_ (by simp) _ | exact HB34.out)⟩
          · have HG := HGN h3
            rw [HG.out]
            have HR := Lib.hid (CellP.right_cnt_no lo hi' v h3)
            clear HGY HGN h3
            have hcd : CellP.code false = 1 := rfl
            go_enter Tryz.func115, Tryz.ntmps115
            go_wp2_with fail
            refine (NumW.num_any A n c B 0 1 l _ (H.out.alloc hB _) (by omega) (by omega) (by omega)).mono ?_
            rintro e w1 ⟨rfl, rfl⟩
            rw [HT.out, HK.out]
            go_wp2_with fail
            refine (NumW.num_any A n c B 1 8 l _ ((H.out.alloc hB _).alloc (by simp; omega) _) (by omega) (by omega) (by omega)).mono ?_
            rintro e w1 ⟨rfl, rfl⟩
            rw [HLO.out]
            go_wp2_with fail
            refine (NumW.num_any A n c B 9 8 l _ ((H.out.alloc hB _).alloc (by simp; omega) _) (by omega) (by omega) (by omega)).mono ?_
            rintro e w1 ⟨rfl, rfl⟩
            rw [HHI.out]
            go_wp2_with fail
            refine (NumW.num_any A n c B 17 8 l _ ((H.out.alloc hB _).alloc (by simp; omega) _) (by omega) (by omega) (by omega)).mono ?_
            rintro e w1 ⟨rfl, rfl⟩
            rw [HV.out]
            go_wp2_with fail
            refine (CellW.check_any none 0 0 ⟨2, [], lo, hi', v⟩ _ rfl (Nat.zero_le _)).mono ?_
            rintro e w4 ⟨rfl, hb4⟩
            rw [HR.out]
            have hS := ((Str.new w #[.int .i64 0, .slice none 0 0, .int .i64 0, .int .i64 0, .int .i64 0] 34).alloc _).next hb4
            have hS1 := (Str.new (w.alloc (.cells #[.int .i64 0, .slice none 0 0, .int .i64 0, .int .i64 0, .int .i64 0] 34)) #[.int .i64 2, .slice none 0 0, .int .i64 lo, .int .i64 hi', .int .i64 v] 34).next hb4
            simp only [World.size_alloc] at hS1
            obtain ⟨k0, k1, k2, k3, k4⟩ := str5 hS
            obtain ⟨q0, q1, q2, q3, q4⟩ := str5 hS1
            have kf := fun i => hS.frozen i
            have HB34 := Lib.hid (bstep (balloc (balloc (bsame _) _) _) hb4)
            clear hS hS1 hb4
            go_wp2_with fail
            exact bodyPost_ret (v := .tuple #[.agg #[.int .i64 0, .slice none 0 0, .int .i64 0, .int .i64 0, .int .i64 0], .int .i64 0, .int .i64 12]) (by simp [results, Tryz.results115, go_sem, *]) rfl ⟨none, 0, 0, rfl, ⟨Bytes.none_ _ _, fun a e => by cases e⟩, by repeat (first | refine Below.setCell ?_ (by simp) _ | exact HB34.out)⟩
      · have HG := Lib.hid (CellP.get_other l h0 hk1 hk2)
        rw [HG.out]
        have HR := Lib.hid (CellP.right_other (NumP.val l 0 1) [] 0 0 0 hk1 hk2)
        obtain ⟨k, hk⟩ : ∃ k, NumP.val l 0 1 = k := ⟨_, rfl⟩
        have HK := Lib.hid hk
        rw [hk] at hk1 hk2 HR
        clear hk
        have hcf : CellP.code false = 1 := rfl
        go_enter Tryz.func115, Tryz.ntmps115
        go_wp2_with fail
        refine (NumW.num_any A n c B 0 1 l _ (H.out.alloc hB _) (by omega) (by omega) (by omega)).mono ?_
        rintro e w1 ⟨rfl, rfl⟩
        rw [HT.out, HK.out]
        go_wp2_with fail
        refine (CellW.check_any none 0 0 ⟨k, [], 0, 0, 0⟩ _ rfl (Nat.zero_le _)).mono ?_
        rintro e w1 ⟨rfl, hb⟩
        rw [HR.out]
        have hS := ((Str.new w #[.int .i64 0, .slice none 0 0, .int .i64 0, .int .i64 0, .int .i64 0] 34).alloc _).next hb
        obtain ⟨k0, k1, k2, k3, k4⟩ := str5 hS
        have kf := fun i => hS.frozen i
        clear hS
        go_wp2_with fail
        exact bodyPost_ret (v := .tuple #[.agg #[.int .i64 0, .slice none 0 0, .int .i64 0, .int .i64 0, .int .i64 0], .int .i64 0, .int .i64 12]) (by simp [results, Tryz.results115, go_sem, *]) rfl ⟨none, 0, 0, rfl, ⟨Bytes.none_ _ _, fun a e => by cases e⟩, by repeat (first | refine Below.setCell ?_ (by simp) _ | exact bstep (balloc (balloc (bsame _) _) _) hb)⟩
theorem get_any (A : Option Addr) (n c B : Nat) (l : List UInt8) (w : World) (h : Bytes w B A n c l) (hB : B ≤ w.heap.size) :
    Calls Tryz.prog 115 #[.slice A n c] w (GotCell w (CellP.get l)) := (get_new A n c B l w h hB).mono fun _ _ h => h.got
end Go.Proofs.YtpdfnlhhnodnjaaGreat.CellGet
end
section
namespace Go.Proofs.YtpdfnlhhnodnjaaGreat.SlotGet
open Go.RowKit
/-- the call hands back this item, and this error's number -/
def GotItem (w : World) (r : Item × Int) (e : Ending) (w' : World) : Prop := ∃ A n cap, e = .returned (.tuple #[.agg #[.int .i64 r.1.state, .string r.1.key, .int .i64 r.1.cell.kind, .slice A n cap, .int .i64 r.1.cell.lo, .int .i64 r.1.cell.hi, .int .i64 r.1.cell.val], .int .i64 r.2]) ∧
  Bytes w' w'.heap.size A n cap r.1.cell.data ∧ Below w.heap.size w w'
end Go.Proofs.YtpdfnlhhnodnjaaGreat.SlotGet
end
