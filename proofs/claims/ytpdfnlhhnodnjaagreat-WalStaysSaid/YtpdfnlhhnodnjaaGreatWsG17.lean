/-
  Parts of the proof of WalStays.
-/
import Derived.Test.YtpdfnlhhnodnjaaGreatWsG4
import Derived.Test.YtpdfnlhhnodnjaaGreatWsG16
import Derived.Test.YtpdfnlhhnodnjaaGreatWsG8
import Derived.Test.YtpdfnlhhnodnjaaGreatWsG13
section
namespace Go.Proofs.YtpdfnlhhnodnjaaGreat.PatchP
theorem flag_eq (b : Bool) : (flag b == 1) = b := by cases b <;> rfl
theorem got_byte {x : PatchX} {more : List UInt8} : (body x ++ more)[2]? = some (if x.fresh then 1 else 0) := by
  have h1 : BeP.parts 1 (flag x.fresh) = [if x.fresh then 1 else 0] := by cases x.fresh <;> decide
  have h2 := BeP.parts_length 2 x.page
  have e : body x ++ more = BeP.parts 2 x.page ++ ((if x.fresh then 1 else 0) :: (BeP.parts 2 (x.runs.length : Nat) ++ runsB x.runs ++ more)) := by
    unfold body head
    rw [h1]; simp
  rw [e, List.getElem?_append_right (by omega), h2]
  rfl
end Go.Proofs.YtpdfnlhhnodnjaaGreat.PatchP
namespace Go.Proofs.YtpdfnlhhnodnjaaGreat.PatchW
open Go.RowKit
set_option linter.unusedVariables false
set_option linter.unusedSimpArgs false
attribute [local go_sem ↓] app_fold cut_fold
theorem infoR : (Tryz.prog.info? 90).map (fun i => (i.zero, i.size, i.bytes)) = some (some (.agg #[.int .i64 0, .slice none 0 0]), 2, 32) := by kernel_rfl
/-- what parse's rounds keep -/
structure PR (w wr : World) (x : PatchX) (k : Nat) (Ak : Option Addr) (ck : Nat) : Prop where
  res : Str wr w.heap.size #[.int .i64 0, .bool false, .slice none 0 0]
  box : Str wr (w.heap.size + 1) #[.int .i64 x.page, .bool x.fresh, .slice Ak k ck]
  own : OwnE RunE 90 wr (w.heap.size + 2) Ak k ck (x.runs.take k)
  bel : Below w.heap.size w wr
set_option maxRecDepth 100000 in
set_option maxHeartbeats 4000000 in
theorem parse_any (x : PatchX) (more : List UInt8) (A : Option Addr) (n c B : Nat) (w : World) (hR : PatchP.Right x) (h : Bytes w B A n c (PatchP.body x ++ more)) (hB : B ≤ w.heap.size) :
    Calls Tryz.prog 107 #[.slice A n c] w fun e w' => ∃ A2 c2, e = .returned (.tuple #[.agg #[.int .i64 x.page, .bool x.fresh, .slice A2 x.runs.length c2], .int .i64 ((PatchP.body x).length : Nat), .bool true]) ∧ OwnE RunE 90 w' w.heap.size A2 x.runs.length c2 x.runs ∧ Below w.heap.size w w' := by
  obtain ⟨i0, hi0, iz0, iz1, iz2⟩ := info_parts infoR
  have HI0 := Lib.hid (And.intro hi0 (And.intro iz0 (And.intro iz1 iz2)))
  clear hi0 iz0 iz1 iz2
  have hlen := h.len
  have hcap := Nat.le_trans h.2.1 h.2.2.1
  unfold maxLen at hcap
  have hnc := h.2.1
  have hc2 := h.2.2.1
  unfold maxLen at hc2
  have hbl : (PatchP.body x).length ≤ n := by rw [← hlen, List.length_append]; omega
  have hbm := PatchP.body_le hR
  have h5 : 5 ≤ (PatchP.body x).length := by unfold PatchP.body; rw [List.length_append, PatchP.head_length]; omega
  have H := Lib.hid h
  have hv0 := PatchP.got_page (more := more) hR
  have hv2 := PatchP.got_flag (more := more) hR
  have hv3 := PatchP.got_count (more := more) hR
  have ht0 := NumW.there_yes (PatchP.body x ++ more) 0 2 (by omega)
  have ht2 := NumW.there_yes (PatchP.body x ++ more) 2 1 (by omega)
  have ht3 := NumW.there_yes (PatchP.body x ++ more) 3 2 (by omega)
  have HN := Lib.hid (fun k r (hr : x.runs[k]? = some r) => And.intro (PatchP.got_at (more := more) hR hr) (And.intro (PatchP.got_len (more := more) hR hr) (And.intro (PatchP.got_data (more := more) hr) (And.intro (PatchP.place_fits hr) (And.intro (PatchP.place_succ x k r hr) (PatchP.in_runs hR hr))))))
  have HPA := Lib.hid (PatchP.place_all x)
  have hp0 := PatchP.place_zero x
  have hfe := PatchP.flag_eq x.fresh
  have hrl := hR.2.2.1
  have hpg : In64 x.page := ⟨by have := hR.1; omega, by have := hR.2.1; omega⟩
  obtain ⟨L, hL⟩ : ∃ L, PatchP.body x ++ more = L := ⟨_, rfl⟩
  rw [hL] at H hv0 hv2 hv3 ht0 ht2 ht3 HN hlen
  have HV0 := Lib.hid (And.intro hv0 ht0)
  have HV2 := Lib.hid (And.intro hv2 ht2)
  have HV3 := Lib.hid (And.intro hv3 ht3)
  clear hL h hR hv0 hv2 hv3 ht0 ht2 ht3
  obtain ⟨N, hN⟩ : ∃ N, (PatchP.body x).length = N := ⟨_, rfl⟩
  rw [hN] at HPA HN hbl h5 hbm ⊢
  obtain ⟨R, hRl⟩ : ∃ R, x.runs.length = R := ⟨_, rfl⟩
  rw [hRl] at HV3 HPA hrl ⊢
  have HRL := Lib.hid hRl
  clear hN hRl
  obtain ⟨W0, hW0⟩ : ∃ W, w.alloc (.cells #[.int .i64 0, .bool false, .slice none 0 0] 68) = W := ⟨_, rfl⟩
  obtain ⟨HS0, HB0, hw0, hz0⟩ := new1 hW0
  have H0 := Lib.hid (H.out.below (HB0.out.mono hB))
  go_enter Tryz.func107, Tryz.ntmps107
  go_wp2_with fail
  refine (NumW.num_any A n c B 0 2 L W0 H0.out (by omega) (by omega) (by omega)).mono ?_
  rintro e w' ⟨rfl, rfl⟩
  rw [HV0.out.1, HV0.out.2]
  go_wp2_with fail
  refine (NumW.num_any A n c B 2 1 L _ H0.out (by omega) (by omega) (by omega)).mono ?_
  rintro e w' ⟨rfl, rfl⟩
  rw [HV2.out.1, HV2.out.2]
  go_wp2_with fail
  refine (NumW.num_any A n c B 3 2 L _ H0.out (by omega) (by omega) (by omega)).mono ?_
  rintro e w' ⟨rfl, rfl⟩
  rw [HV3.out.1, HV3.out.2]
  go_wp2
  obtain ⟨W1, hW1⟩ : ∃ W, W0.alloc (.cells #[.int .i64 x.page, .bool x.fresh, .slice none 0 0] 68) = W := ⟨_, rfl⟩
  obtain ⟨HS1, HB1, hw1, hz1⟩ := new1 hW1
  rw [hz0] at HS1
  have HP : Hid (PR w W1 x 0 none 0) := Lib.hid ⟨HS0.out.next HB1.out, HS1.out, by simpa using OwnE.none_ RunE 90 W1 (w.heap.size + 2), bstep HB0.out HB1.out⟩
  have hs1 := HP.out.bel.size
  rw [hW1]
  clear HS0 HS1 HB0 HB1 hz1 hW1
  go_loopw [12, 40] (fun av iv wr => ∃ (k : Nat) (Ak : Option Addr) (ck : Nat), k ≤ R ∧ iv = .int .i64 (k : Int) ∧ av = .int .i64 (PatchP.place x k : Int) ∧ Hid (PR w wr x k Ak ck)) (fun _ iv _ => R - (intOf iv).toNat)
  case atStart => exact ⟨0, none, 0, Nat.zero_le _, rfl, by rw [hp0]; rfl, HP⟩
  case round =>
    obtain ⟨k, Ak, ck, hk, rfl, rfl, HQ⟩ := hrel
    clear HP hs1 hfe hp0
    have hwr := HQ.out.bel.size
    have g0 := str3 HQ.out.box
    have hl0 := HQ.out.box.lt
    have g1 := str3 HQ.out.res
    have hl1 := HQ.out.res.lt
    by_cases hlt : k < R
    · have hd : decide ((k : Int) < (R : Int)) = true := by simp; omega
      obtain ⟨r, hr⟩ : ∃ r, x.runs[k]? = some r := ⟨_, List.getElem?_eq_getElem (by rw [HRL.out]; exact hlt)⟩
      obtain ⟨q1, q2, q3, q4, q5, q6, q7, q8, q9⟩ := HN.out k r hr
      obtain ⟨rl, hrll⟩ : ∃ m, r.data.length = m := ⟨_, rfl⟩
      rw [hrll] at q2 q3 q4 q5 q8 q9
      obtain ⟨pl, hpl⟩ : ∃ m, PatchP.place x k = m := ⟨_, rfl⟩
      rw [hpl] at q1 q2 q3 q4 q5 ⊢
      have hpn : pl + 4 + rl ≤ n := by omega
      have HQ1 := Lib.hid (And.intro q1 (NumW.there_yes L pl 2 (by omega)))
      have HQ2 := Lib.hid (And.intro q2 (NumW.there_yes L (pl + 2) 2 (by omega)))
      have hdat := H.out.cut (pl + 4) (pl + 4 + rl) (pl + 4 + rl) (by omega) (by omega) (Nat.le_refl _) (by omega)
      rw [show pl + 4 + rl - (pl + 4) = rl by omega, q3] at hdat
      have HDAT := Lib.hid hdat
      have HQ5 := Lib.hid q5
      have HIR : Hid (In64 r.at_) := Lib.hid ⟨by omega, by omega⟩
      have hd2 : decide ((n : Int) - ((pl : Int) + 4) < (rl : Int)) = false := by simp; omega
      have hn1 : ((pl : Int) + 4).toNat = pl + 4 := by omega
      have hn2 : ((pl : Int) + 4 + (rl : Int)).toNat = pl + 4 + rl := by omega
      have HTK := Lib.hid (show x.runs.take (k + 1) = x.runs.take k ++ [r] by
        obtain ⟨hk1, e⟩ := List.getElem?_eq_some_iff.1 hr
        rw [List.take_succ_eq_append_getElem hk1, e])
      have HR := Lib.hid (And.intro hr hrll)
      have hrp1 := q6
      have hrp2 := q7
      obtain ⟨rp, rd⟩ := r
      dsimp only at *
      have hpe : ((pl + 2 : Nat) : Int) = (pl : Int) + 2 := by omega
      clear q1 q2 q3 q5 hdat hr hrll hpl
      go_wp2_with fail
      refine (NumW.num_any A n c B pl 2 L wr (H.out.below (HQ.out.bel.mono hB)) (by omega) (by omega) (by omega)).mono ?_
      rintro e w' ⟨rfl, rfl⟩
      rw [HQ1.out.1, HQ1.out.2]
      go_wp2_with fail
      have hnum := NumW.num_any A n c B (pl + 2) 2 L wr (H.out.below (HQ.out.bel.mono hB)) (by omega) (by omega) (by omega)
      rw [hpe] at hnum
      refine hnum.mono ?_
      rintro e w' ⟨rfl, rfl⟩
      rw [HQ2.out.1, HQ2.out.2]
      clear hnum hpe
      have hck := HQ.out.own.elemsIn.cap
      have hckm := hck.2
      unfold maxLen at hckm
      go_wp2_with fail
      refine Reg.wp_region_box (R := (Reg.extB wr.heap.size ((w.heap.size + 1) :: (Ak.map (·.block)).toList))) (W := wr) (Reg.LineJ (Reg.Line.mk [1, 14, 16] 13 (Reg.Push.S (Reg.Push.mk (E := RunE) wr.heap.size (w.heap.size + 2) (w.heap.size + 1) 2 #[.int .i64 x.page, .bool x.fresh, .slice Ak k ck] Ak k ck (x.runs.take k) ⟨rp, rd⟩ 90 69 81 82)))) [Reg.eqv (.pointer (some ⟨w.heap.size + 1, 2, none⟩)), Reg.any, Reg.eqv (.int .i64 rp), Reg.eqv (.slice A n c), Reg.eqv (.int .i64 ((pl : Int) + 4)), Reg.eqv (.int .i64 ((pl : Int) + 4)), Reg.eqv (.int .i64 (rl : Int)), Reg.eqv (.int .i64 ((pl : Int) + 4 + (rl : Int))), Reg.eqv (.int .i64 ((pl : Int) + 4)), Reg.eqv (.int .i64 (rl : Int)), Reg.eqv (.int .i64 ((pl : Int) + 4 + (rl : Int))), Reg.eqv (.slice (cutA A (pl + 4) (pl + 4 + rl) 1) rl rl), Reg.eqv (.agg #[.int .i64 rp, .slice (cutA A (pl + 4) (pl + 4 + rl) 1) rl rl]), Reg.any, Reg.any, Reg.eqv (.pointer (some ⟨w.heap.size + 1, 2, none⟩)), Reg.any] 90 [[(11, none)], [(68, some 0)], [(13, none)], [(0, none)], [(12, none)], [(12, none)], [(15, none)], [(73, some 5), (74, some 6)], [(12, none)], [(15, none)], [(76, some 8), (77, some 9)], [(71, some 3), (72, some 4), (75, some 7), (78, some 10)], [(70, some 2), (79, some 11)], [(80, some 12)], [(69, some 1), (81, some 13)], [(11, none)], [(83, some 15), (82, some 14)]] rfl (by kernel_rfl) (by kernel_rfl) (fun _ h => Reg.line_zero (l := (Reg.Line.mk [1, 14, 16] 13 (Reg.Push.S (Reg.Push.mk (E := RunE) wr.heap.size (w.heap.size + 2) (w.heap.size + 1) 2 #[.int .i64 x.page, .bool x.fresh, .slice Ak k ck] Ak k ck (x.runs.take k) ⟨rp, rd⟩ 90 69 81 82)))) ⟨HQ.out.box, HQ.out.own.next ((bsame wr).drew), fun e => by cases e⟩ h) (by kernel_rfl) ?_ [some 68, some 69, some 70, some 71, some 72, some 73, some 74, some 75, some 76, some 77, some 78, some 79, some 80, some 81, some 82, some 83, none] (by kernel_rfl) ?_
      · refine ⟨?_, ?_, ?_, ?_, ?_, ?_, ?_, ?_, ?_, ?_, ?_, ?_, ?_, ?_, ?_, ?_, ?_, trivial⟩
        · refine Reg.oblL_ord (l := (Reg.Line.mk [1, 14, 16] 13 (Reg.Push.S (Reg.Push.mk (E := RunE) wr.heap.size (w.heap.size + 2) (w.heap.size + 1) 2 #[.int .i64 x.page, .bool x.fresh, .slice Ak k ck] Ak k ck (x.runs.take k) ⟨rp, rd⟩ 90 69 81 82)))) (by show 0 ∉ [1, 14, 16] ∧ 0 ≠ 13; decide) (Reg.extB_next rfl) (fun k1 b1 a1 w1 v1 w2 h1 h2 => Reg.Push.S_put (I := (Reg.Push.mk (E := RunE) wr.heap.size (w.heap.size + 2) (w.heap.size + 1) 2 #[.int .i64 x.page, .bool x.fresh, .slice Ak k ck] Ak k ck (x.runs.take k) ⟨rp, rd⟩ 90 69 81 82)) (b := b1) (dst := (some 68)) (by show (((some 68) : Option Nat) ≠ some 69 ∧ ((some 68) : Option Nat) ≠ some 81 ∧ ((some 68) : Option Nat) ≠ some 82); decide) k1 h1 h2) ?_
          intro ax wx hx hs
          obtain ⟨e11, -⟩ := hs
          have g11 := Reg.ev (v := .pointer (some ⟨w.heap.size + 1, 0, none⟩)) e11
          exact Reg.obl_freeL rfl (Reg.wp_eqvB (Option.some_ne_none _) (by go_simp) rfl)
        · refine Reg.oblL_line (l := (Reg.Line.mk [1, 14, 16] 13 (Reg.Push.S (Reg.Push.mk (E := RunE) wr.heap.size (w.heap.size + 2) (w.heap.size + 1) 2 #[.int .i64 x.page, .bool x.fresh, .slice Ak k ck] Ak k ck (x.runs.take k) ⟨rp, rd⟩ 90 69 81 82)))) (k := 0) rfl rfl (by show List.Nodup [1, 14, 16]; decide) (by show 1 ≠ 13; decide) (by show 1 < 17; decide) (.inl rfl) ?_
          intro b ax wx hx hs has hwb hS
          obtain ⟨e68, -⟩ := hs
          have g68 := Reg.ev (v := .pointer (some ⟨w.heap.size + 1, 2, none⟩)) e68
          have hxs : wr.heap.size ≤ wx.heap.size := Reg.KeepB.size hx
          have z0 : wx.cell? ⟨w.heap.size + 1, 2, none⟩ = some (.slice Ak k ck) := (str3 hS.1).2.2
          have z2 := hS.1.lt
          refine Oper.wp_mono (K := fun a1 w1 => a1 = ax.put (some 69) (.slice Ak k ck) ∧ w1 = wx) ?_ ?_
          · rintro a1 w1 ⟨rfl, rfl⟩
            exact ⟨⟨_, rfl, (fun h => by cases h), trivial, Reg.KeepB.of (Below.refl _ _)⟩, Reg.Push.S_zero (I := (Reg.Push.mk (E := RunE) wr.heap.size (w.heap.size + 2) (w.heap.size + 1) 2 #[.int .i64 x.page, .bool x.fresh, .slice Ak k ck] Ak k ck (x.runs.take k) ⟨rp, rd⟩ 90 69 81 82)) (b := b) hS (by rw [has]; show 69 < 90; decide) (by show (69 : Nat) ≠ 81; decide)⟩
          · clear has hS
            go_simp
        · refine Reg.oblL_ord (l := (Reg.Line.mk [1, 14, 16] 13 (Reg.Push.S (Reg.Push.mk (E := RunE) wr.heap.size (w.heap.size + 2) (w.heap.size + 1) 2 #[.int .i64 x.page, .bool x.fresh, .slice Ak k ck] Ak k ck (x.runs.take k) ⟨rp, rd⟩ 90 69 81 82)))) (by show 2 ∉ [1, 14, 16] ∧ 2 ≠ 13; decide) (Reg.extB_next rfl) (fun k1 b1 a1 w1 v1 w2 h1 h2 => Reg.Push.S_put (I := (Reg.Push.mk (E := RunE) wr.heap.size (w.heap.size + 2) (w.heap.size + 1) 2 #[.int .i64 x.page, .bool x.fresh, .slice Ak k ck] Ak k ck (x.runs.take k) ⟨rp, rd⟩ 90 69 81 82)) (b := b1) (dst := (some 70)) (by show (((some 70) : Option Nat) ≠ some 69 ∧ ((some 70) : Option Nat) ≠ some 81 ∧ ((some 70) : Option Nat) ≠ some 82); decide) k1 h1 h2) ?_
          intro ax wx hx hs
          obtain ⟨e13, -⟩ := hs
          have g13 := Reg.ev (v := .int .i64 rp) e13
          exact Reg.obl_freeL rfl (Reg.wp_eqvB (Option.some_ne_none _) (by go_simp) rfl)
        · refine Reg.oblL_ord (l := (Reg.Line.mk [1, 14, 16] 13 (Reg.Push.S (Reg.Push.mk (E := RunE) wr.heap.size (w.heap.size + 2) (w.heap.size + 1) 2 #[.int .i64 x.page, .bool x.fresh, .slice Ak k ck] Ak k ck (x.runs.take k) ⟨rp, rd⟩ 90 69 81 82)))) (by show 3 ∉ [1, 14, 16] ∧ 3 ≠ 13; decide) (Reg.extB_next rfl) (fun k1 b1 a1 w1 v1 w2 h1 h2 => Reg.Push.S_put (I := (Reg.Push.mk (E := RunE) wr.heap.size (w.heap.size + 2) (w.heap.size + 1) 2 #[.int .i64 x.page, .bool x.fresh, .slice Ak k ck] Ak k ck (x.runs.take k) ⟨rp, rd⟩ 90 69 81 82)) (b := b1) (dst := (some 71)) (by show (((some 71) : Option Nat) ≠ some 69 ∧ ((some 71) : Option Nat) ≠ some 81 ∧ ((some 71) : Option Nat) ≠ some 82); decide) k1 h1 h2) ?_
          intro ax wx hx hs
          obtain ⟨e0, -⟩ := hs
          have g0 := Reg.ev (v := .slice A n c) e0
          exact Reg.obl_freeL rfl (Reg.wp_eqvB (Option.some_ne_none _) (by go_simp) rfl)
        · refine Reg.oblL_ord (l := (Reg.Line.mk [1, 14, 16] 13 (Reg.Push.S (Reg.Push.mk (E := RunE) wr.heap.size (w.heap.size + 2) (w.heap.size + 1) 2 #[.int .i64 x.page, .bool x.fresh, .slice Ak k ck] Ak k ck (x.runs.take k) ⟨rp, rd⟩ 90 69 81 82)))) (by show 4 ∉ [1, 14, 16] ∧ 4 ≠ 13; decide) (Reg.extB_next rfl) (fun k1 b1 a1 w1 v1 w2 h1 h2 => Reg.Push.S_put (I := (Reg.Push.mk (E := RunE) wr.heap.size (w.heap.size + 2) (w.heap.size + 1) 2 #[.int .i64 x.page, .bool x.fresh, .slice Ak k ck] Ak k ck (x.runs.take k) ⟨rp, rd⟩ 90 69 81 82)) (b := b1) (dst := (some 72)) (by show (((some 72) : Option Nat) ≠ some 69 ∧ ((some 72) : Option Nat) ≠ some 81 ∧ ((some 72) : Option Nat) ≠ some 82); decide) k1 h1 h2) ?_
          intro ax wx hx hs
          obtain ⟨e12, -⟩ := hs
          have g12 := Reg.ev (v := .int .i64 ((pl : Int) + 4)) e12
          exact Reg.obl_freeL rfl (Reg.wp_eqvB (Option.some_ne_none _) (by go_simp) rfl)
        · refine Reg.oblL_ord (l := (Reg.Line.mk [1, 14, 16] 13 (Reg.Push.S (Reg.Push.mk (E := RunE) wr.heap.size (w.heap.size + 2) (w.heap.size + 1) 2 #[.int .i64 x.page, .bool x.fresh, .slice Ak k ck] Ak k ck (x.runs.take k) ⟨rp, rd⟩ 90 69 81 82)))) (by show 5 ∉ [1, 14, 16] ∧ 5 ≠ 13; decide) (Reg.extB_next rfl) (fun k1 b1 a1 w1 v1 w2 h1 h2 => Reg.Push.S_put (I := (Reg.Push.mk (E := RunE) wr.heap.size (w.heap.size + 2) (w.heap.size + 1) 2 #[.int .i64 x.page, .bool x.fresh, .slice Ak k ck] Ak k ck (x.runs.take k) ⟨rp, rd⟩ 90 69 81 82)) (b := b1) (dst := (some 73)) (by show (((some 73) : Option Nat) ≠ some 69 ∧ ((some 73) : Option Nat) ≠ some 81 ∧ ((some 73) : Option Nat) ≠ some 82); decide) k1 h1 h2) ?_
          intro ax wx hx hs
          obtain ⟨e12, -⟩ := hs
          have g12 := Reg.ev (v := .int .i64 ((pl : Int) + 4)) e12
          exact Reg.obl_freeL rfl (Reg.wp_eqvB (Option.some_ne_none _) (by go_simp) rfl)
        · refine Reg.oblL_ord (l := (Reg.Line.mk [1, 14, 16] 13 (Reg.Push.S (Reg.Push.mk (E := RunE) wr.heap.size (w.heap.size + 2) (w.heap.size + 1) 2 #[.int .i64 x.page, .bool x.fresh, .slice Ak k ck] Ak k ck (x.runs.take k) ⟨rp, rd⟩ 90 69 81 82)))) (by show 6 ∉ [1, 14, 16] ∧ 6 ≠ 13; decide) (Reg.extB_next rfl) (fun k1 b1 a1 w1 v1 w2 h1 h2 => Reg.Push.S_put (I := (Reg.Push.mk (E := RunE) wr.heap.size (w.heap.size + 2) (w.heap.size + 1) 2 #[.int .i64 x.page, .bool x.fresh, .slice Ak k ck] Ak k ck (x.runs.take k) ⟨rp, rd⟩ 90 69 81 82)) (b := b1) (dst := (some 74)) (by show (((some 74) : Option Nat) ≠ some 69 ∧ ((some 74) : Option Nat) ≠ some 81 ∧ ((some 74) : Option Nat) ≠ some 82); decide) k1 h1 h2) ?_
          intro ax wx hx hs
          obtain ⟨e15, -⟩ := hs
          have g15 := Reg.ev (v := .int .i64 (rl : Int)) e15
          exact Reg.obl_freeL rfl (Reg.wp_eqvB (Option.some_ne_none _) (by go_simp) rfl)
        · refine Reg.oblL_ord (l := (Reg.Line.mk [1, 14, 16] 13 (Reg.Push.S (Reg.Push.mk (E := RunE) wr.heap.size (w.heap.size + 2) (w.heap.size + 1) 2 #[.int .i64 x.page, .bool x.fresh, .slice Ak k ck] Ak k ck (x.runs.take k) ⟨rp, rd⟩ 90 69 81 82)))) (by show 7 ∉ [1, 14, 16] ∧ 7 ≠ 13; decide) (Reg.extB_next rfl) (fun k1 b1 a1 w1 v1 w2 h1 h2 => Reg.Push.S_put (I := (Reg.Push.mk (E := RunE) wr.heap.size (w.heap.size + 2) (w.heap.size + 1) 2 #[.int .i64 x.page, .bool x.fresh, .slice Ak k ck] Ak k ck (x.runs.take k) ⟨rp, rd⟩ 90 69 81 82)) (b := b1) (dst := (some 75)) (by show (((some 75) : Option Nat) ≠ some 69 ∧ ((some 75) : Option Nat) ≠ some 81 ∧ ((some 75) : Option Nat) ≠ some 82); decide) k1 h1 h2) ?_
          intro ax wx hx hs
          obtain ⟨e73, e74, -⟩ := hs
          have g73 := Reg.ev (v := .int .i64 ((pl : Int) + 4)) e73
          have g74 := Reg.ev (v := .int .i64 (rl : Int)) e74
          refine Reg.obl_freeL rfl ?_
          exact Reg.wp_eqvB (Option.some_ne_none _) (by go_simp; exact IntWalk.i64_in _ (by omega)) rfl
        · refine Reg.oblL_ord (l := (Reg.Line.mk [1, 14, 16] 13 (Reg.Push.S (Reg.Push.mk (E := RunE) wr.heap.size (w.heap.size + 2) (w.heap.size + 1) 2 #[.int .i64 x.page, .bool x.fresh, .slice Ak k ck] Ak k ck (x.runs.take k) ⟨rp, rd⟩ 90 69 81 82)))) (by show 8 ∉ [1, 14, 16] ∧ 8 ≠ 13; decide) (Reg.extB_next rfl) (fun k1 b1 a1 w1 v1 w2 h1 h2 => Reg.Push.S_put (I := (Reg.Push.mk (E := RunE) wr.heap.size (w.heap.size + 2) (w.heap.size + 1) 2 #[.int .i64 x.page, .bool x.fresh, .slice Ak k ck] Ak k ck (x.runs.take k) ⟨rp, rd⟩ 90 69 81 82)) (b := b1) (dst := (some 76)) (by show (((some 76) : Option Nat) ≠ some 69 ∧ ((some 76) : Option Nat) ≠ some 81 ∧ ((some 76) : Option Nat) ≠ some 82); decide) k1 h1 h2) ?_
          intro ax wx hx hs
          obtain ⟨e12, -⟩ := hs
          have g12 := Reg.ev (v := .int .i64 ((pl : Int) + 4)) e12
          exact Reg.obl_freeL rfl (Reg.wp_eqvB (Option.some_ne_none _) (by go_simp) rfl)
        · refine Reg.oblL_ord (l := (Reg.Line.mk [1, 14, 16] 13 (Reg.Push.S (Reg.Push.mk (E := RunE) wr.heap.size (w.heap.size + 2) (w.heap.size + 1) 2 #[.int .i64 x.page, .bool x.fresh, .slice Ak k ck] Ak k ck (x.runs.take k) ⟨rp, rd⟩ 90 69 81 82)))) (by show 9 ∉ [1, 14, 16] ∧ 9 ≠ 13; decide) (Reg.extB_next rfl) (fun k1 b1 a1 w1 v1 w2 h1 h2 => Reg.Push.S_put (I := (Reg.Push.mk (E := RunE) wr.heap.size (w.heap.size + 2) (w.heap.size + 1) 2 #[.int .i64 x.page, .bool x.fresh, .slice Ak k ck] Ak k ck (x.runs.take k) ⟨rp, rd⟩ 90 69 81 82)) (b := b1) (dst := (some 77)) (by show (((some 77) : Option Nat) ≠ some 69 ∧ ((some 77) : Option Nat) ≠ some 81 ∧ ((some 77) : Option Nat) ≠ some 82); decide) k1 h1 h2) ?_
          intro ax wx hx hs
          obtain ⟨e15, -⟩ := hs
          have g15 := Reg.ev (v := .int .i64 (rl : Int)) e15
          exact Reg.obl_freeL rfl (Reg.wp_eqvB (Option.some_ne_none _) (by go_simp) rfl)
        · refine Reg.oblL_ord (l := (Reg.Line.mk [1, 14, 16] 13 (Reg.Push.S (Reg.Push.mk (E := RunE) wr.heap.size (w.heap.size + 2) (w.heap.size + 1) 2 #[.int .i64 x.page, .bool x.fresh, .slice Ak k ck] Ak k ck (x.runs.take k) ⟨rp, rd⟩ 90 69 81 82)))) (by show 10 ∉ [1, 14, 16] ∧ 10 ≠ 13; decide) (Reg.extB_next rfl) (fun k1 b1 a1 w1 v1 w2 h1 h2 => Reg.Push.S_put (I := (Reg.Push.mk (E := RunE) wr.heap.size (w.heap.size + 2) (w.heap.size + 1) 2 #[.int .i64 x.page, .bool x.fresh, .slice Ak k ck] Ak k ck (x.runs.take k) ⟨rp, rd⟩ 90 69 81 82)) (b := b1) (dst := (some 78)) (by show (((some 78) : Option Nat) ≠ some 69 ∧ ((some 78) : Option Nat) ≠ some 81 ∧ ((some 78) : Option Nat) ≠ some 82); decide) k1 h1 h2) ?_
          intro ax wx hx hs
          obtain ⟨e76, e77, -⟩ := hs
          have g76 := Reg.ev (v := .int .i64 ((pl : Int) + 4)) e76
          have g77 := Reg.ev (v := .int .i64 (rl : Int)) e77
          refine Reg.obl_freeL rfl ?_
          exact Reg.wp_eqvB (Option.some_ne_none _) (by go_simp; exact IntWalk.i64_in _ (by omega)) rfl
        · refine Reg.oblL_ord (l := (Reg.Line.mk [1, 14, 16] 13 (Reg.Push.S (Reg.Push.mk (E := RunE) wr.heap.size (w.heap.size + 2) (w.heap.size + 1) 2 #[.int .i64 x.page, .bool x.fresh, .slice Ak k ck] Ak k ck (x.runs.take k) ⟨rp, rd⟩ 90 69 81 82)))) (by show 11 ∉ [1, 14, 16] ∧ 11 ≠ 13; decide) (Reg.extB_next rfl) (fun k1 b1 a1 w1 v1 w2 h1 h2 => Reg.Push.S_put (I := (Reg.Push.mk (E := RunE) wr.heap.size (w.heap.size + 2) (w.heap.size + 1) 2 #[.int .i64 x.page, .bool x.fresh, .slice Ak k ck] Ak k ck (x.runs.take k) ⟨rp, rd⟩ 90 69 81 82)) (b := b1) (dst := (some 79)) (by show (((some 79) : Option Nat) ≠ some 69 ∧ ((some 79) : Option Nat) ≠ some 81 ∧ ((some 79) : Option Nat) ≠ some 82); decide) k1 h1 h2) ?_
          intro ax wx hx hs
          obtain ⟨e71, e72, e75, e78, -⟩ := hs
          have g71 := Reg.ev (v := .slice A n c) e71
          have g72 := Reg.ev (v := .int .i64 ((pl : Int) + 4)) e72
          have g75 := Reg.ev (v := .int .i64 ((pl : Int) + 4 + (rl : Int))) e75
          have g78 := Reg.ev (v := .int .i64 ((pl : Int) + 4 + (rl : Int))) e78
          refine Reg.obl_freeL rfl ?_
          have hq1 : pl + 4 + rl - (pl + 4) = rl := by omega
          exact Reg.wp_eqvB (Option.some_ne_none _) (by go_simp; first | done | (rw [if_pos (by omega), if_pos (by omega), if_pos (by omega)])) rfl
        · refine Reg.oblL_ord (l := (Reg.Line.mk [1, 14, 16] 13 (Reg.Push.S (Reg.Push.mk (E := RunE) wr.heap.size (w.heap.size + 2) (w.heap.size + 1) 2 #[.int .i64 x.page, .bool x.fresh, .slice Ak k ck] Ak k ck (x.runs.take k) ⟨rp, rd⟩ 90 69 81 82)))) (by show 12 ∉ [1, 14, 16] ∧ 12 ≠ 13; decide) (Reg.extB_next rfl) (fun k1 b1 a1 w1 v1 w2 h1 h2 => Reg.Push.S_put (I := (Reg.Push.mk (E := RunE) wr.heap.size (w.heap.size + 2) (w.heap.size + 1) 2 #[.int .i64 x.page, .bool x.fresh, .slice Ak k ck] Ak k ck (x.runs.take k) ⟨rp, rd⟩ 90 69 81 82)) (b := b1) (dst := (some 80)) (by show (((some 80) : Option Nat) ≠ some 69 ∧ ((some 80) : Option Nat) ≠ some 81 ∧ ((some 80) : Option Nat) ≠ some 82); decide) k1 h1 h2) ?_
          intro ax wx hx hs
          obtain ⟨e70, e79, -⟩ := hs
          have g70 := Reg.ev (v := .int .i64 rp) e70
          have g79 := Reg.ev (v := .slice (cutA A (pl + 4) (pl + 4 + rl) 1) rl rl) e79
          exact Reg.obl_freeL rfl (Reg.wp_eqvB (Option.some_ne_none _) (by go_simp) rfl)
        · refine Reg.oblL_side (l := (Reg.Line.mk [1, 14, 16] 13 (Reg.Push.S (Reg.Push.mk (E := RunE) wr.heap.size (w.heap.size + 2) (w.heap.size + 1) 2 #[.int .i64 x.page, .bool x.fresh, .slice Ak k ck] Ak k ck (x.runs.take k) ⟨rp, rd⟩ 90 69 81 82)))) rfl rfl (by show 13 ∉ [1, 14, 16]; decide) (by show 13 < 17; decide) ?_
          intro k1 ax wx hx hs has hS
          obtain ⟨e80, -⟩ := hs
          have g80 := Reg.ev (v := .agg #[.int .i64 rp, .slice (cutA A (pl + 4) (pl + 4 + rl) 1) rl rl]) e80
          have hxs : wr.heap.size ≤ wx.heap.size := Reg.KeepB.size hx
          have hbx : Below w.heap.size wr wx := Reg.KeepB.below hx hwr (fun b hb => by rcases List.mem_cons.1 hb with rfl | hb; exact Nat.le_succ _; obtain ⟨a, e, rfl⟩ := Option.map_eq_some_iff.1 (Option.mem_toList.1 hb); have := HQ.out.own.ge a e; omega)
          have hdx : Bytes (hid Ak wx) wx.heap.size (cutA A (pl + 4) (pl + 4 + rl) 1) rl rl rd := ((HDAT.out.below ((HQ.out.bel.trans hbx).mono hB)).sub (hid_lt Ak wx (fun a e => by have := HQ.out.own.ge a e; omega))).more (by omega)
          refine Oper.wp_mono (K := fun a1 w1 => a1 = ax.put (some 81) (.slice (some ⟨wx.heap.size, 0, none⟩) 1 1) ∧ w1 = wx.alloc (.cells #[.int .i64 rp, .slice (cutA A (pl + 4) (pl + 4 + rl) 1) rl rl] 90)) ?_ ?_
          · rintro a1 w1 ⟨rfl, rfl⟩
            exact ⟨⟨_, rfl, (fun h => by cases h), trivial, Reg.KeepB.of ((balloc (bsame wx) _).mono hxs)⟩, Reg.Push.S_side (I := (Reg.Push.mk (E := RunE) wr.heap.size (w.heap.size + 2) (w.heap.size + 1) 2 #[.int .i64 x.page, .bool x.fresh, .slice Ak k ck] Ak k ck (x.runs.take k) ⟨rp, rd⟩ 90 69 81 82)) k1 hS (by rw [has]; show 81 < 90; decide) (by show (81 : Nat) ≠ 69; decide) (runV ⟨rp, rd⟩ _ rl rl) 90 ⟨_, rl, rl, rfl, hdx, HIR.out⟩⟩
          · clear has hS hdx hbx
            go_simp
        · refine Reg.oblL_line (l := (Reg.Line.mk [1, 14, 16] 13 (Reg.Push.S (Reg.Push.mk (E := RunE) wr.heap.size (w.heap.size + 2) (w.heap.size + 1) 2 #[.int .i64 x.page, .bool x.fresh, .slice Ak k ck] Ak k ck (x.runs.take k) ⟨rp, rd⟩ 90 69 81 82)))) (k := 1) rfl rfl (by show List.Nodup [1, 14, 16]; decide) (by show 14 ≠ 13; decide) (by show 14 < 17; decide) (.inr ⟨1, rfl, by kernel_rfl⟩) ?_
          intro b ax wx hx hs has hwb hS
          obtain ⟨e69, e81, -⟩ := hs
          have hxs : wr.heap.size ≤ wx.heap.size := Reg.KeepB.size hx
          obtain rfl := hwb (by kernel_rfl)
          obtain ⟨A2, A', c', w4, k1, k1', k2, k3, k4⟩ := Reg.Push.S_one (I := (Reg.Push.mk (E := RunE) wr.heap.size (w.heap.size + 2) (w.heap.size + 1) 2 #[.int .i64 x.page, .bool x.fresh, .slice Ak k ck] Ak k ck (x.runs.take k) ⟨rp, rd⟩ 90 69 81 82)) (P := Tryz.prog) 66 66 i0 _ 32 Tryz.underlying66 HI0.out.1 HI0.out.2.1 HI0.out.2.2.1 HI0.out.2.2.2 rfl hS (by rw [has]; show 82 < 90; decide) hxs (by show w.heap.size + 2 ≤ wr.heap.size; omega) (by show w.heap.size + 1 < w.heap.size + 2; omega) (by show k + 1 ≤ maxLen; unfold maxLen; omega) (by show (k + 1) * 32 ≤ _; omega)
          exact wp_appT (.tmp 69) (.tmp 81) rfl rfl k1 k1' k2 ⟨⟨_, rfl, (fun h => by cases h), trivial, k4⟩, k3⟩
        · refine Reg.oblL_ord (l := (Reg.Line.mk [1, 14, 16] 13 (Reg.Push.S (Reg.Push.mk (E := RunE) wr.heap.size (w.heap.size + 2) (w.heap.size + 1) 2 #[.int .i64 x.page, .bool x.fresh, .slice Ak k ck] Ak k ck (x.runs.take k) ⟨rp, rd⟩ 90 69 81 82)))) (by show 15 ∉ [1, 14, 16] ∧ 15 ≠ 13; decide) (Reg.extB_next rfl) (fun k1 b1 a1 w1 v1 w2 h1 h2 => Reg.Push.S_put (I := (Reg.Push.mk (E := RunE) wr.heap.size (w.heap.size + 2) (w.heap.size + 1) 2 #[.int .i64 x.page, .bool x.fresh, .slice Ak k ck] Ak k ck (x.runs.take k) ⟨rp, rd⟩ 90 69 81 82)) (b := b1) (dst := (some 83)) (by show (((some 83) : Option Nat) ≠ some 69 ∧ ((some 83) : Option Nat) ≠ some 81 ∧ ((some 83) : Option Nat) ≠ some 82); decide) k1 h1 h2) ?_
          intro ax wx hx hs
          obtain ⟨e11, -⟩ := hs
          have g11 := Reg.ev (v := .pointer (some ⟨w.heap.size + 1, 0, none⟩)) e11
          exact Reg.obl_freeL rfl (Reg.wp_eqvB (Option.some_ne_none _) (by go_simp) rfl)
        · refine Reg.oblL_line (l := (Reg.Line.mk [1, 14, 16] 13 (Reg.Push.S (Reg.Push.mk (E := RunE) wr.heap.size (w.heap.size + 2) (w.heap.size + 1) 2 #[.int .i64 x.page, .bool x.fresh, .slice Ak k ck] Ak k ck (x.runs.take k) ⟨rp, rd⟩ 90 69 81 82)))) (k := 2) rfl rfl (by show List.Nodup [1, 14, 16]; decide) (by show 16 ≠ 13; decide) (by show 16 < 17; decide) (.inr ⟨14, rfl, by kernel_rfl⟩) ?_
          intro b ax wx hx hs has hwb hS
          obtain ⟨e83, e82, -⟩ := hs
          have g83 := Reg.ev (v := .pointer (some ⟨w.heap.size + 1, 2, none⟩)) e83
          have hxs : wr.heap.size ≤ wx.heap.size := Reg.KeepB.size hx
          obtain rfl : b = true := hS.1
          obtain ⟨A', c', k1, k2, k3⟩ := Reg.Push.S_two (I := (Reg.Push.mk (E := RunE) wr.heap.size (w.heap.size + 2) (w.heap.size + 1) 2 #[.int .i64 x.page, .bool x.fresh, .slice Ak k ck] Ak k ck (x.runs.take k) ⟨rp, rd⟩ 90 69 81 82)) runE_byt hS (by show w.heap.size + 1 < w.heap.size + 2; omega) (by rfl)
          have g82 := Reg.ev k1
          have z1 : wx.frozen? ⟨w.heap.size + 1, 2, none⟩ = false := k2.frozen 2
          have z0 : wx.cell? ⟨w.heap.size + 1, 2, none⟩ = some (.slice Ak k ck) := (str3 k2).2.2
          have z2 := k2.lt
          refine Oper.wp_mono (K := fun a1 w1 => a1 = ax ∧ w1 = wx.setCell ⟨w.heap.size + 1, 2, none⟩ (.slice A' (k + 1) c')) ?_ ?_
          · rintro a1 w1 ⟨rfl, rfl⟩
            exact ⟨⟨undef, rfl, fun _ => rfl, trivial, Reg.KeepB.grown (Reg.KeepB.of (Below.refl _ wx)) (grown_set (grown_refl wx _) 2 _) hxs (.inr (List.mem_cons_self ..))⟩, k3⟩
          · clear has k3
            go_simp
      · intro W2 listed hwf hall
        simp only [Reg.Fin]
        rintro _ rfl v69 h69 _ rfl _ rfl _ rfl _ rfl _ rfl _ rfl _ rfl _ rfl _ rfl _ rfl _ rfl v81 h81 v82 h82 _ rfl vn16 hn16
        intro hJ
        obtain ⟨bL, hbL, hSL⟩ := Reg.line_end (l := (Reg.Line.mk [1, 14, 16] 13 (Reg.Push.S (Reg.Push.mk (E := RunE) wr.heap.size (w.heap.size + 2) (w.heap.size + 1) 2 #[.int .i64 x.page, .bool x.fresh, .slice Ak k ck] Ak k ck (x.runs.take k) ⟨rp, rd⟩ 90 69 81 82)))) (n := 17) hall (by show ∀ c ∈ [1, 14, 16], c < 17; decide) hJ
        clear hJ hall hbL
        go_simp
        obtain ⟨-, A', c', hbx5, hO5⟩ := hSL
        dsimp only at hbx5
        have hO6 : OwnE RunE 90 W2 (w.heap.size + 2) A' (k + 1) c' (x.runs.take k ++ [⟨rp, rd⟩]) := hO5
        rw [← HTK.out] at hO6
        have hwf' : Reg.KeepB wr.heap.size ((w.heap.size + 1) :: (Ak.map (·.block)).toList) wr W2 := hwf
        have hge := HQ.out.own.ge
        have HQ2' : Hid (PR w W2 x (k + 1) A' c') := Lib.hid ⟨HQ.out.res.keepB hwf' (fun hm => by
          rcases List.mem_cons.1 hm with e | hm
          · omega
          · obtain ⟨a, e, h2⟩ := Option.map_eq_some_iff.1 (Option.mem_toList.1 hm); have := hge a e; omega), hbx5, hO6, HQ.out.bel.trans (hwf'.below hwr (fun b hb => by
          rcases List.mem_cons.1 hb with rfl | hm
          · omega
          · obtain ⟨a, e, rfl⟩ := Option.map_eq_some_iff.1 (Option.mem_toList.1 hm); have := hge a e; omega))⟩
        clear hbx5 hO5 hO6 hwf hwf' hge HQ g0 hl0 g1 hl1
        go_wp2
        go_roundw
        case rel => exact ⟨k + 1, A', c', by omega, by go_num, by rw [HQ5.out]; go_num, HQ2'⟩
        case measure => simp [intOf]; omega
    · have hd : decide ((k : Int) < (R : Int)) = false := by simp; omega
      have hkn : k = R := by omega
      subst hkn
      rw [HPA.out]
      have hown := HQ.out.own
      rw [List.take_of_length_le (by rw [HRL.out]; exact Nat.le_refl _)] at hown
      have HOWN := Lib.hid hown
      have hf1 := fun j => HQ.out.res.frozen j
      have hfin : OwnE RunE 90 (((wr.setCell ⟨w.heap.size, 0, none⟩ (.int .i64 x.page)).setCell ⟨w.heap.size, 1, none⟩ (.bool x.fresh)).setCell ⟨w.heap.size, 2, none⟩ (.slice Ak k ck)) w.heap.size Ak k ck x.runs := by
        have hg : wr.grownBy (((wr.setCell ⟨w.heap.size, 0, none⟩ (.int .i64 x.page)).setCell ⟨w.heap.size, 1, none⟩ (.bool x.fresh)).setCell ⟨w.heap.size, 2, none⟩ (.slice Ak k ck)) (some w.heap.size) := grown_set (grown_set (grown_set (grown_refl wr _) 0 _) 1 _) 2 _
        exact (OwnE.grownU runE_byt hown HQ.out.res (by decide) hg (fun a e => by have := hown.ge a e; omega)).less (by omega)
      have hbel : Below w.heap.size w (((wr.setCell ⟨w.heap.size, 0, none⟩ (.int .i64 x.page)).setCell ⟨w.heap.size, 1, none⟩ (.bool x.fresh)).setCell ⟨w.heap.size, 2, none⟩ (.slice Ak k ck)) :=
        below_grown HQ.out.bel (grown_set (grown_set (grown_set (grown_refl wr _) 0 _) 1 _) 2 _) (Nat.le_refl _)
      have HFIN := Lib.hid (And.intro hfin hbel)
      clear hown hfin hbel
      go_wp2
      exact bodyPost_ret (v := .tuple #[.agg #[.int .i64 x.page, .bool x.fresh, .slice Ak k ck], .int .i64 (N : Int), .bool true]) (by simp [results, Tryz.results107, go_sem, *]) rfl ⟨Ak, ck, rfl, HFIN.out.1, HFIN.out.2⟩
end Go.Proofs.YtpdfnlhhnodnjaaGreat.PatchW
end
