/-
  The walk of the reference's Go: an insert.
-/
import Derived.Test.YtbcpepjedhafbaaTxnIns
import Derived.BigQuiet
namespace Go.Proofs.Ytbcpepjedhafbaa.RefTxn
open Go.RowKit Go.Maps TxnW
set_option linter.unusedVariables false
set_option linter.unusedSimpArgs false
variable {A : Option Addr} {n c : Nat} {nx : Int} {L : List TxnX}
attribute [local go_sem ↓] app_fold cut_fold
set_option maxRecDepth 100000 in
set_option maxHeartbeats 4000000 in
theorem go_put_new (first last keep id : Int) (w : World) (hE : Elems TxnE w w.heap.size A n c L) (hn : n ≤ 1000) (hx1 : 1 ≤ nx) (hx2 : nx ≤ 1000000000000000) (hh : TxnP.has L id = false) (hl : 1 ≤ id) (hl2 : id < nx) :
    Calls Try.prog 7 #[.agg #[.slice A n c, .int .i64 nx], .agg #[.int .i64 3, .int .i64 id, .int .i64 first, .int .i64 last, .int .i64 keep]] w (GivesGo w nx (TxnP.put L ⟨id, first, last, keep⟩) 0 true) := by
  obtain ⟨i0, hi0, iz0, iz1, iz2⟩ := info_parts infoX
  have HI0 := Lib.hid hi0
  have HE := Lib.hid hE
  clear hE hi0
  obtain ⟨W0, hW0⟩ : ∃ W0, (((w).alloc (.cells #[.slice A n c, .int .i64 nx] 28)).alloc (.cells #[.int .i64 3, .int .i64 id, .int .i64 first, .int .i64 last, .int .i64 keep] 31)).alloc (.cells #[.slice none 0 0, .int .i64 0] 28) = W0 := ⟨_, rfl⟩
  have HS0_0 : Hid (Str W0 (w.heap.size) #[.slice A n c, .int .i64 nx]) := Lib.hid (by rw [← hW0]; have := ((Str.new (w) #[.slice A n c, .int .i64 nx] 28).alloc (.cells #[.int .i64 3, .int .i64 id, .int .i64 first, .int .i64 last, .int .i64 keep] 31)).alloc (.cells #[.slice none 0 0, .int .i64 0] 28); simpa using this)
  have HS1_0 : Hid (Str W0 (w.heap.size + 1) #[.int .i64 3, .int .i64 id, .int .i64 first, .int .i64 last, .int .i64 keep]) := Lib.hid (by rw [← hW0]; have := (Str.new ((w).alloc (.cells #[.slice A n c, .int .i64 nx] 28)) #[.int .i64 3, .int .i64 id, .int .i64 first, .int .i64 last, .int .i64 keep] 31).alloc (.cells #[.slice none 0 0, .int .i64 0] 28); simpa using this)
  have HS2_0 : Hid (Str W0 (w.heap.size + 1 + 1) #[.slice none 0 0, .int .i64 0]) := Lib.hid (by rw [← hW0]; have := Str.new (((w).alloc (.cells #[.slice A n c, .int .i64 nx] 28)).alloc (.cells #[.int .i64 3, .int .i64 id, .int .i64 first, .int .i64 last, .int .i64 keep] 31)) #[.slice none 0 0, .int .i64 0] 28; simpa using this)
  have HB_0 : Hid (Below w.heap.size w W0) := Lib.hid (by rw [← hW0]; exact balloc (balloc (balloc (bsame w) _) _) _)
  have hw_0 := HB_0.out.size
  have hz0 : W0.heap.size = w.heap.size + 1 + 1 + 1 := by rw [← hW0]; simp
  have HW0 := Lib.hid hW0
  have hl0_0 := HS0_0.out.lt
  have hl1_0 := HS1_0.out.lt
  have hl2_0 := HS2_0.out.lt
  have hO0 := TxnE.empty W0 38 W0.heap.size (Nat.le_refl _)
  have hb0 : Below W0.heap.size W0 (W0.alloc (.cells #[] 38)) := balloc (bsame W0) _
  have hE0 := (HE.out.below HB_0.out).below (w' := W0.alloc (.cells #[] 38)) (hb0.mono (by omega))
  obtain ⟨A1, c1, W1, happ, hO1, hb1, hg1, hA1⟩ := hO0.app (P := Try.prog) 26 26 i0 _ 32 Try.underlying26 HI0.out iz0 iz1 iz2 rfl (hO0.src hE0 (by omega) (by simp)) (by unfold maxLen; omega) (by omega) (by simp)
  simp only [Nat.zero_add, List.nil_append] at happ hO1
  have HO1 := Lib.hid hO1
  have HBx1 := Lib.hid (hb0.trans hb1)
  clear hO0 hE0 hb0 hb1 hg1 hA1 hO1
  have p0 := str2 HS0_0.out
  have p1 := str5 HS1_0.out
  have p2 := str2 HS2_0.out
  have f0_0 := str2 HS0_0.out
  have hl0_0 := HS0_0.out.lt
  have f1_0 := str5 HS1_0.out
  have hl1_0 := HS1_0.out.lt
  have f2_0 := str2 HS2_0.out
  have hl2_0 := HS2_0.out.lt
  have HS0_1 := Lib.hid (HS0_0.out.next HBx1.out)
  have HS1_1 := Lib.hid (HS1_0.out.next HBx1.out)
  have HS2_1 := Lib.hid (HS2_0.out.next HBx1.out)
  have HB_1 := Lib.hid (bstep HB_0.out HBx1.out)
  have hw_1 := HB_1.out.size
  have hws_1 := (HBx1.out).size
  clear f0_0 HS0_0 f1_0 HS1_0 f2_0 HS2_0
  have f0_1 := str2 HS0_1.out
  have hl0_1 := HS0_1.out.lt
  have f1_1 := str5 HS1_1.out
  have hl1_1 := HS1_1.out.lt
  have f2_1 := str2 HS2_1.out
  have hl2_1 := HS2_1.out.lt
  clear hl0_0 hl1_0 hl2_0
  rw [hz0] at happ
  rw [← hW0] at happ p0 p1 p2
  clear hW0 hz0
  have HH := Lib.hid hh
  have hlen := HE.out.len
  have hcap := HO1.out.elems.cap
  have hcm := hcap.2
  unfold maxLen at hcm
  have d2 : decide (id < 1) = false := by simp; omega
  have d3 : decide (nx ≤ id) = false := by simp; omega
  clear hh
  go_enter Try.func7, Try.ntmps7
  go_wp2_with fail
  refine (place_any id _ ((HE.out.below HB_1.out).more hw_1)).mono ?_
  rintro e W2 ⟨v, rfl, hv, hb2⟩
  have HS0_2 := Lib.hid (HS0_1.out.next hb2)
  have HS1_2 := Lib.hid (HS1_1.out.next hb2)
  have HS2_2 := Lib.hid (HS2_1.out.next hb2)
  have HB_2 := Lib.hid (bstep HB_1.out hb2)
  have hw_2 := HB_2.out.size
  have hws_2 := (hb2).size
  clear f0_1 HS0_1 f1_1 HS1_1 f2_1 HS2_1
  have f0_2 := str2 HS0_2.out
  have hl0_2 := HS0_2.out.lt
  have f1_2 := str5 HS1_2.out
  have hl1_2 := HS1_2.out.lt
  have f2_2 := str2 HS2_2.out
  have hl2_2 := HS2_2.out.lt
  have HO2 : Hid (OwnE TxnE 38 W2 W0.heap.size A1 n c1 L) := Lib.hid (HO1.out.next hb2)
  clear hb2 HO1
  obtain rfl := TxnP.at_no hv HH.out
  clear hv
  go_wp2_with fail
  go_loopw [9] (fun av wr => ∃ j : Nat, j ≤ n ∧ av = .int .i64 (j : Int) ∧ Hid (Below W2.heap.size W2 wr ∧ ∀ i x, i < j → L[i]? = some x → x.id < id)) (fun av _ => n - (intOf av).toNat)
  case atStart => exact ⟨0, Nat.zero_le _, rfl, Lib.hid ⟨bsame W2, fun i x h => absurd h (by omega)⟩⟩
  case round =>
    obtain ⟨j, hj, rfl, HG⟩ := hrel
    have HBr := Lib.hid HG.out.1
    have HOr : Hid (OwnE TxnE 38 wr W0.heap.size A1 n c1 L) := Lib.hid (HO2.out.next HBr.out)
    have t1 := str5 (HS1_2.out.next HBr.out)
    have htl := (HS1_2.out.next HBr.out).lt
    clear f0_2 f1_2 f2_2
    by_cases hlt : j < n
    · have hd : decide ((j : Int) < (n : Int)) = true := by simpa using hlt
      by_cases hgo : ∃ x, L[j]? = some x ∧ x.id < id
      · obtain ⟨b, o, x, rfl, hb, hx, q0, -⟩ := txn_at HOr.out.elems hlt
        have hxl : x.id < id := by obtain ⟨y, hy, hyl⟩ := hgo; rw [hx] at hy; cases hy; exact hyl
        have hd2 : decide (x.id < id) = true := by simpa using hxl
        have HN : Hid (∀ i x, i < j + 1 → L[i]? = some x → x.id < id) := Lib.hid (fun i y hi hy => by
          by_cases e : i = j
          · subst e; rw [hx] at hy; cases hy; exact hxl
          · exact HG.out.2 i y (by omega) hy)
        clear HG hx hgo
        go_wp2_with (first | go_quiet (fail) | go_in)
        go_wp2
        go_roundw
        case rel => exact ⟨j + 1, by omega, by go_num, Lib.hid ⟨drewN_below HBr.out _, HN.out⟩⟩
        case measure => simp [intOf]; omega
      · obtain ⟨bb, oo, y, eA, hbb, hy, q0, -⟩ := txn_at HOr.out.elems hlt
        have hnl : ¬ y.id < id := fun e => hgo ⟨y, hy, e⟩
        have hd2 : decide (y.id < id) = false := by simpa using hnl
        have HX : Hid (∀ x, L[j]? = some x → id < x.id) := Lib.hid (fun x hx => by rw [hy] at hx; cases hx; have := TxnP.has_false.1 HH.out y (List.mem_of_getElem? hy); omega)
        have q0A : A1 = some ⟨bb, oo, none⟩ := eA
        subst eA
        clear hgo hnl hy q0A
        have HP : Hid (TxnP.put L ⟨id, first, last, keep⟩ = L.take j ++ [⟨id, first, last, keep⟩] ++ L.drop j) := Lib.hid (by rw [TxnP.put_mid (j := j) HH.out (by omega) HG.out.2 HX.out]; simp)
        clear HX HG
        go_wp2_with (first | go_quiet (fail) | go_in)
        generalize hW3 : wr.drewN _ = W3
        have hb3 : Below W2.heap.size W2 W3 := by rw [← hW3]; exact drewN_below HBr.out _
        clear hW3 HBr HOr t1 htl q0 hd2 hbb hd hlt
        have HS0_3 := Lib.hid (HS0_2.out.next hb3)
        have HS1_3 := Lib.hid (HS1_2.out.next hb3)
        have HS2_3 := Lib.hid (HS2_2.out.next hb3)
        have HO3 : Hid (OwnE TxnE 38 W3 W0.heap.size (some ⟨bb, oo, none⟩) n c1 L) := Lib.hid (HO2.out.next hb3)
        have HB_3 := Lib.hid (bstep HB_2.out hb3)
        have hw_3 := HB_3.out.size
        have hws_3 := hb3.size
        clear hb3 HS0_2 HS1_2 HS2_2 HO2 HB_2
        have f0_3 := str2 HS0_3.out
        have hl0_3 := HS0_3.out.lt
        have f1_3 := str5 HS1_3.out
        have hl1_3 := HS1_3.out.lt
        have f2_3 := str2 HS2_3.out
        have hl2_3 := HS2_3.out.lt
        have HNA : Hid (∀ a : Addr, ((some ⟨bb, oo, none⟩) : Option Addr) = some a → a.block ∉ [w.heap.size]) := Lib.hid (fun a e => by have := HO3.out.ge a e; simp only [List.mem_cons, List.not_mem_nil, or_false]; omega)
        have hb2 : (0 : Int) ≤ (j : Int) := by omega
        have hb4 : (j : Int) ≤ (c1 : Int) := by omega
        have hb5 : (n : Int) ≤ (c1 : Int) := by omega
        have hb6 : (j : Int) ≤ (n : Int) := by omega
        refine Reg.wp_region_box (R := (Reg.extB W3.heap.size [w.heap.size])) (W := W3) (Reg.LineJ (Reg.Line.mk [0, 4, 15, 19, 21] 14 (Ins.S (Ins.mk W3.heap.size w.heap.size #[.slice A n c, .int .i64 nx] (.int .i64 nx) L ⟨id, first, last, keep⟩ j n)))) [Reg.any, Reg.eqv (.slice (some ⟨bb, oo, none⟩) n c1), Reg.eqv (.int .i64 j), Reg.eqv (.slice (cutA (some ⟨bb, oo, none⟩) 0 c1 4) j c1), Reg.any, Reg.eqv (.pointer (some ⟨w.heap.size + 1, 1, none⟩)), Reg.eqv (.int .i64 id), Reg.eqv (.pointer (some ⟨w.heap.size + 1, 2, none⟩)), Reg.eqv (.int .i64 first), Reg.eqv (.pointer (some ⟨w.heap.size + 1, 3, none⟩)), Reg.eqv (.int .i64 last), Reg.eqv (.pointer (some ⟨w.heap.size + 1, 4, none⟩)), Reg.eqv (.int .i64 keep), Reg.eqv (.agg #[.int .i64 id, .int .i64 first, .int .i64 last, .int .i64 keep]), Reg.any, Reg.any, Reg.eqv (.slice (some ⟨bb, oo, none⟩) n c1), Reg.eqv (.int .i64 j), Reg.eqv (.slice (cutA (some ⟨bb, oo, none⟩) j c1 4) (n - j) (c1 - j)), Reg.any, Reg.eqv (.pointer (some ⟨w.heap.size, 0, none⟩)), Reg.any] 151 [[], [(7, none)], [(9, none)], [(71, some 1), (72, some 2)], [(70, some 0), (73, some 3)], [(3, none)], [(75, some 5)], [(3, none)], [(77, some 7)], [(3, none)], [(79, some 9)], [(3, none)], [(81, some 11)], [(76, some 6), (78, some 8), (80, some 10), (82, some 12)], [(83, some 13)], [(74, some 4), (84, some 14)], [(7, none)], [(9, none)], [(86, some 16), (87, some 17)], [(85, some 15), (88, some 18)], [(2, none)], [(90, some 20), (89, some 19)]] rfl (by kernel_rfl) (by kernel_rfl) (fun _ h => Reg.line_zero (l := (Reg.Line.mk [0, 4, 15, 19, 21] 14 (Ins.S (Ins.mk W3.heap.size w.heap.size #[.slice A n c, .int .i64 nx] (.int .i64 nx) L ⟨id, first, last, keep⟩ j n)))) ⟨(HS0_3.out.next ((bsame W3).drew)), fun e => by cases e⟩ h) (by kernel_rfl) ?_ [some 70, some 71, some 72, some 73, some 74, some 75, some 76, some 77, some 78, some 79, some 80, some 81, some 82, some 83, some 84, some 85, some 86, some 87, some 88, some 89, some 90, none] (by kernel_rfl) ?_
        · refine ⟨?_, ?_, ?_, ?_, ?_, ?_, ?_, ?_, ?_, ?_, ?_, ?_, ?_, ?_, ?_, ?_, ?_, ?_, ?_, ?_, ?_, ?_, trivial⟩
          · refine Reg.oblL_line (l := (Reg.Line.mk [0, 4, 15, 19, 21] 14 (Ins.S (Ins.mk W3.heap.size w.heap.size #[.slice A n c, .int .i64 nx] (.int .i64 nx) L ⟨id, first, last, keep⟩ j n)))) (k := 0) rfl rfl (by show List.Nodup [0, 4, 15, 19, 21]; decide) (by show 0 ≠ 14; decide) (by show 0 < 22; decide) (.inl rfl) ?_
            intro b ax wx hx hs has hwb hS
            have hxs : W3.heap.size ≤ wx.heap.size := Reg.KeepB.size hx
            refine Oper.wp_mono (K := fun a1 w1 => a1 = ax.put (some 70) (.slice (some ⟨wx.heap.size, 0, none⟩) 0 0) ∧ w1 = wx.alloc (.cells #[] 38)) ?_ ?_
            · rintro a1 w1 ⟨rfl, rfl⟩
              exact ⟨⟨_, rfl, (fun h => by cases h), trivial, Reg.KeepB.of ((balloc (bsame wx) _).mono hxs)⟩, Ins.S_zero (I := (Ins.mk W3.heap.size w.heap.size #[.slice A n c, .int .i64 nx] (.int .i64 nx) L ⟨id, first, last, keep⟩ j n)) hS (by rw [has]; show 70 < 151; decide) hxs⟩
            · clear has hS
              go_simp
          · refine Reg.oblL_ord (l := (Reg.Line.mk [0, 4, 15, 19, 21] 14 (Ins.S (Ins.mk W3.heap.size w.heap.size #[.slice A n c, .int .i64 nx] (.int .i64 nx) L ⟨id, first, last, keep⟩ j n)))) (by show 1 ∉ [0, 4, 15, 19, 21] ∧ 1 ≠ 14; decide) (Reg.extB_next rfl) (fun k1 b1 a1 w1 v1 w2 h1 h2 => Ins.S_put (I := (Ins.mk W3.heap.size w.heap.size #[.slice A n c, .int .i64 nx] (.int .i64 nx) L ⟨id, first, last, keep⟩ j n)) (d := (some 71)) (by decide) k1 h1 h2) ?_
            intro ax wx hx hs
            obtain ⟨e7, -⟩ := hs
            have g7 := Reg.ev (v := .slice (some ⟨bb, oo, none⟩) n c1) e7
            exact Reg.obl_freeL rfl (Reg.wp_eqvB (Option.some_ne_none _) (by go_simp) rfl)
          · refine Reg.oblL_ord (l := (Reg.Line.mk [0, 4, 15, 19, 21] 14 (Ins.S (Ins.mk W3.heap.size w.heap.size #[.slice A n c, .int .i64 nx] (.int .i64 nx) L ⟨id, first, last, keep⟩ j n)))) (by show 2 ∉ [0, 4, 15, 19, 21] ∧ 2 ≠ 14; decide) (Reg.extB_next rfl) (fun k1 b1 a1 w1 v1 w2 h1 h2 => Ins.S_put (I := (Ins.mk W3.heap.size w.heap.size #[.slice A n c, .int .i64 nx] (.int .i64 nx) L ⟨id, first, last, keep⟩ j n)) (d := (some 72)) (by decide) k1 h1 h2) ?_
            intro ax wx hx hs
            obtain ⟨e9, -⟩ := hs
            have g9 := Reg.ev (v := .int .i64 j) e9
            exact Reg.obl_freeL rfl (Reg.wp_eqvB (Option.some_ne_none _) (by go_simp) rfl)
          · refine Reg.oblL_ord (l := (Reg.Line.mk [0, 4, 15, 19, 21] 14 (Ins.S (Ins.mk W3.heap.size w.heap.size #[.slice A n c, .int .i64 nx] (.int .i64 nx) L ⟨id, first, last, keep⟩ j n)))) (by show 3 ∉ [0, 4, 15, 19, 21] ∧ 3 ≠ 14; decide) (Reg.extB_next rfl) (fun k1 b1 a1 w1 v1 w2 h1 h2 => Ins.S_put (I := (Ins.mk W3.heap.size w.heap.size #[.slice A n c, .int .i64 nx] (.int .i64 nx) L ⟨id, first, last, keep⟩ j n)) (d := (some 73)) (by decide) k1 h1 h2) ?_
            intro ax wx hx hs
            obtain ⟨e71, e72, -⟩ := hs
            have g71 := Reg.ev (v := .slice (some ⟨bb, oo, none⟩) n c1) e71
            have g72 := Reg.ev (v := .int .i64 j) e72
            exact Reg.obl_freeL rfl (Reg.wp_eqvB (Option.some_ne_none _) (by go_simp) rfl)
          · refine Reg.oblL_line (l := (Reg.Line.mk [0, 4, 15, 19, 21] 14 (Ins.S (Ins.mk W3.heap.size w.heap.size #[.slice A n c, .int .i64 nx] (.int .i64 nx) L ⟨id, first, last, keep⟩ j n)))) (k := 1) rfl rfl (by show List.Nodup [0, 4, 15, 19, 21]; decide) (by show 4 ≠ 14; decide) (by show 4 < 22; decide) (.inr ⟨0, rfl, by kernel_rfl⟩) ?_
            intro b ax wx hx hs has hwb hS
            obtain ⟨e70, e73, -⟩ := hs
            have g73 := Reg.ev (v := .slice (cutA (some ⟨bb, oo, none⟩) 0 c1 4) j c1) e73
            have hxs : W3.heap.size ≤ wx.heap.size := Reg.KeepB.size hx
            have hbx : Elems TxnE wx W3.heap.size (some ⟨bb, oo, none⟩) n c1 L := TxnE.keepE HO3.out.elems HNA.out hx
            have hct := hbx.cut 0 j c1 (Nat.zero_le _) hj (by omega) (Nat.le_refl _)
            simp only [Nat.sub_zero, List.drop_zero] at hct
            obtain ⟨A3, c3, A4, c4, w4, k1, k2, k3, k4⟩ := Ins.S_one (I := (Ins.mk W3.heap.size w.heap.size #[.slice A n c, .int .i64 nx] (.int .i64 nx) L ⟨id, first, last, keep⟩ j n)) hS (by rw [has]; show 74 < 151; decide) hxs (by show w.heap.size < W3.heap.size; omega) hct (by show j ≤ 1000; omega)
            exact wp_appT (.tmp 70) (.tmp 73) rfl rfl k1 e73 k2 ⟨⟨_, rfl, (fun h => by cases h), trivial, Reg.KeepB.of (k4)⟩, k3⟩
          · refine Reg.oblL_ord (l := (Reg.Line.mk [0, 4, 15, 19, 21] 14 (Ins.S (Ins.mk W3.heap.size w.heap.size #[.slice A n c, .int .i64 nx] (.int .i64 nx) L ⟨id, first, last, keep⟩ j n)))) (by show 5 ∉ [0, 4, 15, 19, 21] ∧ 5 ≠ 14; decide) (Reg.extB_next rfl) (fun k1 b1 a1 w1 v1 w2 h1 h2 => Ins.S_put (I := (Ins.mk W3.heap.size w.heap.size #[.slice A n c, .int .i64 nx] (.int .i64 nx) L ⟨id, first, last, keep⟩ j n)) (d := (some 75)) (by decide) k1 h1 h2) ?_
            intro ax wx hx hs
            obtain ⟨e3, -⟩ := hs
            have g3 := Reg.ev (v := .pointer (some ⟨w.heap.size + 1, 0, none⟩)) e3
            exact Reg.obl_freeL rfl (Reg.wp_eqvB (Option.some_ne_none _) (by go_simp) rfl)
          · refine Reg.oblL_ord (l := (Reg.Line.mk [0, 4, 15, 19, 21] 14 (Ins.S (Ins.mk W3.heap.size w.heap.size #[.slice A n c, .int .i64 nx] (.int .i64 nx) L ⟨id, first, last, keep⟩ j n)))) (by show 6 ∉ [0, 4, 15, 19, 21] ∧ 6 ≠ 14; decide) (Reg.extB_next rfl) (fun k1 b1 a1 w1 v1 w2 h1 h2 => Ins.S_put (I := (Ins.mk W3.heap.size w.heap.size #[.slice A n c, .int .i64 nx] (.int .i64 nx) L ⟨id, first, last, keep⟩ j n)) (d := (some 76)) (by decide) k1 h1 h2) ?_
            intro ax wx hx hs
            obtain ⟨e75, -⟩ := hs
            have g75 := Reg.ev (v := .pointer (some ⟨w.heap.size + 1, 1, none⟩)) e75
            obtain ⟨l0, l1, l2, l3, l4⟩ := str5 (Reg.KeepB.str hx HS1_3.out (by omega) (by simp only [List.mem_cons, List.not_mem_nil, or_false]; omega))
            exact Reg.obl_freeL rfl (Reg.wp_eqvB (Option.some_ne_none _) (by go_simp) rfl)
          · refine Reg.oblL_ord (l := (Reg.Line.mk [0, 4, 15, 19, 21] 14 (Ins.S (Ins.mk W3.heap.size w.heap.size #[.slice A n c, .int .i64 nx] (.int .i64 nx) L ⟨id, first, last, keep⟩ j n)))) (by show 7 ∉ [0, 4, 15, 19, 21] ∧ 7 ≠ 14; decide) (Reg.extB_next rfl) (fun k1 b1 a1 w1 v1 w2 h1 h2 => Ins.S_put (I := (Ins.mk W3.heap.size w.heap.size #[.slice A n c, .int .i64 nx] (.int .i64 nx) L ⟨id, first, last, keep⟩ j n)) (d := (some 77)) (by decide) k1 h1 h2) ?_
            intro ax wx hx hs
            obtain ⟨e3, -⟩ := hs
            have g3 := Reg.ev (v := .pointer (some ⟨w.heap.size + 1, 0, none⟩)) e3
            exact Reg.obl_freeL rfl (Reg.wp_eqvB (Option.some_ne_none _) (by go_simp) rfl)
          · refine Reg.oblL_ord (l := (Reg.Line.mk [0, 4, 15, 19, 21] 14 (Ins.S (Ins.mk W3.heap.size w.heap.size #[.slice A n c, .int .i64 nx] (.int .i64 nx) L ⟨id, first, last, keep⟩ j n)))) (by show 8 ∉ [0, 4, 15, 19, 21] ∧ 8 ≠ 14; decide) (Reg.extB_next rfl) (fun k1 b1 a1 w1 v1 w2 h1 h2 => Ins.S_put (I := (Ins.mk W3.heap.size w.heap.size #[.slice A n c, .int .i64 nx] (.int .i64 nx) L ⟨id, first, last, keep⟩ j n)) (d := (some 78)) (by decide) k1 h1 h2) ?_
            intro ax wx hx hs
            obtain ⟨e77, -⟩ := hs
            have g77 := Reg.ev (v := .pointer (some ⟨w.heap.size + 1, 2, none⟩)) e77
            obtain ⟨l0, l1, l2, l3, l4⟩ := str5 (Reg.KeepB.str hx HS1_3.out (by omega) (by simp only [List.mem_cons, List.not_mem_nil, or_false]; omega))
            exact Reg.obl_freeL rfl (Reg.wp_eqvB (Option.some_ne_none _) (by go_simp) rfl)
          · refine Reg.oblL_ord (l := (Reg.Line.mk [0, 4, 15, 19, 21] 14 (Ins.S (Ins.mk W3.heap.size w.heap.size #[.slice A n c, .int .i64 nx] (.int .i64 nx) L ⟨id, first, last, keep⟩ j n)))) (by show 9 ∉ [0, 4, 15, 19, 21] ∧ 9 ≠ 14; decide) (Reg.extB_next rfl) (fun k1 b1 a1 w1 v1 w2 h1 h2 => Ins.S_put (I := (Ins.mk W3.heap.size w.heap.size #[.slice A n c, .int .i64 nx] (.int .i64 nx) L ⟨id, first, last, keep⟩ j n)) (d := (some 79)) (by decide) k1 h1 h2) ?_
            intro ax wx hx hs
            obtain ⟨e3, -⟩ := hs
            have g3 := Reg.ev (v := .pointer (some ⟨w.heap.size + 1, 0, none⟩)) e3
            exact Reg.obl_freeL rfl (Reg.wp_eqvB (Option.some_ne_none _) (by go_simp) rfl)
          · refine Reg.oblL_ord (l := (Reg.Line.mk [0, 4, 15, 19, 21] 14 (Ins.S (Ins.mk W3.heap.size w.heap.size #[.slice A n c, .int .i64 nx] (.int .i64 nx) L ⟨id, first, last, keep⟩ j n)))) (by show 10 ∉ [0, 4, 15, 19, 21] ∧ 10 ≠ 14; decide) (Reg.extB_next rfl) (fun k1 b1 a1 w1 v1 w2 h1 h2 => Ins.S_put (I := (Ins.mk W3.heap.size w.heap.size #[.slice A n c, .int .i64 nx] (.int .i64 nx) L ⟨id, first, last, keep⟩ j n)) (d := (some 80)) (by decide) k1 h1 h2) ?_
            intro ax wx hx hs
            obtain ⟨e79, -⟩ := hs
            have g79 := Reg.ev (v := .pointer (some ⟨w.heap.size + 1, 3, none⟩)) e79
            obtain ⟨l0, l1, l2, l3, l4⟩ := str5 (Reg.KeepB.str hx HS1_3.out (by omega) (by simp only [List.mem_cons, List.not_mem_nil, or_false]; omega))
            exact Reg.obl_freeL rfl (Reg.wp_eqvB (Option.some_ne_none _) (by go_simp) rfl)
          · refine Reg.oblL_ord (l := (Reg.Line.mk [0, 4, 15, 19, 21] 14 (Ins.S (Ins.mk W3.heap.size w.heap.size #[.slice A n c, .int .i64 nx] (.int .i64 nx) L ⟨id, first, last, keep⟩ j n)))) (by show 11 ∉ [0, 4, 15, 19, 21] ∧ 11 ≠ 14; decide) (Reg.extB_next rfl) (fun k1 b1 a1 w1 v1 w2 h1 h2 => Ins.S_put (I := (Ins.mk W3.heap.size w.heap.size #[.slice A n c, .int .i64 nx] (.int .i64 nx) L ⟨id, first, last, keep⟩ j n)) (d := (some 81)) (by decide) k1 h1 h2) ?_
            intro ax wx hx hs
            obtain ⟨e3, -⟩ := hs
            have g3 := Reg.ev (v := .pointer (some ⟨w.heap.size + 1, 0, none⟩)) e3
            exact Reg.obl_freeL rfl (Reg.wp_eqvB (Option.some_ne_none _) (by go_simp) rfl)
          · refine Reg.oblL_ord (l := (Reg.Line.mk [0, 4, 15, 19, 21] 14 (Ins.S (Ins.mk W3.heap.size w.heap.size #[.slice A n c, .int .i64 nx] (.int .i64 nx) L ⟨id, first, last, keep⟩ j n)))) (by show 12 ∉ [0, 4, 15, 19, 21] ∧ 12 ≠ 14; decide) (Reg.extB_next rfl) (fun k1 b1 a1 w1 v1 w2 h1 h2 => Ins.S_put (I := (Ins.mk W3.heap.size w.heap.size #[.slice A n c, .int .i64 nx] (.int .i64 nx) L ⟨id, first, last, keep⟩ j n)) (d := (some 82)) (by decide) k1 h1 h2) ?_
            intro ax wx hx hs
            obtain ⟨e81, -⟩ := hs
            have g81 := Reg.ev (v := .pointer (some ⟨w.heap.size + 1, 4, none⟩)) e81
            obtain ⟨l0, l1, l2, l3, l4⟩ := str5 (Reg.KeepB.str hx HS1_3.out (by omega) (by simp only [List.mem_cons, List.not_mem_nil, or_false]; omega))
            exact Reg.obl_freeL rfl (Reg.wp_eqvB (Option.some_ne_none _) (by go_simp) rfl)
          · refine Reg.oblL_ord (l := (Reg.Line.mk [0, 4, 15, 19, 21] 14 (Ins.S (Ins.mk W3.heap.size w.heap.size #[.slice A n c, .int .i64 nx] (.int .i64 nx) L ⟨id, first, last, keep⟩ j n)))) (by show 13 ∉ [0, 4, 15, 19, 21] ∧ 13 ≠ 14; decide) (Reg.extB_next rfl) (fun k1 b1 a1 w1 v1 w2 h1 h2 => Ins.S_put (I := (Ins.mk W3.heap.size w.heap.size #[.slice A n c, .int .i64 nx] (.int .i64 nx) L ⟨id, first, last, keep⟩ j n)) (d := (some 83)) (by decide) k1 h1 h2) ?_
            intro ax wx hx hs
            obtain ⟨e76, e78, e80, e82, -⟩ := hs
            have g76 := Reg.ev (v := .int .i64 id) e76
            have g78 := Reg.ev (v := .int .i64 first) e78
            have g80 := Reg.ev (v := .int .i64 last) e80
            have g82 := Reg.ev (v := .int .i64 keep) e82
            exact Reg.obl_freeL rfl (Reg.wp_eqvB (Option.some_ne_none _) (by go_simp) rfl)
          · refine Reg.oblL_side (l := (Reg.Line.mk [0, 4, 15, 19, 21] 14 (Ins.S (Ins.mk W3.heap.size w.heap.size #[.slice A n c, .int .i64 nx] (.int .i64 nx) L ⟨id, first, last, keep⟩ j n)))) rfl rfl (by show 14 ∉ [0, 4, 15, 19, 21]; decide) (by show 14 < 22; decide) ?_
            intro k ax wx hx hs has hS
            obtain ⟨e83, -⟩ := hs
            have g83 := Reg.ev (v := .agg #[.int .i64 id, .int .i64 first, .int .i64 last, .int .i64 keep]) e83
            have hxs : W3.heap.size ≤ wx.heap.size := Reg.KeepB.size hx
            refine Oper.wp_mono (K := fun a1 w1 => a1 = ax.put (some 84) (.slice (some ⟨wx.heap.size, 0, none⟩) 1 1) ∧ w1 = wx.alloc (.cells #[.int .i64 id, .int .i64 first, .int .i64 last, .int .i64 keep] 38)) ?_ ?_
            · rintro a1 w1 ⟨rfl, rfl⟩
              exact ⟨⟨_, rfl, (fun h => by cases h), trivial, Reg.KeepB.of ((balloc (bsame wx) _).mono hxs)⟩, Ins.S_side (I := (Ins.mk W3.heap.size w.heap.size #[.slice A n c, .int .i64 nx] (.int .i64 nx) L ⟨id, first, last, keep⟩ j n)) k hS (by rw [has]; show 84 < 151; decide) hxs⟩
            · clear has hS
              go_simp
          · refine Reg.oblL_line (l := (Reg.Line.mk [0, 4, 15, 19, 21] 14 (Ins.S (Ins.mk W3.heap.size w.heap.size #[.slice A n c, .int .i64 nx] (.int .i64 nx) L ⟨id, first, last, keep⟩ j n)))) (k := 2) rfl rfl (by show List.Nodup [0, 4, 15, 19, 21]; decide) (by show 15 ≠ 14; decide) (by show 15 < 22; decide) (.inr ⟨4, rfl, by kernel_rfl⟩) ?_
            intro b ax wx hx hs has hwb hS
            obtain ⟨e74, e84, -⟩ := hs
            have hxs : W3.heap.size ≤ wx.heap.size := Reg.KeepB.size hx
            obtain rfl := hwb (by kernel_rfl)
            obtain ⟨A3, c3, A2, A4, c4, w4, k1, k1', k2, k3, k4⟩ := Ins.S_two (I := (Ins.mk W3.heap.size w.heap.size #[.slice A n c, .int .i64 nx] (.int .i64 nx) L ⟨id, first, last, keep⟩ j n)) hS (by rw [has]; show 85 < 151; decide) hxs (by show w.heap.size < W3.heap.size; omega) (by show j ≤ 1000; omega)
            exact wp_appT (.tmp 74) (.tmp 84) rfl rfl k1 k1' k2 ⟨⟨_, rfl, (fun h => by cases h), trivial, Reg.KeepB.of (k4)⟩, k3⟩
          · refine Reg.oblL_ord (l := (Reg.Line.mk [0, 4, 15, 19, 21] 14 (Ins.S (Ins.mk W3.heap.size w.heap.size #[.slice A n c, .int .i64 nx] (.int .i64 nx) L ⟨id, first, last, keep⟩ j n)))) (by show 16 ∉ [0, 4, 15, 19, 21] ∧ 16 ≠ 14; decide) (Reg.extB_next rfl) (fun k1 b1 a1 w1 v1 w2 h1 h2 => Ins.S_put (I := (Ins.mk W3.heap.size w.heap.size #[.slice A n c, .int .i64 nx] (.int .i64 nx) L ⟨id, first, last, keep⟩ j n)) (d := (some 86)) (by decide) k1 h1 h2) ?_
            intro ax wx hx hs
            obtain ⟨e7, -⟩ := hs
            have g7 := Reg.ev (v := .slice (some ⟨bb, oo, none⟩) n c1) e7
            exact Reg.obl_freeL rfl (Reg.wp_eqvB (Option.some_ne_none _) (by go_simp) rfl)
          · refine Reg.oblL_ord (l := (Reg.Line.mk [0, 4, 15, 19, 21] 14 (Ins.S (Ins.mk W3.heap.size w.heap.size #[.slice A n c, .int .i64 nx] (.int .i64 nx) L ⟨id, first, last, keep⟩ j n)))) (by show 17 ∉ [0, 4, 15, 19, 21] ∧ 17 ≠ 14; decide) (Reg.extB_next rfl) (fun k1 b1 a1 w1 v1 w2 h1 h2 => Ins.S_put (I := (Ins.mk W3.heap.size w.heap.size #[.slice A n c, .int .i64 nx] (.int .i64 nx) L ⟨id, first, last, keep⟩ j n)) (d := (some 87)) (by decide) k1 h1 h2) ?_
            intro ax wx hx hs
            obtain ⟨e9, -⟩ := hs
            have g9 := Reg.ev (v := .int .i64 j) e9
            exact Reg.obl_freeL rfl (Reg.wp_eqvB (Option.some_ne_none _) (by go_simp) rfl)
          · refine Reg.oblL_ord (l := (Reg.Line.mk [0, 4, 15, 19, 21] 14 (Ins.S (Ins.mk W3.heap.size w.heap.size #[.slice A n c, .int .i64 nx] (.int .i64 nx) L ⟨id, first, last, keep⟩ j n)))) (by show 18 ∉ [0, 4, 15, 19, 21] ∧ 18 ≠ 14; decide) (Reg.extB_next rfl) (fun k1 b1 a1 w1 v1 w2 h1 h2 => Ins.S_put (I := (Ins.mk W3.heap.size w.heap.size #[.slice A n c, .int .i64 nx] (.int .i64 nx) L ⟨id, first, last, keep⟩ j n)) (d := (some 88)) (by decide) k1 h1 h2) ?_
            intro ax wx hx hs
            obtain ⟨e86, e87, -⟩ := hs
            have g86 := Reg.ev (v := .slice (some ⟨bb, oo, none⟩) n c1) e86
            have g87 := Reg.ev (v := .int .i64 j) e87
            exact Reg.obl_freeL rfl (Reg.wp_eqvB (Option.some_ne_none _) (by go_simp) rfl)
          · refine Reg.oblL_line (l := (Reg.Line.mk [0, 4, 15, 19, 21] 14 (Ins.S (Ins.mk W3.heap.size w.heap.size #[.slice A n c, .int .i64 nx] (.int .i64 nx) L ⟨id, first, last, keep⟩ j n)))) (k := 3) rfl rfl (by show List.Nodup [0, 4, 15, 19, 21]; decide) (by show 19 ≠ 14; decide) (by show 19 < 22; decide) (.inr ⟨15, rfl, by kernel_rfl⟩) ?_
            intro b ax wx hx hs has hwb hS
            obtain ⟨e85, e88, -⟩ := hs
            have g88 := Reg.ev (v := .slice (cutA (some ⟨bb, oo, none⟩) j c1 4) (n - j) (c1 - j)) e88
            have hxs : W3.heap.size ≤ wx.heap.size := Reg.KeepB.size hx
            have hbx : Elems TxnE wx W3.heap.size (some ⟨bb, oo, none⟩) n c1 L := TxnE.keepE HO3.out.elems HNA.out hx
            have hct := hbx.cut j n c1 hj (Nat.le_refl _) (by omega) (Nat.le_refl _)
            rw [List.take_of_length_le (by simp; omega)] at hct
            obtain ⟨A3, c3, A4, c4, w4, k1, k2, k3, k4⟩ := Ins.S_three (I := (Ins.mk W3.heap.size w.heap.size #[.slice A n c, .int .i64 nx] (.int .i64 nx) L ⟨id, first, last, keep⟩ j n)) hS (by rw [has]; show 89 < 151; decide) hxs (by show w.heap.size < W3.heap.size; omega) hct hj hn
            exact wp_appT (.tmp 85) (.tmp 88) rfl rfl k1 e88 k2 ⟨⟨_, rfl, (fun h => by cases h), trivial, Reg.KeepB.of (k4)⟩, k3⟩
          · refine Reg.oblL_ord (l := (Reg.Line.mk [0, 4, 15, 19, 21] 14 (Ins.S (Ins.mk W3.heap.size w.heap.size #[.slice A n c, .int .i64 nx] (.int .i64 nx) L ⟨id, first, last, keep⟩ j n)))) (by show 20 ∉ [0, 4, 15, 19, 21] ∧ 20 ≠ 14; decide) (Reg.extB_next rfl) (fun k1 b1 a1 w1 v1 w2 h1 h2 => Ins.S_put (I := (Ins.mk W3.heap.size w.heap.size #[.slice A n c, .int .i64 nx] (.int .i64 nx) L ⟨id, first, last, keep⟩ j n)) (d := (some 90)) (by decide) k1 h1 h2) ?_
            intro ax wx hx hs
            obtain ⟨e2, -⟩ := hs
            have g2 := Reg.ev (v := .pointer (some ⟨w.heap.size, 0, none⟩)) e2
            exact Reg.obl_freeL rfl (Reg.wp_eqvB (Option.some_ne_none _) (by go_simp) rfl)
          · refine Reg.oblL_line (l := (Reg.Line.mk [0, 4, 15, 19, 21] 14 (Ins.S (Ins.mk W3.heap.size w.heap.size #[.slice A n c, .int .i64 nx] (.int .i64 nx) L ⟨id, first, last, keep⟩ j n)))) (k := 4) rfl rfl (by show List.Nodup [0, 4, 15, 19, 21]; decide) (by show 21 ≠ 14; decide) (by show 21 < 22; decide) (.inr ⟨19, rfl, by kernel_rfl⟩) ?_
            intro b ax wx hx hs has hwb hS
            obtain ⟨e90, e89, -⟩ := hs
            have g90 := Reg.ev (v := .pointer (some ⟨w.heap.size, 0, none⟩)) e90
            have hxs : W3.heap.size ≤ wx.heap.size := Reg.KeepB.size hx
            obtain ⟨A3, c3, k1, k2, k3⟩ := Ins.S_four (I := (Ins.mk W3.heap.size w.heap.size #[.slice A n c, .int .i64 nx] (.int .i64 nx) L ⟨id, first, last, keep⟩ j n)) (x := .slice A n c) hS rfl (by show w.heap.size < W3.heap.size; omega)
            have g89 := Reg.ev k1
            have z0 : wx.cell? ⟨w.heap.size, 0, none⟩ = some (.slice A n c) := (str2 k2).1
            have z1 : wx.frozen? ⟨w.heap.size, 0, none⟩ = false := k2.frozen 0
            refine Oper.wp_mono (K := fun a1 w1 => a1 = ax ∧ w1 = wx.setCell ⟨w.heap.size, 0, none⟩ (.slice A3 (n + 1) c3)) ?_ ?_
            · rintro a1 w1 ⟨rfl, rfl⟩
              exact ⟨⟨undef, rfl, fun _ => rfl, trivial, Reg.KeepB.grown (Reg.KeepB.of (Below.refl _ wx)) (grown_set (grown_refl wx _) 0 _) hxs (.inr (by simp))⟩, k3⟩
            · clear has hS
              go_simp
        · intro W4 listed hwf hall
          simp only [Reg.Fin]
          rintro v70 h70 _ rfl _ rfl _ rfl v74 h74 _ rfl _ rfl _ rfl _ rfl _ rfl _ rfl _ rfl _ rfl _ rfl v84 h84 v85 h85 _ rfl _ rfl _ rfl v89 h89 _ rfl vn21 hn21
          intro hJ
          obtain ⟨bL, hbL, hSL⟩ := Reg.line_end (l := (Reg.Line.mk [0, 4, 15, 19, 21] 14 (Ins.S (Ins.mk W3.heap.size w.heap.size #[.slice A n c, .int .i64 nx] (.int .i64 nx) L ⟨id, first, last, keep⟩ j n)))) (n := 22) hall (by show ∀ c ∈ [0, 4, 15, 19, 21], c < 22; decide) hJ
          clear hJ hall hbL
          go_simp
          obtain ⟨-, A5, c5, hbx5, hO5⟩ := hSL
          dsimp only at hbx5 hO5
          rw [← HP.out] at hO5
          have hwf' : Reg.KeepB W3.heap.size [w.heap.size] W3 W4 := hwf
          have HS2_4 := Lib.hid (Str.keepB HS2_3.out hwf' (by simp only [List.mem_cons, List.not_mem_nil, or_false]; omega))
          have HO5 := Lib.hid hO5
          have HS0_4 : Hid (Str W4 w.heap.size #[.slice A5 (n + 1) c5, .int .i64 nx]) := Lib.hid hbx5
          have r0 := str2 HS0_4.out
          have r2 := str2 HS2_4.out
          have rf := fun j => HS2_4.out.frozen j
          have rl0 := HS0_4.out.lt
          have rl2 := HS2_4.out.lt
          have HB_4 := Lib.hid (HB_3.out.trans (hwf'.below hw_3 (by simp)))
          clear hwf hwf' hbx5 hO5
          go_wp2_with fail
          refine bodyPost_ret (v := .tuple #[.agg #[.slice A5 (n + 1) c5, .int .i64 nx], .int .i64 0, .bool true]) (by simp [results, Try.results7, go_sem, *]) rfl ⟨_, _, _, rfl, (TxnE.grown (TxnE.grown HO5.out (grown_set (grown_refl _ (w.heap.size + 1 + 1)) 0 (.slice A5 (n + 1) c5)) (fun a e => by have := HO5.out.ge a e; omega)) (grown_set (grown_refl _ (w.heap.size + 1 + 1)) 1 (.int .i64 nx)) (fun a e => by have := HO5.out.ge a e; omega)).elems, (below_grown (below_grown HB_4.out (grown_set (grown_refl _ (w.heap.size + 1 + 1)) 0 (.slice A5 (n + 1) c5)) (by omega)) (grown_set (grown_refl _ (w.heap.size + 1 + 1)) 1 (.int .i64 nx)) (by omega))⟩
    · have hd : decide ((j : Int) < (n : Int)) = false := by simp; omega
      have HX : Hid (∀ x, L[j]? = some x → id < x.id) := Lib.hid (fun x hx => by have := (List.getElem?_eq_some_iff.1 hx).1; omega)
      have HP : Hid (TxnP.put L ⟨id, first, last, keep⟩ = L.take j ++ [⟨id, first, last, keep⟩] ++ L.drop j) := Lib.hid (by rw [TxnP.put_mid (j := j) HH.out (by omega) HG.out.2 HX.out]; simp)
      clear HX HG
      go_wp2_with (first | go_quiet (fail) | go_in)
      generalize hW3 : wr.drewN _ = W3
      have hb3 : Below W2.heap.size W2 W3 := by rw [← hW3]; exact drewN_below HBr.out _
      clear hW3 HBr HOr t1 htl hd hlt
      have HS0_3 := Lib.hid (HS0_2.out.next hb3)
      have HS1_3 := Lib.hid (HS1_2.out.next hb3)
      have HS2_3 := Lib.hid (HS2_2.out.next hb3)
      have HO3 : Hid (OwnE TxnE 38 W3 W0.heap.size A1 n c1 L) := Lib.hid (HO2.out.next hb3)
      have HB_3 := Lib.hid (bstep HB_2.out hb3)
      have hw_3 := HB_3.out.size
      have hws_3 := hb3.size
      clear hb3 HS0_2 HS1_2 HS2_2 HO2 HB_2
      have f0_3 := str2 HS0_3.out
      have hl0_3 := HS0_3.out.lt
      have f1_3 := str5 HS1_3.out
      have hl1_3 := HS1_3.out.lt
      have f2_3 := str2 HS2_3.out
      have hl2_3 := HS2_3.out.lt
      have HNA : Hid (∀ a : Addr, (A1 : Option Addr) = some a → a.block ∉ [w.heap.size]) := Lib.hid (fun a e => by have := HO3.out.ge a e; simp only [List.mem_cons, List.not_mem_nil, or_false]; omega)
      have hb2 : (0 : Int) ≤ (j : Int) := by omega
      have hb4 : (j : Int) ≤ (c1 : Int) := by omega
      have hb5 : (n : Int) ≤ (c1 : Int) := by omega
      have hb6 : (j : Int) ≤ (n : Int) := by omega
      refine Reg.wp_region_box (R := (Reg.extB W3.heap.size [w.heap.size])) (W := W3) (Reg.LineJ (Reg.Line.mk [0, 4, 15, 19, 21] 14 (Ins.S (Ins.mk W3.heap.size w.heap.size #[.slice A n c, .int .i64 nx] (.int .i64 nx) L ⟨id, first, last, keep⟩ j n)))) [Reg.any, Reg.eqv (.slice A1 n c1), Reg.eqv (.int .i64 j), Reg.eqv (.slice (cutA A1 0 c1 4) j c1), Reg.any, Reg.eqv (.pointer (some ⟨w.heap.size + 1, 1, none⟩)), Reg.eqv (.int .i64 id), Reg.eqv (.pointer (some ⟨w.heap.size + 1, 2, none⟩)), Reg.eqv (.int .i64 first), Reg.eqv (.pointer (some ⟨w.heap.size + 1, 3, none⟩)), Reg.eqv (.int .i64 last), Reg.eqv (.pointer (some ⟨w.heap.size + 1, 4, none⟩)), Reg.eqv (.int .i64 keep), Reg.eqv (.agg #[.int .i64 id, .int .i64 first, .int .i64 last, .int .i64 keep]), Reg.any, Reg.any, Reg.eqv (.slice A1 n c1), Reg.eqv (.int .i64 j), Reg.eqv (.slice (cutA A1 j c1 4) (n - j) (c1 - j)), Reg.any, Reg.eqv (.pointer (some ⟨w.heap.size, 0, none⟩)), Reg.any] 151 [[], [(7, none)], [(9, none)], [(71, some 1), (72, some 2)], [(70, some 0), (73, some 3)], [(3, none)], [(75, some 5)], [(3, none)], [(77, some 7)], [(3, none)], [(79, some 9)], [(3, none)], [(81, some 11)], [(76, some 6), (78, some 8), (80, some 10), (82, some 12)], [(83, some 13)], [(74, some 4), (84, some 14)], [(7, none)], [(9, none)], [(86, some 16), (87, some 17)], [(85, some 15), (88, some 18)], [(2, none)], [(90, some 20), (89, some 19)]] rfl (by kernel_rfl) (by kernel_rfl) (fun _ h => Reg.line_zero (l := (Reg.Line.mk [0, 4, 15, 19, 21] 14 (Ins.S (Ins.mk W3.heap.size w.heap.size #[.slice A n c, .int .i64 nx] (.int .i64 nx) L ⟨id, first, last, keep⟩ j n)))) ⟨(HS0_3.out.next ((bsame W3).drew)), fun e => by cases e⟩ h) (by kernel_rfl) ?_ [some 70, some 71, some 72, some 73, some 74, some 75, some 76, some 77, some 78, some 79, some 80, some 81, some 82, some 83, some 84, some 85, some 86, some 87, some 88, some 89, some 90, none] (by kernel_rfl) ?_
      · refine ⟨?_, ?_, ?_, ?_, ?_, ?_, ?_, ?_, ?_, ?_, ?_, ?_, ?_, ?_, ?_, ?_, ?_, ?_, ?_, ?_, ?_, ?_, trivial⟩
        · refine Reg.oblL_line (l := (Reg.Line.mk [0, 4, 15, 19, 21] 14 (Ins.S (Ins.mk W3.heap.size w.heap.size #[.slice A n c, .int .i64 nx] (.int .i64 nx) L ⟨id, first, last, keep⟩ j n)))) (k := 0) rfl rfl (by show List.Nodup [0, 4, 15, 19, 21]; decide) (by show 0 ≠ 14; decide) (by show 0 < 22; decide) (.inl rfl) ?_
          intro b ax wx hx hs has hwb hS
          have hxs : W3.heap.size ≤ wx.heap.size := Reg.KeepB.size hx
          refine Oper.wp_mono (K := fun a1 w1 => a1 = ax.put (some 70) (.slice (some ⟨wx.heap.size, 0, none⟩) 0 0) ∧ w1 = wx.alloc (.cells #[] 38)) ?_ ?_
          · rintro a1 w1 ⟨rfl, rfl⟩
            exact ⟨⟨_, rfl, (fun h => by cases h), trivial, Reg.KeepB.of ((balloc (bsame wx) _).mono hxs)⟩, Ins.S_zero (I := (Ins.mk W3.heap.size w.heap.size #[.slice A n c, .int .i64 nx] (.int .i64 nx) L ⟨id, first, last, keep⟩ j n)) hS (by rw [has]; show 70 < 151; decide) hxs⟩
          · clear has hS
            go_simp
        · refine Reg.oblL_ord (l := (Reg.Line.mk [0, 4, 15, 19, 21] 14 (Ins.S (Ins.mk W3.heap.size w.heap.size #[.slice A n c, .int .i64 nx] (.int .i64 nx) L ⟨id, first, last, keep⟩ j n)))) (by show 1 ∉ [0, 4, 15, 19, 21] ∧ 1 ≠ 14; decide) (Reg.extB_next rfl) (fun k1 b1 a1 w1 v1 w2 h1 h2 => Ins.S_put (I := (Ins.mk W3.heap.size w.heap.size #[.slice A n c, .int .i64 nx] (.int .i64 nx) L ⟨id, first, last, keep⟩ j n)) (d := (some 71)) (by decide) k1 h1 h2) ?_
          intro ax wx hx hs
          obtain ⟨e7, -⟩ := hs
          have g7 := Reg.ev (v := .slice A1 n c1) e7
          exact Reg.obl_freeL rfl (Reg.wp_eqvB (Option.some_ne_none _) (by go_simp) rfl)
        · refine Reg.oblL_ord (l := (Reg.Line.mk [0, 4, 15, 19, 21] 14 (Ins.S (Ins.mk W3.heap.size w.heap.size #[.slice A n c, .int .i64 nx] (.int .i64 nx) L ⟨id, first, last, keep⟩ j n)))) (by show 2 ∉ [0, 4, 15, 19, 21] ∧ 2 ≠ 14; decide) (Reg.extB_next rfl) (fun k1 b1 a1 w1 v1 w2 h1 h2 => Ins.S_put (I := (Ins.mk W3.heap.size w.heap.size #[.slice A n c, .int .i64 nx] (.int .i64 nx) L ⟨id, first, last, keep⟩ j n)) (d := (some 72)) (by decide) k1 h1 h2) ?_
          intro ax wx hx hs
          obtain ⟨e9, -⟩ := hs
          have g9 := Reg.ev (v := .int .i64 j) e9
          exact Reg.obl_freeL rfl (Reg.wp_eqvB (Option.some_ne_none _) (by go_simp) rfl)
        · refine Reg.oblL_ord (l := (Reg.Line.mk [0, 4, 15, 19, 21] 14 (Ins.S (Ins.mk W3.heap.size w.heap.size #[.slice A n c, .int .i64 nx] (.int .i64 nx) L ⟨id, first, last, keep⟩ j n)))) (by show 3 ∉ [0, 4, 15, 19, 21] ∧ 3 ≠ 14; decide) (Reg.extB_next rfl) (fun k1 b1 a1 w1 v1 w2 h1 h2 => Ins.S_put (I := (Ins.mk W3.heap.size w.heap.size #[.slice A n c, .int .i64 nx] (.int .i64 nx) L ⟨id, first, last, keep⟩ j n)) (d := (some 73)) (by decide) k1 h1 h2) ?_
          intro ax wx hx hs
          obtain ⟨e71, e72, -⟩ := hs
          have g71 := Reg.ev (v := .slice A1 n c1) e71
          have g72 := Reg.ev (v := .int .i64 j) e72
          exact Reg.obl_freeL rfl (Reg.wp_eqvB (Option.some_ne_none _) (by go_simp) rfl)
        · refine Reg.oblL_line (l := (Reg.Line.mk [0, 4, 15, 19, 21] 14 (Ins.S (Ins.mk W3.heap.size w.heap.size #[.slice A n c, .int .i64 nx] (.int .i64 nx) L ⟨id, first, last, keep⟩ j n)))) (k := 1) rfl rfl (by show List.Nodup [0, 4, 15, 19, 21]; decide) (by show 4 ≠ 14; decide) (by show 4 < 22; decide) (.inr ⟨0, rfl, by kernel_rfl⟩) ?_
          intro b ax wx hx hs has hwb hS
          obtain ⟨e70, e73, -⟩ := hs
          have g73 := Reg.ev (v := .slice (cutA A1 0 c1 4) j c1) e73
          have hxs : W3.heap.size ≤ wx.heap.size := Reg.KeepB.size hx
          have hbx : Elems TxnE wx W3.heap.size A1 n c1 L := TxnE.keepE HO3.out.elems HNA.out hx
          have hct := hbx.cut 0 j c1 (Nat.zero_le _) hj (by omega) (Nat.le_refl _)
          simp only [Nat.sub_zero, List.drop_zero] at hct
          obtain ⟨A3, c3, A4, c4, w4, k1, k2, k3, k4⟩ := Ins.S_one (I := (Ins.mk W3.heap.size w.heap.size #[.slice A n c, .int .i64 nx] (.int .i64 nx) L ⟨id, first, last, keep⟩ j n)) hS (by rw [has]; show 74 < 151; decide) hxs (by show w.heap.size < W3.heap.size; omega) hct (by show j ≤ 1000; omega)
          exact wp_appT (.tmp 70) (.tmp 73) rfl rfl k1 e73 k2 ⟨⟨_, rfl, (fun h => by cases h), trivial, Reg.KeepB.of (k4)⟩, k3⟩
        · refine Reg.oblL_ord (l := (Reg.Line.mk [0, 4, 15, 19, 21] 14 (Ins.S (Ins.mk W3.heap.size w.heap.size #[.slice A n c, .int .i64 nx] (.int .i64 nx) L ⟨id, first, last, keep⟩ j n)))) (by show 5 ∉ [0, 4, 15, 19, 21] ∧ 5 ≠ 14; decide) (Reg.extB_next rfl) (fun k1 b1 a1 w1 v1 w2 h1 h2 => Ins.S_put (I := (Ins.mk W3.heap.size w.heap.size #[.slice A n c, .int .i64 nx] (.int .i64 nx) L ⟨id, first, last, keep⟩ j n)) (d := (some 75)) (by decide) k1 h1 h2) ?_
          intro ax wx hx hs
          obtain ⟨e3, -⟩ := hs
          have g3 := Reg.ev (v := .pointer (some ⟨w.heap.size + 1, 0, none⟩)) e3
          exact Reg.obl_freeL rfl (Reg.wp_eqvB (Option.some_ne_none _) (by go_simp) rfl)
        · refine Reg.oblL_ord (l := (Reg.Line.mk [0, 4, 15, 19, 21] 14 (Ins.S (Ins.mk W3.heap.size w.heap.size #[.slice A n c, .int .i64 nx] (.int .i64 nx) L ⟨id, first, last, keep⟩ j n)))) (by show 6 ∉ [0, 4, 15, 19, 21] ∧ 6 ≠ 14; decide) (Reg.extB_next rfl) (fun k1 b1 a1 w1 v1 w2 h1 h2 => Ins.S_put (I := (Ins.mk W3.heap.size w.heap.size #[.slice A n c, .int .i64 nx] (.int .i64 nx) L ⟨id, first, last, keep⟩ j n)) (d := (some 76)) (by decide) k1 h1 h2) ?_
          intro ax wx hx hs
          obtain ⟨e75, -⟩ := hs
          have g75 := Reg.ev (v := .pointer (some ⟨w.heap.size + 1, 1, none⟩)) e75
          obtain ⟨l0, l1, l2, l3, l4⟩ := str5 (Reg.KeepB.str hx HS1_3.out (by omega) (by simp only [List.mem_cons, List.not_mem_nil, or_false]; omega))
          exact Reg.obl_freeL rfl (Reg.wp_eqvB (Option.some_ne_none _) (by go_simp) rfl)
        · refine Reg.oblL_ord (l := (Reg.Line.mk [0, 4, 15, 19, 21] 14 (Ins.S (Ins.mk W3.heap.size w.heap.size #[.slice A n c, .int .i64 nx] (.int .i64 nx) L ⟨id, first, last, keep⟩ j n)))) (by show 7 ∉ [0, 4, 15, 19, 21] ∧ 7 ≠ 14; decide) (Reg.extB_next rfl) (fun k1 b1 a1 w1 v1 w2 h1 h2 => Ins.S_put (I := (Ins.mk W3.heap.size w.heap.size #[.slice A n c, .int .i64 nx] (.int .i64 nx) L ⟨id, first, last, keep⟩ j n)) (d := (some 77)) (by decide) k1 h1 h2) ?_
          intro ax wx hx hs
          obtain ⟨e3, -⟩ := hs
          have g3 := Reg.ev (v := .pointer (some ⟨w.heap.size + 1, 0, none⟩)) e3
          exact Reg.obl_freeL rfl (Reg.wp_eqvB (Option.some_ne_none _) (by go_simp) rfl)
        · refine Reg.oblL_ord (l := (Reg.Line.mk [0, 4, 15, 19, 21] 14 (Ins.S (Ins.mk W3.heap.size w.heap.size #[.slice A n c, .int .i64 nx] (.int .i64 nx) L ⟨id, first, last, keep⟩ j n)))) (by show 8 ∉ [0, 4, 15, 19, 21] ∧ 8 ≠ 14; decide) (Reg.extB_next rfl) (fun k1 b1 a1 w1 v1 w2 h1 h2 => Ins.S_put (I := (Ins.mk W3.heap.size w.heap.size #[.slice A n c, .int .i64 nx] (.int .i64 nx) L ⟨id, first, last, keep⟩ j n)) (d := (some 78)) (by decide) k1 h1 h2) ?_
          intro ax wx hx hs
          obtain ⟨e77, -⟩ := hs
          have g77 := Reg.ev (v := .pointer (some ⟨w.heap.size + 1, 2, none⟩)) e77
          obtain ⟨l0, l1, l2, l3, l4⟩ := str5 (Reg.KeepB.str hx HS1_3.out (by omega) (by simp only [List.mem_cons, List.not_mem_nil, or_false]; omega))
          exact Reg.obl_freeL rfl (Reg.wp_eqvB (Option.some_ne_none _) (by go_simp) rfl)
        · refine Reg.oblL_ord (l := (Reg.Line.mk [0, 4, 15, 19, 21] 14 (Ins.S (Ins.mk W3.heap.size w.heap.size #[.slice A n c, .int .i64 nx] (.int .i64 nx) L ⟨id, first, last, keep⟩ j n)))) (by show 9 ∉ [0, 4, 15, 19, 21] ∧ 9 ≠ 14; decide) (Reg.extB_next rfl) (fun k1 b1 a1 w1 v1 w2 h1 h2 => Ins.S_put (I := (Ins.mk W3.heap.size w.heap.size #[.slice A n c, .int .i64 nx] (.int .i64 nx) L ⟨id, first, last, keep⟩ j n)) (d := (some 79)) (by decide) k1 h1 h2) ?_
          intro ax wx hx hs
          obtain ⟨e3, -⟩ := hs
          have g3 := Reg.ev (v := .pointer (some ⟨w.heap.size + 1, 0, none⟩)) e3
          exact Reg.obl_freeL rfl (Reg.wp_eqvB (Option.some_ne_none _) (by go_simp) rfl)
        · refine Reg.oblL_ord (l := (Reg.Line.mk [0, 4, 15, 19, 21] 14 (Ins.S (Ins.mk W3.heap.size w.heap.size #[.slice A n c, .int .i64 nx] (.int .i64 nx) L ⟨id, first, last, keep⟩ j n)))) (by show 10 ∉ [0, 4, 15, 19, 21] ∧ 10 ≠ 14; decide) (Reg.extB_next rfl) (fun k1 b1 a1 w1 v1 w2 h1 h2 => Ins.S_put (I := (Ins.mk W3.heap.size w.heap.size #[.slice A n c, .int .i64 nx] (.int .i64 nx) L ⟨id, first, last, keep⟩ j n)) (d := (some 80)) (by decide) k1 h1 h2) ?_
          intro ax wx hx hs
          obtain ⟨e79, -⟩ := hs
          have g79 := Reg.ev (v := .pointer (some ⟨w.heap.size + 1, 3, none⟩)) e79
          obtain ⟨l0, l1, l2, l3, l4⟩ := str5 (Reg.KeepB.str hx HS1_3.out (by omega) (by simp only [List.mem_cons, List.not_mem_nil, or_false]; omega))
          exact Reg.obl_freeL rfl (Reg.wp_eqvB (Option.some_ne_none _) (by go_simp) rfl)
        · refine Reg.oblL_ord (l := (Reg.Line.mk [0, 4, 15, 19, 21] 14 (Ins.S (Ins.mk W3.heap.size w.heap.size #[.slice A n c, .int .i64 nx] (.int .i64 nx) L ⟨id, first, last, keep⟩ j n)))) (by show 11 ∉ [0, 4, 15, 19, 21] ∧ 11 ≠ 14; decide) (Reg.extB_next rfl) (fun k1 b1 a1 w1 v1 w2 h1 h2 => Ins.S_put (I := (Ins.mk W3.heap.size w.heap.size #[.slice A n c, .int .i64 nx] (.int .i64 nx) L ⟨id, first, last, keep⟩ j n)) (d := (some 81)) (by decide) k1 h1 h2) ?_
          intro ax wx hx hs
          obtain ⟨e3, -⟩ := hs
          have g3 := Reg.ev (v := .pointer (some ⟨w.heap.size + 1, 0, none⟩)) e3
          exact Reg.obl_freeL rfl (Reg.wp_eqvB (Option.some_ne_none _) (by go_simp) rfl)
        · refine Reg.oblL_ord (l := (Reg.Line.mk [0, 4, 15, 19, 21] 14 (Ins.S (Ins.mk W3.heap.size w.heap.size #[.slice A n c, .int .i64 nx] (.int .i64 nx) L ⟨id, first, last, keep⟩ j n)))) (by show 12 ∉ [0, 4, 15, 19, 21] ∧ 12 ≠ 14; decide) (Reg.extB_next rfl) (fun k1 b1 a1 w1 v1 w2 h1 h2 => Ins.S_put (I := (Ins.mk W3.heap.size w.heap.size #[.slice A n c, .int .i64 nx] (.int .i64 nx) L ⟨id, first, last, keep⟩ j n)) (d := (some 82)) (by decide) k1 h1 h2) ?_
          intro ax wx hx hs
          obtain ⟨e81, -⟩ := hs
          have g81 := Reg.ev (v := .pointer (some ⟨w.heap.size + 1, 4, none⟩)) e81
          obtain ⟨l0, l1, l2, l3, l4⟩ := str5 (Reg.KeepB.str hx HS1_3.out (by omega) (by simp only [List.mem_cons, List.not_mem_nil, or_false]; omega))
          exact Reg.obl_freeL rfl (Reg.wp_eqvB (Option.some_ne_none _) (by go_simp) rfl)
        · refine Reg.oblL_ord (l := (Reg.Line.mk [0, 4, 15, 19, 21] 14 (Ins.S (Ins.mk W3.heap.size w.heap.size #[.slice A n c, .int .i64 nx] (.int .i64 nx) L ⟨id, first, last, keep⟩ j n)))) (by show 13 ∉ [0, 4, 15, 19, 21] ∧ 13 ≠ 14; decide) (Reg.extB_next rfl) (fun k1 b1 a1 w1 v1 w2 h1 h2 => Ins.S_put (I := (Ins.mk W3.heap.size w.heap.size #[.slice A n c, .int .i64 nx] (.int .i64 nx) L ⟨id, first, last, keep⟩ j n)) (d := (some 83)) (by decide) k1 h1 h2) ?_
          intro ax wx hx hs
          obtain ⟨e76, e78, e80, e82, -⟩ := hs
          have g76 := Reg.ev (v := .int .i64 id) e76
          have g78 := Reg.ev (v := .int .i64 first) e78
          have g80 := Reg.ev (v := .int .i64 last) e80
          have g82 := Reg.ev (v := .int .i64 keep) e82
          exact Reg.obl_freeL rfl (Reg.wp_eqvB (Option.some_ne_none _) (by go_simp) rfl)
        · refine Reg.oblL_side (l := (Reg.Line.mk [0, 4, 15, 19, 21] 14 (Ins.S (Ins.mk W3.heap.size w.heap.size #[.slice A n c, .int .i64 nx] (.int .i64 nx) L ⟨id, first, last, keep⟩ j n)))) rfl rfl (by show 14 ∉ [0, 4, 15, 19, 21]; decide) (by show 14 < 22; decide) ?_
          intro k ax wx hx hs has hS
          obtain ⟨e83, -⟩ := hs
          have g83 := Reg.ev (v := .agg #[.int .i64 id, .int .i64 first, .int .i64 last, .int .i64 keep]) e83
          have hxs : W3.heap.size ≤ wx.heap.size := Reg.KeepB.size hx
          refine Oper.wp_mono (K := fun a1 w1 => a1 = ax.put (some 84) (.slice (some ⟨wx.heap.size, 0, none⟩) 1 1) ∧ w1 = wx.alloc (.cells #[.int .i64 id, .int .i64 first, .int .i64 last, .int .i64 keep] 38)) ?_ ?_
          · rintro a1 w1 ⟨rfl, rfl⟩
            exact ⟨⟨_, rfl, (fun h => by cases h), trivial, Reg.KeepB.of ((balloc (bsame wx) _).mono hxs)⟩, Ins.S_side (I := (Ins.mk W3.heap.size w.heap.size #[.slice A n c, .int .i64 nx] (.int .i64 nx) L ⟨id, first, last, keep⟩ j n)) k hS (by rw [has]; show 84 < 151; decide) hxs⟩
          · clear has hS
            go_simp
        · refine Reg.oblL_line (l := (Reg.Line.mk [0, 4, 15, 19, 21] 14 (Ins.S (Ins.mk W3.heap.size w.heap.size #[.slice A n c, .int .i64 nx] (.int .i64 nx) L ⟨id, first, last, keep⟩ j n)))) (k := 2) rfl rfl (by show List.Nodup [0, 4, 15, 19, 21]; decide) (by show 15 ≠ 14; decide) (by show 15 < 22; decide) (.inr ⟨4, rfl, by kernel_rfl⟩) ?_
          intro b ax wx hx hs has hwb hS
          obtain ⟨e74, e84, -⟩ := hs
          have hxs : W3.heap.size ≤ wx.heap.size := Reg.KeepB.size hx
          obtain rfl := hwb (by kernel_rfl)
          obtain ⟨A3, c3, A2, A4, c4, w4, k1, k1', k2, k3, k4⟩ := Ins.S_two (I := (Ins.mk W3.heap.size w.heap.size #[.slice A n c, .int .i64 nx] (.int .i64 nx) L ⟨id, first, last, keep⟩ j n)) hS (by rw [has]; show 85 < 151; decide) hxs (by show w.heap.size < W3.heap.size; omega) (by show j ≤ 1000; omega)
          exact wp_appT (.tmp 74) (.tmp 84) rfl rfl k1 k1' k2 ⟨⟨_, rfl, (fun h => by cases h), trivial, Reg.KeepB.of (k4)⟩, k3⟩
        · refine Reg.oblL_ord (l := (Reg.Line.mk [0, 4, 15, 19, 21] 14 (Ins.S (Ins.mk W3.heap.size w.heap.size #[.slice A n c, .int .i64 nx] (.int .i64 nx) L ⟨id, first, last, keep⟩ j n)))) (by show 16 ∉ [0, 4, 15, 19, 21] ∧ 16 ≠ 14; decide) (Reg.extB_next rfl) (fun k1 b1 a1 w1 v1 w2 h1 h2 => Ins.S_put (I := (Ins.mk W3.heap.size w.heap.size #[.slice A n c, .int .i64 nx] (.int .i64 nx) L ⟨id, first, last, keep⟩ j n)) (d := (some 86)) (by decide) k1 h1 h2) ?_
          intro ax wx hx hs
          obtain ⟨e7, -⟩ := hs
          have g7 := Reg.ev (v := .slice A1 n c1) e7
          exact Reg.obl_freeL rfl (Reg.wp_eqvB (Option.some_ne_none _) (by go_simp) rfl)
        · refine Reg.oblL_ord (l := (Reg.Line.mk [0, 4, 15, 19, 21] 14 (Ins.S (Ins.mk W3.heap.size w.heap.size #[.slice A n c, .int .i64 nx] (.int .i64 nx) L ⟨id, first, last, keep⟩ j n)))) (by show 17 ∉ [0, 4, 15, 19, 21] ∧ 17 ≠ 14; decide) (Reg.extB_next rfl) (fun k1 b1 a1 w1 v1 w2 h1 h2 => Ins.S_put (I := (Ins.mk W3.heap.size w.heap.size #[.slice A n c, .int .i64 nx] (.int .i64 nx) L ⟨id, first, last, keep⟩ j n)) (d := (some 87)) (by decide) k1 h1 h2) ?_
          intro ax wx hx hs
          obtain ⟨e9, -⟩ := hs
          have g9 := Reg.ev (v := .int .i64 j) e9
          exact Reg.obl_freeL rfl (Reg.wp_eqvB (Option.some_ne_none _) (by go_simp) rfl)
        · refine Reg.oblL_ord (l := (Reg.Line.mk [0, 4, 15, 19, 21] 14 (Ins.S (Ins.mk W3.heap.size w.heap.size #[.slice A n c, .int .i64 nx] (.int .i64 nx) L ⟨id, first, last, keep⟩ j n)))) (by show 18 ∉ [0, 4, 15, 19, 21] ∧ 18 ≠ 14; decide) (Reg.extB_next rfl) (fun k1 b1 a1 w1 v1 w2 h1 h2 => Ins.S_put (I := (Ins.mk W3.heap.size w.heap.size #[.slice A n c, .int .i64 nx] (.int .i64 nx) L ⟨id, first, last, keep⟩ j n)) (d := (some 88)) (by decide) k1 h1 h2) ?_
          intro ax wx hx hs
          obtain ⟨e86, e87, -⟩ := hs
          have g86 := Reg.ev (v := .slice A1 n c1) e86
          have g87 := Reg.ev (v := .int .i64 j) e87
          exact Reg.obl_freeL rfl (Reg.wp_eqvB (Option.some_ne_none _) (by go_simp) rfl)
        · refine Reg.oblL_line (l := (Reg.Line.mk [0, 4, 15, 19, 21] 14 (Ins.S (Ins.mk W3.heap.size w.heap.size #[.slice A n c, .int .i64 nx] (.int .i64 nx) L ⟨id, first, last, keep⟩ j n)))) (k := 3) rfl rfl (by show List.Nodup [0, 4, 15, 19, 21]; decide) (by show 19 ≠ 14; decide) (by show 19 < 22; decide) (.inr ⟨15, rfl, by kernel_rfl⟩) ?_
          intro b ax wx hx hs has hwb hS
          obtain ⟨e85, e88, -⟩ := hs
          have g88 := Reg.ev (v := .slice (cutA A1 j c1 4) (n - j) (c1 - j)) e88
          have hxs : W3.heap.size ≤ wx.heap.size := Reg.KeepB.size hx
          have hbx : Elems TxnE wx W3.heap.size A1 n c1 L := TxnE.keepE HO3.out.elems HNA.out hx
          have hct := hbx.cut j n c1 hj (Nat.le_refl _) (by omega) (Nat.le_refl _)
          rw [List.take_of_length_le (by simp; omega)] at hct
          obtain ⟨A3, c3, A4, c4, w4, k1, k2, k3, k4⟩ := Ins.S_three (I := (Ins.mk W3.heap.size w.heap.size #[.slice A n c, .int .i64 nx] (.int .i64 nx) L ⟨id, first, last, keep⟩ j n)) hS (by rw [has]; show 89 < 151; decide) hxs (by show w.heap.size < W3.heap.size; omega) hct hj hn
          exact wp_appT (.tmp 85) (.tmp 88) rfl rfl k1 e88 k2 ⟨⟨_, rfl, (fun h => by cases h), trivial, Reg.KeepB.of (k4)⟩, k3⟩
        · refine Reg.oblL_ord (l := (Reg.Line.mk [0, 4, 15, 19, 21] 14 (Ins.S (Ins.mk W3.heap.size w.heap.size #[.slice A n c, .int .i64 nx] (.int .i64 nx) L ⟨id, first, last, keep⟩ j n)))) (by show 20 ∉ [0, 4, 15, 19, 21] ∧ 20 ≠ 14; decide) (Reg.extB_next rfl) (fun k1 b1 a1 w1 v1 w2 h1 h2 => Ins.S_put (I := (Ins.mk W3.heap.size w.heap.size #[.slice A n c, .int .i64 nx] (.int .i64 nx) L ⟨id, first, last, keep⟩ j n)) (d := (some 90)) (by decide) k1 h1 h2) ?_
          intro ax wx hx hs
          obtain ⟨e2, -⟩ := hs
          have g2 := Reg.ev (v := .pointer (some ⟨w.heap.size, 0, none⟩)) e2
          exact Reg.obl_freeL rfl (Reg.wp_eqvB (Option.some_ne_none _) (by go_simp) rfl)
        · refine Reg.oblL_line (l := (Reg.Line.mk [0, 4, 15, 19, 21] 14 (Ins.S (Ins.mk W3.heap.size w.heap.size #[.slice A n c, .int .i64 nx] (.int .i64 nx) L ⟨id, first, last, keep⟩ j n)))) (k := 4) rfl rfl (by show List.Nodup [0, 4, 15, 19, 21]; decide) (by show 21 ≠ 14; decide) (by show 21 < 22; decide) (.inr ⟨19, rfl, by kernel_rfl⟩) ?_
          intro b ax wx hx hs has hwb hS
          obtain ⟨e90, e89, -⟩ := hs
          have g90 := Reg.ev (v := .pointer (some ⟨w.heap.size, 0, none⟩)) e90
          have hxs : W3.heap.size ≤ wx.heap.size := Reg.KeepB.size hx
          obtain ⟨A3, c3, k1, k2, k3⟩ := Ins.S_four (I := (Ins.mk W3.heap.size w.heap.size #[.slice A n c, .int .i64 nx] (.int .i64 nx) L ⟨id, first, last, keep⟩ j n)) (x := .slice A n c) hS rfl (by show w.heap.size < W3.heap.size; omega)
          have g89 := Reg.ev k1
          have z0 : wx.cell? ⟨w.heap.size, 0, none⟩ = some (.slice A n c) := (str2 k2).1
          have z1 : wx.frozen? ⟨w.heap.size, 0, none⟩ = false := k2.frozen 0
          refine Oper.wp_mono (K := fun a1 w1 => a1 = ax ∧ w1 = wx.setCell ⟨w.heap.size, 0, none⟩ (.slice A3 (n + 1) c3)) ?_ ?_
          · rintro a1 w1 ⟨rfl, rfl⟩
            exact ⟨⟨undef, rfl, fun _ => rfl, trivial, Reg.KeepB.grown (Reg.KeepB.of (Below.refl _ wx)) (grown_set (grown_refl wx _) 0 _) hxs (.inr (by simp))⟩, k3⟩
          · clear has hS
            go_simp
      · intro W4 listed hwf hall
        simp only [Reg.Fin]
        rintro v70 h70 _ rfl _ rfl _ rfl v74 h74 _ rfl _ rfl _ rfl _ rfl _ rfl _ rfl _ rfl _ rfl _ rfl v84 h84 v85 h85 _ rfl _ rfl _ rfl v89 h89 _ rfl vn21 hn21
        intro hJ
        obtain ⟨bL, hbL, hSL⟩ := Reg.line_end (l := (Reg.Line.mk [0, 4, 15, 19, 21] 14 (Ins.S (Ins.mk W3.heap.size w.heap.size #[.slice A n c, .int .i64 nx] (.int .i64 nx) L ⟨id, first, last, keep⟩ j n)))) (n := 22) hall (by show ∀ c ∈ [0, 4, 15, 19, 21], c < 22; decide) hJ
        clear hJ hall hbL
        go_simp
        obtain ⟨-, A5, c5, hbx5, hO5⟩ := hSL
        dsimp only at hbx5 hO5
        rw [← HP.out] at hO5
        have hwf' : Reg.KeepB W3.heap.size [w.heap.size] W3 W4 := hwf
        have HS2_4 := Lib.hid (Str.keepB HS2_3.out hwf' (by simp only [List.mem_cons, List.not_mem_nil, or_false]; omega))
        have HO5 := Lib.hid hO5
        have HS0_4 : Hid (Str W4 w.heap.size #[.slice A5 (n + 1) c5, .int .i64 nx]) := Lib.hid hbx5
        have r0 := str2 HS0_4.out
        have r2 := str2 HS2_4.out
        have rf := fun j => HS2_4.out.frozen j
        have rl0 := HS0_4.out.lt
        have rl2 := HS2_4.out.lt
        have HB_4 := Lib.hid (HB_3.out.trans (hwf'.below hw_3 (by simp)))
        clear hwf hwf' hbx5 hO5
        go_wp2_with fail
        refine bodyPost_ret (v := .tuple #[.agg #[.slice A5 (n + 1) c5, .int .i64 nx], .int .i64 0, .bool true]) (by simp [results, Try.results7, go_sem, *]) rfl ⟨_, _, _, rfl, (TxnE.grown (TxnE.grown HO5.out (grown_set (grown_refl _ (w.heap.size + 1 + 1)) 0 (.slice A5 (n + 1) c5)) (fun a e => by have := HO5.out.ge a e; omega)) (grown_set (grown_refl _ (w.heap.size + 1 + 1)) 1 (.int .i64 nx)) (fun a e => by have := HO5.out.ge a e; omega)).elems, (below_grown (below_grown HB_4.out (grown_set (grown_refl _ (w.heap.size + 1 + 1)) 0 (.slice A5 (n + 1) c5)) (by omega)) (grown_set (grown_refl _ (w.heap.size + 1 + 1)) 1 (.int .i64 nx)) (by omega))⟩
end Go.Proofs.Ytbcpepjedhafbaa.RefTxn
