/-
  Texts of one claim, joined: Law16Do, PDevL, Law16Gr, DevLastW.
-/
import Derived.Test.YtldgdgfplgdipaaLaw16G
namespace Go.Proofs.Ytldgdgfplgdipaa.Law16
open Go.RowKit Go.Maps DevW
set_option linter.unusedVariables false
set_option linter.unusedSimpArgs false
attribute [local go_sem ↓] ldPage_fold stPage_fold bdPage_fold alPage_fold
variable {d : Nat} {bs : List Nat} {X : DevX}
set_option maxRecDepth 100000 in
set_option maxHeartbeats 1000000 in
theorem do_dev_0 (no v : Int) (A : Option Addr) (n c : Nat) (P : Option Addr) (m pc : Nat) (lg : Int) (b : List UInt8) (w : World) (hD : Dev w d bs X) (hs : DevP.Small X) (hy : Bytes w w.heap.size A n c b) (hA : 0 < n → ∀ a, A = some a → a.block ∉ bs) (hm : n ≤ 1000000000) :
    Calls Try.prog 6 #[.pointer (some ⟨d, 0, none⟩), .agg #[.int .i64 0, .int .i64 no, .int .i64 v, .slice A n c, .slice P m pc, .int .i64 lg]] w (Tells w d bs (DevP.op X (fitsN X no) X) (DevP.err X (fitsN X no))) := by
  obtain ⟨er, her⟩ : ∃ x, (DevP.err X (fitsN X no)) = x := ⟨_, rfl⟩
  rw [her]
  have HER := Lib.hid her
  clear her
  have hz : (SlotP.zeros 512).length = 512 := List.length_replicate
  have hal := fun W => run_al (P := Try.prog) arrPage W
  have hbd := fun W => run_bd (P := Try.prog) arrPage W
  obtain ⟨W0, hW0⟩ : ∃ W, ((w.alloc (.cells #[.int .i64 0, .int .i64 no, .int .i64 v, .slice A n c, .slice P m pc, .int .i64 lg] 27)).alloc (.cells (rowV (SlotP.zeros 512)) 30)).alloc (.cells (rowV (SlotP.zeros 512)) 30) = W := ⟨_, rfl⟩
  obtain ⟨HS0, HS1, HS2, HB0, hw0, hz0⟩ := new3 hW0
  have HD0 := Lib.hid (hD.below HB0.out)
  have HN0 : Hid (∀ b ∈ bs, b < w.heap.size) := Lib.hid (fun b hb => hD.lt b hb)
  have HNN : Hid (∀ b ∈ [w.heap.size, w.heap.size + 1, w.heap.size + 1 + 1], b ∉ bs) := Lib.hid (fun b hb hm => by have := hD.lt b hm; simp only [List.mem_cons, List.not_mem_nil, or_false] at hb; omega)
  have HY0 := Lib.hid ((hy.next HB0.out))
  have f0 := str6 HS0.out
  have hl0 := HS0.out.lt
  have hl1 := HS1.out.lt
  have hl2 := HS2.out.lt
  clear hz0 hy hD
  go_enter Try.func6, Try.ntmps6
  go_wp2_with fail
  have HS1_0 := HS1
  have HS2_0 := HS2
  clear HS1 HS2
  refine (Read_any no W0 HD0.out hs.1).mono ?_
  rintro r W1 ⟨rfl, bs1, hd1, hn1, hk1⟩
  rw [show (DevP.err X (fitsN X no)) = er from HER.out]
  have HS1_1 := Lib.hid (HS1_0.out.keepB hk1 (HNN.out _ (by simp)))
  have HS2_1 := Lib.hid (HS2_0.out.keepB hk1 (HNN.out _ (by simp)))
  have hs01 := HS0.out.keepB hk1 (HNN.out _ (by simp))
  have HK1 := Lib.hid (keep_since (js := []) HB0.out hk1 (by simp))
  have HT1 : Hid (∃ bs2, Dev W1 d bs2 (DevP.op X (fitsN X no) X) ∧ ∀ b ∈ bs2, b ∈ bs ∨ W0.heap.size ≤ b) := Lib.hid ⟨bs1, hd1, hn1⟩
  have f1 := str6 hs01
  have hla := hs01.lt
  have hlb := HS1_1.out.lt
  have hlc := HS2_1.out.lt
  have hzk := hk1.size
  clear f0 hs01 hd1 hn1 hk1
  have HQ : Hid ((DevP.read X no (fitsN X no)).length = 512) := Lib.hid (by
    unfold DevP.read
    split
    · cases hg : X.now[no.toNat]? with
      | none => exact hz
      | some q => exact HD0.out.ok.w1 q (List.mem_of_getElem? hg)
    · exact hz)
  have hst := run_st (P := Try.prog) arrPage HS2_1.out (by rw [rowV_size]; exact hz) HQ.out
  have hg := grown_setRow W1 (w.heap.size + 1 + 1) (rowV (DevP.read X no (fitsN X no)))
  obtain ⟨W2, hW2⟩ : ∃ W, W1.setRow (w.heap.size + 1 + 1) (rowV (DevP.read X no (fitsN X no))) = W := ⟨_, rfl⟩
  rw [hW2] at hst hg
  have HS1_2 := Lib.hid (HS1_1.out.grown hg (by omega))
  have HS2_2 : Hid (Str W2 (w.heap.size + 1 + 1) (rowV (DevP.read X no (fitsN X no)))) := Lib.hid (by rw [← hW2]; exact HS2_1.out.setRow)
  have HK2 := Lib.hid (HK1.out.grown hg (by omega) (.inl (by omega)))
  obtain ⟨bs2, hd2, hn2⟩ := HT1.out
  have HT2 : Hid (∃ bs2, Dev W2 d bs2 (DevP.op X (fitsN X no) X) ∧ ∀ b ∈ bs2, b ∈ bs ∨ W0.heap.size ≤ b) := Lib.hid ⟨bs2, hd2.grown hg (by intro hm; rcases hn2 _ hm with h | h; have := HN0.out _ h; omega; omega), hn2⟩
  clear hg hW2 f1 hd2 hn2
  go_wp2_with fail
  refine Reg.wp_region_box (R := (Reg.extB W2.heap.size [w.heap.size + 1])) (W := W2) (Reg.LineJ (Reg.Line.mk [3] 5 (StS (w.heap.size + 1) (SlotP.zeros 512) (DevP.read X no (fitsN X no))))) [Reg.eqv (.agg (rowV (DevP.read X no (fitsN X no)))), Reg.eqv (.int .i64 er), Reg.eqv (.int .i64 er), Reg.any, Reg.eqv (.int .i64 er)] 78 [[(6, none)], [(7, none)], [(76, some 1)], [(4, none), (75, some 0)], [(77, some 2)]] rfl (by kernel_rfl) (by kernel_rfl) (fun _ h => Reg.line_zero (l := (Reg.Line.mk [3] 5 (StS (w.heap.size + 1) (SlotP.zeros 512) (DevP.read X no (fitsN X no))))) HS1_2.out h) (by kernel_rfl) ?_ [some 75, some 76, some 77, none, some 5] (by kernel_rfl) ?_
  · refine ⟨?_, ?_, ?_, ?_, ?_, trivial⟩
    · refine Reg.oblL_ord (l := (Reg.Line.mk [3] 5 (StS (w.heap.size + 1) (SlotP.zeros 512) (DevP.read X no (fitsN X no))))) (by show 0 ∉ [3] ∧ 0 ≠ 5; decide) (Reg.extB_next rfl) (fun k1 b1 a1 w1 v1 w2 h1 h2 => StS.put (b1 := b1) (a := a1) (dst := (some 75)) (v := v1) k1 h1 h2) ?_
      intro ax wx hx hs
      obtain ⟨e6, -⟩ := hs
      have g6 := Reg.ev (v := .pointer (some ⟨w.heap.size + 1 + 1, 0, none⟩)) e6
      refine Reg.obl_freeL rfl ?_
      have hld := run_ld (P := Try.prog) arrPage (Reg.KeepB.str hx HS2_2.out (HS2_2.out.lt) (by simp)) HQ.out
      exact Reg.wp_eqvB (Option.some_ne_none _) (by go_simp) rfl
    · refine Reg.oblL_ord (l := (Reg.Line.mk [3] 5 (StS (w.heap.size + 1) (SlotP.zeros 512) (DevP.read X no (fitsN X no))))) (by show 1 ∉ [3] ∧ 1 ≠ 5; decide) (Reg.extB_next rfl) (fun k1 b1 a1 w1 v1 w2 h1 h2 => StS.put (b1 := b1) (a := a1) (dst := (some 76)) (v := v1) k1 h1 h2) ?_
      intro ax wx hx hs
      obtain ⟨e7, -⟩ := hs
      have g7 := Reg.ev (v := .int .i64 er) e7
      exact Reg.obl_freeL rfl (Reg.wp_eqvB (Option.some_ne_none _) (by go_simp) rfl)
    · refine Reg.oblL_ord (l := (Reg.Line.mk [3] 5 (StS (w.heap.size + 1) (SlotP.zeros 512) (DevP.read X no (fitsN X no))))) (by show 2 ∉ [3] ∧ 2 ≠ 5; decide) (Reg.extB_next rfl) (fun k1 b1 a1 w1 v1 w2 h1 h2 => StS.put (b1 := b1) (a := a1) (dst := (some 77)) (v := v1) k1 h1 h2) ?_
      intro ax wx hx hs
      obtain ⟨e76, -⟩ := hs
      have g76 := Reg.ev (v := .int .i64 er) e76
      refine Reg.obl_freeL rfl ?_
      go_simp
      refine (code_any (er) wx).mono ?_
      rintro r wy ⟨rfl, rfl⟩
      exact Reg.doneB (Option.some_ne_none _) rfl (bsame _)
    · refine Reg.oblL_line (l := (Reg.Line.mk [3] 5 (StS (w.heap.size + 1) (SlotP.zeros 512) (DevP.read X no (fitsN X no))))) (k := 0) rfl rfl (by show List.Nodup [3]; decide) (by show 3 ≠ 5; decide) (by show 3 < 5; decide) (.inl rfl) ?_
      intro b ax wx hx hs has hwb hS
      obtain ⟨e4, e75, -⟩ := hs
      have g4 := Reg.ev (v := .pointer (some ⟨w.heap.size + 1, 0, none⟩)) e4
      have g75 := Reg.ev (v := .agg (rowV (DevP.read X no (fitsN X no)))) e75
      have hxs : W2.heap.size ≤ wx.heap.size := Reg.KeepB.size hx
      have hst := run_st (P := Try.prog) arrPage (show Str wx (w.heap.size + 1) (rowV (SlotP.zeros 512)) from hS) (by rw [rowV_size]; exact hz) HQ.out
      have k3 := (show Str wx (w.heap.size + 1) (rowV (SlotP.zeros 512)) from hS).setRow (cs' := rowV (DevP.read X no (fitsN X no)))
      refine Oper.wp_mono (K := fun a1 w1 => a1 = ax ∧ w1 = wx.setRow (w.heap.size + 1) (rowV (DevP.read X no (fitsN X no)))) ?_ ?_
      · rintro a1 w1 ⟨rfl, rfl⟩
        exact ⟨⟨undef, rfl, fun _ => rfl, trivial, Reg.KeepB.grown (Reg.KeepB.of (Below.refl _ wx)) (grown_setRow wx _ _) hxs (.inr (by simp))⟩, k3⟩
      · clear has k3 hS
        go_simp
    · refine Reg.oblL_ord (l := (Reg.Line.mk [3] 5 (StS (w.heap.size + 1) (SlotP.zeros 512) (DevP.read X no (fitsN X no))))) (by show 4 ∉ [3] ∧ 4 ≠ 5; decide) (Reg.extB_next rfl) (fun k1 b1 a1 w1 v1 w2 h1 h2 => StS.put (b1 := b1) (a := a1) (dst := (some 5)) (v := v1) k1 h1 h2) ?_
      intro ax wx hx hs
      obtain ⟨e77, -⟩ := hs
      have g77 := Reg.ev (v := .int .i64 er) e77
      exact Reg.obl_freeL rfl (Reg.wp_eqvB (Option.some_ne_none _) (by go_simp) rfl)
  · intro Wf listed hwf hall
    simp only [Reg.Fin]
    rintro _ rfl _ rfl _ rfl vn3 hn3 _ rfl
    intro hJ
    obtain ⟨bL, hbL, hSL⟩ := Reg.line_end (l := (Reg.Line.mk [3] 5 (StS (w.heap.size + 1) (SlotP.zeros 512) (DevP.read X no (fitsN X no))))) (n := 5) hall (by show ∀ c ∈ [3], c < 5; decide) hJ
    clear hJ hall hbL
    go_simp
    have hSf : Str Wf (w.heap.size + 1) (rowV (DevP.read X no (fitsN X no))) := hSL
    have hkf : Reg.KeepB W2.heap.size [w.heap.size + 1] W2 Wf := hwf
    have hkk : Reg.KeepB w.heap.size bs w Wf := ⟨hkf.os.trans HK2.out.os, hkf.tape.trans HK2.out.tape, hkf.output.trans HK2.out.output, Nat.le_trans HK2.out.size hkf.size, fun i hi hb => (hkf.block i (Nat.lt_of_lt_of_le hi HK2.out.size) (by simp only [List.mem_cons, List.not_mem_nil, or_false]; omega)).trans (HK2.out.block i hi hb)⟩
    obtain ⟨bs2, hd2, hn2⟩ := HT2.out
    have hdf : Dev Wf d bs2 (DevP.op X (fitsN X no) X) := hd2.keepB hkf (by intro b hb hm; rw [List.mem_singleton] at hb; rcases hn2 b hm with h | h; have := HN0.out b h; omega; omega)
    have HSF := Lib.hid hSf
    have HTF : Hid (DevW.Told w d bs (DevP.op X (fitsN X no) X) (.tuple #[.agg (rowV (DevP.read X no (fitsN X no))), .int .i64 er]) (.returned (.tuple #[.agg (rowV (DevP.read X no (fitsN X no))), .int .i64 er])) Wf) := Lib.hid ⟨rfl, bs2, hdf, fun b hb => (hn2 b hb).imp id (fun h => by omega), hkk⟩
    clear hSf hkf hwf hSL hkk hdf hd2 hn2
    go_wp2_with fail
    exact bodyPost_ret (v := .tuple #[.agg (rowV (DevP.read X no (fitsN X no))), .int .i64 er]) (results_page Try.results6 _ HSF.out HQ.out rfl) rfl ⟨_, HQ.out, HTF.out⟩
set_option maxRecDepth 100000 in
set_option maxHeartbeats 1000000 in
theorem do_dev_1 (no v : Int) (A : Option Addr) (n c : Nat) (P : Option Addr) (m pc : Nat) (lg : Int) (b : List UInt8) (w : World) (hD : Dev w d bs X) (hs : DevP.Small X) (hy : Bytes w w.heap.size A n c b) (hA : 0 < n → ∀ a, A = some a → a.block ∉ bs) (hm : n ≤ 1000000000) :
    Calls Try.prog 6 #[.pointer (some ⟨d, 0, none⟩), .agg #[.int .i64 1, .int .i64 no, .int .i64 v, .slice A n c, .slice P m pc, .int .i64 lg]] w (Tells w d bs (DevP.op X (fitsN X no) (DevP.wrote X no.toNat (DevP.page no v))) (DevP.err X (fitsN X no))) := by
  obtain ⟨er, her⟩ : ∃ x, (DevP.err X (fitsN X no)) = x := ⟨_, rfl⟩
  rw [her]
  have HER := Lib.hid her
  clear her
  have hz : (SlotP.zeros 512).length = 512 := List.length_replicate
  have hal := fun W => run_al (P := Try.prog) arrPage W
  have hbd := fun W => run_bd (P := Try.prog) arrPage W
  obtain ⟨W0, hW0⟩ : ∃ W, ((w.alloc (.cells #[.int .i64 1, .int .i64 no, .int .i64 v, .slice A n c, .slice P m pc, .int .i64 lg] 27)).alloc (.cells (rowV (SlotP.zeros 512)) 30)).alloc (.cells (rowV (SlotP.zeros 512)) 30) = W := ⟨_, rfl⟩
  obtain ⟨HS0, HS1, HS2, HB0, hw0, hz0⟩ := new3 hW0
  have HD0 := Lib.hid (hD.below HB0.out)
  have HN0 : Hid (∀ b ∈ bs, b < w.heap.size) := Lib.hid (fun b hb => hD.lt b hb)
  have HNN : Hid (∀ b ∈ [w.heap.size, w.heap.size + 1, w.heap.size + 1 + 1], b ∉ bs) := Lib.hid (fun b hb hm => by have := hD.lt b hm; simp only [List.mem_cons, List.not_mem_nil, or_false] at hb; omega)
  have HY0 := Lib.hid ((hy.next HB0.out))
  have f0 := str6 HS0.out
  have hl0 := HS0.out.lt
  have hl1 := HS1.out.lt
  have hl2 := HS2.out.lt
  clear hz0 hy hD
  go_enter Try.func6, Try.ntmps6
  go_wp2_with fail
  have HS1_0 := HS1
  have HS2_0 := HS2
  clear HS1 HS2
  refine Reg.wp_region_box (R := (Reg.extB W0.heap.size bs)) (W := W0) (Reg.LineJ (Reg.Line.mk [8, 9] 10 (Tel.S (Tel.mk W0.heap.size d bs X (DevP.op X (fitsN X no) (DevP.wrote X no.toNat (DevP.page no v))) er 29 7)))) [Reg.eqv (.pointer (some ⟨d, 0, none⟩)), Reg.eqv (.pointer (some ⟨w.heap.size, 1, none⟩)), Reg.eqv (.int .i64 no), Reg.eqv (.pointer (some ⟨w.heap.size, 1, none⟩)), Reg.eqv (.int .i64 no), Reg.eqv (.pointer (some ⟨w.heap.size, 2, none⟩)), Reg.eqv (.int .i64 v), Reg.eqv (.agg (rowV (DevP.page no v))), Reg.any, Reg.any] 78 [[(0, none)], [(3, none)], [(22, some 1)], [(3, none)], [(24, some 3)], [(3, none)], [(26, some 5)], [(25, some 4), (27, some 6)], [(21, some 0), (23, some 2), (28, some 7)], [(29, some 8)]] rfl (by kernel_rfl) (by kernel_rfl) (fun _ h => Reg.line_zero (l := (Reg.Line.mk [8, 9] 10 (Tel.S (Tel.mk W0.heap.size d bs X (DevP.op X (fitsN X no) (DevP.wrote X no.toNat (DevP.page no v))) er 29 7)))) (HD0.out.below ((bsame W0).drew)) h) (by kernel_rfl) ?_ [some 21, some 22, some 23, some 24, some 25, some 26, some 27, some 28, some 29, some 7] (by kernel_rfl) ?_
  · refine ⟨?_, ?_, ?_, ?_, ?_, ?_, ?_, ?_, ?_, ?_, trivial⟩
    · refine Reg.oblL_ord (l := (Reg.Line.mk [8, 9] 10 (Tel.S (Tel.mk W0.heap.size d bs X (DevP.op X (fitsN X no) (DevP.wrote X no.toNat (DevP.page no v))) er 29 7)))) (by show 0 ∉ [8, 9] ∧ 0 ≠ 10; decide) (Reg.extB_next rfl) (fun k1 b1 a1 w1 v1 w2 h1 h2 => Tel.put (I := (Tel.mk W0.heap.size d bs X (DevP.op X (fitsN X no) (DevP.wrote X no.toNat (DevP.page no v))) er 29 7)) (b1 := b1) (a := a1) (dst := (some 21)) (v := v1) (by show ((some 21) : Option Nat) ≠ some 29 ∧ ((some 21) : Option Nat) ≠ some 7; decide) k1 h1 h2) ?_
      intro ax wx hx hs
      obtain ⟨e0, -⟩ := hs
      have g0 := Reg.ev (v := .pointer (some ⟨d, 0, none⟩)) e0
      exact Reg.obl_freeL rfl (Reg.wp_eqvB (Option.some_ne_none _) (by go_simp) rfl)
    · refine Reg.oblL_ord (l := (Reg.Line.mk [8, 9] 10 (Tel.S (Tel.mk W0.heap.size d bs X (DevP.op X (fitsN X no) (DevP.wrote X no.toNat (DevP.page no v))) er 29 7)))) (by show 1 ∉ [8, 9] ∧ 1 ≠ 10; decide) (Reg.extB_next rfl) (fun k1 b1 a1 w1 v1 w2 h1 h2 => Tel.put (I := (Tel.mk W0.heap.size d bs X (DevP.op X (fitsN X no) (DevP.wrote X no.toNat (DevP.page no v))) er 29 7)) (b1 := b1) (a := a1) (dst := (some 22)) (v := v1) (by show ((some 22) : Option Nat) ≠ some 29 ∧ ((some 22) : Option Nat) ≠ some 7; decide) k1 h1 h2) ?_
      intro ax wx hx hs
      obtain ⟨e3, -⟩ := hs
      have g3 := Reg.ev (v := .pointer (some ⟨w.heap.size, 0, none⟩)) e3
      exact Reg.obl_freeL rfl (Reg.wp_eqvB (Option.some_ne_none _) (by go_simp) rfl)
    · refine Reg.oblL_ord (l := (Reg.Line.mk [8, 9] 10 (Tel.S (Tel.mk W0.heap.size d bs X (DevP.op X (fitsN X no) (DevP.wrote X no.toNat (DevP.page no v))) er 29 7)))) (by show 2 ∉ [8, 9] ∧ 2 ≠ 10; decide) (Reg.extB_next rfl) (fun k1 b1 a1 w1 v1 w2 h1 h2 => Tel.put (I := (Tel.mk W0.heap.size d bs X (DevP.op X (fitsN X no) (DevP.wrote X no.toNat (DevP.page no v))) er 29 7)) (b1 := b1) (a := a1) (dst := (some 23)) (v := v1) (by show ((some 23) : Option Nat) ≠ some 29 ∧ ((some 23) : Option Nat) ≠ some 7; decide) k1 h1 h2) ?_
      intro ax wx hx hs
      obtain ⟨e22, -⟩ := hs
      have g22 := Reg.ev (v := .pointer (some ⟨w.heap.size, 1, none⟩)) e22
      have l0 := str6 (Reg.KeepB.str hx HS0.out (by omega) (HNN.out _ (by simp)))
      exact Reg.obl_freeL rfl (Reg.wp_eqvB (Option.some_ne_none _) (by go_simp) rfl)
    · refine Reg.oblL_ord (l := (Reg.Line.mk [8, 9] 10 (Tel.S (Tel.mk W0.heap.size d bs X (DevP.op X (fitsN X no) (DevP.wrote X no.toNat (DevP.page no v))) er 29 7)))) (by show 3 ∉ [8, 9] ∧ 3 ≠ 10; decide) (Reg.extB_next rfl) (fun k1 b1 a1 w1 v1 w2 h1 h2 => Tel.put (I := (Tel.mk W0.heap.size d bs X (DevP.op X (fitsN X no) (DevP.wrote X no.toNat (DevP.page no v))) er 29 7)) (b1 := b1) (a := a1) (dst := (some 24)) (v := v1) (by show ((some 24) : Option Nat) ≠ some 29 ∧ ((some 24) : Option Nat) ≠ some 7; decide) k1 h1 h2) ?_
      intro ax wx hx hs
      obtain ⟨e3, -⟩ := hs
      have g3 := Reg.ev (v := .pointer (some ⟨w.heap.size, 0, none⟩)) e3
      exact Reg.obl_freeL rfl (Reg.wp_eqvB (Option.some_ne_none _) (by go_simp) rfl)
    · refine Reg.oblL_ord (l := (Reg.Line.mk [8, 9] 10 (Tel.S (Tel.mk W0.heap.size d bs X (DevP.op X (fitsN X no) (DevP.wrote X no.toNat (DevP.page no v))) er 29 7)))) (by show 4 ∉ [8, 9] ∧ 4 ≠ 10; decide) (Reg.extB_next rfl) (fun k1 b1 a1 w1 v1 w2 h1 h2 => Tel.put (I := (Tel.mk W0.heap.size d bs X (DevP.op X (fitsN X no) (DevP.wrote X no.toNat (DevP.page no v))) er 29 7)) (b1 := b1) (a := a1) (dst := (some 25)) (v := v1) (by show ((some 25) : Option Nat) ≠ some 29 ∧ ((some 25) : Option Nat) ≠ some 7; decide) k1 h1 h2) ?_
      intro ax wx hx hs
      obtain ⟨e24, -⟩ := hs
      have g24 := Reg.ev (v := .pointer (some ⟨w.heap.size, 1, none⟩)) e24
      have l0 := str6 (Reg.KeepB.str hx HS0.out (by omega) (HNN.out _ (by simp)))
      exact Reg.obl_freeL rfl (Reg.wp_eqvB (Option.some_ne_none _) (by go_simp) rfl)
    · refine Reg.oblL_ord (l := (Reg.Line.mk [8, 9] 10 (Tel.S (Tel.mk W0.heap.size d bs X (DevP.op X (fitsN X no) (DevP.wrote X no.toNat (DevP.page no v))) er 29 7)))) (by show 5 ∉ [8, 9] ∧ 5 ≠ 10; decide) (Reg.extB_next rfl) (fun k1 b1 a1 w1 v1 w2 h1 h2 => Tel.put (I := (Tel.mk W0.heap.size d bs X (DevP.op X (fitsN X no) (DevP.wrote X no.toNat (DevP.page no v))) er 29 7)) (b1 := b1) (a := a1) (dst := (some 26)) (v := v1) (by show ((some 26) : Option Nat) ≠ some 29 ∧ ((some 26) : Option Nat) ≠ some 7; decide) k1 h1 h2) ?_
      intro ax wx hx hs
      obtain ⟨e3, -⟩ := hs
      have g3 := Reg.ev (v := .pointer (some ⟨w.heap.size, 0, none⟩)) e3
      exact Reg.obl_freeL rfl (Reg.wp_eqvB (Option.some_ne_none _) (by go_simp) rfl)
    · refine Reg.oblL_ord (l := (Reg.Line.mk [8, 9] 10 (Tel.S (Tel.mk W0.heap.size d bs X (DevP.op X (fitsN X no) (DevP.wrote X no.toNat (DevP.page no v))) er 29 7)))) (by show 6 ∉ [8, 9] ∧ 6 ≠ 10; decide) (Reg.extB_next rfl) (fun k1 b1 a1 w1 v1 w2 h1 h2 => Tel.put (I := (Tel.mk W0.heap.size d bs X (DevP.op X (fitsN X no) (DevP.wrote X no.toNat (DevP.page no v))) er 29 7)) (b1 := b1) (a := a1) (dst := (some 27)) (v := v1) (by show ((some 27) : Option Nat) ≠ some 29 ∧ ((some 27) : Option Nat) ≠ some 7; decide) k1 h1 h2) ?_
      intro ax wx hx hs
      obtain ⟨e26, -⟩ := hs
      have g26 := Reg.ev (v := .pointer (some ⟨w.heap.size, 2, none⟩)) e26
      have l0 := str6 (Reg.KeepB.str hx HS0.out (by omega) (HNN.out _ (by simp)))
      exact Reg.obl_freeL rfl (Reg.wp_eqvB (Option.some_ne_none _) (by go_simp) rfl)
    · refine Reg.oblL_ord (l := (Reg.Line.mk [8, 9] 10 (Tel.S (Tel.mk W0.heap.size d bs X (DevP.op X (fitsN X no) (DevP.wrote X no.toNat (DevP.page no v))) er 29 7)))) (by show 7 ∉ [8, 9] ∧ 7 ≠ 10; decide) (Reg.extB_next rfl) (fun k1 b1 a1 w1 v1 w2 h1 h2 => Tel.put (I := (Tel.mk W0.heap.size d bs X (DevP.op X (fitsN X no) (DevP.wrote X no.toNat (DevP.page no v))) er 29 7)) (b1 := b1) (a := a1) (dst := (some 28)) (v := v1) (by show ((some 28) : Option Nat) ≠ some 29 ∧ ((some 28) : Option Nat) ≠ some 7; decide) k1 h1 h2) ?_
      intro ax wx hx hs
      obtain ⟨e25, e27, -⟩ := hs
      have g25 := Reg.ev (v := .int .i64 no) e25
      have g27 := Reg.ev (v := .int .i64 v) e27
      refine Reg.obl_freeL rfl ?_
      go_simp
      refine (of_any no v wx).mono ?_
      rintro r wy ⟨rfl, hby⟩
      exact Reg.doneB (Option.some_ne_none _) rfl hby
    · refine Reg.oblL_line (l := (Reg.Line.mk [8, 9] 10 (Tel.S (Tel.mk W0.heap.size d bs X (DevP.op X (fitsN X no) (DevP.wrote X no.toNat (DevP.page no v))) er 29 7)))) (k := 0) rfl rfl (by show List.Nodup [8, 9]; decide) (by show 8 ≠ 10; decide) (by show 8 < 10; decide) (.inl rfl) ?_
      intro b ax wx hx hs has hwb hS
      obtain ⟨e21, e23, e28, -⟩ := hs
      have g21 := Reg.ev (v := .pointer (some ⟨d, 0, none⟩)) e21
      have g23 := Reg.ev (v := .int .i64 no) e23
      have g28 := Reg.ev (v := .agg (rowV (DevP.page no v))) e28
      have hxs : W0.heap.size ≤ wx.heap.size := Reg.KeepB.size hx
      have hdx : Dev wx d bs X := hS
      refine Oper.wp_mono (K := fun a1 w1 => a1 = ax.put (some 29) (.int .i64 er) ∧ DevW.Told wx d bs (DevP.op X (fitsN X no) (DevP.wrote X no.toNat (DevP.page no v))) (.int .i64 er) (.returned (.int .i64 er)) w1) ?_ ?_
      · rintro a1 w1 ⟨rfl, -, bs2, k1, k2, k3⟩
        exact ⟨⟨_, rfl, (fun h => by cases h), trivial, k3.less hxs⟩, Reg.eval_put_same (by rw [has]; show 29 < 78; decide), bs2, k1, fun b hb => (k2 b hb).imp id (fun h => Nat.le_trans hxs h)⟩
      · clear has
        go_simp
        refine (Write_any no (DevP.page no v) (page_len no v) wx hdx hs).mono ?_
        rintro r wy ⟨rfl, bs2, k1, k2, k3⟩
        refine ⟨congrArg (fun x => ax.tmps.setIfInBounds 29 (.int .i64 x)) HER.out, ?_⟩
        exact ⟨rfl, bs2, k1, k2, k3⟩
    · refine Reg.oblL_line (l := (Reg.Line.mk [8, 9] 10 (Tel.S (Tel.mk W0.heap.size d bs X (DevP.op X (fitsN X no) (DevP.wrote X no.toNat (DevP.page no v))) er 29 7)))) (k := 1) rfl rfl (by show List.Nodup [8, 9]; decide) (by show 9 ≠ 10; decide) (by show 9 < 10; decide) (.inr ⟨8, rfl, by kernel_rfl⟩) ?_
      intro b ax wx hx hs has hwb hS
      obtain ⟨e29, -⟩ := hs
      have hxs : W0.heap.size ≤ wx.heap.size := Reg.KeepB.size hx
      have h29 := hS.1
      have hno := hS.2
      have g29 := Reg.ev h29
      refine Oper.wp_mono (K := fun a1 w1 => a1 = ax.put (some 7) (.int .i64 er) ∧ w1 = wx) ?_ ?_
      · rintro a1 w1 ⟨rfl, rfl⟩
        exact ⟨⟨_, rfl, (fun h => by cases h), trivial, Reg.KeepB.of (Below.refl _ _)⟩, Reg.eval_put_same (by rw [has]; show 7 < 78; decide), hno⟩
      · clear has hS hno
        go_simp
  · intro W1 listed hwf hall
    simp only [Reg.Fin]
    rintro _ rfl _ rfl _ rfl _ rfl _ rfl _ rfl _ rfl _ rfl v29 h29 v7 h7
    intro hJ
    obtain ⟨bL, hbL, hSL⟩ := Reg.line_end (l := (Reg.Line.mk [8, 9] 10 (Tel.S (Tel.mk W0.heap.size d bs X (DevP.op X (fitsN X no) (DevP.wrote X no.toNat (DevP.page no v))) er 29 7)))) (n := 10) hall (by show ∀ c ∈ [8, 9], c < 10; decide) hJ
    clear hJ hall hbL
    go_simp
    obtain ⟨h7e, bs1, hd1, hn1⟩ := hSL
    dsimp only at h7e hd1 hn1
    have e7v : v7 = .int .i64 er := by simpa [Act.eval, Act.put] using h7e
    subst e7v
    clear h7e
    have hk1 : Reg.KeepB W0.heap.size bs W0 W1 := hwf
    have HS1_1 := Lib.hid (HS1_0.out.keepB hk1 (HNN.out _ (by simp)))
    have HS2_1 := Lib.hid (HS2_0.out.keepB hk1 (HNN.out _ (by simp)))
    have HK1 := Lib.hid (keep_since (js := []) HB0.out hk1 (by simp))
    have HT1 : Hid (∃ bs2, Dev W1 d bs2 (DevP.op X (fitsN X no) (DevP.wrote X no.toNat (DevP.page no v))) ∧ ∀ b ∈ bs2, b ∈ bs ∨ W0.heap.size ≤ b) := Lib.hid ⟨bs1, hd1, hn1⟩
    have hlb := HS1_1.out.lt
    have hlc := HS2_1.out.lt
    have hzk := hk1.size
    clear f0 hd1 hn1 hk1 hwf
    go_wp2_with fail
    refine Reg.wp_region_box (R := (Reg.extB W1.heap.size [w.heap.size + 1])) (W := W1) (Reg.LineJ (Reg.Line.mk [3] 5 (StS (w.heap.size + 1) (SlotP.zeros 512) (SlotP.zeros 512)))) [Reg.eqv (.agg (rowV (SlotP.zeros 512))), Reg.eqv (.int .i64 er), Reg.eqv (.int .i64 er), Reg.any, Reg.eqv (.int .i64 er)] 78 [[(6, none)], [(7, none)], [(76, some 1)], [(4, none), (75, some 0)], [(77, some 2)]] rfl (by kernel_rfl) (by kernel_rfl) (fun _ h => Reg.line_zero (l := (Reg.Line.mk [3] 5 (StS (w.heap.size + 1) (SlotP.zeros 512) (SlotP.zeros 512)))) HS1_1.out h) (by kernel_rfl) ?_ [some 75, some 76, some 77, none, some 5] (by kernel_rfl) ?_
    · refine ⟨?_, ?_, ?_, ?_, ?_, trivial⟩
      · refine Reg.oblL_ord (l := (Reg.Line.mk [3] 5 (StS (w.heap.size + 1) (SlotP.zeros 512) (SlotP.zeros 512)))) (by show 0 ∉ [3] ∧ 0 ≠ 5; decide) (Reg.extB_next rfl) (fun k1 b1 a1 w1 v1 w2 h1 h2 => StS.put (b1 := b1) (a := a1) (dst := (some 75)) (v := v1) k1 h1 h2) ?_
        intro ax wx hx hs
        obtain ⟨e6, -⟩ := hs
        have g6 := Reg.ev (v := .pointer (some ⟨w.heap.size + 1 + 1, 0, none⟩)) e6
        refine Reg.obl_freeL rfl ?_
        have hld := run_ld (P := Try.prog) arrPage (Reg.KeepB.str hx HS2_1.out (HS2_1.out.lt) (by simp)) hz
        exact Reg.wp_eqvB (Option.some_ne_none _) (by go_simp) rfl
      · refine Reg.oblL_ord (l := (Reg.Line.mk [3] 5 (StS (w.heap.size + 1) (SlotP.zeros 512) (SlotP.zeros 512)))) (by show 1 ∉ [3] ∧ 1 ≠ 5; decide) (Reg.extB_next rfl) (fun k1 b1 a1 w1 v1 w2 h1 h2 => StS.put (b1 := b1) (a := a1) (dst := (some 76)) (v := v1) k1 h1 h2) ?_
        intro ax wx hx hs
        obtain ⟨e7, -⟩ := hs
        have g7 := Reg.ev (v := .int .i64 er) e7
        exact Reg.obl_freeL rfl (Reg.wp_eqvB (Option.some_ne_none _) (by go_simp) rfl)
      · refine Reg.oblL_ord (l := (Reg.Line.mk [3] 5 (StS (w.heap.size + 1) (SlotP.zeros 512) (SlotP.zeros 512)))) (by show 2 ∉ [3] ∧ 2 ≠ 5; decide) (Reg.extB_next rfl) (fun k1 b1 a1 w1 v1 w2 h1 h2 => StS.put (b1 := b1) (a := a1) (dst := (some 77)) (v := v1) k1 h1 h2) ?_
        intro ax wx hx hs
        obtain ⟨e76, -⟩ := hs
        have g76 := Reg.ev (v := .int .i64 er) e76
        refine Reg.obl_freeL rfl ?_
        go_simp
        refine (code_any (er) wx).mono ?_
        rintro r wy ⟨rfl, rfl⟩
        exact Reg.doneB (Option.some_ne_none _) rfl (bsame _)
      · refine Reg.oblL_line (l := (Reg.Line.mk [3] 5 (StS (w.heap.size + 1) (SlotP.zeros 512) (SlotP.zeros 512)))) (k := 0) rfl rfl (by show List.Nodup [3]; decide) (by show 3 ≠ 5; decide) (by show 3 < 5; decide) (.inl rfl) ?_
        intro b ax wx hx hs has hwb hS
        obtain ⟨e4, e75, -⟩ := hs
        have g4 := Reg.ev (v := .pointer (some ⟨w.heap.size + 1, 0, none⟩)) e4
        have g75 := Reg.ev (v := .agg (rowV (SlotP.zeros 512))) e75
        have hxs : W1.heap.size ≤ wx.heap.size := Reg.KeepB.size hx
        have hst := run_st (P := Try.prog) arrPage (show Str wx (w.heap.size + 1) (rowV (SlotP.zeros 512)) from hS) (by rw [rowV_size]; exact hz) hz
        have k3 := (show Str wx (w.heap.size + 1) (rowV (SlotP.zeros 512)) from hS).setRow (cs' := rowV (SlotP.zeros 512))
        refine Oper.wp_mono (K := fun a1 w1 => a1 = ax ∧ w1 = wx.setRow (w.heap.size + 1) (rowV (SlotP.zeros 512))) ?_ ?_
        · rintro a1 w1 ⟨rfl, rfl⟩
          exact ⟨⟨undef, rfl, fun _ => rfl, trivial, Reg.KeepB.grown (Reg.KeepB.of (Below.refl _ wx)) (grown_setRow wx _ _) hxs (.inr (by simp))⟩, k3⟩
        · clear has k3 hS
          go_simp
      · refine Reg.oblL_ord (l := (Reg.Line.mk [3] 5 (StS (w.heap.size + 1) (SlotP.zeros 512) (SlotP.zeros 512)))) (by show 4 ∉ [3] ∧ 4 ≠ 5; decide) (Reg.extB_next rfl) (fun k1 b1 a1 w1 v1 w2 h1 h2 => StS.put (b1 := b1) (a := a1) (dst := (some 5)) (v := v1) k1 h1 h2) ?_
        intro ax wx hx hs
        obtain ⟨e77, -⟩ := hs
        have g77 := Reg.ev (v := .int .i64 er) e77
        exact Reg.obl_freeL rfl (Reg.wp_eqvB (Option.some_ne_none _) (by go_simp) rfl)
    · intro Wf listed hwf hall
      simp only [Reg.Fin]
      rintro _ rfl _ rfl _ rfl vn3 hn3 _ rfl
      intro hJ
      obtain ⟨bL, hbL, hSL⟩ := Reg.line_end (l := (Reg.Line.mk [3] 5 (StS (w.heap.size + 1) (SlotP.zeros 512) (SlotP.zeros 512)))) (n := 5) hall (by show ∀ c ∈ [3], c < 5; decide) hJ
      clear hJ hall hbL
      go_simp
      have hSf : Str Wf (w.heap.size + 1) (rowV (SlotP.zeros 512)) := hSL
      have hkf : Reg.KeepB W1.heap.size [w.heap.size + 1] W1 Wf := hwf
      have hkk : Reg.KeepB w.heap.size bs w Wf := ⟨hkf.os.trans HK1.out.os, hkf.tape.trans HK1.out.tape, hkf.output.trans HK1.out.output, Nat.le_trans HK1.out.size hkf.size, fun i hi hb => (hkf.block i (Nat.lt_of_lt_of_le hi HK1.out.size) (by simp only [List.mem_cons, List.not_mem_nil, or_false]; omega)).trans (HK1.out.block i hi hb)⟩
      obtain ⟨bs2, hd2, hn2⟩ := HT1.out
      have hdf : Dev Wf d bs2 (DevP.op X (fitsN X no) (DevP.wrote X no.toNat (DevP.page no v))) := hd2.keepB hkf (by intro b hb hm; rw [List.mem_singleton] at hb; rcases hn2 b hm with h | h; have := HN0.out b h; omega; omega)
      have HSF := Lib.hid hSf
      have HTF : Hid (DevW.Told w d bs (DevP.op X (fitsN X no) (DevP.wrote X no.toNat (DevP.page no v))) (.tuple #[.agg (rowV (SlotP.zeros 512)), .int .i64 er]) (.returned (.tuple #[.agg (rowV (SlotP.zeros 512)), .int .i64 er])) Wf) := Lib.hid ⟨rfl, bs2, hdf, fun b hb => (hn2 b hb).imp id (fun h => by omega), hkk⟩
      clear hSf hkf hwf hSL hkk hdf hd2 hn2
      go_wp2_with fail
      exact bodyPost_ret (v := .tuple #[.agg (rowV (SlotP.zeros 512)), .int .i64 er]) (results_page Try.results6 _ HSF.out hz rfl) rfl ⟨_, hz, HTF.out⟩
set_option maxRecDepth 100000 in
set_option maxHeartbeats 1000000 in
theorem do_dev_2 (no v : Int) (A : Option Addr) (n c : Nat) (P : Option Addr) (m pc : Nat) (lg : Int) (b : List UInt8) (w : World) (hD : Dev w d bs X) (hs : DevP.Small X) (hy : Bytes w w.heap.size A n c b) (hA : 0 < n → ∀ a, A = some a → a.block ∉ bs) (hm : n ≤ 1000000000) :
    Calls Try.prog 6 #[.pointer (some ⟨d, 0, none⟩), .agg #[.int .i64 2, .int .i64 no, .int .i64 v, .slice A n c, .slice P m pc, .int .i64 lg]] w (Tells w d bs (DevP.op X true (DevP.synced X)) (DevP.err X true)) := by
  obtain ⟨er, her⟩ : ∃ x, (DevP.err X true) = x := ⟨_, rfl⟩
  rw [her]
  have HER := Lib.hid her
  clear her
  have hz : (SlotP.zeros 512).length = 512 := List.length_replicate
  have hal := fun W => run_al (P := Try.prog) arrPage W
  have hbd := fun W => run_bd (P := Try.prog) arrPage W
  obtain ⟨W0, hW0⟩ : ∃ W, ((w.alloc (.cells #[.int .i64 2, .int .i64 no, .int .i64 v, .slice A n c, .slice P m pc, .int .i64 lg] 27)).alloc (.cells (rowV (SlotP.zeros 512)) 30)).alloc (.cells (rowV (SlotP.zeros 512)) 30) = W := ⟨_, rfl⟩
  obtain ⟨HS0, HS1, HS2, HB0, hw0, hz0⟩ := new3 hW0
  have HD0 := Lib.hid (hD.below HB0.out)
  have HN0 : Hid (∀ b ∈ bs, b < w.heap.size) := Lib.hid (fun b hb => hD.lt b hb)
  have HNN : Hid (∀ b ∈ [w.heap.size, w.heap.size + 1, w.heap.size + 1 + 1], b ∉ bs) := Lib.hid (fun b hb hm => by have := hD.lt b hm; simp only [List.mem_cons, List.not_mem_nil, or_false] at hb; omega)
  have HY0 := Lib.hid ((hy.next HB0.out))
  have f0 := str6 HS0.out
  have hl0 := HS0.out.lt
  have hl1 := HS1.out.lt
  have hl2 := HS2.out.lt
  clear hz0 hy hD
  go_enter Try.func6, Try.ntmps6
  go_wp2_with fail
  have HS1_0 := HS1
  have HS2_0 := HS2
  clear HS1 HS2
  refine (Sync_any W0 HD0.out hs.1).mono ?_
  rintro r W1 ⟨rfl, bs1, hd1, hn1, hk1⟩
  rw [show (DevP.err X true) = er from HER.out]
  have HS1_1 := Lib.hid (HS1_0.out.keepB hk1 (HNN.out _ (by simp)))
  have HS2_1 := Lib.hid (HS2_0.out.keepB hk1 (HNN.out _ (by simp)))
  have hs01 := HS0.out.keepB hk1 (HNN.out _ (by simp))
  have HK1 := Lib.hid (keep_since (js := []) HB0.out hk1 (by simp))
  have HT1 : Hid (∃ bs2, Dev W1 d bs2 (DevP.op X true (DevP.synced X)) ∧ ∀ b ∈ bs2, b ∈ bs ∨ W0.heap.size ≤ b) := Lib.hid ⟨bs1, hd1, hn1⟩
  have f1 := str6 hs01
  have hla := hs01.lt
  have hlb := HS1_1.out.lt
  have hlc := HS2_1.out.lt
  have hzk := hk1.size
  clear f0 hs01 hd1 hn1 hk1
  go_wp2_with fail
  refine Reg.wp_region_box (R := (Reg.extB W1.heap.size [w.heap.size + 1])) (W := W1) (Reg.LineJ (Reg.Line.mk [3] 5 (StS (w.heap.size + 1) (SlotP.zeros 512) (SlotP.zeros 512)))) [Reg.eqv (.agg (rowV (SlotP.zeros 512))), Reg.eqv (.int .i64 er), Reg.eqv (.int .i64 er), Reg.any, Reg.eqv (.int .i64 er)] 78 [[(6, none)], [(7, none)], [(76, some 1)], [(4, none), (75, some 0)], [(77, some 2)]] rfl (by kernel_rfl) (by kernel_rfl) (fun _ h => Reg.line_zero (l := (Reg.Line.mk [3] 5 (StS (w.heap.size + 1) (SlotP.zeros 512) (SlotP.zeros 512)))) HS1_1.out h) (by kernel_rfl) ?_ [some 75, some 76, some 77, none, some 5] (by kernel_rfl) ?_
  · refine ⟨?_, ?_, ?_, ?_, ?_, trivial⟩
    · refine Reg.oblL_ord (l := (Reg.Line.mk [3] 5 (StS (w.heap.size + 1) (SlotP.zeros 512) (SlotP.zeros 512)))) (by show 0 ∉ [3] ∧ 0 ≠ 5; decide) (Reg.extB_next rfl) (fun k1 b1 a1 w1 v1 w2 h1 h2 => StS.put (b1 := b1) (a := a1) (dst := (some 75)) (v := v1) k1 h1 h2) ?_
      intro ax wx hx hs
      obtain ⟨e6, -⟩ := hs
      have g6 := Reg.ev (v := .pointer (some ⟨w.heap.size + 1 + 1, 0, none⟩)) e6
      refine Reg.obl_freeL rfl ?_
      have hld := run_ld (P := Try.prog) arrPage (Reg.KeepB.str hx HS2_1.out (HS2_1.out.lt) (by simp)) hz
      exact Reg.wp_eqvB (Option.some_ne_none _) (by go_simp) rfl
    · refine Reg.oblL_ord (l := (Reg.Line.mk [3] 5 (StS (w.heap.size + 1) (SlotP.zeros 512) (SlotP.zeros 512)))) (by show 1 ∉ [3] ∧ 1 ≠ 5; decide) (Reg.extB_next rfl) (fun k1 b1 a1 w1 v1 w2 h1 h2 => StS.put (b1 := b1) (a := a1) (dst := (some 76)) (v := v1) k1 h1 h2) ?_
      intro ax wx hx hs
      obtain ⟨e7, -⟩ := hs
      have g7 := Reg.ev (v := .int .i64 er) e7
      exact Reg.obl_freeL rfl (Reg.wp_eqvB (Option.some_ne_none _) (by go_simp) rfl)
    · refine Reg.oblL_ord (l := (Reg.Line.mk [3] 5 (StS (w.heap.size + 1) (SlotP.zeros 512) (SlotP.zeros 512)))) (by show 2 ∉ [3] ∧ 2 ≠ 5; decide) (Reg.extB_next rfl) (fun k1 b1 a1 w1 v1 w2 h1 h2 => StS.put (b1 := b1) (a := a1) (dst := (some 77)) (v := v1) k1 h1 h2) ?_
      intro ax wx hx hs
      obtain ⟨e76, -⟩ := hs
      have g76 := Reg.ev (v := .int .i64 er) e76
      refine Reg.obl_freeL rfl ?_
      go_simp
      refine (code_any (er) wx).mono ?_
      rintro r wy ⟨rfl, rfl⟩
      exact Reg.doneB (Option.some_ne_none _) rfl (bsame _)
    · refine Reg.oblL_line (l := (Reg.Line.mk [3] 5 (StS (w.heap.size + 1) (SlotP.zeros 512) (SlotP.zeros 512)))) (k := 0) rfl rfl (by show List.Nodup [3]; decide) (by show 3 ≠ 5; decide) (by show 3 < 5; decide) (.inl rfl) ?_
      intro b ax wx hx hs has hwb hS
      obtain ⟨e4, e75, -⟩ := hs
      have g4 := Reg.ev (v := .pointer (some ⟨w.heap.size + 1, 0, none⟩)) e4
      have g75 := Reg.ev (v := .agg (rowV (SlotP.zeros 512))) e75
      have hxs : W1.heap.size ≤ wx.heap.size := Reg.KeepB.size hx
      have hst := run_st (P := Try.prog) arrPage (show Str wx (w.heap.size + 1) (rowV (SlotP.zeros 512)) from hS) (by rw [rowV_size]; exact hz) hz
      have k3 := (show Str wx (w.heap.size + 1) (rowV (SlotP.zeros 512)) from hS).setRow (cs' := rowV (SlotP.zeros 512))
      refine Oper.wp_mono (K := fun a1 w1 => a1 = ax ∧ w1 = wx.setRow (w.heap.size + 1) (rowV (SlotP.zeros 512))) ?_ ?_
      · rintro a1 w1 ⟨rfl, rfl⟩
        exact ⟨⟨undef, rfl, fun _ => rfl, trivial, Reg.KeepB.grown (Reg.KeepB.of (Below.refl _ wx)) (grown_setRow wx _ _) hxs (.inr (by simp))⟩, k3⟩
      · clear has k3 hS
        go_simp
    · refine Reg.oblL_ord (l := (Reg.Line.mk [3] 5 (StS (w.heap.size + 1) (SlotP.zeros 512) (SlotP.zeros 512)))) (by show 4 ∉ [3] ∧ 4 ≠ 5; decide) (Reg.extB_next rfl) (fun k1 b1 a1 w1 v1 w2 h1 h2 => StS.put (b1 := b1) (a := a1) (dst := (some 5)) (v := v1) k1 h1 h2) ?_
      intro ax wx hx hs
      obtain ⟨e77, -⟩ := hs
      have g77 := Reg.ev (v := .int .i64 er) e77
      exact Reg.obl_freeL rfl (Reg.wp_eqvB (Option.some_ne_none _) (by go_simp) rfl)
  · intro Wf listed hwf hall
    simp only [Reg.Fin]
    rintro _ rfl _ rfl _ rfl vn3 hn3 _ rfl
    intro hJ
    obtain ⟨bL, hbL, hSL⟩ := Reg.line_end (l := (Reg.Line.mk [3] 5 (StS (w.heap.size + 1) (SlotP.zeros 512) (SlotP.zeros 512)))) (n := 5) hall (by show ∀ c ∈ [3], c < 5; decide) hJ
    clear hJ hall hbL
    go_simp
    have hSf : Str Wf (w.heap.size + 1) (rowV (SlotP.zeros 512)) := hSL
    have hkf : Reg.KeepB W1.heap.size [w.heap.size + 1] W1 Wf := hwf
    have hkk : Reg.KeepB w.heap.size bs w Wf := ⟨hkf.os.trans HK1.out.os, hkf.tape.trans HK1.out.tape, hkf.output.trans HK1.out.output, Nat.le_trans HK1.out.size hkf.size, fun i hi hb => (hkf.block i (Nat.lt_of_lt_of_le hi HK1.out.size) (by simp only [List.mem_cons, List.not_mem_nil, or_false]; omega)).trans (HK1.out.block i hi hb)⟩
    obtain ⟨bs2, hd2, hn2⟩ := HT1.out
    have hdf : Dev Wf d bs2 (DevP.op X true (DevP.synced X)) := hd2.keepB hkf (by intro b hb hm; rw [List.mem_singleton] at hb; rcases hn2 b hm with h | h; have := HN0.out b h; omega; omega)
    have HSF := Lib.hid hSf
    have HTF : Hid (DevW.Told w d bs (DevP.op X true (DevP.synced X)) (.tuple #[.agg (rowV (SlotP.zeros 512)), .int .i64 er]) (.returned (.tuple #[.agg (rowV (SlotP.zeros 512)), .int .i64 er])) Wf) := Lib.hid ⟨rfl, bs2, hdf, fun b hb => (hn2 b hb).imp id (fun h => by omega), hkk⟩
    clear hSf hkf hwf hSL hkk hdf hd2 hn2
    go_wp2_with fail
    exact bodyPost_ret (v := .tuple #[.agg (rowV (SlotP.zeros 512)), .int .i64 er]) (results_page Try.results6 _ HSF.out hz rfl) rfl ⟨_, hz, HTF.out⟩
set_option maxRecDepth 100000 in
set_option maxHeartbeats 1000000 in
theorem do_dev_3 (no v : Int) (A : Option Addr) (n c : Nat) (P : Option Addr) (m pc : Nat) (lg : Int) (b : List UInt8) (w : World) (hD : Dev w d bs X) (hs : DevP.Small X) (hy : Bytes w w.heap.size A n c b) (hA : 0 < n → ∀ a, A = some a → a.block ∉ bs) (hm : n ≤ 1000000000) :
    Calls Try.prog 6 #[.pointer (some ⟨d, 0, none⟩), .agg #[.int .i64 3, .int .i64 no, .int .i64 v, .slice A n c, .slice P m pc, .int .i64 lg]] w (Tells w d bs (DevP.op X true { X with log := X.log ++ b }) (DevP.err X true)) := by
  obtain ⟨er, her⟩ : ∃ x, (DevP.err X true) = x := ⟨_, rfl⟩
  rw [her]
  have HER := Lib.hid her
  clear her
  have hz : (SlotP.zeros 512).length = 512 := List.length_replicate
  have hal := fun W => run_al (P := Try.prog) arrPage W
  have hbd := fun W => run_bd (P := Try.prog) arrPage W
  obtain ⟨W0, hW0⟩ : ∃ W, ((w.alloc (.cells #[.int .i64 3, .int .i64 no, .int .i64 v, .slice A n c, .slice P m pc, .int .i64 lg] 27)).alloc (.cells (rowV (SlotP.zeros 512)) 30)).alloc (.cells (rowV (SlotP.zeros 512)) 30) = W := ⟨_, rfl⟩
  obtain ⟨HS0, HS1, HS2, HB0, hw0, hz0⟩ := new3 hW0
  have HD0 := Lib.hid (hD.below HB0.out)
  have HN0 : Hid (∀ b ∈ bs, b < w.heap.size) := Lib.hid (fun b hb => hD.lt b hb)
  have HNN : Hid (∀ b ∈ [w.heap.size, w.heap.size + 1, w.heap.size + 1 + 1], b ∉ bs) := Lib.hid (fun b hb hm => by have := hD.lt b hm; simp only [List.mem_cons, List.not_mem_nil, or_false] at hb; omega)
  have HY0 := Lib.hid ((hy.next HB0.out))
  have f0 := str6 HS0.out
  have hl0 := HS0.out.lt
  have hl1 := HS1.out.lt
  have hl2 := HS2.out.lt
  clear hz0 hy hD
  go_enter Try.func6, Try.ntmps6
  go_wp2_with fail
  have HS1_0 := HS1
  have HS2_0 := HS2
  clear HS1 HS2
  refine (Append_any A n c W0.heap.size b W0 HD0.out hs HY0.out (Nat.le_refl _) hA hm).mono ?_
  rintro r W1 ⟨rfl, bs1, hd1, hn1, hk1⟩
  rw [show (DevP.err X true) = er from HER.out]
  have HS1_1 := Lib.hid (HS1_0.out.keepB hk1 (HNN.out _ (by simp)))
  have HS2_1 := Lib.hid (HS2_0.out.keepB hk1 (HNN.out _ (by simp)))
  have hs01 := HS0.out.keepB hk1 (HNN.out _ (by simp))
  have HK1 := Lib.hid (keep_since (js := []) HB0.out hk1 (by simp))
  have HT1 : Hid (∃ bs2, Dev W1 d bs2 (DevP.op X true { X with log := X.log ++ b }) ∧ ∀ b ∈ bs2, b ∈ bs ∨ W0.heap.size ≤ b) := Lib.hid ⟨bs1, hd1, hn1⟩
  have f1 := str6 hs01
  have hla := hs01.lt
  have hlb := HS1_1.out.lt
  have hlc := HS2_1.out.lt
  have hzk := hk1.size
  clear f0 hs01 hd1 hn1 hk1
  go_wp2_with fail
  refine Reg.wp_region_box (R := (Reg.extB W1.heap.size [w.heap.size + 1])) (W := W1) (Reg.LineJ (Reg.Line.mk [3] 5 (StS (w.heap.size + 1) (SlotP.zeros 512) (SlotP.zeros 512)))) [Reg.eqv (.agg (rowV (SlotP.zeros 512))), Reg.eqv (.int .i64 er), Reg.eqv (.int .i64 er), Reg.any, Reg.eqv (.int .i64 er)] 78 [[(6, none)], [(7, none)], [(76, some 1)], [(4, none), (75, some 0)], [(77, some 2)]] rfl (by kernel_rfl) (by kernel_rfl) (fun _ h => Reg.line_zero (l := (Reg.Line.mk [3] 5 (StS (w.heap.size + 1) (SlotP.zeros 512) (SlotP.zeros 512)))) HS1_1.out h) (by kernel_rfl) ?_ [some 75, some 76, some 77, none, some 5] (by kernel_rfl) ?_
  · refine ⟨?_, ?_, ?_, ?_, ?_, trivial⟩
    · refine Reg.oblL_ord (l := (Reg.Line.mk [3] 5 (StS (w.heap.size + 1) (SlotP.zeros 512) (SlotP.zeros 512)))) (by show 0 ∉ [3] ∧ 0 ≠ 5; decide) (Reg.extB_next rfl) (fun k1 b1 a1 w1 v1 w2 h1 h2 => StS.put (b1 := b1) (a := a1) (dst := (some 75)) (v := v1) k1 h1 h2) ?_
      intro ax wx hx hs
      obtain ⟨e6, -⟩ := hs
      have g6 := Reg.ev (v := .pointer (some ⟨w.heap.size + 1 + 1, 0, none⟩)) e6
      refine Reg.obl_freeL rfl ?_
      have hld := run_ld (P := Try.prog) arrPage (Reg.KeepB.str hx HS2_1.out (HS2_1.out.lt) (by simp)) hz
      exact Reg.wp_eqvB (Option.some_ne_none _) (by go_simp) rfl
    · refine Reg.oblL_ord (l := (Reg.Line.mk [3] 5 (StS (w.heap.size + 1) (SlotP.zeros 512) (SlotP.zeros 512)))) (by show 1 ∉ [3] ∧ 1 ≠ 5; decide) (Reg.extB_next rfl) (fun k1 b1 a1 w1 v1 w2 h1 h2 => StS.put (b1 := b1) (a := a1) (dst := (some 76)) (v := v1) k1 h1 h2) ?_
      intro ax wx hx hs
      obtain ⟨e7, -⟩ := hs
      have g7 := Reg.ev (v := .int .i64 er) e7
      exact Reg.obl_freeL rfl (Reg.wp_eqvB (Option.some_ne_none _) (by go_simp) rfl)
    · refine Reg.oblL_ord (l := (Reg.Line.mk [3] 5 (StS (w.heap.size + 1) (SlotP.zeros 512) (SlotP.zeros 512)))) (by show 2 ∉ [3] ∧ 2 ≠ 5; decide) (Reg.extB_next rfl) (fun k1 b1 a1 w1 v1 w2 h1 h2 => StS.put (b1 := b1) (a := a1) (dst := (some 77)) (v := v1) k1 h1 h2) ?_
      intro ax wx hx hs
      obtain ⟨e76, -⟩ := hs
      have g76 := Reg.ev (v := .int .i64 er) e76
      refine Reg.obl_freeL rfl ?_
      go_simp
      refine (code_any (er) wx).mono ?_
      rintro r wy ⟨rfl, rfl⟩
      exact Reg.doneB (Option.some_ne_none _) rfl (bsame _)
    · refine Reg.oblL_line (l := (Reg.Line.mk [3] 5 (StS (w.heap.size + 1) (SlotP.zeros 512) (SlotP.zeros 512)))) (k := 0) rfl rfl (by show List.Nodup [3]; decide) (by show 3 ≠ 5; decide) (by show 3 < 5; decide) (.inl rfl) ?_
      intro b ax wx hx hs has hwb hS
      obtain ⟨e4, e75, -⟩ := hs
      have g4 := Reg.ev (v := .pointer (some ⟨w.heap.size + 1, 0, none⟩)) e4
      have g75 := Reg.ev (v := .agg (rowV (SlotP.zeros 512))) e75
      have hxs : W1.heap.size ≤ wx.heap.size := Reg.KeepB.size hx
      have hst := run_st (P := Try.prog) arrPage (show Str wx (w.heap.size + 1) (rowV (SlotP.zeros 512)) from hS) (by rw [rowV_size]; exact hz) hz
      have k3 := (show Str wx (w.heap.size + 1) (rowV (SlotP.zeros 512)) from hS).setRow (cs' := rowV (SlotP.zeros 512))
      refine Oper.wp_mono (K := fun a1 w1 => a1 = ax ∧ w1 = wx.setRow (w.heap.size + 1) (rowV (SlotP.zeros 512))) ?_ ?_
      · rintro a1 w1 ⟨rfl, rfl⟩
        exact ⟨⟨undef, rfl, fun _ => rfl, trivial, Reg.KeepB.grown (Reg.KeepB.of (Below.refl _ wx)) (grown_setRow wx _ _) hxs (.inr (by simp))⟩, k3⟩
      · clear has k3 hS
        go_simp
    · refine Reg.oblL_ord (l := (Reg.Line.mk [3] 5 (StS (w.heap.size + 1) (SlotP.zeros 512) (SlotP.zeros 512)))) (by show 4 ∉ [3] ∧ 4 ≠ 5; decide) (Reg.extB_next rfl) (fun k1 b1 a1 w1 v1 w2 h1 h2 => StS.put (b1 := b1) (a := a1) (dst := (some 5)) (v := v1) k1 h1 h2) ?_
      intro ax wx hx hs
      obtain ⟨e77, -⟩ := hs
      have g77 := Reg.ev (v := .int .i64 er) e77
      exact Reg.obl_freeL rfl (Reg.wp_eqvB (Option.some_ne_none _) (by go_simp) rfl)
  · intro Wf listed hwf hall
    simp only [Reg.Fin]
    rintro _ rfl _ rfl _ rfl vn3 hn3 _ rfl
    intro hJ
    obtain ⟨bL, hbL, hSL⟩ := Reg.line_end (l := (Reg.Line.mk [3] 5 (StS (w.heap.size + 1) (SlotP.zeros 512) (SlotP.zeros 512)))) (n := 5) hall (by show ∀ c ∈ [3], c < 5; decide) hJ
    clear hJ hall hbL
    go_simp
    have hSf : Str Wf (w.heap.size + 1) (rowV (SlotP.zeros 512)) := hSL
    have hkf : Reg.KeepB W1.heap.size [w.heap.size + 1] W1 Wf := hwf
    have hkk : Reg.KeepB w.heap.size bs w Wf := ⟨hkf.os.trans HK1.out.os, hkf.tape.trans HK1.out.tape, hkf.output.trans HK1.out.output, Nat.le_trans HK1.out.size hkf.size, fun i hi hb => (hkf.block i (Nat.lt_of_lt_of_le hi HK1.out.size) (by simp only [List.mem_cons, List.not_mem_nil, or_false]; omega)).trans (HK1.out.block i hi hb)⟩
    obtain ⟨bs2, hd2, hn2⟩ := HT1.out
    have hdf : Dev Wf d bs2 (DevP.op X true { X with log := X.log ++ b }) := hd2.keepB hkf (by intro b hb hm; rw [List.mem_singleton] at hb; rcases hn2 b hm with h | h; have := HN0.out b h; omega; omega)
    have HSF := Lib.hid hSf
    have HTF : Hid (DevW.Told w d bs (DevP.op X true { X with log := X.log ++ b }) (.tuple #[.agg (rowV (SlotP.zeros 512)), .int .i64 er]) (.returned (.tuple #[.agg (rowV (SlotP.zeros 512)), .int .i64 er])) Wf) := Lib.hid ⟨rfl, bs2, hdf, fun b hb => (hn2 b hb).imp id (fun h => by omega), hkk⟩
    clear hSf hkf hwf hSL hkk hdf hd2 hn2
    go_wp2_with fail
    exact bodyPost_ret (v := .tuple #[.agg (rowV (SlotP.zeros 512)), .int .i64 er]) (results_page Try.results6 _ HSF.out hz rfl) rfl ⟨_, hz, HTF.out⟩
set_option maxRecDepth 100000 in
set_option maxHeartbeats 1000000 in
theorem do_dev_4 (no v : Int) (A : Option Addr) (n c : Nat) (P : Option Addr) (m pc : Nat) (lg : Int) (b : List UInt8) (w : World) (hD : Dev w d bs X) (hs : DevP.Small X) (hy : Bytes w w.heap.size A n c b) (hA : 0 < n → ∀ a, A = some a → a.block ∉ bs) (hm : n ≤ 1000000000) :
    Calls Try.prog 6 #[.pointer (some ⟨d, 0, none⟩), .agg #[.int .i64 4, .int .i64 no, .int .i64 v, .slice A n c, .slice P m pc, .int .i64 lg]] w (Tells w d bs (DevP.op X true { X with sure := X.head + (X.log.length : Nat) }) (DevP.err X true)) := by
  obtain ⟨er, her⟩ : ∃ x, (DevP.err X true) = x := ⟨_, rfl⟩
  rw [her]
  have HER := Lib.hid her
  clear her
  have hz : (SlotP.zeros 512).length = 512 := List.length_replicate
  have hal := fun W => run_al (P := Try.prog) arrPage W
  have hbd := fun W => run_bd (P := Try.prog) arrPage W
  obtain ⟨W0, hW0⟩ : ∃ W, ((w.alloc (.cells #[.int .i64 4, .int .i64 no, .int .i64 v, .slice A n c, .slice P m pc, .int .i64 lg] 27)).alloc (.cells (rowV (SlotP.zeros 512)) 30)).alloc (.cells (rowV (SlotP.zeros 512)) 30) = W := ⟨_, rfl⟩
  obtain ⟨HS0, HS1, HS2, HB0, hw0, hz0⟩ := new3 hW0
  have HD0 := Lib.hid (hD.below HB0.out)
  have HN0 : Hid (∀ b ∈ bs, b < w.heap.size) := Lib.hid (fun b hb => hD.lt b hb)
  have HNN : Hid (∀ b ∈ [w.heap.size, w.heap.size + 1, w.heap.size + 1 + 1], b ∉ bs) := Lib.hid (fun b hb hm => by have := hD.lt b hm; simp only [List.mem_cons, List.not_mem_nil, or_false] at hb; omega)
  have HY0 := Lib.hid ((hy.next HB0.out))
  have f0 := str6 HS0.out
  have hl0 := HS0.out.lt
  have hl1 := HS1.out.lt
  have hl2 := HS2.out.lt
  clear hz0 hy hD
  go_enter Try.func6, Try.ntmps6
  go_wp2_with fail
  have HS1_0 := HS1
  have HS2_0 := HS2
  clear HS1 HS2
  refine (Flush_any W0 HD0.out hs).mono ?_
  rintro r W1 ⟨rfl, bs1, hd1, hn1, hk1⟩
  rw [show (DevP.err X true) = er from HER.out]
  have HS1_1 := Lib.hid (HS1_0.out.keepB hk1 (HNN.out _ (by simp)))
  have HS2_1 := Lib.hid (HS2_0.out.keepB hk1 (HNN.out _ (by simp)))
  have hs01 := HS0.out.keepB hk1 (HNN.out _ (by simp))
  have HK1 := Lib.hid (keep_since (js := []) HB0.out hk1 (by simp))
  have HT1 : Hid (∃ bs2, Dev W1 d bs2 (DevP.op X true { X with sure := X.head + (X.log.length : Nat) }) ∧ ∀ b ∈ bs2, b ∈ bs ∨ W0.heap.size ≤ b) := Lib.hid ⟨bs1, hd1, hn1⟩
  have f1 := str6 hs01
  have hla := hs01.lt
  have hlb := HS1_1.out.lt
  have hlc := HS2_1.out.lt
  have hzk := hk1.size
  clear f0 hs01 hd1 hn1 hk1
  go_wp2_with fail
  refine Reg.wp_region_box (R := (Reg.extB W1.heap.size [w.heap.size + 1])) (W := W1) (Reg.LineJ (Reg.Line.mk [3] 5 (StS (w.heap.size + 1) (SlotP.zeros 512) (SlotP.zeros 512)))) [Reg.eqv (.agg (rowV (SlotP.zeros 512))), Reg.eqv (.int .i64 er), Reg.eqv (.int .i64 er), Reg.any, Reg.eqv (.int .i64 er)] 78 [[(6, none)], [(7, none)], [(76, some 1)], [(4, none), (75, some 0)], [(77, some 2)]] rfl (by kernel_rfl) (by kernel_rfl) (fun _ h => Reg.line_zero (l := (Reg.Line.mk [3] 5 (StS (w.heap.size + 1) (SlotP.zeros 512) (SlotP.zeros 512)))) HS1_1.out h) (by kernel_rfl) ?_ [some 75, some 76, some 77, none, some 5] (by kernel_rfl) ?_
  · refine ⟨?_, ?_, ?_, ?_, ?_, trivial⟩
    · refine Reg.oblL_ord (l := (Reg.Line.mk [3] 5 (StS (w.heap.size + 1) (SlotP.zeros 512) (SlotP.zeros 512)))) (by show 0 ∉ [3] ∧ 0 ≠ 5; decide) (Reg.extB_next rfl) (fun k1 b1 a1 w1 v1 w2 h1 h2 => StS.put (b1 := b1) (a := a1) (dst := (some 75)) (v := v1) k1 h1 h2) ?_
      intro ax wx hx hs
      obtain ⟨e6, -⟩ := hs
      have g6 := Reg.ev (v := .pointer (some ⟨w.heap.size + 1 + 1, 0, none⟩)) e6
      refine Reg.obl_freeL rfl ?_
      have hld := run_ld (P := Try.prog) arrPage (Reg.KeepB.str hx HS2_1.out (HS2_1.out.lt) (by simp)) hz
      exact Reg.wp_eqvB (Option.some_ne_none _) (by go_simp) rfl
    · refine Reg.oblL_ord (l := (Reg.Line.mk [3] 5 (StS (w.heap.size + 1) (SlotP.zeros 512) (SlotP.zeros 512)))) (by show 1 ∉ [3] ∧ 1 ≠ 5; decide) (Reg.extB_next rfl) (fun k1 b1 a1 w1 v1 w2 h1 h2 => StS.put (b1 := b1) (a := a1) (dst := (some 76)) (v := v1) k1 h1 h2) ?_
      intro ax wx hx hs
      obtain ⟨e7, -⟩ := hs
      have g7 := Reg.ev (v := .int .i64 er) e7
      exact Reg.obl_freeL rfl (Reg.wp_eqvB (Option.some_ne_none _) (by go_simp) rfl)
    · refine Reg.oblL_ord (l := (Reg.Line.mk [3] 5 (StS (w.heap.size + 1) (SlotP.zeros 512) (SlotP.zeros 512)))) (by show 2 ∉ [3] ∧ 2 ≠ 5; decide) (Reg.extB_next rfl) (fun k1 b1 a1 w1 v1 w2 h1 h2 => StS.put (b1 := b1) (a := a1) (dst := (some 77)) (v := v1) k1 h1 h2) ?_
      intro ax wx hx hs
      obtain ⟨e76, -⟩ := hs
      have g76 := Reg.ev (v := .int .i64 er) e76
      refine Reg.obl_freeL rfl ?_
      go_simp
      refine (code_any (er) wx).mono ?_
      rintro r wy ⟨rfl, rfl⟩
      exact Reg.doneB (Option.some_ne_none _) rfl (bsame _)
    · refine Reg.oblL_line (l := (Reg.Line.mk [3] 5 (StS (w.heap.size + 1) (SlotP.zeros 512) (SlotP.zeros 512)))) (k := 0) rfl rfl (by show List.Nodup [3]; decide) (by show 3 ≠ 5; decide) (by show 3 < 5; decide) (.inl rfl) ?_
      intro b ax wx hx hs has hwb hS
      obtain ⟨e4, e75, -⟩ := hs
      have g4 := Reg.ev (v := .pointer (some ⟨w.heap.size + 1, 0, none⟩)) e4
      have g75 := Reg.ev (v := .agg (rowV (SlotP.zeros 512))) e75
      have hxs : W1.heap.size ≤ wx.heap.size := Reg.KeepB.size hx
      have hst := run_st (P := Try.prog) arrPage (show Str wx (w.heap.size + 1) (rowV (SlotP.zeros 512)) from hS) (by rw [rowV_size]; exact hz) hz
      have k3 := (show Str wx (w.heap.size + 1) (rowV (SlotP.zeros 512)) from hS).setRow (cs' := rowV (SlotP.zeros 512))
      refine Oper.wp_mono (K := fun a1 w1 => a1 = ax ∧ w1 = wx.setRow (w.heap.size + 1) (rowV (SlotP.zeros 512))) ?_ ?_
      · rintro a1 w1 ⟨rfl, rfl⟩
        exact ⟨⟨undef, rfl, fun _ => rfl, trivial, Reg.KeepB.grown (Reg.KeepB.of (Below.refl _ wx)) (grown_setRow wx _ _) hxs (.inr (by simp))⟩, k3⟩
      · clear has k3 hS
        go_simp
    · refine Reg.oblL_ord (l := (Reg.Line.mk [3] 5 (StS (w.heap.size + 1) (SlotP.zeros 512) (SlotP.zeros 512)))) (by show 4 ∉ [3] ∧ 4 ≠ 5; decide) (Reg.extB_next rfl) (fun k1 b1 a1 w1 v1 w2 h1 h2 => StS.put (b1 := b1) (a := a1) (dst := (some 5)) (v := v1) k1 h1 h2) ?_
      intro ax wx hx hs
      obtain ⟨e77, -⟩ := hs
      have g77 := Reg.ev (v := .int .i64 er) e77
      exact Reg.obl_freeL rfl (Reg.wp_eqvB (Option.some_ne_none _) (by go_simp) rfl)
  · intro Wf listed hwf hall
    simp only [Reg.Fin]
    rintro _ rfl _ rfl _ rfl vn3 hn3 _ rfl
    intro hJ
    obtain ⟨bL, hbL, hSL⟩ := Reg.line_end (l := (Reg.Line.mk [3] 5 (StS (w.heap.size + 1) (SlotP.zeros 512) (SlotP.zeros 512)))) (n := 5) hall (by show ∀ c ∈ [3], c < 5; decide) hJ
    clear hJ hall hbL
    go_simp
    have hSf : Str Wf (w.heap.size + 1) (rowV (SlotP.zeros 512)) := hSL
    have hkf : Reg.KeepB W1.heap.size [w.heap.size + 1] W1 Wf := hwf
    have hkk : Reg.KeepB w.heap.size bs w Wf := ⟨hkf.os.trans HK1.out.os, hkf.tape.trans HK1.out.tape, hkf.output.trans HK1.out.output, Nat.le_trans HK1.out.size hkf.size, fun i hi hb => (hkf.block i (Nat.lt_of_lt_of_le hi HK1.out.size) (by simp only [List.mem_cons, List.not_mem_nil, or_false]; omega)).trans (HK1.out.block i hi hb)⟩
    obtain ⟨bs2, hd2, hn2⟩ := HT1.out
    have hdf : Dev Wf d bs2 (DevP.op X true { X with sure := X.head + (X.log.length : Nat) }) := hd2.keepB hkf (by intro b hb hm; rw [List.mem_singleton] at hb; rcases hn2 b hm with h | h; have := HN0.out b h; omega; omega)
    have HSF := Lib.hid hSf
    have HTF : Hid (DevW.Told w d bs (DevP.op X true { X with sure := X.head + (X.log.length : Nat) }) (.tuple #[.agg (rowV (SlotP.zeros 512)), .int .i64 er]) (.returned (.tuple #[.agg (rowV (SlotP.zeros 512)), .int .i64 er])) Wf) := Lib.hid ⟨rfl, bs2, hdf, fun b hb => (hn2 b hb).imp id (fun h => by omega), hkk⟩
    clear hSf hkf hwf hSL hkk hdf hd2 hn2
    go_wp2_with fail
    exact bodyPost_ret (v := .tuple #[.agg (rowV (SlotP.zeros 512)), .int .i64 er]) (results_page Try.results6 _ HSF.out hz rfl) rfl ⟨_, hz, HTF.out⟩
set_option maxRecDepth 100000 in
set_option maxHeartbeats 1000000 in
theorem do_dev_5 (no v : Int) (A : Option Addr) (n c : Nat) (P : Option Addr) (m pc : Nat) (lg : Int) (b : List UInt8) (w : World) (hD : Dev w d bs X) (hs : DevP.Small X) (hy : Bytes w w.heap.size A n c b) (hA : 0 < n → ∀ a, A = some a → a.block ∉ bs) (hm : n ≤ 1000000000) :
    Calls Try.prog 6 #[.pointer (some ⟨d, 0, none⟩), .agg #[.int .i64 5, .int .i64 no, .int .i64 v, .slice A n c, .slice P m pc, .int .i64 lg]] w (Tells w d bs (DevP.op X (fitsL X no) { X with log := X.log.take (no - X.head).toNat, sure := min X.sure no }) (DevP.err X (fitsL X no))) := by
  obtain ⟨er, her⟩ : ∃ x, (DevP.err X (fitsL X no)) = x := ⟨_, rfl⟩
  rw [her]
  have HER := Lib.hid her
  clear her
  have hz : (SlotP.zeros 512).length = 512 := List.length_replicate
  have hal := fun W => run_al (P := Try.prog) arrPage W
  have hbd := fun W => run_bd (P := Try.prog) arrPage W
  obtain ⟨W0, hW0⟩ : ∃ W, ((w.alloc (.cells #[.int .i64 5, .int .i64 no, .int .i64 v, .slice A n c, .slice P m pc, .int .i64 lg] 27)).alloc (.cells (rowV (SlotP.zeros 512)) 30)).alloc (.cells (rowV (SlotP.zeros 512)) 30) = W := ⟨_, rfl⟩
  obtain ⟨HS0, HS1, HS2, HB0, hw0, hz0⟩ := new3 hW0
  have HD0 := Lib.hid (hD.below HB0.out)
  have HN0 : Hid (∀ b ∈ bs, b < w.heap.size) := Lib.hid (fun b hb => hD.lt b hb)
  have HNN : Hid (∀ b ∈ [w.heap.size, w.heap.size + 1, w.heap.size + 1 + 1], b ∉ bs) := Lib.hid (fun b hb hm => by have := hD.lt b hm; simp only [List.mem_cons, List.not_mem_nil, or_false] at hb; omega)
  have HY0 := Lib.hid ((hy.next HB0.out))
  have f0 := str6 HS0.out
  have hl0 := HS0.out.lt
  have hl1 := HS1.out.lt
  have hl2 := HS2.out.lt
  clear hz0 hy hD
  go_enter Try.func6, Try.ntmps6
  go_wp2_with fail
  have HS1_0 := HS1
  have HS2_0 := HS2
  clear HS1 HS2
  refine (Cut_any no W0 HD0.out hs).mono ?_
  rintro r W1 ⟨rfl, bs1, hd1, hn1, hk1⟩
  rw [show (DevP.err X (fitsL X no)) = er from HER.out]
  have HS1_1 := Lib.hid (HS1_0.out.keepB hk1 (HNN.out _ (by simp)))
  have HS2_1 := Lib.hid (HS2_0.out.keepB hk1 (HNN.out _ (by simp)))
  have hs01 := HS0.out.keepB hk1 (HNN.out _ (by simp))
  have HK1 := Lib.hid (keep_since (js := []) HB0.out hk1 (by simp))
  have HT1 : Hid (∃ bs2, Dev W1 d bs2 (DevP.op X (fitsL X no) { X with log := X.log.take (no - X.head).toNat, sure := min X.sure no }) ∧ ∀ b ∈ bs2, b ∈ bs ∨ W0.heap.size ≤ b) := Lib.hid ⟨bs1, hd1, hn1⟩
  have f1 := str6 hs01
  have hla := hs01.lt
  have hlb := HS1_1.out.lt
  have hlc := HS2_1.out.lt
  have hzk := hk1.size
  clear f0 hs01 hd1 hn1 hk1
  go_wp2_with fail
  refine Reg.wp_region_box (R := (Reg.extB W1.heap.size [w.heap.size + 1])) (W := W1) (Reg.LineJ (Reg.Line.mk [3] 5 (StS (w.heap.size + 1) (SlotP.zeros 512) (SlotP.zeros 512)))) [Reg.eqv (.agg (rowV (SlotP.zeros 512))), Reg.eqv (.int .i64 er), Reg.eqv (.int .i64 er), Reg.any, Reg.eqv (.int .i64 er)] 78 [[(6, none)], [(7, none)], [(76, some 1)], [(4, none), (75, some 0)], [(77, some 2)]] rfl (by kernel_rfl) (by kernel_rfl) (fun _ h => Reg.line_zero (l := (Reg.Line.mk [3] 5 (StS (w.heap.size + 1) (SlotP.zeros 512) (SlotP.zeros 512)))) HS1_1.out h) (by kernel_rfl) ?_ [some 75, some 76, some 77, none, some 5] (by kernel_rfl) ?_
  · refine ⟨?_, ?_, ?_, ?_, ?_, trivial⟩
    · refine Reg.oblL_ord (l := (Reg.Line.mk [3] 5 (StS (w.heap.size + 1) (SlotP.zeros 512) (SlotP.zeros 512)))) (by show 0 ∉ [3] ∧ 0 ≠ 5; decide) (Reg.extB_next rfl) (fun k1 b1 a1 w1 v1 w2 h1 h2 => StS.put (b1 := b1) (a := a1) (dst := (some 75)) (v := v1) k1 h1 h2) ?_
      intro ax wx hx hs
      obtain ⟨e6, -⟩ := hs
      have g6 := Reg.ev (v := .pointer (some ⟨w.heap.size + 1 + 1, 0, none⟩)) e6
      refine Reg.obl_freeL rfl ?_
      have hld := run_ld (P := Try.prog) arrPage (Reg.KeepB.str hx HS2_1.out (HS2_1.out.lt) (by simp)) hz
      exact Reg.wp_eqvB (Option.some_ne_none _) (by go_simp) rfl
    · refine Reg.oblL_ord (l := (Reg.Line.mk [3] 5 (StS (w.heap.size + 1) (SlotP.zeros 512) (SlotP.zeros 512)))) (by show 1 ∉ [3] ∧ 1 ≠ 5; decide) (Reg.extB_next rfl) (fun k1 b1 a1 w1 v1 w2 h1 h2 => StS.put (b1 := b1) (a := a1) (dst := (some 76)) (v := v1) k1 h1 h2) ?_
      intro ax wx hx hs
      obtain ⟨e7, -⟩ := hs
      have g7 := Reg.ev (v := .int .i64 er) e7
      exact Reg.obl_freeL rfl (Reg.wp_eqvB (Option.some_ne_none _) (by go_simp) rfl)
    · refine Reg.oblL_ord (l := (Reg.Line.mk [3] 5 (StS (w.heap.size + 1) (SlotP.zeros 512) (SlotP.zeros 512)))) (by show 2 ∉ [3] ∧ 2 ≠ 5; decide) (Reg.extB_next rfl) (fun k1 b1 a1 w1 v1 w2 h1 h2 => StS.put (b1 := b1) (a := a1) (dst := (some 77)) (v := v1) k1 h1 h2) ?_
      intro ax wx hx hs
      obtain ⟨e76, -⟩ := hs
      have g76 := Reg.ev (v := .int .i64 er) e76
      refine Reg.obl_freeL rfl ?_
      go_simp
      refine (code_any (er) wx).mono ?_
      rintro r wy ⟨rfl, rfl⟩
      exact Reg.doneB (Option.some_ne_none _) rfl (bsame _)
    · refine Reg.oblL_line (l := (Reg.Line.mk [3] 5 (StS (w.heap.size + 1) (SlotP.zeros 512) (SlotP.zeros 512)))) (k := 0) rfl rfl (by show List.Nodup [3]; decide) (by show 3 ≠ 5; decide) (by show 3 < 5; decide) (.inl rfl) ?_
      intro b ax wx hx hs has hwb hS
      obtain ⟨e4, e75, -⟩ := hs
      have g4 := Reg.ev (v := .pointer (some ⟨w.heap.size + 1, 0, none⟩)) e4
      have g75 := Reg.ev (v := .agg (rowV (SlotP.zeros 512))) e75
      have hxs : W1.heap.size ≤ wx.heap.size := Reg.KeepB.size hx
      have hst := run_st (P := Try.prog) arrPage (show Str wx (w.heap.size + 1) (rowV (SlotP.zeros 512)) from hS) (by rw [rowV_size]; exact hz) hz
      have k3 := (show Str wx (w.heap.size + 1) (rowV (SlotP.zeros 512)) from hS).setRow (cs' := rowV (SlotP.zeros 512))
      refine Oper.wp_mono (K := fun a1 w1 => a1 = ax ∧ w1 = wx.setRow (w.heap.size + 1) (rowV (SlotP.zeros 512))) ?_ ?_
      · rintro a1 w1 ⟨rfl, rfl⟩
        exact ⟨⟨undef, rfl, fun _ => rfl, trivial, Reg.KeepB.grown (Reg.KeepB.of (Below.refl _ wx)) (grown_setRow wx _ _) hxs (.inr (by simp))⟩, k3⟩
      · clear has k3 hS
        go_simp
    · refine Reg.oblL_ord (l := (Reg.Line.mk [3] 5 (StS (w.heap.size + 1) (SlotP.zeros 512) (SlotP.zeros 512)))) (by show 4 ∉ [3] ∧ 4 ≠ 5; decide) (Reg.extB_next rfl) (fun k1 b1 a1 w1 v1 w2 h1 h2 => StS.put (b1 := b1) (a := a1) (dst := (some 5)) (v := v1) k1 h1 h2) ?_
      intro ax wx hx hs
      obtain ⟨e77, -⟩ := hs
      have g77 := Reg.ev (v := .int .i64 er) e77
      exact Reg.obl_freeL rfl (Reg.wp_eqvB (Option.some_ne_none _) (by go_simp) rfl)
  · intro Wf listed hwf hall
    simp only [Reg.Fin]
    rintro _ rfl _ rfl _ rfl vn3 hn3 _ rfl
    intro hJ
    obtain ⟨bL, hbL, hSL⟩ := Reg.line_end (l := (Reg.Line.mk [3] 5 (StS (w.heap.size + 1) (SlotP.zeros 512) (SlotP.zeros 512)))) (n := 5) hall (by show ∀ c ∈ [3], c < 5; decide) hJ
    clear hJ hall hbL
    go_simp
    have hSf : Str Wf (w.heap.size + 1) (rowV (SlotP.zeros 512)) := hSL
    have hkf : Reg.KeepB W1.heap.size [w.heap.size + 1] W1 Wf := hwf
    have hkk : Reg.KeepB w.heap.size bs w Wf := ⟨hkf.os.trans HK1.out.os, hkf.tape.trans HK1.out.tape, hkf.output.trans HK1.out.output, Nat.le_trans HK1.out.size hkf.size, fun i hi hb => (hkf.block i (Nat.lt_of_lt_of_le hi HK1.out.size) (by simp only [List.mem_cons, List.not_mem_nil, or_false]; omega)).trans (HK1.out.block i hi hb)⟩
    obtain ⟨bs2, hd2, hn2⟩ := HT1.out
    have hdf : Dev Wf d bs2 (DevP.op X (fitsL X no) { X with log := X.log.take (no - X.head).toNat, sure := min X.sure no }) := hd2.keepB hkf (by intro b hb hm; rw [List.mem_singleton] at hb; rcases hn2 b hm with h | h; have := HN0.out b h; omega; omega)
    have HSF := Lib.hid hSf
    have HTF : Hid (DevW.Told w d bs (DevP.op X (fitsL X no) { X with log := X.log.take (no - X.head).toNat, sure := min X.sure no }) (.tuple #[.agg (rowV (SlotP.zeros 512)), .int .i64 er]) (.returned (.tuple #[.agg (rowV (SlotP.zeros 512)), .int .i64 er])) Wf) := Lib.hid ⟨rfl, bs2, hdf, fun b hb => (hn2 b hb).imp id (fun h => by omega), hkk⟩
    clear hSf hkf hwf hSL hkk hdf hd2 hn2
    go_wp2_with fail
    exact bodyPost_ret (v := .tuple #[.agg (rowV (SlotP.zeros 512)), .int .i64 er]) (results_page Try.results6 _ HSF.out hz rfl) rfl ⟨_, hz, HTF.out⟩
set_option maxRecDepth 100000 in
set_option maxHeartbeats 1000000 in
theorem do_dev_6 (no v : Int) (A : Option Addr) (n c : Nat) (P : Option Addr) (m pc : Nat) (lg : Int) (b : List UInt8) (w : World) (hD : Dev w d bs X) (hs : DevP.Small X) (hy : Bytes w w.heap.size A n c b) (hA : 0 < n → ∀ a, A = some a → a.block ∉ bs) (hm : n ≤ 1000000000) :
    Calls Try.prog 6 #[.pointer (some ⟨d, 0, none⟩), .agg #[.int .i64 6, .int .i64 no, .int .i64 v, .slice A n c, .slice P m pc, .int .i64 lg]] w (Tells w d bs (DevP.op X (fitsL X no) (DevP.freed X no)) (DevP.err X (fitsL X no))) := by
  obtain ⟨er, her⟩ : ∃ x, (DevP.err X (fitsL X no)) = x := ⟨_, rfl⟩
  rw [her]
  have HER := Lib.hid her
  clear her
  have hz : (SlotP.zeros 512).length = 512 := List.length_replicate
  have hal := fun W => run_al (P := Try.prog) arrPage W
  have hbd := fun W => run_bd (P := Try.prog) arrPage W
  obtain ⟨W0, hW0⟩ : ∃ W, ((w.alloc (.cells #[.int .i64 6, .int .i64 no, .int .i64 v, .slice A n c, .slice P m pc, .int .i64 lg] 27)).alloc (.cells (rowV (SlotP.zeros 512)) 30)).alloc (.cells (rowV (SlotP.zeros 512)) 30) = W := ⟨_, rfl⟩
  obtain ⟨HS0, HS1, HS2, HB0, hw0, hz0⟩ := new3 hW0
  have HD0 := Lib.hid (hD.below HB0.out)
  have HN0 : Hid (∀ b ∈ bs, b < w.heap.size) := Lib.hid (fun b hb => hD.lt b hb)
  have HNN : Hid (∀ b ∈ [w.heap.size, w.heap.size + 1, w.heap.size + 1 + 1], b ∉ bs) := Lib.hid (fun b hb hm => by have := hD.lt b hm; simp only [List.mem_cons, List.not_mem_nil, or_false] at hb; omega)
  have HY0 := Lib.hid ((hy.next HB0.out))
  have f0 := str6 HS0.out
  have hl0 := HS0.out.lt
  have hl1 := HS1.out.lt
  have hl2 := HS2.out.lt
  clear hz0 hy hD
  go_enter Try.func6, Try.ntmps6
  go_wp2_with fail
  have HS1_0 := HS1
  have HS2_0 := HS2
  clear HS1 HS2
  refine (Free_any no W0 HD0.out hs).mono ?_
  rintro r W1 ⟨rfl, bs1, hd1, hn1, hk1⟩
  rw [show (DevP.err X (fitsL X no)) = er from HER.out]
  have HS1_1 := Lib.hid (HS1_0.out.keepB hk1 (HNN.out _ (by simp)))
  have HS2_1 := Lib.hid (HS2_0.out.keepB hk1 (HNN.out _ (by simp)))
  have hs01 := HS0.out.keepB hk1 (HNN.out _ (by simp))
  have HK1 := Lib.hid (keep_since (js := []) HB0.out hk1 (by simp))
  have HT1 : Hid (∃ bs2, Dev W1 d bs2 (DevP.op X (fitsL X no) (DevP.freed X no)) ∧ ∀ b ∈ bs2, b ∈ bs ∨ W0.heap.size ≤ b) := Lib.hid ⟨bs1, hd1, hn1⟩
  have f1 := str6 hs01
  have hla := hs01.lt
  have hlb := HS1_1.out.lt
  have hlc := HS2_1.out.lt
  have hzk := hk1.size
  clear f0 hs01 hd1 hn1 hk1
  go_wp2_with fail
  refine Reg.wp_region_box (R := (Reg.extB W1.heap.size [w.heap.size + 1])) (W := W1) (Reg.LineJ (Reg.Line.mk [3] 5 (StS (w.heap.size + 1) (SlotP.zeros 512) (SlotP.zeros 512)))) [Reg.eqv (.agg (rowV (SlotP.zeros 512))), Reg.eqv (.int .i64 er), Reg.eqv (.int .i64 er), Reg.any, Reg.eqv (.int .i64 er)] 78 [[(6, none)], [(7, none)], [(76, some 1)], [(4, none), (75, some 0)], [(77, some 2)]] rfl (by kernel_rfl) (by kernel_rfl) (fun _ h => Reg.line_zero (l := (Reg.Line.mk [3] 5 (StS (w.heap.size + 1) (SlotP.zeros 512) (SlotP.zeros 512)))) HS1_1.out h) (by kernel_rfl) ?_ [some 75, some 76, some 77, none, some 5] (by kernel_rfl) ?_
  · refine ⟨?_, ?_, ?_, ?_, ?_, trivial⟩
    · refine Reg.oblL_ord (l := (Reg.Line.mk [3] 5 (StS (w.heap.size + 1) (SlotP.zeros 512) (SlotP.zeros 512)))) (by show 0 ∉ [3] ∧ 0 ≠ 5; decide) (Reg.extB_next rfl) (fun k1 b1 a1 w1 v1 w2 h1 h2 => StS.put (b1 := b1) (a := a1) (dst := (some 75)) (v := v1) k1 h1 h2) ?_
      intro ax wx hx hs
      obtain ⟨e6, -⟩ := hs
      have g6 := Reg.ev (v := .pointer (some ⟨w.heap.size + 1 + 1, 0, none⟩)) e6
      refine Reg.obl_freeL rfl ?_
      have hld := run_ld (P := Try.prog) arrPage (Reg.KeepB.str hx HS2_1.out (HS2_1.out.lt) (by simp)) hz
      exact Reg.wp_eqvB (Option.some_ne_none _) (by go_simp) rfl
    · refine Reg.oblL_ord (l := (Reg.Line.mk [3] 5 (StS (w.heap.size + 1) (SlotP.zeros 512) (SlotP.zeros 512)))) (by show 1 ∉ [3] ∧ 1 ≠ 5; decide) (Reg.extB_next rfl) (fun k1 b1 a1 w1 v1 w2 h1 h2 => StS.put (b1 := b1) (a := a1) (dst := (some 76)) (v := v1) k1 h1 h2) ?_
      intro ax wx hx hs
      obtain ⟨e7, -⟩ := hs
      have g7 := Reg.ev (v := .int .i64 er) e7
      exact Reg.obl_freeL rfl (Reg.wp_eqvB (Option.some_ne_none _) (by go_simp) rfl)
    · refine Reg.oblL_ord (l := (Reg.Line.mk [3] 5 (StS (w.heap.size + 1) (SlotP.zeros 512) (SlotP.zeros 512)))) (by show 2 ∉ [3] ∧ 2 ≠ 5; decide) (Reg.extB_next rfl) (fun k1 b1 a1 w1 v1 w2 h1 h2 => StS.put (b1 := b1) (a := a1) (dst := (some 77)) (v := v1) k1 h1 h2) ?_
      intro ax wx hx hs
      obtain ⟨e76, -⟩ := hs
      have g76 := Reg.ev (v := .int .i64 er) e76
      refine Reg.obl_freeL rfl ?_
      go_simp
      refine (code_any (er) wx).mono ?_
      rintro r wy ⟨rfl, rfl⟩
      exact Reg.doneB (Option.some_ne_none _) rfl (bsame _)
    · refine Reg.oblL_line (l := (Reg.Line.mk [3] 5 (StS (w.heap.size + 1) (SlotP.zeros 512) (SlotP.zeros 512)))) (k := 0) rfl rfl (by show List.Nodup [3]; decide) (by show 3 ≠ 5; decide) (by show 3 < 5; decide) (.inl rfl) ?_
      intro b ax wx hx hs has hwb hS
      obtain ⟨e4, e75, -⟩ := hs
      have g4 := Reg.ev (v := .pointer (some ⟨w.heap.size + 1, 0, none⟩)) e4
      have g75 := Reg.ev (v := .agg (rowV (SlotP.zeros 512))) e75
      have hxs : W1.heap.size ≤ wx.heap.size := Reg.KeepB.size hx
      have hst := run_st (P := Try.prog) arrPage (show Str wx (w.heap.size + 1) (rowV (SlotP.zeros 512)) from hS) (by rw [rowV_size]; exact hz) hz
      have k3 := (show Str wx (w.heap.size + 1) (rowV (SlotP.zeros 512)) from hS).setRow (cs' := rowV (SlotP.zeros 512))
      refine Oper.wp_mono (K := fun a1 w1 => a1 = ax ∧ w1 = wx.setRow (w.heap.size + 1) (rowV (SlotP.zeros 512))) ?_ ?_
      · rintro a1 w1 ⟨rfl, rfl⟩
        exact ⟨⟨undef, rfl, fun _ => rfl, trivial, Reg.KeepB.grown (Reg.KeepB.of (Below.refl _ wx)) (grown_setRow wx _ _) hxs (.inr (by simp))⟩, k3⟩
      · clear has k3 hS
        go_simp
    · refine Reg.oblL_ord (l := (Reg.Line.mk [3] 5 (StS (w.heap.size + 1) (SlotP.zeros 512) (SlotP.zeros 512)))) (by show 4 ∉ [3] ∧ 4 ≠ 5; decide) (Reg.extB_next rfl) (fun k1 b1 a1 w1 v1 w2 h1 h2 => StS.put (b1 := b1) (a := a1) (dst := (some 5)) (v := v1) k1 h1 h2) ?_
      intro ax wx hx hs
      obtain ⟨e77, -⟩ := hs
      have g77 := Reg.ev (v := .int .i64 er) e77
      exact Reg.obl_freeL rfl (Reg.wp_eqvB (Option.some_ne_none _) (by go_simp) rfl)
  · intro Wf listed hwf hall
    simp only [Reg.Fin]
    rintro _ rfl _ rfl _ rfl vn3 hn3 _ rfl
    intro hJ
    obtain ⟨bL, hbL, hSL⟩ := Reg.line_end (l := (Reg.Line.mk [3] 5 (StS (w.heap.size + 1) (SlotP.zeros 512) (SlotP.zeros 512)))) (n := 5) hall (by show ∀ c ∈ [3], c < 5; decide) hJ
    clear hJ hall hbL
    go_simp
    have hSf : Str Wf (w.heap.size + 1) (rowV (SlotP.zeros 512)) := hSL
    have hkf : Reg.KeepB W1.heap.size [w.heap.size + 1] W1 Wf := hwf
    have hkk : Reg.KeepB w.heap.size bs w Wf := ⟨hkf.os.trans HK1.out.os, hkf.tape.trans HK1.out.tape, hkf.output.trans HK1.out.output, Nat.le_trans HK1.out.size hkf.size, fun i hi hb => (hkf.block i (Nat.lt_of_lt_of_le hi HK1.out.size) (by simp only [List.mem_cons, List.not_mem_nil, or_false]; omega)).trans (HK1.out.block i hi hb)⟩
    obtain ⟨bs2, hd2, hn2⟩ := HT1.out
    have hdf : Dev Wf d bs2 (DevP.op X (fitsL X no) (DevP.freed X no)) := hd2.keepB hkf (by intro b hb hm; rw [List.mem_singleton] at hb; rcases hn2 b hm with h | h; have := HN0.out b h; omega; omega)
    have HSF := Lib.hid hSf
    have HTF : Hid (DevW.Told w d bs (DevP.op X (fitsL X no) (DevP.freed X no)) (.tuple #[.agg (rowV (SlotP.zeros 512)), .int .i64 er]) (.returned (.tuple #[.agg (rowV (SlotP.zeros 512)), .int .i64 er])) Wf) := Lib.hid ⟨rfl, bs2, hdf, fun b hb => (hn2 b hb).imp id (fun h => by omega), hkk⟩
    clear hSf hkf hwf hSL hkk hdf hd2 hn2
    go_wp2_with fail
    exact bodyPost_ret (v := .tuple #[.agg (rowV (SlotP.zeros 512)), .int .i64 er]) (results_page Try.results6 _ HSF.out hz rfl) rfl ⟨_, hz, HTF.out⟩
set_option maxRecDepth 100000 in
set_option maxHeartbeats 1000000 in
theorem do_dev_x (act : Int) (hx : act < 0 ∨ 8 < act) (no v : Int) (A : Option Addr) (n c : Nat) (P : Option Addr) (m pc : Nat) (lg : Int) (b : List UInt8) (w : World) (hD : Dev w d bs X) (hs : DevP.Small X) (hy : Bytes w w.heap.size A n c b) (hA : 0 < n → ∀ a, A = some a → a.block ∉ bs) (hm : n ≤ 1000000000) :
    Calls Try.prog 6 #[.pointer (some ⟨d, 0, none⟩), .agg #[.int .i64 act, .int .i64 no, .int .i64 v, .slice A n c, .slice P m pc, .int .i64 lg]] w (Tells w d bs X 0) := by
  have hd0 : (act == 0) = false := by simp; omega
  have hd1 : (act == 1) = false := by simp; omega
  have hd2 : (act == 2) = false := by simp; omega
  have hd3 : (act == 3) = false := by simp; omega
  have hd4 : (act == 4) = false := by simp; omega
  have hd5 : (act == 5) = false := by simp; omega
  have hd6 : (act == 6) = false := by simp; omega
  have hd7 : (act == 7) = false := by simp; omega
  have hd8 : (act == 8) = false := by simp; omega
  clear hx
  have hz : (SlotP.zeros 512).length = 512 := List.length_replicate
  have hal := fun W => run_al (P := Try.prog) arrPage W
  have hbd := fun W => run_bd (P := Try.prog) arrPage W
  obtain ⟨W0, hW0⟩ : ∃ W, ((w.alloc (.cells #[.int .i64 act, .int .i64 no, .int .i64 v, .slice A n c, .slice P m pc, .int .i64 lg] 27)).alloc (.cells (rowV (SlotP.zeros 512)) 30)).alloc (.cells (rowV (SlotP.zeros 512)) 30) = W := ⟨_, rfl⟩
  obtain ⟨HS0, HS1, HS2, HB0, hw0, hz0⟩ := new3 hW0
  have HD0 := Lib.hid (hD.below HB0.out)
  have HN0 : Hid (∀ b ∈ bs, b < w.heap.size) := Lib.hid (fun b hb => hD.lt b hb)
  have HNN : Hid (∀ b ∈ [w.heap.size, w.heap.size + 1, w.heap.size + 1 + 1], b ∉ bs) := Lib.hid (fun b hb hm => by have := hD.lt b hm; simp only [List.mem_cons, List.not_mem_nil, or_false] at hb; omega)
  have HY0 := Lib.hid ((hy.next HB0.out))
  have f0 := str6 HS0.out
  have hl0 := HS0.out.lt
  have hl1 := HS1.out.lt
  have hl2 := HS2.out.lt
  clear hz0 hy hD
  go_enter Try.func6, Try.ntmps6
  go_wp2_with fail
  have HS1_0 := HS1
  have HS2_0 := HS2
  clear HS1 HS2
  have HK0 : Hid (Reg.KeepB w.heap.size bs w W0) := Lib.hid (Reg.KeepB.of HB0.out)
  have HT0 : Hid (∃ bs2, Dev W0 d bs2 X ∧ ∀ b ∈ bs2, b ∈ bs ∨ W0.heap.size ≤ b) := Lib.hid ⟨bs, HD0.out, fun b hb => .inl hb⟩
  go_wp2_with fail
  refine Reg.wp_region_box (R := (Reg.extB W0.heap.size [w.heap.size + 1])) (W := W0) (Reg.LineJ (Reg.Line.mk [3] 5 (StS (w.heap.size + 1) (SlotP.zeros 512) (SlotP.zeros 512)))) [Reg.eqv (.agg (rowV (SlotP.zeros 512))), Reg.eqv (.int .i64 0), Reg.eqv (.int .i64 0), Reg.any, Reg.eqv (.int .i64 0)] 78 [[(6, none)], [(7, none)], [(76, some 1)], [(4, none), (75, some 0)], [(77, some 2)]] rfl (by kernel_rfl) (by kernel_rfl) (fun _ h => Reg.line_zero (l := (Reg.Line.mk [3] 5 (StS (w.heap.size + 1) (SlotP.zeros 512) (SlotP.zeros 512)))) HS1_0.out h) (by kernel_rfl) ?_ [some 75, some 76, some 77, none, some 5] (by kernel_rfl) ?_
  · refine ⟨?_, ?_, ?_, ?_, ?_, trivial⟩
    · refine Reg.oblL_ord (l := (Reg.Line.mk [3] 5 (StS (w.heap.size + 1) (SlotP.zeros 512) (SlotP.zeros 512)))) (by show 0 ∉ [3] ∧ 0 ≠ 5; decide) (Reg.extB_next rfl) (fun k1 b1 a1 w1 v1 w2 h1 h2 => StS.put (b1 := b1) (a := a1) (dst := (some 75)) (v := v1) k1 h1 h2) ?_
      intro ax wx hx hs
      obtain ⟨e6, -⟩ := hs
      have g6 := Reg.ev (v := .pointer (some ⟨w.heap.size + 1 + 1, 0, none⟩)) e6
      refine Reg.obl_freeL rfl ?_
      have hld := run_ld (P := Try.prog) arrPage (Reg.KeepB.str hx HS2_0.out (HS2_0.out.lt) (by simp)) hz
      exact Reg.wp_eqvB (Option.some_ne_none _) (by go_simp) rfl
    · refine Reg.oblL_ord (l := (Reg.Line.mk [3] 5 (StS (w.heap.size + 1) (SlotP.zeros 512) (SlotP.zeros 512)))) (by show 1 ∉ [3] ∧ 1 ≠ 5; decide) (Reg.extB_next rfl) (fun k1 b1 a1 w1 v1 w2 h1 h2 => StS.put (b1 := b1) (a := a1) (dst := (some 76)) (v := v1) k1 h1 h2) ?_
      intro ax wx hx hs
      obtain ⟨e7, -⟩ := hs
      have g7 := Reg.ev (v := .int .i64 0) e7
      exact Reg.obl_freeL rfl (Reg.wp_eqvB (Option.some_ne_none _) (by go_simp) rfl)
    · refine Reg.oblL_ord (l := (Reg.Line.mk [3] 5 (StS (w.heap.size + 1) (SlotP.zeros 512) (SlotP.zeros 512)))) (by show 2 ∉ [3] ∧ 2 ≠ 5; decide) (Reg.extB_next rfl) (fun k1 b1 a1 w1 v1 w2 h1 h2 => StS.put (b1 := b1) (a := a1) (dst := (some 77)) (v := v1) k1 h1 h2) ?_
      intro ax wx hx hs
      obtain ⟨e76, -⟩ := hs
      have g76 := Reg.ev (v := .int .i64 0) e76
      refine Reg.obl_freeL rfl ?_
      go_simp
      refine (code_any (0) wx).mono ?_
      rintro r wy ⟨rfl, rfl⟩
      exact Reg.doneB (Option.some_ne_none _) rfl (bsame _)
    · refine Reg.oblL_line (l := (Reg.Line.mk [3] 5 (StS (w.heap.size + 1) (SlotP.zeros 512) (SlotP.zeros 512)))) (k := 0) rfl rfl (by show List.Nodup [3]; decide) (by show 3 ≠ 5; decide) (by show 3 < 5; decide) (.inl rfl) ?_
      intro b ax wx hx hs has hwb hS
      obtain ⟨e4, e75, -⟩ := hs
      have g4 := Reg.ev (v := .pointer (some ⟨w.heap.size + 1, 0, none⟩)) e4
      have g75 := Reg.ev (v := .agg (rowV (SlotP.zeros 512))) e75
      have hxs : W0.heap.size ≤ wx.heap.size := Reg.KeepB.size hx
      have hst := run_st (P := Try.prog) arrPage (show Str wx (w.heap.size + 1) (rowV (SlotP.zeros 512)) from hS) (by rw [rowV_size]; exact hz) hz
      have k3 := (show Str wx (w.heap.size + 1) (rowV (SlotP.zeros 512)) from hS).setRow (cs' := rowV (SlotP.zeros 512))
      refine Oper.wp_mono (K := fun a1 w1 => a1 = ax ∧ w1 = wx.setRow (w.heap.size + 1) (rowV (SlotP.zeros 512))) ?_ ?_
      · rintro a1 w1 ⟨rfl, rfl⟩
        exact ⟨⟨undef, rfl, fun _ => rfl, trivial, Reg.KeepB.grown (Reg.KeepB.of (Below.refl _ wx)) (grown_setRow wx _ _) hxs (.inr (by simp))⟩, k3⟩
      · clear has k3 hS
        go_simp
    · refine Reg.oblL_ord (l := (Reg.Line.mk [3] 5 (StS (w.heap.size + 1) (SlotP.zeros 512) (SlotP.zeros 512)))) (by show 4 ∉ [3] ∧ 4 ≠ 5; decide) (Reg.extB_next rfl) (fun k1 b1 a1 w1 v1 w2 h1 h2 => StS.put (b1 := b1) (a := a1) (dst := (some 5)) (v := v1) k1 h1 h2) ?_
      intro ax wx hx hs
      obtain ⟨e77, -⟩ := hs
      have g77 := Reg.ev (v := .int .i64 0) e77
      exact Reg.obl_freeL rfl (Reg.wp_eqvB (Option.some_ne_none _) (by go_simp) rfl)
  · intro Wf listed hwf hall
    simp only [Reg.Fin]
    rintro _ rfl _ rfl _ rfl vn3 hn3 _ rfl
    intro hJ
    obtain ⟨bL, hbL, hSL⟩ := Reg.line_end (l := (Reg.Line.mk [3] 5 (StS (w.heap.size + 1) (SlotP.zeros 512) (SlotP.zeros 512)))) (n := 5) hall (by show ∀ c ∈ [3], c < 5; decide) hJ
    clear hJ hall hbL
    go_simp
    have hSf : Str Wf (w.heap.size + 1) (rowV (SlotP.zeros 512)) := hSL
    have hkf : Reg.KeepB W0.heap.size [w.heap.size + 1] W0 Wf := hwf
    have hkk : Reg.KeepB w.heap.size bs w Wf := ⟨hkf.os.trans HK0.out.os, hkf.tape.trans HK0.out.tape, hkf.output.trans HK0.out.output, Nat.le_trans HK0.out.size hkf.size, fun i hi hb => (hkf.block i (Nat.lt_of_lt_of_le hi HK0.out.size) (by simp only [List.mem_cons, List.not_mem_nil, or_false]; omega)).trans (HK0.out.block i hi hb)⟩
    obtain ⟨bs2, hd2, hn2⟩ := HT0.out
    have hdf : Dev Wf d bs2 X := hd2.keepB hkf (by intro b hb hm; rw [List.mem_singleton] at hb; rcases hn2 b hm with h | h; have := HN0.out b h; omega; omega)
    have HSF := Lib.hid hSf
    have HTF : Hid (DevW.Told w d bs X (.tuple #[.agg (rowV (SlotP.zeros 512)), .int .i64 0]) (.returned (.tuple #[.agg (rowV (SlotP.zeros 512)), .int .i64 0])) Wf) := Lib.hid ⟨rfl, bs2, hdf, fun b hb => (hn2 b hb).imp id (fun h => by omega), hkk⟩
    clear hSf hkf hwf hSL hkk hdf hd2 hn2
    go_wp2_with fail
    exact bodyPost_ret (v := .tuple #[.agg (rowV (SlotP.zeros 512)), .int .i64 0]) (results_page Try.results6 _ HSF.out hz rfl) rfl ⟨_, hz, HTF.out⟩
theorem do_dev (act no v : Int) (hx : act ≤ 6) (A : Option Addr) (n c : Nat) (P : Option Addr) (m pc : Nat) (lg : Int) (b : List UInt8) (w : World) (hD : Dev w d bs X) (hs : DevP.Small X) (hy : Bytes w w.heap.size A n c b) (hA : 0 < n → ∀ a, A = some a → a.block ∉ bs) (hm : n ≤ 1000000000) :
    Calls Try.prog 6 #[.pointer (some ⟨d, 0, none⟩), .agg #[.int .i64 act, .int .i64 no, .int .i64 v, .slice A n c, .slice P m pc, .int .i64 lg]] w (Tells w d bs (DevP.go X act no v b).1 (DevP.go X act no v b).2) := by
  unfold DevP.go
  by_cases h0 : act = 0
  · subst h0
    exact do_dev_0 no v A n c P m pc lg b w hD hs hy hA hm
  rw [if_neg h0]
  by_cases h1 : act = 1
  · subst h1
    exact do_dev_1 no v A n c P m pc lg b w hD hs hy hA hm
  rw [if_neg h1]
  by_cases h2 : act = 2
  · subst h2
    exact do_dev_2 no v A n c P m pc lg b w hD hs hy hA hm
  rw [if_neg h2]
  by_cases h3 : act = 3
  · subst h3
    exact do_dev_3 no v A n c P m pc lg b w hD hs hy hA hm
  rw [if_neg h3]
  by_cases h4 : act = 4
  · subst h4
    exact do_dev_4 no v A n c P m pc lg b w hD hs hy hA hm
  rw [if_neg h4]
  by_cases h5 : act = 5
  · subst h5
    exact do_dev_5 no v A n c P m pc lg b w hD hs hy hA hm
  rw [if_neg h5]
  by_cases h6 : act = 6
  · subst h6
    exact do_dev_6 no v A n c P m pc lg b w hD hs hy hA hm
  rw [if_neg h6]
  exact do_dev_x act (.inl (by omega)) no v A n c P m pc lg b w hD hs hy hA hm
end Go.Proofs.Ytldgdgfplgdipaa.Law16
namespace Go.Proofs.Ytldgdgfplgdipaa
open Go.RowKit Go.Maps DevW Law16
set_option linter.unusedVariables false
namespace DevP
structure Inv (X : DevX) (k : Nat) : Prop where
  n4 : X.safe.length = 4
  off : X.off = false
  fus : X.fused = false
  ops : X.ops ≤ k
  wr : X.wr ≤ k
  len : X.head + (X.log.length : Nat) ≤ 300 * (k : Int)
variable {X : DevX} {k : Nat}
theorem Inv.errs (h : Inv X k) (fits : Bool) : DevP.err X fits = if fits then 0 else 2 := by
  unfold DevP.err
  rw [h.off, h.fus]
  cases fits <;> rfl
theorem Inv.small (h : Inv X k) (hk : k ≤ 1000) : Small X := ⟨by have := h.ops; omega, by have := h.len; omega, by have := h.wr; omega⟩
theorem Inv.op_no (h : Inv X k) {fits : Bool} {X1 : DevX} (hf : fits = false) : op X fits X1 = X := by
  subst hf
  unfold op
  rw [h.errs, if_neg (by decide)]
  unfold stop
  rw [h.off]
  rfl
theorem Inv.op_yes (h : Inv X k) {fits : Bool} {X1 : DevX} (hf : fits = true) : op X fits X1 = done X1 := by
  subst hf
  unfold op
  rw [h.errs]
  rfl
theorem Inv.more (h : Inv X k) {X1 : DevX} (h1 : X1.safe.length = 4) (h2 : X1.off = X.off) (h3 : X1.fused = X.fused) (h4 : X1.ops = X.ops) (h5 : X1.wr ≤ X.wr + 1) (h6 : X1.head + (X1.log.length : Nat) ≤ X.head + (X.log.length : Nat) + 300) : Inv (done X1) (k + 1) :=
  ⟨h1, h2.trans h.off, h3.trans h.fus, by show X1.ops + 1 ≤ _; rw [h4]; have := h.ops; omega, by show X1.wr ≤ _; have := h.wr; omega, by show X1.head + (X1.log.length : Nat) ≤ _; have := h.len; omega⟩
theorem Inv.same (h : Inv X k) : Inv X (k + 1) := ⟨h.n4, h.off, h.fus, by have := h.ops; omega, by have := h.wr; omega, by have := h.len; omega⟩
/-- what a step keeps -/
theorem Inv.go (h : Inv X k) (ho : Ok X) (act no v : Int) (b : List UInt8) (hb : b.length ≤ 300) : Inv (DevP.go X act no v b).1 (k + 1) := by
  unfold DevP.go
  have key : ∀ (fits : Bool) (X1 : DevX), (fits = true → X1.safe.length = 4 ∧ X1.off = X.off ∧ X1.fused = X.fused ∧ X1.ops = X.ops ∧ X1.wr ≤ X.wr + 1 ∧ X1.head + (X1.log.length : Nat) ≤ X.head + (X.log.length : Nat) + 300) → Inv (op X fits X1) (k + 1) := fun fits X1 hx => by
    cases hf : fits with
    | true =>
      obtain ⟨a, b, c, d, e, f⟩ := hx hf
      rw [h.op_yes rfl]
      exact h.more a b c d e f
    | false =>
      rw [h.op_no rfl]
      exact h.same
  split
  · exact key _ _ fun _ => ⟨h.n4, rfl, rfl, rfl, by omega, by omega⟩
  split
  · exact key _ _ fun _ => ⟨h.n4, rfl, rfl, rfl, Nat.le_refl _, by show X.head + (X.log.length : Nat) ≤ _; omega⟩
  split
  · exact key _ _ fun _ => ⟨by show X.now.length = 4; rw [ho.nl]; exact h.n4, rfl, rfl, rfl, by show X.wr ≤ _; omega, by show X.head + (X.log.length : Nat) ≤ _; omega⟩
  split
  · exact key _ _ fun _ => ⟨h.n4, rfl, rfl, rfl, by show X.wr ≤ _; omega, by show X.head + ((X.log ++ b).length : Nat) ≤ _; rw [List.length_append]; omega⟩
  split
  · exact key _ _ fun _ => ⟨h.n4, rfl, rfl, rfl, by show X.wr ≤ _; omega, by show X.head + (X.log.length : Nat) ≤ _; omega⟩
  split
  · exact key _ _ fun _ => ⟨h.n4, rfl, rfl, rfl, by show X.wr ≤ _; omega, by show X.head + ((X.log.take (no - X.head).toNat).length : Nat) ≤ _; rw [List.length_take]; omega⟩
  split
  · refine key _ _ fun hf => ⟨h.n4, rfl, rfl, rfl, by show X.wr ≤ _; omega, ?_⟩
    simp only [fitsL, Bool.and_eq_true, decide_eq_true_eq] at hf
    show no + ((X.log.drop (no - X.head).toNat).length : Nat) ≤ _
    rw [List.length_drop]
    omega
  · exact h.same
/-- a step that is not done -/
theorem Inv.go_no (h : Inv X k) (act no v : Int) (b : List UInt8) (he : (DevP.go X act no v b).2 ≠ 0) : (DevP.go X act no v b).1 = X := by
  revert he
  unfold DevP.go
  have key : ∀ (fits : Bool) (X1 : DevX), DevP.err X fits ≠ 0 → op X fits X1 = X := fun fits X1 hx => by
    rw [h.errs] at hx
    cases hf : fits with
    | true => rw [hf] at hx; exact absurd rfl hx
    | false => exact h.op_no rfl
  split
  · exact key _ _
  split
  · exact key _ _
  split
  · exact key _ _
  split
  · exact key _ _
  split
  · exact key _ _
  split
  · exact key _ _
  split
  · exact key _ _
  · intro _; rfl
theorem Inv.fits (h : Inv X k) {fits : Bool} (he : DevP.err X fits = 0) : fits = true := by
  rw [h.errs] at he
  cases fits with
  | true => rfl
  | false => simp at he
/-- a page written -/
theorem Inv.go_write (h : Inv X k) (no v : Int) (b : List UInt8) (he : (DevP.go X 1 no v b).2 = 0) : (0 ≤ no ∧ no < 4) ∧ (DevP.go X 1 no v b).1 = done (wrote X no.toNat (page no v)) := by
  have he' : DevP.err X (fitsN X no) = 0 := he
  have hf := h.fits he'
  have hf2 := hf
  simp only [fitsN, Bool.and_eq_true, decide_eq_true_eq, h.n4] at hf2
  exact ⟨⟨hf2.1, by omega⟩, h.op_yes hf⟩
theorem Inv.go_add (h : Inv X k) (no v : Int) (b : List UInt8) : (DevP.go X 3 no v b).1 = done { X with log := X.log ++ b } := h.op_yes rfl
theorem Inv.go_cut (h : Inv X k) (no v : Int) (b : List UInt8) (he : (DevP.go X 5 no v b).2 = 0) : (X.head ≤ no ∧ no ≤ X.head + (X.log.length : Nat)) ∧ (DevP.go X 5 no v b).1 = done { X with log := X.log.take (no - X.head).toNat, sure := min X.sure no } := by
  have he' : DevP.err X (fitsL X no) = 0 := he
  have hf := h.fits he'
  have hf2 := hf
  simp only [fitsL, Bool.and_eq_true, decide_eq_true_eq] at hf2
  exact ⟨hf2, h.op_yes hf⟩
theorem Inv.go_free (h : Inv X k) (no v : Int) (b : List UInt8) (he : (DevP.go X 6 no v b).2 = 0) : (X.head ≤ no ∧ no ≤ X.head + (X.log.length : Nat)) ∧ (DevP.go X 6 no v b).1 = done (freed X no) := by
  have he' : DevP.err X (fitsL X no) = 0 := he
  have hf := h.fits he'
  have hf2 := hf
  simp only [fitsL, Bool.and_eq_true, decide_eq_true_eq] at hf2
  exact ⟨hf2, h.op_yes hf⟩
/-- a step of another kind -/
theorem Inv.go_else (h : Inv X k) (act no v : Int) (b : List UInt8) (h1 : act ≠ 1) (h3 : act ≠ 3) (h5 : act ≠ 5) (h6 : act ≠ 6) : (DevP.go X act no v b).1.now = X.now ∧ (DevP.go X act no v b).1.log = X.log ∧ (DevP.go X act no v b).1.head = X.head := by
  unfold DevP.go
  have key : ∀ (fits : Bool) (X1 : DevX), X1.now = X.now ∧ X1.log = X.log ∧ X1.head = X.head → (op X fits X1).now = X.now ∧ (op X fits X1).log = X.log ∧ (op X fits X1).head = X.head := fun fits X1 hx => by
    cases hf : fits with
    | true => rw [h.op_yes rfl]; exact hx
    | false => rw [h.op_no rfl]; exact ⟨rfl, rfl, rfl⟩
  simp only [if_neg h1, if_neg h3, if_neg h5, if_neg h6]
  split
  · exact key _ _ ⟨rfl, rfl, rfl⟩
  split
  · exact key _ _ ⟨rfl, rfl, rfl⟩
  split
  · exact key _ _ ⟨rfl, rfl, rfl⟩
  · exact ⟨rfl, rfl, rfl⟩
end DevP
end Go.Proofs.Ytldgdgfplgdipaa
namespace Go.Proofs.Ytldgdgfplgdipaa.Law16
open Go.RowKit Go.Maps DevW
set_option linter.unusedVariables false
set_option linter.unusedSimpArgs false
/-- no more than is asked -/
def Asked (n : Nat) (l : List StepD) : Prop := n ≤ 60 ∧ ∀ x ∈ l, x.b.length ≤ 300
set_option maxRecDepth 100000 in
set_option maxHeartbeats 1000000 in
theorem great_any (A : Option Addr) (n c : Nat) (l : List StepD) (w : World) (hE : Elems StepDE w w.heap.size A n c l) :
    Calls Try.prog 13 #[.slice A n c] w fun e w' => ∃ r, e = .returned (.bool r) ∧ (r = false → Asked n l) ∧ w = w' := by
  have HE := Lib.hid hE
  have hlen := hE.len
  have hcap := hE.cap
  have hcm := hcap.2
  unfold maxLen at hcm
  clear hE
  go_enter Try.func13, Try.ntmps13
  go_wp2
  go_loopw [3] (fun iv wr => ∃ k : Nat, k ≤ n ∧ k ≤ 100 ∧ iv = .int .i64 (k : Int) ∧ wr = w ∧ Hid (∀ j x, j < k → l[j]? = some x → x.b.length ≤ 300)) (fun iv _ => n - (intOf iv).toNat)
  case atStart => exact ⟨0, Nat.zero_le _, by omega, rfl, rfl, Lib.hid (fun j x h => absurd h (by omega))⟩
  case round =>
    obtain ⟨k, hk, hk1, rfl, hwr, HK⟩ := hrel
    subst hwr
    by_cases hlt : k < n
    · have hd : decide ((k : Int) < (n : Int)) = true := by simpa using hlt
      by_cases h100 : k < 100
      · have hd2 : decide ((k : Int) < 100) = true := by simp; omega
        obtain ⟨b, o, x, A2, n2, c2, P, pc, rfl, hb, hx, hy, hi, hp, q0, q1, q2, q3, q4, q5⟩ := stepd_at HE.out hlt
        have hyl := hy.len
        have hki : (0 : Int) ≤ (k : Int) := by omega
        by_cases hB : 300 < n2
        · have hd3 : decide ((300 : Int) < (n2 : Int)) = true := by simp; omega
          clear hy hi hp hx hyl
          go_wp2
          go_ret
          exact ⟨true, rfl, (fun h => by cases h), rfl⟩
        · have hd3 : decide ((300 : Int) < (n2 : Int)) = false := by simp; omega
          by_cases hP : 60 < x.many
          · have hd4 : decide ((60 : Int) < (x.many : Int)) = true := by simp; omega
            clear hy hi hp hx hyl
            go_wp2
            go_ret
            exact ⟨true, rfl, (fun h => by cases h), rfl⟩
          · have hd4 : decide ((60 : Int) < (x.many : Int)) = false := by simp; omega
            have HN : Hid (∀ j y, j < k + 1 → l[j]? = some y → y.b.length ≤ 300) := Lib.hid (fun j y hj hy => by
              by_cases e : j = k
              · subst e; rw [hx] at hy; cases hy; omega
              · exact HK.out j y (by omega) hy)
            clear hy hi hp hx hyl
            go_wp2
            go_roundw
            case rel => exact ⟨k + 1, by omega, by omega, by go_num, (by first | rfl | trivial), HN⟩
            case measure => simp [intOf]; omega
      · have hd2 : decide ((k : Int) < 100) = false := by simp; omega
        have hd5 : decide ((60 : Int) < (n : Int)) = true := by simp; omega
        go_wp2
        go_ret
        exact ⟨true, rfl, (fun h => by cases h), rfl⟩
    · have hd : decide ((k : Int) < (n : Int)) = false := by simp; omega
      have HF : Hid (∀ x ∈ l, x.b.length ≤ 300) := Lib.hid (fun x hx => by
        obtain ⟨j, hj, rfl⟩ := List.getElem_of_mem hx
        exact HK.out j _ (by omega) (List.getElem?_eq_getElem hj))
      by_cases h60 : 60 < n
      · have hd5 : decide ((60 : Int) < (n : Int)) = true := by simp; omega
        go_wp2
        go_ret
        exact ⟨true, rfl, (fun h => by cases h), rfl⟩
      · have hd5 : decide ((60 : Int) < (n : Int)) = false := by simp; omega
        go_wp2
        go_ret
        exact ⟨false, rfl, fun _ => ⟨by omega, HF.out⟩, rfl⟩
end Go.Proofs.Ytldgdgfplgdipaa.Law16
namespace Go.Proofs.Ytldgdgfplgdipaa.devLast
open Go.RowKit Go.Maps DevW Law16
set_option linter.unusedVariables false
set_option linter.unusedSimpArgs false
attribute [local go_sem ↓] ldPage_fold stPage_fold bdPage_fold alPage_fold app_fold cut_fold
theorem al4_fold : Instr.alloc 40 true (.tuple #[]) = alSem 40 := rfl
attribute [local go_sem ↓] al4_fold
theorem info4 : (Try.prog.info? 40).map (fun i => (i.zero, i.size)) = some (some (.agg (Array.replicate 2048 (.int .u8 0))), 2048) := by kernel_rfl
theorem al4 (w : World) : (alSem 40).run Try.prog w = .ok (.pointer (some ⟨w.heap.size, 0, none⟩)) (w.alloc (.cells (Array.replicate 2048 (.int .u8 0)) 40)) := by
  obtain ⟨hz, _⟩ := zero_of_info info4
  simp [alSem, Instr.alloc, hz, newVar, newRow, Value.cells]
theorem row4 (w : World) : Pgs 40 (w.alloc (.cells (Array.replicate 2048 (.int .u8 0)) 40)) w.heap.size 4 4 (List.replicate 4 (SlotP.zeros 512)) := by
  have hz : (SlotP.zeros 512).length = 512 := List.length_replicate
  refine OwnE.mk' (vs := List.replicate 4 ((SlotP.zeros 512).map byteV)) (cur := List.replicate 2048 (.int .u8 0)) (Nat.zero_le _) (by rw [List.toArray_replicate]; exact heap_alloc_new w _) (Nat.le_refl _) (by unfold maxLen; omega) (by rw [List.length_replicate]; rfl) ?_ ?_ List.length_replicate
  · have e : (SlotP.zeros 512).map byteV = List.replicate 512 (Value.int .u8 0) := by
      unfold SlotP.zeros
      rw [List.map_replicate]
      rfl
    rw [e, List.take_of_length_le (by rw [List.length_replicate]; show 2048 ≤ 4 * 512; omega), List.flatten_replicate_replicate]
  · exact ⟨⟨rfl, hz⟩, ⟨rfl, hz⟩, ⟨rfl, hz⟩, ⟨rfl, hz⟩, trivial⟩
/-- what the rounds keep -/
structure Keeps (w wr : World) (d wb : Nat) (Al : Option Addr) (nl cl k : Nat) (bs : List Nat) (gl : Option Nat) (X : DevX) : Prop where
  dev : Dev wr d bs X
  want : Pgs 40 wr wb 4 4 X.now
  log : OwnS wr gl Al nl cl X.log
  inv : DevP.Inv X k
  bel : Below w.heap.size w wr
  nbs : ∀ b ∈ bs, w.heap.size ≤ b
  nwb : w.heap.size ≤ wb
  ngl : ∀ g, gl = some g → w.heap.size ≤ g
  awb : wb ∉ bs
  agl : ∀ g, gl = some g → g ∉ bs ∧ g ≠ wb
theorem Keeps.next {w wr wr' : World} {d wb nl cl k : Nat} {Al : Option Addr} {bs : List Nat} {gl : Option Nat} {X : DevX} (h : Keeps w wr d wb Al nl cl k bs gl X) (hb : Below wr.heap.size wr wr') : Keeps w wr' d wb Al nl cl k bs gl X :=
  ⟨h.dev.below hb, h.want.at_ (hb.block _ h.want.lt), h.log.next hb, h.inv, bstep h.bel hb, h.nbs, h.nwb, h.ngl, h.awb, h.agl⟩
theorem Keeps.more {w wr : World} {d wb nl cl k : Nat} {Al : Option Addr} {bs : List Nat} {gl : Option Nat} {X : DevX} (h : Keeps w wr d wb Al nl cl k bs gl X) : Keeps w wr d wb Al nl cl (k + 1) bs gl X :=
  ⟨h.dev, h.want, h.log, h.inv.same, h.bel, h.nbs, h.nwb, h.ngl, h.awb, h.agl⟩
/-- the device has turned -/
theorem Keeps.turn {w wr wr' : World} {d wb nl cl k k' : Nat} {Al : Option Addr} {bs bs' : List Nat} {gl : Option Nat} {X X' : DevX} (h : Keeps w wr d wb Al nl cl k bs gl X) (hd : Dev wr' d bs' X') (hn : ∀ b ∈ bs', b ∈ bs ∨ wr.heap.size ≤ b) (hk : Reg.KeepB wr.heap.size bs wr wr') (hi : DevP.Inv X' k') :
    Pgs 40 wr' wb 4 4 X.now ∧ OwnS wr' gl Al nl cl X.log ∧ Below w.heap.size w wr' ∧ (∀ b ∈ bs', w.heap.size ≤ b) ∧ wb ∉ bs' ∧ (∀ g, gl = some g → g ∉ bs' ∧ g ≠ wb) := by
  have hs := h.bel.size
  refine ⟨h.want.at_ (hk.block _ h.want.lt h.awb), h.log.at_ (fun g e => hk.block g (h.log.lt g e) (h.agl g e).1), h.bel.trans (hk.below hs h.nbs), fun b hb => ?_, fun hb => ?_, fun g e => ⟨fun hb => ?_, (h.agl g e).2⟩⟩
  · rcases hn b hb with h1 | h1
    · exact h.nbs b h1
    · omega
  · rcases hn _ hb with h1 | h1
    · exact h.awb h1
    · have := h.want.lt; omega
  · rcases hn _ hb with h1 | h1
    · exact (h.agl g e).1 h1
    · have := h.log.lt g e; omega
set_option maxRecDepth 100000 in
set_option maxHeartbeats 1000000 in
theorem walk_long (A : Option Addr) (n c : Nat) (l : List StepD) (w : World) (hE : Elems StepDE w w.heap.size A n c l) (hg : ∀ w', Calls Try.prog 13 #[.slice A n c] w' fun e w2 => e = .returned (.bool true) ∧ w' = w2) :
    Calls Try.prog 4 #[.slice A n c] w fun e w' => e = .returned (.bool true) ∧ Below w.heap.size w w' := by
  go_enter Try.func4, Try.ntmps4
  go_wp2_with fail
  refine (hg w).mono ?_
  rintro e w2 ⟨rfl, rfl⟩
  go_wp2_with fail
  refine (live_any _).mono ?_
  rintro e w3 ⟨rfl, hb⟩
  go_wp2
  go_ret
  exact ⟨rfl, hb⟩
set_option maxRecDepth 100000 in
set_option maxHeartbeats 8000000 in
theorem walk_main (A : Option Addr) (n c : Nat) (l : List StepD) (w : World) (hE : Elems StepDE w w.heap.size A n c l) :
    Calls Try.prog 4 #[.slice A n c] w fun e w' => e = .returned (.bool true) ∧ Below w.heap.size w w' := by
  have HE := Lib.hid hE
  have hcap := hE.cap
  have hcm := hcap.2
  unfold maxLen at hcm
  have hz : (SlotP.zeros 512).length = 512 := List.length_replicate
  have hal := fun W => run_al (P := Try.prog) arrPage W
  have hal4 := al4
  go_enter Try.func4, Try.ntmps4
  go_wp2_with fail
  refine (great_any A n c l w hE).mono ?_
  rintro e w2 ⟨r, rfl, hr, rfl⟩
  cases r with
  | true =>
    clear hr hE
    go_wp2_with fail
    refine (live_any _).mono ?_
    rintro e w3 ⟨rfl, hb⟩
    go_wp2
    go_ret
    exact ⟨rfl, hb⟩
  | false =>
    have hask := hr rfl
    have hn60 := hask.1
    have HASK := Lib.hid hask.2
    clear hr hE hask
    go_wp2_with fail
    refine (new_any 4 w).mono ?_
    rintro e W1 ⟨d, bs1, rfl, hD1, hn1, hb1⟩
    have HD1 : Hid (Dev W1 d bs1 (DevP.new 4)) := Lib.hid hD1
    have HN1 := Lib.hid hn1
    have HB1 := Lib.hid hb1
    have hsz1 := hb1.size
    clear hD1 hn1 hb1
    go_wp2_with fail
    generalize hW2 : W1.alloc (.cells (Array.replicate 2048 (.int .u8 0)) 40) = W2
    have hb2 : Below W1.heap.size W1 W2 := by rw [← hW2]; exact balloc (bsame _) _
    have hrow : Pgs 40 W2 W1.heap.size 4 4 (List.replicate 4 (SlotP.zeros 512)) := by rw [← hW2]; exact row4 W1
    have HK0 : Hid (Keeps w W2 d W1.heap.size none 0 0 0 bs1 none (DevP.new 4)) := Lib.hid ⟨HD1.out.below hb2, hrow, OwnS.none_ _, ⟨rfl, rfl, rfl, Int.le_refl _, Nat.le_refl _, Int.le_refl _⟩, bstep HB1.out hb2, HN1.out, hsz1, by simp, fun h => by have := HD1.out.lt _ h; omega, by simp⟩
    have hwbs : W1.heap.size < W2.heap.size := hrow.lt
    obtain ⟨wb, hwb⟩ : ∃ x, W1.heap.size = x := ⟨_, rfl⟩
    rw [hwb] at HK0 hwbs ⊢
    clear hW2 hb2 hrow HD1 HN1 HB1 hwb
    go_loopw [5, 6, 7] (fun sv hv iv wr => ∃ (k nl cl : Nat) (Al : Option Addr) (bs : List Nat) (gl : Option Nat) (X : DevX), k ≤ n ∧ sv = .slice Al nl cl ∧ hv = .int .i64 X.head ∧ iv = .int .i64 (k : Int) ∧ Hid (Keeps w wr d wb Al nl cl k bs gl X)) (fun _ _ iv _ => n - (intOf iv).toNat)
    case atStart => exact ⟨0, 0, 0, none, bs1, none, DevP.new 4, Nat.zero_le _, rfl, rfl, rfl, HK0⟩
    case round =>
      obtain ⟨k, nl, cl, Al, bs, gl, X, hk, rfl, rfl, rfl, HK⟩ := hrel
      have hwr := HK.out.bel.size
      have hnl := HK.out.log.len
      have hcl1 := HK.out.log.2.1
      have hcl2 := HK.out.log.2.2.1
      unfold maxLen at hcl2
      have hin := HK.out.inv
      have hh0 := HK.out.dev.ok.h0
      have hlen := hin.len
      have hwl := HK.out.want.lt
      have HNL := Lib.hid hnl
      have hnb : X.head + (nl : Int) ≤ 300 * (k : Int) := by omega
      clear hnl hin hlen HK0
      by_cases hlt : k < n
      · have hd : decide ((k : Int) < (n : Int)) = true := by simpa using hlt
        obtain ⟨b, o, x, A2, n2, c2, P, pc, rfl, hb, hx, hy, hi, hp, q0, q1, q2, q3, q4, q5⟩ := stepd_at HE.out hlt
        have hb300 := HASK.out x (List.mem_of_getElem? hx)
        have HY := Lib.hid hy
        have hyl := hy.len
        replace q0 := (HK.out.bel.cell (p := ⟨b, o + k * 6, none⟩) hb).trans q0
        replace q1 := (HK.out.bel.cell (p := ⟨b, o + k * 6 + 1, none⟩) hb).trans q1
        replace q2 := (HK.out.bel.cell (p := ⟨b, o + k * 6 + 2, none⟩) hb).trans q2
        replace q3 := (HK.out.bel.cell (p := ⟨b, o + k * 6 + 3, none⟩) hb).trans q3
        replace q4 := (HK.out.bel.cell (p := ⟨b, o + k * 6 + 4, none⟩) hb).trans q4
        replace q5 := (HK.out.bel.cell (p := ⟨b, o + k * 6 + 5, none⟩) hb).trans q5
        obtain ⟨act, no, v, bb, m, lg⟩ := x
        dsimp only at hb300 hyl hi q0 q1 q2 q3 q4 q5
        dsimp only at HY
        have hki : (0 : Int) ≤ (k : Int) := by omega
        clear hx hy hp
        by_cases h6 : 6 < act
        · have hd6 : decide (6 < act) = true := by simpa using h6
          go_wp2
          go_roundw
          case rel => exact ⟨k + 1, nl, cl, Al, bs, gl, X, by omega, rfl, rfl, by go_num, Lib.hid ((HK.out.next (balloc (bsame _) _)).more)⟩
          case measure => simp [intOf]; omega
        · have hd6 : decide (6 < act) = false := by simpa using h6
          go_wp2_with fail
          generalize hW3 : wr.alloc (.cells #[.int .i64 act, .int .i64 no, .int .i64 v, .slice A2 n2 c2, .slice P m pc, .int .i64 lg] 27) = W3
          have hb3 : Below wr.heap.size wr W3 := by rw [← hW3]; exact balloc (bsame _) _
          have HS3 : Hid (Str W3 wr.heap.size #[.int .i64 act, .int .i64 no, .int .i64 v, .slice A2 n2 c2, .slice P m pc, .int .i64 lg]) := Lib.hid (by rw [← hW3]; exact Str.new _ _ _)
          have HK3 := Lib.hid (HK.out.next hb3)
          have hsz3 := HS3.out.lt
          have hsb : wr.heap.size ∉ bs := fun h => by have := HK.out.dev.lt _ h; omega
          have hswb : wr.heap.size ≠ wb := by omega
          have hsgl : gl ≠ some wr.heap.size := fun e => by have := HK.out.log.lt _ e; omega
          clear hW3 hb3 q0 q1 q2 q3 q4 q5
          have hyW : Bytes W3 W3.heap.size A2 n2 c2 bb := (HY.out.below HK3.out.bel).more HK3.out.bel.size
          refine (do_dev act no v (by omega) A2 n2 c2 P m pc lg bb W3 HK3.out.dev (HK3.out.inv.small (by omega)) hyW (fun h0 a e h => by
            obtain ⟨b', o', e', hb', -⟩ := HY.out.2.2.2 h0
            rw [e] at e'
            cases e'
            exact absurd (HK3.out.nbs _ h) (by show ¬ w.heap.size ≤ b'; omega)) (by omega)).mono ?_
          rintro e W4 ⟨q, hq, rfl, bs4, hd4, hn4, hk4⟩
          have hi4 := HK3.out.inv.go HK3.out.dev.ok act no v bb hb300
          obtain ⟨t1, t2, t3, t4, t5, t6⟩ := HK3.out.turn hd4 hn4 hk4 hi4
          have hs4 := HS3.out.keepB hk4 hsb
          obtain ⟨W5, hW5⟩ : ∃ W, (W4.alloc (.cells (rowV (SlotP.zeros 512)) 30)).setRow W4.heap.size (rowV q) = W := ⟨_, rfl⟩
          have hst5 := run_st (P := Try.prog) arrPage (Str.new W4 (rowV (SlotP.zeros 512)) 30) (by rw [rowV_size]; exact hz) hq
          rw [hW5] at hst5
          have hb5 : Below W4.heap.size W4 W5 := by rw [← hW5]; exact below_setRow (balloc (bsame _) _) (Nat.le_refl _) _
          have HT5 : Hid (∀ (Al' : Option Addr) (nl' cl' : Nat) (gl' : Option Nat), Pgs 40 W5 wb 4 4 X.now ∧ OwnS W5 gl Al nl cl X.log ∧ Below w.heap.size w W5 ∧ (∀ b ∈ bs4, w.heap.size ≤ b) ∧ wb ∉ bs4 ∧ (∀ g, gl = some g → g ∉ bs4 ∧ g ≠ wb) ∧ Dev W5 d bs4 (DevP.go X act no v bb).1) := Lib.hid (fun _ _ _ _ => ⟨t1.at_ (hb5.block _ t1.lt), t2.next hb5, bstep t3 hb5, t4, t5, t6, hd4.below hb5⟩)
          have HI5 := Lib.hid hi4
          have HS5 := Lib.hid (hs4.next hb5)
          have f5 := str6 HS5.out
          have hl5 := HS5.out.lt
          have HIV := Lib.hid HK3.out.inv
          have HNW := Lib.hid HK3.out.nwb
          have HNG := Lib.hid HK3.out.ngl
          have hwl5 : wb < W5.heap.size := (HT5.out none 0 0 none).1.lt
          clear hW5 hb5 t1 t2 t3 t4 t5 t6 hs4 hd4 hn4 hk4 hi4 HK3 HS3 HK hyW
          by_cases her : (DevP.go X act no v bb).2 = 0
          · have hdr : ((DevP.go X act no v bb).2 != 0) = false := by simpa using her
            by_cases a1 : act = 1
            · subst a1
              obtain ⟨⟨n0, n4⟩, hX⟩ := HIV.out.go_write no v bb her
              have hkk := HT5.out none 0 0 none
              rw [hX] at hkk
              have hi5 := HI5.out
              rw [hX] at hi5
              obtain ⟨h1, h2, h3, h4, h5, h6', h7⟩ := hkk
              obtain ⟨j, rfl⟩ : ∃ j : Nat, no = (j : Int) := ⟨no.toNat, by omega⟩
              have hj : j < 4 := by omega
              have hj0 : (0 : Int) ≤ (j : Int) := by omega
              have hj4 : (j : Int) < 4 := by omega
              have dn0 : decide ((j : Int) < 0) = false := by simp
              have dn3 : decide ((3 : Int) < (j : Int)) = false := by simp; omega
              have H1 := Lib.hid h1
              have H2 := Lib.hid h2
              have H3 := Lib.hid h3
              have H4 := Lib.hid h4
              have H5 := Lib.hid h5
              have H6 := Lib.hid h6'
              have H7 := Lib.hid h7
              have HI := Lib.hid hi5
              clear her hX h1 h2 h3 h4 h5 h6' h7 hi5
              go_wp2_with fail
              refine Reg.wp_region_tail (R := ext) (W := W5) [Reg.eqv (.pointer (some ⟨wr.heap.size, 1, none⟩)), Reg.eqv (.int .i64 (j : Int)), Reg.eqv (.pointer (some ⟨wr.heap.size, 1, none⟩)), Reg.eqv (.int .i64 (j : Int)), Reg.eqv (.pointer (some ⟨wr.heap.size, 2, none⟩)), Reg.eqv (.int .i64 v), Reg.eqv (.agg (rowV (DevP.page (j : Int) v))), Reg.eqv (.pointer (some ⟨wb, j * 512, none⟩))] 154 8 _ [[(8, none)], [(77, some 0)], [(8, none)], [(79, some 2)], [(8, none)], [(81, some 4)], [(80, some 3), (82, some 5)], [(4, none), (78, some 1)]] rfl (by kernel_rfl) (by kernel_rfl) (by rfl) (by rfl) rfl (by kernel_rfl) ?_ [some 77, some 78, some 79, some 80, some 81, some 82, some 83, some 84] (by kernel_rfl) ?_
              · refine ⟨?_, ?_, ?_, ?_, ?_, ?_, ?_, ?_, trivial⟩
                · intro ax wx hx hs
                  obtain ⟨e8, -⟩ := hs
                  have g8 := Reg.ev (v := .pointer (some ⟨wr.heap.size, 0, none⟩)) e8
                  exact Reg.obl_free rfl (Reg.wp_eqv (Option.some_ne_none _) (by go_simp) rfl)
                · intro ax wx hx hs
                  obtain ⟨e77, -⟩ := hs
                  have g77 := Reg.ev (v := .pointer (some ⟨wr.heap.size, 1, none⟩)) e77
                  have l0 := str6 (HS5.out.next hx)
                  exact Reg.obl_free rfl (Reg.wp_eqv (Option.some_ne_none _) (by go_simp) rfl)
                · intro ax wx hx hs
                  obtain ⟨e8, -⟩ := hs
                  have g8 := Reg.ev (v := .pointer (some ⟨wr.heap.size, 0, none⟩)) e8
                  exact Reg.obl_free rfl (Reg.wp_eqv (Option.some_ne_none _) (by go_simp) rfl)
                · intro ax wx hx hs
                  obtain ⟨e79, -⟩ := hs
                  have g79 := Reg.ev (v := .pointer (some ⟨wr.heap.size, 1, none⟩)) e79
                  have l0 := str6 (HS5.out.next hx)
                  exact Reg.obl_free rfl (Reg.wp_eqv (Option.some_ne_none _) (by go_simp) rfl)
                · intro ax wx hx hs
                  obtain ⟨e8, -⟩ := hs
                  have g8 := Reg.ev (v := .pointer (some ⟨wr.heap.size, 0, none⟩)) e8
                  exact Reg.obl_free rfl (Reg.wp_eqv (Option.some_ne_none _) (by go_simp) rfl)
                · intro ax wx hx hs
                  obtain ⟨e81, -⟩ := hs
                  have g81 := Reg.ev (v := .pointer (some ⟨wr.heap.size, 2, none⟩)) e81
                  have l0 := str6 (HS5.out.next hx)
                  exact Reg.obl_free rfl (Reg.wp_eqv (Option.some_ne_none _) (by go_simp) rfl)
                · intro ax wx hx hs
                  obtain ⟨e80, e82, -⟩ := hs
                  have g80 := Reg.ev (v := .int .i64 (j : Int)) e80
                  have g82 := Reg.ev (v := .int .i64 v) e82
                  refine Reg.obl_free rfl ?_
                  go_simp
                  refine (of_any (j : Int) v wx).mono ?_
                  rintro e wy ⟨rfl, hby⟩
                  exact Reg.done (Option.some_ne_none _) rfl hby
                · intro ax wx hx hs
                  obtain ⟨e4, e78, -⟩ := hs
                  have g4 := Reg.ev (v := .pointer (some ⟨wb, 0, none⟩)) e4
                  have g78 := Reg.ev (v := .int .i64 (j : Int)) e78
                  exact Reg.obl_free rfl (Reg.wp_eqv (Option.some_ne_none _) (by go_simp) rfl)
              · intro W6 hwf
                simp only [Reg.Fin]
                rintro _ rfl _ rfl _ rfl _ rfl _ rfl _ rfl _ rfl _ rfl
                have hwf' : Below W5.heap.size W5 W6 := hwf
                obtain ⟨W7, hst7, hw7, hg7, hz7⟩ := (H1.out.at_ (hwf'.block _ H1.out.lt)).store (k := j) hj (page_len (j : Int) v)
                have hs7 := (HS5.out.next hwf').grown hg7 hswb
                have f7 := str6 hs7
                have hl7 := hs7.lt
                have hd7 := (H7.out.below hwf').grown hg7 H5.out
                have ho7 := (H2.out.next hwf').grown hg7 (fun e => (H6.out wb e).2 rfl)
                have hb7 := below_grown (bstep H3.out hwf') hg7 HNW.out
                have HKE : Hid (Keeps w W7 d wb Al nl cl (k + 1) bs4 gl (DevP.done (DevP.wrote X ((j : Int)).toNat (DevP.page (j : Int) v)))) := Lib.hid ⟨hd7, hw7, ho7, HI.out, hb7, H4.out, HNW.out, HNG.out, H5.out, H6.out⟩
                clear hwf hwf' hw7 hg7 hs7 hd7 ho7 hb7
                refine Reg.Goal.mk ?_
                go_simp
                clear hst7 f5
                go_wp2
                go_roundw
                case rel => exact ⟨k + 1, nl, cl, Al, bs4, gl, DevP.done (DevP.wrote X ((j : Int)).toNat (DevP.page (j : Int) v)), by omega, rfl, rfl, by go_num, HKE⟩
                case measure => simp [intOf]; omega
            by_cases a3 : act = 3
            · subst a3
              have hX := HIV.out.go_add no v bb
              have hkk := HT5.out none 0 0 none
              rw [hX] at hkk
              have hi5 := HI5.out
              rw [hX] at hi5
              obtain ⟨h1, h2, h3, h4, h5, h6', h7⟩ := hkk
              obtain ⟨A6, c6, W6, gl6, happ, hO6, hg6, hgl6⟩ := h2.app (P := Try.prog) 22 22 5 Try.underlying22 Be.infoU8 (HY.out.below h3) (by omega)
              have hd6 : Dev W6 d bs4 _ := h7.at_ (fun b hb => hg6.block b (h7.lt b hb) (fun e => (h6' b e.symm).1 hb))
              have hw6 : Pgs 40 W6 wb 4 4 X.now := h1.at_ (hg6.block _ h1.lt (fun e => (h6' wb e.symm).2 rfl))
              have hs6 : Str W6 wr.heap.size #[.int .i64 3, .int .i64 no, .int .i64 v, .slice A2 n2 c2, .slice P m pc, .int .i64 lg] := by
                obtain ⟨t, ht⟩ := HS5.out
                exact ⟨t, (hg6.block _ hl5 (fun e => hsgl e.symm)).trans ht⟩
              have hb6 : Below w.heap.size w W6 := ⟨hg6.os.trans h3.os, hg6.tape.trans h3.tape, hg6.output.trans h3.output, Nat.le_trans h3.size hg6.size, fun i hi => (hg6.block i (Nat.lt_of_lt_of_le hi h3.size) (fun e => by have := HNG.out i e.symm; omega)).trans (h3.block i hi)⟩
              have HKE : Hid (Keeps w W6 d wb A6 (nl + n2) c6 (k + 1) bs4 gl6 (DevP.done { X with log := X.log ++ bb })) := Lib.hid ⟨hd6, hw6, hO6, hi5, hb6, h4, HNW.out, fun g e => by
                rcases hgl6 with e1 | e1
                · exact HNG.out g (e1 ▸ e)
                · rw [e1] at e; cases e; exact h3.size, h5, fun g e => by
                rcases hgl6 with e1 | e1
                · exact h6' g (e1 ▸ e)
                · rw [e1] at e; cases e; exact ⟨fun hb => by have := h7.lt _ hb; omega, by omega⟩⟩
              have f6 := str6 hs6
              have hl6 := hs6.lt
              clear her hX h1 h2 h3 h4 h5 h6' h7 hi5 hO6 hg6 hgl6 hd6 hw6 hs6 hb6
              go_wp2
              go_roundw
              case rel => exact ⟨k + 1, nl + n2, c6, A6, bs4, gl6, DevP.done { X with log := X.log ++ bb }, by omega, rfl, rfl, by go_num, HKE⟩
              case measure => simp [intOf]; omega
            by_cases a5 : act = 5
            · subst a5
              obtain ⟨⟨n0, n4⟩, hX⟩ := HIV.out.go_cut no v bb her
              have hkk := HT5.out none 0 0 none
              rw [hX] at hkk
              have hi5 := HI5.out
              rw [hX] at hi5
              obtain ⟨h1, h2, h3, h4, h5, h6', h7⟩ := hkk
              rw [HNL.out] at n4
              obtain ⟨j, hj⟩ : ∃ j : Nat, no - X.head = (j : Int) := ⟨(no - X.head).toNat, by omega⟩
              have hjn : j ≤ nl := by omega
              have dn0 : decide (no < X.head) = false := by simp; omega
              have dn3 : decide (X.head + (nl : Int) < no) = false := by simp; omega
              have hj0 : (0 : Int) ≤ (j : Int) := by omega
              have hj1 : (j : Int) ≤ (nl : Int) := by omega
              have hj2 : (j : Int) ≤ (cl : Int) := by omega
              obtain ⟨gl6, hO6, hgl6⟩ := h2.cut 0 j cl (Nat.zero_le _) hjn (by omega) (Nat.le_refl _)
              rw [Nat.sub_zero, List.drop_zero, Nat.sub_zero] at hO6
              have hjt : (no - X.head).toNat = j := by omega
              have hng6 : ∀ g, gl6 = some g → w.heap.size ≤ g := by
                intro g e
                rcases hgl6 with e1 | e1
                · exact HNG.out g (e1 ▸ e)
                · rw [e1] at e; cases e
              have hag6 : ∀ g, gl6 = some g → g ∉ bs4 ∧ g ≠ wb := by
                intro g e
                rcases hgl6 with e1 | e1
                · exact h6' g (e1 ▸ e)
                · rw [e1] at e; cases e
              have hol6 : OwnS W5 gl6 (cutA Al 0 cl 1) j cl (X.log.take (no - X.head).toNat) := by rw [hjt]; exact hO6
              have HKE : Hid (Keeps w W5 d wb (cutA Al 0 cl 1) j cl (k + 1) bs4 gl6 (DevP.done { X with log := X.log.take (no - X.head).toNat, sure := min X.sure no })) := Lib.hid ⟨h7, h1, hol6, hi5, h3, h4, HNW.out, hng6, h5, hag6⟩
              have HJ := Lib.hid hj
              clear her hX h1 h2 h3 h4 h5 h6' h7 hi5 hO6 hgl6 hjt hng6 hag6 hol6
              go_wp2
              go_roundw
              case rel => exact ⟨k + 1, _, _, _, bs4, gl6, (DevP.done { X with log := X.log.take (no - X.head).toNat, sure := min X.sure no }), by omega, rfl, rfl, by go_num, HKE⟩
              case measure => simp [intOf]; omega
            by_cases a6 : act = 6
            · subst a6
              obtain ⟨⟨n0, n4⟩, hX⟩ := HIV.out.go_free no v bb her
              have hkk := HT5.out none 0 0 none
              rw [hX] at hkk
              have hi5 := HI5.out
              rw [hX] at hi5
              obtain ⟨h1, h2, h3, h4, h5, h6', h7⟩ := hkk
              rw [HNL.out] at n4
              obtain ⟨j, hj⟩ : ∃ j : Nat, no - X.head = (j : Int) := ⟨(no - X.head).toNat, by omega⟩
              have hjn : j ≤ nl := by omega
              have dn0 : decide (no < X.head) = false := by simp; omega
              have dn3 : decide (X.head + (nl : Int) < no) = false := by simp; omega
              have hj0 : (0 : Int) ≤ (j : Int) := by omega
              have hj1 : (j : Int) ≤ (nl : Int) := by omega
              have hj2 : (j : Int) ≤ (cl : Int) := by omega
              obtain ⟨gl6, hO6, hgl6⟩ := h2.cut j nl cl hjn (Nat.le_refl _) hcl1 (Nat.le_refl _)
              rw [List.take_of_length_le (by rw [List.length_drop]; have := HNL.out; omega)] at hO6
              have hjt : (no - X.head).toNat = j := by omega
              have hng6 : ∀ g, gl6 = some g → w.heap.size ≤ g := by
                intro g e
                rcases hgl6 with e1 | e1
                · exact HNG.out g (e1 ▸ e)
                · rw [e1] at e; cases e
              have hag6 : ∀ g, gl6 = some g → g ∉ bs4 ∧ g ≠ wb := by
                intro g e
                rcases hgl6 with e1 | e1
                · exact h6' g (e1 ▸ e)
                · rw [e1] at e; cases e
              have hol6 : OwnS W5 gl6 (cutA Al j cl 1) (nl - j) (cl - j) (X.log.drop (no - X.head).toNat) := by rw [hjt]; exact hO6
              have HKE : Hid (Keeps w W5 d wb (cutA Al j cl 1) (nl - j) (cl - j) (k + 1) bs4 gl6 (DevP.done (DevP.freed X no))) := Lib.hid ⟨h7, h1, hol6, hi5, h3, h4, HNW.out, hng6, h5, hag6⟩
              have HJ := Lib.hid hj
              clear her hX h1 h2 h3 h4 h5 h6' h7 hi5 hO6 hgl6 hjt hng6 hag6 hol6 hj
              go_wp2_with fail
              refine Reg.wp_region_vals (R := ext) (W := W5) [Reg.eqv (.slice Al nl cl), Reg.eqv (.pointer (some ⟨wr.heap.size, 1, none⟩)), Reg.eqv (.int .i64 no), Reg.eqv (.int .i64 (X.head)), Reg.eqv (.int .i64 (j : Int)), Reg.eqv (.slice (cutA Al j cl 1) (nl - j) (cl - j)), Reg.eqv (.pointer (some ⟨wr.heap.size, 1, none⟩)), Reg.eqv (.int .i64 no), Reg.eqv (.slice (cutA Al j cl 1) (nl - j) (cl - j)), Reg.eqv (.int .i64 no)] 154 [[(5, none)], [(8, none)], [(105, some 1)], [(6, none)], [(106, some 2), (107, some 3)], [(104, some 0), (108, some 4)], [(8, none)], [(110, some 6)], [(109, some 5)], [(111, some 7)]] rfl (by kernel_rfl) (by kernel_rfl) (by kernel_rfl) ?_ [some 104, some 105, some 106, some 107, some 108, some 109, some 110, some 111, some 5, some 6] (by kernel_rfl) ?_
              · refine ⟨?_, ?_, ?_, ?_, ?_, ?_, ?_, ?_, ?_, ?_, trivial⟩
                · intro ax wx hx hs
                  obtain ⟨e5, -⟩ := hs
                  have g5 := Reg.ev (v := .slice Al nl cl) e5
                  exact Reg.obl_free rfl (Reg.wp_eqv (Option.some_ne_none _) (by go_simp) rfl)
                · intro ax wx hx hs
                  obtain ⟨e8, -⟩ := hs
                  have g8 := Reg.ev (v := .pointer (some ⟨wr.heap.size, 0, none⟩)) e8
                  exact Reg.obl_free rfl (Reg.wp_eqv (Option.some_ne_none _) (by go_simp) rfl)
                · intro ax wx hx hs
                  obtain ⟨e105, -⟩ := hs
                  have g105 := Reg.ev (v := .pointer (some ⟨wr.heap.size, 1, none⟩)) e105
                  have l0 := str6 (HS5.out.next hx)
                  exact Reg.obl_free rfl (Reg.wp_eqv (Option.some_ne_none _) (by go_simp) rfl)
                · intro ax wx hx hs
                  obtain ⟨e6, -⟩ := hs
                  have g6 := Reg.ev (v := .int .i64 (X.head)) e6
                  exact Reg.obl_free rfl (Reg.wp_eqv (Option.some_ne_none _) (by go_simp) rfl)
                · intro ax wx hx hs
                  obtain ⟨e106, e107, -⟩ := hs
                  have g106 := Reg.ev (v := .int .i64 no) e106
                  have g107 := Reg.ev (v := .int .i64 (X.head)) e107
                  refine Reg.obl_free rfl ?_
                  exact Reg.wp_eqv (Option.some_ne_none _) (by go_simp; rw [HJ.out]; exact IntWalk.i64_in _ (by omega)) rfl
                · intro ax wx hx hs
                  obtain ⟨e104, e108, -⟩ := hs
                  have g104 := Reg.ev (v := .slice Al nl cl) e104
                  have g108 := Reg.ev (v := .int .i64 (j : Int)) e108
                  exact Reg.obl_free rfl (Reg.wp_eqv (Option.some_ne_none _) (by go_simp) rfl)
                · intro ax wx hx hs
                  obtain ⟨e8, -⟩ := hs
                  have g8 := Reg.ev (v := .pointer (some ⟨wr.heap.size, 0, none⟩)) e8
                  exact Reg.obl_free rfl (Reg.wp_eqv (Option.some_ne_none _) (by go_simp) rfl)
                · intro ax wx hx hs
                  obtain ⟨e110, -⟩ := hs
                  have g110 := Reg.ev (v := .pointer (some ⟨wr.heap.size, 1, none⟩)) e110
                  have l0 := str6 (HS5.out.next hx)
                  exact Reg.obl_free rfl (Reg.wp_eqv (Option.some_ne_none _) (by go_simp) rfl)
                · intro ax wx hx hs
                  obtain ⟨e109, -⟩ := hs
                  have g109 := Reg.ev (v := .slice (cutA Al j cl 1) (nl - j) (cl - j)) e109
                  exact Reg.obl_free rfl (Reg.wp_eqv (Option.some_ne_none _) (by go_simp) rfl)
                · intro ax wx hx hs
                  obtain ⟨e111, -⟩ := hs
                  have g111 := Reg.ev (v := .int .i64 no) e111
                  exact Reg.obl_free rfl (Reg.wp_eqv (Option.some_ne_none _) (by go_simp) rfl)
              · intro W6 hwf
                simp only [Reg.Fin]
                rintro _ rfl _ rfl _ rfl _ rfl _ rfl _ rfl _ rfl _ rfl _ rfl _ rfl
                go_simp
                have hwf' : Below W5.heap.size W5 W6 := hwf
                have HKE := Lib.hid (HKE.out.next hwf')
                clear hwf hwf'
                go_wp2
                go_roundw
                case rel => exact ⟨k + 1, _, _, _, bs4, gl6, (DevP.done (DevP.freed X no)), by omega, rfl, rfl, by go_num, HKE⟩
                case measure => simp [intOf]; omega
            have hE4 : act < 5 := by omega
            have e1 : (act == 1) = false := by simpa using a1
            have e3 : (act == 3) = false := by simpa using a3
            have e5 : (act == 5) = false := by simpa using a5
            have e6 : (act == 6) = false := by simpa using a6
            have e4 : decide (4 < act) = false := by simp; omega
            obtain ⟨x1, x2, x3⟩ := HIV.out.go_else act no v bb a1 a3 a5 a6
            obtain ⟨h1, h2, h3, h4, h5, h6', h7⟩ := HT5.out none 0 0 none
            rw [← x1] at h1
            rw [← x2] at h2
            have HKE : Hid (Keeps w W5 d wb Al nl cl (k + 1) bs4 gl (DevP.go X act no v bb).1) := Lib.hid ⟨h7, h1, h2, HI5.out, h3, h4, HNW.out, HNG.out, h5, h6'⟩
            have HX3 := Lib.hid x3
            clear her a1 a3 a5 a6 x1 x2 x3 h1 h2 h3 h4 h5 h6' h7 hE4
            go_wp2
            go_roundw
            case rel => exact ⟨k + 1, nl, cl, Al, bs4, gl, _, by omega, rfl, by rw [HX3.out], by go_num, HKE⟩
            case measure => simp [intOf]; omega
          · have hdr : ((DevP.go X act no v bb).2 != 0) = true := by simpa using her
            have hX := HIV.out.go_no act no v bb her
            have hkk := HT5.out none 0 0 none
            rw [hX] at hkk
            obtain ⟨h1, h2, h3, h4, h5, h6', h7⟩ := hkk
            have HKE : Hid (Keeps w W5 d wb Al nl cl (k + 1) bs4 gl X) := Lib.hid ⟨h7, h1, h2, by have := HI5.out; rw [hX] at this; exact this, h3, h4, HNW.out, HNG.out, h5, h6'⟩
            clear her hX h1 h2 h3 h4 h5 h6' h7
            go_wp2
            go_roundw
            case rel => exact ⟨k + 1, nl, cl, Al, bs4, gl, X, by omega, rfl, rfl, by go_num, HKE⟩
            case measure => simp [intOf]; omega
      · have hd : decide ((k : Int) < (n : Int)) = false := by simpa using hlt
        have hkn : k ≤ 60 := by omega
        go_wp2_with fail
        go_loopw [11] (fun iv wq => ∃ (i : Nat) (bs2 : List Nat) (X2 : DevX), i ≤ 4 ∧ iv = .int .i64 (i : Int) ∧ Hid (Keeps w wq d wb Al nl cl (k + i) bs2 gl X2 ∧ X2.head = X.head)) (fun iv _ => 4 - (intOf iv).toNat)
        case atStart => exact ⟨0, bs, X, by omega, rfl, Lib.hid ⟨HK.out, rfl⟩⟩
        case round =>
          obtain ⟨i, bs2, X2, hi4, rfl, HQ⟩ := hrel
          have HKQ := Lib.hid HQ.out.1
          have HHQ := Lib.hid HQ.out.2
          clear HQ HK
          have hops : X2.ops ≤ 1000000000 := by have := HKQ.out.inv.ops; omega
          have hsml : DevP.Small X2 := HKQ.out.inv.small (by omega)
          have hwq := HKQ.out.bel.size
          by_cases hil : i < 4
          · have hdi : decide ((i : Int) < 4) = true := by simp; omega
            go_wp2_with fail
            refine (Read_any (i : Int) _ HKQ.out.dev hops).mono ?_
            rintro e W4 ⟨rfl, bs4, hd4, hn4, hk4⟩
            have hfit : fitsN X2 (i : Int) = true := by simp only [fitsN, HKQ.out.inv.n4]; simp; omega
            have herr : DevP.err X2 (fitsN X2 (i : Int)) = 0 := by rw [HKQ.out.inv.errs, hfit]; rfl
            have hop : DevP.op X2 (fitsN X2 (i : Int)) X2 = DevP.done X2 := HKQ.out.inv.op_yes hfit
            obtain ⟨q, hq⟩ : ∃ q, X2.now[i]? = some q := ⟨_, List.getElem?_eq_getElem (by rw [HKQ.out.dev.ok.nl, HKQ.out.inv.n4]; exact hil)⟩
            have hrd : DevP.read X2 (i : Int) (fitsN X2 (i : Int)) = q := by unfold DevP.read; rw [if_pos herr, show ((i : Int)).toNat = i from rfl, hq]; rfl
            have hq5 : q.length = 512 := HKQ.out.dev.ok.w1 q (List.mem_of_getElem? hq)
            rw [hop] at hd4
            rw [herr, hrd]
            have hi4' : DevP.Inv (DevP.done X2) (k + i + 1) := HKQ.out.inv.more HKQ.out.inv.n4 rfl rfl rfl (by omega) (by omega)
            obtain ⟨t1, t2, t3, t4, t5, t6⟩ := HKQ.out.turn hd4 hn4 hk4 hi4'
            obtain ⟨W5, hW5⟩ : ∃ W, (W4.alloc (.cells (rowV (SlotP.zeros 512)) 30)).setRow W4.heap.size (rowV q) = W := ⟨_, rfl⟩
            have hst5 := run_st (P := Try.prog) arrPage (Str.new W4 (rowV (SlotP.zeros 512)) 30) (by rw [rowV_size]; exact hz) hq5
            rw [hW5] at hst5
            have hb5 : Below W4.heap.size W4 W5 := by rw [← hW5]; exact below_setRow (balloc (bsame _) _) (Nat.le_refl _) _
            have HP5 : Hid (Str W5 W4.heap.size (rowV q)) := Lib.hid (by rw [← hW5]; exact (Str.new W4 _ _).setRow)
            have HKE : Hid (Keeps w W5 d wb Al nl cl (k + (i + 1)) bs4 gl (DevP.done X2)) := Lib.hid ⟨hd4.below hb5, t1.at_ (hb5.block _ t1.lt), t2.next hb5, hi4', bstep t3 hb5, t4, HKQ.out.nwb, HKQ.out.ngl, t5, t6⟩
            have HQI : Hid ((DevP.done X2).now[i]? = some q) := Lib.hid hq
            have hpl := HP5.out.lt
            have hwl5 := HKE.out.want.lt
            have hi0 : (0 : Int) ≤ (i : Int) := by omega
            have hi4i : (i : Int) < 4 := by omega
            have HHE : Hid ((DevP.done X2).head = X.head) := Lib.hid HHQ.out
            clear hW5 hb5 t1 t2 t3 t4 t5 t6 hd4 hn4 hk4 hi4' hfit herr hop hrd hq HKQ
            go_wp2_with fail
            refine Reg.wp_region_vals (R := ext) (W := W5) [Reg.eqv (.int .i64 0), Reg.eqv (.int .i64 0), Reg.eqv (.bool false), Reg.eqv (.bool false), Reg.eqv (.agg (rowV q)), Reg.eqv (.int .i64 ((i : Int))), Reg.eqv (.pointer (some ⟨wb, i * 512, none⟩)), Reg.eqv (.agg (rowV q)), Reg.eqv (.bool false), Reg.eqv (.bool false)] 154 [[(13, none)], [(122, some 0)], [(123, some 1)], [(124, some 2)], [(12, none), (125, some 3)], [(11, none), (125, some 3)], [(4, none), (127, some 5), (125, some 3)], [(128, some 6), (125, some 3)], [(126, some 4), (129, some 7), (125, some 3)], [(125, some 3), (130, some 8)]] rfl (by kernel_rfl) (by kernel_rfl) (by kernel_rfl) ?_ [some 122, some 123, some 124, some 125, some 126, some 127, some 128, some 129, some 130, some 131] (by kernel_rfl) ?_
            · refine ⟨?_, ?_, ?_, ?_, ?_, ?_, ?_, ?_, ?_, ?_, trivial⟩
              · intro ax wx hx hs
                obtain ⟨e13, -⟩ := hs
                have g13 := Reg.ev (v := .int .i64 0) e13
                exact Reg.obl_free rfl (Reg.wp_eqv (Option.some_ne_none _) (by go_simp) rfl)
              · intro ax wx hx hs
                obtain ⟨e122, -⟩ := hs
                have g122 := Reg.ev (v := .int .i64 0) e122
                refine Reg.obl_free rfl ?_
                go_simp
                refine (code_any 0 wx).mono ?_
                rintro r wy ⟨rfl, rfl⟩
                exact Reg.done (Option.some_ne_none _) rfl (bsame _)
              · intro ax wx hx hs
                obtain ⟨e123, -⟩ := hs
                have g123 := Reg.ev (v := .int .i64 0) e123
                exact Reg.obl_free rfl (Reg.wp_eqv (Option.some_ne_none _) (by go_simp) rfl)
              · intro ax wx hx hs
                obtain ⟨e124, -⟩ := hs
                have g124 := Reg.ev (v := .bool false) e124
                exact Reg.obl_free rfl (Reg.wp_eqv (Option.some_ne_none _) (by go_simp) rfl)
              · intro ax wx hx hs
                obtain ⟨e12, e125, -⟩ := hs
                have g12 := Reg.ev (v := .pointer (some ⟨W4.heap.size, 0, none⟩)) e12
                have g125 := Reg.ev (v := .bool false) e125
                refine Reg.obl_want rfl rfl e125 ?_
                have hld := run_ld (P := Try.prog) arrPage (HP5.out.next hx) hq5
                exact Reg.wp_eqv (Option.some_ne_none _) (by go_simp) rfl
              · intro ax wx hx hs
                obtain ⟨e11, e125, -⟩ := hs
                have g11 := Reg.ev (v := .int .i64 ((i : Int))) e11
                have g125 := Reg.ev (v := .bool false) e125
                exact Reg.obl_want rfl rfl e125 (Reg.wp_eqv (Option.some_ne_none _) (by go_simp) rfl)
              · intro ax wx hx hs
                obtain ⟨e4, e127, e125, -⟩ := hs
                have g4 := Reg.ev (v := .pointer (some ⟨wb, 0, none⟩)) e4
                have g127 := Reg.ev (v := .int .i64 ((i : Int))) e127
                have g125 := Reg.ev (v := .bool false) e125
                exact Reg.obl_want rfl rfl e125 (Reg.wp_eqv (Option.some_ne_none _) (by go_simp) rfl)
              · intro ax wx hx hs
                obtain ⟨e128, e125, -⟩ := hs
                have g128 := Reg.ev (v := .pointer (some ⟨wb, i * 512, none⟩)) e128
                have g125 := Reg.ev (v := .bool false) e125
                refine Reg.obl_want rfl rfl e125 ?_
                have hld := (HKE.out.want.at_ (hx.block wb hwl5)).load HQI.out
                exact Reg.wp_eqv (Option.some_ne_none _) (by go_simp) rfl
              · intro ax wx hx hs
                obtain ⟨e126, e129, e125, -⟩ := hs
                have g126 := Reg.ev (v := .agg (rowV q)) e126
                have g129 := Reg.ev (v := .agg (rowV q)) e129
                have g125 := Reg.ev (v := .bool false) e125
                refine Reg.obl_want rfl rfl e125 ?_
                have harr := run_arr_eq (P := Try.prog) arrPage q q hq5 hq5 wx
                rw [beq_self_eq_true] at harr
                exact Reg.wp_eqv (Option.some_ne_none _) (by go_simp) rfl
              · intro ax wx hx hs
                obtain ⟨e125, e130, -⟩ := hs
                have g125 := Reg.ev (v := .bool false) e125
                have g130 := Reg.ev (v := .bool false) e130
                exact Reg.obl_free rfl (Reg.wp_eqv (Option.some_ne_none _) (by go_simp) rfl)
            · intro W6 hwf
              simp only [Reg.Fin]
              rintro _ rfl _ rfl _ rfl _ rfl _ rfl _ rfl _ rfl _ rfl _ rfl _ rfl
              go_simp
              have hwf' : Below W5.heap.size W5 W6 := hwf
              have HKE6 := Lib.hid (HKE.out.next hwf')
              clear hwf hwf'
              go_wp2
              go_roundw
              case rel => exact ⟨i + 1, bs4, DevP.done X2, by omega, by go_num, Lib.hid ⟨HKE6.out, HHE.out⟩⟩
              case measure => simp [intOf]; omega
          · have hdi : decide ((i : Int) < 4) = false := by simp; omega
            go_wp2_with fail
            refine (Log_any _ HKQ.out.dev hsml).mono ?_
            rintro e W4 ⟨A9, n9, c9, gb9, rfl, hO9, -, hb9⟩
            have HK4 := Lib.hid (HKQ.out.next hb9)
            have HY9 := Lib.hid hO9.bytes
            have hnl9 := HK4.out.log.len
            clear hO9 hb9 HKQ
            go_wp2_with fail
            refine (Same.same_any _ _ _ _ _ _ _ _ _ _ W4 HY9.out HK4.out.log.bytes).mono ?_
            rintro e W5 ⟨rfl, rfl⟩
            rw [beq_self_eq_true]
            go_wp2_with fail
            refine (head_any W4 HK4.out.dev).mono ?_
            rintro e W6 ⟨rfl, hb6⟩
            rw [HHQ.out]
            have HK6 := Lib.hid (HK4.out.next hb6)
            clear HK4 hb6 HY9
            go_wp2_with fail
            refine (end_any W6 HK6.out.dev hsml).mono ?_
            rintro e W7 ⟨rfl, hb7⟩
            rw [HHQ.out, hnl9]
            have HK7 := Lib.hid (HK6.out.next hb7)
            clear HK6 hb7 hnl9
            have hnb2 : X.head + (nl : Int) ≤ 9223372036854775807 := by omega
            go_wp2_with fail
            refine (live_any W7).mono ?_
            rintro e W8 ⟨rfl, hb8⟩
            have HB8 := Lib.hid (bstep HK7.out.bel hb8)
            clear hb8 HK7
            go_wp2
            go_ret
            exact ⟨rfl, HB8.out⟩
theorem walk (v0 : Value) (a0 : List StepD) (w : World) (g0 : RStepsD w w.heap.size v0 a0) : Calls Try.prog 4 #[v0] w fun e w' => e = .returned (.bool true) ∧ Below w.heap.size w w' := by
  obtain ⟨A, n, c, rfl, hE⟩ := g0
  exact walk_main A n c a0 w hE
end Go.Proofs.Ytldgdgfplgdipaa.devLast
