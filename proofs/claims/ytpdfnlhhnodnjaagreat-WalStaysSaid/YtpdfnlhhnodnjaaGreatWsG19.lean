/-
  Parts of the proof of WalStays.
-/
import Derived.Test.YtpdfnlhhnodnjaaGreatWsG10
import Derived.Test.YtpdfnlhhnodnjaaGreatWsG13
import Derived.Test.YtpdfnlhhnodnjaaGreatWsG18
import Derived.Test.YtpdfnlhhnodnjaaGreatWsG4
import Derived.Test.YtpdfnlhhnodnjaaGreatWsG1
section
namespace Go.Proofs.YtpdfnlhhnodnjaaGreat.SlotGet
open Go.RowKit
attribute [local go_sem ↓] al64_fold ld64_fold st64_fold bd64_fold sl64_fold cp_fold

theorem row_at (l : List UInt8) (i : Nat) (h : i < l.length) : (rowV l)[i]? = some (.int .u8 ((l.getD i 0).toNat : Int)) := by
  rw [rowV_get, List.getElem?_eq_getElem h]
  simp [byteV, List.getD, List.getElem?_eq_getElem h]
theorem get_big (l : List UInt8) (h : l ≠ SlotP.zeros 64) (hb : SlotP.good l = false) : SlotP.get l = (SlotP.none, 12) := by
  unfold SlotP.get
  rw [if_neg h, if_neg (by rw [hb]; simp)]
/-- and its bytes lie where nothing was before -/
def NewItem (w : World) (r : Item × Int) (e : Ending) (w' : World) : Prop := ∃ A n cap, e = .returned (.tuple #[.agg #[.int .i64 r.1.state, .string r.1.key, .int .i64 r.1.cell.kind, .slice A n cap, .int .i64 r.1.cell.lo, .int .i64 r.1.cell.hi, .int .i64 r.1.cell.val], .int .i64 r.2]) ∧
  (Bytes w' w'.heap.size A n cap r.1.cell.data ∧ ∀ a, A = some a → w.heap.size ≤ a.block) ∧ Below w.heap.size w w'
theorem NewItem.got {w w' : World} {r : Item × Int} {e : Ending} (h : NewItem w r e w') : GotItem w r e w' := by
  obtain ⟨A, n, c, h1, h2, h3⟩ := h
  exact ⟨A, n, c, h1, h2.1, h3⟩
theorem got_none (w : World) (k : Int) (w' : World) (h : Below w.heap.size w w') : NewItem w (SlotP.none, k) (.returned (.tuple #[.agg #[.int .i64 0, .string ⟨#[]⟩, .int .i64 0, .slice none 0 0, .int .i64 0, .int .i64 0, .int .i64 0], .int .i64 k])) w' := ⟨none, 0, 0, rfl, ⟨Bytes.none_ _ _, fun a e => by cases e⟩, h⟩

set_option maxRecDepth 100000 in
set_option maxHeartbeats 1000000 in
theorem get_zero (w : World) : Calls Tryz.prog 108 #[.agg (rowV (SlotP.zeros 64))] w (NewItem w (SlotP.none, 0)) := by
  obtain ⟨l, hl⟩ : ∃ l, SlotP.zeros 64 = l := ⟨_, rfl⟩
  have hl64 : l.length = 64 := by rw [← hl]; exact SlotPut.zeros_len 64
  have hS : Str ((w.alloc (.cells (rowV l) 118)).alloc (.cells #[.int .i64 0, .string ⟨#[]⟩, .int .i64 0, .slice none 0 0, .int .i64 0, .int .i64 0, .int .i64 0] 36)) w.heap.size (rowV l) := (Str.new w (rowV l) 118).alloc _
  have hld := run_ld (P := Tryz.prog) arr64 hS hl64
  have hbd := fun W => run_bd (P := Tryz.prog) arr64 W
  have harr := fun W => run_arr_eq (P := Tryz.prog) arr64 l l hl64 hl64 W
  have hgd := arr64.guard
  have hself : (l == l) = true := by simp
  rw [hl] at hbd ⊢
  rw [hself] at harr
  clear hl hS hself hl64
  go_enter Tryz.func108, Tryz.ntmps108
  go_wp2
  refine bodyPost_ret (v := .tuple #[.agg #[.int .i64 0, .string ⟨#[]⟩, .int .i64 0, .slice none 0 0, .int .i64 0, .int .i64 0, .int .i64 0], .int .i64 0]) ?_ rfl ?_
  · simp [results, Tryz.results108, go_sem]
  · exact got_none _ _ _ (balloc (balloc (bsame w) _) _)

set_option maxRecDepth 100000 in
set_option maxHeartbeats 1000000 in
theorem get_long (l : List UInt8) (hl : l.length = 64) (hz : l ≠ SlotP.zeros 64) (m : Nat) (hm : (l.getD 1 0).toNat = m) (hm16 : 16 < m) (w : World) : Calls Tryz.prog 108 #[.agg (rowV l)] w (NewItem w (SlotP.none, 12)) := by
  have hS : Str ((w.alloc (.cells (rowV l) 118)).alloc (.cells #[.int .i64 0, .string ⟨#[]⟩, .int .i64 0, .slice none 0 0, .int .i64 0, .int .i64 0, .int .i64 0] 36)) w.heap.size (rowV l) := (Str.new w (rowV l) 118).alloc _
  have hld := run_ld (P := Tryz.prog) arr64 hS hl
  have hbd := fun W => run_bd (P := Tryz.prog) arr64 W
  have harr := fun W => run_arr_eq (P := Tryz.prog) arr64 l (SlotP.zeros 64) hl (SlotPut.zeros_len 64) W
  have hgd := arr64.guard
  have hne : (l == SlotP.zeros 64) = false := by simpa using hz
  rw [hne] at harr
  have hm8 : m < 256 := by rw [← hm]; exact (l.getD 1 0).toNat_lt
  have hc1 := row_at l 1 (by omega)
  rw [hm] at hc1
  clear hS hne hm hz hl
  go_enter Tryz.func108, Tryz.ntmps108
  go_wp2
  refine bodyPost_ret (v := .tuple #[.agg #[.int .i64 0, .string ⟨#[]⟩, .int .i64 0, .slice none 0 0, .int .i64 0, .int .i64 0, .int .i64 0], .int .i64 12]) ?_ rfl ?_
  · simp [results, Tryz.results108, go_sem]
  · exact got_none _ _ _ (balloc (balloc (bsame w) _) _)

set_option maxRecDepth 100000 in
set_option maxHeartbeats 2000000 in
theorem get_rest (l : List UInt8) (hl : l.length = 64) (hz : l ≠ SlotP.zeros 64) (m : Nat) (hm : (l.getD 1 0).toNat = m) (hm16 : m ≤ 16) (w : World) : Calls Tryz.prog 108 #[.agg (rowV l)] w (NewItem w (SlotP.get l)) := by
  have hS : Str ((w.alloc (.cells (rowV l) 118)).alloc (.cells #[.int .i64 0, .string ⟨#[]⟩, .int .i64 0, .slice none 0 0, .int .i64 0, .int .i64 0, .int .i64 0] 36)) w.heap.size (rowV l) := (Str.new w (rowV l) 118).alloc _
  have hld := run_ld (P := Tryz.prog) arr64 hS hl
  have hbd := fun W => run_bd (P := Tryz.prog) arr64 W
  have harr := fun W => run_arr_eq (P := Tryz.prog) arr64 l (SlotP.zeros 64) hl (SlotPut.zeros_len 64) W
  have hgd := arr64.guard
  have hne : (l == SlotP.zeros 64) = false := by simpa using hz
  rw [hne] at harr
  have hc1 := row_at l 1 (by omega)
  have HC0 := Lib.hid (row_at l 0 (by omega))
  rw [hm] at hc1
  have HL := Lib.hid hl
  have HM := Lib.hid hm
  have HZ := Lib.hid hz
  clear hS hne hm hz hl
  go_enter Tryz.func108, Tryz.ntmps108
  go_wp2_with fail
  generalize hW0 : ((w).alloc (.cells (rowV l) 118)).alloc (.cells #[.int .i64 0, .string ⟨#[]⟩, .int .i64 0, .slice none 0 0, .int .i64 0, .int .i64 0, .int .i64 0] 36) = W0
  have HS0_0 : Hid (Str W0 (w.heap.size) (rowV l)) := Lib.hid (by rw [← hW0]; have := (Str.new (w) (rowV l) 118).alloc (.cells #[.int .i64 0, .string ⟨#[]⟩, .int .i64 0, .slice none 0 0, .int .i64 0, .int .i64 0, .int .i64 0] 36); simpa using this)
  have HS1_0 : Hid (Str W0 (w.heap.size + 1) #[.int .i64 0, .string ⟨#[]⟩, .int .i64 0, .slice none 0 0, .int .i64 0, .int .i64 0, .int .i64 0]) := Lib.hid (by rw [← hW0]; have := Str.new ((w).alloc (.cells (rowV l) 118)) #[.int .i64 0, .string ⟨#[]⟩, .int .i64 0, .slice none 0 0, .int .i64 0, .int .i64 0, .int .i64 0] 36; simpa using this)
  have HB_0 : Hid (Below w.heap.size w W0) := Lib.hid (by rw [← hW0]; exact balloc (balloc (bsame w) _) _)
  have hw_0 := HB_0.out.size
  clear hW0
  have hl0_0 := HS0_0.out.lt
  obtain ⟨f1_0_0, f1_0_1, f1_0_2, f1_0_3, f1_0_4, f1_0_5, f1_0_6⟩ := str7 HS1_0.out
  have hl1_0 := HS1_0.out.lt
  clear hld hbd harr hc1
  have hb0 : W0.cell? ⟨w.heap.size, 0, none⟩ = some (.int .u8 ((l.getD 0 0).toNat : Int)) := by rw [HS0_0.out.cell, HC0.out]
  have hzb : (l.getD 0 0).toNat < 256 := (l.getD 0 0).toNat_lt
  obtain ⟨z, hzz⟩ : ∃ z, (l.getD 0 0).toNat = z := ⟨_, rfl⟩
  rw [hzz] at hb0 hzb
  have HZZ := Lib.hid hzz
  clear hzz
  have hsl : ∀ W, (slSem 118 (.pointer (some ⟨w.heap.size, 0, none⟩)) (some (.int .i64 2)) (some (.int .i64 (2 + (m : Int)))) none).run Tryz.prog W = .ok (.slice (some ⟨w.heap.size, 2, none⟩) m 62) W := by
    intro W
    have := run_sl (P := Tryz.prog) arr64 w.heap.size 2 (2 + m) (by omega) (by omega) (by omega) W
    rw [show ((2 + m : Nat) : Int) = 2 + (m : Int) by omega, show 2 + m - 2 = m by omega] at this
    exact this
  refine Reg.wp_region_tail (R := ext) (W := W0) [Reg.eqv (.pointer (some ⟨w.heap.size, 0, none⟩)), Reg.eqv (.int .u8 (z : Int)), Reg.eqv (.int .i64 (z : Int)), Reg.eqv (.int .i64 (m : Int)), Reg.eqv (.int .i64 (2 + (m : Int))), Reg.eqv (.slice (some ⟨w.heap.size, 2, none⟩) m 62), Reg.eqv (.string (SlotP.text ((l.drop 2).take m))), Reg.eqv (.agg #[.int .i64 (z : Int), .string (SlotP.text ((l.drop 2).take m)), .int .i64 0, .slice none 0 0, .int .i64 0, .int .i64 0, .int .i64 0]), Reg.fresh W0.heap.size #[.int .i64 0, .string ⟨#[]⟩, .int .i64 0, .slice none 0 0, .int .i64 0, .int .i64 0, .int .i64 0]] 51 9 _ [[(1, none)], [(19, some 0)], [(20, some 1)], [(4, none)], [(22, some 3)], [(1, none), (23, some 4)], [(24, some 5)], [(21, some 2), (25, some 6)], []] rfl (by kernel_rfl) (by kernel_rfl) (by rfl) (by rfl) rfl (by kernel_rfl) ?_ [some 19, some 20, some 21, some 22, some 23, some 24, some 25, some 26, some 5] (by kernel_rfl) ?_
  · refine ⟨?_, ?_, ?_, ?_, ?_, ?_, ?_, ?_, ?_, trivial⟩
    · intro ax wx hx hs
      obtain ⟨e1, -⟩ := hs
      have g1 := Reg.ev (v := .pointer (some ⟨w.heap.size, 0, none⟩)) e1
      exact Reg.obl_free rfl (Reg.wp_eqv (Option.some_ne_none _) (by go_simp) rfl)
    · intro ax wx hx hs
      obtain ⟨e19, -⟩ := hs
      have g19 := Reg.ev (v := .pointer (some ⟨w.heap.size, 0, none⟩)) e19
      obtain ⟨hc, -⟩ := bcell hx
      exact Reg.obl_free rfl (Reg.wp_eqv (Option.some_ne_none _) (by go_simp) rfl)
    · intro ax wx hx hs
      obtain ⟨e20, -⟩ := hs
      have g20 := Reg.ev (v := .int .u8 (z : Int)) e20
      refine Reg.obl_free rfl ?_
      exact Reg.wp_eqv (Option.some_ne_none _) (by go_simp; exact IntWalk.i64_in _ (by omega)) rfl
    · intro ax wx hx hs
      obtain ⟨e4, -⟩ := hs
      have g4 := Reg.ev (v := .int .i64 (m : Int)) e4
      exact Reg.obl_free rfl (Reg.wp_eqv (Option.some_ne_none _) (by go_simp) rfl)
    · intro ax wx hx hs
      obtain ⟨e22, -⟩ := hs
      have g22 := Reg.ev (v := .int .i64 (m : Int)) e22
      refine Reg.obl_free rfl ?_
      exact Reg.wp_eqv (Option.some_ne_none _) (by go_simp; exact IntWalk.i64_in _ (by omega)) rfl
    · intro ax wx hx hs
      obtain ⟨e1, e23, -⟩ := hs
      have g1 := Reg.ev (v := .pointer (some ⟨w.heap.size, 0, none⟩)) e1
      have g23 := Reg.ev (v := .int .i64 (2 + (m : Int))) e23
      exact Reg.obl_free rfl (Reg.wp_eqv (Option.some_ne_none _) (by go_simp) rfl)
    · intro ax wx hx hs
      obtain ⟨e24, -⟩ := hs
      have g24 := Reg.ev (v := .slice (some ⟨w.heap.size, 2, none⟩) m 62) e24
      refine Reg.obl_free rfl ?_
      have hx' : Below W0.heap.size W0 wx := hx
      have hcv := run_str (P := Tryz.prog) 32 9 5 Tryz.underlying32 Tryz.underlying5 Tryz.underlying9 ((HS0_0.out.next hx').part 2 m 62 (by rw [HL.out]; omega) (by omega) (by unfold maxLen; omega))
      exact Reg.wp_eqv (Option.some_ne_none _) (by go_simp; rfl) rfl
    · intro ax wx hx hs
      obtain ⟨e21, e25, -⟩ := hs
      have g21 := Reg.ev (v := .int .i64 (z : Int)) e21
      have g25 := Reg.ev (v := .string (SlotP.text ((l.drop 2).take m))) e25
      exact Reg.obl_free rfl (Reg.wp_eqv (Option.some_ne_none _) (by go_simp) rfl)
    · intro ax wx hx hs
      refine Reg.obl_free rfl ?_
      have hx' : Below W0.heap.size W0 wx := hx
      go_simp
      exact Reg.done (Option.some_ne_none _) ⟨wx.heap.size, rfl, hx'.size, Str.new wx _ _⟩ (balloc (bsame wx) _)
  · intro W1 hwf
    simp only [Reg.Fin]
    rintro _ rfl _ rfl _ rfl _ rfl _ rfl _ rfl _ rfl _ rfl v5 h5
    obtain ⟨g, rfl, hg, hSg⟩ := h5
    have hwf' : Below W0.heap.size W0 W1 := hwf
    have hsl2 : ∀ W, (slSem 118 (.pointer (some ⟨w.heap.size, 0, none⟩)) (some (.int .i64 (2 + (m : Int)))) none none).run Tryz.prog W = .ok (.slice (some ⟨w.heap.size, 2 + m, none⟩) (64 - (2 + m)) (64 - (2 + m))) W := by
      intro W
      have := run_sl_from (P := Tryz.prog) arr64 w.heap.size (2 + m) (by omega) W
      rwa [show ((2 + m : Nat) : Int) = 2 + (m : Int) by omega] at this
    clear hsl hb0
    have HS2_1 := Lib.hid hSg
    clear hSg
    have HS0_1 := Lib.hid (HS0_0.out.next hwf')
    have HS1_1 := Lib.hid (HS1_0.out.next hwf')
    have HB_1 := Lib.hid (bstep HB_0.out hwf')
    have hw_1 := HB_1.out.size
    have hws_1 := (hwf').size
    clear HS0_0 f1_0_0 f1_0_1 f1_0_2 f1_0_3 f1_0_4 f1_0_5 f1_0_6 HS1_0
    clear hwf'
    have hl0_1 := HS0_1.out.lt
    obtain ⟨f1_1_0, f1_1_1, f1_1_2, f1_1_3, f1_1_4, f1_1_5, f1_1_6⟩ := str7 HS1_1.out
    have hl1_1 := HS1_1.out.lt
    obtain ⟨f2_1_0, f2_1_1, f2_1_2, f2_1_3, f2_1_4, f2_1_5, f2_1_6⟩ := str7 HS2_1.out
    have hl2_1 := HS2_1.out.lt
    have hf2_1 := fun j => HS2_1.out.frozen j
    have hf1_1 := fun j => HS1_1.out.frozen j
    refine Reg.Goal.mk ?_
    go_simp
    go_wp2_with fail
    generalize hW2 : (((((((W1).setCell ⟨g, 0, none⟩ (.int .i64 (z : Int))).setCell ⟨g, 1, none⟩ (.string (SlotP.text ((l.drop 2).take m)))).setCell ⟨g, 2, none⟩ (.int .i64 0)).setCell ⟨g, 3, none⟩ (.slice none 0 0)).setCell ⟨g, 4, none⟩ (.int .i64 0)).setCell ⟨g, 5, none⟩ (.int .i64 0)).setCell ⟨g, 6, none⟩ (.int .i64 0) = W2
    have HS0_2 : Hid (Str W2 (w.heap.size) (rowV l)) := Lib.hid (by rw [← hW2]; exact (((((((HS0_1.out).other 0 _ (by omega)).other 1 _ (by omega)).other 2 _ (by omega)).other 3 _ (by omega)).other 4 _ (by omega)).other 5 _ (by omega)).other 6 _ (by omega))
    have HS1_2 : Hid (Str W2 (w.heap.size + 1) #[.int .i64 0, .string ⟨#[]⟩, .int .i64 0, .slice none 0 0, .int .i64 0, .int .i64 0, .int .i64 0]) := Lib.hid (by rw [← hW2]; exact (((((((HS1_1.out).other 0 _ (by omega)).other 1 _ (by omega)).other 2 _ (by omega)).other 3 _ (by omega)).other 4 _ (by omega)).other 5 _ (by omega)).other 6 _ (by omega))
    have HS2_2 : Hid (Str W2 (g) #[.int .i64 (z : Int), .string (SlotP.text ((l.drop 2).take m)), .int .i64 0, .slice none 0 0, .int .i64 0, .int .i64 0, .int .i64 0]) := Lib.hid (by rw [← hW2]; have := (((((((HS2_1.out).set 0 (.int .i64 (z : Int))).set 1 (.string (SlotP.text ((l.drop 2).take m)))).set 2 (.int .i64 0)).set 3 (.slice none 0 0)).set 4 (.int .i64 0)).set 5 (.int .i64 0)).set 6 (.int .i64 0); simpa using this)
    have hgr2 : W1.grownBy W2 (some (g)) := by rw [← hW2]; exact grown_set (grown_set (grown_set (grown_set (grown_set (grown_set (grown_set (grown_refl W1 (g)) 0 (.int .i64 (z : Int))) 1 (.string (SlotP.text ((l.drop 2).take m)))) 2 (.int .i64 0)) 3 (.slice none 0 0)) 4 (.int .i64 0)) 5 (.int .i64 0)) 6 (.int .i64 0)
    have HB_2 := Lib.hid (below_grown HB_1.out hgr2 (by omega))
    have hw_2 := HB_2.out.size
    have hws_2 := hgr2.size
    clear hW2
    clear HS0_1 f1_1_0 f1_1_1 f1_1_2 f1_1_3 f1_1_4 f1_1_5 f1_1_6 HS1_1 hf1_1 f2_1_0 f2_1_1 f2_1_2 f2_1_3 f2_1_4 f2_1_5 f2_1_6 HS2_1 hf2_1
    clear hgr2
    have hl0_2 := HS0_2.out.lt
    obtain ⟨f1_2_0, f1_2_1, f1_2_2, f1_2_3, f1_2_4, f1_2_5, f1_2_6⟩ := str7 HS1_2.out
    have hl1_2 := HS1_2.out.lt
    have hf1_2 := fun j => HS1_2.out.frozen j
    obtain ⟨f2_2_0, f2_2_1, f2_2_2, f2_2_3, f2_2_4, f2_2_5, f2_2_6⟩ := str7 HS2_2.out
    have hl2_2 := HS2_2.out.lt
    have hf2_2 := fun j => HS2_2.out.frozen j
    have hpart := HS0_2.out.part (2 + m) (64 - (2 + m)) (64 - (2 + m)) (by rw [HL.out]; omega) (Nat.le_refl _) (by unfold maxLen; omega)
    rw [List.take_of_length_le (by rw [List.length_drop, HL.out]; omega)] at hpart
    refine (CellGet.get_new _ _ _ _ _ _ hpart (Nat.le_refl _)).mono ?_
    rintro e W3 ⟨A1, n1, c1, rfl, ⟨hy1, hnew1⟩, hb3⟩
    have HNW1 : Hid (∀ a, A1 = some a → w.heap.size ≤ a.block) := Lib.hid (fun a e => Nat.le_trans HB_2.out.size (hnew1 a e))
    clear hnew1
    generalize hcg : CellP.get (l.drop (2 + m)) = r at *
    obtain ⟨⟨ck, cd, clo, chi, cv⟩, cn, ce⟩ := r
    have HCG := Lib.hid hcg
    clear hcg hpart hsl2
    dsimp only at *
    have HY3 := Lib.hid hy1
    clear hy1
    have HS0_3 := Lib.hid (HS0_2.out.next hb3)
    have HS1_3 := Lib.hid (HS1_2.out.next hb3)
    have HS2_3 := Lib.hid (HS2_2.out.next hb3)
    have HB_3 := Lib.hid (bstep HB_2.out hb3)
    have hw_3 := HB_3.out.size
    have hws_3 := (hb3).size
    clear HS0_2 f1_2_0 f1_2_1 f1_2_2 f1_2_3 f1_2_4 f1_2_5 f1_2_6 HS1_2 hf1_2 f2_2_0 f2_2_1 f2_2_2 f2_2_3 f2_2_4 f2_2_5 f2_2_6 HS2_2 hf2_2
    clear hb3
    have hl0_3 := HS0_3.out.lt
    obtain ⟨f1_3_0, f1_3_1, f1_3_2, f1_3_3, f1_3_4, f1_3_5, f1_3_6⟩ := str7 HS1_3.out
    have hl1_3 := HS1_3.out.lt
    have hf1_3 := fun j => HS1_3.out.frozen j
    obtain ⟨f2_3_0, f2_3_1, f2_3_2, f2_3_3, f2_3_4, f2_3_5, f2_3_6⟩ := str7 HS2_3.out
    have hl2_3 := HS2_3.out.lt
    have hf2_3 := fun j => HS2_3.out.frozen j
    by_cases hce : ce = 0
    · subst hce
      have HSEEM : Hid (SlotP.seem l = ⟨(z : Int), (SlotP.text ((l.drop 2).take m)), ⟨ck, cd, clo, chi, cv⟩⟩) := Lib.hid (by unfold SlotP.seem; rw [HM.out, HCG.out, HZZ.out])
      have hks : ((SlotP.text ((l.drop 2).take m))).size = m := by show ((l.drop 2).take m).toArray.size = m; simp [HL.out]; omega
      have HKS : Hid (((SlotP.text ((l.drop 2).take m))).size ≤ maxLen) := Lib.hid (by rw [hks]; unfold maxLen; omega)
      clear hks
      go_wp2_with fail
      generalize hW4 : (((((W3).setCell ⟨g, 2, none⟩ (.int .i64 ck)).setCell ⟨g, 3, none⟩ (.slice A1 n1 c1)).setCell ⟨g, 4, none⟩ (.int .i64 clo)).setCell ⟨g, 5, none⟩ (.int .i64 chi)).setCell ⟨g, 6, none⟩ (.int .i64 cv) = W4
      have HS0_4 : Hid (Str W4 (w.heap.size) (rowV l)) := Lib.hid (by rw [← hW4]; exact (((((HS0_3.out).other 2 _ (by omega)).other 3 _ (by omega)).other 4 _ (by omega)).other 5 _ (by omega)).other 6 _ (by omega))
      have HS1_4 : Hid (Str W4 (w.heap.size + 1) #[.int .i64 0, .string ⟨#[]⟩, .int .i64 0, .slice none 0 0, .int .i64 0, .int .i64 0, .int .i64 0]) := Lib.hid (by rw [← hW4]; exact (((((HS1_3.out).other 2 _ (by omega)).other 3 _ (by omega)).other 4 _ (by omega)).other 5 _ (by omega)).other 6 _ (by omega))
      have HS2_4 : Hid (Str W4 (g) #[.int .i64 (z : Int), .string (SlotP.text ((l.drop 2).take m)), .int .i64 ck, .slice A1 n1 c1, .int .i64 clo, .int .i64 chi, .int .i64 cv]) := Lib.hid (by rw [← hW4]; have := (((((HS2_3.out).set 2 (.int .i64 ck)).set 3 (.slice A1 n1 c1)).set 4 (.int .i64 clo)).set 5 (.int .i64 chi)).set 6 (.int .i64 cv); simpa using this)
      have hgr4 : W3.grownBy W4 (some (g)) := by rw [← hW4]; exact grown_set (grown_set (grown_set (grown_set (grown_set (grown_refl W3 (g)) 2 (.int .i64 ck)) 3 (.slice A1 n1 c1)) 4 (.int .i64 clo)) 5 (.int .i64 chi)) 6 (.int .i64 cv)
      have HB_4 := Lib.hid (below_grown HB_3.out hgr4 (by omega))
      have hw_4 := HB_4.out.size
      have hws_4 := hgr4.size
      have HY4 : Hid (Bytes W4 W4.heap.size A1 n1 c1 cd) := Lib.hid ((Bytes.grown HY3.out (Nat.le_refl _) HS2_3.out rfl hgr4).more hws_4)
      clear hW4
      clear HS0_3 f1_3_0 f1_3_1 f1_3_2 f1_3_3 f1_3_4 f1_3_5 f1_3_6 HS1_3 hf1_3 f2_3_0 f2_3_1 f2_3_2 f2_3_3 f2_3_4 f2_3_5 f2_3_6 HS2_3 hf2_3
      clear hgr4
      have hl0_4 := HS0_4.out.lt
      obtain ⟨f1_4_0, f1_4_1, f1_4_2, f1_4_3, f1_4_4, f1_4_5, f1_4_6⟩ := str7 HS1_4.out
      have hl1_4 := HS1_4.out.lt
      have hf1_4 := fun j => HS1_4.out.frozen j
      obtain ⟨f2_4_0, f2_4_1, f2_4_2, f2_4_3, f2_4_4, f2_4_5, f2_4_6⟩ := str7 HS2_4.out
      have hl2_4 := HS2_4.out.lt
      have hf2_4 := fun j => HS2_4.out.frozen j
      generalize hW5 : W4.alloc (.cells #[.int .i64 ck, .slice A1 n1 c1, .int .i64 clo, .int .i64 chi, .int .i64 cv] 34) = W5
      have hba5 : Below W4.heap.size W4 W5 := by rw [← hW5]; exact balloc (bsame _) _
      clear hW5
      have HS0_5 := Lib.hid (HS0_4.out.next hba5)
      have HS1_5 := Lib.hid (HS1_4.out.next hba5)
      have HS2_5 := Lib.hid (HS2_4.out.next hba5)
      have HB_5 := Lib.hid (bstep HB_4.out hba5)
      have hw_5 := HB_5.out.size
      have hws_5 := (hba5).size
      clear HS0_4 f1_4_0 f1_4_1 f1_4_2 f1_4_3 f1_4_4 f1_4_5 f1_4_6 HS1_4 hf1_4 f2_4_0 f2_4_1 f2_4_2 f2_4_3 f2_4_4 f2_4_5 f2_4_6 HS2_4 hf2_4
      have hl0_5 := HS0_5.out.lt
      obtain ⟨f1_5_0, f1_5_1, f1_5_2, f1_5_3, f1_5_4, f1_5_5, f1_5_6⟩ := str7 HS1_5.out
      have hl1_5 := HS1_5.out.lt
      have hf1_5 := fun j => HS1_5.out.frozen j
      obtain ⟨f2_5_0, f2_5_1, f2_5_2, f2_5_3, f2_5_4, f2_5_5, f2_5_6⟩ := str7 HS2_5.out
      have hl2_5 := HS2_5.out.lt
      have hf2_5 := fun j => HS2_5.out.frozen j
      have HY5 := Lib.hid (HY4.out.next hba5)
      clear hba5
      cases hr : SlotP.right ⟨(z : Int), (SlotP.text ((l.drop 2).take m)), ⟨ck, cd, clo, chi, cv⟩⟩
      · have HR := Lib.hid hr
        clear hr
        have HG : Hid (SlotP.get l = (SlotP.none, 12)) := Lib.hid (get_big l HZ.out (by unfold SlotP.good; rw [HSEEM.out, HR.out]; simp))
        refine Reg.wp_region_vals (R := ext) (W := W5) [Reg.eqv (.agg #[.int .i64 (z : Int), .string (SlotP.text ((l.drop 2).take m)), .int .i64 ck, .slice A1 n1 c1, .int .i64 clo, .int .i64 chi, .int .i64 cv]), Reg.eqv (.int .i64 1), Reg.eqv (.bool true), Reg.eqv (.bool true), Reg.eqv undef, Reg.eqv undef, Reg.eqv undef, Reg.eqv undef, Reg.eqv (.bool true)] 51 [[(5, none)], [(40, some 0)], [(41, some 1)], [(42, some 2)], [(5, none), (43, some 3)], [(44, some 4), (43, some 3)], [(1, none), (43, some 3)], [(45, some 5), (46, some 6), (43, some 3)], [(43, some 3), (47, some 7)]] rfl (by kernel_rfl) (by kernel_rfl) (by kernel_rfl) ?_ [some 40, some 41, some 42, some 43, some 44, some 45, some 46, some 47, some 48] (by kernel_rfl) ?_
        · refine ⟨?_, ?_, ?_, ?_, ?_, ?_, ?_, ?_, ?_, trivial⟩
          · intro ax wx hx hs
            obtain ⟨e5, -⟩ := hs
            have g5 := Reg.ev (v := .pointer (some ⟨g, 0, none⟩)) e5
            obtain ⟨hc, -⟩ := bcell hx
            exact Reg.obl_free rfl (Reg.wp_eqv (Option.some_ne_none _) (by go_simp) rfl)
          · intro ax wx hx hs
            obtain ⟨e40, -⟩ := hs
            have g40 := Reg.ev (v := .agg #[.int .i64 (z : Int), .string (SlotP.text ((l.drop 2).take m)), .int .i64 ck, .slice A1 n1 c1, .int .i64 clo, .int .i64 chi, .int .i64 cv]) e40
            refine Reg.obl_free rfl ?_
            have hx' : Below W5.heap.size W5 wx := hx
            go_simp
            refine (SlotW.check_any A1 n1 c1 W5.heap.size ⟨(z : Int), (SlotP.text ((l.drop 2).take m)), ⟨ck, cd, clo, chi, cv⟩⟩ _ (HY5.out.below hx') hx'.size HKS.out).mono ?_
            rintro e wy ⟨rfl, hby⟩
            rw [HR.out]
            exact Reg.done (Option.some_ne_none _) rfl hby
          · intro ax wx hx hs
            obtain ⟨e41, -⟩ := hs
            have g41 := Reg.ev (v := .int .i64 1) e41
            exact Reg.obl_free rfl (Reg.wp_eqv (Option.some_ne_none _) (by go_simp) rfl)
          · intro ax wx hx hs
            obtain ⟨e42, -⟩ := hs
            have g42 := Reg.ev (v := .bool true) e42
            exact Reg.obl_free rfl (Reg.wp_eqv (Option.some_ne_none _) (by go_simp) rfl)
          · intro ax wx hx hs
            obtain ⟨e5, e43, -⟩ := hs
            have g5 := Reg.ev (v := .pointer (some ⟨g, 0, none⟩)) e5
            have g43 := Reg.ev (v := .bool true) e43
            exact Reg.obl_skip rfl rfl e43 rfl rfl
          · intro ax wx hx hs
            obtain ⟨e44, e43, -⟩ := hs
            have g44 := Reg.ev (v := undef) e44
            have g43 := Reg.ev (v := .bool true) e43
            exact Reg.obl_skip rfl rfl e43 rfl rfl
          · intro ax wx hx hs
            obtain ⟨e1, e43, -⟩ := hs
            have g1 := Reg.ev (v := .pointer (some ⟨w.heap.size, 0, none⟩)) e1
            have g43 := Reg.ev (v := .bool true) e43
            exact Reg.obl_skip rfl rfl e43 rfl rfl
          · intro ax wx hx hs
            obtain ⟨e45, e46, e43, -⟩ := hs
            have g45 := Reg.ev (v := undef) e45
            have g46 := Reg.ev (v := undef) e46
            have g43 := Reg.ev (v := .bool true) e43
            exact Reg.obl_skip rfl rfl e43 rfl rfl
          · intro ax wx hx hs
            obtain ⟨e43, e47, -⟩ := hs
            have g43 := Reg.ev (v := .bool true) e43
            have g47 := Reg.ev (v := undef) e47
            exact Reg.obl_free rfl (Reg.wp_eqv (Option.some_ne_none _) (by go_simp) rfl)
        · intro W6 hwf
          simp only [Reg.Fin]
          rintro _ rfl _ rfl _ rfl _ rfl _ rfl _ rfl _ rfl _ rfl _ rfl
          go_simp
          have HS0_6 := Lib.hid (HS0_5.out.next hwf)
          have HS1_6 := Lib.hid (HS1_5.out.next hwf)
          have HS2_6 := Lib.hid (HS2_5.out.next hwf)
          have HB_6 := Lib.hid (bstep HB_5.out hwf)
          have hw_6 := HB_6.out.size
          have hws_6 := (hwf).size
          clear HS0_5 f1_5_0 f1_5_1 f1_5_2 f1_5_3 f1_5_4 f1_5_5 f1_5_6 HS1_5 hf1_5 f2_5_0 f2_5_1 f2_5_2 f2_5_3 f2_5_4 f2_5_5 f2_5_6 HS2_5 hf2_5
          clear hwf
          have hl0_6 := HS0_6.out.lt
          obtain ⟨f1_6_0, f1_6_1, f1_6_2, f1_6_3, f1_6_4, f1_6_5, f1_6_6⟩ := str7 HS1_6.out
          have hl1_6 := HS1_6.out.lt
          have hf1_6 := fun j => HS1_6.out.frozen j
          obtain ⟨f2_6_0, f2_6_1, f2_6_2, f2_6_3, f2_6_4, f2_6_5, f2_6_6⟩ := str7 HS2_6.out
          have hl2_6 := HS2_6.out.lt
          have hf2_6 := fun j => HS2_6.out.frozen j
          go_wp2_with fail
          generalize hW7 : (((((((W6).setCell ⟨w.heap.size + 1, 0, none⟩ (.int .i64 0)).setCell ⟨w.heap.size + 1, 1, none⟩ (.string ⟨#[]⟩)).setCell ⟨w.heap.size + 1, 2, none⟩ (.int .i64 0)).setCell ⟨w.heap.size + 1, 3, none⟩ (.slice none 0 0)).setCell ⟨w.heap.size + 1, 4, none⟩ (.int .i64 0)).setCell ⟨w.heap.size + 1, 5, none⟩ (.int .i64 0)).setCell ⟨w.heap.size + 1, 6, none⟩ (.int .i64 0) = W7
          have HS0_7 : Hid (Str W7 (w.heap.size) (rowV l)) := Lib.hid (by rw [← hW7]; exact (((((((HS0_6.out).other 0 _ (by omega)).other 1 _ (by omega)).other 2 _ (by omega)).other 3 _ (by omega)).other 4 _ (by omega)).other 5 _ (by omega)).other 6 _ (by omega))
          have HS1_7 : Hid (Str W7 (w.heap.size + 1) #[.int .i64 0, .string ⟨#[]⟩, .int .i64 0, .slice none 0 0, .int .i64 0, .int .i64 0, .int .i64 0]) := Lib.hid (by rw [← hW7]; have := (((((((HS1_6.out).set 0 (.int .i64 0)).set 1 (.string ⟨#[]⟩)).set 2 (.int .i64 0)).set 3 (.slice none 0 0)).set 4 (.int .i64 0)).set 5 (.int .i64 0)).set 6 (.int .i64 0); simpa using this)
          have HS2_7 : Hid (Str W7 (g) #[.int .i64 (z : Int), .string (SlotP.text ((l.drop 2).take m)), .int .i64 ck, .slice A1 n1 c1, .int .i64 clo, .int .i64 chi, .int .i64 cv]) := Lib.hid (by rw [← hW7]; exact (((((((HS2_6.out).other 0 _ (by omega)).other 1 _ (by omega)).other 2 _ (by omega)).other 3 _ (by omega)).other 4 _ (by omega)).other 5 _ (by omega)).other 6 _ (by omega))
          have hgr7 : W6.grownBy W7 (some (w.heap.size + 1)) := by rw [← hW7]; exact grown_set (grown_set (grown_set (grown_set (grown_set (grown_set (grown_set (grown_refl W6 (w.heap.size + 1)) 0 (.int .i64 0)) 1 (.string ⟨#[]⟩)) 2 (.int .i64 0)) 3 (.slice none 0 0)) 4 (.int .i64 0)) 5 (.int .i64 0)) 6 (.int .i64 0)
          have HB_7 := Lib.hid (below_grown HB_6.out hgr7 (by omega))
          have hw_7 := HB_7.out.size
          have hws_7 := hgr7.size
          clear hW7
          clear HS0_6 f1_6_0 f1_6_1 f1_6_2 f1_6_3 f1_6_4 f1_6_5 f1_6_6 HS1_6 hf1_6 f2_6_0 f2_6_1 f2_6_2 f2_6_3 f2_6_4 f2_6_5 f2_6_6 HS2_6 hf2_6
          clear hgr7
          have hl0_7 := HS0_7.out.lt
          obtain ⟨f1_7_0, f1_7_1, f1_7_2, f1_7_3, f1_7_4, f1_7_5, f1_7_6⟩ := str7 HS1_7.out
          have hl1_7 := HS1_7.out.lt
          have hf1_7 := fun j => HS1_7.out.frozen j
          obtain ⟨f2_7_0, f2_7_1, f2_7_2, f2_7_3, f2_7_4, f2_7_5, f2_7_6⟩ := str7 HS2_7.out
          have hl2_7 := HS2_7.out.lt
          have hf2_7 := fun j => HS2_7.out.frozen j
          refine bodyPost_ret (v := .tuple #[.agg #[.int .i64 0, .string ⟨#[]⟩, .int .i64 0, .slice none 0 0, .int .i64 0, .int .i64 0, .int .i64 0], .int .i64 12]) ?_ rfl ?_
          · simp [results, Tryz.results108, go_sem, *]
          · rw [HG.out]
            exact got_none _ _ _ HB_7.out
      · have HR := Lib.hid hr
        clear hr
        have harr := fun W => run_arr_eq (P := Tryz.prog) arr64 (SlotP.bytes ⟨(z : Int), (SlotP.text ((l.drop 2).take m)), ⟨ck, cd, clo, chi, cv⟩⟩) l (SlotP.bytes_length _) HL.out W
        cases hbl : (SlotP.bytes ⟨(z : Int), (SlotP.text ((l.drop 2).take m)), ⟨ck, cd, clo, chi, cv⟩⟩ == l)
        · have HBL := Lib.hid hbl
          rw [HBL.out] at harr
          clear hbl
          have HG : Hid (SlotP.get l = (SlotP.none, 12)) := Lib.hid (get_big l HZ.out (by unfold SlotP.good; rw [HSEEM.out, HBL.out]; simp))
          refine Reg.wp_region_vals (R := ext) (W := W5) [Reg.eqv (.agg #[.int .i64 (z : Int), .string (SlotP.text ((l.drop 2).take m)), .int .i64 ck, .slice A1 n1 c1, .int .i64 clo, .int .i64 chi, .int .i64 cv]), Reg.eqv (.int .i64 0), Reg.eqv (.bool false), Reg.eqv (.bool false), Reg.eqv (.agg #[.int .i64 (z : Int), .string (SlotP.text ((l.drop 2).take m)), .int .i64 ck, .slice A1 n1 c1, .int .i64 clo, .int .i64 chi, .int .i64 cv]), Reg.eqv (.agg (rowV (SlotP.bytes ⟨(z : Int), (SlotP.text ((l.drop 2).take m)), ⟨ck, cd, clo, chi, cv⟩⟩))), Reg.eqv (.agg (rowV l)), Reg.eqv (.bool true), Reg.eqv (.bool true)] 51 [[(5, none)], [(40, some 0)], [(41, some 1)], [(42, some 2)], [(5, none), (43, some 3)], [(44, some 4), (43, some 3)], [(1, none), (43, some 3)], [(45, some 5), (46, some 6), (43, some 3)], [(43, some 3), (47, some 7)]] rfl (by kernel_rfl) (by kernel_rfl) (by kernel_rfl) ?_ [some 40, some 41, some 42, some 43, some 44, some 45, some 46, some 47, some 48] (by kernel_rfl) ?_
          · refine ⟨?_, ?_, ?_, ?_, ?_, ?_, ?_, ?_, ?_, trivial⟩
            · intro ax wx hx hs
              obtain ⟨e5, -⟩ := hs
              have g5 := Reg.ev (v := .pointer (some ⟨g, 0, none⟩)) e5
              obtain ⟨hc, -⟩ := bcell hx
              exact Reg.obl_free rfl (Reg.wp_eqv (Option.some_ne_none _) (by go_simp) rfl)
            · intro ax wx hx hs
              obtain ⟨e40, -⟩ := hs
              have g40 := Reg.ev (v := .agg #[.int .i64 (z : Int), .string (SlotP.text ((l.drop 2).take m)), .int .i64 ck, .slice A1 n1 c1, .int .i64 clo, .int .i64 chi, .int .i64 cv]) e40
              refine Reg.obl_free rfl ?_
              have hx' : Below W5.heap.size W5 wx := hx
              go_simp
              refine (SlotW.check_any A1 n1 c1 W5.heap.size ⟨(z : Int), (SlotP.text ((l.drop 2).take m)), ⟨ck, cd, clo, chi, cv⟩⟩ _ (HY5.out.below hx') hx'.size HKS.out).mono ?_
              rintro e wy ⟨rfl, hby⟩
              rw [HR.out]
              exact Reg.done (Option.some_ne_none _) rfl hby
            · intro ax wx hx hs
              obtain ⟨e41, -⟩ := hs
              have g41 := Reg.ev (v := .int .i64 0) e41
              exact Reg.obl_free rfl (Reg.wp_eqv (Option.some_ne_none _) (by go_simp) rfl)
            · intro ax wx hx hs
              obtain ⟨e42, -⟩ := hs
              have g42 := Reg.ev (v := .bool false) e42
              exact Reg.obl_free rfl (Reg.wp_eqv (Option.some_ne_none _) (by go_simp) rfl)
            · intro ax wx hx hs
              obtain ⟨e5, e43, -⟩ := hs
              have g5 := Reg.ev (v := .pointer (some ⟨g, 0, none⟩)) e5
              have g43 := Reg.ev (v := .bool false) e43
              obtain ⟨hc, -⟩ := bcell hx
              exact Reg.obl_want rfl rfl e43 (Reg.wp_eqv (Option.some_ne_none _) (by go_simp) rfl)
            · intro ax wx hx hs
              obtain ⟨e44, e43, -⟩ := hs
              have g44 := Reg.ev (v := .agg #[.int .i64 (z : Int), .string (SlotP.text ((l.drop 2).take m)), .int .i64 ck, .slice A1 n1 c1, .int .i64 clo, .int .i64 chi, .int .i64 cv]) e44
              have g43 := Reg.ev (v := .bool false) e43
              refine Reg.obl_want rfl rfl e43 ?_
              have hx' : Below W5.heap.size W5 wx := hx
              go_simp
              refine (SlotPut.put_any A1 n1 c1 W5.heap.size ⟨(z : Int), (SlotP.text ((l.drop 2).take m)), ⟨ck, cd, clo, chi, cv⟩⟩ _ (HY5.out.below hx') hx'.size HKS.out).mono ?_
              rintro e wy ⟨rfl, hby⟩
              exact Reg.done (Option.some_ne_none _) rfl hby
            · intro ax wx hx hs
              obtain ⟨e1, e43, -⟩ := hs
              have g1 := Reg.ev (v := .pointer (some ⟨w.heap.size, 0, none⟩)) e1
              have g43 := Reg.ev (v := .bool false) e43
              obtain ⟨hc, -⟩ := bcell hx
              refine Reg.obl_want rfl rfl e43 ?_
              have hx' : Below W5.heap.size W5 wx := hx
              have hld := run_ld (P := Tryz.prog) arr64 (HS0_5.out.next hx') HL.out
              exact Reg.wp_eqv (Option.some_ne_none _) (by go_simp) rfl
            · intro ax wx hx hs
              obtain ⟨e45, e46, e43, -⟩ := hs
              have g45 := Reg.ev (v := .agg (rowV (SlotP.bytes ⟨(z : Int), (SlotP.text ((l.drop 2).take m)), ⟨ck, cd, clo, chi, cv⟩⟩))) e45
              have g46 := Reg.ev (v := .agg (rowV l)) e46
              have g43 := Reg.ev (v := .bool false) e43
              exact Reg.obl_want rfl rfl e43 (Reg.wp_eqv (Option.some_ne_none _) (by go_simp) rfl)
            · intro ax wx hx hs
              obtain ⟨e43, e47, -⟩ := hs
              have g43 := Reg.ev (v := .bool false) e43
              have g47 := Reg.ev (v := .bool true) e47
              exact Reg.obl_free rfl (Reg.wp_eqv (Option.some_ne_none _) (by go_simp) rfl)
          · intro W6 hwf
            simp only [Reg.Fin]
            rintro _ rfl _ rfl _ rfl _ rfl _ rfl _ rfl _ rfl _ rfl _ rfl
            go_simp
            have HS0_6 := Lib.hid (HS0_5.out.next hwf)
            have HS1_6 := Lib.hid (HS1_5.out.next hwf)
            have HS2_6 := Lib.hid (HS2_5.out.next hwf)
            have HB_6 := Lib.hid (bstep HB_5.out hwf)
            have hw_6 := HB_6.out.size
            have hws_6 := (hwf).size
            clear HS0_5 f1_5_0 f1_5_1 f1_5_2 f1_5_3 f1_5_4 f1_5_5 f1_5_6 HS1_5 hf1_5 f2_5_0 f2_5_1 f2_5_2 f2_5_3 f2_5_4 f2_5_5 f2_5_6 HS2_5 hf2_5
            clear hwf
            have hl0_6 := HS0_6.out.lt
            obtain ⟨f1_6_0, f1_6_1, f1_6_2, f1_6_3, f1_6_4, f1_6_5, f1_6_6⟩ := str7 HS1_6.out
            have hl1_6 := HS1_6.out.lt
            have hf1_6 := fun j => HS1_6.out.frozen j
            obtain ⟨f2_6_0, f2_6_1, f2_6_2, f2_6_3, f2_6_4, f2_6_5, f2_6_6⟩ := str7 HS2_6.out
            have hl2_6 := HS2_6.out.lt
            have hf2_6 := fun j => HS2_6.out.frozen j
            clear harr
            go_wp2_with fail
            generalize hW7 : (((((((W6).setCell ⟨w.heap.size + 1, 0, none⟩ (.int .i64 0)).setCell ⟨w.heap.size + 1, 1, none⟩ (.string ⟨#[]⟩)).setCell ⟨w.heap.size + 1, 2, none⟩ (.int .i64 0)).setCell ⟨w.heap.size + 1, 3, none⟩ (.slice none 0 0)).setCell ⟨w.heap.size + 1, 4, none⟩ (.int .i64 0)).setCell ⟨w.heap.size + 1, 5, none⟩ (.int .i64 0)).setCell ⟨w.heap.size + 1, 6, none⟩ (.int .i64 0) = W7
            have HS0_7 : Hid (Str W7 (w.heap.size) (rowV l)) := Lib.hid (by rw [← hW7]; exact (((((((HS0_6.out).other 0 _ (by omega)).other 1 _ (by omega)).other 2 _ (by omega)).other 3 _ (by omega)).other 4 _ (by omega)).other 5 _ (by omega)).other 6 _ (by omega))
            have HS1_7 : Hid (Str W7 (w.heap.size + 1) #[.int .i64 0, .string ⟨#[]⟩, .int .i64 0, .slice none 0 0, .int .i64 0, .int .i64 0, .int .i64 0]) := Lib.hid (by rw [← hW7]; have := (((((((HS1_6.out).set 0 (.int .i64 0)).set 1 (.string ⟨#[]⟩)).set 2 (.int .i64 0)).set 3 (.slice none 0 0)).set 4 (.int .i64 0)).set 5 (.int .i64 0)).set 6 (.int .i64 0); simpa using this)
            have HS2_7 : Hid (Str W7 (g) #[.int .i64 (z : Int), .string (SlotP.text ((l.drop 2).take m)), .int .i64 ck, .slice A1 n1 c1, .int .i64 clo, .int .i64 chi, .int .i64 cv]) := Lib.hid (by rw [← hW7]; exact (((((((HS2_6.out).other 0 _ (by omega)).other 1 _ (by omega)).other 2 _ (by omega)).other 3 _ (by omega)).other 4 _ (by omega)).other 5 _ (by omega)).other 6 _ (by omega))
            have hgr7 : W6.grownBy W7 (some (w.heap.size + 1)) := by rw [← hW7]; exact grown_set (grown_set (grown_set (grown_set (grown_set (grown_set (grown_set (grown_refl W6 (w.heap.size + 1)) 0 (.int .i64 0)) 1 (.string ⟨#[]⟩)) 2 (.int .i64 0)) 3 (.slice none 0 0)) 4 (.int .i64 0)) 5 (.int .i64 0)) 6 (.int .i64 0)
            have HB_7 := Lib.hid (below_grown HB_6.out hgr7 (by omega))
            have hw_7 := HB_7.out.size
            have hws_7 := hgr7.size
            clear hW7
            clear HS0_6 f1_6_0 f1_6_1 f1_6_2 f1_6_3 f1_6_4 f1_6_5 f1_6_6 HS1_6 hf1_6 f2_6_0 f2_6_1 f2_6_2 f2_6_3 f2_6_4 f2_6_5 f2_6_6 HS2_6 hf2_6
            clear hgr7
            have hl0_7 := HS0_7.out.lt
            obtain ⟨f1_7_0, f1_7_1, f1_7_2, f1_7_3, f1_7_4, f1_7_5, f1_7_6⟩ := str7 HS1_7.out
            have hl1_7 := HS1_7.out.lt
            have hf1_7 := fun j => HS1_7.out.frozen j
            obtain ⟨f2_7_0, f2_7_1, f2_7_2, f2_7_3, f2_7_4, f2_7_5, f2_7_6⟩ := str7 HS2_7.out
            have hl2_7 := HS2_7.out.lt
            have hf2_7 := fun j => HS2_7.out.frozen j
            refine bodyPost_ret (v := .tuple #[.agg #[.int .i64 0, .string ⟨#[]⟩, .int .i64 0, .slice none 0 0, .int .i64 0, .int .i64 0, .int .i64 0], .int .i64 12]) ?_ rfl ?_
            · simp [results, Tryz.results108, go_sem, *]
            · rw [HG.out]
              exact got_none _ _ _ HB_7.out
        · have HBL := Lib.hid hbl
          rw [HBL.out] at harr
          clear hbl
          have HG : Hid (SlotP.get l = (⟨(z : Int), (SlotP.text ((l.drop 2).take m)), ⟨ck, cd, clo, chi, cv⟩⟩, 0)) := Lib.hid (by unfold SlotP.get; rw [if_neg HZ.out, if_pos (by unfold SlotP.good; rw [HSEEM.out, HBL.out, HR.out, HM.out, HCG.out]; simp; omega), HSEEM.out])
          refine Reg.wp_region_vals (R := ext) (W := W5) [Reg.eqv (.agg #[.int .i64 (z : Int), .string (SlotP.text ((l.drop 2).take m)), .int .i64 ck, .slice A1 n1 c1, .int .i64 clo, .int .i64 chi, .int .i64 cv]), Reg.eqv (.int .i64 0), Reg.eqv (.bool false), Reg.eqv (.bool false), Reg.eqv (.agg #[.int .i64 (z : Int), .string (SlotP.text ((l.drop 2).take m)), .int .i64 ck, .slice A1 n1 c1, .int .i64 clo, .int .i64 chi, .int .i64 cv]), Reg.eqv (.agg (rowV (SlotP.bytes ⟨(z : Int), (SlotP.text ((l.drop 2).take m)), ⟨ck, cd, clo, chi, cv⟩⟩))), Reg.eqv (.agg (rowV l)), Reg.eqv (.bool false), Reg.eqv (.bool false)] 51 [[(5, none)], [(40, some 0)], [(41, some 1)], [(42, some 2)], [(5, none), (43, some 3)], [(44, some 4), (43, some 3)], [(1, none), (43, some 3)], [(45, some 5), (46, some 6), (43, some 3)], [(43, some 3), (47, some 7)]] rfl (by kernel_rfl) (by kernel_rfl) (by kernel_rfl) ?_ [some 40, some 41, some 42, some 43, some 44, some 45, some 46, some 47, some 48] (by kernel_rfl) ?_
          · refine ⟨?_, ?_, ?_, ?_, ?_, ?_, ?_, ?_, ?_, trivial⟩
            · intro ax wx hx hs
              obtain ⟨e5, -⟩ := hs
              have g5 := Reg.ev (v := .pointer (some ⟨g, 0, none⟩)) e5
              obtain ⟨hc, -⟩ := bcell hx
              exact Reg.obl_free rfl (Reg.wp_eqv (Option.some_ne_none _) (by go_simp) rfl)
            · intro ax wx hx hs
              obtain ⟨e40, -⟩ := hs
              have g40 := Reg.ev (v := .agg #[.int .i64 (z : Int), .string (SlotP.text ((l.drop 2).take m)), .int .i64 ck, .slice A1 n1 c1, .int .i64 clo, .int .i64 chi, .int .i64 cv]) e40
              refine Reg.obl_free rfl ?_
              have hx' : Below W5.heap.size W5 wx := hx
              go_simp
              refine (SlotW.check_any A1 n1 c1 W5.heap.size ⟨(z : Int), (SlotP.text ((l.drop 2).take m)), ⟨ck, cd, clo, chi, cv⟩⟩ _ (HY5.out.below hx') hx'.size HKS.out).mono ?_
              rintro e wy ⟨rfl, hby⟩
              rw [HR.out]
              exact Reg.done (Option.some_ne_none _) rfl hby
            · intro ax wx hx hs
              obtain ⟨e41, -⟩ := hs
              have g41 := Reg.ev (v := .int .i64 0) e41
              exact Reg.obl_free rfl (Reg.wp_eqv (Option.some_ne_none _) (by go_simp) rfl)
            · intro ax wx hx hs
              obtain ⟨e42, -⟩ := hs
              have g42 := Reg.ev (v := .bool false) e42
              exact Reg.obl_free rfl (Reg.wp_eqv (Option.some_ne_none _) (by go_simp) rfl)
            · intro ax wx hx hs
              obtain ⟨e5, e43, -⟩ := hs
              have g5 := Reg.ev (v := .pointer (some ⟨g, 0, none⟩)) e5
              have g43 := Reg.ev (v := .bool false) e43
              obtain ⟨hc, -⟩ := bcell hx
              exact Reg.obl_want rfl rfl e43 (Reg.wp_eqv (Option.some_ne_none _) (by go_simp) rfl)
            · intro ax wx hx hs
              obtain ⟨e44, e43, -⟩ := hs
              have g44 := Reg.ev (v := .agg #[.int .i64 (z : Int), .string (SlotP.text ((l.drop 2).take m)), .int .i64 ck, .slice A1 n1 c1, .int .i64 clo, .int .i64 chi, .int .i64 cv]) e44
              have g43 := Reg.ev (v := .bool false) e43
              refine Reg.obl_want rfl rfl e43 ?_
              have hx' : Below W5.heap.size W5 wx := hx
              go_simp
              refine (SlotPut.put_any A1 n1 c1 W5.heap.size ⟨(z : Int), (SlotP.text ((l.drop 2).take m)), ⟨ck, cd, clo, chi, cv⟩⟩ _ (HY5.out.below hx') hx'.size HKS.out).mono ?_
              rintro e wy ⟨rfl, hby⟩
              exact Reg.done (Option.some_ne_none _) rfl hby
            · intro ax wx hx hs
              obtain ⟨e1, e43, -⟩ := hs
              have g1 := Reg.ev (v := .pointer (some ⟨w.heap.size, 0, none⟩)) e1
              have g43 := Reg.ev (v := .bool false) e43
              obtain ⟨hc, -⟩ := bcell hx
              refine Reg.obl_want rfl rfl e43 ?_
              have hx' : Below W5.heap.size W5 wx := hx
              have hld := run_ld (P := Tryz.prog) arr64 (HS0_5.out.next hx') HL.out
              exact Reg.wp_eqv (Option.some_ne_none _) (by go_simp) rfl
            · intro ax wx hx hs
              obtain ⟨e45, e46, e43, -⟩ := hs
              have g45 := Reg.ev (v := .agg (rowV (SlotP.bytes ⟨(z : Int), (SlotP.text ((l.drop 2).take m)), ⟨ck, cd, clo, chi, cv⟩⟩))) e45
              have g46 := Reg.ev (v := .agg (rowV l)) e46
              have g43 := Reg.ev (v := .bool false) e43
              exact Reg.obl_want rfl rfl e43 (Reg.wp_eqv (Option.some_ne_none _) (by go_simp) rfl)
            · intro ax wx hx hs
              obtain ⟨e43, e47, -⟩ := hs
              have g43 := Reg.ev (v := .bool false) e43
              have g47 := Reg.ev (v := .bool false) e47
              exact Reg.obl_free rfl (Reg.wp_eqv (Option.some_ne_none _) (by go_simp) rfl)
          · intro W6 hwf
            simp only [Reg.Fin]
            rintro _ rfl _ rfl _ rfl _ rfl _ rfl _ rfl _ rfl _ rfl _ rfl
            go_simp
            have HY6 := Lib.hid (HY5.out.next hwf)
            have HS0_6 := Lib.hid (HS0_5.out.next hwf)
            have HS1_6 := Lib.hid (HS1_5.out.next hwf)
            have HS2_6 := Lib.hid (HS2_5.out.next hwf)
            have HB_6 := Lib.hid (bstep HB_5.out hwf)
            have hw_6 := HB_6.out.size
            have hws_6 := (hwf).size
            clear HS0_5 f1_5_0 f1_5_1 f1_5_2 f1_5_3 f1_5_4 f1_5_5 f1_5_6 HS1_5 hf1_5 f2_5_0 f2_5_1 f2_5_2 f2_5_3 f2_5_4 f2_5_5 f2_5_6 HS2_5 hf2_5
            clear hwf
            have hl0_6 := HS0_6.out.lt
            obtain ⟨f1_6_0, f1_6_1, f1_6_2, f1_6_3, f1_6_4, f1_6_5, f1_6_6⟩ := str7 HS1_6.out
            have hl1_6 := HS1_6.out.lt
            have hf1_6 := fun j => HS1_6.out.frozen j
            obtain ⟨f2_6_0, f2_6_1, f2_6_2, f2_6_3, f2_6_4, f2_6_5, f2_6_6⟩ := str7 HS2_6.out
            have hl2_6 := HS2_6.out.lt
            have hf2_6 := fun j => HS2_6.out.frozen j
            clear harr
            go_wp2_with fail
            generalize hW7 : (((((((W6).setCell ⟨w.heap.size + 1, 0, none⟩ (.int .i64 (z : Int))).setCell ⟨w.heap.size + 1, 1, none⟩ (.string (SlotP.text ((l.drop 2).take m)))).setCell ⟨w.heap.size + 1, 2, none⟩ (.int .i64 ck)).setCell ⟨w.heap.size + 1, 3, none⟩ (.slice A1 n1 c1)).setCell ⟨w.heap.size + 1, 4, none⟩ (.int .i64 clo)).setCell ⟨w.heap.size + 1, 5, none⟩ (.int .i64 chi)).setCell ⟨w.heap.size + 1, 6, none⟩ (.int .i64 cv) = W7
            have HS0_7 : Hid (Str W7 (w.heap.size) (rowV l)) := Lib.hid (by rw [← hW7]; exact (((((((HS0_6.out).other 0 _ (by omega)).other 1 _ (by omega)).other 2 _ (by omega)).other 3 _ (by omega)).other 4 _ (by omega)).other 5 _ (by omega)).other 6 _ (by omega))
            have HS1_7 : Hid (Str W7 (w.heap.size + 1) #[.int .i64 (z : Int), .string (SlotP.text ((l.drop 2).take m)), .int .i64 ck, .slice A1 n1 c1, .int .i64 clo, .int .i64 chi, .int .i64 cv]) := Lib.hid (by rw [← hW7]; have := (((((((HS1_6.out).set 0 (.int .i64 (z : Int))).set 1 (.string (SlotP.text ((l.drop 2).take m)))).set 2 (.int .i64 ck)).set 3 (.slice A1 n1 c1)).set 4 (.int .i64 clo)).set 5 (.int .i64 chi)).set 6 (.int .i64 cv); simpa using this)
            have HS2_7 : Hid (Str W7 (g) #[.int .i64 (z : Int), .string (SlotP.text ((l.drop 2).take m)), .int .i64 ck, .slice A1 n1 c1, .int .i64 clo, .int .i64 chi, .int .i64 cv]) := Lib.hid (by rw [← hW7]; exact (((((((HS2_6.out).other 0 _ (by omega)).other 1 _ (by omega)).other 2 _ (by omega)).other 3 _ (by omega)).other 4 _ (by omega)).other 5 _ (by omega)).other 6 _ (by omega))
            have hgr7 : W6.grownBy W7 (some (w.heap.size + 1)) := by rw [← hW7]; exact grown_set (grown_set (grown_set (grown_set (grown_set (grown_set (grown_set (grown_refl W6 (w.heap.size + 1)) 0 (.int .i64 (z : Int))) 1 (.string (SlotP.text ((l.drop 2).take m)))) 2 (.int .i64 ck)) 3 (.slice A1 n1 c1)) 4 (.int .i64 clo)) 5 (.int .i64 chi)) 6 (.int .i64 cv)
            have HB_7 := Lib.hid (below_grown HB_6.out hgr7 (by omega))
            have hw_7 := HB_7.out.size
            have hws_7 := hgr7.size
            have HY7 : Hid (Bytes W7 W7.heap.size A1 n1 c1 cd) := Lib.hid ((Bytes.grown HY6.out (Nat.le_refl _) HS1_6.out rfl hgr7).more hws_7)
            clear hW7
            clear HS0_6 f1_6_0 f1_6_1 f1_6_2 f1_6_3 f1_6_4 f1_6_5 f1_6_6 HS1_6 hf1_6 f2_6_0 f2_6_1 f2_6_2 f2_6_3 f2_6_4 f2_6_5 f2_6_6 HS2_6 hf2_6
            clear hgr7
            have hl0_7 := HS0_7.out.lt
            obtain ⟨f1_7_0, f1_7_1, f1_7_2, f1_7_3, f1_7_4, f1_7_5, f1_7_6⟩ := str7 HS1_7.out
            have hl1_7 := HS1_7.out.lt
            have hf1_7 := fun j => HS1_7.out.frozen j
            obtain ⟨f2_7_0, f2_7_1, f2_7_2, f2_7_3, f2_7_4, f2_7_5, f2_7_6⟩ := str7 HS2_7.out
            have hl2_7 := HS2_7.out.lt
            have hf2_7 := fun j => HS2_7.out.frozen j
            refine bodyPost_ret (v := .tuple #[.agg #[.int .i64 (z : Int), .string (SlotP.text ((l.drop 2).take m)), .int .i64 ck, .slice A1 n1 c1, .int .i64 clo, .int .i64 chi, .int .i64 cv], .int .i64 0]) ?_ rfl ?_
            · simp [results, Tryz.results108, go_sem, *]
            · rw [HG.out]
              exact ⟨A1, n1, c1, rfl, ⟨HY7.out, HNW1.out⟩, HB_7.out⟩
    · have hce' : (ce != 0) = true := by simpa using hce
      have HG : Hid (SlotP.get l = (SlotP.none, 12)) := Lib.hid (get_big l HZ.out (by unfold SlotP.good; rw [HM.out, HCG.out]; simp [beq_eq_false_iff_ne.2 hce]))
      go_wp2_with fail
      generalize hW4 : (((((((W3).setCell ⟨w.heap.size + 1, 0, none⟩ (.int .i64 0)).setCell ⟨w.heap.size + 1, 1, none⟩ (.string ⟨#[]⟩)).setCell ⟨w.heap.size + 1, 2, none⟩ (.int .i64 0)).setCell ⟨w.heap.size + 1, 3, none⟩ (.slice none 0 0)).setCell ⟨w.heap.size + 1, 4, none⟩ (.int .i64 0)).setCell ⟨w.heap.size + 1, 5, none⟩ (.int .i64 0)).setCell ⟨w.heap.size + 1, 6, none⟩ (.int .i64 0) = W4
      have HS0_4 : Hid (Str W4 (w.heap.size) (rowV l)) := Lib.hid (by rw [← hW4]; exact (((((((HS0_3.out).other 0 _ (by omega)).other 1 _ (by omega)).other 2 _ (by omega)).other 3 _ (by omega)).other 4 _ (by omega)).other 5 _ (by omega)).other 6 _ (by omega))
      have HS1_4 : Hid (Str W4 (w.heap.size + 1) #[.int .i64 0, .string ⟨#[]⟩, .int .i64 0, .slice none 0 0, .int .i64 0, .int .i64 0, .int .i64 0]) := Lib.hid (by rw [← hW4]; have := (((((((HS1_3.out).set 0 (.int .i64 0)).set 1 (.string ⟨#[]⟩)).set 2 (.int .i64 0)).set 3 (.slice none 0 0)).set 4 (.int .i64 0)).set 5 (.int .i64 0)).set 6 (.int .i64 0); simpa using this)
      have HS2_4 : Hid (Str W4 (g) #[.int .i64 (z : Int), .string (SlotP.text ((l.drop 2).take m)), .int .i64 0, .slice none 0 0, .int .i64 0, .int .i64 0, .int .i64 0]) := Lib.hid (by rw [← hW4]; exact (((((((HS2_3.out).other 0 _ (by omega)).other 1 _ (by omega)).other 2 _ (by omega)).other 3 _ (by omega)).other 4 _ (by omega)).other 5 _ (by omega)).other 6 _ (by omega))
      have hgr4 : W3.grownBy W4 (some (w.heap.size + 1)) := by rw [← hW4]; exact grown_set (grown_set (grown_set (grown_set (grown_set (grown_set (grown_set (grown_refl W3 (w.heap.size + 1)) 0 (.int .i64 0)) 1 (.string ⟨#[]⟩)) 2 (.int .i64 0)) 3 (.slice none 0 0)) 4 (.int .i64 0)) 5 (.int .i64 0)) 6 (.int .i64 0)
      have HB_4 := Lib.hid (below_grown HB_3.out hgr4 (by omega))
      have hw_4 := HB_4.out.size
      have hws_4 := hgr4.size
      clear hW4
      clear HS0_3 f1_3_0 f1_3_1 f1_3_2 f1_3_3 f1_3_4 f1_3_5 f1_3_6 HS1_3 hf1_3 f2_3_0 f2_3_1 f2_3_2 f2_3_3 f2_3_4 f2_3_5 f2_3_6 HS2_3 hf2_3
      clear hgr4
      have hl0_4 := HS0_4.out.lt
      obtain ⟨f1_4_0, f1_4_1, f1_4_2, f1_4_3, f1_4_4, f1_4_5, f1_4_6⟩ := str7 HS1_4.out
      have hl1_4 := HS1_4.out.lt
      have hf1_4 := fun j => HS1_4.out.frozen j
      obtain ⟨f2_4_0, f2_4_1, f2_4_2, f2_4_3, f2_4_4, f2_4_5, f2_4_6⟩ := str7 HS2_4.out
      have hl2_4 := HS2_4.out.lt
      have hf2_4 := fun j => HS2_4.out.frozen j
      generalize hW5 : W4.alloc (.cells #[.int .i64 ck, .slice A1 n1 c1, .int .i64 clo, .int .i64 chi, .int .i64 cv] 34) = W5
      have hba5 : Below W4.heap.size W4 W5 := by rw [← hW5]; exact balloc (bsame _) _
      clear hW5
      have HS0_5 := Lib.hid (HS0_4.out.next hba5)
      have HS1_5 := Lib.hid (HS1_4.out.next hba5)
      have HS2_5 := Lib.hid (HS2_4.out.next hba5)
      have HB_5 := Lib.hid (bstep HB_4.out hba5)
      have hw_5 := HB_5.out.size
      have hws_5 := (hba5).size
      clear HS0_4 f1_4_0 f1_4_1 f1_4_2 f1_4_3 f1_4_4 f1_4_5 f1_4_6 HS1_4 hf1_4 f2_4_0 f2_4_1 f2_4_2 f2_4_3 f2_4_4 f2_4_5 f2_4_6 HS2_4 hf2_4
      have hl0_5 := HS0_5.out.lt
      obtain ⟨f1_5_0, f1_5_1, f1_5_2, f1_5_3, f1_5_4, f1_5_5, f1_5_6⟩ := str7 HS1_5.out
      have hl1_5 := HS1_5.out.lt
      have hf1_5 := fun j => HS1_5.out.frozen j
      obtain ⟨f2_5_0, f2_5_1, f2_5_2, f2_5_3, f2_5_4, f2_5_5, f2_5_6⟩ := str7 HS2_5.out
      have hl2_5 := HS2_5.out.lt
      have hf2_5 := fun j => HS2_5.out.frozen j
      refine bodyPost_ret (v := .tuple #[.agg #[.int .i64 0, .string ⟨#[]⟩, .int .i64 0, .slice none 0 0, .int .i64 0, .int .i64 0, .int .i64 0], .int .i64 12]) ?_ rfl ?_
      · simp [results, Tryz.results108, go_sem, *]
      · rw [HG.out]
        exact got_none _ _ _ HB_5.out

theorem get_new (l : List UInt8) (hl : l.length = 64) (w : World) : Calls Tryz.prog 108 #[.agg (rowV l)] w (NewItem w (SlotP.get l)) := by
  by_cases hz : l = SlotP.zeros 64
  · rw [hz, SlotP.get_zeros]
    exact get_zero w
  · by_cases hm : 16 < (l.getD 1 0).toNat
    · rw [get_big l hz (by unfold SlotP.good; rw [decide_eq_false (by omega)]; rfl)]
      exact get_long l hl hz _ rfl hm w
    · exact get_rest l hl hz _ rfl (by omega) w
theorem get_any (l : List UInt8) (hl : l.length = 64) (w : World) : Calls Tryz.prog 108 #[.agg (rowV l)] w (GotItem w (SlotP.get l)) := (get_new l hl w).mono fun _ _ h => h.got
end Go.Proofs.YtpdfnlhhnodnjaaGreat.SlotGet
end
