/-
  Parts of the proof of PlanGrows.
-/
import Derived.Test.YtpklclnehlgcpaaGreatPlanG10
import Derived.Test.YtpklclnehlgcpaaGreatPlanG9
import Derived.Test.YtpklclnehlgcpaaGreatPlanG1
section
namespace Go.Proofs.YtpklclnehlgcpaaGreat
open Go.RowKit
set_option linter.unusedVariables false
set_option linter.unusedSimpArgs false
namespace PlanP
def newP (no : Int) : List UInt8 := SlotP.over (SlotP.zeros 512) 12 (BeP.parts 2 no)
def withNext (p : List UInt8) (no : Int) : List UInt8 := SlotP.over p 14 (BeP.parts 2 no)
/-- what makes the page behind a page -/
def next (p : List UInt8) (no : Int) : PatchX := ⟨NumP.val p 12 2, false, DiffP.diff p (withNext p no)⟩
/-- what puts a page more behind the last one -/
def grow (m last : List UInt8) (no : Int) (x : Item) : List PatchX := [⟨no, true, DiffP.diff (newP no) (PageP.withSlot (newP no) 0 x)⟩, next last no, next m (no + 1)]
theorem newP_len (no : Int) : (newP no).length = 512 := by
  unfold newP
  rw [SlotP.over_length _ _ _ (by rw [BeP.parts_length, SlotPut.zeros_len]; omega), SlotPut.zeros_len]
theorem withNext_len {p : List UInt8} (hp : p.length = 512) (no : Int) : (withNext p no).length = 512 := by
  unfold withNext
  rw [SlotP.over_length _ _ _ (by rw [BeP.parts_length]; omega)]; exact hp
theorem newP_no (no : Int) (h0 : 0 ≤ no) (h1 : no ≤ 65535) : NumP.val (newP no) 12 2 = no := by
  have h := PatchP.val_parts2 (SlotP.zeros 12) (SlotP.zeros 498) no h0 h1
  rw [SlotPut.zeros_len] at h
  have e : newP no = SlotP.zeros 12 ++ (BeP.parts 2 no ++ SlotP.zeros 498) := by
    unfold newP SlotP.over
    rw [BeP.parts_length]
    have h2 : (SlotP.zeros 512).take 12 = SlotP.zeros 12 := by unfold SlotP.zeros; rw [List.take_replicate, Nat.min_eq_left (by omega)]
    have h3 : (SlotP.zeros 512).drop (12 + 2) = SlotP.zeros 498 := by unfold SlotP.zeros; rw [List.drop_replicate]
    rw [h2, h3]
    try rw [List.append_assoc]
  rw [e]
  exact h
end PlanP
/-- three patches as a literal -/
theorem patch_three {w : World} {b n1 c1 n2 c2 n3 c3 : Nat} {A1 A2 A3 : Option Addr} {x y z : PatchX} (hs : Str w b #[.int .i64 x.page, .bool x.fresh, .slice A1 n1 c1, .int .i64 y.page, .bool y.fresh, .slice A2 n2 c2, .int .i64 z.page, .bool z.fresh, .slice A3 n3 c3])
    (h1 : Elems RunE w w.heap.size A1 n1 c1 x.runs) (h2 : Elems RunE w w.heap.size A2 n2 c2 y.runs) (h3 : Elems RunE w w.heap.size A3 n3 c3 z.runs) (i1 : In64 x.page) (i2 : In64 y.page) (i3 : In64 z.page) : Elems PatchE w w.heap.size (some ⟨b, 0, none⟩) 3 3 [x, y, z] :=
  ⟨[patchV x A1 n1 c1, patchV y A2 n2 c2, patchV z A3 n3 c3], ⟨⟨A1, n1, c1, rfl, h1, i1⟩, ⟨A2, n2, c2, rfl, h2, i2⟩, ⟨A3, n3, c3, rfl, h3, i3⟩, trivial⟩, rfl, Nat.le_refl _, by unfold maxLen; omega, fun _ => ⟨b, 0, rfl, hs.lt, fun j v hv => by
    rw [hs.cell, Nat.zero_add]
    simpa [patchV] using hv⟩⟩
/-- a block of three is no row of runs -/
theorem OwnE.not3 {T : TypeId} {w : World} {base n c g : Nat} {A : Option Addr} {l : List RunX} {c0 c1 c2 : Value} (h : OwnE RunE T w base A n c l) (hs : Str w g #[c0, c1, c2]) : ∀ a, A = some a → a.block ≠ g := by
  intro a e hg
  obtain ⟨vs, h1, -⟩ := h
  rcases h1.2 with ⟨e1, -⟩ | ⟨g', cap, cur, e1, -, hh, -, -, hc, -⟩
  · cases e1; cases e
  · cases e1; cases e
    obtain ⟨t, ht⟩ := hs
    have hg' : g' = g := hg
    subst hg'
    rw [hh] at ht
    cases ht
    have h2 : (3 : Nat) = c * 2 := hc
    omega
namespace Reg
/-- a new box -/
def boxZ (base : Nat) (cs : Array Value) : SP ext := ⟨fun v w => ∃ g, v = .pointer (some ⟨g, 0, none⟩) ∧ base ≤ g ∧ Str w g cs, fun _ _ _ hb ⟨g, e, h, hs⟩ => ⟨g, e, h, hs.next hb⟩⟩
/-- a slice of patches -/
def patsM (l : List PatchX) (m : Nat) : SP ext := ⟨fun v w => ∃ A c, v = .slice A m c ∧ Elems PatchE w w.heap.size A m c l, fun _ w w' hb ⟨A, c, e, h⟩ => ⟨A, c, e, (h.below hb).more (Below.size hb)⟩⟩
end Reg
def GivesPats (w : World) (l : List PatchX) (m : Nat) (e : Ending) (w' : World) : Prop := ∃ A c, e = .returned (.slice A m c) ∧ Elems PatchE w' w'.heap.size A m c l ∧ Below w.heap.size w w'
namespace PlanW
attribute [local go_sem ↓] alPage_fold ldPage_fold stPage_fold bdPage_fold slPage_fold
set_option maxRecDepth 100000 in
set_option maxHeartbeats 4000000 in
theorem Grow_any (m last : List UInt8) (hm : m.length = 512) (hl : last.length = 512) (no : Int) (h0 : 0 ≤ no) (h1 : no ≤ 65535) (A : Option Addr) (n cap B : Nat) (x : Item) (w : World) (h : Bytes w B A n cap x.cell.data) (hB : B ≤ w.heap.size) (hk : x.key.size ≤ maxLen) :
    Calls Tryz.prog 16 #[.agg (rowV m), .agg (rowV last), .int .i64 no, SlotW.itemV A n cap x] w (GivesPats w (PlanP.grow m last no x) 3) := by
  have HM := Lib.hid hm
  have HL := Lib.hid hl
  have HN := Lib.hid (PlanP.newP_len no)
  have H := Lib.hid h
  have HK := Lib.hid hk
  have HWL := Lib.hid (PageP.withSlot_length (PlanP.newP no) (PlanP.newP_len no) 0 x)
  have HXL := Lib.hid (PlanP.withNext_len hl no)
  have HXM := Lib.hid (PlanP.withNext_len hm (no + 1))
  have HNN : Hid (PlanP.newP no = SlotP.over (SlotP.zeros 512) 12 (BeP.parts 2 no)) := Lib.hid rfl
  clear hm hl h hk
  obtain ⟨s, k, kind, data, lo, hi, val⟩ := x
  dsimp only [SlotW.itemV] at *
  go_enter Tryz.func16, Tryz.ntmps16
  go_wp2_with fail
  generalize hW0 : (((w).alloc (.cells (rowV m) 30)).alloc (.cells (rowV last) 30)).alloc (.cells #[.int .i64 s, .string k, .int .i64 kind, .slice A n cap, .int .i64 lo, .int .i64 hi, .int .i64 val] 27) = W0
  have HS0_0 : Hid (Str W0 (w.heap.size) (rowV m)) := Lib.hid (by rw [← hW0]; have := ((Str.new (w) (rowV m) 30).alloc (.cells (rowV last) 30)).alloc (.cells #[.int .i64 s, .string k, .int .i64 kind, .slice A n cap, .int .i64 lo, .int .i64 hi, .int .i64 val] 27); simpa using this)
  have HS1_0 : Hid (Str W0 (w.heap.size + 1) (rowV last)) := Lib.hid (by rw [← hW0]; have := (Str.new ((w).alloc (.cells (rowV m) 30)) (rowV last) 30).alloc (.cells #[.int .i64 s, .string k, .int .i64 kind, .slice A n cap, .int .i64 lo, .int .i64 hi, .int .i64 val] 27); simpa using this)
  have HS2_0 : Hid (Str W0 (w.heap.size + 1 + 1) #[.int .i64 s, .string k, .int .i64 kind, .slice A n cap, .int .i64 lo, .int .i64 hi, .int .i64 val]) := Lib.hid (by rw [← hW0]; have := Str.new (((w).alloc (.cells (rowV m) 30)).alloc (.cells (rowV last) 30)) #[.int .i64 s, .string k, .int .i64 kind, .slice A n cap, .int .i64 lo, .int .i64 hi, .int .i64 val] 27; simpa using this)
  have HB_0 : Hid (Below w.heap.size w W0) := Lib.hid (by rw [← hW0]; exact balloc (balloc (balloc (bsame w) _) _) _)
  have hw_0 := HB_0.out.size
  clear hW0
  have hl0_0 := HS0_0.out.lt
  have hl1_0 := HS1_0.out.lt
  obtain ⟨f2_0_0, f2_0_1, f2_0_2, f2_0_3, f2_0_4, f2_0_5, f2_0_6⟩ := str7 HS2_0.out
  have hl2_0 := HS2_0.out.lt
  refine (PageW.new_any no _).mono ?_
  rintro e W1 ⟨rfl, hb1⟩
  rw [← HNN.out]
  have HS0_1 := Lib.hid (HS0_0.out.next hb1)
  have HS1_1 := Lib.hid (HS1_0.out.next hb1)
  have HS2_1 := Lib.hid (HS2_0.out.next hb1)
  have HB_1 := Lib.hid (bstep HB_0.out hb1)
  have hw_1 := HB_1.out.size
  have hws_1 := (hb1).size
  clear HS0_0 HS1_0 f2_0_0 f2_0_1 f2_0_2 f2_0_3 f2_0_4 f2_0_5 f2_0_6 HS2_0
  clear hb1
  have hl0_1 := HS0_1.out.lt
  have hl1_1 := HS1_1.out.lt
  obtain ⟨f2_1_0, f2_1_1, f2_1_2, f2_1_3, f2_1_4, f2_1_5, f2_1_6⟩ := str7 HS2_1.out
  have hl2_1 := HS2_1.out.lt
  have hal := fun W => run_al (P := Tryz.prog) arrPage W
  have hst1 := run_st (P := Tryz.prog) arrPage (Str.new W1 (rowV (SlotP.zeros 512)) 30) (by rw [rowV_size]; exact SlotPut.zeros_len 512) (HN.out)
  obtain ⟨W2, hW2⟩ : ∃ W, (W1.alloc (.cells (rowV (SlotP.zeros 512)) 30)).setRow W1.heap.size (rowV (PlanP.newP no)) = W := ⟨_, rfl⟩
  rw [hW2] at hst1
  have HS0_2 : Hid (Str W2 (w.heap.size) (rowV m)) := Lib.hid (by rw [← hW2]; exact (HS0_1.out.alloc _).setRow_other (by omega))
  have HS1_2 : Hid (Str W2 (w.heap.size + 1) (rowV last)) := Lib.hid (by rw [← hW2]; exact (HS1_1.out.alloc _).setRow_other (by omega))
  have HS2_2 : Hid (Str W2 (w.heap.size + 1 + 1) #[.int .i64 s, .string k, .int .i64 kind, .slice A n cap, .int .i64 lo, .int .i64 hi, .int .i64 val]) := Lib.hid (by rw [← hW2]; exact (HS2_1.out.alloc _).setRow_other (by omega))
  have HS3_2 : Hid (Str W2 (W1.heap.size) (rowV (PlanP.newP no))) := Lib.hid (by rw [← hW2]; exact (Str.new W1 (rowV (SlotP.zeros 512)) 30).setRow)
  have hba2 : Below W1.heap.size W1 W2 := by rw [← hW2]; exact below_setRow (balloc (bsame _) _) (Nat.le_refl _) _
  have HB_2 := Lib.hid (bstep HB_1.out hba2)
  have hw_2 := HB_2.out.size
  have hws_2 := hba2.size
  clear hW2 hba2
  clear HS0_1 HS1_1 f2_1_0 f2_1_1 f2_1_2 f2_1_3 f2_1_4 f2_1_5 f2_1_6 HS2_1
  have hl0_2 := HS0_2.out.lt
  have hl1_2 := HS1_2.out.lt
  obtain ⟨f2_2_0, f2_2_1, f2_2_2, f2_2_3, f2_2_4, f2_2_5, f2_2_6⟩ := str7 HS2_2.out
  have hl2_2 := HS2_2.out.lt
  have hl3_2 := HS3_2.out.lt
  go_wp2_with fail
  clear hal hst1
  refine Reg.wp_region_vals (R := ext) (W := W2) [Reg.eqv (.int .i64 no), Reg.eqv (.agg (rowV (PlanP.newP no))), Reg.eqv (.agg (rowV (PlanP.newP no))), Reg.eqv (.agg #[.int .i64 s, .string k, .int .i64 kind, .slice A n cap, .int .i64 lo, .int .i64 hi, .int .i64 val]), Reg.eqv (.agg (rowV (PageP.withSlot (PlanP.newP no) 0 ⟨s, k, ⟨kind, data, lo, hi, val⟩⟩))), Reg.runsM W2.heap.size (fun A n c => .slice A n c) (DiffP.diff (PlanP.newP no) (PageP.withSlot (PlanP.newP no) 0 ⟨s, k, ⟨kind, data, lo, hi, val⟩⟩)), Reg.runsM W2.heap.size (fun A n c => .agg #[.int .i64 no, .bool true, .slice A n c]) (DiffP.diff (PlanP.newP no) (PageP.withSlot (PlanP.newP no) 0 ⟨s, k, ⟨kind, data, lo, hi, val⟩⟩)), Reg.eqv (.agg (rowV last)), Reg.eqv (.int .i64 (NumP.val last 12 2)), Reg.eqv (.agg (rowV last)), Reg.eqv (.agg (rowV last)), Reg.eqv (.int .i64 no), Reg.eqv (.agg (rowV (PlanP.withNext last no))), Reg.runsM W2.heap.size (fun A n c => .slice A n c) (DiffP.diff last (PlanP.withNext last no)), Reg.runsM W2.heap.size (fun A n c => .agg #[.int .i64 (NumP.val last 12 2), .bool false, .slice A n c]) (DiffP.diff last (PlanP.withNext last no)), Reg.eqv (.agg (rowV m)), Reg.eqv (.int .i64 (NumP.val m 12 2)), Reg.eqv (.agg (rowV m)), Reg.eqv (.agg (rowV m)), Reg.eqv (.int .i64 no), Reg.eqv (.int .i64 (no + 1)), Reg.eqv (.agg (rowV (PlanP.withNext m (no + 1)))), Reg.runsM W2.heap.size (fun A n c => .slice A n c) (DiffP.diff m (PlanP.withNext m (no + 1))), Reg.runsM W2.heap.size (fun A n c => .agg #[.int .i64 (NumP.val m 12 2), .bool false, .slice A n c]) (DiffP.diff m (PlanP.withNext m (no + 1))), Reg.patsM (PlanP.grow m last no ⟨s, k, ⟨kind, data, lo, hi, val⟩⟩) 3, Reg.patsM (PlanP.grow m last no ⟨s, k, ⟨kind, data, lo, hi, val⟩⟩) 3] 37 [[(2, none)], [(9, none)], [(9, none)], [(7, none)], [(14, some 2), (15, some 3)], [(13, some 1), (16, some 4)], [(12, some 0), (17, some 5)], [(5, none)], [(19, some 7)], [(5, none)], [(5, none)], [(2, none)], [(22, some 10), (23, some 11)], [(21, some 9), (24, some 12)], [(20, some 8), (25, some 13)], [(4, none)], [(27, some 15)], [(4, none)], [(4, none)], [(2, none)], [(31, some 19)], [(30, some 18), (32, some 20)], [(29, some 17), (33, some 21)], [(28, some 16), (34, some 22)], [(18, some 6), (26, some 14), (35, some 23)], [(36, some 24)]] rfl (by kernel_rfl) (by kernel_rfl) (by kernel_rfl) ?_ [some 12, some 13, some 14, some 15, some 16, some 17, some 18, some 19, some 20, some 21, some 22, some 23, some 24, some 25, some 26, some 27, some 28, some 29, some 30, some 31, some 32, some 33, some 34, some 35, some 36, some 8] (by kernel_rfl) ?_
  · refine ⟨?_, ?_, ?_, ?_, ?_, ?_, ?_, ?_, ?_, ?_, ?_, ?_, ?_, ?_, ?_, ?_, ?_, ?_, ?_, ?_, ?_, ?_, ?_, ?_, ?_, ?_, trivial⟩
    · intro ax wx hx hs
      obtain ⟨e2, -⟩ := hs
      have g2 := Reg.ev (v := .int .i64 no) e2
      exact Reg.obl_free rfl (Reg.wp_eqv (Option.some_ne_none _) (by go_simp) rfl)
    · intro ax wx hx hs
      obtain ⟨e9, -⟩ := hs
      have g9 := Reg.ev (v := .pointer (some ⟨W1.heap.size, 0, none⟩)) e9
      have hx' : Below W2.heap.size W2 wx := hx
      have li := str7 (HS2_2.out.next hx')
      have hlm := run_ld (P := Tryz.prog) arrPage (HS0_2.out.next hx') HM.out
      have hll := run_ld (P := Tryz.prog) arrPage (HS1_2.out.next hx') HL.out
      have hln := run_ld (P := Tryz.prog) arrPage (HS3_2.out.next hx') HN.out
      exact Reg.obl_free rfl (Reg.wp_eqv (Option.some_ne_none _) (by go_simp) rfl)
    · intro ax wx hx hs
      obtain ⟨e9, -⟩ := hs
      have g9 := Reg.ev (v := .pointer (some ⟨W1.heap.size, 0, none⟩)) e9
      have hx' : Below W2.heap.size W2 wx := hx
      have li := str7 (HS2_2.out.next hx')
      have hlm := run_ld (P := Tryz.prog) arrPage (HS0_2.out.next hx') HM.out
      have hll := run_ld (P := Tryz.prog) arrPage (HS1_2.out.next hx') HL.out
      have hln := run_ld (P := Tryz.prog) arrPage (HS3_2.out.next hx') HN.out
      exact Reg.obl_free rfl (Reg.wp_eqv (Option.some_ne_none _) (by go_simp) rfl)
    · intro ax wx hx hs
      obtain ⟨e7, -⟩ := hs
      have g7 := Reg.ev (v := .pointer (some ⟨w.heap.size + 1 + 1, 0, none⟩)) e7
      have hx' : Below W2.heap.size W2 wx := hx
      have li := str7 (HS2_2.out.next hx')
      have hlm := run_ld (P := Tryz.prog) arrPage (HS0_2.out.next hx') HM.out
      have hll := run_ld (P := Tryz.prog) arrPage (HS1_2.out.next hx') HL.out
      have hln := run_ld (P := Tryz.prog) arrPage (HS3_2.out.next hx') HN.out
      exact Reg.obl_free rfl (Reg.wp_eqv (Option.some_ne_none _) (by go_simp) rfl)
    · intro ax wx hx hs
      obtain ⟨e14, e15, -⟩ := hs
      have g14 := Reg.ev (v := .agg (rowV (PlanP.newP no))) e14
      have g15 := Reg.ev (v := .agg #[.int .i64 s, .string k, .int .i64 kind, .slice A n cap, .int .i64 lo, .int .i64 hi, .int .i64 val]) e15
      refine Reg.obl_free rfl ?_
      have hx' : Below W2.heap.size W2 wx := hx
      have hwx := hx'.size
      go_simp
      refine (PageW.withSlot_any (PlanP.newP no) HN.out 0 A n cap B ⟨s, k, ⟨kind, data, lo, hi, val⟩⟩ wx (H.out.below ((HB_2.out.trans (hx'.mono HB_2.out.size)).mono hB)) (by omega) HK.out).mono ?_
      rintro e wy ⟨rfl, hby⟩
      exact Reg.done (Option.some_ne_none _) rfl hby
    · intro ax wx hx hs
      obtain ⟨e13, e16, -⟩ := hs
      have g13 := Reg.ev (v := .agg (rowV (PlanP.newP no))) e13
      have g16 := Reg.ev (v := .agg (rowV (PageP.withSlot (PlanP.newP no) 0 ⟨s, k, ⟨kind, data, lo, hi, val⟩⟩))) e16
      refine Reg.obl_free rfl ?_
      have hx' : Below W2.heap.size W2 wx := hx
      have hwx := hx'.size
      go_simp
      refine (DiffW.diff_any (PlanP.newP no) (PageP.withSlot (PlanP.newP no) 0 ⟨s, k, ⟨kind, data, lo, hi, val⟩⟩) HN.out HWL.out wx).mono ?_
      rintro e wy ⟨A1, n1, c1, rfl, hO, hby⟩
      exact Reg.done (Option.some_ne_none _) ⟨A1, n1, c1, rfl, hO.less hwx⟩ hby
    · intro ax wx hx hs
      obtain ⟨e12, e17, -⟩ := hs
      have g12 := Reg.ev (v := .int .i64 no) e12
      refine Reg.obl_free rfl ?_
      obtain ⟨A2, n2, c2, e17, hO⟩ := e17
      have g17 := Reg.ev e17
      exact Reg.wp_same (Option.some_ne_none _) (by go_simp) ⟨A2, n2, c2, rfl, hO⟩
    · intro ax wx hx hs
      obtain ⟨e5, -⟩ := hs
      have g5 := Reg.ev (v := .pointer (some ⟨w.heap.size + 1, 0, none⟩)) e5
      have hx' : Below W2.heap.size W2 wx := hx
      have li := str7 (HS2_2.out.next hx')
      have hlm := run_ld (P := Tryz.prog) arrPage (HS0_2.out.next hx') HM.out
      have hll := run_ld (P := Tryz.prog) arrPage (HS1_2.out.next hx') HL.out
      have hln := run_ld (P := Tryz.prog) arrPage (HS3_2.out.next hx') HN.out
      exact Reg.obl_free rfl (Reg.wp_eqv (Option.some_ne_none _) (by go_simp) rfl)
    · intro ax wx hx hs
      obtain ⟨e19, -⟩ := hs
      have g19 := Reg.ev (v := .agg (rowV last)) e19
      refine Reg.obl_free rfl ?_
      have hx' : Below W2.heap.size W2 wx := hx
      have hwx := hx'.size
      go_simp
      refine (PageW.no_any last HL.out wx).mono ?_
      rintro e wy ⟨rfl, hby⟩
      exact Reg.done (Option.some_ne_none _) rfl hby
    · intro ax wx hx hs
      obtain ⟨e5, -⟩ := hs
      have g5 := Reg.ev (v := .pointer (some ⟨w.heap.size + 1, 0, none⟩)) e5
      have hx' : Below W2.heap.size W2 wx := hx
      have li := str7 (HS2_2.out.next hx')
      have hlm := run_ld (P := Tryz.prog) arrPage (HS0_2.out.next hx') HM.out
      have hll := run_ld (P := Tryz.prog) arrPage (HS1_2.out.next hx') HL.out
      have hln := run_ld (P := Tryz.prog) arrPage (HS3_2.out.next hx') HN.out
      exact Reg.obl_free rfl (Reg.wp_eqv (Option.some_ne_none _) (by go_simp) rfl)
    · intro ax wx hx hs
      obtain ⟨e5, -⟩ := hs
      have g5 := Reg.ev (v := .pointer (some ⟨w.heap.size + 1, 0, none⟩)) e5
      have hx' : Below W2.heap.size W2 wx := hx
      have li := str7 (HS2_2.out.next hx')
      have hlm := run_ld (P := Tryz.prog) arrPage (HS0_2.out.next hx') HM.out
      have hll := run_ld (P := Tryz.prog) arrPage (HS1_2.out.next hx') HL.out
      have hln := run_ld (P := Tryz.prog) arrPage (HS3_2.out.next hx') HN.out
      exact Reg.obl_free rfl (Reg.wp_eqv (Option.some_ne_none _) (by go_simp) rfl)
    · intro ax wx hx hs
      obtain ⟨e2, -⟩ := hs
      have g2 := Reg.ev (v := .int .i64 no) e2
      exact Reg.obl_free rfl (Reg.wp_eqv (Option.some_ne_none _) (by go_simp) rfl)
    · intro ax wx hx hs
      obtain ⟨e22, e23, -⟩ := hs
      have g22 := Reg.ev (v := .agg (rowV last)) e22
      have g23 := Reg.ev (v := .int .i64 no) e23
      refine Reg.obl_free rfl ?_
      have hx' : Below W2.heap.size W2 wx := hx
      have hwx := hx'.size
      go_simp
      refine (PageW.withNext_any last HL.out no wx).mono ?_
      rintro e wy ⟨rfl, hby⟩
      exact Reg.done (Option.some_ne_none _) rfl hby
    · intro ax wx hx hs
      obtain ⟨e21, e24, -⟩ := hs
      have g21 := Reg.ev (v := .agg (rowV last)) e21
      have g24 := Reg.ev (v := .agg (rowV (PlanP.withNext last no))) e24
      refine Reg.obl_free rfl ?_
      have hx' : Below W2.heap.size W2 wx := hx
      have hwx := hx'.size
      go_simp
      refine (DiffW.diff_any last (PlanP.withNext last no) HL.out HXL.out wx).mono ?_
      rintro e wy ⟨A1, n1, c1, rfl, hO, hby⟩
      exact Reg.done (Option.some_ne_none _) ⟨A1, n1, c1, rfl, hO.less hwx⟩ hby
    · intro ax wx hx hs
      obtain ⟨e20, e25, -⟩ := hs
      have g20 := Reg.ev (v := .int .i64 (NumP.val last 12 2)) e20
      refine Reg.obl_free rfl ?_
      obtain ⟨A2, n2, c2, e25, hO⟩ := e25
      have g25 := Reg.ev e25
      exact Reg.wp_same (Option.some_ne_none _) (by go_simp) ⟨A2, n2, c2, rfl, hO⟩
    · intro ax wx hx hs
      obtain ⟨e4, -⟩ := hs
      have g4 := Reg.ev (v := .pointer (some ⟨w.heap.size, 0, none⟩)) e4
      have hx' : Below W2.heap.size W2 wx := hx
      have li := str7 (HS2_2.out.next hx')
      have hlm := run_ld (P := Tryz.prog) arrPage (HS0_2.out.next hx') HM.out
      have hll := run_ld (P := Tryz.prog) arrPage (HS1_2.out.next hx') HL.out
      have hln := run_ld (P := Tryz.prog) arrPage (HS3_2.out.next hx') HN.out
      exact Reg.obl_free rfl (Reg.wp_eqv (Option.some_ne_none _) (by go_simp) rfl)
    · intro ax wx hx hs
      obtain ⟨e27, -⟩ := hs
      have g27 := Reg.ev (v := .agg (rowV m)) e27
      refine Reg.obl_free rfl ?_
      have hx' : Below W2.heap.size W2 wx := hx
      have hwx := hx'.size
      go_simp
      refine (PageW.no_any m HM.out wx).mono ?_
      rintro e wy ⟨rfl, hby⟩
      exact Reg.done (Option.some_ne_none _) rfl hby
    · intro ax wx hx hs
      obtain ⟨e4, -⟩ := hs
      have g4 := Reg.ev (v := .pointer (some ⟨w.heap.size, 0, none⟩)) e4
      have hx' : Below W2.heap.size W2 wx := hx
      have li := str7 (HS2_2.out.next hx')
      have hlm := run_ld (P := Tryz.prog) arrPage (HS0_2.out.next hx') HM.out
      have hll := run_ld (P := Tryz.prog) arrPage (HS1_2.out.next hx') HL.out
      have hln := run_ld (P := Tryz.prog) arrPage (HS3_2.out.next hx') HN.out
      exact Reg.obl_free rfl (Reg.wp_eqv (Option.some_ne_none _) (by go_simp) rfl)
    · intro ax wx hx hs
      obtain ⟨e4, -⟩ := hs
      have g4 := Reg.ev (v := .pointer (some ⟨w.heap.size, 0, none⟩)) e4
      have hx' : Below W2.heap.size W2 wx := hx
      have li := str7 (HS2_2.out.next hx')
      have hlm := run_ld (P := Tryz.prog) arrPage (HS0_2.out.next hx') HM.out
      have hll := run_ld (P := Tryz.prog) arrPage (HS1_2.out.next hx') HL.out
      have hln := run_ld (P := Tryz.prog) arrPage (HS3_2.out.next hx') HN.out
      exact Reg.obl_free rfl (Reg.wp_eqv (Option.some_ne_none _) (by go_simp) rfl)
    · intro ax wx hx hs
      obtain ⟨e2, -⟩ := hs
      have g2 := Reg.ev (v := .int .i64 no) e2
      exact Reg.obl_free rfl (Reg.wp_eqv (Option.some_ne_none _) (by go_simp) rfl)
    · intro ax wx hx hs
      obtain ⟨e31, -⟩ := hs
      have g31 := Reg.ev (v := .int .i64 no) e31
      refine Reg.obl_free rfl ?_
      exact Reg.wp_eqv (Option.some_ne_none _) (by go_simp; exact IntWalk.i64_in _ (by omega)) rfl
    · intro ax wx hx hs
      obtain ⟨e30, e32, -⟩ := hs
      have g30 := Reg.ev (v := .agg (rowV m)) e30
      have g32 := Reg.ev (v := .int .i64 (no + 1)) e32
      refine Reg.obl_free rfl ?_
      have hx' : Below W2.heap.size W2 wx := hx
      have hwx := hx'.size
      go_simp
      refine (PageW.withNext_any m HM.out (no + 1) wx).mono ?_
      rintro e wy ⟨rfl, hby⟩
      exact Reg.done (Option.some_ne_none _) rfl hby
    · intro ax wx hx hs
      obtain ⟨e29, e33, -⟩ := hs
      have g29 := Reg.ev (v := .agg (rowV m)) e29
      have g33 := Reg.ev (v := .agg (rowV (PlanP.withNext m (no + 1)))) e33
      refine Reg.obl_free rfl ?_
      have hx' : Below W2.heap.size W2 wx := hx
      have hwx := hx'.size
      go_simp
      refine (DiffW.diff_any m (PlanP.withNext m (no + 1)) HM.out HXM.out wx).mono ?_
      rintro e wy ⟨A1, n1, c1, rfl, hO, hby⟩
      exact Reg.done (Option.some_ne_none _) ⟨A1, n1, c1, rfl, hO.less hwx⟩ hby
    · intro ax wx hx hs
      obtain ⟨e28, e34, -⟩ := hs
      have g28 := Reg.ev (v := .int .i64 (NumP.val m 12 2)) e28
      refine Reg.obl_free rfl ?_
      obtain ⟨A2, n2, c2, e34, hO⟩ := e34
      have g34 := Reg.ev e34
      exact Reg.wp_same (Option.some_ne_none _) (by go_simp) ⟨A2, n2, c2, rfl, hO⟩
    · intro ax wx hx hs
      obtain ⟨e18, e26, e35, -⟩ := hs
      refine Reg.obl_free rfl ?_
      have hx' : Below W2.heap.size W2 wx := hx
      have hwx := hx'.size
      obtain ⟨A1, n1, c1, e18, hO1⟩ := e18
      have g18 := Reg.ev e18
      obtain ⟨A2, n2, c2, e26, hO2⟩ := e26
      have g26 := Reg.ev e26
      obtain ⟨A3, n3, c3, e35, hO3⟩ := e35
      have g35 := Reg.ev e35
      have hbx : Below wx.heap.size wx (wx.alloc (.cells #[.int .i64 no, .bool true, .slice A1 n1 c1, .int .i64 (NumP.val last 12 2), .bool false, .slice A2 n2 c2, .int .i64 (NumP.val m 12 2), .bool false, .slice A3 n3 c3] 33)) := balloc (bsame wx) _
      have hS := Str.new wx #[.int .i64 no, .bool true, .slice A1 n1 c1, .int .i64 (NumP.val last 12 2), .bool false, .slice A2 n2 c2, .int .i64 (NumP.val m 12 2), .bool false, .slice A3 n3 c3] 33
      have hE := patch_three (x := ⟨no, true, DiffP.diff (PlanP.newP no) (PageP.withSlot (PlanP.newP no) 0 ⟨s, k, ⟨kind, data, lo, hi, val⟩⟩)⟩) (y := PlanP.next last no) (z := PlanP.next m (no + 1)) hS (hO1.next hbx).elems (hO2.next hbx).elems (hO3.next hbx).elems (by unfold In64; dsimp only; omega) (CellP.val_in last 12 2 (by omega)) (CellP.val_in m 12 2 (by omega))
      clear hS
      go_simp
      exact Reg.done (Option.some_ne_none _) ⟨_, 3, rfl, hE⟩ hbx
    · intro ax wx hx hs
      obtain ⟨e36, -⟩ := hs
      refine Reg.obl_free rfl ?_
      exact Reg.wp_same (Option.some_ne_none _) (by go_simp) e36
  · intro W3 hwf
    simp only [Reg.Fin]
    rintro _ rfl _ rfl _ rfl _ rfl _ rfl v17 h17 v18 h18 _ rfl _ rfl _ rfl _ rfl _ rfl _ rfl v25 h25 v26 h26 _ rfl _ rfl _ rfl _ rfl _ rfl _ rfl _ rfl v34 h34 v35 h35 v36 h36 v8 h8
    go_simp
    obtain ⟨A4, c4, rfl, hE⟩ := h8
    have hwf' : Below W2.heap.size W2 W3 := hwf
    have HE := Lib.hid hE
    have HBF := Lib.hid (bstep HB_2.out hwf')
    clear hwf hwf' hE
    go_wp2
    go_ret
    exact ⟨A4, c4, rfl, HE.out, HBF.out⟩
set_option maxRecDepth 100000 in
set_option maxHeartbeats 1000000 in
theorem refNext_any (p : List UInt8) (hp : p.length = 512) (no : Int) (Ap : Option Addr) (cp B : Nat) (w : World) (hY : Bytes w B Ap 512 cp p) (hB : B ≤ w.heap.size) :
    Calls Tryz.prog 39 #[.slice Ap 512 cp, .int .i64 no] w (GivesPatch w (PlanP.next p no)) := by
  have HL := Lib.hid hp
  have HY := Lib.hid hY
  have HXL := Lib.hid (PlanP.withNext_len hp no)
  clear hp hY
  go_enter Tryz.func39, Tryz.ntmps39
  go_wp2_with fail
  generalize hW0 : (w).alloc (.cells #[.int .i64 0, .bool false, .slice none 0 0] 33) = W0
  have HS0_0 : Hid (Str W0 (w.heap.size) #[.int .i64 0, .bool false, .slice none 0 0]) := Lib.hid (by rw [← hW0]; have := Str.new (w) #[.int .i64 0, .bool false, .slice none 0 0] 33; simpa using this)
  have HB_0 : Hid (Below w.heap.size w W0) := Lib.hid (by rw [← hW0]; exact balloc (bsame w) _)
  have hw_0 := HB_0.out.size
  have hz0 : W0.heap.size = w.heap.size + 1 := by rw [← hW0]; simp
  clear hW0
  obtain ⟨f0_0_0, f0_0_1, f0_0_2⟩ := str3 HS0_0.out
  have hl0_0 := HS0_0.out.lt
  have hf0_0 := fun j => HS0_0.out.frozen j
  clear hz0
  refine (RefPage.no_any Ap 512 cp B p W0 (HY.out.below (HB_0.out.mono hB))).mono ?_
  rintro e W0_ ⟨rfl, rfl⟩
  go_wp2_with fail
  refine (RefBytes.bytes_any 2 no W0 (by omega)).mono ?_
  rintro e W1 ⟨A1, n1, c1, rfl, hy1, hb1⟩
  have hn1 : n1 = 2 := by rw [← hy1.len, BeP.parts_length]
  subst hn1
  have HS0_1 := Lib.hid (HS0_0.out.next hb1)
  have HB_1 := Lib.hid (bstep HB_0.out hb1)
  have hw_1 := HB_1.out.size
  have hws_1 := (hb1).size
  clear f0_0_0 f0_0_1 f0_0_2 HS0_0 hf0_0
  clear hb1
  obtain ⟨f0_1_0, f0_1_1, f0_1_2⟩ := str3 HS0_1.out
  have hl0_1 := HS0_1.out.lt
  have hf0_1 := fun j => HS0_1.out.frozen j
  have HYb_1 := Lib.hid (hy1)
  clear hy1
  go_wp2_with fail
  refine (RefPage.put_any Ap 512 cp B p 14 A1 2 c1 W1.heap.size (BeP.parts 2 no) W1 (HY.out.below (HB_1.out.mono hB)) (by omega) HYb_1.out (Nat.le_refl _) (by omega) (by omega)).mono ?_
  rintro e W2 ⟨A2, n2, c2, rfl, hy2, hb2⟩
  have hn2 : n2 = 512 := by rw [← hy2.len]; exact HXL.out
  subst hn2
  have HS0_2 := Lib.hid (HS0_1.out.next hb2)
  have HB_2 := Lib.hid (bstep HB_1.out hb2)
  have hw_2 := HB_2.out.size
  have hws_2 := (hb2).size
  have HYb_2 := Lib.hid (HYb_1.out.next hb2)
  clear HYb_1
  clear f0_1_0 f0_1_1 f0_1_2 HS0_1 hf0_1
  clear hb2
  obtain ⟨f0_2_0, f0_2_1, f0_2_2⟩ := str3 HS0_2.out
  have hl0_2 := HS0_2.out.lt
  have hf0_2 := fun j => HS0_2.out.frozen j
  have HYx_2 := Lib.hid (hy2)
  clear hy2
  go_wp2_with fail
  refine (RefDiff.diff_any Ap A2 cp c2 B W2.heap.size p (PlanP.withNext p no) HL.out HXL.out W2 (HY.out.below (HB_2.out.mono hB)) (by omega) HYx_2.out (Nat.le_refl _)).mono ?_
  rintro e W3 ⟨A3, n3, c3, rfl, hO3, hb3⟩
  have HS0_3 := Lib.hid (HS0_2.out.next hb3)
  have HB_3 := Lib.hid (bstep HB_2.out hb3)
  have hw_3 := HB_3.out.size
  have hws_3 := (hb3).size
  have HYb_3 := Lib.hid (HYb_2.out.next hb3)
  have HYx_3 := Lib.hid (HYx_2.out.next hb3)
  clear HYb_2 HYx_2
  clear f0_2_0 f0_2_1 f0_2_2 HS0_2 hf0_2
  clear hb3
  obtain ⟨f0_3_0, f0_3_1, f0_3_2⟩ := str3 HS0_3.out
  have hl0_3 := HS0_3.out.lt
  have hf0_3 := fun j => HS0_3.out.frozen j
  have HO3 := Lib.hid hO3
  clear hO3
  go_wp2_with fail
  have hR := HS0_3.out
  have hg3 := grown_set (grown_set (grown_set (grown_refl W3 w.heap.size) 0 (.int .i64 (NumP.val p 12 2))) 1 (.bool false)) 2 (.slice A3 n3 c3)
  have hS3 := ((hR.set 0 (.int .i64 (NumP.val p 12 2))).set 1 (.bool false)).set 2 (.slice A3 n3 c3)
  have HB3 := Lib.hid (below_grown HB_3.out hg3 (Nat.le_refl _))
  have HOF := Lib.hid (HO3.out.grownU runE_byt hR rfl hg3 (HO3.out.not3 hR))
  obtain ⟨WF, hWF⟩ : ∃ WF, ((W3.setCell ⟨w.heap.size, 0, none⟩ (.int .i64 (NumP.val p 12 2))).setCell ⟨w.heap.size, 1, none⟩ (.bool false)).setCell ⟨w.heap.size, 2, none⟩ (.slice A3 n3 c3) = WF := ⟨_, rfl⟩
  rw [hWF] at hS3 HB3 HOF ⊢
  have lF := str3 (by simpa using hS3)
  clear hg3 hS3
  exact bodyPost_ret (v := .agg #[.int .i64 (NumP.val p 12 2), .bool false, .slice A3 n3 c3]) (by simp [results, Tryz.results39, go_sem, *]) rfl ⟨A3, n3, c3, rfl, HOF.out.less (by omega), HB3.out⟩
set_option maxRecDepth 100000 in
set_option maxHeartbeats 4000000 in
theorem refGrow_any (m last : List UInt8) (hm : m.length = 512) (hl : last.length = 512) (no : Int) (h0 : 0 ≤ no) (h1 : no ≤ 65535) (Am Al : Option Addr) (cm cl Bm Bl : Nat) (A : Option Addr) (n cap B : Nat) (x : Item) (w : World) (hYm : Bytes w Bm Am 512 cm m) (hBm : Bm ≤ w.heap.size) (hYl : Bytes w Bl Al 512 cl last) (hBl : Bl ≤ w.heap.size) (h : Bytes w B A n cap x.cell.data) (hB : B ≤ w.heap.size) (hk : x.key.size ≤ maxLen) :
    Calls Tryz.prog 17 #[.slice Am 512 cm, .slice Al 512 cl, .int .i64 no, SlotW.itemV A n cap x] w (GivesPats w (PlanP.grow m last no x) 3) := by
  have HM := Lib.hid hm
  have HL := Lib.hid hl
  have HYM := Lib.hid hYm
  have HYL := Lib.hid hYl
  have HN := Lib.hid (PlanP.newP_len no)
  have HNO := Lib.hid (PlanP.newP_no no h0 h1)
  have H := Lib.hid h
  have HK := Lib.hid hk
  have HNN : Hid (PlanP.newP no = SlotP.over (SlotP.zeros 512) 12 (BeP.parts 2 no)) := Lib.hid rfl
  clear hm hl h hk hYm hYl
  obtain ⟨s, k, kind, data, lo, hi, val⟩ := x
  dsimp only [SlotW.itemV] at *
  go_enter Tryz.func17, Tryz.ntmps17
  go_wp2_with fail
  generalize hW0 : (w).alloc (.cells #[.int .i64 s, .string k, .int .i64 kind, .slice A n cap, .int .i64 lo, .int .i64 hi, .int .i64 val] 27) = W0
  have HS0_0 : Hid (Str W0 (w.heap.size) #[.int .i64 s, .string k, .int .i64 kind, .slice A n cap, .int .i64 lo, .int .i64 hi, .int .i64 val]) := Lib.hid (by rw [← hW0]; have := Str.new (w) #[.int .i64 s, .string k, .int .i64 kind, .slice A n cap, .int .i64 lo, .int .i64 hi, .int .i64 val] 27; simpa using this)
  have HB_0 : Hid (Below w.heap.size w W0) := Lib.hid (by rw [← hW0]; exact balloc (bsame w) _)
  have hw_0 := HB_0.out.size
  have hz0 : W0.heap.size = w.heap.size + 1 := by rw [← hW0]; simp
  clear hW0
  obtain ⟨f0_0_0, f0_0_1, f0_0_2, f0_0_3, f0_0_4, f0_0_5, f0_0_6⟩ := str7 HS0_0.out
  have hl0_0 := HS0_0.out.lt
  clear hz0
  refine Reg.wp_region_tail (R := ext) (W := W0) [Reg.eqv (.int .i64 no), Reg.bytes (PlanP.newP no), Reg.eqv (.agg #[.int .i64 s, .string k, .int .i64 kind, .slice A n cap, .int .i64 lo, .int .i64 hi, .int .i64 val]), Reg.runsM W0.heap.size (fun A n c => .agg #[.int .i64 (NumP.val (PlanP.newP no) 12 2), .bool false, .slice A n c]) (PlanP.put (PlanP.newP no) 0 ⟨s, k, ⟨kind, data, lo, hi, val⟩⟩).runs, Reg.boxZ W0.heap.size #[.int .i64 0, .bool false, .slice none 0 0]] 24 5 _ [[(2, none)], [(10, some 0)], [(7, none)], [(11, some 1), (12, some 2)], []] rfl (by kernel_rfl) (by kernel_rfl) (by rfl) (by rfl) rfl (by kernel_rfl) ?_ [some 10, some 11, some 12, some 13, some 9] (by kernel_rfl) ?_
  · refine ⟨?_, ?_, ?_, ?_, ?_, trivial⟩
    · intro ax wx hx hs
      obtain ⟨e2, -⟩ := hs
      have g2 := Reg.ev (v := .int .i64 no) e2
      exact Reg.obl_free rfl (Reg.wp_eqv (Option.some_ne_none _) (by go_simp) rfl)
    · intro ax wx hx hs
      obtain ⟨e10, -⟩ := hs
      have g10 := Reg.ev (v := .int .i64 no) e10
      refine Reg.obl_free rfl ?_
      have hx' : Below W0.heap.size W0 wx := hx
      have hwx := hx'.size
      go_simp
      refine (RefPage.new_any no wx).mono ?_
      rintro e wy ⟨A4, n4, c4, rfl, hy4, hby⟩
      exact Reg.done (Option.some_ne_none _) ⟨A4, n4, c4, rfl, by rw [HNN.out]; exact hy4⟩ hby
    · intro ax wx hx hs
      obtain ⟨e7, -⟩ := hs
      have g7 := Reg.ev (v := .pointer (some ⟨w.heap.size, 0, none⟩)) e7
      have li := str7 (HS0_0.out.next hx)
      exact Reg.obl_free rfl (Reg.wp_eqv (Option.some_ne_none _) (by go_simp) rfl)
    · intro ax wx hx hs
      obtain ⟨e11, e12, -⟩ := hs
      have g12 := Reg.ev (v := .agg #[.int .i64 s, .string k, .int .i64 kind, .slice A n cap, .int .i64 lo, .int .i64 hi, .int .i64 val]) e12
      refine Reg.obl_free rfl ?_
      obtain ⟨A4, n4, c4, e11, hy4⟩ := e11
      have g11 := Reg.ev e11
      have hn4 : n4 = 512 := hy4.len.symm.trans HN.out
      subst hn4
      have hx' : Below W0.heap.size W0 wx := hx
      have hwx := hx'.size
      go_simp
      refine (refPut_any (PlanP.newP no) HN.out 0 A n cap B ⟨s, k, ⟨kind, data, lo, hi, val⟩⟩ wx A4 c4 wx.heap.size hy4 (Nat.le_refl _) (H.out.below ((HB_0.out.trans (hx'.mono HB_0.out.size)).mono hB)) (by omega) HK.out).mono ?_
      rintro e wy ⟨A5, n5, c5, rfl, hO, hby⟩
      exact Reg.done (Option.some_ne_none _) ⟨A5, n5, c5, rfl, hO.less hwx⟩ hby
    · intro ax wx hx hs
      refine Reg.obl_free rfl ?_
      have hx' : Below W0.heap.size W0 wx := hx
      have hwx := hx'.size
      have hbx : Below wx.heap.size wx (wx.alloc (.cells #[.int .i64 0, .bool false, .slice none 0 0] 33)) := balloc (bsame wx) _
      go_simp
      exact Reg.done (Option.some_ne_none _) ⟨_, rfl, hwx, Str.new _ _ _⟩ hbx
  · intro W1 hwf
    simp only [Reg.Fin]
    rintro _ rfl v11 h11 _ rfl v13 h13 v9 h9
    obtain ⟨g, rfl, hg, hSg⟩ := h9
    obtain ⟨A5, n5, c5, rfl, hO⟩ := h13
    rw [HNO.out]
    have hwf' : Below W0.heap.size W0 W1 := hwf
    have lR := str3 hSg
    have lf := fun j => hSg.frozen j
    have lt := hSg.lt
    have hg3 := grown_set (grown_set (grown_set (grown_refl W1 g) 0 (.int .i64 no)) 1 (.bool false)) 2 (.slice A5 n5 c5)
    have hS3 := ((hSg.set 0 (.int .i64 no)).set 1 (.bool false)).set 2 (.slice A5 n5 c5)
    have HB3 := Lib.hid (below_grown (bstep HB_0.out hwf') hg3 (by omega))
    have HO3 := Lib.hid (hO.grownU runE_byt hSg rfl hg3 (hO.not3 hSg))
    have HI3 := Lib.hid ((HS0_0.out.next hwf').grownO hg3 (by intro e; injection e; omega))
    obtain ⟨W2, hW2⟩ : ∃ W2, ((W1.setCell ⟨g, 0, none⟩ (.int .i64 no)).setCell ⟨g, 1, none⟩ (.bool false)).setCell ⟨g, 2, none⟩ (.slice A5 n5 c5) = W2 := ⟨_, rfl⟩
    have HS3 : Hid (Str W2 g #[.int .i64 no, .bool false, .slice A5 n5 c5]) := Lib.hid (by rw [← hW2]; simpa using hS3)
    rw [hW2] at HB3 HO3 HI3
    clear hS3 hO hg3 hwf hwf' hSg
    refine Reg.Goal.mk ?_
    go_simp
    clear hW2 lR lf lt
    have gR := str3 HS3.out
    have gf := fun j => HS3.out.frozen j
    have glt := HS3.out.lt
    go_wp2_with fail
    have hg4 := grown_set (grown_refl W2 g) 1 (.bool true)
    have hS4 := HS3.out.set 1 (.bool true)
    have HB4 := Lib.hid (below_grown HB3.out hg4 (by omega))
    have HO4 := Lib.hid (HO3.out.grownU runE_byt HS3.out rfl hg4 (HO3.out.not3 HS3.out))
    have HI4 := Lib.hid (HI3.out.grownO hg4 (by intro e; injection e; omega))
    obtain ⟨W3, hW3⟩ : ∃ W3, W2.setCell ⟨g, 1, none⟩ (.bool true) = W3 := ⟨_, rfl⟩
    have HS4 : Hid (Str W3 g #[.int .i64 no, .bool true, .slice A5 n5 c5]) := Lib.hid (by rw [← hW3]; simpa using hS4)
    rw [hW3] at HB4 HO4 HI4 ⊢
    have hw3 := HB4.out.size
    clear hW3 hg4 hS4 gR gf glt HS3 HB3 HO3 HI3
    refine Reg.wp_region_vals (R := ext) (W := W3) [Reg.eqv (.agg #[.int .i64 no, .bool true, .slice A5 n5 c5]), Reg.eqv (.slice Al 512 cl), Reg.eqv (.int .i64 no), Reg.runsM W3.heap.size (fun A n c => .agg #[.int .i64 (NumP.val last 12 2), .bool false, .slice A n c]) (PlanP.next last no).runs, Reg.eqv (.slice Am 512 cm), Reg.eqv (.int .i64 no), Reg.eqv (.int .i64 (no + 1)), Reg.runsM W3.heap.size (fun A n c => .agg #[.int .i64 (NumP.val m 12 2), .bool false, .slice A n c]) (PlanP.next m (no + 1)).runs, Reg.patsM (PlanP.grow m last no ⟨s, k, ⟨kind, data, lo, hi, val⟩⟩) 3, Reg.patsM (PlanP.grow m last no ⟨s, k, ⟨kind, data, lo, hi, val⟩⟩) 3] 24 [[(9, none)], [(1, none)], [(2, none)], [(16, some 1), (17, some 2)], [(0, none)], [(2, none)], [(20, some 5)], [(19, some 4), (21, some 6)], [(15, some 0), (18, some 3), (22, some 7)], [(23, some 8)]] rfl (by kernel_rfl) (by kernel_rfl) (by kernel_rfl) ?_ [some 15, some 16, some 17, some 18, some 19, some 20, some 21, some 22, some 23, some 8] (by kernel_rfl) ?_
    · refine ⟨?_, ?_, ?_, ?_, ?_, ?_, ?_, ?_, ?_, ?_, trivial⟩
      · intro ax wx hx hs
        obtain ⟨e9, -⟩ := hs
        have g9 := Reg.ev (v := .pointer (some ⟨g, 0, none⟩)) e9
        have li := str3 (HS4.out.next hx)
        exact Reg.obl_free rfl (Reg.wp_eqv (Option.some_ne_none _) (by go_simp) rfl)
      · intro ax wx hx hs
        obtain ⟨e1, -⟩ := hs
        have g1 := Reg.ev (v := .slice Al 512 cl) e1
        exact Reg.obl_free rfl (Reg.wp_eqv (Option.some_ne_none _) (by go_simp) rfl)
      · intro ax wx hx hs
        obtain ⟨e2, -⟩ := hs
        have g2 := Reg.ev (v := .int .i64 no) e2
        exact Reg.obl_free rfl (Reg.wp_eqv (Option.some_ne_none _) (by go_simp) rfl)
      · intro ax wx hx hs
        obtain ⟨e16, e17, -⟩ := hs
        have g16 := Reg.ev (v := .slice Al 512 cl) e16
        have g17 := Reg.ev (v := .int .i64 no) e17
        refine Reg.obl_free rfl ?_
        have hx' : Below W3.heap.size W3 wx := hx
        have hwx := hx'.size
        go_simp
        refine (refNext_any last HL.out no Al cl _ wx (HYL.out.below ((HB4.out.trans (hx'.mono hw3)).mono hBl)) (by omega)).mono ?_
        rintro e wy ⟨A6, n6, c6, rfl, hO, hby⟩
        exact Reg.done (Option.some_ne_none _) ⟨A6, n6, c6, rfl, hO.less hwx⟩ hby
      · intro ax wx hx hs
        obtain ⟨e0, -⟩ := hs
        have g0 := Reg.ev (v := .slice Am 512 cm) e0
        exact Reg.obl_free rfl (Reg.wp_eqv (Option.some_ne_none _) (by go_simp) rfl)
      · intro ax wx hx hs
        obtain ⟨e2, -⟩ := hs
        have g2 := Reg.ev (v := .int .i64 no) e2
        exact Reg.obl_free rfl (Reg.wp_eqv (Option.some_ne_none _) (by go_simp) rfl)
      · intro ax wx hx hs
        obtain ⟨e20, -⟩ := hs
        have g20 := Reg.ev (v := .int .i64 no) e20
        refine Reg.obl_free rfl ?_
        exact Reg.wp_eqv (Option.some_ne_none _) (by go_simp; exact IntWalk.i64_in _ (by omega)) rfl
      · intro ax wx hx hs
        obtain ⟨e19, e21, -⟩ := hs
        have g19 := Reg.ev (v := .slice Am 512 cm) e19
        have g21 := Reg.ev (v := .int .i64 (no + 1)) e21
        refine Reg.obl_free rfl ?_
        have hx' : Below W3.heap.size W3 wx := hx
        have hwx := hx'.size
        go_simp
        refine (refNext_any m HM.out (no + 1) Am cm _ wx (HYM.out.below ((HB4.out.trans (hx'.mono hw3)).mono hBm)) (by omega)).mono ?_
        rintro e wy ⟨A6, n6, c6, rfl, hO, hby⟩
        exact Reg.done (Option.some_ne_none _) ⟨A6, n6, c6, rfl, hO.less hwx⟩ hby
      · intro ax wx hx hs
        obtain ⟨e15, e18, e22, -⟩ := hs
        have g15 := Reg.ev (v := .agg #[.int .i64 no, .bool true, .slice A5 n5 c5]) e15
        refine Reg.obl_free rfl ?_
        have hx' : Below W3.heap.size W3 wx := hx
        have hwx := hx'.size
        have hO1 := HO4.out.next hx'
        obtain ⟨A2, n2, c2, e18, hO2⟩ := e18
        have g18 := Reg.ev e18
        obtain ⟨A3, n3, c3, e22, hO3⟩ := e22
        have g22 := Reg.ev e22
        have hbx : Below wx.heap.size wx (wx.alloc (.cells #[.int .i64 no, .bool true, .slice A5 n5 c5, .int .i64 (NumP.val last 12 2), .bool false, .slice A2 n2 c2, .int .i64 (NumP.val m 12 2), .bool false, .slice A3 n3 c3] 33)) := balloc (bsame wx) _
        have hS := Str.new wx #[.int .i64 no, .bool true, .slice A5 n5 c5, .int .i64 (NumP.val last 12 2), .bool false, .slice A2 n2 c2, .int .i64 (NumP.val m 12 2), .bool false, .slice A3 n3 c3] 33
        have hE := patch_three (x := ⟨no, true, DiffP.diff (PlanP.newP no) (PageP.withSlot (PlanP.newP no) 0 ⟨s, k, ⟨kind, data, lo, hi, val⟩⟩)⟩) (y := PlanP.next last no) (z := PlanP.next m (no + 1)) hS (hO1.next hbx).elems (hO2.next hbx).elems (hO3.next hbx).elems (by unfold In64; dsimp only; omega) (CellP.val_in last 12 2 (by omega)) (CellP.val_in m 12 2 (by omega))
        clear hS
        go_simp
        exact Reg.done (Option.some_ne_none _) ⟨_, 3, rfl, hE⟩ hbx
      · intro ax wx hx hs
        obtain ⟨e23, -⟩ := hs
        refine Reg.obl_free rfl ?_
        exact Reg.wp_same (Option.some_ne_none _) (by go_simp) e23
    · intro W4 hwf
      simp only [Reg.Fin]
      rintro _ rfl _ rfl _ rfl v18 h18 _ rfl _ rfl _ rfl v22 h22 v23 h23 v8 h8
      go_simp
      obtain ⟨A4, c4, rfl, hE⟩ := h8
      have hwf' : Below W3.heap.size W3 W4 := hwf
      have HE := Lib.hid hE
      have HBF := Lib.hid (bstep HB4.out hwf')
      clear hwf hwf' hE
      go_wp2
      go_ret
      exact ⟨A4, c4, rfl, HE.out, HBF.out⟩
end PlanW
end Go.Proofs.YtpklclnehlgcpaaGreat
end
section
namespace Go.Proofs.YtpklclnehlgcpaaGreat.Reg
open Go.RowKit

/-- one word, at place j -/
def only {R : Way} (j : Nat) (p : SP R) : List (SP R) := List.replicate j any ++ [p]
section
variable {R : Way} {P : Program} {ops : Array Oper} {Q : Exit → Act → World → Prop} {T : List (SP R)} {a0 a : Act} {W w : World} {j : Nat} {o : Oper}
end
end Go.Proofs.YtpklclnehlgcpaaGreat.Reg
end
