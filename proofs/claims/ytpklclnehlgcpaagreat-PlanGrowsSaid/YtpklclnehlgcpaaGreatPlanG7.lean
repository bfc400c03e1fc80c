/-
  Parts of the proof of PlanGrows.
-/
import Derived.Test.YtpklclnehlgcpaaGreatPlanG0
import Derived.Test.YtpklclnehlgcpaaGreatPlanG4
import Derived.Test.YtpklclnehlgcpaaGreatPlanG5
import Derived.Test.YtpklclnehlgcpaaGreatPlanG1
import Derived.Test.YtpklclnehlgcpaaGreatProg
section
namespace Go.Proofs.YtpklclnehlgcpaaGreat
open Go.RowKit
set_option linter.unusedVariables false
set_option linter.unusedSimpArgs false
theorem RefDiff.run_stS {P : Program} {w w1 : World} {ty : TypeId} {ad : Addr} {cs : Array Value} (hi : (P.info? ty).map (·.size) = some cs.size) (hst : (storeCells ad cs.toList).run P w = .ok () w1) : (stSem ty (.pointer (some ad)) (.agg cs)).run P w = .ok () w1 := by
  have hrun : (storeVar ty ad (.agg cs)).run P w = .ok () w1 := by
    cases hq : P.info? ty with
    | none => simp [hq] at hi
    | some i =>
      have hs : cs.size = i.size := by simp [hq] at hi; omega
      simp [storeVar, sizeOf, typeInfo, hq, Value.cells, hs, hst]
  simp only [stSem, Instr.storeAt, Instr.sureAddr, Sem.run_bind, Sem.run_pure, Result.andThen_ok]
  exact hrun
namespace RefDiff
theorem infoRun : (Tryz.prog.info? 79).map (fun i => (i.zero, i.size, i.bytes)) = some (some (.agg #[.int .i64 0, .slice none 0 0]), 2, 32) := by kernel_rfl
theorem stR_fold (a v : Value) : Instr.storeAt 79 a v = stSem 79 a v := rfl
/-- a run of one byte, as it is laid together -/
theorem run_lit {T TU TE : TypeId} {W : World} {base n1 c1 : Nat} {A1 : Option Addr} {l : List RunX} (h : OwnE RunE T W base A1 n1 c1 l) (x : UInt8) (at_ : Int) (hin : In64 at_) :
    ElemsIn RunE (hid A1 ((W.alloc (.cells #[.int .u8 (x.toNat : Int)] TU)).alloc (.cells #[.int .i64 at_, .slice (some ⟨W.heap.size, 0, none⟩) 1 1] TE))) ((W.alloc (.cells #[.int .u8 (x.toNat : Int)] TU)).alloc (.cells #[.int .i64 at_, .slice (some ⟨W.heap.size, 0, none⟩) 1 1] TE)) ((W.alloc (.cells #[.int .u8 (x.toNat : Int)] TU)).alloc (.cells #[.int .i64 at_, .slice (some ⟨W.heap.size, 0, none⟩) 1 1] TE)).heap.size (some ⟨W.heap.size + 1, 0, none⟩) 1 1 [⟨at_, [x]⟩] := by
  obtain ⟨V, hV⟩ : ∃ V, (W.alloc (.cells #[.int .u8 (x.toNat : Int)] TU)).alloc (.cells #[.int .i64 at_, .slice (some ⟨W.heap.size, 0, none⟩) 1 1] TE) = V := ⟨_, rfl⟩
  have h1 : Str V W.heap.size #[.int .u8 (x.toNat : Int)] := by rw [← hV]; exact (Str.new W _ _).alloc _
  have h2 : Str V (W.heap.size + 1) #[.int .i64 at_, .slice (some ⟨W.heap.size, 0, none⟩) 1 1] := by
    rw [← hV]
    have := Str.new (W.alloc (.cells #[.int .u8 (x.toNat : Int)] TU)) #[.int .i64 at_, .slice (some ⟨W.heap.size, 0, none⟩) 1 1] TE
    simpa using this
  rw [hV]
  clear hV
  have hc : (hid A1 V).cell? ⟨W.heap.size, 0, none⟩ = some (.int .u8 (x.toNat : Int)) := by
    have h3 := str1 h1
    cases hA : A1 with
    | none => exact h3
    | some a =>
      have := ownE_lt h a hA
      show (hide V a.block).cell? _ = _
      rw [hide_other V a.block _ (by show W.heap.size ≠ a.block; omega)]
      exact h3
  refine ⟨[[.int .i64 at_, .slice (some ⟨W.heap.size, 0, none⟩) 1 1]], ⟨⟨_, _, _, rfl, ⟨rfl, Nat.le_refl _, by unfold maxLen; omega, fun _ => ⟨_, 0, rfl, h1.lt, fun j u hj => ?_⟩⟩, hin⟩, trivial⟩, rfl, Nat.le_refl _, by unfold maxLen; omega, fun _ => ⟨_, 0, rfl, h2.lt, fun j v hv => ?_⟩⟩
  · cases j with
    | zero => simp at hj; subst hj; simpa [byteV] using hc
    | succ j => simp at hj
  · rw [List.flatten_singleton] at hv
    rw [h2.cell, Nat.zero_add]
    simpa using hv
/-- the last run goes on -/
theorem run_set {T : TypeId} {W : World} {base n1 c1 B nb cb lo hi : Nat} {A1 : Option Addr} {Av : Option Addr} {l : List RunX} {r : RunX} {b : List UInt8} (h : OwnE RunE T W base A1 (n1 + 1) c1 (l ++ [r])) (hb : Bytes W B Av nb cb b) (hB : B ≤ base) (hsz : B ≤ W.heap.size) (h1 : lo ≤ hi) (h2 : hi ≤ nb) (h3 : hi ≤ 512) :
    ∃ g W1, A1 = some ⟨g, 0, none⟩ ∧ base ≤ g ∧ g < W.heap.size ∧ (stSem 79 (.pointer (some ⟨g, n1 * 2, none⟩)) (.agg #[.int .i64 (lo : Int), .slice (cutA Av lo cb 1) (hi - lo) (cb - lo)])).run Tryz.prog W = .ok () W1 ∧ OwnE RunE T W1 base A1 (n1 + 1) c1 (l ++ [DiffP.cutRun b lo hi]) ∧ W.grownBy W1 (some g) ∧ W1.heap.size = W.heap.size := by
  have hlen := h.len
  rw [List.length_append, List.length_singleton] at hlen
  have hcap := hb.2.1
  have hge := h.ge
  obtain ⟨g, W1, e, hg, hgl, hst, hO, hgr, hz⟩ := h.write (P := Tryz.prog) (j := n1) (i := 0) (s := (#[.int .i64 (lo : Int), .slice (cutA Av lo cb 1) (hi - lo) (cb - lo)] : Array Value).toList) (x := DiffP.cutRun b lo hi) (by omega) (by show 0 + 2 ≤ 2; omega) (by
    intro v hv
    simp only [List.mem_cons, List.not_mem_nil, or_false] at hv
    rcases hv with rfl | rfl <;> rfl) (by
    intro g vs e hr
    have hvl := RunE.len (hr r (by rw [List.getElem?_append_right (by omega), show n1 - l.length = 0 by omega]; rfl))
    have e2 : overV vs 0 (#[.int .i64 (lo : Int), .slice (cutA Av lo cb 1) (hi - lo) (cb - lo)] : Array Value).toList = (#[.int .i64 (lo : Int), .slice (cutA Av lo cb 1) (hi - lo) (cb - lo)] : Array Value).toList := by
      unfold overV
      rw [List.take_zero, List.nil_append, List.drop_of_length_le (by rw [hvl]; show 2 ≤ 0 + 2; omega), List.append_nil]
    rw [e2]
    have hy := (hb.cut lo hi cb h1 h2 (by omega) (Nat.le_refl _))
    exact ⟨_, _, _, rfl, (hy.sub (sub_hide_lt W (Nat.le_trans hB (hge _ e)))).more hsz, by unfold In64 DiffP.cutRun; dsimp only; omega⟩)
  refine ⟨g, W1, e, hg, hgl, run_stS (by kernel_rfl) hst, ?_, hgr, hz⟩
  have e3 : (l ++ [r]).set n1 (DiffP.cutRun b lo hi) = l ++ [DiffP.cutRun b lo hi] := by
    rw [List.set_append_right _ _ (by omega), show n1 - l.length = 0 by omega]
    rfl
  rwa [e3] at hO
attribute [local go_sem ↓] app_fold stR_fold

set_option maxRecDepth 100000 in
set_option maxHeartbeats 2000000 in
theorem diff_any (A A' : Option Addr) (c c' B B' : Nat) (a b : List UInt8) (ha : a.length = 512) (hb : b.length = 512) (w : World) (h : Bytes w B A 512 c a) (hB : B ≤ w.heap.size) (h' : Bytes w B' A' 512 c' b) (hB' : B' ≤ w.heap.size) :
    Calls Tryz.prog 29 #[.slice A 512 c, .slice A' 512 c'] w fun e w' => ∃ A1 n1 c1, e = .returned (.slice A1 n1 c1) ∧ OwnE RunE 79 w' w.heap.size A1 n1 c1 (DiffP.diff a b) ∧ Below w.heap.size w w' := by
  have hx' := h'.2.2.2
  obtain ⟨ba, oa, rfl, hba, hca⟩ := h.2.2.2 (by omega)
  obtain ⟨bb, ob, eb, hbb, hcb⟩ := h'.2.2.2 (by omega)
  have hcap := h'.2.1
  have hcm := h'.2.2.1
  subst eb
  obtain ⟨i0, hi, hz0, hz1, hz2⟩ := info_parts infoRun
  have HI := Lib.hid hi
  have HY := Lib.hid h'
  have HA := Lib.hid ha
  have HB := Lib.hid hb
  have HCA := Lib.hid hca
  have HCB := Lib.hid hcb
  clear ha hb h h' hca hcb hi
  go_enter Tryz.func29, Tryz.ntmps29
  go_wp2
  go_loopw [5, 6, 7] (fun lv mv iv wr => ∃ (k n1 c1 : Nat) (A1 : Option Addr), k ≤ 500 ∧ iv = .int .i64 (12 + (k : Int)) ∧ mv = .int .i64 (DiffP.last (DiffP.st a b k)) ∧ lv = .slice A1 n1 c1 ∧ Hid (OwnE RunE 79 wr w.heap.size A1 n1 c1 (DiffP.cut b (DiffP.st a b k)) ∧ Below w.heap.size w wr)) (fun _ _ iv _ => (512 - intOf iv).toNat)
  case atStart => exact ⟨0, 0, 0, none, by omega, rfl, rfl, rfl, Lib.hid ⟨OwnE.none_ _ _ _ _, Below.refl _ _⟩⟩
  case round =>
    obtain ⟨k, n1, c1, A1, hk, rfl, rfl, rfl, HK⟩ := hrel
    have hwr := HK.out.2.size
    have hl1 : n1 ≤ 501 := by
      rw [← HK.out.1.len]
      have h1 := (DiffP.run_in b (DiffP.places a b k)).2
      have h2 := DiffP.places_len a b k
      unfold DiffP.cut DiffP.st
      split
      · rw [List.length_append, List.length_singleton]; omega
      · omega
    by_cases hlt : k < 500
    · obtain ⟨x, hx⟩ : ∃ x, a[12 + k]? = some x := ⟨_, List.getElem?_eq_getElem (by have := HA.out; omega)⟩
      obtain ⟨y, hy⟩ : ∃ y, b[12 + k]? = some y := ⟨_, List.getElem?_eq_getElem (by have := HB.out; omega)⟩
      have ca : wr.cell? ⟨ba, oa + (12 + k), none⟩ = some (.int .u8 (x.toNat : Int)) := (HK.out.2.cell (p := ⟨ba, oa + (12 + k), none⟩) (by show ba < _; omega)).trans (HCA.out _ _ hx)
      have cb : wr.cell? ⟨bb, ob + (12 + k), none⟩ = some (.int .u8 (y.toNat : Int)) := (HK.out.2.cell (p := ⟨bb, ob + (12 + k), none⟩) (by show bb < _; omega)).trans (HCB.out _ _ hy)
      have hd : decide (12 + (k : Int) < 512) = true := by simp; omega
      have hbaw : ba < wr.heap.size := by omega
      have hbbw : bb < wr.heap.size := by omega
      have HXY : Hid (a[12 + k]? = some x ∧ b[12 + k]? = some y) := Lib.hid ⟨hx, hy⟩
      clear hx hy
      by_cases hxy : x = y
      · subst hxy
        have HU := Lib.hid (DiffP.st_eq (a := a) (b := b) (k := k) (by unfold DiffP.unlike; rw [HXY.out.1, HXY.out.2]; simp))
        have htn : (12 + (k : Int)).toNat = 12 + k := by omega
        go_wp2_with fail
        refine Reg.wp_region_vals (R := ext) (W := wr) [Reg.eqv (.slice (some ⟨ba, oa, none⟩) 512 c), Reg.eqv (.int .i64 (12 + (k : Int))), Reg.eqv (.pointer (some ⟨ba, oa + (12 + k), none⟩)), Reg.eqv (.int .u8 (x.toNat : Int)), Reg.eqv (.slice (some ⟨bb, ob, none⟩) 512 c'), Reg.eqv (.int .i64 (12 + (k : Int))), Reg.eqv (.pointer (some ⟨bb, ob + (12 + k), none⟩)), Reg.eqv (.int .u8 (x.toNat : Int)), Reg.eqv (.bool true)] 57 [[(0, none)], [(7, none)], [(13, some 0), (14, some 1)], [(15, some 2)], [(1, none)], [(7, none)], [(17, some 4), (18, some 5)], [(19, some 6)], [(16, some 3), (20, some 7)]] rfl (by kernel_rfl) (by kernel_rfl) (by kernel_rfl) ?_ [some 13, some 14, some 15, some 16, some 17, some 18, some 19, some 20, some 21] (by kernel_rfl) ?_
        · refine ⟨?_, ?_, ?_, ?_, ?_, ?_, ?_, ?_, ?_, trivial⟩
          · intro ax wx hx hs
            obtain ⟨e0, -⟩ := hs
            have g0 := Reg.ev (v := .slice (some ⟨ba, oa, none⟩) 512 c) e0
            exact Reg.obl_free rfl (Reg.wp_eqv (Option.some_ne_none _) (by go_simp) rfl)
          · intro ax wx hx hs
            obtain ⟨e7, -⟩ := hs
            have g7 := Reg.ev (v := .int .i64 (12 + (k : Int))) e7
            exact Reg.obl_free rfl (Reg.wp_eqv (Option.some_ne_none _) (by go_simp) rfl)
          · intro ax wx hx hs
            obtain ⟨e13, e14, -⟩ := hs
            have g13 := Reg.ev (v := .slice (some ⟨ba, oa, none⟩) 512 c) e13
            have g14 := Reg.ev (v := .int .i64 (12 + (k : Int))) e14
            refine Reg.obl_free rfl ?_
            exact Reg.wp_eqv (Option.some_ne_none _) (by go_simp; first | done | (intro hq; omega)) rfl
          · intro ax wx hx hs
            obtain ⟨e15, -⟩ := hs
            have g15 := Reg.ev (v := .pointer (some ⟨ba, oa + (12 + k), none⟩)) e15
            have q0 : wx.cell? ⟨ba, oa + (12 + k), none⟩ = some (.int .u8 (x.toNat : Int)) := (hx.cell (p := ⟨ba, oa + (12 + k), none⟩) hbaw).trans ca
            have q1 : wx.cell? ⟨bb, ob + (12 + k), none⟩ = some (.int .u8 (x.toNat : Int)) := (hx.cell (p := ⟨bb, ob + (12 + k), none⟩) hbbw).trans cb
            exact Reg.obl_free rfl (Reg.wp_eqv (Option.some_ne_none _) (by go_simp) rfl)
          · intro ax wx hx hs
            obtain ⟨e1, -⟩ := hs
            have g1 := Reg.ev (v := .slice (some ⟨bb, ob, none⟩) 512 c') e1
            exact Reg.obl_free rfl (Reg.wp_eqv (Option.some_ne_none _) (by go_simp) rfl)
          · intro ax wx hx hs
            obtain ⟨e7, -⟩ := hs
            have g7 := Reg.ev (v := .int .i64 (12 + (k : Int))) e7
            exact Reg.obl_free rfl (Reg.wp_eqv (Option.some_ne_none _) (by go_simp) rfl)
          · intro ax wx hx hs
            obtain ⟨e17, e18, -⟩ := hs
            have g17 := Reg.ev (v := .slice (some ⟨bb, ob, none⟩) 512 c') e17
            have g18 := Reg.ev (v := .int .i64 (12 + (k : Int))) e18
            refine Reg.obl_free rfl ?_
            exact Reg.wp_eqv (Option.some_ne_none _) (by go_simp; first | done | (intro hq; omega)) rfl
          · intro ax wx hx hs
            obtain ⟨e19, -⟩ := hs
            have g19 := Reg.ev (v := .pointer (some ⟨bb, ob + (12 + k), none⟩)) e19
            have q0 : wx.cell? ⟨ba, oa + (12 + k), none⟩ = some (.int .u8 (x.toNat : Int)) := (hx.cell (p := ⟨ba, oa + (12 + k), none⟩) hbaw).trans ca
            have q1 : wx.cell? ⟨bb, ob + (12 + k), none⟩ = some (.int .u8 (x.toNat : Int)) := (hx.cell (p := ⟨bb, ob + (12 + k), none⟩) hbbw).trans cb
            exact Reg.obl_free rfl (Reg.wp_eqv (Option.some_ne_none _) (by go_simp) rfl)
          · intro ax wx hx hs
            obtain ⟨e16, e20, -⟩ := hs
            have g16 := Reg.ev (v := .int .u8 (x.toNat : Int)) e16
            have g20 := Reg.ev (v := .int .u8 (x.toNat : Int)) e20
            refine Reg.obl_free rfl ?_
            exact Reg.wp_eqv (Option.some_ne_none _) (by go_simp; first | done | rfl) rfl
        · intro W2 hwf
          simp only [Reg.Fin]
          rintro _ rfl _ rfl _ rfl _ rfl _ rfl _ rfl _ rfl _ rfl _ rfl
          go_simp
          have hwf' : Below wr.heap.size wr W2 := hwf
          go_wp2
          go_roundw
          case rel => exact ⟨k + 1, n1, c1, A1, by omega, by congr 1 <;> omega, by rw [HU.out], rfl, Lib.hid ⟨by rw [HU.out]; exact HK.out.1.next hwf', bstep HK.out.2 hwf'⟩⟩
          case measure => simp [intOf]; try omega
      · have HU := Lib.hid (DiffP.st_ne (a := a) (b := b) (k := k) (by unfold DiffP.unlike; rw [HXY.out.1, HXY.out.2]; simpa using hxy))
        have HLS := Lib.hid (DiffP.last_step (b := b) (s := DiffP.st a b k) hlt)
        have hxne : ((x.toNat : Int) == (y.toNat : Int)) = false := by
          rw [beq_eq_false_iff_ne]; intro h; exact hxy (UInt8.toNat.inj (by omega))
        have htn : (12 + (k : Int)).toNat = 12 + k := by omega
        have hol := DiffP.opens_last (DiffP.st a b k) k hlt
        have hlb : -9 ≤ DiffP.last (DiffP.st a b k) ∧ DiffP.last (DiffP.st a b k) ≤ 512 := by
          have := (DiffP.run_in b (DiffP.places a b k)).1
          unfold DiffP.last DiffP.st
          split <;> omega
        go_wp2_with fail
        refine Reg.wp_region_vals (R := ext) (W := wr) [Reg.eqv (.slice (some ⟨ba, oa, none⟩) 512 c), Reg.eqv (.int .i64 (12 + (k : Int))), Reg.eqv (.pointer (some ⟨ba, oa + (12 + k), none⟩)), Reg.eqv (.int .u8 (x.toNat : Int)), Reg.eqv (.slice (some ⟨bb, ob, none⟩) 512 c'), Reg.eqv (.int .i64 (12 + (k : Int))), Reg.eqv (.pointer (some ⟨bb, ob + (12 + k), none⟩)), Reg.eqv (.int .u8 (y.toNat : Int)), Reg.eqv (.bool false)] 57 [[(0, none)], [(7, none)], [(13, some 0), (14, some 1)], [(15, some 2)], [(1, none)], [(7, none)], [(17, some 4), (18, some 5)], [(19, some 6)], [(16, some 3), (20, some 7)]] rfl (by kernel_rfl) (by kernel_rfl) (by kernel_rfl) ?_ [some 13, some 14, some 15, some 16, some 17, some 18, some 19, some 20, some 21] (by kernel_rfl) ?_
        · refine ⟨?_, ?_, ?_, ?_, ?_, ?_, ?_, ?_, ?_, trivial⟩
          · intro ax wx hx hs
            obtain ⟨e0, -⟩ := hs
            have g0 := Reg.ev (v := .slice (some ⟨ba, oa, none⟩) 512 c) e0
            exact Reg.obl_free rfl (Reg.wp_eqv (Option.some_ne_none _) (by go_simp) rfl)
          · intro ax wx hx hs
            obtain ⟨e7, -⟩ := hs
            have g7 := Reg.ev (v := .int .i64 (12 + (k : Int))) e7
            exact Reg.obl_free rfl (Reg.wp_eqv (Option.some_ne_none _) (by go_simp) rfl)
          · intro ax wx hx hs
            obtain ⟨e13, e14, -⟩ := hs
            have g13 := Reg.ev (v := .slice (some ⟨ba, oa, none⟩) 512 c) e13
            have g14 := Reg.ev (v := .int .i64 (12 + (k : Int))) e14
            refine Reg.obl_free rfl ?_
            exact Reg.wp_eqv (Option.some_ne_none _) (by go_simp; first | done | (intro hq; omega)) rfl
          · intro ax wx hx hs
            obtain ⟨e15, -⟩ := hs
            have g15 := Reg.ev (v := .pointer (some ⟨ba, oa + (12 + k), none⟩)) e15
            have q0 : wx.cell? ⟨ba, oa + (12 + k), none⟩ = some (.int .u8 (x.toNat : Int)) := (hx.cell (p := ⟨ba, oa + (12 + k), none⟩) hbaw).trans ca
            have q1 : wx.cell? ⟨bb, ob + (12 + k), none⟩ = some (.int .u8 (y.toNat : Int)) := (hx.cell (p := ⟨bb, ob + (12 + k), none⟩) hbbw).trans cb
            exact Reg.obl_free rfl (Reg.wp_eqv (Option.some_ne_none _) (by go_simp) rfl)
          · intro ax wx hx hs
            obtain ⟨e1, -⟩ := hs
            have g1 := Reg.ev (v := .slice (some ⟨bb, ob, none⟩) 512 c') e1
            exact Reg.obl_free rfl (Reg.wp_eqv (Option.some_ne_none _) (by go_simp) rfl)
          · intro ax wx hx hs
            obtain ⟨e7, -⟩ := hs
            have g7 := Reg.ev (v := .int .i64 (12 + (k : Int))) e7
            exact Reg.obl_free rfl (Reg.wp_eqv (Option.some_ne_none _) (by go_simp) rfl)
          · intro ax wx hx hs
            obtain ⟨e17, e18, -⟩ := hs
            have g17 := Reg.ev (v := .slice (some ⟨bb, ob, none⟩) 512 c') e17
            have g18 := Reg.ev (v := .int .i64 (12 + (k : Int))) e18
            refine Reg.obl_free rfl ?_
            exact Reg.wp_eqv (Option.some_ne_none _) (by go_simp; first | done | (intro hq; omega)) rfl
          · intro ax wx hx hs
            obtain ⟨e19, -⟩ := hs
            have g19 := Reg.ev (v := .pointer (some ⟨bb, ob + (12 + k), none⟩)) e19
            have q0 : wx.cell? ⟨ba, oa + (12 + k), none⟩ = some (.int .u8 (x.toNat : Int)) := (hx.cell (p := ⟨ba, oa + (12 + k), none⟩) hbaw).trans ca
            have q1 : wx.cell? ⟨bb, ob + (12 + k), none⟩ = some (.int .u8 (y.toNat : Int)) := (hx.cell (p := ⟨bb, ob + (12 + k), none⟩) hbbw).trans cb
            exact Reg.obl_free rfl (Reg.wp_eqv (Option.some_ne_none _) (by go_simp) rfl)
          · intro ax wx hx hs
            obtain ⟨e16, e20, -⟩ := hs
            have g16 := Reg.ev (v := .int .u8 (x.toNat : Int)) e16
            have g20 := Reg.ev (v := .int .u8 (y.toNat : Int)) e20
            refine Reg.obl_free rfl ?_
            exact Reg.wp_eqv (Option.some_ne_none _) (by go_simp; first | done | rfl) rfl
        · intro W2 hwf
          simp only [Reg.Fin]
          rintro _ rfl _ rfl _ rfl _ rfl _ rfl _ rfl _ rfl _ rfl _ rfl
          go_simp
          have hwf' : Below wr.heap.size wr W2 := hwf
          have HK2 : Hid (OwnE RunE 79 W2 w.heap.size A1 n1 c1 (DiffP.cut b (DiffP.st a b k)) ∧ Below w.heap.size w W2) := Lib.hid ⟨HK.out.1.next hwf', bstep HK.out.2 hwf'⟩
          have cb2 := (hwf'.cell (p := ⟨bb, ob + (12 + k), none⟩) hbbw).trans cb
          have hbb2 : bb < W2.heap.size := by have := hwf'.size; omega
          have hwr2 : w.heap.size ≤ W2.heap.size := HK2.out.2.size
          clear hwf hwf' ca cb HK hxne hbaw hbbw hwr
          rw [show ((12 + k : Nat) : Int) = 12 + (k : Int) by omega] at hol HLS
          cases ho : DiffP.opens (DiffP.st a b k) (DiffP.place k) with
          | true =>
            rw [ho] at hol
            have hd5 := hol.symm
            clear hol
            have HC := Lib.hid (DiffP.cut_opens (b := b) hlt ho HXY.out.2)
            have HO1 := Lib.hid (HK2.out.1)
            clear ho
            have hba2 : Below W2.heap.size W2 ((W2.alloc (.cells #[.int .u8 (y.toNat : Int)] 5)).alloc (.cells #[.int .i64 (12 + (k : Int)), .slice (some ⟨W2.heap.size, 0, none⟩) 1 1] 79)) := balloc (balloc (bsame W2) _) _
            obtain ⟨A3, c3, W3, happ, hO3, hB3, -, -⟩ := (HO1.out.next hba2).app (P := Tryz.prog) 31 31 i0 _ 32 Tryz.underlying31 HI.out hz0 hz1 hz2 rfl (run_lit HO1.out y (12 + (k : Int)) (by unfold In64; omega)) (by unfold maxLen; omega) (by omega) (by have := hba2.size; omega)
            have HO3 := Lib.hid hO3
            have HB3 := Lib.hid ((HK2.out.2.trans (hba2.mono hwr2)).trans hB3)
            clear hO3 hB3 hba2
            go_wp2
            go_roundw
            case rel => exact ⟨k + 1, n1 + 1, c3, A3, by omega, by congr 1 <;> omega, by rw [HU.out, HLS.out], rfl, Lib.hid ⟨by rw [HU.out, HC.out]; exact HO3.out, HB3.out⟩⟩
            case measure => simp [intOf]; try omega
          | false =>
            rw [ho] at hol
            have hd5 := hol.symm
            clear hol
            obtain ⟨h12, hft, hce, hcn⟩ := DiffP.cut_goes (DiffP.inv a b HB.out 0 (fun i _ _ => Nat.zero_le _) k hk) hlt ho
            have HCN := Lib.hid hcn
            have hO := HK2.out.1
            rw [hce] at hO
            clear ho hce hcn
            generalize (DiffP.st a b k).from_ = fr at *
            generalize (DiffP.st a b k).out = out at *
            have hlen := hO.len
            rw [List.length_append, List.length_singleton] at hlen
            obtain ⟨n0, rfl⟩ : ∃ n0, n1 = n0 + 1 := ⟨n1 - 1, by omega⟩
            have HYW := Lib.hid (HY.out.below ((HK2.out.2).mono hB'))
            obtain ⟨g, W3, e, hgb, hgl, hst, hO3, hg3, hz3⟩ := run_set (lo := fr) (hi := 12 + k + 1) hO HYW.out hB' (by omega) (by omega) (by omega) (by omega)
            obtain ⟨g', o', r, A2, n2, c2, e1, -, hr, -, -, q0, -⟩ := run_at hO.elems (show n0 < n0 + 1 by omega)
            subst e
            cases e1
            rw [show cutA (some ⟨bb, ob, none⟩) fr c' 1 = some ⟨bb, ob + fr, none⟩ by unfold cutA; rw [if_neg (by omega)]; simp [add_none]] at hst
            rw [List.getElem?_append_right (by omega), show n0 - out.length = 0 by omega] at hr
            injection hr with hr
            subst hr
            have q0' : W2.cell? ⟨g, n0 * 2, none⟩ = some (.int .i64 (fr : Int)) := by rw [Nat.zero_add] at q0; exact q0
            have HO3 := Lib.hid hO3
            have HB3 := Lib.hid (HK2.out.2.grown hg3 hwr2 (fun j e => by cases e; exact hgb))
            clear hO hO3 hg3 q0
            go_wp2
            go_roundw
            case rel => exact ⟨k + 1, n0 + 1, c1, some ⟨g, 0, none⟩, by omega, by congr 1 <;> omega, by rw [HU.out, HLS.out], rfl, Lib.hid ⟨by rw [HU.out, HCN.out]; exact HO3.out, HB3.out⟩⟩
            case measure => simp [intOf]; try omega
    · have hd : decide (12 + (k : Int) < 512) = false := by simp; omega
      obtain rfl : k = 500 := by omega
      go_wp2
      go_ret
      exact ⟨A1, n1, c1, rfl, HK.out.1, HK.out.2⟩
end RefDiff
end Go.Proofs.YtpklclnehlgcpaaGreat
end
section
namespace Go.Proofs.YtpklclnehlgcpaaGreat.Same
open Go.RowKit

theorem str_beq (l l' : List UInt8) : ((strOf l).toList == (strOf l').toList) = (l == l') := by
  rw [Lib.toList_data, Lib.toList_data, strOf_data, strOf_data]

set_option maxHeartbeats 400000 in
theorem same_any (A A' : Option Addr) (n c n' c' B B' : Nat) (l l' : List UInt8) (w : World) (h : Bytes w B A n c l) (h' : Bytes w B' A' n' c' l') :
    Calls Tryz.prog 12 #[.slice A n c, .slice A' n' c'] w fun e w' => e = .returned (.bool (l == l')) ∧ w = w' := by
  have h1 := run_str (P := Tryz.prog) 23 9 5 Tryz.underlying23 Tryz.underlying5 Tryz.underlying9 h
  have h2 := run_str (P := Tryz.prog) 23 9 5 Tryz.underlying23 Tryz.underlying5 Tryz.underlying9 h'
  clear h h'
  have HS := Lib.hid (str_beq l l')
  go_enter Tryz.func12, Tryz.ntmps12
  go_wp2
  go_ret
  rw [← HS.out]
  exact ⟨rfl, rfl⟩

set_option maxHeartbeats 400000 in
theorem equal_any (A A' : Option Addr) (n c n' c' B B' : Nat) (l l' : List UInt8) (w : World) (h : Bytes w B A n c l) (h' : Bytes w B' A' n' c' l') :
    Calls Tryz.prog 111 #[.slice A n c, .slice A' n' c'] w fun e w' => e = .returned (.bool (l == l')) ∧ w = w' := by
  have h1 := run_str (P := Tryz.prog) 23 9 5 Tryz.underlying23 Tryz.underlying5 Tryz.underlying9 h
  have h2 := run_str (P := Tryz.prog) 23 9 5 Tryz.underlying23 Tryz.underlying5 Tryz.underlying9 h'
  clear h h'
  have HS := Lib.hid (str_beq l l')
  go_enter Tryz.func111, Tryz.ntmps111
  go_wp2
  go_ret
  rw [← HS.out]
  exact ⟨rfl, rfl⟩
end Go.Proofs.YtpklclnehlgcpaaGreat.Same
end
section
namespace Go.Proofs.YtpklclnehlgcpaaGreat.PatchW
open Go.RowKit
set_option linter.unusedVariables false
set_option linter.unusedSimpArgs false
def code (b : Bool) : Int := if b then 0 else 1
set_option maxRecDepth 100000 in
set_option maxHeartbeats 1000000 in
theorem within_any (r : RunX) (A : Option Addr) (n c : Nat) (hn : r.data.length = n) (hm : n ≤ maxLen) (hi : In64 r.at_) (w : World) :
    Calls Tryz.prog 49 #[.agg #[.int .i64 r.at_, .slice A n c]] w fun e w' => e = .returned (.bool (PatchP.within r)) ∧ Below w.heap.size w w' := by
  have hs : PatchP.stop r = r.at_ + (n : Nat) := by unfold PatchP.stop; rw [hn]
  unfold maxLen at hm
  obtain ⟨hi1, hi2⟩ := hi
  obtain ⟨p, data⟩ := r
  dsimp only at *
  obtain ⟨W0, hW0⟩ : ∃ W, w.alloc (.cells #[.int .i64 p, .slice A n c] 79) = W := ⟨_, rfl⟩
  obtain ⟨HS0, HB0, hw0, hz0⟩ := new1 hW0
  have g0 := str2 HS0.out
  have hl0 := HS0.out.lt
  clear hz0
  by_cases c0 : 0 < n
  · have d0 : decide (0 < (n : Int)) = true := by simp; omega
    by_cases c1 : 12 ≤ p
    · have d1 : decide (12 ≤ p) = true := by simp; omega
      by_cases c2 : p < 512
      · have d2 : decide (p < 512) = true := by simp; omega
        by_cases c3 : (n : Int) ≤ 512 - p
        · have d3 : decide ((n : Int) ≤ 512 - p) = true := by simp; omega
          have hR : PatchP.within ⟨p, data⟩ = true := PatchP.within_yes _ ⟨by show 0 < data.length; omega, by show 12 ≤ p; omega, by omega⟩
          have HR := Lib.hid hR
          clear hR hs hn
          go_enter Tryz.func49, Tryz.ntmps49
          go_wp2
          go_ret
          exact ⟨by rw [HR.out]; rfl, HB0.out⟩
        · have d3 : decide ((n : Int) ≤ 512 - p) = false := by simp; omega
          have hR : PatchP.within ⟨p, data⟩ = false := PatchP.within_no _ (fun h => by obtain ⟨h1, h2, h3⟩ := h; dsimp only at h1 h2; omega)
          have HR := Lib.hid hR
          clear hR hs hn
          go_enter Tryz.func49, Tryz.ntmps49
          go_wp2
          go_ret
          exact ⟨by rw [HR.out]; rfl, HB0.out⟩
      · have d2 : decide (p < 512) = false := by simp; omega
        have hR : PatchP.within ⟨p, data⟩ = false := PatchP.within_no _ (fun h => by obtain ⟨h1, h2, h3⟩ := h; dsimp only at h1 h2; omega)
        have HR := Lib.hid hR
        clear hR hs hn
        go_enter Tryz.func49, Tryz.ntmps49
        go_wp2
        go_ret
        exact ⟨by rw [HR.out]; rfl, HB0.out⟩
    · have d1 : decide (12 ≤ p) = false := by simp; omega
      have hR : PatchP.within ⟨p, data⟩ = false := PatchP.within_no _ (fun h => by obtain ⟨h1, h2, h3⟩ := h; dsimp only at h1 h2; omega)
      have HR := Lib.hid hR
      clear hR hs hn
      go_enter Tryz.func49, Tryz.ntmps49
      go_wp2
      go_ret
      exact ⟨by rw [HR.out]; rfl, HB0.out⟩
  · have d0 : decide (0 < (n : Int)) = false := by simp; omega
    have hR : PatchP.within ⟨p, data⟩ = false := PatchP.within_no _ (fun h => by obtain ⟨h1, h2, h3⟩ := h; dsimp only at h1 h2; omega)
    have HR := Lib.hid hR
    clear hR hs hn
    go_enter Tryz.func49, Tryz.ntmps49
    go_wp2
    go_ret
    exact ⟨by rw [HR.out]; rfl, HB0.out⟩
end Go.Proofs.YtpklclnehlgcpaaGreat.PatchW
end
section
namespace Go.Proofs.YtpklclnehlgcpaaGreat.CellW
open Go.RowKit

set_option maxHeartbeats 1000000 in
theorem right_any (A : Option Addr) (n cap : Nat) (c : Cell) (w : World) (hl : c.data.length = n) (hn : n ≤ maxLen) :
    Calls Tryz.prog 70 #[.agg #[.int .i64 c.kind, .slice A n cap, .int .i64 c.lo, .int .i64 c.hi, .int .i64 c.val]] w fun e w' => e = .returned (.bool (CellP.right c)) ∧ Below w.heap.size w w' := by
  obtain ⟨kind, data, lo, hi, val⟩ := c
  dsimp only at *
  subst hl
  unfold maxLen at hn
  by_cases hk : kind = 1
  · subst hk
    go_enter Tryz.func70, Tryz.ntmps70
    go_wp2
    all_goals go_ret
    all_goals refine ⟨congrArg (fun b => Ending.returned (.bool b)) ?_, balloc (bsame _) _⟩
    all_goals simp_all [CellP.right]
    all_goals omega
  · go_enter Tryz.func70, Tryz.ntmps70
    go_wp2
    all_goals go_ret
    all_goals refine ⟨congrArg (fun b => Ending.returned (.bool b)) ?_, balloc (bsame _) _⟩
    all_goals simp_all [CellP.right]
    all_goals omega

theorem code_of (b : Bool) (n : Int) (h : n = CellP.code b) : Ending.returned (.int .i64 n) = Ending.returned (.int .i64 (CellP.code b)) := by rw [h]

set_option maxHeartbeats 1000000 in
theorem check_any (A : Option Addr) (n cap : Nat) (c : Cell) (w : World) (hl : c.data.length = n) (hn : n ≤ maxLen) :
    Calls Tryz.prog 82 #[.agg #[.int .i64 c.kind, .slice A n cap, .int .i64 c.lo, .int .i64 c.hi, .int .i64 c.val]] w fun e w' => e = .returned (.int .i64 (CellP.code (CellP.right c))) ∧ Below w.heap.size w w' := by
  obtain ⟨kind, data, lo, hi, val⟩ := c
  dsimp only at *
  subst hl
  unfold maxLen at hn
  by_cases hk : kind = 1
  · subst hk
    by_cases h1 : lo = 0
    · subst h1
      by_cases h2 : hi = 0
      · subst h2
        by_cases h3 : val = 0
        · subst h3
          by_cases h4 : data.length ≤ 32
          · have HR : Hid (0 = CellP.code (CellP.right ⟨1, data, 0, 0, 0⟩)) := Lib.hid (by simp [CellP.right, CellP.code, h4])
            go_enter Tryz.func82, Tryz.ntmps82
            go_wp2
            go_ret
            exact ⟨code_of _ _ HR.out, balloc (bsame _) _⟩
          · have HR : Hid (1 = CellP.code (CellP.right ⟨1, data, 0, 0, 0⟩)) := Lib.hid (by simp [CellP.right, CellP.code, h4])
            go_enter Tryz.func82, Tryz.ntmps82
            go_wp2
            go_ret
            exact ⟨code_of _ _ HR.out, balloc (bsame _) _⟩
        · have hb : (val != 0) = true := by simpa using h3
          have HR : Hid (1 = CellP.code (CellP.right ⟨1, data, 0, 0, val⟩)) := Lib.hid (by simp [CellP.right, CellP.code, h3])
          go_enter Tryz.func82, Tryz.ntmps82
          go_wp2
          go_ret
          exact ⟨code_of _ _ HR.out, balloc (bsame _) _⟩
      · have hb : (hi != 0) = true := by simpa using h2
        have HR : Hid (1 = CellP.code (CellP.right ⟨1, data, 0, hi, val⟩)) := Lib.hid (by simp [CellP.right, CellP.code, h2])
        go_enter Tryz.func82, Tryz.ntmps82
        go_wp2
        go_ret
        exact ⟨code_of _ _ HR.out, balloc (bsame _) _⟩
    · have hb : (lo != 0) = true := by simpa using h1
      have HR : Hid (1 = CellP.code (CellP.right ⟨1, data, lo, hi, val⟩)) := Lib.hid (by simp [CellP.right, CellP.code, h1])
      go_enter Tryz.func82, Tryz.ntmps82
      go_wp2
      go_ret
      exact ⟨code_of _ _ HR.out, balloc (bsame _) _⟩
  by_cases hk2 : kind = 2
  · subst hk2
    by_cases h1 : 0 < data.length
    · have hz : data.length ≠ 0 := by omega
      have HR : Hid (1 = CellP.code (CellP.right ⟨2, data, lo, hi, val⟩)) := Lib.hid (by simp [CellP.right, CellP.code]; intro h; simp [h] at h1)
      clear hz
      go_enter Tryz.func82, Tryz.ntmps82
      go_wp2
      go_ret
      exact ⟨code_of _ _ HR.out, balloc (bsame _) _⟩
    · have h1' : data = [] := List.eq_nil_of_length_eq_zero (by omega)
      subst h1'
      clear h1
      by_cases h2 : val < lo
      · have HR : Hid (1 = CellP.code (CellP.right ⟨2, [], lo, hi, val⟩)) := Lib.hid (by simp [CellP.right, CellP.code]; omega)
        go_enter Tryz.func82, Tryz.ntmps82
        go_wp2
        go_ret
        exact ⟨code_of _ _ HR.out, balloc (bsame _) _⟩
      · by_cases h3 : hi < val
        · have HR : Hid (1 = CellP.code (CellP.right ⟨2, [], lo, hi, val⟩)) := Lib.hid (by simp [CellP.right, CellP.code]; omega)
          go_enter Tryz.func82, Tryz.ntmps82
          go_wp2
          go_ret
          exact ⟨code_of _ _ HR.out, balloc (bsame _) _⟩
        · have HR : Hid (0 = CellP.code (CellP.right ⟨2, [], lo, hi, val⟩)) := Lib.hid (by
            have e1 : lo ≤ val := by omega
            have e2 : val ≤ hi := by omega
            simp [CellP.right, CellP.code, e1, e2])
          go_enter Tryz.func82, Tryz.ntmps82
          go_wp2
          go_ret
          exact ⟨code_of _ _ HR.out, balloc (bsame _) _⟩
  · have HR : Hid (1 = CellP.code (CellP.right ⟨kind, data, lo, hi, val⟩)) := Lib.hid (by simp [CellP.right, CellP.code, hk, hk2])
    have hb1 : (kind == 1) = false := by simpa using hk
    have hb2 : (kind == 2) = false := by simpa using hk2
    go_enter Tryz.func82, Tryz.ntmps82
    go_wp2
    go_ret
    exact ⟨code_of _ _ HR.out, balloc (bsame _) _⟩

set_option maxHeartbeats 1000000 in
theorem refSame_any (A A' : Option Addr) (n cap n' cap' B B' : Nat) (c d : Cell) (w : World) (h : Bytes w B A n cap c.data) (h' : Bytes w B' A' n' cap' d.data) (hB : B ≤ w.heap.size) (hB' : B' ≤ w.heap.size) :
    Calls Tryz.prog 86 #[.agg #[.int .i64 c.kind, .slice A n cap, .int .i64 c.lo, .int .i64 c.hi, .int .i64 c.val], .agg #[.int .i64 d.kind, .slice A' n' cap', .int .i64 d.lo, .int .i64 d.hi, .int .i64 d.val]] w
      fun e w' => e = .returned (.bool (CellP.same c d)) ∧ Below w.heap.size w w' := by
  obtain ⟨kind, data, lo, hi, val⟩ := c
  obtain ⟨kind', data', lo', hi', val'⟩ := d
  dsimp only at *
  have H := Lib.hid h
  have H' := Lib.hid h'
  clear h h'
  go_enter Tryz.func86, Tryz.ntmps86
  go_wp2_with (go_at_call 12; refine (Same.same_any _ _ _ _ _ _ _ _ _ _ _ ((H.out.alloc hB _).alloc (by simp; omega) _) ((H'.out.alloc hB' _).alloc (by simp; omega) _)).mono ?_; rintro e w' ⟨rfl, rfl⟩)
  all_goals go_ret
  all_goals refine ⟨congrArg (fun b => Ending.returned (.bool b)) ?_, balloc (balloc (bsame _) _) _⟩
  all_goals simp_all [CellP.same]

set_option maxHeartbeats 1000000 in
theorem same_any (A A' : Option Addr) (n cap n' cap' B B' : Nat) (c d : Cell) (w : World) (h : Bytes w B A n cap c.data) (h' : Bytes w B' A' n' cap' d.data) (hB : B ≤ w.heap.size) (hB' : B' ≤ w.heap.size) :
    Calls Tryz.prog 99 #[.agg #[.int .i64 c.kind, .slice A n cap, .int .i64 c.lo, .int .i64 c.hi, .int .i64 c.val], .agg #[.int .i64 d.kind, .slice A' n' cap', .int .i64 d.lo, .int .i64 d.hi, .int .i64 d.val]] w
      fun e w' => e = .returned (.bool (CellP.same c d)) ∧ Below w.heap.size w w' := by
  obtain ⟨kind, data, lo, hi, val⟩ := c
  obtain ⟨kind', data', lo', hi', val'⟩ := d
  dsimp only at *
  have H := Lib.hid h
  have H' := Lib.hid h'
  clear h h'
  go_enter Tryz.func99, Tryz.ntmps99
  go_wp2_with (go_at_call 111; refine (Same.equal_any _ _ _ _ _ _ _ _ _ _ _ ((H.out.alloc hB _).alloc (by simp; omega) _) ((H'.out.alloc hB' _).alloc (by simp; omega) _)).mono ?_; rintro e w' ⟨rfl, rfl⟩)
  all_goals go_ret
  all_goals refine ⟨congrArg (fun b => Ending.returned (.bool b)) ?_, balloc (balloc (bsame _) _) _⟩
  all_goals simp_all [CellP.same]

end Go.Proofs.YtpklclnehlgcpaaGreat.CellW
end
section
namespace Go.Proofs.YtpklclnehlgcpaaGreat.CellF
open Go.RowKit

theorem refSame (A A' : Option Addr) (n cap n' cap' B B' : Nat) (k lo hi v k' lo' hi' v' : Int) (d d' : List UInt8) (w : World) (h : Bytes w B A n cap d) (h' : Bytes w B' A' n' cap' d') (hB : B ≤ w.heap.size) (hB' : B' ≤ w.heap.size) :
    Calls Tryz.prog 86 #[.agg #[.int .i64 k, .slice A n cap, .int .i64 lo, .int .i64 hi, .int .i64 v], .agg #[.int .i64 k', .slice A' n' cap', .int .i64 lo', .int .i64 hi', .int .i64 v']] w
      fun e w' => e = .returned (.bool (CellP.same ⟨k, d, lo, hi, v⟩ ⟨k', d', lo', hi', v'⟩)) ∧ Below w.heap.size w w' :=
  CellW.refSame_any A A' n cap n' cap' B B' ⟨k, d, lo, hi, v⟩ ⟨k', d', lo', hi', v'⟩ w h h' hB hB'
theorem same (A A' : Option Addr) (n cap n' cap' B B' : Nat) (k lo hi v k' lo' hi' v' : Int) (d d' : List UInt8) (w : World) (h : Bytes w B A n cap d) (h' : Bytes w B' A' n' cap' d') (hB : B ≤ w.heap.size) (hB' : B' ≤ w.heap.size) :
    Calls Tryz.prog 99 #[.agg #[.int .i64 k, .slice A n cap, .int .i64 lo, .int .i64 hi, .int .i64 v], .agg #[.int .i64 k', .slice A' n' cap', .int .i64 lo', .int .i64 hi', .int .i64 v']] w
      fun e w' => e = .returned (.bool (CellP.same ⟨k, d, lo, hi, v⟩ ⟨k', d', lo', hi', v'⟩)) ∧ Below w.heap.size w w' :=
  CellW.same_any A A' n cap n' cap' B B' ⟨k, d, lo, hi, v⟩ ⟨k', d', lo', hi', v'⟩ w h h' hB hB'
theorem same_self (c : Cell) : CellP.same c c = true := by simp [CellP.same]
end Go.Proofs.YtpklclnehlgcpaaGreat.CellF
end
section
namespace Go.Proofs.YtpklclnehlgcpaaGreat.Key
open Go.RowKit

set_option maxHeartbeats 400000 in
theorem seen_any (c : Int) (w : World) :
    Calls Tryz.prog 100 #[.int .i32 c] w fun e w' => e = .returned (.bool (decide (33 ≤ c) && decide (c ≤ 126))) ∧ w = w' := by
  go_enter Tryz.func100, Tryz.ntmps100
  go_wp2
  all_goals go_ret
  all_goals simp_all
  all_goals omega

set_option maxHeartbeats 400000 in
theorem right_any (s : ByteArray) (w : World) (hs : s.size ≤ maxLen) :
    Calls Tryz.prog 69 #[.string s] w fun e w' => e = .returned (.bool (KeyP.right s.data.toList)) ∧ w = w' := by
  unfold maxLen at hs
  go_enter Tryz.func69, Tryz.ntmps69
  go_wp2
  go_loop [3] (fun i => ∃ k : Nat, k ≤ s.size ∧ i = .int .i64 k ∧ (s.data.toList.take k).all KeyP.okB = true) (fun i => s.size - (intOf i).toNat)
  case atStart => exact ⟨0, Nat.zero_le _, rfl, rfl⟩
  case round =>
    obtain ⟨k, hk, rfl, ha⟩ := hrel
    have HA := Lib.hid ha
    clear ha
    by_cases hlt : k < s.size
    · have hlo := KeyP.okB_lo s[k]
      have hhi := KeyP.okB_hi s[k]
      have hok := KeyP.okB_true s[k]
      have HLO := Lib.hid hlo
      have HHI := Lib.hid hhi
      have HOK := Lib.hid hok
      clear hlo hhi hok
      go_wp2
      · go_ret
        have h : ((s[k].toNat : Int) < 33) ∨ (126 < (s[k].toNat : Int)) := by assumption
        rw [KeyP.not_right_at s k hlt (by rcases h with h | h; exact HLO.out (by omega); exact HHI.out (by omega))]
        exact ⟨rfl, rfl⟩
      · go_round
        case rel => exact ⟨k + 1, by omega, by go_num, by rw [KeyP.all_take s k hlt, HA.out, HOK.out (by omega) (by omega)]; rfl⟩
        case measure => simp [intOf]; omega
      · go_ret
        have h : ((s[k].toNat : Int) < 33) := by assumption
        rw [KeyP.not_right_at s k hlt (HLO.out (by omega))]
        exact ⟨rfl, rfl⟩
    · go_wp2
      · go_ret
        have h : 0 < s.size := by assumption
        rw [KeyP.right_eq s (KeyP.all_of_take s k hlt HA.out) h]
        exact ⟨rfl, rfl⟩
      · go_ret
        have h : ¬ 0 < s.size := by assumption
        rw [KeyP.not_right_len s (by omega)]
        exact ⟨rfl, rfl⟩

set_option maxHeartbeats 400000 in
theorem check_any (s : ByteArray) (w : World) (hs : s.size ≤ maxLen) :
    Calls Tryz.prog 81 #[.string s] w fun e w' => e = .returned (.int .i64 (KeyP.code (KeyP.right s.data.toList))) ∧ Below w.heap.size w w' := by
  unfold maxLen at hs
  by_cases h0 : s.size < 1
  · go_enter Tryz.func81, Tryz.ntmps81
    go_wp2
    go_ret
    rw [KeyP.not_right_len s (by omega)]
    exact ⟨rfl, Below.refl _ _⟩
  by_cases h1 : 16 < s.size
  · go_enter Tryz.func81, Tryz.ntmps81
    go_wp2
    go_ret
    rw [KeyP.not_right_len s (by omega)]
    exact ⟨rfl, Below.refl _ _⟩
  go_enter Tryz.func81, Tryz.ntmps81
  go_wp2
  go_loopw [2] (fun n w' => ∃ (pos : Nat), w' = w.iter s pos ∧ n = .int .i64 0 ∧ pos ≤ s.size ∧ (s.data.toList.take pos).all KeyP.okB = true) (fun _ w' => s.size - w'.iterPos w.heap.size)
  case atStart => exact ⟨0, rfl, rfl, Nat.zero_le _, rfl⟩
  case round =>
    obtain ⟨pos, rfl, rfl, hp, ha⟩ := hrel
    have HA := Lib.hid ha
    clear ha
    by_cases hlt : pos < s.size
    · by_cases hascii : s[pos].toNat < 128
      · have hnx : ∀ ty, (Instr.next (.pointer (some ⟨w.heap.size, 0, none⟩)) true ty).run Tryz.prog (w.iter s pos) = _ := fun ty => run_next_ascii w s pos ty hlt hascii
        go_wp2_with (go_at_call 100; refine (seen_any _ _).mono ?_; rintro e w' ⟨rfl, rfl⟩)
        · go_ret
          have h : (!decide (33 ≤ (s[pos].toNat : Int))) = true ∨ (!decide ((s[pos].toNat : Int) ≤ 126)) = true := by assumption
          rw [KeyP.not_right_at s pos hlt (by rcases h with h | h; exact KeyP.okB_lo _ (by simp at h; omega); exact KeyP.okB_hi _ (by simp at h; omega))]
          exact ⟨rfl, (Below.refl _ _).alloc (Nat.le_refl _) _⟩
        · have h : (!decide (33 ≤ (s[pos].toNat : Int))) = false ∧ (!decide ((s[pos].toNat : Int) ≤ 126)) = false := by assumption
          have hok : KeyP.okB s[pos] = true := KeyP.okB_true _ (by simp at h; omega) (by simp at h; omega)
          go_roundw
          case rel => exact ⟨pos + 1, rfl, rfl, by omega, by rw [KeyP.all_take s pos hlt, HA.out, hok]; rfl⟩
          case measure => simp; omega
      · have hnx : ∀ ty, (Instr.next (.pointer (some ⟨w.heap.size, 0, none⟩)) true ty).run Tryz.prog (w.iter s pos) = _ := fun ty => run_next_any w s pos ty hlt
        have hd := (decode_high s pos hlt (by omega)).1
        go_wp2_with (go_at_call 100; refine (seen_any _ _).mono ?_; rintro e w' ⟨rfl, rfl⟩)
        · go_ret
          rw [KeyP.not_right_at s pos hlt (KeyP.okB_hi _ (by omega))]
          exact ⟨rfl, (Below.refl _ _).alloc (Nat.le_refl _) _⟩
        · have h : (!decide (33 ≤ ((Utf8.decode s pos).1 : Int))) = false ∧ (!decide (((Utf8.decode s pos).1 : Int) ≤ 126)) = false := by assumption
          simp at h
          omega
    · have hnx : ∀ ty, (Instr.next (.pointer (some ⟨w.heap.size, 0, none⟩)) true ty).run Tryz.prog (w.iter s pos) = _ := fun ty => run_next_end w s pos ty hlt
      go_wp2
      go_ret
      rw [KeyP.right_of s (KeyP.all_of_take s pos hlt HA.out) (by omega) (by omega)]
      exact ⟨rfl, (Below.refl _ _).alloc (Nat.le_refl _) _⟩

end Go.Proofs.YtpklclnehlgcpaaGreat.Key
end
section
namespace Go.Proofs.YtpklclnehlgcpaaGreat.SlotW
open Go.RowKit

/-- an item as a value -/
abbrev itemV (A : Option Addr) (n cap : Nat) (x : Item) : Value := .agg #[.int .i64 x.state, .string x.key, .int .i64 x.cell.kind, .slice A n cap, .int .i64 x.cell.lo, .int .i64 x.cell.hi, .int .i64 x.cell.val]

set_option maxHeartbeats 1000000 in
theorem refSame_any (A A' : Option Addr) (n cap n' cap' B B' : Nat) (x y : Item) (w : World) (h : Bytes w B A n cap x.cell.data) (h' : Bytes w B' A' n' cap' y.cell.data) (hB : B ≤ w.heap.size) (hB' : B' ≤ w.heap.size) :
    Calls Tryz.prog 68 #[itemV A n cap x, itemV A' n' cap' y] w fun e w' => e = .returned (.bool (SlotP.same x y)) ∧ Below w.heap.size w w' := by
  obtain ⟨s, k, kind, data, lo, hi, val⟩ := x
  obtain ⟨s', k', kind', data', lo', hi', val'⟩ := y
  dsimp only at *
  have H := Lib.hid h
  have H' := Lib.hid h'
  clear h h'
  go_enter Tryz.func68, Tryz.ntmps68
  go_wp2_with (go_at_call 86; refine (CellF.refSame _ _ _ _ _ _ _ _ _ _ _ _ _ _ _ _ _ _ _ ((H.out.alloc hB _).alloc (by simp; omega) _) ((H'.out.alloc hB' _).alloc (by simp; omega) _) (by simp; omega) (by simp; omega)).mono ?_; rintro e w' ⟨rfl, hb⟩)
  all_goals go_ret
  all_goals refine ⟨congrArg (fun b => Ending.returned (.bool b)) ?_, by first | exact bstep (balloc (balloc (bsame _) _) _) hb | exact balloc (balloc (bsame _) _) _⟩
  all_goals simp_all [SlotP.same]

set_option maxHeartbeats 1000000 in
theorem same_any (A A' : Option Addr) (n cap n' cap' B B' : Nat) (x y : Item) (w : World) (h : Bytes w B A n cap x.cell.data) (h' : Bytes w B' A' n' cap' y.cell.data) (hB : B ≤ w.heap.size) (hB' : B' ≤ w.heap.size) :
    Calls Tryz.prog 80 #[itemV A n cap x, itemV A' n' cap' y] w fun e w' => e = .returned (.bool (SlotP.same x y)) ∧ Below w.heap.size w w' := by
  obtain ⟨s, k, kind, data, lo, hi, val⟩ := x
  obtain ⟨s', k', kind', data', lo', hi', val'⟩ := y
  dsimp only at *
  have H := Lib.hid h
  have H' := Lib.hid h'
  clear h h'
  go_enter Tryz.func80, Tryz.ntmps80
  go_wp2_with (go_at_call 99; refine (CellF.same _ _ _ _ _ _ _ _ _ _ _ _ _ _ _ _ _ _ _ ((H.out.alloc hB _).alloc (by simp; omega) _) ((H'.out.alloc hB' _).alloc (by simp; omega) _) (by simp; omega) (by simp; omega)).mono ?_; rintro e w' ⟨rfl, hb⟩)
  all_goals go_ret
  all_goals refine ⟨congrArg (fun b => Ending.returned (.bool b)) ?_, by first | exact bstep (balloc (balloc (bsame _) _) _) hb | exact balloc (balloc (bsame _) _) _⟩
  all_goals simp_all [SlotP.same]

/-- against the empty slot -/
theorem empty_bytes (w : World) : Bytes w 0 none 0 0 (SlotP.none).cell.data := Bytes.none_ _ _

set_option maxHeartbeats 1000000 in
theorem right_any (A : Option Addr) (n cap B : Nat) (x : Item) (w : World) (h : Bytes w B A n cap x.cell.data) (hB : B ≤ w.heap.size) (hk : x.key.size ≤ maxLen) :
    Calls Tryz.prog 51 #[itemV A n cap x] w fun e w' => e = .returned (.bool (SlotP.right x)) ∧ Below w.heap.size w w' := by
  have HS := Lib.hid (fun W (hW : Bytes W B A n cap x.cell.data) (hB : B ≤ W.heap.size) => refSame_any A none n cap 0 0 B 0 x SlotP.none W hW (empty_bytes W) hB (Nat.zero_le _))
  have HC := Lib.hid (fun W => CellW.right_any A n cap x.cell W h.len (Nat.le_trans h.2.1 h.2.2.1))
  have HK := Lib.hid (fun W => Key.right_any x.key W hk)
  have H := Lib.hid h
  clear h
  obtain ⟨s, k, kind, data, lo, hi, val⟩ := x
  dsimp only at *
  by_cases hs : s = 0
  · subst hs
    have HR : Hid (SlotP.same ⟨0, k, kind, data, lo, hi, val⟩ SlotP.none = SlotP.right ⟨0, k, kind, data, lo, hi, val⟩) := Lib.hid (by simp [SlotP.right])
    go_enter Tryz.func51, Tryz.ntmps51
    go_wp2_with fail
    refine (HS.out _ (H.out.alloc hB _) (by simp; omega)).mono ?_
    rintro e w1 ⟨rfl, hb⟩
    go_wp2_with fail
    go_ret
    exact ⟨congrArg (fun b => Ending.returned (.bool b)) HR.out, bstep (balloc (bsame _) _) hb⟩
  · have hs0 : (s == 0) = false := by simpa using hs
    go_enter Tryz.func51, Tryz.ntmps51
    go_wp2_with (first
      | (go_at_call 69; refine (HK.out _).mono ?_; rintro e w1 ⟨rfl, rfl⟩)
      | (go_at_call 70; refine (HC.out _).mono ?_; rintro e w1 ⟨rfl, hb⟩))
    all_goals go_ret
    all_goals refine ⟨congrArg (fun b => Ending.returned (.bool b)) ?_, by first | exact bstep (balloc (bsame _) _) hb | exact balloc (bsame _) _⟩
    all_goals simp_all [SlotP.right]
end Go.Proofs.YtpklclnehlgcpaaGreat.SlotW
end
section
namespace Go.Proofs.YtpklclnehlgcpaaGreat.SlotW
open Go.RowKit

theorem code_true : CellP.code true = 0 := rfl
theorem code_false : CellP.code false = 1 := rfl

set_option maxHeartbeats 1000000 in
theorem check_any (A : Option Addr) (n cap B : Nat) (x : Item) (w : World) (h : Bytes w B A n cap x.cell.data) (hB : B ≤ w.heap.size) (hk : x.key.size ≤ maxLen) :
    Calls Tryz.prog 64 #[itemV A n cap x] w fun e w' => e = .returned (.int .i64 (CellP.code (SlotP.right x))) ∧ Below w.heap.size w w' := by
  have HS := Lib.hid (fun W (hW : Bytes W B A n cap x.cell.data) (hB : B ≤ W.heap.size) => same_any A none n cap 0 0 B 0 x SlotP.none W hW (empty_bytes W) hB (Nat.zero_le _))
  have HC := Lib.hid (fun W => CellW.check_any A n cap x.cell W h.len (Nat.le_trans h.2.1 h.2.2.1))
  have HK := Lib.hid (fun W => Key.check_any x.key W hk)
  have H := Lib.hid h
  clear h
  obtain ⟨s, k, kind, data, lo, hi, val⟩ := x
  dsimp only at *
  by_cases hs : s = 0
  · subst hs
    cases hr : SlotP.same ⟨0, k, kind, data, lo, hi, val⟩ SlotP.none
    all_goals
      have HRS := Lib.hid hr
      have HR := Lib.hid (show SlotP.right ⟨0, k, kind, data, lo, hi, val⟩ = _ from (by simp [SlotP.right] : _ = SlotP.same ⟨0, k, kind, data, lo, hi, val⟩ SlotP.none).trans hr)
      clear hr
      rw [HR.out]
      go_enter Tryz.func64, Tryz.ntmps64
      go_wp2_with fail
      refine (HS.out _ (H.out.alloc hB _) (by simp; omega)).mono ?_
      rintro e w1 ⟨rfl, hb⟩
      rw [HRS.out]
      go_wp2_with fail
      go_ret
      exact ⟨rfl, bstep (balloc (bsame _) _) hb⟩
  · have hs0 : (s == 0) = false := by simpa using hs
    by_cases h12 : s = 1 ∨ s = 2
    · cases hkr : KeyP.right k.data.toList
      · have HR : Hid (SlotP.right ⟨s, k, kind, data, lo, hi, val⟩ = false) := Lib.hid (by simp [SlotP.right, hs, hkr])
        rw [HR.out]
        have HKR := Lib.hid hkr
        clear hkr
        have hkf : KeyP.code false = 1 := rfl
        rcases h12 with rfl | rfl
        all_goals
          go_enter Tryz.func64, Tryz.ntmps64
          go_wp2_with (go_at_call 81; refine (HK.out _).mono ?_; rintro e w1 ⟨rfl, hb⟩; rw [HKR.out]; obtain ⟨hc1, hf1⟩ := bcell hb; have hsz : w.heap.size < w1.heap.size := (by have := hb.size; simp at this; omega))
          go_ret
          exact ⟨rfl, bstep (balloc (bsame _) _) hb⟩
      · have HR : Hid (SlotP.right ⟨s, k, kind, data, lo, hi, val⟩ = CellP.right ⟨kind, data, lo, hi, val⟩) := Lib.hid (by rcases h12 with rfl | rfl <;> simp [SlotP.right, hkr])
        rw [HR.out]
        have HKR := Lib.hid hkr
        clear hkr
        have hkt : KeyP.code true = 0 := rfl
        cases hcr : CellP.right ⟨kind, data, lo, hi, val⟩
        all_goals
          have HCR := Lib.hid hcr
          clear hcr
          have hc0 := code_true
          have hc1 := code_false
          rcases h12 with rfl | rfl
          all_goals
            go_enter Tryz.func64, Tryz.ntmps64
            go_wp2_with (first
              | (go_at_call 81; refine (HK.out _).mono ?_; rintro e w1 ⟨rfl, hb⟩; rw [HKR.out]; obtain ⟨hcc, hff⟩ := bcell hb; have hsz : w.heap.size < w1.heap.size := (by have := hb.size; simp at this; omega))
              | (go_at_call 82; refine (HC.out _).mono ?_; rintro e w2 ⟨rfl, hb2⟩; rw [HCR.out]))
            go_ret
            exact ⟨rfl, bstep (bstep (balloc (bsame _) _) hb) hb2⟩
    · have h1 : (s == 1) = false := by simp; omega
      have h2 : (s == 2) = false := by simp; omega
      have HR : Hid (SlotP.right ⟨s, k, kind, data, lo, hi, val⟩ = false) := Lib.hid (by simp [SlotP.right, hs]; omega)
      rw [HR.out]
      clear h12
      go_enter Tryz.func64, Tryz.ntmps64
      go_wp2
      go_ret
      exact ⟨rfl, balloc (bsame _) _⟩

end Go.Proofs.YtpklclnehlgcpaaGreat.SlotW
end
