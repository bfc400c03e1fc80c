/-
  The walk of model.copyState: the same state in new memory.
-/
import Derived.Test.YtghgccgpgonlmaaModelD
import Derived.Test.YtghgccgpgonlmaaElem2
namespace Go.Proofs.Ytghgccgpgonlmaa
open Go.RowKit
set_option linter.unusedVariables false
namespace Reg
/-- bytes in a value, that hang on none of these blocks: while nothing turns -/
def byHS (obs : List Nat) (V : Option Addr → Nat → Nat → Value) (l : List UInt8) : SP ext := ⟨fun v w => ∃ A n c, v = V A n c ∧ BytesH obs w A n c l, fun _ _ _ hb ⟨A, n, c, e, h⟩ => ⟨A, n, c, e, h.next hb⟩⟩
end Reg
theorem run_stS {P : Program} {w w1 : World} {ty : TypeId} {ad : Addr} {cs : Array Value} (hi : (P.info? ty).map (·.size) = some cs.size) (hst : (storeCells ad cs.toList).run P w = .ok () w1) : (stSem ty (.pointer (some ad)) (.agg cs)).run P w = .ok () w1 := by
  have hrun : (storeVar ty ad (.agg cs)).run P w = .ok () w1 := by
    cases hq : P.info? ty with
    | none => simp [hq] at hi
    | some i =>
      have hs : cs.size = i.size := by simp [hq] at hi; omega
      simp [storeVar, sizeOf, typeInfo, hq, Value.cells, hs, hst]
  simp only [stSem, Instr.storeAt, Instr.sureAddr, Sem.run_bind, Sem.run_pure, Result.andThen_ok]
  exact hrun
theorem run_stNew {P : Program} {w : World} {ty t : TypeId} {Z cs : Array Value} (hi : (P.info? ty).map (·.size) = some cs.size) (hz : Z.size = cs.size) (h1 : cs.toList.all (·.oneCell') = true) : (stSem ty (.pointer (some ⟨w.heap.size, 0, none⟩)) (.agg cs)).run P (w.alloc (.cells Z t)) = .ok () (w.alloc (.cells cs t)) := by
  have h1' : cs.all (·.oneCell') = true := by rw [← Array.all_toList]; exact h1
  simp only [stSem, Instr.storeAt, Instr.sureAddr, Sem.run_bind, Sem.run_pure, Result.andThen_ok]
  rw [run_storeVar_row (w.alloc (.cells Z t)) w.heap.size t ty Z cs (heap_alloc_new w _) hi hz h1', World.setRow_alloc_new]
theorem stP_fold (a v : Value) : Instr.storeAt 103 a v = stSem 103 a v := rfl
def zeroPair : Pair := ⟨ByteArray.empty, CellP.none⟩
theorem zeroPair_rel (w : World) (B : Nat) : PairE.rel w B [.string ⟨#[]⟩, .int .i64 0, .slice none 0 0, .int .i64 0, .int .i64 0, .int .i64 0] zeroPair :=
  ⟨none, 0, 0, rfl, Bytes.none_ _ _, by show (0 : Nat) ≤ maxLen; unfold maxLen; omega, by unfold In64 zeroPair CellP.none; dsimp only; omega, by unfold In64 zeroPair CellP.none; dsimp only; omega, by unfold In64 zeroPair CellP.none; dsimp only; omega, by unfold In64 zeroPair CellP.none; dsimp only; omega⟩
theorem infoP : (Try.prog.info? 103).map (fun i => (i.zero, i.size, i.bytes)) = some (some (.agg #[.string ⟨#[]⟩, .int .i64 0, .slice none 0 0, .int .i64 0, .int .i64 0, .int .i64 0]), 6, 72) := by kernel_rfl
theorem sizeP : (Try.prog.info? 103).map (·.size) = some 6 := by kernel_rfl
theorem set_fill {l : List Pair} {k n : Nat} {p : Pair} (hl : l.length = n) (hk : k < n) (hp : l[k]? = some p) : (l.take k ++ List.replicate (n - k) zeroPair).set k p = l.take (k + 1) ++ List.replicate (n - (k + 1)) zeroPair := by
  have hlt : (l.take k).length = k := by simp; omega
  rw [List.set_append_right _ _ (by omega), hlt, Nat.sub_self, show n - k = (n - (k + 1)) + 1 by omega, List.replicate_succ, List.set_cons_zero]
  rw [List.take_add_one, hp]
  simp
end Go.Proofs.Ytghgccgpgonlmaa
namespace Go.Proofs.Ytghgccgpgonlmaa.ModelW
open Go.RowKit
set_option linter.unusedVariables false
attribute [local go_sem ↓] stP_fold
set_option maxRecDepth 100000 in
set_option maxHeartbeats 1000000 in
theorem copyState_any (A : Option Addr) (n c B : Nat) (l : List Pair) (w : World) (h : Pairs w B A n c l) (hB : B ≤ w.heap.size) (hn : n ≤ 1000) (hd : ∀ p ∈ l, p.cell.data.length ≤ 100000) :
    Calls Try.prog 65 #[.slice A n c] w fun e w' => ∃ g, e = .returned (.slice (some ⟨g, 0, none⟩) n n) ∧ OwnE PairE 103 w' w.heap.size (some ⟨g, 0, none⟩) n n l ∧ Below w.heap.size w w' := by
  obtain ⟨i0, hi, hz0, hz1, hz2⟩ := info_parts infoP
  obtain ⟨w1, hmk, hO1, hb1, hs1⟩ := own_made (P := Try.prog) (E := PairE) 34 i0 _ _ zeroPair Try.underlying34 hi hz0 hz1 rfl zeroPair_rel n (by rw [hz2]; omega) (by omega) w
  have H := Lib.hid h
  have HL := Lib.hid h.len
  have HD := Lib.hid hd
  have HO1 := Lib.hid hO1
  have HB1 := Lib.hid hb1
  have HI := Lib.hid hi
  clear h hd hO1 hb1 hi hz0 hz1 hz2 hs1
  go_enter Try.func65, Try.ntmps65
  go_wp2
  go_loopw [11] (fun i wr => ∃ k : Nat, k ≤ n ∧ i = .int .i64 (k : Int) ∧ Hid (OwnE PairE 103 wr w.heap.size (some ⟨w.heap.size, 0, none⟩) n n (l.take k ++ List.replicate (n - k) zeroPair) ∧ Below w.heap.size w wr)) (fun i _ => n - (intOf i).toNat)
  case atStart => exact ⟨0, Nat.zero_le _, rfl, Lib.hid ⟨by simpa using HO1.out, HB1.out⟩⟩
  case round =>
    obtain ⟨k, hk, rfl, HK⟩ := hrel
    have hsz := HK.out.2.size
    by_cases hlt : k < n
    · obtain ⟨b, o, p, Ap, np, cp, rfl, hbB, hp, hby, hpk, i1, i2, i3, i4, c0, c1, c2, c3, c4, c5⟩ := pair_at (H.out.below (HK.out.2.mono hB)) hlt
      have HP := Lib.hid hp
      have HIN := Lib.hid (And.intro hpk (And.intro i1 (And.intro i2 (And.intro i3 i4))))
      have HDP := Lib.hid (HD.out p (List.mem_of_getElem? hp))
      clear hp hpk i1 i2 i3 i4
      obtain ⟨pk, pkd, pda, plo, phi, pva⟩ := p
      dsimp only at *
      have HY := Lib.hid (hby.more (show B ≤ wr.heap.size by omega))
      have hnp : np ≤ 100000 := by have := hby.len; have := HDP.out; omega
      clear hby
      have hbw : b < wr.heap.size := by omega
      have hst4 := run_stNew (P := Try.prog) (w := wr) (ty := 103) (t := 103) (Z := #[.string ⟨#[]⟩, .int .i64 0, .slice none 0 0, .int .i64 0, .int .i64 0, .int .i64 0]) (cs := #[.string pk, .int .i64 pkd, .slice Ap np cp, .int .i64 plo, .int .i64 phi, .int .i64 pva]) (by kernel_rfl) rfl rfl
      go_wp2
      generalize hW1 : wr.alloc (.cells #[.string pk, .int .i64 pkd, .slice Ap np cp, .int .i64 plo, .int .i64 phi, .int .i64 pva] 103) = W1
      have HS : Hid (Str W1 wr.heap.size #[.string pk, .int .i64 pkd, .slice Ap np cp, .int .i64 plo, .int .i64 phi, .int .i64 pva]) := Lib.hid (by rw [← hW1]; exact Str.new wr _ _)
      have hba : Below wr.heap.size wr W1 := by rw [← hW1]; exact balloc (bsame _) _
      have hz1 : W1.heap.size = wr.heap.size + 1 := by rw [← hW1]; simp
      have HO2 := Lib.hid (HK.out.1.next hba)
      have HB2 := Lib.hid (bstep HK.out.2 hba)
      have HY1 := Lib.hid (HY.out.next hba)
      have hgl : w.heap.size < wr.heap.size := by
        obtain ⟨g, cur, vs, e, -, hh, -⟩ := HK.out.1.row (by omega)
        cases e
        exact (Array.getElem?_eq_some_iff.1 hh).1
      clear hW1 hba c0 c1 c2 c3 c4 c5 HK HY
      refine Reg.wp_region_tail (R := ext) (W := W1) [Reg.eqv (.slice (some ⟨w.heap.size, 0, none⟩) n n), Reg.eqv (.int .i64 (k : Int)), Reg.eqv (.pointer (some ⟨wr.heap.size, 0, none⟩)), Reg.eqv (.string pk), Reg.eqv (.pointer (some ⟨wr.heap.size, 1, none⟩)), Reg.eqv (.agg #[.int .i64 pkd, .slice Ap np cp, .int .i64 plo, .int .i64 phi, .int .i64 pva]), Reg.byHS [w.heap.size] (fun A n c => .agg #[.int .i64 pkd, .slice A n c, .int .i64 plo, .int .i64 phi, .int .i64 pva]) pda, Reg.byHS [w.heap.size] (fun A n c => .agg #[.string pk, .int .i64 pkd, .slice A n c, .int .i64 plo, .int .i64 phi, .int .i64 pva]) pda, Reg.eqv (.pointer (some ⟨w.heap.size, k * 6, none⟩))] 27 9 _ [[(3, none)], [(4, none)], [(5, none)], [(18, some 2)], [(5, none)], [(20, some 4)], [(21, some 5)], [(19, some 3), (22, some 6)], [(16, some 0), (17, some 1)]] rfl (by kernel_rfl) (by kernel_rfl) (by rfl) (by rfl) rfl (by kernel_rfl) ?_ [some 16, some 17, some 18, some 19, some 20, some 21, some 22, some 23, some 24] (by kernel_rfl) ?_
      · refine ⟨?_, ?_, ?_, ?_, ?_, ?_, ?_, ?_, ?_, trivial⟩
        · intro ax wx hx hs
          obtain ⟨e3, -⟩ := hs
          have g3 := Reg.ev (v := .slice (some ⟨w.heap.size, 0, none⟩) n n) e3
          exact Reg.obl_free rfl (Reg.wp_eqv (Option.some_ne_none _) (by go_simp) rfl)
        · intro ax wx hx hs
          obtain ⟨e4, -⟩ := hs
          have g4 := Reg.ev (v := .int .i64 (k : Int)) e4
          exact Reg.obl_free rfl (Reg.wp_eqv (Option.some_ne_none _) (by go_simp) rfl)
        · intro ax wx hx hs
          obtain ⟨e5, -⟩ := hs
          have g5 := Reg.ev (v := .pointer (some ⟨wr.heap.size, 0, none⟩)) e5
          exact Reg.obl_free rfl (Reg.wp_eqv (Option.some_ne_none _) (by go_simp) rfl)
        · intro ax wx hx hs
          obtain ⟨e18, -⟩ := hs
          have g18 := Reg.ev (v := .pointer (some ⟨wr.heap.size, 0, none⟩)) e18
          obtain ⟨l0, l1, l2, l3, l4, l5⟩ := str6 (HS.out.next hx)
          exact Reg.obl_free rfl (Reg.wp_eqv (Option.some_ne_none _) (by go_simp) rfl)
        · intro ax wx hx hs
          obtain ⟨e5, -⟩ := hs
          have g5 := Reg.ev (v := .pointer (some ⟨wr.heap.size, 0, none⟩)) e5
          exact Reg.obl_free rfl (Reg.wp_eqv (Option.some_ne_none _) (by go_simp) rfl)
        · intro ax wx hx hs
          obtain ⟨e20, -⟩ := hs
          have g20 := Reg.ev (v := .pointer (some ⟨wr.heap.size, 1, none⟩)) e20
          obtain ⟨l0, l1, l2, l3, l4, l5⟩ := str6 (HS.out.next hx)
          exact Reg.obl_free rfl (Reg.wp_eqv (Option.some_ne_none _) (by go_simp) rfl)
        · intro ax wx hx hs
          obtain ⟨e21, -⟩ := hs
          have g21 := Reg.ev (v := .agg #[.int .i64 pkd, .slice Ap np cp, .int .i64 plo, .int .i64 phi, .int .i64 pva]) e21
          refine Reg.obl_free rfl ?_
          go_simp
          refine (copyCell_any [w.heap.size] Ap np cp W1.heap.size pkd pda plo phi pva _ (by intro b hb; simp only [List.mem_cons, List.not_mem_nil, or_false] at hb; subst hb; have := Below.size hx; omega) (HY1.out.below hx) (Below.size hx) hnp).mono ?_
          rintro e wy ⟨A1, n1, c1, rfl, hy1, hby⟩
          exact Reg.done (Option.some_ne_none _) ⟨A1, n1, c1, rfl, hy1⟩ hby
        · intro ax wx hx hs
          obtain ⟨e19, e22, -⟩ := hs
          have g19 := Reg.ev (v := .string pk) e19
          refine Reg.obl_free rfl ?_
          obtain ⟨A1, n1, c1, e22, hy1⟩ := e22
          have g22 := Reg.ev e22
          exact Reg.wp_same (Option.some_ne_none _) (by go_simp) ⟨A1, n1, c1, rfl, hy1⟩
        · intro ax wx hx hs
          obtain ⟨e16, e17, -⟩ := hs
          have g16 := Reg.ev (v := .slice (some ⟨w.heap.size, 0, none⟩) n n) e16
          have g17 := Reg.ev (v := .int .i64 (k : Int)) e17
          exact Reg.obl_free rfl (Reg.wp_eqv (Option.some_ne_none _) (by go_simp) rfl)
      · intro W2 hwf
        simp only [Reg.Fin]
        rintro _ rfl _ rfl _ rfl _ rfl _ rfl _ rfl v22 h22 v23 h23 _ rfl
        obtain ⟨A1, n1, c1, rfl, hy1⟩ := h23
        have hwf' : Below W1.heap.size W1 W2 := hwf
        have hOn := HO2.out.next hwf'
        have hz0 : (l.take k ++ List.replicate (n - k) zeroPair)[k]? = some zeroPair := by
          have hlt2 : (l.take k).length = k := by have := HL.out; simp; omega
          rw [List.getElem?_append_right (by omega), hlt2, Nat.sub_self, List.getElem?_replicate, if_pos (by omega)]
        obtain ⟨g, W3, e, hge, hgl3, hst, hO3, hgr, hz3⟩ := hOn.write (P := Try.prog) (j := k) (i := 0) (s := (#[.string pk, .int .i64 pkd, .slice A1 n1 c1, .int .i64 plo, .int .i64 phi, .int .i64 pva] : Array Value).toList) (x := ⟨pk, ⟨pkd, pda, plo, phi, pva⟩⟩) hlt (by show 0 + 6 ≤ 6; omega) (by
            intro v hv
            simp only [List.mem_cons, List.not_mem_nil, or_false] at hv
            rcases hv with rfl | rfl | rfl | rfl | rfl | rfl <;> rfl) (by
            intro g vs e hr
            cases e
            have hvl := PairE.len (hr _ hz0)
            have e2 : overV vs 0 (#[.string pk, .int .i64 pkd, .slice A1 n1 c1, .int .i64 plo, .int .i64 phi, .int .i64 pva] : Array Value).toList = (#[.string pk, .int .i64 pkd, .slice A1 n1 c1, .int .i64 plo, .int .i64 phi, .int .i64 pva] : Array Value).toList := by
              unfold overV
              rw [List.take_zero, List.nil_append, List.drop_of_length_le (by rw [hvl]; show 6 ≤ 0 + 6; omega), List.append_nil]
            rw [e2]
            exact ⟨A1, n1, c1, rfl, hy1, HIN.out⟩)
        cases e
        rw [set_fill HL.out hlt HP.out] at hO3
        have HO3 := Lib.hid hO3
        have HB3 := Lib.hid ((HB2.out.trans (hwf'.mono (by omega))).grown hgr (by have := HB2.out.size; have := hwf'.size; omega) (fun j hj => by cases hj; exact Nat.le_refl _))
        clear hO3 hgr hOn hwf hwf' hy1 hz3 h22
        have hst5 := run_stS (P := Try.prog) (ty := 103) (by kernel_rfl) hst
        rw [show k * PairE.size + 0 = k * 6 from rfl] at hst5
        clear hst hst4
        refine Reg.Goal.mk ?_
        go_simp
        go_wp2
        go_roundw
        case rel => exact ⟨k + 1, by omega, by go_num, Lib.hid ⟨HO3.out, HB3.out⟩⟩
        case measure => simp [intOf]; omega
    · go_wp2
      go_ret
      refine ⟨w.heap.size, rfl, ?_, HK.out.2⟩
      have h1 := HK.out.1
      rw [List.take_of_length_le (by rw [HL.out]; omega), show n - k = 0 by omega, List.replicate_zero, List.append_nil] at h1
      exact h1
end Go.Proofs.Ytghgccgpgonlmaa.ModelW
