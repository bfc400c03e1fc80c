/-
  The walk of the law, with the texts that it alone needs: RefModelC, RefModelE, Live09, ModelK, ModelR, ModelStepsW.
-/
import Derived.Test.YtghgccgpgonlmaaModelI
import Derived.Sort.Walk0
import Derived.Test.YtghgccgpgonlmaaRefModelA
import Derived.Test.YtghgccgpgonlmaaRefModelD
import Derived.Test.YtghgccgpgonlmaaModelG2
import Derived.Test.YtghgccgpgonlmaaRefModelB
import Derived.Test.YtghgccgpgonlmaaModelH
import Derived.Test.YtghgccgpgonlmaaOpenM
import Derived.Test.YtghgccgpgonlmaaModelE
namespace Go.Proofs.Ytghgccgpgonlmaa.ModelW
open Go.RowKit
set_option linter.unusedVariables false
attribute [local go_sem ↓] app_fold cut_fold
/-- a pair typed out, beside a row of the call's own above its bytes -/
theorem lit_src {w : World} {b n c B base n1 c1 : Nat} {A A1 : Option Addr} {l : List Pair} {p : Pair} (h : OwnE PairE TPr w base A n c l) (hs : Str w b (pairV p A1 n1 c1).toArray) (hy : Bytes w B A1 n1 c1 p.cell.data) (hB : B ≤ base) (hw : base ≤ w.heap.size) (hk : p.key.size ≤ maxLen) (hin : In64 p.cell.kind ∧ In64 p.cell.lo ∧ In64 p.cell.hi ∧ In64 p.cell.val) :
    ElemsIn PairE (hid A w) w w.heap.size (some ⟨b, 0, none⟩) 1 1 [p] := by
  refine ⟨[pairV p A1 n1 c1], ⟨⟨A1, n1, c1, rfl, (hy.sub (hid_lt A w fun a ha => Nat.le_trans hB (h.ge a ha))).more (by omega), hk, hin.1, hin.2.1, hin.2.2.1, hin.2.2.2⟩, trivial⟩, rfl, Nat.le_refl _, by unfold maxLen; omega, fun _ => ⟨b, 0, rfl, hs.lt, fun j v hv => ?_⟩⟩
  rw [List.flatten_singleton] at hv
  rw [hs.cell, Nat.zero_add]
  simpa using hv
/-- the call hands back a state -/
def GivesS (w : World) (l : List Pair) (e : Ending) (w' : World) : Prop := ∃ A n c, e = .returned (.slice A n c) ∧ Pairs w' w'.heap.size A n c l ∧ Below w.heap.size w w'
theorem at_key {l : List Pair} {key : ByteArray} {k : Nat} {p : Pair} (hat : ModelP.at_ l key = k) (hp : l[k]? = some p) (he : p.key = key) : (l[ModelP.at_ l key]?).map (·.key) = some key := by rw [hat, hp, ← he]; rfl
theorem at_nokey {l : List Pair} {key : ByteArray} {k : Nat} {p : Pair} (hat : ModelP.at_ l key = k) (hp : l[k]? = some p) (he : ¬ p.key = key) : ¬ (l[ModelP.at_ l key]?).map (·.key) = some key := by
  rw [hat, hp]
  simpa using he
theorem at_none {l : List Pair} {key : ByteArray} {k : Nat} (hat : ModelP.at_ l key = k) (hp : l.length ≤ k) : ¬ (l[ModelP.at_ l key]?).map (·.key) = some key := by
  rw [hat, List.getElem?_eq_none hp]
  simp
theorem less_lt (a b : ByteArray) : Op.bytesLess a.toList b.toList = decide (ModelP.lt a b) := by
  rw [bytesLess_eq, Lib.toList_data, Lib.toList_data]
set_option maxRecDepth 100000 in
set_option maxHeartbeats 2000000 in
theorem putSome (A : Option Addr) (n c B : Nat) (l : List Pair) (key : ByteArray) (ckd : Int) (cda : List UInt8) (clo chi cva : Int) (Ac : Option Addr) (nc cc Bc : Nat) (w : World) (h : Pairs w B A n c l) (hB : B ≤ w.heap.size) (hn : n ≤ 1000) (hc : Bytes w Bc Ac nc cc cda) (hBc : Bc ≤ w.heap.size) (hkey : key.size ≤ maxLen) (hin : In64 ckd ∧ In64 clo ∧ In64 chi ∧ In64 cva) (hkd : ckd ≠ 0) :
    Calls Try.prog 66 #[.slice A n c, .string key, .agg #[.int .i64 ckd, .slice Ac nc cc, .int .i64 clo, .int .i64 chi, .int .i64 cva]] w (GivesS w (ModelP.put l key (some ⟨ckd, cda, clo, chi, cva⟩))) := by
  obtain ⟨i0, hi, hz0, hz1, hz2⟩ := info_parts infoP
  have HI := Lib.hid hi
  have H := Lib.hid h
  have HL := Lib.hid h.len
  have hcap := h.cap
  have HC := Lib.hid hc
  have hcm := hcap.2
  have hcn := hcap.1
  unfold maxLen at hcm
  clear h hc hi hcap
  have kd1 : (ckd != 0) = true := by simpa using hkd
  clear hkd
  go_enter Try.func66, Try.ntmps66
  go_wp2
  generalize hW0 : w.alloc (.cells #[.int .i64 ckd, .slice Ac nc cc, .int .i64 clo, .int .i64 chi, .int .i64 cva] 37) = W0
  have HS0 : Hid (Str W0 w.heap.size #[.int .i64 ckd, .slice Ac nc cc, .int .i64 clo, .int .i64 chi, .int .i64 cva]) := Lib.hid (by rw [← hW0]; exact Str.new w _ _)
  have HB0 : Hid (Below w.heap.size w W0) := Lib.hid (by rw [← hW0]; exact balloc (bsame w) _)
  clear hW0
  have hw0 := HB0.out.size
  go_loopw [7, 8] (fun s i wr => ∃ (k : Nat) (A1 : Option Addr) (c1 : Nat), k ≤ n ∧ i = .int .i64 (k : Int) ∧ s = .slice A1 k c1 ∧ Hid (OwnE PairE TPr wr W0.heap.size A1 k c1 (l.take k) ∧ Below W0.heap.size W0 wr ∧ ∀ (j : Nat) p, j < k → l[j]? = some p → ModelP.lt p.key key)) (fun _ i _ => n - (intOf i).toNat)
  case atStart => exact ⟨0, none, 0, Nat.zero_le _, rfl, rfl, Lib.hid ⟨by simpa using OwnE.none_ PairE TPr W0 W0.heap.size, bsame W0, fun j p hj => absurd hj (by omega)⟩⟩
  case round =>
    obtain ⟨k, A1, c1, hk, rfl, rfl, HK⟩ := hrel
    have hsz := HK.out.2.1.size
    have HBw := Lib.hid (bstep HB0.out HK.out.2.1)
    have hszw := HBw.out.size
    have hnm1 := HK.out.1.elems.cap
    have hcm1 := hnm1.2
    unfold maxLen at hcm1
    clear hnm1
    by_cases hlt : k < n
    · obtain ⟨b, o, p, Ap, np, cp, rfl, hbB, hp, hby, hpk, i1, i2, i3, i4, c0, c1', c2, c3, c4, c5⟩ := pair_at (H.out.below (HBw.out.mono hB)) hlt
      have HP := Lib.hid hp
      have HY := Lib.hid hby
      have HIN := Lib.hid (And.intro i1 (And.intro i2 (And.intro i3 i4)))
      clear hp hby i1 i2 i3 i4
      obtain ⟨pk, pkd, pda, plo, phi, pva⟩ := p
      dsimp only at *
      have hbw : b < wr.heap.size := by omega
      by_cases hl : Op.bytesLess pk.toList key.toList = true
      · have HLT : Hid (ModelP.lt pk key) := Lib.hid (by rw [less_lt] at hl; simpa using hl)
        have hba : Below wr.heap.size wr (wr.alloc (.cells #[.string pk, .int .i64 pkd, .slice Ap np cp, .int .i64 plo, .int .i64 phi, .int .i64 pva] 103)) := balloc (bsame wr) _
        have hO1 := HK.out.1.next hba
        have hb1 : W0.heap.size ≤ (wr.alloc (.cells #[.string pk, .int .i64 pkd, .slice Ap np cp, .int .i64 plo, .int .i64 phi, .int .i64 pva] 103)).heap.size := by have := hba.size; omega
        obtain ⟨A2, c2', w2, happ, hO2, hB2, -, -⟩ := hO1.app (P := Try.prog) 34 34 i0 _ 72 Try.underlying34 HI.out hz0 hz1 hz2 rfl (lit_src (p := ⟨pk, ⟨pkd, pda, plo, phi, pva⟩⟩) hO1 (Str.new wr _ _) (HY.out.below (hba.mono (by omega))) (show B ≤ W0.heap.size by omega) hb1 hpk HIN.out) (by unfold maxLen; omega) (by omega) hb1
        have HO2 : Hid (OwnE PairE TPr w2 W0.heap.size A2 (k + 1) c2' (l.take (k + 1))) := Lib.hid (by
          rw [List.take_add_one, HP.out]
          exact hO2)
        have HB2 := Lib.hid (HK.out.2.1.trans ((hba.mono hsz).trans hB2))
        clear hO1 hO2 hB2 hba hb1
        go_wp2
        go_roundw
        case rel => exact ⟨k + 1, A2, c2', by omega, by go_num, rfl, Lib.hid ⟨HO2.out, HB2.out, fun j q hj hq => by
          rcases Nat.lt_or_ge j k with h3 | h3
          · exact HK.out.2.2 j q h3 hq
          · have : j = k := by omega
            subst this
            rw [HP.out] at hq
            cases hq
            exact HLT.out⟩⟩
        case measure => simp [intOf]; omega
      · have HLT : Hid (¬ ModelP.lt pk key) := Lib.hid (by rw [less_lt] at hl; simpa using hl)
        replace hl : Op.bytesLess pk.toList key.toList = false := by simpa using hl
        have HAT : Hid (ModelP.at_ l key = k) := Lib.hid (ModelP.at_eq key l k (by rw [HL.out]; omega) HK.out.2.2 (fun q hq => by rw [HP.out] at hq; cases hq; exact HLT.out))
        by_cases he : (pk.toList == key.toList) = true
        · have HKEY := Lib.hid (at_key HAT.out HP.out (key_inj (by simpa using he)))
          have HS1 := Lib.hid (HS0.out.next HK.out.2.1)
          obtain ⟨f0, f1, f2, f3, f4⟩ := str5 HS1.out
          have hfl := HS1.out.lt
          have hba : Below wr.heap.size wr (wr.alloc (.cells #[.string key, .int .i64 ckd, .slice Ac nc cc, .int .i64 clo, .int .i64 chi, .int .i64 cva] 103)) := balloc (bsame wr) _
          have hO1 := HK.out.1.next hba
          have hb1 : W0.heap.size ≤ (wr.alloc (.cells #[.string key, .int .i64 ckd, .slice Ac nc cc, .int .i64 clo, .int .i64 chi, .int .i64 cva] 103)).heap.size := by have := hba.size; omega
          obtain ⟨A2, c2', w2, happ, hO2, hB2, -, -⟩ := hO1.app (P := Try.prog) 34 34 i0 _ 72 Try.underlying34 HI.out hz0 hz1 hz2 rfl (lit_src (p := ⟨key, ⟨ckd, cda, clo, chi, cva⟩⟩) hO1 (Str.new wr _ _) (HC.out.below ((HBw.out.mono hBc).trans (hba.mono (by omega)))) (show Bc ≤ W0.heap.size by omega) hb1 hkey hin) (by unfold maxLen; omega) (by omega) hb1
          have hBo : Below W0.heap.size W0 w2 := HK.out.2.1.trans ((hba.mono hsz).trans hB2)
          clear hba hb1 hO1 hB2
          have hszo := hBo.size
          have hcut := ElemsIn.cut (H.out.below ((bstep HB0.out hBo).mono hB)) (k + 1) n c (by omega) (Nat.le_refl _) hcn (Nat.le_refl _)
          obtain ⟨A3, c3', w3, happ3, hO3, hB3, -, -⟩ := hO2.app (P := Try.prog) 34 34 i0 _ 72 Try.underlying34 HI.out hz0 hz1 hz2 rfl (hO2.src hcut (show B ≤ W0.heap.size by omega) hszo) (by unfold maxLen; omega) (by omega) hszo
          rw [show PairE.size = 6 from rfl] at happ3
          have HR : Hid (OwnE PairE TPr w3 W0.heap.size A3 (k + 1 + (n - (k + 1))) c3' (ModelP.put l key (some ⟨ckd, cda, clo, chi, cva⟩))) := Lib.hid (by
              have e : ModelP.put l key (some ⟨ckd, cda, clo, chi, cva⟩) = (l.take k ++ [⟨key, ⟨ckd, cda, clo, chi, cva⟩⟩]) ++ (l.drop (k + 1)).take (n - (k + 1)) := by
                unfold ModelP.put
                rw [if_pos HKEY.out, HAT.out, List.take_of_length_le (l := l.drop (k + 1)) (by rw [List.length_drop, HL.out]; omega)]
                simp
              rw [e]
              exact hO3)
          have hc0 : w2.cell? ⟨b, o + k * 6, none⟩ = some (.string pk) := ((hBo.cell (p := ⟨b, o + k * 6, none⟩) (by show b < _; omega)).trans (HK.out.2.1.cell (p := ⟨b, o + k * 6, none⟩) (by show b < _; omega)).symm).trans c0
          have hbw2 : b < w2.heap.size := by omega
          have HB3 := Lib.hid ((bstep HB0.out hBo).trans (hB3.mono (by omega)))
          clear hO3 hB3 hcut hBo hO2
          have hkn1 : ((k : Int) + 1 : Int) ≤ (n : Int) := by omega
          go_wp2
          go_ret
          exact ⟨A3, _, c3', rfl, (by have h9 := HR.out.elems; first | exact h9 | (rw [show k + (n - k) = n by omega] at h9; exact h9)), HB3.out⟩
        · have HKEY := Lib.hid (at_nokey HAT.out HP.out (fun e => he (by dsimp only at e; rw [e]; simp)))
          replace he : (pk.toList == key.toList) = false := by simpa using he
          have HS1 := Lib.hid (HS0.out.next HK.out.2.1)
          obtain ⟨f0, f1, f2, f3, f4⟩ := str5 HS1.out
          have hfl := HS1.out.lt
          have hba : Below wr.heap.size wr (wr.alloc (.cells #[.string key, .int .i64 ckd, .slice Ac nc cc, .int .i64 clo, .int .i64 chi, .int .i64 cva] 103)) := balloc (bsame wr) _
          have hO1 := HK.out.1.next hba
          have hb1 : W0.heap.size ≤ (wr.alloc (.cells #[.string key, .int .i64 ckd, .slice Ac nc cc, .int .i64 clo, .int .i64 chi, .int .i64 cva] 103)).heap.size := by have := hba.size; omega
          obtain ⟨A2, c2', w2, happ, hO2, hB2, -, -⟩ := hO1.app (P := Try.prog) 34 34 i0 _ 72 Try.underlying34 HI.out hz0 hz1 hz2 rfl (lit_src (p := ⟨key, ⟨ckd, cda, clo, chi, cva⟩⟩) hO1 (Str.new wr _ _) (HC.out.below ((HBw.out.mono hBc).trans (hba.mono (by omega)))) (show Bc ≤ W0.heap.size by omega) hb1 hkey hin) (by unfold maxLen; omega) (by omega) hb1
          have hBo : Below W0.heap.size W0 w2 := HK.out.2.1.trans ((hba.mono hsz).trans hB2)
          clear hba hb1 hO1 hB2
          have hszo := hBo.size
          have hcut := ElemsIn.cut (H.out.below ((bstep HB0.out hBo).mono hB)) k n c (by omega) (Nat.le_refl _) hcn (Nat.le_refl _)
          obtain ⟨A3, c3', w3, happ3, hO3, hB3, -, -⟩ := hO2.app (P := Try.prog) 34 34 i0 _ 72 Try.underlying34 HI.out hz0 hz1 hz2 rfl (hO2.src hcut (show B ≤ W0.heap.size by omega) hszo) (by unfold maxLen; omega) (by omega) hszo
          rw [show PairE.size = 6 from rfl] at happ3
          have HR : Hid (OwnE PairE TPr w3 W0.heap.size A3 (k + 1 + (n - k)) c3' (ModelP.put l key (some ⟨ckd, cda, clo, chi, cva⟩))) := Lib.hid (by
              have e : ModelP.put l key (some ⟨ckd, cda, clo, chi, cva⟩) = (l.take k ++ [⟨key, ⟨ckd, cda, clo, chi, cva⟩⟩]) ++ (l.drop k).take (n - k) := by
                unfold ModelP.put
                rw [if_neg HKEY.out, HAT.out, List.take_of_length_le (l := l.drop k) (by rw [List.length_drop, HL.out]; omega)]
                simp
              rw [e]
              exact hO3)
          have hc0 : w2.cell? ⟨b, o + k * 6, none⟩ = some (.string pk) := ((hBo.cell (p := ⟨b, o + k * 6, none⟩) (by show b < _; omega)).trans (HK.out.2.1.cell (p := ⟨b, o + k * 6, none⟩) (by show b < _; omega)).symm).trans c0
          have hbw2 : b < w2.heap.size := by omega
          have HB3 := Lib.hid ((bstep HB0.out hBo).trans (hB3.mono (by omega)))
          clear hO3 hB3 hcut hBo hO2
          have hkn1 : ((k : Int) : Int) ≤ (n : Int) := by omega
          go_wp2
          go_ret
          exact ⟨A3, _, c3', rfl, (by have h9 := HR.out.elems; first | exact h9 | (rw [show k + (n - k) = n by omega] at h9; exact h9)), HB3.out⟩
    · have hkn : ¬ ((k : Int) < (n : Int)) := by omega
      have dkn : decide ((k : Int) < (n : Int)) = false := by simp; omega
      have HAT : Hid (ModelP.at_ l key = k) := Lib.hid (ModelP.at_eq key l k (by rw [HL.out]; exact hk) HK.out.2.2 (fun q hq => by rw [List.getElem?_eq_none (by rw [HL.out]; omega)] at hq; cases hq))
      have HKEY := Lib.hid (at_none HAT.out (by rw [HL.out]; omega))
      have HS1 := Lib.hid (HS0.out.next HK.out.2.1)
      obtain ⟨f0, f1, f2, f3, f4⟩ := str5 HS1.out
      have hfl := HS1.out.lt
      have hba : Below wr.heap.size wr (wr.alloc (.cells #[.string key, .int .i64 ckd, .slice Ac nc cc, .int .i64 clo, .int .i64 chi, .int .i64 cva] 103)) := balloc (bsame wr) _
      have hO1 := HK.out.1.next hba
      have hb1 : W0.heap.size ≤ (wr.alloc (.cells #[.string key, .int .i64 ckd, .slice Ac nc cc, .int .i64 clo, .int .i64 chi, .int .i64 cva] 103)).heap.size := by have := hba.size; omega
      obtain ⟨A2, c2', w2, happ, hO2, hB2, -, -⟩ := hO1.app (P := Try.prog) 34 34 i0 _ 72 Try.underlying34 HI.out hz0 hz1 hz2 rfl (lit_src (p := ⟨key, ⟨ckd, cda, clo, chi, cva⟩⟩) hO1 (Str.new wr _ _) (HC.out.below ((HBw.out.mono hBc).trans (hba.mono (by omega)))) (show Bc ≤ W0.heap.size by omega) hb1 hkey hin) (by unfold maxLen; omega) (by omega) hb1
      have hBo : Below W0.heap.size W0 w2 := HK.out.2.1.trans ((hba.mono hsz).trans hB2)
      clear hba hb1 hO1 hB2
      have hszo := hBo.size
      have hcut := ElemsIn.cut (H.out.below ((bstep HB0.out hBo).mono hB)) k n c (by omega) (Nat.le_refl _) hcn (Nat.le_refl _)
      obtain ⟨A3, c3', w3, happ3, hO3, hB3, -, -⟩ := hO2.app (P := Try.prog) 34 34 i0 _ 72 Try.underlying34 HI.out hz0 hz1 hz2 rfl (hO2.src hcut (show B ≤ W0.heap.size by omega) hszo) (by unfold maxLen; omega) (by omega) hszo
      rw [show PairE.size = 6 from rfl] at happ3
      have HR : Hid (OwnE PairE TPr w3 W0.heap.size A3 (k + 1 + (n - k)) c3' (ModelP.put l key (some ⟨ckd, cda, clo, chi, cva⟩))) := Lib.hid (by
          have e : ModelP.put l key (some ⟨ckd, cda, clo, chi, cva⟩) = (l.take k ++ [⟨key, ⟨ckd, cda, clo, chi, cva⟩⟩]) ++ (l.drop k).take (n - k) := by
            unfold ModelP.put
            rw [if_neg HKEY.out, HAT.out, List.take_of_length_le (l := l.drop k) (by rw [List.length_drop, HL.out]; omega)]
            simp
          rw [e]
          exact hO3)
      have HB3 := Lib.hid ((bstep HB0.out hBo).trans (hB3.mono (by omega)))
      clear hO3 hB3 hcut hBo hO2
      have hkn1 : ((k : Int) : Int) ≤ (n : Int) := by omega
      go_wp2
      go_ret
      exact ⟨A3, _, c3', rfl, (by have h9 := HR.out.elems; first | exact h9 | (rw [show k + (n - k) = n by omega] at h9; exact h9)), HB3.out⟩
set_option maxRecDepth 100000 in
set_option maxHeartbeats 2000000 in
theorem putNone (A : Option Addr) (n c B : Nat) (l : List Pair) (key : ByteArray) (ckd : Int) (cda : List UInt8) (clo chi cva : Int) (Ac : Option Addr) (nc cc Bc : Nat) (w : World) (h : Pairs w B A n c l) (hB : B ≤ w.heap.size) (hn : n ≤ 1000) (hc : Bytes w Bc Ac nc cc cda) (hBc : Bc ≤ w.heap.size) (hkey : key.size ≤ maxLen) (hin : In64 ckd ∧ In64 clo ∧ In64 chi ∧ In64 cva) (hkd : ckd = 0) :
    Calls Try.prog 66 #[.slice A n c, .string key, .agg #[.int .i64 ckd, .slice Ac nc cc, .int .i64 clo, .int .i64 chi, .int .i64 cva]] w (GivesS w (ModelP.put l key none)) := by
  obtain ⟨i0, hi, hz0, hz1, hz2⟩ := info_parts infoP
  have HI := Lib.hid hi
  have H := Lib.hid h
  have HL := Lib.hid h.len
  have hcap := h.cap
  have HC := Lib.hid hc
  have hcm := hcap.2
  have hcn := hcap.1
  unfold maxLen at hcm
  clear h hc hi hcap
  have kd1 : (ckd != 0) = false := by simpa using hkd
  clear hkd
  go_enter Try.func66, Try.ntmps66
  go_wp2
  generalize hW0 : w.alloc (.cells #[.int .i64 ckd, .slice Ac nc cc, .int .i64 clo, .int .i64 chi, .int .i64 cva] 37) = W0
  have HS0 : Hid (Str W0 w.heap.size #[.int .i64 ckd, .slice Ac nc cc, .int .i64 clo, .int .i64 chi, .int .i64 cva]) := Lib.hid (by rw [← hW0]; exact Str.new w _ _)
  have HB0 : Hid (Below w.heap.size w W0) := Lib.hid (by rw [← hW0]; exact balloc (bsame w) _)
  clear hW0
  have hw0 := HB0.out.size
  go_loopw [7, 8] (fun s i wr => ∃ (k : Nat) (A1 : Option Addr) (c1 : Nat), k ≤ n ∧ i = .int .i64 (k : Int) ∧ s = .slice A1 k c1 ∧ Hid (OwnE PairE TPr wr W0.heap.size A1 k c1 (l.take k) ∧ Below W0.heap.size W0 wr ∧ ∀ (j : Nat) p, j < k → l[j]? = some p → ModelP.lt p.key key)) (fun _ i _ => n - (intOf i).toNat)
  case atStart => exact ⟨0, none, 0, Nat.zero_le _, rfl, rfl, Lib.hid ⟨by simpa using OwnE.none_ PairE TPr W0 W0.heap.size, bsame W0, fun j p hj => absurd hj (by omega)⟩⟩
  case round =>
    obtain ⟨k, A1, c1, hk, rfl, rfl, HK⟩ := hrel
    have hsz := HK.out.2.1.size
    have HBw := Lib.hid (bstep HB0.out HK.out.2.1)
    have hszw := HBw.out.size
    have hnm1 := HK.out.1.elems.cap
    have hcm1 := hnm1.2
    unfold maxLen at hcm1
    clear hnm1
    by_cases hlt : k < n
    · obtain ⟨b, o, p, Ap, np, cp, rfl, hbB, hp, hby, hpk, i1, i2, i3, i4, c0, c1', c2, c3, c4, c5⟩ := pair_at (H.out.below (HBw.out.mono hB)) hlt
      have HP := Lib.hid hp
      have HY := Lib.hid hby
      have HIN := Lib.hid (And.intro i1 (And.intro i2 (And.intro i3 i4)))
      clear hp hby i1 i2 i3 i4
      obtain ⟨pk, pkd, pda, plo, phi, pva⟩ := p
      dsimp only at *
      have hbw : b < wr.heap.size := by omega
      by_cases hl : Op.bytesLess pk.toList key.toList = true
      · have HLT : Hid (ModelP.lt pk key) := Lib.hid (by rw [less_lt] at hl; simpa using hl)
        have hba : Below wr.heap.size wr (wr.alloc (.cells #[.string pk, .int .i64 pkd, .slice Ap np cp, .int .i64 plo, .int .i64 phi, .int .i64 pva] 103)) := balloc (bsame wr) _
        have hO1 := HK.out.1.next hba
        have hb1 : W0.heap.size ≤ (wr.alloc (.cells #[.string pk, .int .i64 pkd, .slice Ap np cp, .int .i64 plo, .int .i64 phi, .int .i64 pva] 103)).heap.size := by have := hba.size; omega
        obtain ⟨A2, c2', w2, happ, hO2, hB2, -, -⟩ := hO1.app (P := Try.prog) 34 34 i0 _ 72 Try.underlying34 HI.out hz0 hz1 hz2 rfl (lit_src (p := ⟨pk, ⟨pkd, pda, plo, phi, pva⟩⟩) hO1 (Str.new wr _ _) (HY.out.below (hba.mono (by omega))) (show B ≤ W0.heap.size by omega) hb1 hpk HIN.out) (by unfold maxLen; omega) (by omega) hb1
        have HO2 : Hid (OwnE PairE TPr w2 W0.heap.size A2 (k + 1) c2' (l.take (k + 1))) := Lib.hid (by
          rw [List.take_add_one, HP.out]
          exact hO2)
        have HB2 := Lib.hid (HK.out.2.1.trans ((hba.mono hsz).trans hB2))
        clear hO1 hO2 hB2 hba hb1
        go_wp2
        go_roundw
        case rel => exact ⟨k + 1, A2, c2', by omega, by go_num, rfl, Lib.hid ⟨HO2.out, HB2.out, fun j q hj hq => by
          rcases Nat.lt_or_ge j k with h3 | h3
          · exact HK.out.2.2 j q h3 hq
          · have : j = k := by omega
            subst this
            rw [HP.out] at hq
            cases hq
            exact HLT.out⟩⟩
        case measure => simp [intOf]; omega
      · have HLT : Hid (¬ ModelP.lt pk key) := Lib.hid (by rw [less_lt] at hl; simpa using hl)
        replace hl : Op.bytesLess pk.toList key.toList = false := by simpa using hl
        have HAT : Hid (ModelP.at_ l key = k) := Lib.hid (ModelP.at_eq key l k (by rw [HL.out]; omega) HK.out.2.2 (fun q hq => by rw [HP.out] at hq; cases hq; exact HLT.out))
        by_cases he : (pk.toList == key.toList) = true
        · have HKEY := Lib.hid (at_key HAT.out HP.out (key_inj (by simpa using he)))
          have HS1 := Lib.hid (HS0.out.next HK.out.2.1)
          obtain ⟨f0, f1, f2, f3, f4⟩ := str5 HS1.out
          have hfl := HS1.out.lt
          have hO2 := HK.out.1
          have hBo := HK.out.2.1
          have hszo := hBo.size
          have hcut := ElemsIn.cut (H.out.below ((bstep HB0.out hBo).mono hB)) (k + 1) n c (by omega) (Nat.le_refl _) hcn (Nat.le_refl _)
          obtain ⟨A3, c3', w3, happ3, hO3, hB3, -, -⟩ := hO2.app (P := Try.prog) 34 34 i0 _ 72 Try.underlying34 HI.out hz0 hz1 hz2 rfl (hO2.src hcut (show B ≤ W0.heap.size by omega) hszo) (by unfold maxLen; omega) (by omega) hszo
          rw [show PairE.size = 6 from rfl] at happ3
          have HR : Hid (OwnE PairE TPr w3 W0.heap.size A3 (k + (n - (k + 1))) c3' (ModelP.put l key none)) := Lib.hid (by
              have e : ModelP.put l key none = (l.take k) ++ (l.drop (k + 1)).take (n - (k + 1)) := by
                unfold ModelP.put
                rw [if_pos HKEY.out, HAT.out, List.take_of_length_le (l := l.drop (k + 1)) (by rw [List.length_drop, HL.out]; omega)]
                simp
              rw [e]
              exact hO3)
          have HB3 := Lib.hid ((bstep HB0.out hBo).trans (hB3.mono (by omega)))
          clear hO3 hB3 hcut hBo hO2
          have hkn1 : ((k : Int) + 1 : Int) ≤ (n : Int) := by omega
          go_wp2
          go_ret
          exact ⟨A3, _, c3', rfl, (by have h9 := HR.out.elems; first | exact h9 | (rw [show k + (n - k) = n by omega] at h9; exact h9)), HB3.out⟩
        · have HKEY := Lib.hid (at_nokey HAT.out HP.out (fun e => he (by dsimp only at e; rw [e]; simp)))
          replace he : (pk.toList == key.toList) = false := by simpa using he
          have HS1 := Lib.hid (HS0.out.next HK.out.2.1)
          obtain ⟨f0, f1, f2, f3, f4⟩ := str5 HS1.out
          have hfl := HS1.out.lt
          have hO2 := HK.out.1
          have hBo := HK.out.2.1
          have hszo := hBo.size
          have hcut := ElemsIn.cut (H.out.below ((bstep HB0.out hBo).mono hB)) k n c (by omega) (Nat.le_refl _) hcn (Nat.le_refl _)
          obtain ⟨A3, c3', w3, happ3, hO3, hB3, -, -⟩ := hO2.app (P := Try.prog) 34 34 i0 _ 72 Try.underlying34 HI.out hz0 hz1 hz2 rfl (hO2.src hcut (show B ≤ W0.heap.size by omega) hszo) (by unfold maxLen; omega) (by omega) hszo
          rw [show PairE.size = 6 from rfl] at happ3
          have HR : Hid (OwnE PairE TPr w3 W0.heap.size A3 (k + (n - k)) c3' (ModelP.put l key none)) := Lib.hid (by
              have e : ModelP.put l key none = (l.take k) ++ (l.drop k).take (n - k) := by
                unfold ModelP.put
                rw [if_neg HKEY.out, HAT.out, List.take_of_length_le (l := l.drop k) (by rw [List.length_drop, HL.out]; omega)]
                simp
              rw [e]
              exact hO3)
          have HB3 := Lib.hid ((bstep HB0.out hBo).trans (hB3.mono (by omega)))
          clear hO3 hB3 hcut hBo hO2
          have hkn1 : ((k : Int) : Int) ≤ (n : Int) := by omega
          go_wp2
          go_ret
          exact ⟨A3, _, c3', rfl, (by have h9 := HR.out.elems; first | exact h9 | (rw [show k + (n - k) = n by omega] at h9; exact h9)), HB3.out⟩
    · have hkn : ¬ ((k : Int) < (n : Int)) := by omega
      have dkn : decide ((k : Int) < (n : Int)) = false := by simp; omega
      have HAT : Hid (ModelP.at_ l key = k) := Lib.hid (ModelP.at_eq key l k (by rw [HL.out]; exact hk) HK.out.2.2 (fun q hq => by rw [List.getElem?_eq_none (by rw [HL.out]; omega)] at hq; cases hq))
      have HKEY := Lib.hid (at_none HAT.out (by rw [HL.out]; omega))
      have HS1 := Lib.hid (HS0.out.next HK.out.2.1)
      obtain ⟨f0, f1, f2, f3, f4⟩ := str5 HS1.out
      have hfl := HS1.out.lt
      have hO2 := HK.out.1
      have hBo := HK.out.2.1
      have hszo := hBo.size
      have hcut := ElemsIn.cut (H.out.below ((bstep HB0.out hBo).mono hB)) k n c (by omega) (Nat.le_refl _) hcn (Nat.le_refl _)
      obtain ⟨A3, c3', w3, happ3, hO3, hB3, -, -⟩ := hO2.app (P := Try.prog) 34 34 i0 _ 72 Try.underlying34 HI.out hz0 hz1 hz2 rfl (hO2.src hcut (show B ≤ W0.heap.size by omega) hszo) (by unfold maxLen; omega) (by omega) hszo
      rw [show PairE.size = 6 from rfl] at happ3
      have HR : Hid (OwnE PairE TPr w3 W0.heap.size A3 (k + (n - k)) c3' (ModelP.put l key none)) := Lib.hid (by
          have e : ModelP.put l key none = (l.take k) ++ (l.drop k).take (n - k) := by
            unfold ModelP.put
            rw [if_neg HKEY.out, HAT.out, List.take_of_length_le (l := l.drop k) (by rw [List.length_drop, HL.out]; omega)]
            simp
          rw [e]
          exact hO3)
      have HB3 := Lib.hid ((bstep HB0.out hBo).trans (hB3.mono (by omega)))
      clear hO3 hB3 hcut hBo hO2
      have hkn1 : ((k : Int) : Int) ≤ (n : Int) := by omega
      go_wp2
      go_ret
      exact ⟨A3, _, c3', rfl, (by have h9 := HR.out.elems; first | exact h9 | (rw [show k + (n - k) = n by omega] at h9; exact h9)), HB3.out⟩
end Go.Proofs.Ytghgccgpgonlmaa.ModelW
namespace Go.Proofs.Ytghgccgpgonlmaa
open Go.RowKit
set_option linter.unusedVariables false
def noStr (cs : Array Value) : Bool := cs.toList.all fun v => match v with | .string _ => false | _ => true
/-- a state stands where a block without bytes and texts is written -/
theorem Pairs.grown {w w' : World} {n c g : Nat} {A : Option Addr} {l : List Pair} {cs : Array Value} (h : Pairs w w.heap.size A n c l) (hs : Str w g cs) (hn : notU8 cs = true) (hst : noStr cs = true) (hg : w.grownBy w' (some g)) : Pairs w' w'.heap.size A n c l := by
  by_cases h0 : n = 0
  · subst h0
    obtain ⟨vs, hr, hl, hc, hm, hx⟩ := h
    have : l = [] := List.eq_nil_of_length_eq_zero hl
    subst this
    have : vs = [] := List.eq_nil_of_length_eq_zero hr.length
    subst this
    exact ⟨[], trivial, rfl, hc, hm, fun hp => absurd hp (by omega)⟩
  · refine Elems.grownU ModelW.PairE_byt h hs hn hg fun a ha e => ?_
    obtain ⟨b, o, p, Ap, np, cp, e2, -, -, -, -, -, -, -, -, c0, -⟩ := pair_at h (show 0 < n by omega)
    rw [ha] at e2
    cases e2
    dsimp only at e
    subst e
    rw [hs.cell] at c0
    have hm : Value.string p.key ∈ cs.toList := by rw [Array.mem_toList_iff]; exact Array.mem_of_getElem? c0
    have := List.all_eq_true.1 hst _ hm
    simp at this
end Go.Proofs.Ytghgccgpgonlmaa
namespace Go.Proofs.Ytghgccgpgonlmaa.ModelW
open Go.RowKit
set_option linter.unusedVariables false
set_option maxRecDepth 100000 in
set_option maxHeartbeats 2000000 in
theorem rstep_bad (A : Option Addr) (n c B : Nat) (l : List Pair) (act : Int) (xk : ByteArray) (xdata : List UInt8) (Ax : Option Addr) (nx cx Bx : Nat) (xlo xhi xn : Int) (w : World) (h : Pairs w B A n c l) (hB : B ≤ w.heap.size) (hs : Small l) (hx : Bytes w Bx Ax nx cx xdata) (hBx : Bx ≤ w.heap.size) (hxk : xk.size ≤ maxLen) (hi1 : In64 xlo) (hi2 : In64 xhi) (hi3 : In64 xn) (hg : ModelP.good ⟨act, xk, xdata, xlo, xhi, xn⟩ = false) :
    Calls Try.prog 25 #[.slice A n c, .agg #[.int .i64 act, .string xk, .slice Ax nx cx, .int .i64 xlo, .int .i64 xhi, .int .i64 xn]] w (GivesSA w ((l, ⟨1, CellP.none⟩))) := by
  have hlen := h.len
  have hn : n ≤ 1000 := by rw [← hlen]; exact hs.len
  have H := Lib.hid h
  have HD := Lib.hid hs.data
  have HX := Lib.hid hx
  have hlx := hx.len
  clear h hs hlen
  have HG : Hid (ModelP.good ⟨act, xk, xdata, xlo, xhi, xn⟩ = false) := Lib.hid hg
  clear hg hx
  go_enter Try.func25, Try.ntmps25
  go_wp2_with fail
  generalize hW0 : ((w).alloc (.cells #[.int .i64 act, .string xk, .slice Ax nx cx, .int .i64 xlo, .int .i64 xhi, .int .i64 xn] 24)).alloc (.cells #[.int .i64 0, .int .i64 0, .slice none 0 0, .int .i64 0, .int .i64 0, .int .i64 0] 39) = W0
  have HS0_0 : Hid (Str W0 (w.heap.size) #[.int .i64 act, .string xk, .slice Ax nx cx, .int .i64 xlo, .int .i64 xhi, .int .i64 xn]) := Lib.hid (by rw [← hW0]; have := (Str.new (w) #[.int .i64 act, .string xk, .slice Ax nx cx, .int .i64 xlo, .int .i64 xhi, .int .i64 xn] 24).alloc (.cells #[.int .i64 0, .int .i64 0, .slice none 0 0, .int .i64 0, .int .i64 0, .int .i64 0] 39); simpa using this)
  have HS1_0 : Hid (Str W0 (w.heap.size + 1) #[.int .i64 0, .int .i64 0, .slice none 0 0, .int .i64 0, .int .i64 0, .int .i64 0]) := Lib.hid (by rw [← hW0]; have := Str.new ((w).alloc (.cells #[.int .i64 act, .string xk, .slice Ax nx cx, .int .i64 xlo, .int .i64 xhi, .int .i64 xn] 24)) #[.int .i64 0, .int .i64 0, .slice none 0 0, .int .i64 0, .int .i64 0, .int .i64 0] 39; simpa using this)
  have HB_0 : Hid (Below w.heap.size w W0) := Lib.hid (by rw [← hW0]; exact balloc (balloc (bsame w) _) _)
  have hw_0 := HB_0.out.size
  clear hW0
  obtain ⟨f0_0_0, f0_0_1, f0_0_2, f0_0_3, f0_0_4, f0_0_5⟩ := str6 HS0_0.out
  have hl0_0 := HS0_0.out.lt
  have hf0_0 := fun j => HS0_0.out.frozen j
  obtain ⟨f1_0_0, f1_0_1, f1_0_2, f1_0_3, f1_0_4, f1_0_5⟩ := str6 HS1_0.out
  have hl1_0 := HS1_0.out.lt
  have hf1_0 := fun j => HS1_0.out.frozen j
  refine (good_any ⟨act, xk, xdata, xlo, xhi, xn⟩ Ax nx cx _ hxk hlx).mono ?_
  rintro e W1 ⟨rfl, hb1⟩
  rw [HG.out]
  have HS0_1 := Lib.hid (HS0_0.out.next hb1)
  have HS1_1 := Lib.hid (HS1_0.out.next hb1)
  have HB_1 := Lib.hid (bstep HB_0.out hb1)
  have hw_1 := HB_1.out.size
  have hws_1 := (hb1).size
  clear f0_0_0 f0_0_1 f0_0_2 f0_0_3 f0_0_4 f0_0_5 HS0_0 hf0_0 f1_0_0 f1_0_1 f1_0_2 f1_0_3 f1_0_4 f1_0_5 HS1_0 hf1_0
  clear hb1
  obtain ⟨f0_1_0, f0_1_1, f0_1_2, f0_1_3, f0_1_4, f0_1_5⟩ := str6 HS0_1.out
  have hl0_1 := HS0_1.out.lt
  have hf0_1 := fun j => HS0_1.out.frozen j
  obtain ⟨f1_1_0, f1_1_1, f1_1_2, f1_1_3, f1_1_4, f1_1_5⟩ := str6 HS1_1.out
  have hl1_1 := HS1_1.out.lt
  have hf1_1 := fun j => HS1_1.out.frozen j
  go_wp2_with fail
  generalize hW2 : ((((((W1).setCell ⟨w.heap.size + 1, 0, none⟩ (.int .i64 1)).setCell ⟨w.heap.size + 1, 1, none⟩ (.int .i64 0)).setCell ⟨w.heap.size + 1, 2, none⟩ (.slice none 0 0)).setCell ⟨w.heap.size + 1, 3, none⟩ (.int .i64 0)).setCell ⟨w.heap.size + 1, 4, none⟩ (.int .i64 0)).setCell ⟨w.heap.size + 1, 5, none⟩ (.int .i64 0) = W2
  have HS0_2 : Hid (Str W2 (w.heap.size) #[.int .i64 act, .string xk, .slice Ax nx cx, .int .i64 xlo, .int .i64 xhi, .int .i64 xn]) := Lib.hid (by rw [← hW2]; exact ((((((HS0_1.out).other 0 _ (by omega)).other 1 _ (by omega)).other 2 _ (by omega)).other 3 _ (by omega)).other 4 _ (by omega)).other 5 _ (by omega))
  have HS1_2 : Hid (Str W2 (w.heap.size + 1) #[.int .i64 1, .int .i64 0, .slice none 0 0, .int .i64 0, .int .i64 0, .int .i64 0]) := Lib.hid (by rw [← hW2]; have := ((((((HS1_1.out).set 0 (.int .i64 1)).set 1 (.int .i64 0)).set 2 (.slice none 0 0)).set 3 (.int .i64 0)).set 4 (.int .i64 0)).set 5 (.int .i64 0); simpa using this)
  have hgr2 : W1.grownBy W2 (some (w.heap.size + 1)) := by rw [← hW2]; exact grown_set (grown_set (grown_set (grown_set (grown_set (grown_set (grown_refl W1 (w.heap.size + 1)) 0 (.int .i64 1)) 1 (.int .i64 0)) 2 (.slice none 0 0)) 3 (.int .i64 0)) 4 (.int .i64 0)) 5 (.int .i64 0)
  have HB_2 := Lib.hid (below_grown HB_1.out hgr2 (by omega))
  have hw_2 := HB_2.out.size
  have hws_2 := hgr2.size
  clear hW2
  clear f0_1_0 f0_1_1 f0_1_2 f0_1_3 f0_1_4 f0_1_5 HS0_1 hf0_1 f1_1_0 f1_1_1 f1_1_2 f1_1_3 f1_1_4 f1_1_5 HS1_1 hf1_1
  clear hgr2
  obtain ⟨f0_2_0, f0_2_1, f0_2_2, f0_2_3, f0_2_4, f0_2_5⟩ := str6 HS0_2.out
  have hl0_2 := HS0_2.out.lt
  have hf0_2 := fun j => HS0_2.out.frozen j
  obtain ⟨f1_2_0, f1_2_1, f1_2_2, f1_2_3, f1_2_4, f1_2_5⟩ := str6 HS1_2.out
  have hl1_2 := HS1_2.out.lt
  have hf1_2 := fun j => HS1_2.out.frozen j
  exact bodyPost_ret (v := .tuple #[.slice A n c, .agg #[.int .i64 1, .int .i64 0, .slice none 0 0, .int .i64 0, .int .i64 0, .int .i64 0]]) (by simp [results, Try.results25, go_sem, *]) rfl ⟨A, n, c, none, 0, 0, rfl, ((H.out.below (HB_2.out.mono hB)).more (Nat.le_trans hB HB_2.out.size)), Bytes.none_ _ _, HB_2.out⟩
set_option maxRecDepth 100000 in
set_option maxHeartbeats 2000000 in
theorem rstep_none (A : Option Addr) (n c B : Nat) (l : List Pair) (act : Int) (xk : ByteArray) (xdata : List UInt8) (Ax : Option Addr) (nx cx Bx : Nat) (xlo xhi xn : Int) (w : World) (h : Pairs w B A n c l) (hB : B ≤ w.heap.size) (hs : Small l) (hx : Bytes w Bx Ax nx cx xdata) (hBx : Bx ≤ w.heap.size) (hxk : xk.size ≤ maxLen) (hi1 : In64 xlo) (hi2 : In64 xhi) (hi3 : In64 xn) (hf : ModelP.find l xk = none) (hg : ModelP.good ⟨act, xk, xdata, xlo, xhi, xn⟩ = true) (h1 : ¬ act = 1) (h2 : ¬ act = 2) :
    Calls Try.prog 25 #[.slice A n c, .agg #[.int .i64 act, .string xk, .slice Ax nx cx, .int .i64 xlo, .int .i64 xhi, .int .i64 xn]] w (GivesSA w ((l, ⟨5, CellP.none⟩))) := by
  have hlen := h.len
  have hn : n ≤ 1000 := by rw [← hlen]; exact hs.len
  have H := Lib.hid h
  have HD := Lib.hid hs.data
  have HX := Lib.hid hx
  have hlx := hx.len
  clear h hs hlen
  have HG : Hid (ModelP.good ⟨act, xk, xdata, xlo, xhi, xn⟩ = true) := Lib.hid hg
  clear hg hx
  have q1 : (act == 1) = false := by simpa using h1
  have q2 : (act == 2) = false := by simpa using h2
  clear h1 h2
  go_enter Try.func25, Try.ntmps25
  go_wp2_with fail
  generalize hW0 : ((w).alloc (.cells #[.int .i64 act, .string xk, .slice Ax nx cx, .int .i64 xlo, .int .i64 xhi, .int .i64 xn] 24)).alloc (.cells #[.int .i64 0, .int .i64 0, .slice none 0 0, .int .i64 0, .int .i64 0, .int .i64 0] 39) = W0
  have HS0_0 : Hid (Str W0 (w.heap.size) #[.int .i64 act, .string xk, .slice Ax nx cx, .int .i64 xlo, .int .i64 xhi, .int .i64 xn]) := Lib.hid (by rw [← hW0]; have := (Str.new (w) #[.int .i64 act, .string xk, .slice Ax nx cx, .int .i64 xlo, .int .i64 xhi, .int .i64 xn] 24).alloc (.cells #[.int .i64 0, .int .i64 0, .slice none 0 0, .int .i64 0, .int .i64 0, .int .i64 0] 39); simpa using this)
  have HS1_0 : Hid (Str W0 (w.heap.size + 1) #[.int .i64 0, .int .i64 0, .slice none 0 0, .int .i64 0, .int .i64 0, .int .i64 0]) := Lib.hid (by rw [← hW0]; have := Str.new ((w).alloc (.cells #[.int .i64 act, .string xk, .slice Ax nx cx, .int .i64 xlo, .int .i64 xhi, .int .i64 xn] 24)) #[.int .i64 0, .int .i64 0, .slice none 0 0, .int .i64 0, .int .i64 0, .int .i64 0] 39; simpa using this)
  have HB_0 : Hid (Below w.heap.size w W0) := Lib.hid (by rw [← hW0]; exact balloc (balloc (bsame w) _) _)
  have hw_0 := HB_0.out.size
  clear hW0
  obtain ⟨f0_0_0, f0_0_1, f0_0_2, f0_0_3, f0_0_4, f0_0_5⟩ := str6 HS0_0.out
  have hl0_0 := HS0_0.out.lt
  have hf0_0 := fun j => HS0_0.out.frozen j
  obtain ⟨f1_0_0, f1_0_1, f1_0_2, f1_0_3, f1_0_4, f1_0_5⟩ := str6 HS1_0.out
  have hl1_0 := HS1_0.out.lt
  have hf1_0 := fun j => HS1_0.out.frozen j
  refine (good_any ⟨act, xk, xdata, xlo, xhi, xn⟩ Ax nx cx _ hxk hlx).mono ?_
  rintro e W1 ⟨rfl, hb1⟩
  rw [HG.out]
  have HS0_1 := Lib.hid (HS0_0.out.next hb1)
  have HS1_1 := Lib.hid (HS1_0.out.next hb1)
  have HB_1 := Lib.hid (bstep HB_0.out hb1)
  have hw_1 := HB_1.out.size
  have hws_1 := (hb1).size
  clear f0_0_0 f0_0_1 f0_0_2 f0_0_3 f0_0_4 f0_0_5 HS0_0 hf0_0 f1_0_0 f1_0_1 f1_0_2 f1_0_3 f1_0_4 f1_0_5 HS1_0 hf1_0
  clear hb1
  obtain ⟨f0_1_0, f0_1_1, f0_1_2, f0_1_3, f0_1_4, f0_1_5⟩ := str6 HS0_1.out
  have hl0_1 := HS0_1.out.lt
  have hf0_1 := fun j => HS0_1.out.frozen j
  obtain ⟨f1_1_0, f1_1_1, f1_1_2, f1_1_3, f1_1_4, f1_1_5⟩ := str6 HS1_1.out
  have hl1_1 := HS1_1.out.lt
  have hf1_1 := fun j => HS1_1.out.frozen j
  go_wp2_with fail
  have HF := Lib.hid hf
  clear hf
  refine (refFind_any A n c w.heap.size l xk _ ((H.out.more hB).below HB_1.out) HB_1.out.size (by omega) HD.out).mono ?_
  rintro e W2 ⟨Af, nf, cf, rfl, hyf, hb2⟩
  have HS0_2 := Lib.hid (HS0_1.out.next hb2)
  have HS1_2 := Lib.hid (HS1_1.out.next hb2)
  have HB_2 := Lib.hid (bstep HB_1.out hb2)
  have hw_2 := HB_2.out.size
  have hws_2 := (hb2).size
  clear f0_1_0 f0_1_1 f0_1_2 f0_1_3 f0_1_4 f0_1_5 HS0_1 hf0_1 f1_1_0 f1_1_1 f1_1_2 f1_1_3 f1_1_4 f1_1_5 HS1_1 hf1_1
  clear hb2
  obtain ⟨f0_2_0, f0_2_1, f0_2_2, f0_2_3, f0_2_4, f0_2_5⟩ := str6 HS0_2.out
  have hl0_2 := HS0_2.out.lt
  have hf0_2 := fun j => HS0_2.out.frozen j
  obtain ⟨f1_2_0, f1_2_1, f1_2_2, f1_2_3, f1_2_4, f1_2_5⟩ := str6 HS1_2.out
  have hl1_2 := HS1_2.out.lt
  have hf1_2 := fun j => HS1_2.out.frozen j
  rw [HF.out] at hyf
  dsimp only [Option.getD, CellP.none] at hyf
  have hnf := hyf.len
  have HYf_2 := Lib.hid (hyf)
  clear hyf
  rw [HF.out]
  dsimp only [Option.getD, Option.isSome, CellP.none]
  go_wp2_with fail
  generalize hW3 : ((((((W2).setCell ⟨w.heap.size + 1, 0, none⟩ (.int .i64 5)).setCell ⟨w.heap.size + 1, 1, none⟩ (.int .i64 0)).setCell ⟨w.heap.size + 1, 2, none⟩ (.slice none 0 0)).setCell ⟨w.heap.size + 1, 3, none⟩ (.int .i64 0)).setCell ⟨w.heap.size + 1, 4, none⟩ (.int .i64 0)).setCell ⟨w.heap.size + 1, 5, none⟩ (.int .i64 0) = W3
  have HS0_3 : Hid (Str W3 (w.heap.size) #[.int .i64 act, .string xk, .slice Ax nx cx, .int .i64 xlo, .int .i64 xhi, .int .i64 xn]) := Lib.hid (by rw [← hW3]; exact ((((((HS0_2.out).other 0 _ (by omega)).other 1 _ (by omega)).other 2 _ (by omega)).other 3 _ (by omega)).other 4 _ (by omega)).other 5 _ (by omega))
  have HS1_3 : Hid (Str W3 (w.heap.size + 1) #[.int .i64 5, .int .i64 0, .slice none 0 0, .int .i64 0, .int .i64 0, .int .i64 0]) := Lib.hid (by rw [← hW3]; have := ((((((HS1_2.out).set 0 (.int .i64 5)).set 1 (.int .i64 0)).set 2 (.slice none 0 0)).set 3 (.int .i64 0)).set 4 (.int .i64 0)).set 5 (.int .i64 0); simpa using this)
  have hgr3 : W2.grownBy W3 (some (w.heap.size + 1)) := by rw [← hW3]; exact grown_set (grown_set (grown_set (grown_set (grown_set (grown_set (grown_refl W2 (w.heap.size + 1)) 0 (.int .i64 5)) 1 (.int .i64 0)) 2 (.slice none 0 0)) 3 (.int .i64 0)) 4 (.int .i64 0)) 5 (.int .i64 0)
  have HB_3 := Lib.hid (below_grown HB_2.out hgr3 (by omega))
  have hw_3 := HB_3.out.size
  have hws_3 := hgr3.size
  have HYf_3 := Lib.hid ((Bytes.grown HYf_2.out (Nat.le_refl _) HS1_2.out rfl hgr3).more hws_3)
  clear HYf_2
  clear hW3
  clear f0_2_0 f0_2_1 f0_2_2 f0_2_3 f0_2_4 f0_2_5 HS0_2 hf0_2 f1_2_0 f1_2_1 f1_2_2 f1_2_3 f1_2_4 f1_2_5 HS1_2 hf1_2
  clear hgr3
  obtain ⟨f0_3_0, f0_3_1, f0_3_2, f0_3_3, f0_3_4, f0_3_5⟩ := str6 HS0_3.out
  have hl0_3 := HS0_3.out.lt
  have hf0_3 := fun j => HS0_3.out.frozen j
  obtain ⟨f1_3_0, f1_3_1, f1_3_2, f1_3_3, f1_3_4, f1_3_5⟩ := str6 HS1_3.out
  have hl1_3 := HS1_3.out.lt
  have hf1_3 := fun j => HS1_3.out.frozen j
  generalize hW4 : W3.alloc (.cells #[.int .i64 0, .slice Af nf cf, .int .i64 0, .int .i64 0, .int .i64 0] 37) = W4
  have HS0_4 : Hid (Str W4 (w.heap.size) #[.int .i64 act, .string xk, .slice Ax nx cx, .int .i64 xlo, .int .i64 xhi, .int .i64 xn]) := Lib.hid (by rw [← hW4]; exact HS0_3.out.alloc _)
  have HS1_4 : Hid (Str W4 (w.heap.size + 1) #[.int .i64 5, .int .i64 0, .slice none 0 0, .int .i64 0, .int .i64 0, .int .i64 0]) := Lib.hid (by rw [← hW4]; exact HS1_3.out.alloc _)
  have HS2_4 : Hid (Str W4 W3.heap.size #[.int .i64 0, .slice Af nf cf, .int .i64 0, .int .i64 0, .int .i64 0]) := Lib.hid (by rw [← hW4]; exact Str.new W3 #[.int .i64 0, .slice Af nf cf, .int .i64 0, .int .i64 0, .int .i64 0] 37)
  have hba4 : Below W3.heap.size W3 W4 := by rw [← hW4]; exact balloc (bsame _) _
  have HB_4 := Lib.hid (bstep HB_3.out hba4)
  have hw_4 := HB_4.out.size
  have hws_4 := hba4.size
  have HYf_4 := Lib.hid (HYf_3.out.next hba4)
  clear HYf_3
  clear hW4
  clear f0_3_0 f0_3_1 f0_3_2 f0_3_3 f0_3_4 f0_3_5 HS0_3 hf0_3 f1_3_0 f1_3_1 f1_3_2 f1_3_3 f1_3_4 f1_3_5 HS1_3 hf1_3
  obtain ⟨f0_4_0, f0_4_1, f0_4_2, f0_4_3, f0_4_4, f0_4_5⟩ := str6 HS0_4.out
  have hl0_4 := HS0_4.out.lt
  have hf0_4 := fun j => HS0_4.out.frozen j
  obtain ⟨f1_4_0, f1_4_1, f1_4_2, f1_4_3, f1_4_4, f1_4_5⟩ := str6 HS1_4.out
  have hl1_4 := HS1_4.out.lt
  have hf1_4 := fun j => HS1_4.out.frozen j
  obtain ⟨f2_4_0, f2_4_1, f2_4_2, f2_4_3, f2_4_4⟩ := str5 HS2_4.out
  have hl2_4 := HS2_4.out.lt
  exact bodyPost_ret (v := .tuple #[.slice A n c, .agg #[.int .i64 5, .int .i64 0, .slice none 0 0, .int .i64 0, .int .i64 0, .int .i64 0]]) (by simp [results, Try.results25, go_sem, *]) rfl ⟨A, n, c, none, 0, 0, rfl, ((H.out.below (HB_4.out.mono hB)).more (Nat.le_trans hB HB_4.out.size)), Bytes.none_ _ _, HB_4.out⟩
set_option maxRecDepth 100000 in
set_option maxHeartbeats 2000000 in
theorem rstep_create_has (A : Option Addr) (n c B : Nat) (l : List Pair) (xk : ByteArray) (xdata : List UInt8) (Ax : Option Addr) (nx cx Bx : Nat) (xlo xhi xn : Int) (w : World) (h : Pairs w B A n c l) (hB : B ≤ w.heap.size) (hs : Small l) (hx : Bytes w Bx Ax nx cx xdata) (hBx : Bx ≤ w.heap.size) (hxk : xk.size ≤ maxLen) (hi1 : In64 xlo) (hi2 : In64 xhi) (hi3 : In64 xn) (ckd : Int) (cda : List UInt8) (clo chi cva : Int) (hf : ModelP.find l xk = (some ⟨ckd, cda, clo, chi, cva⟩)) (hg : ModelP.good ⟨2, xk, xdata, xlo, xhi, xn⟩ = true) :
    Calls Try.prog 25 #[.slice A n c, .agg #[.int .i64 2, .string xk, .slice Ax nx cx, .int .i64 xlo, .int .i64 xhi, .int .i64 xn]] w (GivesSA w ((l, ⟨7, CellP.none⟩))) := by
  have hlen := h.len
  have hn : n ≤ 1000 := by rw [← hlen]; exact hs.len
  have H := Lib.hid h
  have HD := Lib.hid hs.data
  have HX := Lib.hid hx
  have hlx := hx.len
  clear h hs hlen
  have HG : Hid (ModelP.good ⟨2, xk, xdata, xlo, xhi, xn⟩ = true) := Lib.hid hg
  clear hg hx
  go_enter Try.func25, Try.ntmps25
  go_wp2_with fail
  generalize hW0 : ((w).alloc (.cells #[.int .i64 2, .string xk, .slice Ax nx cx, .int .i64 xlo, .int .i64 xhi, .int .i64 xn] 24)).alloc (.cells #[.int .i64 0, .int .i64 0, .slice none 0 0, .int .i64 0, .int .i64 0, .int .i64 0] 39) = W0
  have HS0_0 : Hid (Str W0 (w.heap.size) #[.int .i64 2, .string xk, .slice Ax nx cx, .int .i64 xlo, .int .i64 xhi, .int .i64 xn]) := Lib.hid (by rw [← hW0]; have := (Str.new (w) #[.int .i64 2, .string xk, .slice Ax nx cx, .int .i64 xlo, .int .i64 xhi, .int .i64 xn] 24).alloc (.cells #[.int .i64 0, .int .i64 0, .slice none 0 0, .int .i64 0, .int .i64 0, .int .i64 0] 39); simpa using this)
  have HS1_0 : Hid (Str W0 (w.heap.size + 1) #[.int .i64 0, .int .i64 0, .slice none 0 0, .int .i64 0, .int .i64 0, .int .i64 0]) := Lib.hid (by rw [← hW0]; have := Str.new ((w).alloc (.cells #[.int .i64 2, .string xk, .slice Ax nx cx, .int .i64 xlo, .int .i64 xhi, .int .i64 xn] 24)) #[.int .i64 0, .int .i64 0, .slice none 0 0, .int .i64 0, .int .i64 0, .int .i64 0] 39; simpa using this)
  have HB_0 : Hid (Below w.heap.size w W0) := Lib.hid (by rw [← hW0]; exact balloc (balloc (bsame w) _) _)
  have hw_0 := HB_0.out.size
  clear hW0
  obtain ⟨f0_0_0, f0_0_1, f0_0_2, f0_0_3, f0_0_4, f0_0_5⟩ := str6 HS0_0.out
  have hl0_0 := HS0_0.out.lt
  have hf0_0 := fun j => HS0_0.out.frozen j
  obtain ⟨f1_0_0, f1_0_1, f1_0_2, f1_0_3, f1_0_4, f1_0_5⟩ := str6 HS1_0.out
  have hl1_0 := HS1_0.out.lt
  have hf1_0 := fun j => HS1_0.out.frozen j
  refine (good_any ⟨2, xk, xdata, xlo, xhi, xn⟩ Ax nx cx _ hxk hlx).mono ?_
  rintro e W1 ⟨rfl, hb1⟩
  rw [HG.out]
  have HS0_1 := Lib.hid (HS0_0.out.next hb1)
  have HS1_1 := Lib.hid (HS1_0.out.next hb1)
  have HB_1 := Lib.hid (bstep HB_0.out hb1)
  have hw_1 := HB_1.out.size
  have hws_1 := (hb1).size
  clear f0_0_0 f0_0_1 f0_0_2 f0_0_3 f0_0_4 f0_0_5 HS0_0 hf0_0 f1_0_0 f1_0_1 f1_0_2 f1_0_3 f1_0_4 f1_0_5 HS1_0 hf1_0
  clear hb1
  obtain ⟨f0_1_0, f0_1_1, f0_1_2, f0_1_3, f0_1_4, f0_1_5⟩ := str6 HS0_1.out
  have hl0_1 := HS0_1.out.lt
  have hf0_1 := fun j => HS0_1.out.frozen j
  obtain ⟨f1_1_0, f1_1_1, f1_1_2, f1_1_3, f1_1_4, f1_1_5⟩ := str6 HS1_1.out
  have hl1_1 := HS1_1.out.lt
  have hf1_1 := fun j => HS1_1.out.frozen j
  go_wp2_with fail
  have HF := Lib.hid hf
  clear hf
  refine (refFind_any A n c w.heap.size l xk _ ((H.out.more hB).below HB_1.out) HB_1.out.size (by omega) HD.out).mono ?_
  rintro e W2 ⟨Af, nf, cf, rfl, hyf, hb2⟩
  have HS0_2 := Lib.hid (HS0_1.out.next hb2)
  have HS1_2 := Lib.hid (HS1_1.out.next hb2)
  have HB_2 := Lib.hid (bstep HB_1.out hb2)
  have hw_2 := HB_2.out.size
  have hws_2 := (hb2).size
  clear f0_1_0 f0_1_1 f0_1_2 f0_1_3 f0_1_4 f0_1_5 HS0_1 hf0_1 f1_1_0 f1_1_1 f1_1_2 f1_1_3 f1_1_4 f1_1_5 HS1_1 hf1_1
  clear hb2
  obtain ⟨f0_2_0, f0_2_1, f0_2_2, f0_2_3, f0_2_4, f0_2_5⟩ := str6 HS0_2.out
  have hl0_2 := HS0_2.out.lt
  have hf0_2 := fun j => HS0_2.out.frozen j
  obtain ⟨f1_2_0, f1_2_1, f1_2_2, f1_2_3, f1_2_4, f1_2_5⟩ := str6 HS1_2.out
  have hl1_2 := HS1_2.out.lt
  have hf1_2 := fun j => HS1_2.out.frozen j
  rw [HF.out] at hyf
  dsimp only [Option.getD, CellP.none] at hyf
  have hnf := hyf.len
  have HYf_2 := Lib.hid (hyf)
  clear hyf
  rw [HF.out]
  dsimp only [Option.getD, Option.isSome]
  go_wp2_with fail
  generalize hW3 : ((((((W2).setCell ⟨w.heap.size + 1, 0, none⟩ (.int .i64 7)).setCell ⟨w.heap.size + 1, 1, none⟩ (.int .i64 0)).setCell ⟨w.heap.size + 1, 2, none⟩ (.slice none 0 0)).setCell ⟨w.heap.size + 1, 3, none⟩ (.int .i64 0)).setCell ⟨w.heap.size + 1, 4, none⟩ (.int .i64 0)).setCell ⟨w.heap.size + 1, 5, none⟩ (.int .i64 0) = W3
  have HS0_3 : Hid (Str W3 (w.heap.size) #[.int .i64 2, .string xk, .slice Ax nx cx, .int .i64 xlo, .int .i64 xhi, .int .i64 xn]) := Lib.hid (by rw [← hW3]; exact ((((((HS0_2.out).other 0 _ (by omega)).other 1 _ (by omega)).other 2 _ (by omega)).other 3 _ (by omega)).other 4 _ (by omega)).other 5 _ (by omega))
  have HS1_3 : Hid (Str W3 (w.heap.size + 1) #[.int .i64 7, .int .i64 0, .slice none 0 0, .int .i64 0, .int .i64 0, .int .i64 0]) := Lib.hid (by rw [← hW3]; have := ((((((HS1_2.out).set 0 (.int .i64 7)).set 1 (.int .i64 0)).set 2 (.slice none 0 0)).set 3 (.int .i64 0)).set 4 (.int .i64 0)).set 5 (.int .i64 0); simpa using this)
  have hgr3 : W2.grownBy W3 (some (w.heap.size + 1)) := by rw [← hW3]; exact grown_set (grown_set (grown_set (grown_set (grown_set (grown_set (grown_refl W2 (w.heap.size + 1)) 0 (.int .i64 7)) 1 (.int .i64 0)) 2 (.slice none 0 0)) 3 (.int .i64 0)) 4 (.int .i64 0)) 5 (.int .i64 0)
  have HB_3 := Lib.hid (below_grown HB_2.out hgr3 (by omega))
  have hw_3 := HB_3.out.size
  have hws_3 := hgr3.size
  have HYf_3 := Lib.hid ((Bytes.grown HYf_2.out (Nat.le_refl _) HS1_2.out rfl hgr3).more hws_3)
  clear HYf_2
  clear hW3
  clear f0_2_0 f0_2_1 f0_2_2 f0_2_3 f0_2_4 f0_2_5 HS0_2 hf0_2 f1_2_0 f1_2_1 f1_2_2 f1_2_3 f1_2_4 f1_2_5 HS1_2 hf1_2
  clear hgr3
  obtain ⟨f0_3_0, f0_3_1, f0_3_2, f0_3_3, f0_3_4, f0_3_5⟩ := str6 HS0_3.out
  have hl0_3 := HS0_3.out.lt
  have hf0_3 := fun j => HS0_3.out.frozen j
  obtain ⟨f1_3_0, f1_3_1, f1_3_2, f1_3_3, f1_3_4, f1_3_5⟩ := str6 HS1_3.out
  have hl1_3 := HS1_3.out.lt
  have hf1_3 := fun j => HS1_3.out.frozen j
  generalize hW4 : W3.alloc (.cells #[.int .i64 ckd, .slice Af nf cf, .int .i64 clo, .int .i64 chi, .int .i64 cva] 37) = W4
  have HS0_4 : Hid (Str W4 (w.heap.size) #[.int .i64 2, .string xk, .slice Ax nx cx, .int .i64 xlo, .int .i64 xhi, .int .i64 xn]) := Lib.hid (by rw [← hW4]; exact HS0_3.out.alloc _)
  have HS1_4 : Hid (Str W4 (w.heap.size + 1) #[.int .i64 7, .int .i64 0, .slice none 0 0, .int .i64 0, .int .i64 0, .int .i64 0]) := Lib.hid (by rw [← hW4]; exact HS1_3.out.alloc _)
  have HS2_4 : Hid (Str W4 W3.heap.size #[.int .i64 ckd, .slice Af nf cf, .int .i64 clo, .int .i64 chi, .int .i64 cva]) := Lib.hid (by rw [← hW4]; exact Str.new W3 #[.int .i64 ckd, .slice Af nf cf, .int .i64 clo, .int .i64 chi, .int .i64 cva] 37)
  have hba4 : Below W3.heap.size W3 W4 := by rw [← hW4]; exact balloc (bsame _) _
  have HB_4 := Lib.hid (bstep HB_3.out hba4)
  have hw_4 := HB_4.out.size
  have hws_4 := hba4.size
  have HYf_4 := Lib.hid (HYf_3.out.next hba4)
  clear HYf_3
  clear hW4
  clear f0_3_0 f0_3_1 f0_3_2 f0_3_3 f0_3_4 f0_3_5 HS0_3 hf0_3 f1_3_0 f1_3_1 f1_3_2 f1_3_3 f1_3_4 f1_3_5 HS1_3 hf1_3
  obtain ⟨f0_4_0, f0_4_1, f0_4_2, f0_4_3, f0_4_4, f0_4_5⟩ := str6 HS0_4.out
  have hl0_4 := HS0_4.out.lt
  have hf0_4 := fun j => HS0_4.out.frozen j
  obtain ⟨f1_4_0, f1_4_1, f1_4_2, f1_4_3, f1_4_4, f1_4_5⟩ := str6 HS1_4.out
  have hl1_4 := HS1_4.out.lt
  have hf1_4 := fun j => HS1_4.out.frozen j
  obtain ⟨f2_4_0, f2_4_1, f2_4_2, f2_4_3, f2_4_4⟩ := str5 HS2_4.out
  have hl2_4 := HS2_4.out.lt
  exact bodyPost_ret (v := .tuple #[.slice A n c, .agg #[.int .i64 7, .int .i64 0, .slice none 0 0, .int .i64 0, .int .i64 0, .int .i64 0]]) (by simp [results, Try.results25, go_sem, *]) rfl ⟨A, n, c, none, 0, 0, rfl, ((H.out.below (HB_4.out.mono hB)).more (Nat.le_trans hB HB_4.out.size)), Bytes.none_ _ _, HB_4.out⟩
set_option maxRecDepth 100000 in
set_option maxHeartbeats 2000000 in
theorem rstep_write_kind (A : Option Addr) (n c B : Nat) (l : List Pair) (xk : ByteArray) (xdata : List UInt8) (Ax : Option Addr) (nx cx Bx : Nat) (xlo xhi xn : Int) (w : World) (h : Pairs w B A n c l) (hB : B ≤ w.heap.size) (hs : Small l) (hx : Bytes w Bx Ax nx cx xdata) (hBx : Bx ≤ w.heap.size) (hxk : xk.size ≤ maxLen) (hi1 : In64 xlo) (hi2 : In64 xhi) (hi3 : In64 xn) (cda : List UInt8) (clo chi cva : Int) (hf : ModelP.find l xk = (some ⟨2, cda, clo, chi, cva⟩)) (hg : ModelP.good ⟨1, xk, xdata, xlo, xhi, xn⟩ = true) :
    Calls Try.prog 25 #[.slice A n c, .agg #[.int .i64 1, .string xk, .slice Ax nx cx, .int .i64 xlo, .int .i64 xhi, .int .i64 xn]] w (GivesSA w ((l, ⟨6, CellP.none⟩))) := by
  have hlen := h.len
  have hn : n ≤ 1000 := by rw [← hlen]; exact hs.len
  have H := Lib.hid h
  have HD := Lib.hid hs.data
  have HX := Lib.hid hx
  have hlx := hx.len
  clear h hs hlen
  have HG : Hid (ModelP.good ⟨1, xk, xdata, xlo, xhi, xn⟩ = true) := Lib.hid hg
  clear hg hx
  go_enter Try.func25, Try.ntmps25
  go_wp2_with fail
  generalize hW0 : ((w).alloc (.cells #[.int .i64 1, .string xk, .slice Ax nx cx, .int .i64 xlo, .int .i64 xhi, .int .i64 xn] 24)).alloc (.cells #[.int .i64 0, .int .i64 0, .slice none 0 0, .int .i64 0, .int .i64 0, .int .i64 0] 39) = W0
  have HS0_0 : Hid (Str W0 (w.heap.size) #[.int .i64 1, .string xk, .slice Ax nx cx, .int .i64 xlo, .int .i64 xhi, .int .i64 xn]) := Lib.hid (by rw [← hW0]; have := (Str.new (w) #[.int .i64 1, .string xk, .slice Ax nx cx, .int .i64 xlo, .int .i64 xhi, .int .i64 xn] 24).alloc (.cells #[.int .i64 0, .int .i64 0, .slice none 0 0, .int .i64 0, .int .i64 0, .int .i64 0] 39); simpa using this)
  have HS1_0 : Hid (Str W0 (w.heap.size + 1) #[.int .i64 0, .int .i64 0, .slice none 0 0, .int .i64 0, .int .i64 0, .int .i64 0]) := Lib.hid (by rw [← hW0]; have := Str.new ((w).alloc (.cells #[.int .i64 1, .string xk, .slice Ax nx cx, .int .i64 xlo, .int .i64 xhi, .int .i64 xn] 24)) #[.int .i64 0, .int .i64 0, .slice none 0 0, .int .i64 0, .int .i64 0, .int .i64 0] 39; simpa using this)
  have HB_0 : Hid (Below w.heap.size w W0) := Lib.hid (by rw [← hW0]; exact balloc (balloc (bsame w) _) _)
  have hw_0 := HB_0.out.size
  clear hW0
  obtain ⟨f0_0_0, f0_0_1, f0_0_2, f0_0_3, f0_0_4, f0_0_5⟩ := str6 HS0_0.out
  have hl0_0 := HS0_0.out.lt
  have hf0_0 := fun j => HS0_0.out.frozen j
  obtain ⟨f1_0_0, f1_0_1, f1_0_2, f1_0_3, f1_0_4, f1_0_5⟩ := str6 HS1_0.out
  have hl1_0 := HS1_0.out.lt
  have hf1_0 := fun j => HS1_0.out.frozen j
  refine (good_any ⟨1, xk, xdata, xlo, xhi, xn⟩ Ax nx cx _ hxk hlx).mono ?_
  rintro e W1 ⟨rfl, hb1⟩
  rw [HG.out]
  have HS0_1 := Lib.hid (HS0_0.out.next hb1)
  have HS1_1 := Lib.hid (HS1_0.out.next hb1)
  have HB_1 := Lib.hid (bstep HB_0.out hb1)
  have hw_1 := HB_1.out.size
  have hws_1 := (hb1).size
  clear f0_0_0 f0_0_1 f0_0_2 f0_0_3 f0_0_4 f0_0_5 HS0_0 hf0_0 f1_0_0 f1_0_1 f1_0_2 f1_0_3 f1_0_4 f1_0_5 HS1_0 hf1_0
  clear hb1
  obtain ⟨f0_1_0, f0_1_1, f0_1_2, f0_1_3, f0_1_4, f0_1_5⟩ := str6 HS0_1.out
  have hl0_1 := HS0_1.out.lt
  have hf0_1 := fun j => HS0_1.out.frozen j
  obtain ⟨f1_1_0, f1_1_1, f1_1_2, f1_1_3, f1_1_4, f1_1_5⟩ := str6 HS1_1.out
  have hl1_1 := HS1_1.out.lt
  have hf1_1 := fun j => HS1_1.out.frozen j
  go_wp2_with fail
  have HF := Lib.hid hf
  clear hf
  refine (refFind_any A n c w.heap.size l xk _ ((H.out.more hB).below HB_1.out) HB_1.out.size (by omega) HD.out).mono ?_
  rintro e W2 ⟨Af, nf, cf, rfl, hyf, hb2⟩
  have HS0_2 := Lib.hid (HS0_1.out.next hb2)
  have HS1_2 := Lib.hid (HS1_1.out.next hb2)
  have HB_2 := Lib.hid (bstep HB_1.out hb2)
  have hw_2 := HB_2.out.size
  have hws_2 := (hb2).size
  clear f0_1_0 f0_1_1 f0_1_2 f0_1_3 f0_1_4 f0_1_5 HS0_1 hf0_1 f1_1_0 f1_1_1 f1_1_2 f1_1_3 f1_1_4 f1_1_5 HS1_1 hf1_1
  clear hb2
  obtain ⟨f0_2_0, f0_2_1, f0_2_2, f0_2_3, f0_2_4, f0_2_5⟩ := str6 HS0_2.out
  have hl0_2 := HS0_2.out.lt
  have hf0_2 := fun j => HS0_2.out.frozen j
  obtain ⟨f1_2_0, f1_2_1, f1_2_2, f1_2_3, f1_2_4, f1_2_5⟩ := str6 HS1_2.out
  have hl1_2 := HS1_2.out.lt
  have hf1_2 := fun j => HS1_2.out.frozen j
  rw [HF.out] at hyf
  dsimp only [Option.getD, CellP.none] at hyf
  have hnf := hyf.len
  have HYf_2 := Lib.hid (hyf)
  clear hyf
  rw [HF.out]
  dsimp only [Option.getD, Option.isSome]
  go_wp2_with fail
  generalize hW3 : ((((((W2).setCell ⟨w.heap.size + 1, 0, none⟩ (.int .i64 6)).setCell ⟨w.heap.size + 1, 1, none⟩ (.int .i64 0)).setCell ⟨w.heap.size + 1, 2, none⟩ (.slice none 0 0)).setCell ⟨w.heap.size + 1, 3, none⟩ (.int .i64 0)).setCell ⟨w.heap.size + 1, 4, none⟩ (.int .i64 0)).setCell ⟨w.heap.size + 1, 5, none⟩ (.int .i64 0) = W3
  have HS0_3 : Hid (Str W3 (w.heap.size) #[.int .i64 1, .string xk, .slice Ax nx cx, .int .i64 xlo, .int .i64 xhi, .int .i64 xn]) := Lib.hid (by rw [← hW3]; exact ((((((HS0_2.out).other 0 _ (by omega)).other 1 _ (by omega)).other 2 _ (by omega)).other 3 _ (by omega)).other 4 _ (by omega)).other 5 _ (by omega))
  have HS1_3 : Hid (Str W3 (w.heap.size + 1) #[.int .i64 6, .int .i64 0, .slice none 0 0, .int .i64 0, .int .i64 0, .int .i64 0]) := Lib.hid (by rw [← hW3]; have := ((((((HS1_2.out).set 0 (.int .i64 6)).set 1 (.int .i64 0)).set 2 (.slice none 0 0)).set 3 (.int .i64 0)).set 4 (.int .i64 0)).set 5 (.int .i64 0); simpa using this)
  have hgr3 : W2.grownBy W3 (some (w.heap.size + 1)) := by rw [← hW3]; exact grown_set (grown_set (grown_set (grown_set (grown_set (grown_set (grown_refl W2 (w.heap.size + 1)) 0 (.int .i64 6)) 1 (.int .i64 0)) 2 (.slice none 0 0)) 3 (.int .i64 0)) 4 (.int .i64 0)) 5 (.int .i64 0)
  have HB_3 := Lib.hid (below_grown HB_2.out hgr3 (by omega))
  have hw_3 := HB_3.out.size
  have hws_3 := hgr3.size
  have HYf_3 := Lib.hid ((Bytes.grown HYf_2.out (Nat.le_refl _) HS1_2.out rfl hgr3).more hws_3)
  clear HYf_2
  clear hW3
  clear f0_2_0 f0_2_1 f0_2_2 f0_2_3 f0_2_4 f0_2_5 HS0_2 hf0_2 f1_2_0 f1_2_1 f1_2_2 f1_2_3 f1_2_4 f1_2_5 HS1_2 hf1_2
  clear hgr3
  obtain ⟨f0_3_0, f0_3_1, f0_3_2, f0_3_3, f0_3_4, f0_3_5⟩ := str6 HS0_3.out
  have hl0_3 := HS0_3.out.lt
  have hf0_3 := fun j => HS0_3.out.frozen j
  obtain ⟨f1_3_0, f1_3_1, f1_3_2, f1_3_3, f1_3_4, f1_3_5⟩ := str6 HS1_3.out
  have hl1_3 := HS1_3.out.lt
  have hf1_3 := fun j => HS1_3.out.frozen j
  generalize hW4 : W3.alloc (.cells #[.int .i64 2, .slice Af nf cf, .int .i64 clo, .int .i64 chi, .int .i64 cva] 37) = W4
  have HS0_4 : Hid (Str W4 (w.heap.size) #[.int .i64 1, .string xk, .slice Ax nx cx, .int .i64 xlo, .int .i64 xhi, .int .i64 xn]) := Lib.hid (by rw [← hW4]; exact HS0_3.out.alloc _)
  have HS1_4 : Hid (Str W4 (w.heap.size + 1) #[.int .i64 6, .int .i64 0, .slice none 0 0, .int .i64 0, .int .i64 0, .int .i64 0]) := Lib.hid (by rw [← hW4]; exact HS1_3.out.alloc _)
  have HS2_4 : Hid (Str W4 W3.heap.size #[.int .i64 2, .slice Af nf cf, .int .i64 clo, .int .i64 chi, .int .i64 cva]) := Lib.hid (by rw [← hW4]; exact Str.new W3 #[.int .i64 2, .slice Af nf cf, .int .i64 clo, .int .i64 chi, .int .i64 cva] 37)
  have hba4 : Below W3.heap.size W3 W4 := by rw [← hW4]; exact balloc (bsame _) _
  have HB_4 := Lib.hid (bstep HB_3.out hba4)
  have hw_4 := HB_4.out.size
  have hws_4 := hba4.size
  have HYf_4 := Lib.hid (HYf_3.out.next hba4)
  clear HYf_3
  clear hW4
  clear f0_3_0 f0_3_1 f0_3_2 f0_3_3 f0_3_4 f0_3_5 HS0_3 hf0_3 f1_3_0 f1_3_1 f1_3_2 f1_3_3 f1_3_4 f1_3_5 HS1_3 hf1_3
  obtain ⟨f0_4_0, f0_4_1, f0_4_2, f0_4_3, f0_4_4, f0_4_5⟩ := str6 HS0_4.out
  have hl0_4 := HS0_4.out.lt
  have hf0_4 := fun j => HS0_4.out.frozen j
  obtain ⟨f1_4_0, f1_4_1, f1_4_2, f1_4_3, f1_4_4, f1_4_5⟩ := str6 HS1_4.out
  have hl1_4 := HS1_4.out.lt
  have hf1_4 := fun j => HS1_4.out.frozen j
  obtain ⟨f2_4_0, f2_4_1, f2_4_2, f2_4_3, f2_4_4⟩ := str5 HS2_4.out
  have hl2_4 := HS2_4.out.lt
  exact bodyPost_ret (v := .tuple #[.slice A n c, .agg #[.int .i64 6, .int .i64 0, .slice none 0 0, .int .i64 0, .int .i64 0, .int .i64 0]]) (by simp [results, Try.results25, go_sem, *]) rfl ⟨A, n, c, none, 0, 0, rfl, ((H.out.below (HB_4.out.mono hB)).more (Nat.le_trans hB HB_4.out.size)), Bytes.none_ _ _, HB_4.out⟩
set_option maxRecDepth 100000 in
set_option maxHeartbeats 2000000 in
theorem rstep_write_none (A : Option Addr) (n c B : Nat) (l : List Pair) (xk : ByteArray) (xdata : List UInt8) (Ax : Option Addr) (nx cx Bx : Nat) (xlo xhi xn : Int) (w : World) (h : Pairs w B A n c l) (hB : B ≤ w.heap.size) (hs : Small l) (hx : Bytes w Bx Ax nx cx xdata) (hBx : Bx ≤ w.heap.size) (hxk : xk.size ≤ maxLen) (hi1 : In64 xlo) (hi2 : In64 xhi) (hi3 : In64 xn) (hf : ModelP.find l xk = none) (hg : ModelP.good ⟨1, xk, xdata, xlo, xhi, xn⟩ = true) :
    Calls Try.prog 25 #[.slice A n c, .agg #[.int .i64 1, .string xk, .slice Ax nx cx, .int .i64 xlo, .int .i64 xhi, .int .i64 xn]] w (GivesSA w ((ModelP.put l xk (some ⟨1, xdata, 0, 0, 0⟩), ⟨0, CellP.none⟩))) := by
  have hlen := h.len
  have hn : n ≤ 1000 := by rw [← hlen]; exact hs.len
  have H := Lib.hid h
  have HD := Lib.hid hs.data
  have HX := Lib.hid hx
  have hlx := hx.len
  clear h hs hlen
  have HG : Hid (ModelP.good ⟨1, xk, xdata, xlo, xhi, xn⟩ = true) := Lib.hid hg
  clear hg hx
  go_enter Try.func25, Try.ntmps25
  go_wp2_with fail
  generalize hW0 : ((w).alloc (.cells #[.int .i64 1, .string xk, .slice Ax nx cx, .int .i64 xlo, .int .i64 xhi, .int .i64 xn] 24)).alloc (.cells #[.int .i64 0, .int .i64 0, .slice none 0 0, .int .i64 0, .int .i64 0, .int .i64 0] 39) = W0
  have HS0_0 : Hid (Str W0 (w.heap.size) #[.int .i64 1, .string xk, .slice Ax nx cx, .int .i64 xlo, .int .i64 xhi, .int .i64 xn]) := Lib.hid (by rw [← hW0]; have := (Str.new (w) #[.int .i64 1, .string xk, .slice Ax nx cx, .int .i64 xlo, .int .i64 xhi, .int .i64 xn] 24).alloc (.cells #[.int .i64 0, .int .i64 0, .slice none 0 0, .int .i64 0, .int .i64 0, .int .i64 0] 39); simpa using this)
  have HS1_0 : Hid (Str W0 (w.heap.size + 1) #[.int .i64 0, .int .i64 0, .slice none 0 0, .int .i64 0, .int .i64 0, .int .i64 0]) := Lib.hid (by rw [← hW0]; have := Str.new ((w).alloc (.cells #[.int .i64 1, .string xk, .slice Ax nx cx, .int .i64 xlo, .int .i64 xhi, .int .i64 xn] 24)) #[.int .i64 0, .int .i64 0, .slice none 0 0, .int .i64 0, .int .i64 0, .int .i64 0] 39; simpa using this)
  have HB_0 : Hid (Below w.heap.size w W0) := Lib.hid (by rw [← hW0]; exact balloc (balloc (bsame w) _) _)
  have hw_0 := HB_0.out.size
  clear hW0
  obtain ⟨f0_0_0, f0_0_1, f0_0_2, f0_0_3, f0_0_4, f0_0_5⟩ := str6 HS0_0.out
  have hl0_0 := HS0_0.out.lt
  have hf0_0 := fun j => HS0_0.out.frozen j
  obtain ⟨f1_0_0, f1_0_1, f1_0_2, f1_0_3, f1_0_4, f1_0_5⟩ := str6 HS1_0.out
  have hl1_0 := HS1_0.out.lt
  have hf1_0 := fun j => HS1_0.out.frozen j
  refine (good_any ⟨1, xk, xdata, xlo, xhi, xn⟩ Ax nx cx _ hxk hlx).mono ?_
  rintro e W1 ⟨rfl, hb1⟩
  rw [HG.out]
  have HS0_1 := Lib.hid (HS0_0.out.next hb1)
  have HS1_1 := Lib.hid (HS1_0.out.next hb1)
  have HB_1 := Lib.hid (bstep HB_0.out hb1)
  have hw_1 := HB_1.out.size
  have hws_1 := (hb1).size
  clear f0_0_0 f0_0_1 f0_0_2 f0_0_3 f0_0_4 f0_0_5 HS0_0 hf0_0 f1_0_0 f1_0_1 f1_0_2 f1_0_3 f1_0_4 f1_0_5 HS1_0 hf1_0
  clear hb1
  obtain ⟨f0_1_0, f0_1_1, f0_1_2, f0_1_3, f0_1_4, f0_1_5⟩ := str6 HS0_1.out
  have hl0_1 := HS0_1.out.lt
  have hf0_1 := fun j => HS0_1.out.frozen j
  obtain ⟨f1_1_0, f1_1_1, f1_1_2, f1_1_3, f1_1_4, f1_1_5⟩ := str6 HS1_1.out
  have hl1_1 := HS1_1.out.lt
  have hf1_1 := fun j => HS1_1.out.frozen j
  go_wp2_with fail
  have HF := Lib.hid hf
  clear hf
  refine (refFind_any A n c w.heap.size l xk _ ((H.out.more hB).below HB_1.out) HB_1.out.size (by omega) HD.out).mono ?_
  rintro e W2 ⟨Af, nf, cf, rfl, hyf, hb2⟩
  have HS0_2 := Lib.hid (HS0_1.out.next hb2)
  have HS1_2 := Lib.hid (HS1_1.out.next hb2)
  have HB_2 := Lib.hid (bstep HB_1.out hb2)
  have hw_2 := HB_2.out.size
  have hws_2 := (hb2).size
  clear f0_1_0 f0_1_1 f0_1_2 f0_1_3 f0_1_4 f0_1_5 HS0_1 hf0_1 f1_1_0 f1_1_1 f1_1_2 f1_1_3 f1_1_4 f1_1_5 HS1_1 hf1_1
  clear hb2
  obtain ⟨f0_2_0, f0_2_1, f0_2_2, f0_2_3, f0_2_4, f0_2_5⟩ := str6 HS0_2.out
  have hl0_2 := HS0_2.out.lt
  have hf0_2 := fun j => HS0_2.out.frozen j
  obtain ⟨f1_2_0, f1_2_1, f1_2_2, f1_2_3, f1_2_4, f1_2_5⟩ := str6 HS1_2.out
  have hl1_2 := HS1_2.out.lt
  have hf1_2 := fun j => HS1_2.out.frozen j
  rw [HF.out] at hyf
  dsimp only [Option.getD, CellP.none] at hyf
  have hnf := hyf.len
  have HYf_2 := Lib.hid (hyf)
  clear hyf
  rw [HF.out]
  dsimp only [Option.getD, Option.isSome, CellP.none]
  go_wp2_with fail
  generalize hW3 : W2.alloc (.cells #[.int .i64 0, .slice Af nf cf, .int .i64 0, .int .i64 0, .int .i64 0] 37) = W3
  have HS0_3 : Hid (Str W3 (w.heap.size) #[.int .i64 1, .string xk, .slice Ax nx cx, .int .i64 xlo, .int .i64 xhi, .int .i64 xn]) := Lib.hid (by rw [← hW3]; exact HS0_2.out.alloc _)
  have HS1_3 : Hid (Str W3 (w.heap.size + 1) #[.int .i64 0, .int .i64 0, .slice none 0 0, .int .i64 0, .int .i64 0, .int .i64 0]) := Lib.hid (by rw [← hW3]; exact HS1_2.out.alloc _)
  have HS2_3 : Hid (Str W3 W2.heap.size #[.int .i64 0, .slice Af nf cf, .int .i64 0, .int .i64 0, .int .i64 0]) := Lib.hid (by rw [← hW3]; exact Str.new W2 #[.int .i64 0, .slice Af nf cf, .int .i64 0, .int .i64 0, .int .i64 0] 37)
  have hba3 : Below W2.heap.size W2 W3 := by rw [← hW3]; exact balloc (bsame _) _
  have HB_3 := Lib.hid (bstep HB_2.out hba3)
  have hw_3 := HB_3.out.size
  have hws_3 := hba3.size
  have HYf_3 := Lib.hid (HYf_2.out.next hba3)
  clear HYf_2
  clear hW3
  clear f0_2_0 f0_2_1 f0_2_2 f0_2_3 f0_2_4 f0_2_5 HS0_2 hf0_2 f1_2_0 f1_2_1 f1_2_2 f1_2_3 f1_2_4 f1_2_5 HS1_2 hf1_2
  obtain ⟨f0_3_0, f0_3_1, f0_3_2, f0_3_3, f0_3_4, f0_3_5⟩ := str6 HS0_3.out
  have hl0_3 := HS0_3.out.lt
  have hf0_3 := fun j => HS0_3.out.frozen j
  obtain ⟨f1_3_0, f1_3_1, f1_3_2, f1_3_3, f1_3_4, f1_3_5⟩ := str6 HS1_3.out
  have hl1_3 := HS1_3.out.lt
  have hf1_3 := fun j => HS1_3.out.frozen j
  obtain ⟨f2_3_0, f2_3_1, f2_3_2, f2_3_3, f2_3_4⟩ := str5 HS2_3.out
  have hl2_3 := HS2_3.out.lt
  refine (putSome A n c w.heap.size l xk 1 xdata 0 0 0 Ax nx cx w.heap.size _ ((H.out.more hB).below HB_3.out) HB_3.out.size hn ((HX.out.more hBx).below HB_3.out) HB_3.out.size hxk ⟨by unfold In64; omega, by unfold In64; omega, by unfold In64; omega, by unfold In64; omega⟩ (by decide)).mono ?_
  rintro e W4 ⟨A', n', c', rfl, hp', hb4⟩
  have HS0_4 := Lib.hid (HS0_3.out.next hb4)
  have HS1_4 := Lib.hid (HS1_3.out.next hb4)
  have HS2_4 := Lib.hid (HS2_3.out.next hb4)
  have HB_4 := Lib.hid (bstep HB_3.out hb4)
  have hw_4 := HB_4.out.size
  have hws_4 := (hb4).size
  have HYf_4 := Lib.hid (HYf_3.out.next hb4)
  clear HYf_3
  clear f0_3_0 f0_3_1 f0_3_2 f0_3_3 f0_3_4 f0_3_5 HS0_3 hf0_3 f1_3_0 f1_3_1 f1_3_2 f1_3_3 f1_3_4 f1_3_5 HS1_3 hf1_3 f2_3_0 f2_3_1 f2_3_2 f2_3_3 f2_3_4 HS2_3
  clear hb4
  obtain ⟨f0_4_0, f0_4_1, f0_4_2, f0_4_3, f0_4_4, f0_4_5⟩ := str6 HS0_4.out
  have hl0_4 := HS0_4.out.lt
  have hf0_4 := fun j => HS0_4.out.frozen j
  obtain ⟨f1_4_0, f1_4_1, f1_4_2, f1_4_3, f1_4_4, f1_4_5⟩ := str6 HS1_4.out
  have hl1_4 := HS1_4.out.lt
  have hf1_4 := fun j => HS1_4.out.frozen j
  obtain ⟨f2_4_0, f2_4_1, f2_4_2, f2_4_3, f2_4_4⟩ := str5 HS2_4.out
  have hl2_4 := HS2_4.out.lt
  have HPs_4 := Lib.hid hp'
  clear hp'
  go_wp2_with fail
  generalize hW5 : ((((((W4).setCell ⟨w.heap.size + 1, 0, none⟩ (.int .i64 0)).setCell ⟨w.heap.size + 1, 1, none⟩ (.int .i64 0)).setCell ⟨w.heap.size + 1, 2, none⟩ (.slice none 0 0)).setCell ⟨w.heap.size + 1, 3, none⟩ (.int .i64 0)).setCell ⟨w.heap.size + 1, 4, none⟩ (.int .i64 0)).setCell ⟨w.heap.size + 1, 5, none⟩ (.int .i64 0) = W5
  have HS0_5 : Hid (Str W5 (w.heap.size) #[.int .i64 1, .string xk, .slice Ax nx cx, .int .i64 xlo, .int .i64 xhi, .int .i64 xn]) := Lib.hid (by rw [← hW5]; exact ((((((HS0_4.out).other 0 _ (by omega)).other 1 _ (by omega)).other 2 _ (by omega)).other 3 _ (by omega)).other 4 _ (by omega)).other 5 _ (by omega))
  have HS1_5 : Hid (Str W5 (w.heap.size + 1) #[.int .i64 0, .int .i64 0, .slice none 0 0, .int .i64 0, .int .i64 0, .int .i64 0]) := Lib.hid (by rw [← hW5]; have := ((((((HS1_4.out).set 0 (.int .i64 0)).set 1 (.int .i64 0)).set 2 (.slice none 0 0)).set 3 (.int .i64 0)).set 4 (.int .i64 0)).set 5 (.int .i64 0); simpa using this)
  have HS2_5 : Hid (Str W5 (W2.heap.size) #[.int .i64 0, .slice Af nf cf, .int .i64 0, .int .i64 0, .int .i64 0]) := Lib.hid (by rw [← hW5]; exact ((((((HS2_4.out).other 0 _ (by omega)).other 1 _ (by omega)).other 2 _ (by omega)).other 3 _ (by omega)).other 4 _ (by omega)).other 5 _ (by omega))
  have hgr5 : W4.grownBy W5 (some (w.heap.size + 1)) := by rw [← hW5]; exact grown_set (grown_set (grown_set (grown_set (grown_set (grown_set (grown_refl W4 (w.heap.size + 1)) 0 (.int .i64 0)) 1 (.int .i64 0)) 2 (.slice none 0 0)) 3 (.int .i64 0)) 4 (.int .i64 0)) 5 (.int .i64 0)
  have HB_5 := Lib.hid (below_grown HB_4.out hgr5 (by omega))
  have hw_5 := HB_5.out.size
  have hws_5 := hgr5.size
  have HYf_5 := Lib.hid ((Bytes.grown HYf_4.out (Nat.le_refl _) HS1_4.out rfl hgr5).more hws_5)
  clear HYf_4
  have HPz : Hid (Pairs W5 W5.heap.size A' n' c' _) := Lib.hid (Pairs.grown HPs_4.out HS1_4.out rfl rfl hgr5)
  clear hW5
  clear f0_4_0 f0_4_1 f0_4_2 f0_4_3 f0_4_4 f0_4_5 HS0_4 hf0_4 f1_4_0 f1_4_1 f1_4_2 f1_4_3 f1_4_4 f1_4_5 HS1_4 hf1_4 f2_4_0 f2_4_1 f2_4_2 f2_4_3 f2_4_4 HS2_4
  clear hgr5
  obtain ⟨f0_5_0, f0_5_1, f0_5_2, f0_5_3, f0_5_4, f0_5_5⟩ := str6 HS0_5.out
  have hl0_5 := HS0_5.out.lt
  have hf0_5 := fun j => HS0_5.out.frozen j
  obtain ⟨f1_5_0, f1_5_1, f1_5_2, f1_5_3, f1_5_4, f1_5_5⟩ := str6 HS1_5.out
  have hl1_5 := HS1_5.out.lt
  have hf1_5 := fun j => HS1_5.out.frozen j
  obtain ⟨f2_5_0, f2_5_1, f2_5_2, f2_5_3, f2_5_4⟩ := str5 HS2_5.out
  have hl2_5 := HS2_5.out.lt
  exact bodyPost_ret (v := .tuple #[.slice A' n' c', .agg #[.int .i64 0, .int .i64 0, .slice none 0 0, .int .i64 0, .int .i64 0, .int .i64 0]]) (by simp [results, Try.results25, go_sem, *]) rfl ⟨A', n', c', none, 0, 0, rfl, HPz.out, Bytes.none_ _ _, HB_5.out⟩
set_option maxRecDepth 100000 in
set_option maxHeartbeats 2000000 in
theorem rstep_write_some (A : Option Addr) (n c B : Nat) (l : List Pair) (xk : ByteArray) (xdata : List UInt8) (Ax : Option Addr) (nx cx Bx : Nat) (xlo xhi xn : Int) (w : World) (h : Pairs w B A n c l) (hB : B ≤ w.heap.size) (hs : Small l) (hx : Bytes w Bx Ax nx cx xdata) (hBx : Bx ≤ w.heap.size) (hxk : xk.size ≤ maxLen) (hi1 : In64 xlo) (hi2 : In64 xhi) (hi3 : In64 xn) (ckd : Int) (cda : List UInt8) (clo chi cva : Int) (hf : ModelP.find l xk = (some ⟨ckd, cda, clo, chi, cva⟩)) (hg : ModelP.good ⟨1, xk, xdata, xlo, xhi, xn⟩ = true) (hk : ¬ ckd = 2) :
    Calls Try.prog 25 #[.slice A n c, .agg #[.int .i64 1, .string xk, .slice Ax nx cx, .int .i64 xlo, .int .i64 xhi, .int .i64 xn]] w (GivesSA w ((ModelP.put l xk (some ⟨1, xdata, 0, 0, 0⟩), ⟨0, CellP.none⟩))) := by
  have hlen := h.len
  have hn : n ≤ 1000 := by rw [← hlen]; exact hs.len
  have H := Lib.hid h
  have HD := Lib.hid hs.data
  have HX := Lib.hid hx
  have hlx := hx.len
  clear h hs hlen
  have HG : Hid (ModelP.good ⟨1, xk, xdata, xlo, xhi, xn⟩ = true) := Lib.hid hg
  clear hg hx
  go_enter Try.func25, Try.ntmps25
  go_wp2_with fail
  generalize hW0 : ((w).alloc (.cells #[.int .i64 1, .string xk, .slice Ax nx cx, .int .i64 xlo, .int .i64 xhi, .int .i64 xn] 24)).alloc (.cells #[.int .i64 0, .int .i64 0, .slice none 0 0, .int .i64 0, .int .i64 0, .int .i64 0] 39) = W0
  have HS0_0 : Hid (Str W0 (w.heap.size) #[.int .i64 1, .string xk, .slice Ax nx cx, .int .i64 xlo, .int .i64 xhi, .int .i64 xn]) := Lib.hid (by rw [← hW0]; have := (Str.new (w) #[.int .i64 1, .string xk, .slice Ax nx cx, .int .i64 xlo, .int .i64 xhi, .int .i64 xn] 24).alloc (.cells #[.int .i64 0, .int .i64 0, .slice none 0 0, .int .i64 0, .int .i64 0, .int .i64 0] 39); simpa using this)
  have HS1_0 : Hid (Str W0 (w.heap.size + 1) #[.int .i64 0, .int .i64 0, .slice none 0 0, .int .i64 0, .int .i64 0, .int .i64 0]) := Lib.hid (by rw [← hW0]; have := Str.new ((w).alloc (.cells #[.int .i64 1, .string xk, .slice Ax nx cx, .int .i64 xlo, .int .i64 xhi, .int .i64 xn] 24)) #[.int .i64 0, .int .i64 0, .slice none 0 0, .int .i64 0, .int .i64 0, .int .i64 0] 39; simpa using this)
  have HB_0 : Hid (Below w.heap.size w W0) := Lib.hid (by rw [← hW0]; exact balloc (balloc (bsame w) _) _)
  have hw_0 := HB_0.out.size
  clear hW0
  obtain ⟨f0_0_0, f0_0_1, f0_0_2, f0_0_3, f0_0_4, f0_0_5⟩ := str6 HS0_0.out
  have hl0_0 := HS0_0.out.lt
  have hf0_0 := fun j => HS0_0.out.frozen j
  obtain ⟨f1_0_0, f1_0_1, f1_0_2, f1_0_3, f1_0_4, f1_0_5⟩ := str6 HS1_0.out
  have hl1_0 := HS1_0.out.lt
  have hf1_0 := fun j => HS1_0.out.frozen j
  refine (good_any ⟨1, xk, xdata, xlo, xhi, xn⟩ Ax nx cx _ hxk hlx).mono ?_
  rintro e W1 ⟨rfl, hb1⟩
  rw [HG.out]
  have HS0_1 := Lib.hid (HS0_0.out.next hb1)
  have HS1_1 := Lib.hid (HS1_0.out.next hb1)
  have HB_1 := Lib.hid (bstep HB_0.out hb1)
  have hw_1 := HB_1.out.size
  have hws_1 := (hb1).size
  clear f0_0_0 f0_0_1 f0_0_2 f0_0_3 f0_0_4 f0_0_5 HS0_0 hf0_0 f1_0_0 f1_0_1 f1_0_2 f1_0_3 f1_0_4 f1_0_5 HS1_0 hf1_0
  clear hb1
  obtain ⟨f0_1_0, f0_1_1, f0_1_2, f0_1_3, f0_1_4, f0_1_5⟩ := str6 HS0_1.out
  have hl0_1 := HS0_1.out.lt
  have hf0_1 := fun j => HS0_1.out.frozen j
  obtain ⟨f1_1_0, f1_1_1, f1_1_2, f1_1_3, f1_1_4, f1_1_5⟩ := str6 HS1_1.out
  have hl1_1 := HS1_1.out.lt
  have hf1_1 := fun j => HS1_1.out.frozen j
  go_wp2_with fail
  have HF := Lib.hid hf
  clear hf
  refine (refFind_any A n c w.heap.size l xk _ ((H.out.more hB).below HB_1.out) HB_1.out.size (by omega) HD.out).mono ?_
  rintro e W2 ⟨Af, nf, cf, rfl, hyf, hb2⟩
  have HS0_2 := Lib.hid (HS0_1.out.next hb2)
  have HS1_2 := Lib.hid (HS1_1.out.next hb2)
  have HB_2 := Lib.hid (bstep HB_1.out hb2)
  have hw_2 := HB_2.out.size
  have hws_2 := (hb2).size
  clear f0_1_0 f0_1_1 f0_1_2 f0_1_3 f0_1_4 f0_1_5 HS0_1 hf0_1 f1_1_0 f1_1_1 f1_1_2 f1_1_3 f1_1_4 f1_1_5 HS1_1 hf1_1
  clear hb2
  obtain ⟨f0_2_0, f0_2_1, f0_2_2, f0_2_3, f0_2_4, f0_2_5⟩ := str6 HS0_2.out
  have hl0_2 := HS0_2.out.lt
  have hf0_2 := fun j => HS0_2.out.frozen j
  obtain ⟨f1_2_0, f1_2_1, f1_2_2, f1_2_3, f1_2_4, f1_2_5⟩ := str6 HS1_2.out
  have hl1_2 := HS1_2.out.lt
  have hf1_2 := fun j => HS1_2.out.frozen j
  rw [HF.out] at hyf
  dsimp only [Option.getD, CellP.none] at hyf
  have hnf := hyf.len
  have HYf_2 := Lib.hid (hyf)
  clear hyf
  rw [HF.out]
  dsimp only [Option.getD, Option.isSome]
  go_wp2_with fail
  generalize hW3 : W2.alloc (.cells #[.int .i64 ckd, .slice Af nf cf, .int .i64 clo, .int .i64 chi, .int .i64 cva] 37) = W3
  have HS0_3 : Hid (Str W3 (w.heap.size) #[.int .i64 1, .string xk, .slice Ax nx cx, .int .i64 xlo, .int .i64 xhi, .int .i64 xn]) := Lib.hid (by rw [← hW3]; exact HS0_2.out.alloc _)
  have HS1_3 : Hid (Str W3 (w.heap.size + 1) #[.int .i64 0, .int .i64 0, .slice none 0 0, .int .i64 0, .int .i64 0, .int .i64 0]) := Lib.hid (by rw [← hW3]; exact HS1_2.out.alloc _)
  have HS2_3 : Hid (Str W3 W2.heap.size #[.int .i64 ckd, .slice Af nf cf, .int .i64 clo, .int .i64 chi, .int .i64 cva]) := Lib.hid (by rw [← hW3]; exact Str.new W2 #[.int .i64 ckd, .slice Af nf cf, .int .i64 clo, .int .i64 chi, .int .i64 cva] 37)
  have hba3 : Below W2.heap.size W2 W3 := by rw [← hW3]; exact balloc (bsame _) _
  have HB_3 := Lib.hid (bstep HB_2.out hba3)
  have hw_3 := HB_3.out.size
  have hws_3 := hba3.size
  have HYf_3 := Lib.hid (HYf_2.out.next hba3)
  clear HYf_2
  clear hW3
  clear f0_2_0 f0_2_1 f0_2_2 f0_2_3 f0_2_4 f0_2_5 HS0_2 hf0_2 f1_2_0 f1_2_1 f1_2_2 f1_2_3 f1_2_4 f1_2_5 HS1_2 hf1_2
  obtain ⟨f0_3_0, f0_3_1, f0_3_2, f0_3_3, f0_3_4, f0_3_5⟩ := str6 HS0_3.out
  have hl0_3 := HS0_3.out.lt
  have hf0_3 := fun j => HS0_3.out.frozen j
  obtain ⟨f1_3_0, f1_3_1, f1_3_2, f1_3_3, f1_3_4, f1_3_5⟩ := str6 HS1_3.out
  have hl1_3 := HS1_3.out.lt
  have hf1_3 := fun j => HS1_3.out.frozen j
  obtain ⟨f2_3_0, f2_3_1, f2_3_2, f2_3_3, f2_3_4⟩ := str5 HS2_3.out
  have hl2_3 := HS2_3.out.lt
  refine (putSome A n c w.heap.size l xk 1 xdata 0 0 0 Ax nx cx w.heap.size _ ((H.out.more hB).below HB_3.out) HB_3.out.size hn ((HX.out.more hBx).below HB_3.out) HB_3.out.size hxk ⟨by unfold In64; omega, by unfold In64; omega, by unfold In64; omega, by unfold In64; omega⟩ (by decide)).mono ?_
  rintro e W4 ⟨A', n', c', rfl, hp', hb4⟩
  have HS0_4 := Lib.hid (HS0_3.out.next hb4)
  have HS1_4 := Lib.hid (HS1_3.out.next hb4)
  have HS2_4 := Lib.hid (HS2_3.out.next hb4)
  have HB_4 := Lib.hid (bstep HB_3.out hb4)
  have hw_4 := HB_4.out.size
  have hws_4 := (hb4).size
  have HYf_4 := Lib.hid (HYf_3.out.next hb4)
  clear HYf_3
  clear f0_3_0 f0_3_1 f0_3_2 f0_3_3 f0_3_4 f0_3_5 HS0_3 hf0_3 f1_3_0 f1_3_1 f1_3_2 f1_3_3 f1_3_4 f1_3_5 HS1_3 hf1_3 f2_3_0 f2_3_1 f2_3_2 f2_3_3 f2_3_4 HS2_3
  clear hb4
  obtain ⟨f0_4_0, f0_4_1, f0_4_2, f0_4_3, f0_4_4, f0_4_5⟩ := str6 HS0_4.out
  have hl0_4 := HS0_4.out.lt
  have hf0_4 := fun j => HS0_4.out.frozen j
  obtain ⟨f1_4_0, f1_4_1, f1_4_2, f1_4_3, f1_4_4, f1_4_5⟩ := str6 HS1_4.out
  have hl1_4 := HS1_4.out.lt
  have hf1_4 := fun j => HS1_4.out.frozen j
  obtain ⟨f2_4_0, f2_4_1, f2_4_2, f2_4_3, f2_4_4⟩ := str5 HS2_4.out
  have hl2_4 := HS2_4.out.lt
  have HPs_4 := Lib.hid hp'
  clear hp'
  go_wp2_with fail
  generalize hW5 : ((((((W4).setCell ⟨w.heap.size + 1, 0, none⟩ (.int .i64 0)).setCell ⟨w.heap.size + 1, 1, none⟩ (.int .i64 0)).setCell ⟨w.heap.size + 1, 2, none⟩ (.slice none 0 0)).setCell ⟨w.heap.size + 1, 3, none⟩ (.int .i64 0)).setCell ⟨w.heap.size + 1, 4, none⟩ (.int .i64 0)).setCell ⟨w.heap.size + 1, 5, none⟩ (.int .i64 0) = W5
  have HS0_5 : Hid (Str W5 (w.heap.size) #[.int .i64 1, .string xk, .slice Ax nx cx, .int .i64 xlo, .int .i64 xhi, .int .i64 xn]) := Lib.hid (by rw [← hW5]; exact ((((((HS0_4.out).other 0 _ (by omega)).other 1 _ (by omega)).other 2 _ (by omega)).other 3 _ (by omega)).other 4 _ (by omega)).other 5 _ (by omega))
  have HS1_5 : Hid (Str W5 (w.heap.size + 1) #[.int .i64 0, .int .i64 0, .slice none 0 0, .int .i64 0, .int .i64 0, .int .i64 0]) := Lib.hid (by rw [← hW5]; have := ((((((HS1_4.out).set 0 (.int .i64 0)).set 1 (.int .i64 0)).set 2 (.slice none 0 0)).set 3 (.int .i64 0)).set 4 (.int .i64 0)).set 5 (.int .i64 0); simpa using this)
  have HS2_5 : Hid (Str W5 (W2.heap.size) #[.int .i64 ckd, .slice Af nf cf, .int .i64 clo, .int .i64 chi, .int .i64 cva]) := Lib.hid (by rw [← hW5]; exact ((((((HS2_4.out).other 0 _ (by omega)).other 1 _ (by omega)).other 2 _ (by omega)).other 3 _ (by omega)).other 4 _ (by omega)).other 5 _ (by omega))
  have hgr5 : W4.grownBy W5 (some (w.heap.size + 1)) := by rw [← hW5]; exact grown_set (grown_set (grown_set (grown_set (grown_set (grown_set (grown_refl W4 (w.heap.size + 1)) 0 (.int .i64 0)) 1 (.int .i64 0)) 2 (.slice none 0 0)) 3 (.int .i64 0)) 4 (.int .i64 0)) 5 (.int .i64 0)
  have HB_5 := Lib.hid (below_grown HB_4.out hgr5 (by omega))
  have hw_5 := HB_5.out.size
  have hws_5 := hgr5.size
  have HYf_5 := Lib.hid ((Bytes.grown HYf_4.out (Nat.le_refl _) HS1_4.out rfl hgr5).more hws_5)
  clear HYf_4
  have HPz : Hid (Pairs W5 W5.heap.size A' n' c' _) := Lib.hid (Pairs.grown HPs_4.out HS1_4.out rfl rfl hgr5)
  clear hW5
  clear f0_4_0 f0_4_1 f0_4_2 f0_4_3 f0_4_4 f0_4_5 HS0_4 hf0_4 f1_4_0 f1_4_1 f1_4_2 f1_4_3 f1_4_4 f1_4_5 HS1_4 hf1_4 f2_4_0 f2_4_1 f2_4_2 f2_4_3 f2_4_4 HS2_4
  clear hgr5
  obtain ⟨f0_5_0, f0_5_1, f0_5_2, f0_5_3, f0_5_4, f0_5_5⟩ := str6 HS0_5.out
  have hl0_5 := HS0_5.out.lt
  have hf0_5 := fun j => HS0_5.out.frozen j
  obtain ⟨f1_5_0, f1_5_1, f1_5_2, f1_5_3, f1_5_4, f1_5_5⟩ := str6 HS1_5.out
  have hl1_5 := HS1_5.out.lt
  have hf1_5 := fun j => HS1_5.out.frozen j
  obtain ⟨f2_5_0, f2_5_1, f2_5_2, f2_5_3, f2_5_4⟩ := str5 HS2_5.out
  have hl2_5 := HS2_5.out.lt
  exact bodyPost_ret (v := .tuple #[.slice A' n' c', .agg #[.int .i64 0, .int .i64 0, .slice none 0 0, .int .i64 0, .int .i64 0, .int .i64 0]]) (by simp [results, Try.results25, go_sem, *]) rfl ⟨A', n', c', none, 0, 0, rfl, HPz.out, Bytes.none_ _ _, HB_5.out⟩
set_option maxRecDepth 100000 in
set_option maxHeartbeats 2000000 in
theorem rstep_create_none (A : Option Addr) (n c B : Nat) (l : List Pair) (xk : ByteArray) (xdata : List UInt8) (Ax : Option Addr) (nx cx Bx : Nat) (xlo xhi xn : Int) (w : World) (h : Pairs w B A n c l) (hB : B ≤ w.heap.size) (hs : Small l) (hx : Bytes w Bx Ax nx cx xdata) (hBx : Bx ≤ w.heap.size) (hxk : xk.size ≤ maxLen) (hi1 : In64 xlo) (hi2 : In64 xhi) (hi3 : In64 xn) (hf : ModelP.find l xk = none) (hg : ModelP.good ⟨2, xk, xdata, xlo, xhi, xn⟩ = true) :
    Calls Try.prog 25 #[.slice A n c, .agg #[.int .i64 2, .string xk, .slice Ax nx cx, .int .i64 xlo, .int .i64 xhi, .int .i64 xn]] w (GivesSA w ((ModelP.put l xk (some ⟨2, [], xlo, xhi, xn⟩), ⟨0, CellP.none⟩))) := by
  have hlen := h.len
  have hn : n ≤ 1000 := by rw [← hlen]; exact hs.len
  have H := Lib.hid h
  have HD := Lib.hid hs.data
  have HX := Lib.hid hx
  have hlx := hx.len
  clear h hs hlen
  have HG : Hid (ModelP.good ⟨2, xk, xdata, xlo, xhi, xn⟩ = true) := Lib.hid hg
  clear hg hx
  go_enter Try.func25, Try.ntmps25
  go_wp2_with fail
  generalize hW0 : ((w).alloc (.cells #[.int .i64 2, .string xk, .slice Ax nx cx, .int .i64 xlo, .int .i64 xhi, .int .i64 xn] 24)).alloc (.cells #[.int .i64 0, .int .i64 0, .slice none 0 0, .int .i64 0, .int .i64 0, .int .i64 0] 39) = W0
  have HS0_0 : Hid (Str W0 (w.heap.size) #[.int .i64 2, .string xk, .slice Ax nx cx, .int .i64 xlo, .int .i64 xhi, .int .i64 xn]) := Lib.hid (by rw [← hW0]; have := (Str.new (w) #[.int .i64 2, .string xk, .slice Ax nx cx, .int .i64 xlo, .int .i64 xhi, .int .i64 xn] 24).alloc (.cells #[.int .i64 0, .int .i64 0, .slice none 0 0, .int .i64 0, .int .i64 0, .int .i64 0] 39); simpa using this)
  have HS1_0 : Hid (Str W0 (w.heap.size + 1) #[.int .i64 0, .int .i64 0, .slice none 0 0, .int .i64 0, .int .i64 0, .int .i64 0]) := Lib.hid (by rw [← hW0]; have := Str.new ((w).alloc (.cells #[.int .i64 2, .string xk, .slice Ax nx cx, .int .i64 xlo, .int .i64 xhi, .int .i64 xn] 24)) #[.int .i64 0, .int .i64 0, .slice none 0 0, .int .i64 0, .int .i64 0, .int .i64 0] 39; simpa using this)
  have HB_0 : Hid (Below w.heap.size w W0) := Lib.hid (by rw [← hW0]; exact balloc (balloc (bsame w) _) _)
  have hw_0 := HB_0.out.size
  clear hW0
  obtain ⟨f0_0_0, f0_0_1, f0_0_2, f0_0_3, f0_0_4, f0_0_5⟩ := str6 HS0_0.out
  have hl0_0 := HS0_0.out.lt
  have hf0_0 := fun j => HS0_0.out.frozen j
  obtain ⟨f1_0_0, f1_0_1, f1_0_2, f1_0_3, f1_0_4, f1_0_5⟩ := str6 HS1_0.out
  have hl1_0 := HS1_0.out.lt
  have hf1_0 := fun j => HS1_0.out.frozen j
  refine (good_any ⟨2, xk, xdata, xlo, xhi, xn⟩ Ax nx cx _ hxk hlx).mono ?_
  rintro e W1 ⟨rfl, hb1⟩
  rw [HG.out]
  have HS0_1 := Lib.hid (HS0_0.out.next hb1)
  have HS1_1 := Lib.hid (HS1_0.out.next hb1)
  have HB_1 := Lib.hid (bstep HB_0.out hb1)
  have hw_1 := HB_1.out.size
  have hws_1 := (hb1).size
  clear f0_0_0 f0_0_1 f0_0_2 f0_0_3 f0_0_4 f0_0_5 HS0_0 hf0_0 f1_0_0 f1_0_1 f1_0_2 f1_0_3 f1_0_4 f1_0_5 HS1_0 hf1_0
  clear hb1
  obtain ⟨f0_1_0, f0_1_1, f0_1_2, f0_1_3, f0_1_4, f0_1_5⟩ := str6 HS0_1.out
  have hl0_1 := HS0_1.out.lt
  have hf0_1 := fun j => HS0_1.out.frozen j
  obtain ⟨f1_1_0, f1_1_1, f1_1_2, f1_1_3, f1_1_4, f1_1_5⟩ := str6 HS1_1.out
  have hl1_1 := HS1_1.out.lt
  have hf1_1 := fun j => HS1_1.out.frozen j
  go_wp2_with fail
  have HF := Lib.hid hf
  clear hf
  refine (refFind_any A n c w.heap.size l xk _ ((H.out.more hB).below HB_1.out) HB_1.out.size (by omega) HD.out).mono ?_
  rintro e W2 ⟨Af, nf, cf, rfl, hyf, hb2⟩
  have HS0_2 := Lib.hid (HS0_1.out.next hb2)
  have HS1_2 := Lib.hid (HS1_1.out.next hb2)
  have HB_2 := Lib.hid (bstep HB_1.out hb2)
  have hw_2 := HB_2.out.size
  have hws_2 := (hb2).size
  clear f0_1_0 f0_1_1 f0_1_2 f0_1_3 f0_1_4 f0_1_5 HS0_1 hf0_1 f1_1_0 f1_1_1 f1_1_2 f1_1_3 f1_1_4 f1_1_5 HS1_1 hf1_1
  clear hb2
  obtain ⟨f0_2_0, f0_2_1, f0_2_2, f0_2_3, f0_2_4, f0_2_5⟩ := str6 HS0_2.out
  have hl0_2 := HS0_2.out.lt
  have hf0_2 := fun j => HS0_2.out.frozen j
  obtain ⟨f1_2_0, f1_2_1, f1_2_2, f1_2_3, f1_2_4, f1_2_5⟩ := str6 HS1_2.out
  have hl1_2 := HS1_2.out.lt
  have hf1_2 := fun j => HS1_2.out.frozen j
  rw [HF.out] at hyf
  dsimp only [Option.getD, CellP.none] at hyf
  have hnf := hyf.len
  have HYf_2 := Lib.hid (hyf)
  clear hyf
  rw [HF.out]
  dsimp only [Option.getD, Option.isSome, CellP.none]
  go_wp2_with fail
  generalize hW3 : W2.alloc (.cells #[.int .i64 0, .slice Af nf cf, .int .i64 0, .int .i64 0, .int .i64 0] 37) = W3
  have HS0_3 : Hid (Str W3 (w.heap.size) #[.int .i64 2, .string xk, .slice Ax nx cx, .int .i64 xlo, .int .i64 xhi, .int .i64 xn]) := Lib.hid (by rw [← hW3]; exact HS0_2.out.alloc _)
  have HS1_3 : Hid (Str W3 (w.heap.size + 1) #[.int .i64 0, .int .i64 0, .slice none 0 0, .int .i64 0, .int .i64 0, .int .i64 0]) := Lib.hid (by rw [← hW3]; exact HS1_2.out.alloc _)
  have HS2_3 : Hid (Str W3 W2.heap.size #[.int .i64 0, .slice Af nf cf, .int .i64 0, .int .i64 0, .int .i64 0]) := Lib.hid (by rw [← hW3]; exact Str.new W2 #[.int .i64 0, .slice Af nf cf, .int .i64 0, .int .i64 0, .int .i64 0] 37)
  have hba3 : Below W2.heap.size W2 W3 := by rw [← hW3]; exact balloc (bsame _) _
  have HB_3 := Lib.hid (bstep HB_2.out hba3)
  have hw_3 := HB_3.out.size
  have hws_3 := hba3.size
  have HYf_3 := Lib.hid (HYf_2.out.next hba3)
  clear HYf_2
  clear hW3
  clear f0_2_0 f0_2_1 f0_2_2 f0_2_3 f0_2_4 f0_2_5 HS0_2 hf0_2 f1_2_0 f1_2_1 f1_2_2 f1_2_3 f1_2_4 f1_2_5 HS1_2 hf1_2
  obtain ⟨f0_3_0, f0_3_1, f0_3_2, f0_3_3, f0_3_4, f0_3_5⟩ := str6 HS0_3.out
  have hl0_3 := HS0_3.out.lt
  have hf0_3 := fun j => HS0_3.out.frozen j
  obtain ⟨f1_3_0, f1_3_1, f1_3_2, f1_3_3, f1_3_4, f1_3_5⟩ := str6 HS1_3.out
  have hl1_3 := HS1_3.out.lt
  have hf1_3 := fun j => HS1_3.out.frozen j
  obtain ⟨f2_3_0, f2_3_1, f2_3_2, f2_3_3, f2_3_4⟩ := str5 HS2_3.out
  have hl2_3 := HS2_3.out.lt
  refine (putSome A n c w.heap.size l xk 2 [] xlo xhi xn none 0 0 w.heap.size _ ((H.out.more hB).below HB_3.out) HB_3.out.size hn (Bytes.none_ W3 _) HB_3.out.size hxk ⟨by unfold In64; omega, hi1, hi2, hi3⟩ (by decide)).mono ?_
  rintro e W4 ⟨A', n', c', rfl, hp', hb4⟩
  have HS0_4 := Lib.hid (HS0_3.out.next hb4)
  have HS1_4 := Lib.hid (HS1_3.out.next hb4)
  have HS2_4 := Lib.hid (HS2_3.out.next hb4)
  have HB_4 := Lib.hid (bstep HB_3.out hb4)
  have hw_4 := HB_4.out.size
  have hws_4 := (hb4).size
  have HYf_4 := Lib.hid (HYf_3.out.next hb4)
  clear HYf_3
  clear f0_3_0 f0_3_1 f0_3_2 f0_3_3 f0_3_4 f0_3_5 HS0_3 hf0_3 f1_3_0 f1_3_1 f1_3_2 f1_3_3 f1_3_4 f1_3_5 HS1_3 hf1_3 f2_3_0 f2_3_1 f2_3_2 f2_3_3 f2_3_4 HS2_3
  clear hb4
  obtain ⟨f0_4_0, f0_4_1, f0_4_2, f0_4_3, f0_4_4, f0_4_5⟩ := str6 HS0_4.out
  have hl0_4 := HS0_4.out.lt
  have hf0_4 := fun j => HS0_4.out.frozen j
  obtain ⟨f1_4_0, f1_4_1, f1_4_2, f1_4_3, f1_4_4, f1_4_5⟩ := str6 HS1_4.out
  have hl1_4 := HS1_4.out.lt
  have hf1_4 := fun j => HS1_4.out.frozen j
  obtain ⟨f2_4_0, f2_4_1, f2_4_2, f2_4_3, f2_4_4⟩ := str5 HS2_4.out
  have hl2_4 := HS2_4.out.lt
  have HPs_4 := Lib.hid hp'
  clear hp'
  go_wp2_with fail
  generalize hW5 : ((((((W4).setCell ⟨w.heap.size + 1, 0, none⟩ (.int .i64 0)).setCell ⟨w.heap.size + 1, 1, none⟩ (.int .i64 0)).setCell ⟨w.heap.size + 1, 2, none⟩ (.slice none 0 0)).setCell ⟨w.heap.size + 1, 3, none⟩ (.int .i64 0)).setCell ⟨w.heap.size + 1, 4, none⟩ (.int .i64 0)).setCell ⟨w.heap.size + 1, 5, none⟩ (.int .i64 0) = W5
  have HS0_5 : Hid (Str W5 (w.heap.size) #[.int .i64 2, .string xk, .slice Ax nx cx, .int .i64 xlo, .int .i64 xhi, .int .i64 xn]) := Lib.hid (by rw [← hW5]; exact ((((((HS0_4.out).other 0 _ (by omega)).other 1 _ (by omega)).other 2 _ (by omega)).other 3 _ (by omega)).other 4 _ (by omega)).other 5 _ (by omega))
  have HS1_5 : Hid (Str W5 (w.heap.size + 1) #[.int .i64 0, .int .i64 0, .slice none 0 0, .int .i64 0, .int .i64 0, .int .i64 0]) := Lib.hid (by rw [← hW5]; have := ((((((HS1_4.out).set 0 (.int .i64 0)).set 1 (.int .i64 0)).set 2 (.slice none 0 0)).set 3 (.int .i64 0)).set 4 (.int .i64 0)).set 5 (.int .i64 0); simpa using this)
  have HS2_5 : Hid (Str W5 (W2.heap.size) #[.int .i64 0, .slice Af nf cf, .int .i64 0, .int .i64 0, .int .i64 0]) := Lib.hid (by rw [← hW5]; exact ((((((HS2_4.out).other 0 _ (by omega)).other 1 _ (by omega)).other 2 _ (by omega)).other 3 _ (by omega)).other 4 _ (by omega)).other 5 _ (by omega))
  have hgr5 : W4.grownBy W5 (some (w.heap.size + 1)) := by rw [← hW5]; exact grown_set (grown_set (grown_set (grown_set (grown_set (grown_set (grown_refl W4 (w.heap.size + 1)) 0 (.int .i64 0)) 1 (.int .i64 0)) 2 (.slice none 0 0)) 3 (.int .i64 0)) 4 (.int .i64 0)) 5 (.int .i64 0)
  have HB_5 := Lib.hid (below_grown HB_4.out hgr5 (by omega))
  have hw_5 := HB_5.out.size
  have hws_5 := hgr5.size
  have HYf_5 := Lib.hid ((Bytes.grown HYf_4.out (Nat.le_refl _) HS1_4.out rfl hgr5).more hws_5)
  clear HYf_4
  have HPz : Hid (Pairs W5 W5.heap.size A' n' c' _) := Lib.hid (Pairs.grown HPs_4.out HS1_4.out rfl rfl hgr5)
  clear hW5
  clear f0_4_0 f0_4_1 f0_4_2 f0_4_3 f0_4_4 f0_4_5 HS0_4 hf0_4 f1_4_0 f1_4_1 f1_4_2 f1_4_3 f1_4_4 f1_4_5 HS1_4 hf1_4 f2_4_0 f2_4_1 f2_4_2 f2_4_3 f2_4_4 HS2_4
  clear hgr5
  obtain ⟨f0_5_0, f0_5_1, f0_5_2, f0_5_3, f0_5_4, f0_5_5⟩ := str6 HS0_5.out
  have hl0_5 := HS0_5.out.lt
  have hf0_5 := fun j => HS0_5.out.frozen j
  obtain ⟨f1_5_0, f1_5_1, f1_5_2, f1_5_3, f1_5_4, f1_5_5⟩ := str6 HS1_5.out
  have hl1_5 := HS1_5.out.lt
  have hf1_5 := fun j => HS1_5.out.frozen j
  obtain ⟨f2_5_0, f2_5_1, f2_5_2, f2_5_3, f2_5_4⟩ := str5 HS2_5.out
  have hl2_5 := HS2_5.out.lt
  exact bodyPost_ret (v := .tuple #[.slice A' n' c', .agg #[.int .i64 0, .int .i64 0, .slice none 0 0, .int .i64 0, .int .i64 0, .int .i64 0]]) (by simp [results, Try.results25, go_sem, *]) rfl ⟨A', n', c', none, 0, 0, rfl, HPz.out, Bytes.none_ _ _, HB_5.out⟩
set_option maxRecDepth 100000 in
set_option maxHeartbeats 2000000 in
theorem rstep_drop_some (A : Option Addr) (n c B : Nat) (l : List Pair) (xk : ByteArray) (xdata : List UInt8) (Ax : Option Addr) (nx cx Bx : Nat) (xlo xhi xn : Int) (w : World) (h : Pairs w B A n c l) (hB : B ≤ w.heap.size) (hs : Small l) (hx : Bytes w Bx Ax nx cx xdata) (hBx : Bx ≤ w.heap.size) (hxk : xk.size ≤ maxLen) (hi1 : In64 xlo) (hi2 : In64 xhi) (hi3 : In64 xn) (ckd : Int) (cda : List UInt8) (clo chi cva : Int) (hf : ModelP.find l xk = (some ⟨ckd, cda, clo, chi, cva⟩)) (hg : ModelP.good ⟨3, xk, xdata, xlo, xhi, xn⟩ = true) :
    Calls Try.prog 25 #[.slice A n c, .agg #[.int .i64 3, .string xk, .slice Ax nx cx, .int .i64 xlo, .int .i64 xhi, .int .i64 xn]] w (GivesSA w ((ModelP.put l xk none, ⟨0, CellP.none⟩))) := by
  have hlen := h.len
  have hn : n ≤ 1000 := by rw [← hlen]; exact hs.len
  have H := Lib.hid h
  have HD := Lib.hid hs.data
  have HX := Lib.hid hx
  have hlx := hx.len
  clear h hs hlen
  have HG : Hid (ModelP.good ⟨3, xk, xdata, xlo, xhi, xn⟩ = true) := Lib.hid hg
  clear hg hx
  go_enter Try.func25, Try.ntmps25
  go_wp2_with fail
  generalize hW0 : ((w).alloc (.cells #[.int .i64 3, .string xk, .slice Ax nx cx, .int .i64 xlo, .int .i64 xhi, .int .i64 xn] 24)).alloc (.cells #[.int .i64 0, .int .i64 0, .slice none 0 0, .int .i64 0, .int .i64 0, .int .i64 0] 39) = W0
  have HS0_0 : Hid (Str W0 (w.heap.size) #[.int .i64 3, .string xk, .slice Ax nx cx, .int .i64 xlo, .int .i64 xhi, .int .i64 xn]) := Lib.hid (by rw [← hW0]; have := (Str.new (w) #[.int .i64 3, .string xk, .slice Ax nx cx, .int .i64 xlo, .int .i64 xhi, .int .i64 xn] 24).alloc (.cells #[.int .i64 0, .int .i64 0, .slice none 0 0, .int .i64 0, .int .i64 0, .int .i64 0] 39); simpa using this)
  have HS1_0 : Hid (Str W0 (w.heap.size + 1) #[.int .i64 0, .int .i64 0, .slice none 0 0, .int .i64 0, .int .i64 0, .int .i64 0]) := Lib.hid (by rw [← hW0]; have := Str.new ((w).alloc (.cells #[.int .i64 3, .string xk, .slice Ax nx cx, .int .i64 xlo, .int .i64 xhi, .int .i64 xn] 24)) #[.int .i64 0, .int .i64 0, .slice none 0 0, .int .i64 0, .int .i64 0, .int .i64 0] 39; simpa using this)
  have HB_0 : Hid (Below w.heap.size w W0) := Lib.hid (by rw [← hW0]; exact balloc (balloc (bsame w) _) _)
  have hw_0 := HB_0.out.size
  clear hW0
  obtain ⟨f0_0_0, f0_0_1, f0_0_2, f0_0_3, f0_0_4, f0_0_5⟩ := str6 HS0_0.out
  have hl0_0 := HS0_0.out.lt
  have hf0_0 := fun j => HS0_0.out.frozen j
  obtain ⟨f1_0_0, f1_0_1, f1_0_2, f1_0_3, f1_0_4, f1_0_5⟩ := str6 HS1_0.out
  have hl1_0 := HS1_0.out.lt
  have hf1_0 := fun j => HS1_0.out.frozen j
  refine (good_any ⟨3, xk, xdata, xlo, xhi, xn⟩ Ax nx cx _ hxk hlx).mono ?_
  rintro e W1 ⟨rfl, hb1⟩
  rw [HG.out]
  have HS0_1 := Lib.hid (HS0_0.out.next hb1)
  have HS1_1 := Lib.hid (HS1_0.out.next hb1)
  have HB_1 := Lib.hid (bstep HB_0.out hb1)
  have hw_1 := HB_1.out.size
  have hws_1 := (hb1).size
  clear f0_0_0 f0_0_1 f0_0_2 f0_0_3 f0_0_4 f0_0_5 HS0_0 hf0_0 f1_0_0 f1_0_1 f1_0_2 f1_0_3 f1_0_4 f1_0_5 HS1_0 hf1_0
  clear hb1
  obtain ⟨f0_1_0, f0_1_1, f0_1_2, f0_1_3, f0_1_4, f0_1_5⟩ := str6 HS0_1.out
  have hl0_1 := HS0_1.out.lt
  have hf0_1 := fun j => HS0_1.out.frozen j
  obtain ⟨f1_1_0, f1_1_1, f1_1_2, f1_1_3, f1_1_4, f1_1_5⟩ := str6 HS1_1.out
  have hl1_1 := HS1_1.out.lt
  have hf1_1 := fun j => HS1_1.out.frozen j
  go_wp2_with fail
  have HF := Lib.hid hf
  clear hf
  refine (refFind_any A n c w.heap.size l xk _ ((H.out.more hB).below HB_1.out) HB_1.out.size (by omega) HD.out).mono ?_
  rintro e W2 ⟨Af, nf, cf, rfl, hyf, hb2⟩
  have HS0_2 := Lib.hid (HS0_1.out.next hb2)
  have HS1_2 := Lib.hid (HS1_1.out.next hb2)
  have HB_2 := Lib.hid (bstep HB_1.out hb2)
  have hw_2 := HB_2.out.size
  have hws_2 := (hb2).size
  clear f0_1_0 f0_1_1 f0_1_2 f0_1_3 f0_1_4 f0_1_5 HS0_1 hf0_1 f1_1_0 f1_1_1 f1_1_2 f1_1_3 f1_1_4 f1_1_5 HS1_1 hf1_1
  clear hb2
  obtain ⟨f0_2_0, f0_2_1, f0_2_2, f0_2_3, f0_2_4, f0_2_5⟩ := str6 HS0_2.out
  have hl0_2 := HS0_2.out.lt
  have hf0_2 := fun j => HS0_2.out.frozen j
  obtain ⟨f1_2_0, f1_2_1, f1_2_2, f1_2_3, f1_2_4, f1_2_5⟩ := str6 HS1_2.out
  have hl1_2 := HS1_2.out.lt
  have hf1_2 := fun j => HS1_2.out.frozen j
  rw [HF.out] at hyf
  dsimp only [Option.getD, CellP.none] at hyf
  have hnf := hyf.len
  have HYf_2 := Lib.hid (hyf)
  clear hyf
  rw [HF.out]
  dsimp only [Option.getD, Option.isSome]
  go_wp2_with fail
  generalize hW3 : W2.alloc (.cells #[.int .i64 ckd, .slice Af nf cf, .int .i64 clo, .int .i64 chi, .int .i64 cva] 37) = W3
  have HS0_3 : Hid (Str W3 (w.heap.size) #[.int .i64 3, .string xk, .slice Ax nx cx, .int .i64 xlo, .int .i64 xhi, .int .i64 xn]) := Lib.hid (by rw [← hW3]; exact HS0_2.out.alloc _)
  have HS1_3 : Hid (Str W3 (w.heap.size + 1) #[.int .i64 0, .int .i64 0, .slice none 0 0, .int .i64 0, .int .i64 0, .int .i64 0]) := Lib.hid (by rw [← hW3]; exact HS1_2.out.alloc _)
  have HS2_3 : Hid (Str W3 W2.heap.size #[.int .i64 ckd, .slice Af nf cf, .int .i64 clo, .int .i64 chi, .int .i64 cva]) := Lib.hid (by rw [← hW3]; exact Str.new W2 #[.int .i64 ckd, .slice Af nf cf, .int .i64 clo, .int .i64 chi, .int .i64 cva] 37)
  have hba3 : Below W2.heap.size W2 W3 := by rw [← hW3]; exact balloc (bsame _) _
  have HB_3 := Lib.hid (bstep HB_2.out hba3)
  have hw_3 := HB_3.out.size
  have hws_3 := hba3.size
  have HYf_3 := Lib.hid (HYf_2.out.next hba3)
  clear HYf_2
  clear hW3
  clear f0_2_0 f0_2_1 f0_2_2 f0_2_3 f0_2_4 f0_2_5 HS0_2 hf0_2 f1_2_0 f1_2_1 f1_2_2 f1_2_3 f1_2_4 f1_2_5 HS1_2 hf1_2
  obtain ⟨f0_3_0, f0_3_1, f0_3_2, f0_3_3, f0_3_4, f0_3_5⟩ := str6 HS0_3.out
  have hl0_3 := HS0_3.out.lt
  have hf0_3 := fun j => HS0_3.out.frozen j
  obtain ⟨f1_3_0, f1_3_1, f1_3_2, f1_3_3, f1_3_4, f1_3_5⟩ := str6 HS1_3.out
  have hl1_3 := HS1_3.out.lt
  have hf1_3 := fun j => HS1_3.out.frozen j
  obtain ⟨f2_3_0, f2_3_1, f2_3_2, f2_3_3, f2_3_4⟩ := str5 HS2_3.out
  have hl2_3 := HS2_3.out.lt
  refine (putNone A n c w.heap.size l xk 0 [] 0 0 0 none 0 0 w.heap.size _ ((H.out.more hB).below HB_3.out) HB_3.out.size hn (Bytes.none_ W3 _) HB_3.out.size hxk ⟨by unfold In64; omega, by unfold In64; omega, by unfold In64; omega, by unfold In64; omega⟩ rfl).mono ?_
  rintro e W4 ⟨A', n', c', rfl, hp', hb4⟩
  have HS0_4 := Lib.hid (HS0_3.out.next hb4)
  have HS1_4 := Lib.hid (HS1_3.out.next hb4)
  have HS2_4 := Lib.hid (HS2_3.out.next hb4)
  have HB_4 := Lib.hid (bstep HB_3.out hb4)
  have hw_4 := HB_4.out.size
  have hws_4 := (hb4).size
  have HYf_4 := Lib.hid (HYf_3.out.next hb4)
  clear HYf_3
  clear f0_3_0 f0_3_1 f0_3_2 f0_3_3 f0_3_4 f0_3_5 HS0_3 hf0_3 f1_3_0 f1_3_1 f1_3_2 f1_3_3 f1_3_4 f1_3_5 HS1_3 hf1_3 f2_3_0 f2_3_1 f2_3_2 f2_3_3 f2_3_4 HS2_3
  clear hb4
  obtain ⟨f0_4_0, f0_4_1, f0_4_2, f0_4_3, f0_4_4, f0_4_5⟩ := str6 HS0_4.out
  have hl0_4 := HS0_4.out.lt
  have hf0_4 := fun j => HS0_4.out.frozen j
  obtain ⟨f1_4_0, f1_4_1, f1_4_2, f1_4_3, f1_4_4, f1_4_5⟩ := str6 HS1_4.out
  have hl1_4 := HS1_4.out.lt
  have hf1_4 := fun j => HS1_4.out.frozen j
  obtain ⟨f2_4_0, f2_4_1, f2_4_2, f2_4_3, f2_4_4⟩ := str5 HS2_4.out
  have hl2_4 := HS2_4.out.lt
  have HPs_4 := Lib.hid hp'
  clear hp'
  go_wp2_with fail
  generalize hW5 : ((((((W4).setCell ⟨w.heap.size + 1, 0, none⟩ (.int .i64 0)).setCell ⟨w.heap.size + 1, 1, none⟩ (.int .i64 0)).setCell ⟨w.heap.size + 1, 2, none⟩ (.slice none 0 0)).setCell ⟨w.heap.size + 1, 3, none⟩ (.int .i64 0)).setCell ⟨w.heap.size + 1, 4, none⟩ (.int .i64 0)).setCell ⟨w.heap.size + 1, 5, none⟩ (.int .i64 0) = W5
  have HS0_5 : Hid (Str W5 (w.heap.size) #[.int .i64 3, .string xk, .slice Ax nx cx, .int .i64 xlo, .int .i64 xhi, .int .i64 xn]) := Lib.hid (by rw [← hW5]; exact ((((((HS0_4.out).other 0 _ (by omega)).other 1 _ (by omega)).other 2 _ (by omega)).other 3 _ (by omega)).other 4 _ (by omega)).other 5 _ (by omega))
  have HS1_5 : Hid (Str W5 (w.heap.size + 1) #[.int .i64 0, .int .i64 0, .slice none 0 0, .int .i64 0, .int .i64 0, .int .i64 0]) := Lib.hid (by rw [← hW5]; have := ((((((HS1_4.out).set 0 (.int .i64 0)).set 1 (.int .i64 0)).set 2 (.slice none 0 0)).set 3 (.int .i64 0)).set 4 (.int .i64 0)).set 5 (.int .i64 0); simpa using this)
  have HS2_5 : Hid (Str W5 (W2.heap.size) #[.int .i64 ckd, .slice Af nf cf, .int .i64 clo, .int .i64 chi, .int .i64 cva]) := Lib.hid (by rw [← hW5]; exact ((((((HS2_4.out).other 0 _ (by omega)).other 1 _ (by omega)).other 2 _ (by omega)).other 3 _ (by omega)).other 4 _ (by omega)).other 5 _ (by omega))
  have hgr5 : W4.grownBy W5 (some (w.heap.size + 1)) := by rw [← hW5]; exact grown_set (grown_set (grown_set (grown_set (grown_set (grown_set (grown_refl W4 (w.heap.size + 1)) 0 (.int .i64 0)) 1 (.int .i64 0)) 2 (.slice none 0 0)) 3 (.int .i64 0)) 4 (.int .i64 0)) 5 (.int .i64 0)
  have HB_5 := Lib.hid (below_grown HB_4.out hgr5 (by omega))
  have hw_5 := HB_5.out.size
  have hws_5 := hgr5.size
  have HYf_5 := Lib.hid ((Bytes.grown HYf_4.out (Nat.le_refl _) HS1_4.out rfl hgr5).more hws_5)
  clear HYf_4
  have HPz : Hid (Pairs W5 W5.heap.size A' n' c' _) := Lib.hid (Pairs.grown HPs_4.out HS1_4.out rfl rfl hgr5)
  clear hW5
  clear f0_4_0 f0_4_1 f0_4_2 f0_4_3 f0_4_4 f0_4_5 HS0_4 hf0_4 f1_4_0 f1_4_1 f1_4_2 f1_4_3 f1_4_4 f1_4_5 HS1_4 hf1_4 f2_4_0 f2_4_1 f2_4_2 f2_4_3 f2_4_4 HS2_4
  clear hgr5
  obtain ⟨f0_5_0, f0_5_1, f0_5_2, f0_5_3, f0_5_4, f0_5_5⟩ := str6 HS0_5.out
  have hl0_5 := HS0_5.out.lt
  have hf0_5 := fun j => HS0_5.out.frozen j
  obtain ⟨f1_5_0, f1_5_1, f1_5_2, f1_5_3, f1_5_4, f1_5_5⟩ := str6 HS1_5.out
  have hl1_5 := HS1_5.out.lt
  have hf1_5 := fun j => HS1_5.out.frozen j
  obtain ⟨f2_5_0, f2_5_1, f2_5_2, f2_5_3, f2_5_4⟩ := str5 HS2_5.out
  have hl2_5 := HS2_5.out.lt
  exact bodyPost_ret (v := .tuple #[.slice A' n' c', .agg #[.int .i64 0, .int .i64 0, .slice none 0 0, .int .i64 0, .int .i64 0, .int .i64 0]]) (by simp [results, Try.results25, go_sem, *]) rfl ⟨A', n', c', none, 0, 0, rfl, HPz.out, Bytes.none_ _ _, HB_5.out⟩
set_option maxRecDepth 100000 in
set_option maxHeartbeats 2000000 in
theorem rstep_read_some (A : Option Addr) (n c B : Nat) (l : List Pair) (xk : ByteArray) (xdata : List UInt8) (Ax : Option Addr) (nx cx Bx : Nat) (xlo xhi xn : Int) (w : World) (h : Pairs w B A n c l) (hB : B ≤ w.heap.size) (hs : Small l) (hx : Bytes w Bx Ax nx cx xdata) (hBx : Bx ≤ w.heap.size) (hxk : xk.size ≤ maxLen) (hi1 : In64 xlo) (hi2 : In64 xhi) (hi3 : In64 xn) (ckd : Int) (cda : List UInt8) (clo chi cva : Int) (hf : ModelP.find l xk = (some ⟨ckd, cda, clo, chi, cva⟩)) (hg : ModelP.good ⟨0, xk, xdata, xlo, xhi, xn⟩ = true) :
    Calls Try.prog 25 #[.slice A n c, .agg #[.int .i64 0, .string xk, .slice Ax nx cx, .int .i64 xlo, .int .i64 xhi, .int .i64 xn]] w (GivesSA w ((l, ⟨0, ⟨ckd, cda, clo, chi, cva⟩⟩))) := by
  have hlen := h.len
  have hn : n ≤ 1000 := by rw [← hlen]; exact hs.len
  have H := Lib.hid h
  have HD := Lib.hid hs.data
  have HX := Lib.hid hx
  have hlx := hx.len
  clear h hs hlen
  have HG : Hid (ModelP.good ⟨0, xk, xdata, xlo, xhi, xn⟩ = true) := Lib.hid hg
  clear hg hx
  go_enter Try.func25, Try.ntmps25
  go_wp2_with fail
  generalize hW0 : ((w).alloc (.cells #[.int .i64 0, .string xk, .slice Ax nx cx, .int .i64 xlo, .int .i64 xhi, .int .i64 xn] 24)).alloc (.cells #[.int .i64 0, .int .i64 0, .slice none 0 0, .int .i64 0, .int .i64 0, .int .i64 0] 39) = W0
  have HS0_0 : Hid (Str W0 (w.heap.size) #[.int .i64 0, .string xk, .slice Ax nx cx, .int .i64 xlo, .int .i64 xhi, .int .i64 xn]) := Lib.hid (by rw [← hW0]; have := (Str.new (w) #[.int .i64 0, .string xk, .slice Ax nx cx, .int .i64 xlo, .int .i64 xhi, .int .i64 xn] 24).alloc (.cells #[.int .i64 0, .int .i64 0, .slice none 0 0, .int .i64 0, .int .i64 0, .int .i64 0] 39); simpa using this)
  have HS1_0 : Hid (Str W0 (w.heap.size + 1) #[.int .i64 0, .int .i64 0, .slice none 0 0, .int .i64 0, .int .i64 0, .int .i64 0]) := Lib.hid (by rw [← hW0]; have := Str.new ((w).alloc (.cells #[.int .i64 0, .string xk, .slice Ax nx cx, .int .i64 xlo, .int .i64 xhi, .int .i64 xn] 24)) #[.int .i64 0, .int .i64 0, .slice none 0 0, .int .i64 0, .int .i64 0, .int .i64 0] 39; simpa using this)
  have HB_0 : Hid (Below w.heap.size w W0) := Lib.hid (by rw [← hW0]; exact balloc (balloc (bsame w) _) _)
  have hw_0 := HB_0.out.size
  clear hW0
  obtain ⟨f0_0_0, f0_0_1, f0_0_2, f0_0_3, f0_0_4, f0_0_5⟩ := str6 HS0_0.out
  have hl0_0 := HS0_0.out.lt
  have hf0_0 := fun j => HS0_0.out.frozen j
  obtain ⟨f1_0_0, f1_0_1, f1_0_2, f1_0_3, f1_0_4, f1_0_5⟩ := str6 HS1_0.out
  have hl1_0 := HS1_0.out.lt
  have hf1_0 := fun j => HS1_0.out.frozen j
  refine (good_any ⟨0, xk, xdata, xlo, xhi, xn⟩ Ax nx cx _ hxk hlx).mono ?_
  rintro e W1 ⟨rfl, hb1⟩
  rw [HG.out]
  have HS0_1 := Lib.hid (HS0_0.out.next hb1)
  have HS1_1 := Lib.hid (HS1_0.out.next hb1)
  have HB_1 := Lib.hid (bstep HB_0.out hb1)
  have hw_1 := HB_1.out.size
  have hws_1 := (hb1).size
  clear f0_0_0 f0_0_1 f0_0_2 f0_0_3 f0_0_4 f0_0_5 HS0_0 hf0_0 f1_0_0 f1_0_1 f1_0_2 f1_0_3 f1_0_4 f1_0_5 HS1_0 hf1_0
  clear hb1
  obtain ⟨f0_1_0, f0_1_1, f0_1_2, f0_1_3, f0_1_4, f0_1_5⟩ := str6 HS0_1.out
  have hl0_1 := HS0_1.out.lt
  have hf0_1 := fun j => HS0_1.out.frozen j
  obtain ⟨f1_1_0, f1_1_1, f1_1_2, f1_1_3, f1_1_4, f1_1_5⟩ := str6 HS1_1.out
  have hl1_1 := HS1_1.out.lt
  have hf1_1 := fun j => HS1_1.out.frozen j
  go_wp2_with fail
  have HF := Lib.hid hf
  clear hf
  refine (refFind_any A n c w.heap.size l xk _ ((H.out.more hB).below HB_1.out) HB_1.out.size (by omega) HD.out).mono ?_
  rintro e W2 ⟨Af, nf, cf, rfl, hyf, hb2⟩
  have HS0_2 := Lib.hid (HS0_1.out.next hb2)
  have HS1_2 := Lib.hid (HS1_1.out.next hb2)
  have HB_2 := Lib.hid (bstep HB_1.out hb2)
  have hw_2 := HB_2.out.size
  have hws_2 := (hb2).size
  clear f0_1_0 f0_1_1 f0_1_2 f0_1_3 f0_1_4 f0_1_5 HS0_1 hf0_1 f1_1_0 f1_1_1 f1_1_2 f1_1_3 f1_1_4 f1_1_5 HS1_1 hf1_1
  clear hb2
  obtain ⟨f0_2_0, f0_2_1, f0_2_2, f0_2_3, f0_2_4, f0_2_5⟩ := str6 HS0_2.out
  have hl0_2 := HS0_2.out.lt
  have hf0_2 := fun j => HS0_2.out.frozen j
  obtain ⟨f1_2_0, f1_2_1, f1_2_2, f1_2_3, f1_2_4, f1_2_5⟩ := str6 HS1_2.out
  have hl1_2 := HS1_2.out.lt
  have hf1_2 := fun j => HS1_2.out.frozen j
  rw [HF.out] at hyf
  dsimp only [Option.getD, CellP.none] at hyf
  have hnf := hyf.len
  have HYf_2 := Lib.hid (hyf)
  clear hyf
  rw [HF.out]
  dsimp only [Option.getD, Option.isSome]
  go_wp2_with fail
  generalize hW3 : W2.alloc (.cells #[.int .i64 ckd, .slice Af nf cf, .int .i64 clo, .int .i64 chi, .int .i64 cva] 37) = W3
  have HS0_3 : Hid (Str W3 (w.heap.size) #[.int .i64 0, .string xk, .slice Ax nx cx, .int .i64 xlo, .int .i64 xhi, .int .i64 xn]) := Lib.hid (by rw [← hW3]; exact HS0_2.out.alloc _)
  have HS1_3 : Hid (Str W3 (w.heap.size + 1) #[.int .i64 0, .int .i64 0, .slice none 0 0, .int .i64 0, .int .i64 0, .int .i64 0]) := Lib.hid (by rw [← hW3]; exact HS1_2.out.alloc _)
  have HS2_3 : Hid (Str W3 W2.heap.size #[.int .i64 ckd, .slice Af nf cf, .int .i64 clo, .int .i64 chi, .int .i64 cva]) := Lib.hid (by rw [← hW3]; exact Str.new W2 #[.int .i64 ckd, .slice Af nf cf, .int .i64 clo, .int .i64 chi, .int .i64 cva] 37)
  have hba3 : Below W2.heap.size W2 W3 := by rw [← hW3]; exact balloc (bsame _) _
  have HB_3 := Lib.hid (bstep HB_2.out hba3)
  have hw_3 := HB_3.out.size
  have hws_3 := hba3.size
  have HYf_3 := Lib.hid (HYf_2.out.next hba3)
  clear HYf_2
  clear hW3
  clear f0_2_0 f0_2_1 f0_2_2 f0_2_3 f0_2_4 f0_2_5 HS0_2 hf0_2 f1_2_0 f1_2_1 f1_2_2 f1_2_3 f1_2_4 f1_2_5 HS1_2 hf1_2
  obtain ⟨f0_3_0, f0_3_1, f0_3_2, f0_3_3, f0_3_4, f0_3_5⟩ := str6 HS0_3.out
  have hl0_3 := HS0_3.out.lt
  have hf0_3 := fun j => HS0_3.out.frozen j
  obtain ⟨f1_3_0, f1_3_1, f1_3_2, f1_3_3, f1_3_4, f1_3_5⟩ := str6 HS1_3.out
  have hl1_3 := HS1_3.out.lt
  have hf1_3 := fun j => HS1_3.out.frozen j
  obtain ⟨f2_3_0, f2_3_1, f2_3_2, f2_3_3, f2_3_4⟩ := str5 HS2_3.out
  have hl2_3 := HS2_3.out.lt
  refine Reg.wp_region_tail (R := ext) (W := W3) [Reg.eqv (.slice A n c), Reg.eqv (.agg #[.int .i64 ckd, .slice Af nf cf, .int .i64 clo, .int .i64 chi, .int .i64 cva]), Reg.eqv (.agg #[.int .i64 0, .int .i64 ckd, .slice Af nf cf, .int .i64 clo, .int .i64 chi, .int .i64 cva]), Reg.eqv (.slice A n c)] 92 4 _ [[(0, none)], [(6, none)], [(64, some 1)], [(63, some 0)]] rfl (by kernel_rfl) (by kernel_rfl) (by rfl) (by rfl) rfl (by kernel_rfl) ?_ [some 63, some 64, some 65, some 4] (by kernel_rfl) ?_
  · refine ⟨?_, ?_, ?_, ?_, trivial⟩
    · intro ax wx hx hs
      obtain ⟨e0, -⟩ := hs
      have g0 := Reg.ev (v := .slice A n c) e0
      exact Reg.obl_free rfl (Reg.wp_eqv (Option.some_ne_none _) (by go_simp) rfl)
    · intro ax wx hx hs
      obtain ⟨e6, -⟩ := hs
      have g6 := Reg.ev (v := .pointer (some ⟨W2.heap.size, 0, none⟩)) e6
      obtain ⟨l0, l1, l2, l3, l4⟩ := str5 (HS2_3.out.next hx)
      exact Reg.obl_free rfl (Reg.wp_eqv (Option.some_ne_none _) (by go_simp) rfl)
    · intro ax wx hx hs
      obtain ⟨e64, -⟩ := hs
      have g64 := Reg.ev (v := .agg #[.int .i64 ckd, .slice Af nf cf, .int .i64 clo, .int .i64 chi, .int .i64 cva]) e64
      exact Reg.obl_free rfl (Reg.wp_eqv (Option.some_ne_none _) (by go_simp) rfl)
    · intro ax wx hx hs
      obtain ⟨e63, -⟩ := hs
      have g63 := Reg.ev (v := .slice A n c) e63
      exact Reg.obl_free rfl (Reg.wp_eqv (Option.some_ne_none _) (by go_simp) rfl)
  · intro W4 hwf
    simp only [Reg.Fin]
    rintro _ rfl _ rfl _ rfl _ rfl
    have hwf' : Below W3.heap.size W3 W4 := hwf
    have HS0_4 := Lib.hid (HS0_3.out.next hwf')
    have HS1_4 := Lib.hid (HS1_3.out.next hwf')
    have HS2_4 := Lib.hid (HS2_3.out.next hwf')
    have HB_4 := Lib.hid (bstep HB_3.out hwf')
    have hw_4 := HB_4.out.size
    have hws_4 := (hwf').size
    have HYf_4 := Lib.hid (HYf_3.out.next hwf')
    clear HYf_3
    clear f0_3_0 f0_3_1 f0_3_2 f0_3_3 f0_3_4 f0_3_5 HS0_3 hf0_3 f1_3_0 f1_3_1 f1_3_2 f1_3_3 f1_3_4 f1_3_5 HS1_3 hf1_3 f2_3_0 f2_3_1 f2_3_2 f2_3_3 f2_3_4 HS2_3
    obtain ⟨f0_4_0, f0_4_1, f0_4_2, f0_4_3, f0_4_4, f0_4_5⟩ := str6 HS0_4.out
    have hl0_4 := HS0_4.out.lt
    have hf0_4 := fun j => HS0_4.out.frozen j
    obtain ⟨f1_4_0, f1_4_1, f1_4_2, f1_4_3, f1_4_4, f1_4_5⟩ := str6 HS1_4.out
    have hl1_4 := HS1_4.out.lt
    have hf1_4 := fun j => HS1_4.out.frozen j
    obtain ⟨f2_4_0, f2_4_1, f2_4_2, f2_4_3, f2_4_4⟩ := str5 HS2_4.out
    have hl2_4 := HS2_4.out.lt
    clear hwf hwf'
    refine Reg.Goal.mk ?_
    go_simp
    go_wp2_with fail
    generalize hW5 : ((((((W4).setCell ⟨w.heap.size + 1, 0, none⟩ (.int .i64 0)).setCell ⟨w.heap.size + 1, 1, none⟩ (.int .i64 ckd)).setCell ⟨w.heap.size + 1, 2, none⟩ (.slice Af nf cf)).setCell ⟨w.heap.size + 1, 3, none⟩ (.int .i64 clo)).setCell ⟨w.heap.size + 1, 4, none⟩ (.int .i64 chi)).setCell ⟨w.heap.size + 1, 5, none⟩ (.int .i64 cva) = W5
    have HS0_5 : Hid (Str W5 (w.heap.size) #[.int .i64 0, .string xk, .slice Ax nx cx, .int .i64 xlo, .int .i64 xhi, .int .i64 xn]) := Lib.hid (by rw [← hW5]; exact ((((((HS0_4.out).other 0 _ (by omega)).other 1 _ (by omega)).other 2 _ (by omega)).other 3 _ (by omega)).other 4 _ (by omega)).other 5 _ (by omega))
    have HS1_5 : Hid (Str W5 (w.heap.size + 1) #[.int .i64 0, .int .i64 ckd, .slice Af nf cf, .int .i64 clo, .int .i64 chi, .int .i64 cva]) := Lib.hid (by rw [← hW5]; have := ((((((HS1_4.out).set 0 (.int .i64 0)).set 1 (.int .i64 ckd)).set 2 (.slice Af nf cf)).set 3 (.int .i64 clo)).set 4 (.int .i64 chi)).set 5 (.int .i64 cva); simpa using this)
    have HS2_5 : Hid (Str W5 (W2.heap.size) #[.int .i64 ckd, .slice Af nf cf, .int .i64 clo, .int .i64 chi, .int .i64 cva]) := Lib.hid (by rw [← hW5]; exact ((((((HS2_4.out).other 0 _ (by omega)).other 1 _ (by omega)).other 2 _ (by omega)).other 3 _ (by omega)).other 4 _ (by omega)).other 5 _ (by omega))
    have hgr5 : W4.grownBy W5 (some (w.heap.size + 1)) := by rw [← hW5]; exact grown_set (grown_set (grown_set (grown_set (grown_set (grown_set (grown_refl W4 (w.heap.size + 1)) 0 (.int .i64 0)) 1 (.int .i64 ckd)) 2 (.slice Af nf cf)) 3 (.int .i64 clo)) 4 (.int .i64 chi)) 5 (.int .i64 cva)
    have HB_5 := Lib.hid (below_grown HB_4.out hgr5 (by omega))
    have hw_5 := HB_5.out.size
    have hws_5 := hgr5.size
    have HYf_5 := Lib.hid ((Bytes.grown HYf_4.out (Nat.le_refl _) HS1_4.out rfl hgr5).more hws_5)
    clear HYf_4
    clear hW5
    clear f0_4_0 f0_4_1 f0_4_2 f0_4_3 f0_4_4 f0_4_5 HS0_4 hf0_4 f1_4_0 f1_4_1 f1_4_2 f1_4_3 f1_4_4 f1_4_5 HS1_4 hf1_4 f2_4_0 f2_4_1 f2_4_2 f2_4_3 f2_4_4 HS2_4
    clear hgr5
    obtain ⟨f0_5_0, f0_5_1, f0_5_2, f0_5_3, f0_5_4, f0_5_5⟩ := str6 HS0_5.out
    have hl0_5 := HS0_5.out.lt
    have hf0_5 := fun j => HS0_5.out.frozen j
    obtain ⟨f1_5_0, f1_5_1, f1_5_2, f1_5_3, f1_5_4, f1_5_5⟩ := str6 HS1_5.out
    have hl1_5 := HS1_5.out.lt
    have hf1_5 := fun j => HS1_5.out.frozen j
    obtain ⟨f2_5_0, f2_5_1, f2_5_2, f2_5_3, f2_5_4⟩ := str5 HS2_5.out
    have hl2_5 := HS2_5.out.lt
    exact bodyPost_ret (v := .tuple #[.slice A n c, .agg #[.int .i64 0, .int .i64 ckd, .slice Af nf cf, .int .i64 clo, .int .i64 chi, .int .i64 cva]]) (by simp [results, Try.results25, go_sem, *]) rfl ⟨A, n, c, Af, nf, cf, rfl, ((H.out.below (HB_5.out.mono hB)).more (Nat.le_trans hB HB_5.out.size)), HYf_5.out, HB_5.out⟩
set_option maxRecDepth 100000 in
set_option maxHeartbeats 2000000 in
theorem rstep_move4_kind (A : Option Addr) (n c B : Nat) (l : List Pair) (xk : ByteArray) (xdata : List UInt8) (Ax : Option Addr) (nx cx Bx : Nat) (xlo xhi xn : Int) (w : World) (h : Pairs w B A n c l) (hB : B ≤ w.heap.size) (hs : Small l) (hx : Bytes w Bx Ax nx cx xdata) (hBx : Bx ≤ w.heap.size) (hxk : xk.size ≤ maxLen) (hi1 : In64 xlo) (hi2 : In64 xhi) (hi3 : In64 xn) (ckd : Int) (cda : List UInt8) (clo chi cva : Int) (hf : ModelP.find l xk = (some ⟨ckd, cda, clo, chi, cva⟩)) (hg : ModelP.good ⟨4, xk, xdata, xlo, xhi, xn⟩ = true) (hk : ¬ ckd = 2) :
    Calls Try.prog 25 #[.slice A n c, .agg #[.int .i64 4, .string xk, .slice Ax nx cx, .int .i64 xlo, .int .i64 xhi, .int .i64 xn]] w (GivesSA w ((l, ⟨6, CellP.none⟩))) := by
  have hlen := h.len
  have hn : n ≤ 1000 := by rw [← hlen]; exact hs.len
  have H := Lib.hid h
  have HD := Lib.hid hs.data
  have HX := Lib.hid hx
  have hlx := hx.len
  clear h hs hlen
  have HG : Hid (ModelP.good ⟨4, xk, xdata, xlo, xhi, xn⟩ = true) := Lib.hid hg
  clear hg hx
  go_enter Try.func25, Try.ntmps25
  go_wp2_with fail
  generalize hW0 : ((w).alloc (.cells #[.int .i64 4, .string xk, .slice Ax nx cx, .int .i64 xlo, .int .i64 xhi, .int .i64 xn] 24)).alloc (.cells #[.int .i64 0, .int .i64 0, .slice none 0 0, .int .i64 0, .int .i64 0, .int .i64 0] 39) = W0
  have HS0_0 : Hid (Str W0 (w.heap.size) #[.int .i64 4, .string xk, .slice Ax nx cx, .int .i64 xlo, .int .i64 xhi, .int .i64 xn]) := Lib.hid (by rw [← hW0]; have := (Str.new (w) #[.int .i64 4, .string xk, .slice Ax nx cx, .int .i64 xlo, .int .i64 xhi, .int .i64 xn] 24).alloc (.cells #[.int .i64 0, .int .i64 0, .slice none 0 0, .int .i64 0, .int .i64 0, .int .i64 0] 39); simpa using this)
  have HS1_0 : Hid (Str W0 (w.heap.size + 1) #[.int .i64 0, .int .i64 0, .slice none 0 0, .int .i64 0, .int .i64 0, .int .i64 0]) := Lib.hid (by rw [← hW0]; have := Str.new ((w).alloc (.cells #[.int .i64 4, .string xk, .slice Ax nx cx, .int .i64 xlo, .int .i64 xhi, .int .i64 xn] 24)) #[.int .i64 0, .int .i64 0, .slice none 0 0, .int .i64 0, .int .i64 0, .int .i64 0] 39; simpa using this)
  have HB_0 : Hid (Below w.heap.size w W0) := Lib.hid (by rw [← hW0]; exact balloc (balloc (bsame w) _) _)
  have hw_0 := HB_0.out.size
  clear hW0
  obtain ⟨f0_0_0, f0_0_1, f0_0_2, f0_0_3, f0_0_4, f0_0_5⟩ := str6 HS0_0.out
  have hl0_0 := HS0_0.out.lt
  have hf0_0 := fun j => HS0_0.out.frozen j
  obtain ⟨f1_0_0, f1_0_1, f1_0_2, f1_0_3, f1_0_4, f1_0_5⟩ := str6 HS1_0.out
  have hl1_0 := HS1_0.out.lt
  have hf1_0 := fun j => HS1_0.out.frozen j
  refine (good_any ⟨4, xk, xdata, xlo, xhi, xn⟩ Ax nx cx _ hxk hlx).mono ?_
  rintro e W1 ⟨rfl, hb1⟩
  rw [HG.out]
  have HS0_1 := Lib.hid (HS0_0.out.next hb1)
  have HS1_1 := Lib.hid (HS1_0.out.next hb1)
  have HB_1 := Lib.hid (bstep HB_0.out hb1)
  have hw_1 := HB_1.out.size
  have hws_1 := (hb1).size
  clear f0_0_0 f0_0_1 f0_0_2 f0_0_3 f0_0_4 f0_0_5 HS0_0 hf0_0 f1_0_0 f1_0_1 f1_0_2 f1_0_3 f1_0_4 f1_0_5 HS1_0 hf1_0
  clear hb1
  obtain ⟨f0_1_0, f0_1_1, f0_1_2, f0_1_3, f0_1_4, f0_1_5⟩ := str6 HS0_1.out
  have hl0_1 := HS0_1.out.lt
  have hf0_1 := fun j => HS0_1.out.frozen j
  obtain ⟨f1_1_0, f1_1_1, f1_1_2, f1_1_3, f1_1_4, f1_1_5⟩ := str6 HS1_1.out
  have hl1_1 := HS1_1.out.lt
  have hf1_1 := fun j => HS1_1.out.frozen j
  go_wp2_with fail
  have HF := Lib.hid hf
  clear hf
  refine (refFind_any A n c w.heap.size l xk _ ((H.out.more hB).below HB_1.out) HB_1.out.size (by omega) HD.out).mono ?_
  rintro e W2 ⟨Af, nf, cf, rfl, hyf, hb2⟩
  have HS0_2 := Lib.hid (HS0_1.out.next hb2)
  have HS1_2 := Lib.hid (HS1_1.out.next hb2)
  have HB_2 := Lib.hid (bstep HB_1.out hb2)
  have hw_2 := HB_2.out.size
  have hws_2 := (hb2).size
  clear f0_1_0 f0_1_1 f0_1_2 f0_1_3 f0_1_4 f0_1_5 HS0_1 hf0_1 f1_1_0 f1_1_1 f1_1_2 f1_1_3 f1_1_4 f1_1_5 HS1_1 hf1_1
  clear hb2
  obtain ⟨f0_2_0, f0_2_1, f0_2_2, f0_2_3, f0_2_4, f0_2_5⟩ := str6 HS0_2.out
  have hl0_2 := HS0_2.out.lt
  have hf0_2 := fun j => HS0_2.out.frozen j
  obtain ⟨f1_2_0, f1_2_1, f1_2_2, f1_2_3, f1_2_4, f1_2_5⟩ := str6 HS1_2.out
  have hl1_2 := HS1_2.out.lt
  have hf1_2 := fun j => HS1_2.out.frozen j
  rw [HF.out] at hyf
  dsimp only [Option.getD, CellP.none] at hyf
  have hnf := hyf.len
  have HYf_2 := Lib.hid (hyf)
  clear hyf
  rw [HF.out]
  dsimp only [Option.getD, Option.isSome]
  go_wp2_with fail
  generalize hW3 : W2.alloc (.cells #[.int .i64 ckd, .slice Af nf cf, .int .i64 clo, .int .i64 chi, .int .i64 cva] 37) = W3
  have HS0_3 : Hid (Str W3 (w.heap.size) #[.int .i64 4, .string xk, .slice Ax nx cx, .int .i64 xlo, .int .i64 xhi, .int .i64 xn]) := Lib.hid (by rw [← hW3]; exact HS0_2.out.alloc _)
  have HS1_3 : Hid (Str W3 (w.heap.size + 1) #[.int .i64 0, .int .i64 0, .slice none 0 0, .int .i64 0, .int .i64 0, .int .i64 0]) := Lib.hid (by rw [← hW3]; exact HS1_2.out.alloc _)
  have HS2_3 : Hid (Str W3 W2.heap.size #[.int .i64 ckd, .slice Af nf cf, .int .i64 clo, .int .i64 chi, .int .i64 cva]) := Lib.hid (by rw [← hW3]; exact Str.new W2 #[.int .i64 ckd, .slice Af nf cf, .int .i64 clo, .int .i64 chi, .int .i64 cva] 37)
  have hba3 : Below W2.heap.size W2 W3 := by rw [← hW3]; exact balloc (bsame _) _
  have HB_3 := Lib.hid (bstep HB_2.out hba3)
  have hw_3 := HB_3.out.size
  have hws_3 := hba3.size
  have HYf_3 := Lib.hid (HYf_2.out.next hba3)
  clear HYf_2
  clear hW3
  clear f0_2_0 f0_2_1 f0_2_2 f0_2_3 f0_2_4 f0_2_5 HS0_2 hf0_2 f1_2_0 f1_2_1 f1_2_2 f1_2_3 f1_2_4 f1_2_5 HS1_2 hf1_2
  obtain ⟨f0_3_0, f0_3_1, f0_3_2, f0_3_3, f0_3_4, f0_3_5⟩ := str6 HS0_3.out
  have hl0_3 := HS0_3.out.lt
  have hf0_3 := fun j => HS0_3.out.frozen j
  obtain ⟨f1_3_0, f1_3_1, f1_3_2, f1_3_3, f1_3_4, f1_3_5⟩ := str6 HS1_3.out
  have hl1_3 := HS1_3.out.lt
  have hf1_3 := fun j => HS1_3.out.frozen j
  obtain ⟨f2_3_0, f2_3_1, f2_3_2, f2_3_3, f2_3_4⟩ := str5 HS2_3.out
  have hl2_3 := HS2_3.out.lt
  refine (rmove_kind 4 xk Ax nx cx xlo xhi xn ckd Af nf cf clo chi cva _ hk).mono ?_
  rintro e W4 ⟨rfl, hb4⟩
  have HS0_4 := Lib.hid (HS0_3.out.next hb4)
  have HS1_4 := Lib.hid (HS1_3.out.next hb4)
  have HS2_4 := Lib.hid (HS2_3.out.next hb4)
  have HB_4 := Lib.hid (bstep HB_3.out hb4)
  have hw_4 := HB_4.out.size
  have hws_4 := (hb4).size
  have HYf_4 := Lib.hid (HYf_3.out.next hb4)
  clear HYf_3
  clear f0_3_0 f0_3_1 f0_3_2 f0_3_3 f0_3_4 f0_3_5 HS0_3 hf0_3 f1_3_0 f1_3_1 f1_3_2 f1_3_3 f1_3_4 f1_3_5 HS1_3 hf1_3 f2_3_0 f2_3_1 f2_3_2 f2_3_3 f2_3_4 HS2_3
  clear hb4
  obtain ⟨f0_4_0, f0_4_1, f0_4_2, f0_4_3, f0_4_4, f0_4_5⟩ := str6 HS0_4.out
  have hl0_4 := HS0_4.out.lt
  have hf0_4 := fun j => HS0_4.out.frozen j
  obtain ⟨f1_4_0, f1_4_1, f1_4_2, f1_4_3, f1_4_4, f1_4_5⟩ := str6 HS1_4.out
  have hl1_4 := HS1_4.out.lt
  have hf1_4 := fun j => HS1_4.out.frozen j
  obtain ⟨f2_4_0, f2_4_1, f2_4_2, f2_4_3, f2_4_4⟩ := str5 HS2_4.out
  have hl2_4 := HS2_4.out.lt
  go_wp2_with fail
  generalize hW5 : ((((((W4).setCell ⟨w.heap.size + 1, 0, none⟩ (.int .i64 6)).setCell ⟨w.heap.size + 1, 1, none⟩ (.int .i64 0)).setCell ⟨w.heap.size + 1, 2, none⟩ (.slice none 0 0)).setCell ⟨w.heap.size + 1, 3, none⟩ (.int .i64 0)).setCell ⟨w.heap.size + 1, 4, none⟩ (.int .i64 0)).setCell ⟨w.heap.size + 1, 5, none⟩ (.int .i64 0) = W5
  have HS0_5 : Hid (Str W5 (w.heap.size) #[.int .i64 4, .string xk, .slice Ax nx cx, .int .i64 xlo, .int .i64 xhi, .int .i64 xn]) := Lib.hid (by rw [← hW5]; exact ((((((HS0_4.out).other 0 _ (by omega)).other 1 _ (by omega)).other 2 _ (by omega)).other 3 _ (by omega)).other 4 _ (by omega)).other 5 _ (by omega))
  have HS1_5 : Hid (Str W5 (w.heap.size + 1) #[.int .i64 6, .int .i64 0, .slice none 0 0, .int .i64 0, .int .i64 0, .int .i64 0]) := Lib.hid (by rw [← hW5]; have := ((((((HS1_4.out).set 0 (.int .i64 6)).set 1 (.int .i64 0)).set 2 (.slice none 0 0)).set 3 (.int .i64 0)).set 4 (.int .i64 0)).set 5 (.int .i64 0); simpa using this)
  have HS2_5 : Hid (Str W5 (W2.heap.size) #[.int .i64 ckd, .slice Af nf cf, .int .i64 clo, .int .i64 chi, .int .i64 cva]) := Lib.hid (by rw [← hW5]; exact ((((((HS2_4.out).other 0 _ (by omega)).other 1 _ (by omega)).other 2 _ (by omega)).other 3 _ (by omega)).other 4 _ (by omega)).other 5 _ (by omega))
  have hgr5 : W4.grownBy W5 (some (w.heap.size + 1)) := by rw [← hW5]; exact grown_set (grown_set (grown_set (grown_set (grown_set (grown_set (grown_refl W4 (w.heap.size + 1)) 0 (.int .i64 6)) 1 (.int .i64 0)) 2 (.slice none 0 0)) 3 (.int .i64 0)) 4 (.int .i64 0)) 5 (.int .i64 0)
  have HB_5 := Lib.hid (below_grown HB_4.out hgr5 (by omega))
  have hw_5 := HB_5.out.size
  have hws_5 := hgr5.size
  have HYf_5 := Lib.hid ((Bytes.grown HYf_4.out (Nat.le_refl _) HS1_4.out rfl hgr5).more hws_5)
  clear HYf_4
  clear hW5
  clear f0_4_0 f0_4_1 f0_4_2 f0_4_3 f0_4_4 f0_4_5 HS0_4 hf0_4 f1_4_0 f1_4_1 f1_4_2 f1_4_3 f1_4_4 f1_4_5 HS1_4 hf1_4 f2_4_0 f2_4_1 f2_4_2 f2_4_3 f2_4_4 HS2_4
  clear hgr5
  obtain ⟨f0_5_0, f0_5_1, f0_5_2, f0_5_3, f0_5_4, f0_5_5⟩ := str6 HS0_5.out
  have hl0_5 := HS0_5.out.lt
  have hf0_5 := fun j => HS0_5.out.frozen j
  obtain ⟨f1_5_0, f1_5_1, f1_5_2, f1_5_3, f1_5_4, f1_5_5⟩ := str6 HS1_5.out
  have hl1_5 := HS1_5.out.lt
  have hf1_5 := fun j => HS1_5.out.frozen j
  obtain ⟨f2_5_0, f2_5_1, f2_5_2, f2_5_3, f2_5_4⟩ := str5 HS2_5.out
  have hl2_5 := HS2_5.out.lt
  generalize hW6 : W5.alloc (.cells #[.int .i64 ckd, .slice Af nf cf, .int .i64 clo, .int .i64 chi, .int .i64 cva] 37) = W6
  have HS0_6 : Hid (Str W6 (w.heap.size) #[.int .i64 4, .string xk, .slice Ax nx cx, .int .i64 xlo, .int .i64 xhi, .int .i64 xn]) := Lib.hid (by rw [← hW6]; exact HS0_5.out.alloc _)
  have HS1_6 : Hid (Str W6 (w.heap.size + 1) #[.int .i64 6, .int .i64 0, .slice none 0 0, .int .i64 0, .int .i64 0, .int .i64 0]) := Lib.hid (by rw [← hW6]; exact HS1_5.out.alloc _)
  have HS2_6 : Hid (Str W6 (W2.heap.size) #[.int .i64 ckd, .slice Af nf cf, .int .i64 clo, .int .i64 chi, .int .i64 cva]) := Lib.hid (by rw [← hW6]; exact HS2_5.out.alloc _)
  have HS3_6 : Hid (Str W6 W5.heap.size #[.int .i64 ckd, .slice Af nf cf, .int .i64 clo, .int .i64 chi, .int .i64 cva]) := Lib.hid (by rw [← hW6]; exact Str.new W5 #[.int .i64 ckd, .slice Af nf cf, .int .i64 clo, .int .i64 chi, .int .i64 cva] 37)
  have hba6 : Below W5.heap.size W5 W6 := by rw [← hW6]; exact balloc (bsame _) _
  have HB_6 := Lib.hid (bstep HB_5.out hba6)
  have hw_6 := HB_6.out.size
  have hws_6 := hba6.size
  have HYf_6 := Lib.hid (HYf_5.out.next hba6)
  clear HYf_5
  clear hW6
  clear f0_5_0 f0_5_1 f0_5_2 f0_5_3 f0_5_4 f0_5_5 HS0_5 hf0_5 f1_5_0 f1_5_1 f1_5_2 f1_5_3 f1_5_4 f1_5_5 HS1_5 hf1_5 f2_5_0 f2_5_1 f2_5_2 f2_5_3 f2_5_4 HS2_5
  obtain ⟨f0_6_0, f0_6_1, f0_6_2, f0_6_3, f0_6_4, f0_6_5⟩ := str6 HS0_6.out
  have hl0_6 := HS0_6.out.lt
  have hf0_6 := fun j => HS0_6.out.frozen j
  obtain ⟨f1_6_0, f1_6_1, f1_6_2, f1_6_3, f1_6_4, f1_6_5⟩ := str6 HS1_6.out
  have hl1_6 := HS1_6.out.lt
  have hf1_6 := fun j => HS1_6.out.frozen j
  obtain ⟨f2_6_0, f2_6_1, f2_6_2, f2_6_3, f2_6_4⟩ := str5 HS2_6.out
  have hl2_6 := HS2_6.out.lt
  obtain ⟨f3_6_0, f3_6_1, f3_6_2, f3_6_3, f3_6_4⟩ := str5 HS3_6.out
  have hl3_6 := HS3_6.out.lt
  exact bodyPost_ret (v := .tuple #[.slice A n c, .agg #[.int .i64 6, .int .i64 0, .slice none 0 0, .int .i64 0, .int .i64 0, .int .i64 0]]) (by simp [results, Try.results25, go_sem, *]) rfl ⟨A, n, c, none, 0, 0, rfl, ((H.out.below (HB_6.out.mono hB)).more (Nat.le_trans hB HB_6.out.size)), Bytes.none_ _ _, HB_6.out⟩
set_option maxRecDepth 100000 in
set_option maxHeartbeats 2000000 in
theorem rstep_move4_low (A : Option Addr) (n c B : Nat) (l : List Pair) (xk : ByteArray) (xdata : List UInt8) (Ax : Option Addr) (nx cx Bx : Nat) (xlo xhi xn : Int) (w : World) (h : Pairs w B A n c l) (hB : B ≤ w.heap.size) (hs : Small l) (hx : Bytes w Bx Ax nx cx xdata) (hBx : Bx ≤ w.heap.size) (hxk : xk.size ≤ maxLen) (hi1 : In64 xlo) (hi2 : In64 xhi) (hi3 : In64 xn) (cda : List UInt8) (clo chi cva : Int) (hf : ModelP.find l xk = (some ⟨2, [], clo, chi, cva⟩)) (hg : ModelP.good ⟨4, xk, xdata, xlo, xhi, xn⟩ = true) (hic1 : In64 clo) (hic2 : In64 chi) (hic3 : In64 cva) (ho : (cva + xn) < clo) :
    Calls Try.prog 25 #[.slice A n c, .agg #[.int .i64 4, .string xk, .slice Ax nx cx, .int .i64 xlo, .int .i64 xhi, .int .i64 xn]] w (GivesSA w ((l, ⟨8, CellP.none⟩))) := by
  have hlen := h.len
  have hn : n ≤ 1000 := by rw [← hlen]; exact hs.len
  have H := Lib.hid h
  have HD := Lib.hid hs.data
  have HX := Lib.hid hx
  have hlx := hx.len
  clear h hs hlen
  have HG : Hid (ModelP.good ⟨4, xk, xdata, xlo, xhi, xn⟩ = true) := Lib.hid hg
  clear hg hx
  go_enter Try.func25, Try.ntmps25
  go_wp2_with fail
  generalize hW0 : ((w).alloc (.cells #[.int .i64 4, .string xk, .slice Ax nx cx, .int .i64 xlo, .int .i64 xhi, .int .i64 xn] 24)).alloc (.cells #[.int .i64 0, .int .i64 0, .slice none 0 0, .int .i64 0, .int .i64 0, .int .i64 0] 39) = W0
  have HS0_0 : Hid (Str W0 (w.heap.size) #[.int .i64 4, .string xk, .slice Ax nx cx, .int .i64 xlo, .int .i64 xhi, .int .i64 xn]) := Lib.hid (by rw [← hW0]; have := (Str.new (w) #[.int .i64 4, .string xk, .slice Ax nx cx, .int .i64 xlo, .int .i64 xhi, .int .i64 xn] 24).alloc (.cells #[.int .i64 0, .int .i64 0, .slice none 0 0, .int .i64 0, .int .i64 0, .int .i64 0] 39); simpa using this)
  have HS1_0 : Hid (Str W0 (w.heap.size + 1) #[.int .i64 0, .int .i64 0, .slice none 0 0, .int .i64 0, .int .i64 0, .int .i64 0]) := Lib.hid (by rw [← hW0]; have := Str.new ((w).alloc (.cells #[.int .i64 4, .string xk, .slice Ax nx cx, .int .i64 xlo, .int .i64 xhi, .int .i64 xn] 24)) #[.int .i64 0, .int .i64 0, .slice none 0 0, .int .i64 0, .int .i64 0, .int .i64 0] 39; simpa using this)
  have HB_0 : Hid (Below w.heap.size w W0) := Lib.hid (by rw [← hW0]; exact balloc (balloc (bsame w) _) _)
  have hw_0 := HB_0.out.size
  clear hW0
  obtain ⟨f0_0_0, f0_0_1, f0_0_2, f0_0_3, f0_0_4, f0_0_5⟩ := str6 HS0_0.out
  have hl0_0 := HS0_0.out.lt
  have hf0_0 := fun j => HS0_0.out.frozen j
  obtain ⟨f1_0_0, f1_0_1, f1_0_2, f1_0_3, f1_0_4, f1_0_5⟩ := str6 HS1_0.out
  have hl1_0 := HS1_0.out.lt
  have hf1_0 := fun j => HS1_0.out.frozen j
  refine (good_any ⟨4, xk, xdata, xlo, xhi, xn⟩ Ax nx cx _ hxk hlx).mono ?_
  rintro e W1 ⟨rfl, hb1⟩
  rw [HG.out]
  have HS0_1 := Lib.hid (HS0_0.out.next hb1)
  have HS1_1 := Lib.hid (HS1_0.out.next hb1)
  have HB_1 := Lib.hid (bstep HB_0.out hb1)
  have hw_1 := HB_1.out.size
  have hws_1 := (hb1).size
  clear f0_0_0 f0_0_1 f0_0_2 f0_0_3 f0_0_4 f0_0_5 HS0_0 hf0_0 f1_0_0 f1_0_1 f1_0_2 f1_0_3 f1_0_4 f1_0_5 HS1_0 hf1_0
  clear hb1
  obtain ⟨f0_1_0, f0_1_1, f0_1_2, f0_1_3, f0_1_4, f0_1_5⟩ := str6 HS0_1.out
  have hl0_1 := HS0_1.out.lt
  have hf0_1 := fun j => HS0_1.out.frozen j
  obtain ⟨f1_1_0, f1_1_1, f1_1_2, f1_1_3, f1_1_4, f1_1_5⟩ := str6 HS1_1.out
  have hl1_1 := HS1_1.out.lt
  have hf1_1 := fun j => HS1_1.out.frozen j
  go_wp2_with fail
  have HF := Lib.hid hf
  clear hf
  refine (refFind_any A n c w.heap.size l xk _ ((H.out.more hB).below HB_1.out) HB_1.out.size (by omega) HD.out).mono ?_
  rintro e W2 ⟨Af, nf, cf, rfl, hyf, hb2⟩
  have HS0_2 := Lib.hid (HS0_1.out.next hb2)
  have HS1_2 := Lib.hid (HS1_1.out.next hb2)
  have HB_2 := Lib.hid (bstep HB_1.out hb2)
  have hw_2 := HB_2.out.size
  have hws_2 := (hb2).size
  clear f0_1_0 f0_1_1 f0_1_2 f0_1_3 f0_1_4 f0_1_5 HS0_1 hf0_1 f1_1_0 f1_1_1 f1_1_2 f1_1_3 f1_1_4 f1_1_5 HS1_1 hf1_1
  clear hb2
  obtain ⟨f0_2_0, f0_2_1, f0_2_2, f0_2_3, f0_2_4, f0_2_5⟩ := str6 HS0_2.out
  have hl0_2 := HS0_2.out.lt
  have hf0_2 := fun j => HS0_2.out.frozen j
  obtain ⟨f1_2_0, f1_2_1, f1_2_2, f1_2_3, f1_2_4, f1_2_5⟩ := str6 HS1_2.out
  have hl1_2 := HS1_2.out.lt
  have hf1_2 := fun j => HS1_2.out.frozen j
  rw [HF.out] at hyf
  dsimp only [Option.getD, CellP.none] at hyf
  have hnf := hyf.len
  have HYf_2 := Lib.hid (hyf)
  clear hyf
  rw [HF.out]
  dsimp only [Option.getD, Option.isSome]
  go_wp2_with fail
  generalize hW3 : W2.alloc (.cells #[.int .i64 2, .slice Af nf cf, .int .i64 clo, .int .i64 chi, .int .i64 cva] 37) = W3
  have HS0_3 : Hid (Str W3 (w.heap.size) #[.int .i64 4, .string xk, .slice Ax nx cx, .int .i64 xlo, .int .i64 xhi, .int .i64 xn]) := Lib.hid (by rw [← hW3]; exact HS0_2.out.alloc _)
  have HS1_3 : Hid (Str W3 (w.heap.size + 1) #[.int .i64 0, .int .i64 0, .slice none 0 0, .int .i64 0, .int .i64 0, .int .i64 0]) := Lib.hid (by rw [← hW3]; exact HS1_2.out.alloc _)
  have HS2_3 : Hid (Str W3 W2.heap.size #[.int .i64 2, .slice Af nf cf, .int .i64 clo, .int .i64 chi, .int .i64 cva]) := Lib.hid (by rw [← hW3]; exact Str.new W2 #[.int .i64 2, .slice Af nf cf, .int .i64 clo, .int .i64 chi, .int .i64 cva] 37)
  have hba3 : Below W2.heap.size W2 W3 := by rw [← hW3]; exact balloc (bsame _) _
  have HB_3 := Lib.hid (bstep HB_2.out hba3)
  have hw_3 := HB_3.out.size
  have hws_3 := hba3.size
  have HYf_3 := Lib.hid (HYf_2.out.next hba3)
  clear HYf_2
  clear hW3
  clear f0_2_0 f0_2_1 f0_2_2 f0_2_3 f0_2_4 f0_2_5 HS0_2 hf0_2 f1_2_0 f1_2_1 f1_2_2 f1_2_3 f1_2_4 f1_2_5 HS1_2 hf1_2
  obtain ⟨f0_3_0, f0_3_1, f0_3_2, f0_3_3, f0_3_4, f0_3_5⟩ := str6 HS0_3.out
  have hl0_3 := HS0_3.out.lt
  have hf0_3 := fun j => HS0_3.out.frozen j
  obtain ⟨f1_3_0, f1_3_1, f1_3_2, f1_3_3, f1_3_4, f1_3_5⟩ := str6 HS1_3.out
  have hl1_3 := HS1_3.out.lt
  have hf1_3 := fun j => HS1_3.out.frozen j
  obtain ⟨f2_3_0, f2_3_1, f2_3_2, f2_3_3, f2_3_4⟩ := str5 HS2_3.out
  have hl2_3 := HS2_3.out.lt
  refine (rmove4_low xk Ax nx cx xlo xhi xn Af nf cf clo chi cva _ hic1 hic2 hic3 hi3 (by omega)).mono ?_
  rintro e W4 ⟨rfl, hb4⟩
  have HS0_4 := Lib.hid (HS0_3.out.next hb4)
  have HS1_4 := Lib.hid (HS1_3.out.next hb4)
  have HS2_4 := Lib.hid (HS2_3.out.next hb4)
  have HB_4 := Lib.hid (bstep HB_3.out hb4)
  have hw_4 := HB_4.out.size
  have hws_4 := (hb4).size
  have HYf_4 := Lib.hid (HYf_3.out.next hb4)
  clear HYf_3
  clear f0_3_0 f0_3_1 f0_3_2 f0_3_3 f0_3_4 f0_3_5 HS0_3 hf0_3 f1_3_0 f1_3_1 f1_3_2 f1_3_3 f1_3_4 f1_3_5 HS1_3 hf1_3 f2_3_0 f2_3_1 f2_3_2 f2_3_3 f2_3_4 HS2_3
  clear hb4
  obtain ⟨f0_4_0, f0_4_1, f0_4_2, f0_4_3, f0_4_4, f0_4_5⟩ := str6 HS0_4.out
  have hl0_4 := HS0_4.out.lt
  have hf0_4 := fun j => HS0_4.out.frozen j
  obtain ⟨f1_4_0, f1_4_1, f1_4_2, f1_4_3, f1_4_4, f1_4_5⟩ := str6 HS1_4.out
  have hl1_4 := HS1_4.out.lt
  have hf1_4 := fun j => HS1_4.out.frozen j
  obtain ⟨f2_4_0, f2_4_1, f2_4_2, f2_4_3, f2_4_4⟩ := str5 HS2_4.out
  have hl2_4 := HS2_4.out.lt
  go_wp2_with fail
  generalize hW5 : ((((((W4).setCell ⟨w.heap.size + 1, 0, none⟩ (.int .i64 8)).setCell ⟨w.heap.size + 1, 1, none⟩ (.int .i64 0)).setCell ⟨w.heap.size + 1, 2, none⟩ (.slice none 0 0)).setCell ⟨w.heap.size + 1, 3, none⟩ (.int .i64 0)).setCell ⟨w.heap.size + 1, 4, none⟩ (.int .i64 0)).setCell ⟨w.heap.size + 1, 5, none⟩ (.int .i64 0) = W5
  have HS0_5 : Hid (Str W5 (w.heap.size) #[.int .i64 4, .string xk, .slice Ax nx cx, .int .i64 xlo, .int .i64 xhi, .int .i64 xn]) := Lib.hid (by rw [← hW5]; exact ((((((HS0_4.out).other 0 _ (by omega)).other 1 _ (by omega)).other 2 _ (by omega)).other 3 _ (by omega)).other 4 _ (by omega)).other 5 _ (by omega))
  have HS1_5 : Hid (Str W5 (w.heap.size + 1) #[.int .i64 8, .int .i64 0, .slice none 0 0, .int .i64 0, .int .i64 0, .int .i64 0]) := Lib.hid (by rw [← hW5]; have := ((((((HS1_4.out).set 0 (.int .i64 8)).set 1 (.int .i64 0)).set 2 (.slice none 0 0)).set 3 (.int .i64 0)).set 4 (.int .i64 0)).set 5 (.int .i64 0); simpa using this)
  have HS2_5 : Hid (Str W5 (W2.heap.size) #[.int .i64 2, .slice Af nf cf, .int .i64 clo, .int .i64 chi, .int .i64 cva]) := Lib.hid (by rw [← hW5]; exact ((((((HS2_4.out).other 0 _ (by omega)).other 1 _ (by omega)).other 2 _ (by omega)).other 3 _ (by omega)).other 4 _ (by omega)).other 5 _ (by omega))
  have hgr5 : W4.grownBy W5 (some (w.heap.size + 1)) := by rw [← hW5]; exact grown_set (grown_set (grown_set (grown_set (grown_set (grown_set (grown_refl W4 (w.heap.size + 1)) 0 (.int .i64 8)) 1 (.int .i64 0)) 2 (.slice none 0 0)) 3 (.int .i64 0)) 4 (.int .i64 0)) 5 (.int .i64 0)
  have HB_5 := Lib.hid (below_grown HB_4.out hgr5 (by omega))
  have hw_5 := HB_5.out.size
  have hws_5 := hgr5.size
  have HYf_5 := Lib.hid ((Bytes.grown HYf_4.out (Nat.le_refl _) HS1_4.out rfl hgr5).more hws_5)
  clear HYf_4
  clear hW5
  clear f0_4_0 f0_4_1 f0_4_2 f0_4_3 f0_4_4 f0_4_5 HS0_4 hf0_4 f1_4_0 f1_4_1 f1_4_2 f1_4_3 f1_4_4 f1_4_5 HS1_4 hf1_4 f2_4_0 f2_4_1 f2_4_2 f2_4_3 f2_4_4 HS2_4
  clear hgr5
  obtain ⟨f0_5_0, f0_5_1, f0_5_2, f0_5_3, f0_5_4, f0_5_5⟩ := str6 HS0_5.out
  have hl0_5 := HS0_5.out.lt
  have hf0_5 := fun j => HS0_5.out.frozen j
  obtain ⟨f1_5_0, f1_5_1, f1_5_2, f1_5_3, f1_5_4, f1_5_5⟩ := str6 HS1_5.out
  have hl1_5 := HS1_5.out.lt
  have hf1_5 := fun j => HS1_5.out.frozen j
  obtain ⟨f2_5_0, f2_5_1, f2_5_2, f2_5_3, f2_5_4⟩ := str5 HS2_5.out
  have hl2_5 := HS2_5.out.lt
  generalize hW6 : W5.alloc (.cells #[.int .i64 2, .slice Af nf cf, .int .i64 clo, .int .i64 chi, .int .i64 cva] 37) = W6
  have HS0_6 : Hid (Str W6 (w.heap.size) #[.int .i64 4, .string xk, .slice Ax nx cx, .int .i64 xlo, .int .i64 xhi, .int .i64 xn]) := Lib.hid (by rw [← hW6]; exact HS0_5.out.alloc _)
  have HS1_6 : Hid (Str W6 (w.heap.size + 1) #[.int .i64 8, .int .i64 0, .slice none 0 0, .int .i64 0, .int .i64 0, .int .i64 0]) := Lib.hid (by rw [← hW6]; exact HS1_5.out.alloc _)
  have HS2_6 : Hid (Str W6 (W2.heap.size) #[.int .i64 2, .slice Af nf cf, .int .i64 clo, .int .i64 chi, .int .i64 cva]) := Lib.hid (by rw [← hW6]; exact HS2_5.out.alloc _)
  have HS3_6 : Hid (Str W6 W5.heap.size #[.int .i64 2, .slice Af nf cf, .int .i64 clo, .int .i64 chi, .int .i64 cva]) := Lib.hid (by rw [← hW6]; exact Str.new W5 #[.int .i64 2, .slice Af nf cf, .int .i64 clo, .int .i64 chi, .int .i64 cva] 37)
  have hba6 : Below W5.heap.size W5 W6 := by rw [← hW6]; exact balloc (bsame _) _
  have HB_6 := Lib.hid (bstep HB_5.out hba6)
  have hw_6 := HB_6.out.size
  have hws_6 := hba6.size
  have HYf_6 := Lib.hid (HYf_5.out.next hba6)
  clear HYf_5
  clear hW6
  clear f0_5_0 f0_5_1 f0_5_2 f0_5_3 f0_5_4 f0_5_5 HS0_5 hf0_5 f1_5_0 f1_5_1 f1_5_2 f1_5_3 f1_5_4 f1_5_5 HS1_5 hf1_5 f2_5_0 f2_5_1 f2_5_2 f2_5_3 f2_5_4 HS2_5
  obtain ⟨f0_6_0, f0_6_1, f0_6_2, f0_6_3, f0_6_4, f0_6_5⟩ := str6 HS0_6.out
  have hl0_6 := HS0_6.out.lt
  have hf0_6 := fun j => HS0_6.out.frozen j
  obtain ⟨f1_6_0, f1_6_1, f1_6_2, f1_6_3, f1_6_4, f1_6_5⟩ := str6 HS1_6.out
  have hl1_6 := HS1_6.out.lt
  have hf1_6 := fun j => HS1_6.out.frozen j
  obtain ⟨f2_6_0, f2_6_1, f2_6_2, f2_6_3, f2_6_4⟩ := str5 HS2_6.out
  have hl2_6 := HS2_6.out.lt
  obtain ⟨f3_6_0, f3_6_1, f3_6_2, f3_6_3, f3_6_4⟩ := str5 HS3_6.out
  have hl3_6 := HS3_6.out.lt
  exact bodyPost_ret (v := .tuple #[.slice A n c, .agg #[.int .i64 8, .int .i64 0, .slice none 0 0, .int .i64 0, .int .i64 0, .int .i64 0]]) (by simp [results, Try.results25, go_sem, *]) rfl ⟨A, n, c, none, 0, 0, rfl, ((H.out.below (HB_6.out.mono hB)).more (Nat.le_trans hB HB_6.out.size)), Bytes.none_ _ _, HB_6.out⟩
set_option maxRecDepth 100000 in
set_option maxHeartbeats 2000000 in
theorem rstep_move4_high (A : Option Addr) (n c B : Nat) (l : List Pair) (xk : ByteArray) (xdata : List UInt8) (Ax : Option Addr) (nx cx Bx : Nat) (xlo xhi xn : Int) (w : World) (h : Pairs w B A n c l) (hB : B ≤ w.heap.size) (hs : Small l) (hx : Bytes w Bx Ax nx cx xdata) (hBx : Bx ≤ w.heap.size) (hxk : xk.size ≤ maxLen) (hi1 : In64 xlo) (hi2 : In64 xhi) (hi3 : In64 xn) (cda : List UInt8) (clo chi cva : Int) (hf : ModelP.find l xk = (some ⟨2, [], clo, chi, cva⟩)) (hg : ModelP.good ⟨4, xk, xdata, xlo, xhi, xn⟩ = true) (hic1 : In64 clo) (hic2 : In64 chi) (hic3 : In64 cva) (hl : ¬ (cva + xn) < clo) (ho : chi < (cva + xn)) :
    Calls Try.prog 25 #[.slice A n c, .agg #[.int .i64 4, .string xk, .slice Ax nx cx, .int .i64 xlo, .int .i64 xhi, .int .i64 xn]] w (GivesSA w ((l, ⟨8, CellP.none⟩))) := by
  have hlen := h.len
  have hn : n ≤ 1000 := by rw [← hlen]; exact hs.len
  have H := Lib.hid h
  have HD := Lib.hid hs.data
  have HX := Lib.hid hx
  have hlx := hx.len
  clear h hs hlen
  have HG : Hid (ModelP.good ⟨4, xk, xdata, xlo, xhi, xn⟩ = true) := Lib.hid hg
  clear hg hx
  go_enter Try.func25, Try.ntmps25
  go_wp2_with fail
  generalize hW0 : ((w).alloc (.cells #[.int .i64 4, .string xk, .slice Ax nx cx, .int .i64 xlo, .int .i64 xhi, .int .i64 xn] 24)).alloc (.cells #[.int .i64 0, .int .i64 0, .slice none 0 0, .int .i64 0, .int .i64 0, .int .i64 0] 39) = W0
  have HS0_0 : Hid (Str W0 (w.heap.size) #[.int .i64 4, .string xk, .slice Ax nx cx, .int .i64 xlo, .int .i64 xhi, .int .i64 xn]) := Lib.hid (by rw [← hW0]; have := (Str.new (w) #[.int .i64 4, .string xk, .slice Ax nx cx, .int .i64 xlo, .int .i64 xhi, .int .i64 xn] 24).alloc (.cells #[.int .i64 0, .int .i64 0, .slice none 0 0, .int .i64 0, .int .i64 0, .int .i64 0] 39); simpa using this)
  have HS1_0 : Hid (Str W0 (w.heap.size + 1) #[.int .i64 0, .int .i64 0, .slice none 0 0, .int .i64 0, .int .i64 0, .int .i64 0]) := Lib.hid (by rw [← hW0]; have := Str.new ((w).alloc (.cells #[.int .i64 4, .string xk, .slice Ax nx cx, .int .i64 xlo, .int .i64 xhi, .int .i64 xn] 24)) #[.int .i64 0, .int .i64 0, .slice none 0 0, .int .i64 0, .int .i64 0, .int .i64 0] 39; simpa using this)
  have HB_0 : Hid (Below w.heap.size w W0) := Lib.hid (by rw [← hW0]; exact balloc (balloc (bsame w) _) _)
  have hw_0 := HB_0.out.size
  clear hW0
  obtain ⟨f0_0_0, f0_0_1, f0_0_2, f0_0_3, f0_0_4, f0_0_5⟩ := str6 HS0_0.out
  have hl0_0 := HS0_0.out.lt
  have hf0_0 := fun j => HS0_0.out.frozen j
  obtain ⟨f1_0_0, f1_0_1, f1_0_2, f1_0_3, f1_0_4, f1_0_5⟩ := str6 HS1_0.out
  have hl1_0 := HS1_0.out.lt
  have hf1_0 := fun j => HS1_0.out.frozen j
  refine (good_any ⟨4, xk, xdata, xlo, xhi, xn⟩ Ax nx cx _ hxk hlx).mono ?_
  rintro e W1 ⟨rfl, hb1⟩
  rw [HG.out]
  have HS0_1 := Lib.hid (HS0_0.out.next hb1)
  have HS1_1 := Lib.hid (HS1_0.out.next hb1)
  have HB_1 := Lib.hid (bstep HB_0.out hb1)
  have hw_1 := HB_1.out.size
  have hws_1 := (hb1).size
  clear f0_0_0 f0_0_1 f0_0_2 f0_0_3 f0_0_4 f0_0_5 HS0_0 hf0_0 f1_0_0 f1_0_1 f1_0_2 f1_0_3 f1_0_4 f1_0_5 HS1_0 hf1_0
  clear hb1
  obtain ⟨f0_1_0, f0_1_1, f0_1_2, f0_1_3, f0_1_4, f0_1_5⟩ := str6 HS0_1.out
  have hl0_1 := HS0_1.out.lt
  have hf0_1 := fun j => HS0_1.out.frozen j
  obtain ⟨f1_1_0, f1_1_1, f1_1_2, f1_1_3, f1_1_4, f1_1_5⟩ := str6 HS1_1.out
  have hl1_1 := HS1_1.out.lt
  have hf1_1 := fun j => HS1_1.out.frozen j
  go_wp2_with fail
  have HF := Lib.hid hf
  clear hf
  refine (refFind_any A n c w.heap.size l xk _ ((H.out.more hB).below HB_1.out) HB_1.out.size (by omega) HD.out).mono ?_
  rintro e W2 ⟨Af, nf, cf, rfl, hyf, hb2⟩
  have HS0_2 := Lib.hid (HS0_1.out.next hb2)
  have HS1_2 := Lib.hid (HS1_1.out.next hb2)
  have HB_2 := Lib.hid (bstep HB_1.out hb2)
  have hw_2 := HB_2.out.size
  have hws_2 := (hb2).size
  clear f0_1_0 f0_1_1 f0_1_2 f0_1_3 f0_1_4 f0_1_5 HS0_1 hf0_1 f1_1_0 f1_1_1 f1_1_2 f1_1_3 f1_1_4 f1_1_5 HS1_1 hf1_1
  clear hb2
  obtain ⟨f0_2_0, f0_2_1, f0_2_2, f0_2_3, f0_2_4, f0_2_5⟩ := str6 HS0_2.out
  have hl0_2 := HS0_2.out.lt
  have hf0_2 := fun j => HS0_2.out.frozen j
  obtain ⟨f1_2_0, f1_2_1, f1_2_2, f1_2_3, f1_2_4, f1_2_5⟩ := str6 HS1_2.out
  have hl1_2 := HS1_2.out.lt
  have hf1_2 := fun j => HS1_2.out.frozen j
  rw [HF.out] at hyf
  dsimp only [Option.getD, CellP.none] at hyf
  have hnf := hyf.len
  have HYf_2 := Lib.hid (hyf)
  clear hyf
  rw [HF.out]
  dsimp only [Option.getD, Option.isSome]
  go_wp2_with fail
  generalize hW3 : W2.alloc (.cells #[.int .i64 2, .slice Af nf cf, .int .i64 clo, .int .i64 chi, .int .i64 cva] 37) = W3
  have HS0_3 : Hid (Str W3 (w.heap.size) #[.int .i64 4, .string xk, .slice Ax nx cx, .int .i64 xlo, .int .i64 xhi, .int .i64 xn]) := Lib.hid (by rw [← hW3]; exact HS0_2.out.alloc _)
  have HS1_3 : Hid (Str W3 (w.heap.size + 1) #[.int .i64 0, .int .i64 0, .slice none 0 0, .int .i64 0, .int .i64 0, .int .i64 0]) := Lib.hid (by rw [← hW3]; exact HS1_2.out.alloc _)
  have HS2_3 : Hid (Str W3 W2.heap.size #[.int .i64 2, .slice Af nf cf, .int .i64 clo, .int .i64 chi, .int .i64 cva]) := Lib.hid (by rw [← hW3]; exact Str.new W2 #[.int .i64 2, .slice Af nf cf, .int .i64 clo, .int .i64 chi, .int .i64 cva] 37)
  have hba3 : Below W2.heap.size W2 W3 := by rw [← hW3]; exact balloc (bsame _) _
  have HB_3 := Lib.hid (bstep HB_2.out hba3)
  have hw_3 := HB_3.out.size
  have hws_3 := hba3.size
  have HYf_3 := Lib.hid (HYf_2.out.next hba3)
  clear HYf_2
  clear hW3
  clear f0_2_0 f0_2_1 f0_2_2 f0_2_3 f0_2_4 f0_2_5 HS0_2 hf0_2 f1_2_0 f1_2_1 f1_2_2 f1_2_3 f1_2_4 f1_2_5 HS1_2 hf1_2
  obtain ⟨f0_3_0, f0_3_1, f0_3_2, f0_3_3, f0_3_4, f0_3_5⟩ := str6 HS0_3.out
  have hl0_3 := HS0_3.out.lt
  have hf0_3 := fun j => HS0_3.out.frozen j
  obtain ⟨f1_3_0, f1_3_1, f1_3_2, f1_3_3, f1_3_4, f1_3_5⟩ := str6 HS1_3.out
  have hl1_3 := HS1_3.out.lt
  have hf1_3 := fun j => HS1_3.out.frozen j
  obtain ⟨f2_3_0, f2_3_1, f2_3_2, f2_3_3, f2_3_4⟩ := str5 HS2_3.out
  have hl2_3 := HS2_3.out.lt
  refine (rmove4_high xk Ax nx cx xlo xhi xn Af nf cf clo chi cva _ hic1 hic2 hic3 hi3 (by omega) (by omega)).mono ?_
  rintro e W4 ⟨rfl, hb4⟩
  have HS0_4 := Lib.hid (HS0_3.out.next hb4)
  have HS1_4 := Lib.hid (HS1_3.out.next hb4)
  have HS2_4 := Lib.hid (HS2_3.out.next hb4)
  have HB_4 := Lib.hid (bstep HB_3.out hb4)
  have hw_4 := HB_4.out.size
  have hws_4 := (hb4).size
  have HYf_4 := Lib.hid (HYf_3.out.next hb4)
  clear HYf_3
  clear f0_3_0 f0_3_1 f0_3_2 f0_3_3 f0_3_4 f0_3_5 HS0_3 hf0_3 f1_3_0 f1_3_1 f1_3_2 f1_3_3 f1_3_4 f1_3_5 HS1_3 hf1_3 f2_3_0 f2_3_1 f2_3_2 f2_3_3 f2_3_4 HS2_3
  clear hb4
  obtain ⟨f0_4_0, f0_4_1, f0_4_2, f0_4_3, f0_4_4, f0_4_5⟩ := str6 HS0_4.out
  have hl0_4 := HS0_4.out.lt
  have hf0_4 := fun j => HS0_4.out.frozen j
  obtain ⟨f1_4_0, f1_4_1, f1_4_2, f1_4_3, f1_4_4, f1_4_5⟩ := str6 HS1_4.out
  have hl1_4 := HS1_4.out.lt
  have hf1_4 := fun j => HS1_4.out.frozen j
  obtain ⟨f2_4_0, f2_4_1, f2_4_2, f2_4_3, f2_4_4⟩ := str5 HS2_4.out
  have hl2_4 := HS2_4.out.lt
  go_wp2_with fail
  generalize hW5 : ((((((W4).setCell ⟨w.heap.size + 1, 0, none⟩ (.int .i64 8)).setCell ⟨w.heap.size + 1, 1, none⟩ (.int .i64 0)).setCell ⟨w.heap.size + 1, 2, none⟩ (.slice none 0 0)).setCell ⟨w.heap.size + 1, 3, none⟩ (.int .i64 0)).setCell ⟨w.heap.size + 1, 4, none⟩ (.int .i64 0)).setCell ⟨w.heap.size + 1, 5, none⟩ (.int .i64 0) = W5
  have HS0_5 : Hid (Str W5 (w.heap.size) #[.int .i64 4, .string xk, .slice Ax nx cx, .int .i64 xlo, .int .i64 xhi, .int .i64 xn]) := Lib.hid (by rw [← hW5]; exact ((((((HS0_4.out).other 0 _ (by omega)).other 1 _ (by omega)).other 2 _ (by omega)).other 3 _ (by omega)).other 4 _ (by omega)).other 5 _ (by omega))
  have HS1_5 : Hid (Str W5 (w.heap.size + 1) #[.int .i64 8, .int .i64 0, .slice none 0 0, .int .i64 0, .int .i64 0, .int .i64 0]) := Lib.hid (by rw [← hW5]; have := ((((((HS1_4.out).set 0 (.int .i64 8)).set 1 (.int .i64 0)).set 2 (.slice none 0 0)).set 3 (.int .i64 0)).set 4 (.int .i64 0)).set 5 (.int .i64 0); simpa using this)
  have HS2_5 : Hid (Str W5 (W2.heap.size) #[.int .i64 2, .slice Af nf cf, .int .i64 clo, .int .i64 chi, .int .i64 cva]) := Lib.hid (by rw [← hW5]; exact ((((((HS2_4.out).other 0 _ (by omega)).other 1 _ (by omega)).other 2 _ (by omega)).other 3 _ (by omega)).other 4 _ (by omega)).other 5 _ (by omega))
  have hgr5 : W4.grownBy W5 (some (w.heap.size + 1)) := by rw [← hW5]; exact grown_set (grown_set (grown_set (grown_set (grown_set (grown_set (grown_refl W4 (w.heap.size + 1)) 0 (.int .i64 8)) 1 (.int .i64 0)) 2 (.slice none 0 0)) 3 (.int .i64 0)) 4 (.int .i64 0)) 5 (.int .i64 0)
  have HB_5 := Lib.hid (below_grown HB_4.out hgr5 (by omega))
  have hw_5 := HB_5.out.size
  have hws_5 := hgr5.size
  have HYf_5 := Lib.hid ((Bytes.grown HYf_4.out (Nat.le_refl _) HS1_4.out rfl hgr5).more hws_5)
  clear HYf_4
  clear hW5
  clear f0_4_0 f0_4_1 f0_4_2 f0_4_3 f0_4_4 f0_4_5 HS0_4 hf0_4 f1_4_0 f1_4_1 f1_4_2 f1_4_3 f1_4_4 f1_4_5 HS1_4 hf1_4 f2_4_0 f2_4_1 f2_4_2 f2_4_3 f2_4_4 HS2_4
  clear hgr5
  obtain ⟨f0_5_0, f0_5_1, f0_5_2, f0_5_3, f0_5_4, f0_5_5⟩ := str6 HS0_5.out
  have hl0_5 := HS0_5.out.lt
  have hf0_5 := fun j => HS0_5.out.frozen j
  obtain ⟨f1_5_0, f1_5_1, f1_5_2, f1_5_3, f1_5_4, f1_5_5⟩ := str6 HS1_5.out
  have hl1_5 := HS1_5.out.lt
  have hf1_5 := fun j => HS1_5.out.frozen j
  obtain ⟨f2_5_0, f2_5_1, f2_5_2, f2_5_3, f2_5_4⟩ := str5 HS2_5.out
  have hl2_5 := HS2_5.out.lt
  generalize hW6 : W5.alloc (.cells #[.int .i64 2, .slice Af nf cf, .int .i64 clo, .int .i64 chi, .int .i64 cva] 37) = W6
  have HS0_6 : Hid (Str W6 (w.heap.size) #[.int .i64 4, .string xk, .slice Ax nx cx, .int .i64 xlo, .int .i64 xhi, .int .i64 xn]) := Lib.hid (by rw [← hW6]; exact HS0_5.out.alloc _)
  have HS1_6 : Hid (Str W6 (w.heap.size + 1) #[.int .i64 8, .int .i64 0, .slice none 0 0, .int .i64 0, .int .i64 0, .int .i64 0]) := Lib.hid (by rw [← hW6]; exact HS1_5.out.alloc _)
  have HS2_6 : Hid (Str W6 (W2.heap.size) #[.int .i64 2, .slice Af nf cf, .int .i64 clo, .int .i64 chi, .int .i64 cva]) := Lib.hid (by rw [← hW6]; exact HS2_5.out.alloc _)
  have HS3_6 : Hid (Str W6 W5.heap.size #[.int .i64 2, .slice Af nf cf, .int .i64 clo, .int .i64 chi, .int .i64 cva]) := Lib.hid (by rw [← hW6]; exact Str.new W5 #[.int .i64 2, .slice Af nf cf, .int .i64 clo, .int .i64 chi, .int .i64 cva] 37)
  have hba6 : Below W5.heap.size W5 W6 := by rw [← hW6]; exact balloc (bsame _) _
  have HB_6 := Lib.hid (bstep HB_5.out hba6)
  have hw_6 := HB_6.out.size
  have hws_6 := hba6.size
  have HYf_6 := Lib.hid (HYf_5.out.next hba6)
  clear HYf_5
  clear hW6
  clear f0_5_0 f0_5_1 f0_5_2 f0_5_3 f0_5_4 f0_5_5 HS0_5 hf0_5 f1_5_0 f1_5_1 f1_5_2 f1_5_3 f1_5_4 f1_5_5 HS1_5 hf1_5 f2_5_0 f2_5_1 f2_5_2 f2_5_3 f2_5_4 HS2_5
  obtain ⟨f0_6_0, f0_6_1, f0_6_2, f0_6_3, f0_6_4, f0_6_5⟩ := str6 HS0_6.out
  have hl0_6 := HS0_6.out.lt
  have hf0_6 := fun j => HS0_6.out.frozen j
  obtain ⟨f1_6_0, f1_6_1, f1_6_2, f1_6_3, f1_6_4, f1_6_5⟩ := str6 HS1_6.out
  have hl1_6 := HS1_6.out.lt
  have hf1_6 := fun j => HS1_6.out.frozen j
  obtain ⟨f2_6_0, f2_6_1, f2_6_2, f2_6_3, f2_6_4⟩ := str5 HS2_6.out
  have hl2_6 := HS2_6.out.lt
  obtain ⟨f3_6_0, f3_6_1, f3_6_2, f3_6_3, f3_6_4⟩ := str5 HS3_6.out
  have hl3_6 := HS3_6.out.lt
  exact bodyPost_ret (v := .tuple #[.slice A n c, .agg #[.int .i64 8, .int .i64 0, .slice none 0 0, .int .i64 0, .int .i64 0, .int .i64 0]]) (by simp [results, Try.results25, go_sem, *]) rfl ⟨A, n, c, none, 0, 0, rfl, ((H.out.below (HB_6.out.mono hB)).more (Nat.le_trans hB HB_6.out.size)), Bytes.none_ _ _, HB_6.out⟩
set_option maxRecDepth 100000 in
set_option maxHeartbeats 2000000 in
theorem rstep_move4_ok (A : Option Addr) (n c B : Nat) (l : List Pair) (xk : ByteArray) (xdata : List UInt8) (Ax : Option Addr) (nx cx Bx : Nat) (xlo xhi xn : Int) (w : World) (h : Pairs w B A n c l) (hB : B ≤ w.heap.size) (hs : Small l) (hx : Bytes w Bx Ax nx cx xdata) (hBx : Bx ≤ w.heap.size) (hxk : xk.size ≤ maxLen) (hi1 : In64 xlo) (hi2 : In64 xhi) (hi3 : In64 xn) (cda : List UInt8) (clo chi cva : Int) (hf : ModelP.find l xk = (some ⟨2, [], clo, chi, cva⟩)) (hg : ModelP.good ⟨4, xk, xdata, xlo, xhi, xn⟩ = true) (hic1 : In64 clo) (hic2 : In64 chi) (hic3 : In64 cva) (hl : ¬ (cva + xn) < clo) (ho : ¬ chi < (cva + xn)) :
    Calls Try.prog 25 #[.slice A n c, .agg #[.int .i64 4, .string xk, .slice Ax nx cx, .int .i64 xlo, .int .i64 xhi, .int .i64 xn]] w (GivesSA w ((ModelP.put l xk (some ⟨2, [], clo, chi, (cva + xn)⟩), ⟨0, CellP.none⟩))) := by
  have hlen := h.len
  have hn : n ≤ 1000 := by rw [← hlen]; exact hs.len
  have H := Lib.hid h
  have HD := Lib.hid hs.data
  have HX := Lib.hid hx
  have hlx := hx.len
  clear h hs hlen
  have HG : Hid (ModelP.good ⟨4, xk, xdata, xlo, xhi, xn⟩ = true) := Lib.hid hg
  clear hg hx
  go_enter Try.func25, Try.ntmps25
  go_wp2_with fail
  generalize hW0 : ((w).alloc (.cells #[.int .i64 4, .string xk, .slice Ax nx cx, .int .i64 xlo, .int .i64 xhi, .int .i64 xn] 24)).alloc (.cells #[.int .i64 0, .int .i64 0, .slice none 0 0, .int .i64 0, .int .i64 0, .int .i64 0] 39) = W0
  have HS0_0 : Hid (Str W0 (w.heap.size) #[.int .i64 4, .string xk, .slice Ax nx cx, .int .i64 xlo, .int .i64 xhi, .int .i64 xn]) := Lib.hid (by rw [← hW0]; have := (Str.new (w) #[.int .i64 4, .string xk, .slice Ax nx cx, .int .i64 xlo, .int .i64 xhi, .int .i64 xn] 24).alloc (.cells #[.int .i64 0, .int .i64 0, .slice none 0 0, .int .i64 0, .int .i64 0, .int .i64 0] 39); simpa using this)
  have HS1_0 : Hid (Str W0 (w.heap.size + 1) #[.int .i64 0, .int .i64 0, .slice none 0 0, .int .i64 0, .int .i64 0, .int .i64 0]) := Lib.hid (by rw [← hW0]; have := Str.new ((w).alloc (.cells #[.int .i64 4, .string xk, .slice Ax nx cx, .int .i64 xlo, .int .i64 xhi, .int .i64 xn] 24)) #[.int .i64 0, .int .i64 0, .slice none 0 0, .int .i64 0, .int .i64 0, .int .i64 0] 39; simpa using this)
  have HB_0 : Hid (Below w.heap.size w W0) := Lib.hid (by rw [← hW0]; exact balloc (balloc (bsame w) _) _)
  have hw_0 := HB_0.out.size
  clear hW0
  obtain ⟨f0_0_0, f0_0_1, f0_0_2, f0_0_3, f0_0_4, f0_0_5⟩ := str6 HS0_0.out
  have hl0_0 := HS0_0.out.lt
  have hf0_0 := fun j => HS0_0.out.frozen j
  obtain ⟨f1_0_0, f1_0_1, f1_0_2, f1_0_3, f1_0_4, f1_0_5⟩ := str6 HS1_0.out
  have hl1_0 := HS1_0.out.lt
  have hf1_0 := fun j => HS1_0.out.frozen j
  refine (good_any ⟨4, xk, xdata, xlo, xhi, xn⟩ Ax nx cx _ hxk hlx).mono ?_
  rintro e W1 ⟨rfl, hb1⟩
  rw [HG.out]
  have HS0_1 := Lib.hid (HS0_0.out.next hb1)
  have HS1_1 := Lib.hid (HS1_0.out.next hb1)
  have HB_1 := Lib.hid (bstep HB_0.out hb1)
  have hw_1 := HB_1.out.size
  have hws_1 := (hb1).size
  clear f0_0_0 f0_0_1 f0_0_2 f0_0_3 f0_0_4 f0_0_5 HS0_0 hf0_0 f1_0_0 f1_0_1 f1_0_2 f1_0_3 f1_0_4 f1_0_5 HS1_0 hf1_0
  clear hb1
  obtain ⟨f0_1_0, f0_1_1, f0_1_2, f0_1_3, f0_1_4, f0_1_5⟩ := str6 HS0_1.out
  have hl0_1 := HS0_1.out.lt
  have hf0_1 := fun j => HS0_1.out.frozen j
  obtain ⟨f1_1_0, f1_1_1, f1_1_2, f1_1_3, f1_1_4, f1_1_5⟩ := str6 HS1_1.out
  have hl1_1 := HS1_1.out.lt
  have hf1_1 := fun j => HS1_1.out.frozen j
  go_wp2_with fail
  have HF := Lib.hid hf
  clear hf
  refine (refFind_any A n c w.heap.size l xk _ ((H.out.more hB).below HB_1.out) HB_1.out.size (by omega) HD.out).mono ?_
  rintro e W2 ⟨Af, nf, cf, rfl, hyf, hb2⟩
  have HS0_2 := Lib.hid (HS0_1.out.next hb2)
  have HS1_2 := Lib.hid (HS1_1.out.next hb2)
  have HB_2 := Lib.hid (bstep HB_1.out hb2)
  have hw_2 := HB_2.out.size
  have hws_2 := (hb2).size
  clear f0_1_0 f0_1_1 f0_1_2 f0_1_3 f0_1_4 f0_1_5 HS0_1 hf0_1 f1_1_0 f1_1_1 f1_1_2 f1_1_3 f1_1_4 f1_1_5 HS1_1 hf1_1
  clear hb2
  obtain ⟨f0_2_0, f0_2_1, f0_2_2, f0_2_3, f0_2_4, f0_2_5⟩ := str6 HS0_2.out
  have hl0_2 := HS0_2.out.lt
  have hf0_2 := fun j => HS0_2.out.frozen j
  obtain ⟨f1_2_0, f1_2_1, f1_2_2, f1_2_3, f1_2_4, f1_2_5⟩ := str6 HS1_2.out
  have hl1_2 := HS1_2.out.lt
  have hf1_2 := fun j => HS1_2.out.frozen j
  rw [HF.out] at hyf
  dsimp only [Option.getD, CellP.none] at hyf
  have hnf := hyf.len
  have HYf_2 := Lib.hid (hyf)
  clear hyf
  rw [HF.out]
  dsimp only [Option.getD, Option.isSome]
  go_wp2_with fail
  generalize hW3 : W2.alloc (.cells #[.int .i64 2, .slice Af nf cf, .int .i64 clo, .int .i64 chi, .int .i64 cva] 37) = W3
  have HS0_3 : Hid (Str W3 (w.heap.size) #[.int .i64 4, .string xk, .slice Ax nx cx, .int .i64 xlo, .int .i64 xhi, .int .i64 xn]) := Lib.hid (by rw [← hW3]; exact HS0_2.out.alloc _)
  have HS1_3 : Hid (Str W3 (w.heap.size + 1) #[.int .i64 0, .int .i64 0, .slice none 0 0, .int .i64 0, .int .i64 0, .int .i64 0]) := Lib.hid (by rw [← hW3]; exact HS1_2.out.alloc _)
  have HS2_3 : Hid (Str W3 W2.heap.size #[.int .i64 2, .slice Af nf cf, .int .i64 clo, .int .i64 chi, .int .i64 cva]) := Lib.hid (by rw [← hW3]; exact Str.new W2 #[.int .i64 2, .slice Af nf cf, .int .i64 clo, .int .i64 chi, .int .i64 cva] 37)
  have hba3 : Below W2.heap.size W2 W3 := by rw [← hW3]; exact balloc (bsame _) _
  have HB_3 := Lib.hid (bstep HB_2.out hba3)
  have hw_3 := HB_3.out.size
  have hws_3 := hba3.size
  have HYf_3 := Lib.hid (HYf_2.out.next hba3)
  clear HYf_2
  clear hW3
  clear f0_2_0 f0_2_1 f0_2_2 f0_2_3 f0_2_4 f0_2_5 HS0_2 hf0_2 f1_2_0 f1_2_1 f1_2_2 f1_2_3 f1_2_4 f1_2_5 HS1_2 hf1_2
  obtain ⟨f0_3_0, f0_3_1, f0_3_2, f0_3_3, f0_3_4, f0_3_5⟩ := str6 HS0_3.out
  have hl0_3 := HS0_3.out.lt
  have hf0_3 := fun j => HS0_3.out.frozen j
  obtain ⟨f1_3_0, f1_3_1, f1_3_2, f1_3_3, f1_3_4, f1_3_5⟩ := str6 HS1_3.out
  have hl1_3 := HS1_3.out.lt
  have hf1_3 := fun j => HS1_3.out.frozen j
  obtain ⟨f2_3_0, f2_3_1, f2_3_2, f2_3_3, f2_3_4⟩ := str5 HS2_3.out
  have hl2_3 := HS2_3.out.lt
  refine (rmove4_ok xk Ax nx cx xlo xhi xn Af nf cf clo chi cva _ hic1 hic2 hic3 hi3 (by omega) (by omega)).mono ?_
  rintro e W4 ⟨rfl, hb4⟩
  have HS0_4 := Lib.hid (HS0_3.out.next hb4)
  have HS1_4 := Lib.hid (HS1_3.out.next hb4)
  have HS2_4 := Lib.hid (HS2_3.out.next hb4)
  have HB_4 := Lib.hid (bstep HB_3.out hb4)
  have hw_4 := HB_4.out.size
  have hws_4 := (hb4).size
  have HYf_4 := Lib.hid (HYf_3.out.next hb4)
  clear HYf_3
  clear f0_3_0 f0_3_1 f0_3_2 f0_3_3 f0_3_4 f0_3_5 HS0_3 hf0_3 f1_3_0 f1_3_1 f1_3_2 f1_3_3 f1_3_4 f1_3_5 HS1_3 hf1_3 f2_3_0 f2_3_1 f2_3_2 f2_3_3 f2_3_4 HS2_3
  clear hb4
  obtain ⟨f0_4_0, f0_4_1, f0_4_2, f0_4_3, f0_4_4, f0_4_5⟩ := str6 HS0_4.out
  have hl0_4 := HS0_4.out.lt
  have hf0_4 := fun j => HS0_4.out.frozen j
  obtain ⟨f1_4_0, f1_4_1, f1_4_2, f1_4_3, f1_4_4, f1_4_5⟩ := str6 HS1_4.out
  have hl1_4 := HS1_4.out.lt
  have hf1_4 := fun j => HS1_4.out.frozen j
  obtain ⟨f2_4_0, f2_4_1, f2_4_2, f2_4_3, f2_4_4⟩ := str5 HS2_4.out
  have hl2_4 := HS2_4.out.lt
  go_wp2_with fail
  generalize hW5 : W4.alloc (.cells #[.int .i64 2, .slice Af nf cf, .int .i64 clo, .int .i64 chi, .int .i64 (cva + xn)] 37) = W5
  have HS0_5 : Hid (Str W5 (w.heap.size) #[.int .i64 4, .string xk, .slice Ax nx cx, .int .i64 xlo, .int .i64 xhi, .int .i64 xn]) := Lib.hid (by rw [← hW5]; exact HS0_4.out.alloc _)
  have HS1_5 : Hid (Str W5 (w.heap.size + 1) #[.int .i64 0, .int .i64 0, .slice none 0 0, .int .i64 0, .int .i64 0, .int .i64 0]) := Lib.hid (by rw [← hW5]; exact HS1_4.out.alloc _)
  have HS2_5 : Hid (Str W5 (W2.heap.size) #[.int .i64 2, .slice Af nf cf, .int .i64 clo, .int .i64 chi, .int .i64 cva]) := Lib.hid (by rw [← hW5]; exact HS2_4.out.alloc _)
  have HS3_5 : Hid (Str W5 W4.heap.size #[.int .i64 2, .slice Af nf cf, .int .i64 clo, .int .i64 chi, .int .i64 (cva + xn)]) := Lib.hid (by rw [← hW5]; exact Str.new W4 #[.int .i64 2, .slice Af nf cf, .int .i64 clo, .int .i64 chi, .int .i64 (cva + xn)] 37)
  have hba5 : Below W4.heap.size W4 W5 := by rw [← hW5]; exact balloc (bsame _) _
  have HB_5 := Lib.hid (bstep HB_4.out hba5)
  have hw_5 := HB_5.out.size
  have hws_5 := hba5.size
  have HYf_5 := Lib.hid (HYf_4.out.next hba5)
  clear HYf_4
  clear hW5
  clear f0_4_0 f0_4_1 f0_4_2 f0_4_3 f0_4_4 f0_4_5 HS0_4 hf0_4 f1_4_0 f1_4_1 f1_4_2 f1_4_3 f1_4_4 f1_4_5 HS1_4 hf1_4 f2_4_0 f2_4_1 f2_4_2 f2_4_3 f2_4_4 HS2_4
  obtain ⟨f0_5_0, f0_5_1, f0_5_2, f0_5_3, f0_5_4, f0_5_5⟩ := str6 HS0_5.out
  have hl0_5 := HS0_5.out.lt
  have hf0_5 := fun j => HS0_5.out.frozen j
  obtain ⟨f1_5_0, f1_5_1, f1_5_2, f1_5_3, f1_5_4, f1_5_5⟩ := str6 HS1_5.out
  have hl1_5 := HS1_5.out.lt
  have hf1_5 := fun j => HS1_5.out.frozen j
  obtain ⟨f2_5_0, f2_5_1, f2_5_2, f2_5_3, f2_5_4⟩ := str5 HS2_5.out
  have hl2_5 := HS2_5.out.lt
  obtain ⟨f3_5_0, f3_5_1, f3_5_2, f3_5_3, f3_5_4⟩ := str5 HS3_5.out
  have hl3_5 := HS3_5.out.lt
  refine (putSome A n c w.heap.size l xk 2 [] clo chi (cva + xn) Af nf cf W5.heap.size _ ((H.out.more hB).below HB_5.out) HB_5.out.size hn HYf_5.out (Nat.le_refl _) hxk ⟨by unfold In64; omega, hic1, hic2, by unfold In64 at *; omega⟩ (by decide)).mono ?_
  rintro e W6 ⟨A', n', c', rfl, hp', hb6⟩
  have HS0_6 := Lib.hid (HS0_5.out.next hb6)
  have HS1_6 := Lib.hid (HS1_5.out.next hb6)
  have HS2_6 := Lib.hid (HS2_5.out.next hb6)
  have HS3_6 := Lib.hid (HS3_5.out.next hb6)
  have HB_6 := Lib.hid (bstep HB_5.out hb6)
  have hw_6 := HB_6.out.size
  have hws_6 := (hb6).size
  have HYf_6 := Lib.hid (HYf_5.out.next hb6)
  clear HYf_5
  clear f0_5_0 f0_5_1 f0_5_2 f0_5_3 f0_5_4 f0_5_5 HS0_5 hf0_5 f1_5_0 f1_5_1 f1_5_2 f1_5_3 f1_5_4 f1_5_5 HS1_5 hf1_5 f2_5_0 f2_5_1 f2_5_2 f2_5_3 f2_5_4 HS2_5 f3_5_0 f3_5_1 f3_5_2 f3_5_3 f3_5_4 HS3_5
  clear hb6
  obtain ⟨f0_6_0, f0_6_1, f0_6_2, f0_6_3, f0_6_4, f0_6_5⟩ := str6 HS0_6.out
  have hl0_6 := HS0_6.out.lt
  have hf0_6 := fun j => HS0_6.out.frozen j
  obtain ⟨f1_6_0, f1_6_1, f1_6_2, f1_6_3, f1_6_4, f1_6_5⟩ := str6 HS1_6.out
  have hl1_6 := HS1_6.out.lt
  have hf1_6 := fun j => HS1_6.out.frozen j
  obtain ⟨f2_6_0, f2_6_1, f2_6_2, f2_6_3, f2_6_4⟩ := str5 HS2_6.out
  have hl2_6 := HS2_6.out.lt
  obtain ⟨f3_6_0, f3_6_1, f3_6_2, f3_6_3, f3_6_4⟩ := str5 HS3_6.out
  have hl3_6 := HS3_6.out.lt
  have HPs_6 := Lib.hid hp'
  clear hp'
  go_wp2_with fail
  generalize hW7 : ((((((W6).setCell ⟨w.heap.size + 1, 0, none⟩ (.int .i64 0)).setCell ⟨w.heap.size + 1, 1, none⟩ (.int .i64 0)).setCell ⟨w.heap.size + 1, 2, none⟩ (.slice none 0 0)).setCell ⟨w.heap.size + 1, 3, none⟩ (.int .i64 0)).setCell ⟨w.heap.size + 1, 4, none⟩ (.int .i64 0)).setCell ⟨w.heap.size + 1, 5, none⟩ (.int .i64 0) = W7
  have HS0_7 : Hid (Str W7 (w.heap.size) #[.int .i64 4, .string xk, .slice Ax nx cx, .int .i64 xlo, .int .i64 xhi, .int .i64 xn]) := Lib.hid (by rw [← hW7]; exact ((((((HS0_6.out).other 0 _ (by omega)).other 1 _ (by omega)).other 2 _ (by omega)).other 3 _ (by omega)).other 4 _ (by omega)).other 5 _ (by omega))
  have HS1_7 : Hid (Str W7 (w.heap.size + 1) #[.int .i64 0, .int .i64 0, .slice none 0 0, .int .i64 0, .int .i64 0, .int .i64 0]) := Lib.hid (by rw [← hW7]; have := ((((((HS1_6.out).set 0 (.int .i64 0)).set 1 (.int .i64 0)).set 2 (.slice none 0 0)).set 3 (.int .i64 0)).set 4 (.int .i64 0)).set 5 (.int .i64 0); simpa using this)
  have HS2_7 : Hid (Str W7 (W2.heap.size) #[.int .i64 2, .slice Af nf cf, .int .i64 clo, .int .i64 chi, .int .i64 cva]) := Lib.hid (by rw [← hW7]; exact ((((((HS2_6.out).other 0 _ (by omega)).other 1 _ (by omega)).other 2 _ (by omega)).other 3 _ (by omega)).other 4 _ (by omega)).other 5 _ (by omega))
  have HS3_7 : Hid (Str W7 (W4.heap.size) #[.int .i64 2, .slice Af nf cf, .int .i64 clo, .int .i64 chi, .int .i64 (cva + xn)]) := Lib.hid (by rw [← hW7]; exact ((((((HS3_6.out).other 0 _ (by omega)).other 1 _ (by omega)).other 2 _ (by omega)).other 3 _ (by omega)).other 4 _ (by omega)).other 5 _ (by omega))
  have hgr7 : W6.grownBy W7 (some (w.heap.size + 1)) := by rw [← hW7]; exact grown_set (grown_set (grown_set (grown_set (grown_set (grown_set (grown_refl W6 (w.heap.size + 1)) 0 (.int .i64 0)) 1 (.int .i64 0)) 2 (.slice none 0 0)) 3 (.int .i64 0)) 4 (.int .i64 0)) 5 (.int .i64 0)
  have HB_7 := Lib.hid (below_grown HB_6.out hgr7 (by omega))
  have hw_7 := HB_7.out.size
  have hws_7 := hgr7.size
  have HYf_7 := Lib.hid ((Bytes.grown HYf_6.out (Nat.le_refl _) HS1_6.out rfl hgr7).more hws_7)
  clear HYf_6
  have HPz : Hid (Pairs W7 W7.heap.size A' n' c' _) := Lib.hid (Pairs.grown HPs_6.out HS1_6.out rfl rfl hgr7)
  clear hW7
  clear f0_6_0 f0_6_1 f0_6_2 f0_6_3 f0_6_4 f0_6_5 HS0_6 hf0_6 f1_6_0 f1_6_1 f1_6_2 f1_6_3 f1_6_4 f1_6_5 HS1_6 hf1_6 f2_6_0 f2_6_1 f2_6_2 f2_6_3 f2_6_4 HS2_6 f3_6_0 f3_6_1 f3_6_2 f3_6_3 f3_6_4 HS3_6
  clear hgr7
  obtain ⟨f0_7_0, f0_7_1, f0_7_2, f0_7_3, f0_7_4, f0_7_5⟩ := str6 HS0_7.out
  have hl0_7 := HS0_7.out.lt
  have hf0_7 := fun j => HS0_7.out.frozen j
  obtain ⟨f1_7_0, f1_7_1, f1_7_2, f1_7_3, f1_7_4, f1_7_5⟩ := str6 HS1_7.out
  have hl1_7 := HS1_7.out.lt
  have hf1_7 := fun j => HS1_7.out.frozen j
  obtain ⟨f2_7_0, f2_7_1, f2_7_2, f2_7_3, f2_7_4⟩ := str5 HS2_7.out
  have hl2_7 := HS2_7.out.lt
  obtain ⟨f3_7_0, f3_7_1, f3_7_2, f3_7_3, f3_7_4⟩ := str5 HS3_7.out
  have hl3_7 := HS3_7.out.lt
  exact bodyPost_ret (v := .tuple #[.slice A' n' c', .agg #[.int .i64 0, .int .i64 0, .slice none 0 0, .int .i64 0, .int .i64 0, .int .i64 0]]) (by simp [results, Try.results25, go_sem, *]) rfl ⟨A', n', c', none, 0, 0, rfl, HPz.out, Bytes.none_ _ _, HB_7.out⟩
set_option maxRecDepth 100000 in
set_option maxHeartbeats 2000000 in
theorem rstep_move5_kind (A : Option Addr) (n c B : Nat) (l : List Pair) (xk : ByteArray) (xdata : List UInt8) (Ax : Option Addr) (nx cx Bx : Nat) (xlo xhi xn : Int) (w : World) (h : Pairs w B A n c l) (hB : B ≤ w.heap.size) (hs : Small l) (hx : Bytes w Bx Ax nx cx xdata) (hBx : Bx ≤ w.heap.size) (hxk : xk.size ≤ maxLen) (hi1 : In64 xlo) (hi2 : In64 xhi) (hi3 : In64 xn) (ckd : Int) (cda : List UInt8) (clo chi cva : Int) (hf : ModelP.find l xk = (some ⟨ckd, cda, clo, chi, cva⟩)) (hg : ModelP.good ⟨5, xk, xdata, xlo, xhi, xn⟩ = true) (hk : ¬ ckd = 2) :
    Calls Try.prog 25 #[.slice A n c, .agg #[.int .i64 5, .string xk, .slice Ax nx cx, .int .i64 xlo, .int .i64 xhi, .int .i64 xn]] w (GivesSA w ((l, ⟨6, CellP.none⟩))) := by
  have hlen := h.len
  have hn : n ≤ 1000 := by rw [← hlen]; exact hs.len
  have H := Lib.hid h
  have HD := Lib.hid hs.data
  have HX := Lib.hid hx
  have hlx := hx.len
  clear h hs hlen
  have HG : Hid (ModelP.good ⟨5, xk, xdata, xlo, xhi, xn⟩ = true) := Lib.hid hg
  clear hg hx
  go_enter Try.func25, Try.ntmps25
  go_wp2_with fail
  generalize hW0 : ((w).alloc (.cells #[.int .i64 5, .string xk, .slice Ax nx cx, .int .i64 xlo, .int .i64 xhi, .int .i64 xn] 24)).alloc (.cells #[.int .i64 0, .int .i64 0, .slice none 0 0, .int .i64 0, .int .i64 0, .int .i64 0] 39) = W0
  have HS0_0 : Hid (Str W0 (w.heap.size) #[.int .i64 5, .string xk, .slice Ax nx cx, .int .i64 xlo, .int .i64 xhi, .int .i64 xn]) := Lib.hid (by rw [← hW0]; have := (Str.new (w) #[.int .i64 5, .string xk, .slice Ax nx cx, .int .i64 xlo, .int .i64 xhi, .int .i64 xn] 24).alloc (.cells #[.int .i64 0, .int .i64 0, .slice none 0 0, .int .i64 0, .int .i64 0, .int .i64 0] 39); simpa using this)
  have HS1_0 : Hid (Str W0 (w.heap.size + 1) #[.int .i64 0, .int .i64 0, .slice none 0 0, .int .i64 0, .int .i64 0, .int .i64 0]) := Lib.hid (by rw [← hW0]; have := Str.new ((w).alloc (.cells #[.int .i64 5, .string xk, .slice Ax nx cx, .int .i64 xlo, .int .i64 xhi, .int .i64 xn] 24)) #[.int .i64 0, .int .i64 0, .slice none 0 0, .int .i64 0, .int .i64 0, .int .i64 0] 39; simpa using this)
  have HB_0 : Hid (Below w.heap.size w W0) := Lib.hid (by rw [← hW0]; exact balloc (balloc (bsame w) _) _)
  have hw_0 := HB_0.out.size
  clear hW0
  obtain ⟨f0_0_0, f0_0_1, f0_0_2, f0_0_3, f0_0_4, f0_0_5⟩ := str6 HS0_0.out
  have hl0_0 := HS0_0.out.lt
  have hf0_0 := fun j => HS0_0.out.frozen j
  obtain ⟨f1_0_0, f1_0_1, f1_0_2, f1_0_3, f1_0_4, f1_0_5⟩ := str6 HS1_0.out
  have hl1_0 := HS1_0.out.lt
  have hf1_0 := fun j => HS1_0.out.frozen j
  refine (good_any ⟨5, xk, xdata, xlo, xhi, xn⟩ Ax nx cx _ hxk hlx).mono ?_
  rintro e W1 ⟨rfl, hb1⟩
  rw [HG.out]
  have HS0_1 := Lib.hid (HS0_0.out.next hb1)
  have HS1_1 := Lib.hid (HS1_0.out.next hb1)
  have HB_1 := Lib.hid (bstep HB_0.out hb1)
  have hw_1 := HB_1.out.size
  have hws_1 := (hb1).size
  clear f0_0_0 f0_0_1 f0_0_2 f0_0_3 f0_0_4 f0_0_5 HS0_0 hf0_0 f1_0_0 f1_0_1 f1_0_2 f1_0_3 f1_0_4 f1_0_5 HS1_0 hf1_0
  clear hb1
  obtain ⟨f0_1_0, f0_1_1, f0_1_2, f0_1_3, f0_1_4, f0_1_5⟩ := str6 HS0_1.out
  have hl0_1 := HS0_1.out.lt
  have hf0_1 := fun j => HS0_1.out.frozen j
  obtain ⟨f1_1_0, f1_1_1, f1_1_2, f1_1_3, f1_1_4, f1_1_5⟩ := str6 HS1_1.out
  have hl1_1 := HS1_1.out.lt
  have hf1_1 := fun j => HS1_1.out.frozen j
  go_wp2_with fail
  have HF := Lib.hid hf
  clear hf
  refine (refFind_any A n c w.heap.size l xk _ ((H.out.more hB).below HB_1.out) HB_1.out.size (by omega) HD.out).mono ?_
  rintro e W2 ⟨Af, nf, cf, rfl, hyf, hb2⟩
  have HS0_2 := Lib.hid (HS0_1.out.next hb2)
  have HS1_2 := Lib.hid (HS1_1.out.next hb2)
  have HB_2 := Lib.hid (bstep HB_1.out hb2)
  have hw_2 := HB_2.out.size
  have hws_2 := (hb2).size
  clear f0_1_0 f0_1_1 f0_1_2 f0_1_3 f0_1_4 f0_1_5 HS0_1 hf0_1 f1_1_0 f1_1_1 f1_1_2 f1_1_3 f1_1_4 f1_1_5 HS1_1 hf1_1
  clear hb2
  obtain ⟨f0_2_0, f0_2_1, f0_2_2, f0_2_3, f0_2_4, f0_2_5⟩ := str6 HS0_2.out
  have hl0_2 := HS0_2.out.lt
  have hf0_2 := fun j => HS0_2.out.frozen j
  obtain ⟨f1_2_0, f1_2_1, f1_2_2, f1_2_3, f1_2_4, f1_2_5⟩ := str6 HS1_2.out
  have hl1_2 := HS1_2.out.lt
  have hf1_2 := fun j => HS1_2.out.frozen j
  rw [HF.out] at hyf
  dsimp only [Option.getD, CellP.none] at hyf
  have hnf := hyf.len
  have HYf_2 := Lib.hid (hyf)
  clear hyf
  rw [HF.out]
  dsimp only [Option.getD, Option.isSome]
  go_wp2_with fail
  generalize hW3 : W2.alloc (.cells #[.int .i64 ckd, .slice Af nf cf, .int .i64 clo, .int .i64 chi, .int .i64 cva] 37) = W3
  have HS0_3 : Hid (Str W3 (w.heap.size) #[.int .i64 5, .string xk, .slice Ax nx cx, .int .i64 xlo, .int .i64 xhi, .int .i64 xn]) := Lib.hid (by rw [← hW3]; exact HS0_2.out.alloc _)
  have HS1_3 : Hid (Str W3 (w.heap.size + 1) #[.int .i64 0, .int .i64 0, .slice none 0 0, .int .i64 0, .int .i64 0, .int .i64 0]) := Lib.hid (by rw [← hW3]; exact HS1_2.out.alloc _)
  have HS2_3 : Hid (Str W3 W2.heap.size #[.int .i64 ckd, .slice Af nf cf, .int .i64 clo, .int .i64 chi, .int .i64 cva]) := Lib.hid (by rw [← hW3]; exact Str.new W2 #[.int .i64 ckd, .slice Af nf cf, .int .i64 clo, .int .i64 chi, .int .i64 cva] 37)
  have hba3 : Below W2.heap.size W2 W3 := by rw [← hW3]; exact balloc (bsame _) _
  have HB_3 := Lib.hid (bstep HB_2.out hba3)
  have hw_3 := HB_3.out.size
  have hws_3 := hba3.size
  have HYf_3 := Lib.hid (HYf_2.out.next hba3)
  clear HYf_2
  clear hW3
  clear f0_2_0 f0_2_1 f0_2_2 f0_2_3 f0_2_4 f0_2_5 HS0_2 hf0_2 f1_2_0 f1_2_1 f1_2_2 f1_2_3 f1_2_4 f1_2_5 HS1_2 hf1_2
  obtain ⟨f0_3_0, f0_3_1, f0_3_2, f0_3_3, f0_3_4, f0_3_5⟩ := str6 HS0_3.out
  have hl0_3 := HS0_3.out.lt
  have hf0_3 := fun j => HS0_3.out.frozen j
  obtain ⟨f1_3_0, f1_3_1, f1_3_2, f1_3_3, f1_3_4, f1_3_5⟩ := str6 HS1_3.out
  have hl1_3 := HS1_3.out.lt
  have hf1_3 := fun j => HS1_3.out.frozen j
  obtain ⟨f2_3_0, f2_3_1, f2_3_2, f2_3_3, f2_3_4⟩ := str5 HS2_3.out
  have hl2_3 := HS2_3.out.lt
  refine (rmove_kind 5 xk Ax nx cx xlo xhi xn ckd Af nf cf clo chi cva _ hk).mono ?_
  rintro e W4 ⟨rfl, hb4⟩
  have HS0_4 := Lib.hid (HS0_3.out.next hb4)
  have HS1_4 := Lib.hid (HS1_3.out.next hb4)
  have HS2_4 := Lib.hid (HS2_3.out.next hb4)
  have HB_4 := Lib.hid (bstep HB_3.out hb4)
  have hw_4 := HB_4.out.size
  have hws_4 := (hb4).size
  have HYf_4 := Lib.hid (HYf_3.out.next hb4)
  clear HYf_3
  clear f0_3_0 f0_3_1 f0_3_2 f0_3_3 f0_3_4 f0_3_5 HS0_3 hf0_3 f1_3_0 f1_3_1 f1_3_2 f1_3_3 f1_3_4 f1_3_5 HS1_3 hf1_3 f2_3_0 f2_3_1 f2_3_2 f2_3_3 f2_3_4 HS2_3
  clear hb4
  obtain ⟨f0_4_0, f0_4_1, f0_4_2, f0_4_3, f0_4_4, f0_4_5⟩ := str6 HS0_4.out
  have hl0_4 := HS0_4.out.lt
  have hf0_4 := fun j => HS0_4.out.frozen j
  obtain ⟨f1_4_0, f1_4_1, f1_4_2, f1_4_3, f1_4_4, f1_4_5⟩ := str6 HS1_4.out
  have hl1_4 := HS1_4.out.lt
  have hf1_4 := fun j => HS1_4.out.frozen j
  obtain ⟨f2_4_0, f2_4_1, f2_4_2, f2_4_3, f2_4_4⟩ := str5 HS2_4.out
  have hl2_4 := HS2_4.out.lt
  go_wp2_with fail
  generalize hW5 : ((((((W4).setCell ⟨w.heap.size + 1, 0, none⟩ (.int .i64 6)).setCell ⟨w.heap.size + 1, 1, none⟩ (.int .i64 0)).setCell ⟨w.heap.size + 1, 2, none⟩ (.slice none 0 0)).setCell ⟨w.heap.size + 1, 3, none⟩ (.int .i64 0)).setCell ⟨w.heap.size + 1, 4, none⟩ (.int .i64 0)).setCell ⟨w.heap.size + 1, 5, none⟩ (.int .i64 0) = W5
  have HS0_5 : Hid (Str W5 (w.heap.size) #[.int .i64 5, .string xk, .slice Ax nx cx, .int .i64 xlo, .int .i64 xhi, .int .i64 xn]) := Lib.hid (by rw [← hW5]; exact ((((((HS0_4.out).other 0 _ (by omega)).other 1 _ (by omega)).other 2 _ (by omega)).other 3 _ (by omega)).other 4 _ (by omega)).other 5 _ (by omega))
  have HS1_5 : Hid (Str W5 (w.heap.size + 1) #[.int .i64 6, .int .i64 0, .slice none 0 0, .int .i64 0, .int .i64 0, .int .i64 0]) := Lib.hid (by rw [← hW5]; have := ((((((HS1_4.out).set 0 (.int .i64 6)).set 1 (.int .i64 0)).set 2 (.slice none 0 0)).set 3 (.int .i64 0)).set 4 (.int .i64 0)).set 5 (.int .i64 0); simpa using this)
  have HS2_5 : Hid (Str W5 (W2.heap.size) #[.int .i64 ckd, .slice Af nf cf, .int .i64 clo, .int .i64 chi, .int .i64 cva]) := Lib.hid (by rw [← hW5]; exact ((((((HS2_4.out).other 0 _ (by omega)).other 1 _ (by omega)).other 2 _ (by omega)).other 3 _ (by omega)).other 4 _ (by omega)).other 5 _ (by omega))
  have hgr5 : W4.grownBy W5 (some (w.heap.size + 1)) := by rw [← hW5]; exact grown_set (grown_set (grown_set (grown_set (grown_set (grown_set (grown_refl W4 (w.heap.size + 1)) 0 (.int .i64 6)) 1 (.int .i64 0)) 2 (.slice none 0 0)) 3 (.int .i64 0)) 4 (.int .i64 0)) 5 (.int .i64 0)
  have HB_5 := Lib.hid (below_grown HB_4.out hgr5 (by omega))
  have hw_5 := HB_5.out.size
  have hws_5 := hgr5.size
  have HYf_5 := Lib.hid ((Bytes.grown HYf_4.out (Nat.le_refl _) HS1_4.out rfl hgr5).more hws_5)
  clear HYf_4
  clear hW5
  clear f0_4_0 f0_4_1 f0_4_2 f0_4_3 f0_4_4 f0_4_5 HS0_4 hf0_4 f1_4_0 f1_4_1 f1_4_2 f1_4_3 f1_4_4 f1_4_5 HS1_4 hf1_4 f2_4_0 f2_4_1 f2_4_2 f2_4_3 f2_4_4 HS2_4
  clear hgr5
  obtain ⟨f0_5_0, f0_5_1, f0_5_2, f0_5_3, f0_5_4, f0_5_5⟩ := str6 HS0_5.out
  have hl0_5 := HS0_5.out.lt
  have hf0_5 := fun j => HS0_5.out.frozen j
  obtain ⟨f1_5_0, f1_5_1, f1_5_2, f1_5_3, f1_5_4, f1_5_5⟩ := str6 HS1_5.out
  have hl1_5 := HS1_5.out.lt
  have hf1_5 := fun j => HS1_5.out.frozen j
  obtain ⟨f2_5_0, f2_5_1, f2_5_2, f2_5_3, f2_5_4⟩ := str5 HS2_5.out
  have hl2_5 := HS2_5.out.lt
  generalize hW6 : W5.alloc (.cells #[.int .i64 ckd, .slice Af nf cf, .int .i64 clo, .int .i64 chi, .int .i64 cva] 37) = W6
  have HS0_6 : Hid (Str W6 (w.heap.size) #[.int .i64 5, .string xk, .slice Ax nx cx, .int .i64 xlo, .int .i64 xhi, .int .i64 xn]) := Lib.hid (by rw [← hW6]; exact HS0_5.out.alloc _)
  have HS1_6 : Hid (Str W6 (w.heap.size + 1) #[.int .i64 6, .int .i64 0, .slice none 0 0, .int .i64 0, .int .i64 0, .int .i64 0]) := Lib.hid (by rw [← hW6]; exact HS1_5.out.alloc _)
  have HS2_6 : Hid (Str W6 (W2.heap.size) #[.int .i64 ckd, .slice Af nf cf, .int .i64 clo, .int .i64 chi, .int .i64 cva]) := Lib.hid (by rw [← hW6]; exact HS2_5.out.alloc _)
  have HS3_6 : Hid (Str W6 W5.heap.size #[.int .i64 ckd, .slice Af nf cf, .int .i64 clo, .int .i64 chi, .int .i64 cva]) := Lib.hid (by rw [← hW6]; exact Str.new W5 #[.int .i64 ckd, .slice Af nf cf, .int .i64 clo, .int .i64 chi, .int .i64 cva] 37)
  have hba6 : Below W5.heap.size W5 W6 := by rw [← hW6]; exact balloc (bsame _) _
  have HB_6 := Lib.hid (bstep HB_5.out hba6)
  have hw_6 := HB_6.out.size
  have hws_6 := hba6.size
  have HYf_6 := Lib.hid (HYf_5.out.next hba6)
  clear HYf_5
  clear hW6
  clear f0_5_0 f0_5_1 f0_5_2 f0_5_3 f0_5_4 f0_5_5 HS0_5 hf0_5 f1_5_0 f1_5_1 f1_5_2 f1_5_3 f1_5_4 f1_5_5 HS1_5 hf1_5 f2_5_0 f2_5_1 f2_5_2 f2_5_3 f2_5_4 HS2_5
  obtain ⟨f0_6_0, f0_6_1, f0_6_2, f0_6_3, f0_6_4, f0_6_5⟩ := str6 HS0_6.out
  have hl0_6 := HS0_6.out.lt
  have hf0_6 := fun j => HS0_6.out.frozen j
  obtain ⟨f1_6_0, f1_6_1, f1_6_2, f1_6_3, f1_6_4, f1_6_5⟩ := str6 HS1_6.out
  have hl1_6 := HS1_6.out.lt
  have hf1_6 := fun j => HS1_6.out.frozen j
  obtain ⟨f2_6_0, f2_6_1, f2_6_2, f2_6_3, f2_6_4⟩ := str5 HS2_6.out
  have hl2_6 := HS2_6.out.lt
  obtain ⟨f3_6_0, f3_6_1, f3_6_2, f3_6_3, f3_6_4⟩ := str5 HS3_6.out
  have hl3_6 := HS3_6.out.lt
  exact bodyPost_ret (v := .tuple #[.slice A n c, .agg #[.int .i64 6, .int .i64 0, .slice none 0 0, .int .i64 0, .int .i64 0, .int .i64 0]]) (by simp [results, Try.results25, go_sem, *]) rfl ⟨A, n, c, none, 0, 0, rfl, ((H.out.below (HB_6.out.mono hB)).more (Nat.le_trans hB HB_6.out.size)), Bytes.none_ _ _, HB_6.out⟩
set_option maxRecDepth 100000 in
set_option maxHeartbeats 2000000 in
theorem rstep_move5_low (A : Option Addr) (n c B : Nat) (l : List Pair) (xk : ByteArray) (xdata : List UInt8) (Ax : Option Addr) (nx cx Bx : Nat) (xlo xhi xn : Int) (w : World) (h : Pairs w B A n c l) (hB : B ≤ w.heap.size) (hs : Small l) (hx : Bytes w Bx Ax nx cx xdata) (hBx : Bx ≤ w.heap.size) (hxk : xk.size ≤ maxLen) (hi1 : In64 xlo) (hi2 : In64 xhi) (hi3 : In64 xn) (cda : List UInt8) (clo chi cva : Int) (hf : ModelP.find l xk = (some ⟨2, [], clo, chi, cva⟩)) (hg : ModelP.good ⟨5, xk, xdata, xlo, xhi, xn⟩ = true) (hic1 : In64 clo) (hic2 : In64 chi) (hic3 : In64 cva) (ho : (cva - xn) < clo) :
    Calls Try.prog 25 #[.slice A n c, .agg #[.int .i64 5, .string xk, .slice Ax nx cx, .int .i64 xlo, .int .i64 xhi, .int .i64 xn]] w (GivesSA w ((l, ⟨8, CellP.none⟩))) := by
  have hlen := h.len
  have hn : n ≤ 1000 := by rw [← hlen]; exact hs.len
  have H := Lib.hid h
  have HD := Lib.hid hs.data
  have HX := Lib.hid hx
  have hlx := hx.len
  clear h hs hlen
  have HG : Hid (ModelP.good ⟨5, xk, xdata, xlo, xhi, xn⟩ = true) := Lib.hid hg
  clear hg hx
  go_enter Try.func25, Try.ntmps25
  go_wp2_with fail
  generalize hW0 : ((w).alloc (.cells #[.int .i64 5, .string xk, .slice Ax nx cx, .int .i64 xlo, .int .i64 xhi, .int .i64 xn] 24)).alloc (.cells #[.int .i64 0, .int .i64 0, .slice none 0 0, .int .i64 0, .int .i64 0, .int .i64 0] 39) = W0
  have HS0_0 : Hid (Str W0 (w.heap.size) #[.int .i64 5, .string xk, .slice Ax nx cx, .int .i64 xlo, .int .i64 xhi, .int .i64 xn]) := Lib.hid (by rw [← hW0]; have := (Str.new (w) #[.int .i64 5, .string xk, .slice Ax nx cx, .int .i64 xlo, .int .i64 xhi, .int .i64 xn] 24).alloc (.cells #[.int .i64 0, .int .i64 0, .slice none 0 0, .int .i64 0, .int .i64 0, .int .i64 0] 39); simpa using this)
  have HS1_0 : Hid (Str W0 (w.heap.size + 1) #[.int .i64 0, .int .i64 0, .slice none 0 0, .int .i64 0, .int .i64 0, .int .i64 0]) := Lib.hid (by rw [← hW0]; have := Str.new ((w).alloc (.cells #[.int .i64 5, .string xk, .slice Ax nx cx, .int .i64 xlo, .int .i64 xhi, .int .i64 xn] 24)) #[.int .i64 0, .int .i64 0, .slice none 0 0, .int .i64 0, .int .i64 0, .int .i64 0] 39; simpa using this)
  have HB_0 : Hid (Below w.heap.size w W0) := Lib.hid (by rw [← hW0]; exact balloc (balloc (bsame w) _) _)
  have hw_0 := HB_0.out.size
  clear hW0
  obtain ⟨f0_0_0, f0_0_1, f0_0_2, f0_0_3, f0_0_4, f0_0_5⟩ := str6 HS0_0.out
  have hl0_0 := HS0_0.out.lt
  have hf0_0 := fun j => HS0_0.out.frozen j
  obtain ⟨f1_0_0, f1_0_1, f1_0_2, f1_0_3, f1_0_4, f1_0_5⟩ := str6 HS1_0.out
  have hl1_0 := HS1_0.out.lt
  have hf1_0 := fun j => HS1_0.out.frozen j
  refine (good_any ⟨5, xk, xdata, xlo, xhi, xn⟩ Ax nx cx _ hxk hlx).mono ?_
  rintro e W1 ⟨rfl, hb1⟩
  rw [HG.out]
  have HS0_1 := Lib.hid (HS0_0.out.next hb1)
  have HS1_1 := Lib.hid (HS1_0.out.next hb1)
  have HB_1 := Lib.hid (bstep HB_0.out hb1)
  have hw_1 := HB_1.out.size
  have hws_1 := (hb1).size
  clear f0_0_0 f0_0_1 f0_0_2 f0_0_3 f0_0_4 f0_0_5 HS0_0 hf0_0 f1_0_0 f1_0_1 f1_0_2 f1_0_3 f1_0_4 f1_0_5 HS1_0 hf1_0
  clear hb1
  obtain ⟨f0_1_0, f0_1_1, f0_1_2, f0_1_3, f0_1_4, f0_1_5⟩ := str6 HS0_1.out
  have hl0_1 := HS0_1.out.lt
  have hf0_1 := fun j => HS0_1.out.frozen j
  obtain ⟨f1_1_0, f1_1_1, f1_1_2, f1_1_3, f1_1_4, f1_1_5⟩ := str6 HS1_1.out
  have hl1_1 := HS1_1.out.lt
  have hf1_1 := fun j => HS1_1.out.frozen j
  go_wp2_with fail
  have HF := Lib.hid hf
  clear hf
  refine (refFind_any A n c w.heap.size l xk _ ((H.out.more hB).below HB_1.out) HB_1.out.size (by omega) HD.out).mono ?_
  rintro e W2 ⟨Af, nf, cf, rfl, hyf, hb2⟩
  have HS0_2 := Lib.hid (HS0_1.out.next hb2)
  have HS1_2 := Lib.hid (HS1_1.out.next hb2)
  have HB_2 := Lib.hid (bstep HB_1.out hb2)
  have hw_2 := HB_2.out.size
  have hws_2 := (hb2).size
  clear f0_1_0 f0_1_1 f0_1_2 f0_1_3 f0_1_4 f0_1_5 HS0_1 hf0_1 f1_1_0 f1_1_1 f1_1_2 f1_1_3 f1_1_4 f1_1_5 HS1_1 hf1_1
  clear hb2
  obtain ⟨f0_2_0, f0_2_1, f0_2_2, f0_2_3, f0_2_4, f0_2_5⟩ := str6 HS0_2.out
  have hl0_2 := HS0_2.out.lt
  have hf0_2 := fun j => HS0_2.out.frozen j
  obtain ⟨f1_2_0, f1_2_1, f1_2_2, f1_2_3, f1_2_4, f1_2_5⟩ := str6 HS1_2.out
  have hl1_2 := HS1_2.out.lt
  have hf1_2 := fun j => HS1_2.out.frozen j
  rw [HF.out] at hyf
  dsimp only [Option.getD, CellP.none] at hyf
  have hnf := hyf.len
  have HYf_2 := Lib.hid (hyf)
  clear hyf
  rw [HF.out]
  dsimp only [Option.getD, Option.isSome]
  go_wp2_with fail
  generalize hW3 : W2.alloc (.cells #[.int .i64 2, .slice Af nf cf, .int .i64 clo, .int .i64 chi, .int .i64 cva] 37) = W3
  have HS0_3 : Hid (Str W3 (w.heap.size) #[.int .i64 5, .string xk, .slice Ax nx cx, .int .i64 xlo, .int .i64 xhi, .int .i64 xn]) := Lib.hid (by rw [← hW3]; exact HS0_2.out.alloc _)
  have HS1_3 : Hid (Str W3 (w.heap.size + 1) #[.int .i64 0, .int .i64 0, .slice none 0 0, .int .i64 0, .int .i64 0, .int .i64 0]) := Lib.hid (by rw [← hW3]; exact HS1_2.out.alloc _)
  have HS2_3 : Hid (Str W3 W2.heap.size #[.int .i64 2, .slice Af nf cf, .int .i64 clo, .int .i64 chi, .int .i64 cva]) := Lib.hid (by rw [← hW3]; exact Str.new W2 #[.int .i64 2, .slice Af nf cf, .int .i64 clo, .int .i64 chi, .int .i64 cva] 37)
  have hba3 : Below W2.heap.size W2 W3 := by rw [← hW3]; exact balloc (bsame _) _
  have HB_3 := Lib.hid (bstep HB_2.out hba3)
  have hw_3 := HB_3.out.size
  have hws_3 := hba3.size
  have HYf_3 := Lib.hid (HYf_2.out.next hba3)
  clear HYf_2
  clear hW3
  clear f0_2_0 f0_2_1 f0_2_2 f0_2_3 f0_2_4 f0_2_5 HS0_2 hf0_2 f1_2_0 f1_2_1 f1_2_2 f1_2_3 f1_2_4 f1_2_5 HS1_2 hf1_2
  obtain ⟨f0_3_0, f0_3_1, f0_3_2, f0_3_3, f0_3_4, f0_3_5⟩ := str6 HS0_3.out
  have hl0_3 := HS0_3.out.lt
  have hf0_3 := fun j => HS0_3.out.frozen j
  obtain ⟨f1_3_0, f1_3_1, f1_3_2, f1_3_3, f1_3_4, f1_3_5⟩ := str6 HS1_3.out
  have hl1_3 := HS1_3.out.lt
  have hf1_3 := fun j => HS1_3.out.frozen j
  obtain ⟨f2_3_0, f2_3_1, f2_3_2, f2_3_3, f2_3_4⟩ := str5 HS2_3.out
  have hl2_3 := HS2_3.out.lt
  refine (rmove5_low xk Ax nx cx xlo xhi xn Af nf cf clo chi cva _ hic1 hic2 hic3 hi3 (by omega)).mono ?_
  rintro e W4 ⟨rfl, hb4⟩
  have HS0_4 := Lib.hid (HS0_3.out.next hb4)
  have HS1_4 := Lib.hid (HS1_3.out.next hb4)
  have HS2_4 := Lib.hid (HS2_3.out.next hb4)
  have HB_4 := Lib.hid (bstep HB_3.out hb4)
  have hw_4 := HB_4.out.size
  have hws_4 := (hb4).size
  have HYf_4 := Lib.hid (HYf_3.out.next hb4)
  clear HYf_3
  clear f0_3_0 f0_3_1 f0_3_2 f0_3_3 f0_3_4 f0_3_5 HS0_3 hf0_3 f1_3_0 f1_3_1 f1_3_2 f1_3_3 f1_3_4 f1_3_5 HS1_3 hf1_3 f2_3_0 f2_3_1 f2_3_2 f2_3_3 f2_3_4 HS2_3
  clear hb4
  obtain ⟨f0_4_0, f0_4_1, f0_4_2, f0_4_3, f0_4_4, f0_4_5⟩ := str6 HS0_4.out
  have hl0_4 := HS0_4.out.lt
  have hf0_4 := fun j => HS0_4.out.frozen j
  obtain ⟨f1_4_0, f1_4_1, f1_4_2, f1_4_3, f1_4_4, f1_4_5⟩ := str6 HS1_4.out
  have hl1_4 := HS1_4.out.lt
  have hf1_4 := fun j => HS1_4.out.frozen j
  obtain ⟨f2_4_0, f2_4_1, f2_4_2, f2_4_3, f2_4_4⟩ := str5 HS2_4.out
  have hl2_4 := HS2_4.out.lt
  go_wp2_with fail
  generalize hW5 : ((((((W4).setCell ⟨w.heap.size + 1, 0, none⟩ (.int .i64 8)).setCell ⟨w.heap.size + 1, 1, none⟩ (.int .i64 0)).setCell ⟨w.heap.size + 1, 2, none⟩ (.slice none 0 0)).setCell ⟨w.heap.size + 1, 3, none⟩ (.int .i64 0)).setCell ⟨w.heap.size + 1, 4, none⟩ (.int .i64 0)).setCell ⟨w.heap.size + 1, 5, none⟩ (.int .i64 0) = W5
  have HS0_5 : Hid (Str W5 (w.heap.size) #[.int .i64 5, .string xk, .slice Ax nx cx, .int .i64 xlo, .int .i64 xhi, .int .i64 xn]) := Lib.hid (by rw [← hW5]; exact ((((((HS0_4.out).other 0 _ (by omega)).other 1 _ (by omega)).other 2 _ (by omega)).other 3 _ (by omega)).other 4 _ (by omega)).other 5 _ (by omega))
  have HS1_5 : Hid (Str W5 (w.heap.size + 1) #[.int .i64 8, .int .i64 0, .slice none 0 0, .int .i64 0, .int .i64 0, .int .i64 0]) := Lib.hid (by rw [← hW5]; have := ((((((HS1_4.out).set 0 (.int .i64 8)).set 1 (.int .i64 0)).set 2 (.slice none 0 0)).set 3 (.int .i64 0)).set 4 (.int .i64 0)).set 5 (.int .i64 0); simpa using this)
  have HS2_5 : Hid (Str W5 (W2.heap.size) #[.int .i64 2, .slice Af nf cf, .int .i64 clo, .int .i64 chi, .int .i64 cva]) := Lib.hid (by rw [← hW5]; exact ((((((HS2_4.out).other 0 _ (by omega)).other 1 _ (by omega)).other 2 _ (by omega)).other 3 _ (by omega)).other 4 _ (by omega)).other 5 _ (by omega))
  have hgr5 : W4.grownBy W5 (some (w.heap.size + 1)) := by rw [← hW5]; exact grown_set (grown_set (grown_set (grown_set (grown_set (grown_set (grown_refl W4 (w.heap.size + 1)) 0 (.int .i64 8)) 1 (.int .i64 0)) 2 (.slice none 0 0)) 3 (.int .i64 0)) 4 (.int .i64 0)) 5 (.int .i64 0)
  have HB_5 := Lib.hid (below_grown HB_4.out hgr5 (by omega))
  have hw_5 := HB_5.out.size
  have hws_5 := hgr5.size
  have HYf_5 := Lib.hid ((Bytes.grown HYf_4.out (Nat.le_refl _) HS1_4.out rfl hgr5).more hws_5)
  clear HYf_4
  clear hW5
  clear f0_4_0 f0_4_1 f0_4_2 f0_4_3 f0_4_4 f0_4_5 HS0_4 hf0_4 f1_4_0 f1_4_1 f1_4_2 f1_4_3 f1_4_4 f1_4_5 HS1_4 hf1_4 f2_4_0 f2_4_1 f2_4_2 f2_4_3 f2_4_4 HS2_4
  clear hgr5
  obtain ⟨f0_5_0, f0_5_1, f0_5_2, f0_5_3, f0_5_4, f0_5_5⟩ := str6 HS0_5.out
  have hl0_5 := HS0_5.out.lt
  have hf0_5 := fun j => HS0_5.out.frozen j
  obtain ⟨f1_5_0, f1_5_1, f1_5_2, f1_5_3, f1_5_4, f1_5_5⟩ := str6 HS1_5.out
  have hl1_5 := HS1_5.out.lt
  have hf1_5 := fun j => HS1_5.out.frozen j
  obtain ⟨f2_5_0, f2_5_1, f2_5_2, f2_5_3, f2_5_4⟩ := str5 HS2_5.out
  have hl2_5 := HS2_5.out.lt
  generalize hW6 : W5.alloc (.cells #[.int .i64 2, .slice Af nf cf, .int .i64 clo, .int .i64 chi, .int .i64 cva] 37) = W6
  have HS0_6 : Hid (Str W6 (w.heap.size) #[.int .i64 5, .string xk, .slice Ax nx cx, .int .i64 xlo, .int .i64 xhi, .int .i64 xn]) := Lib.hid (by rw [← hW6]; exact HS0_5.out.alloc _)
  have HS1_6 : Hid (Str W6 (w.heap.size + 1) #[.int .i64 8, .int .i64 0, .slice none 0 0, .int .i64 0, .int .i64 0, .int .i64 0]) := Lib.hid (by rw [← hW6]; exact HS1_5.out.alloc _)
  have HS2_6 : Hid (Str W6 (W2.heap.size) #[.int .i64 2, .slice Af nf cf, .int .i64 clo, .int .i64 chi, .int .i64 cva]) := Lib.hid (by rw [← hW6]; exact HS2_5.out.alloc _)
  have HS3_6 : Hid (Str W6 W5.heap.size #[.int .i64 2, .slice Af nf cf, .int .i64 clo, .int .i64 chi, .int .i64 cva]) := Lib.hid (by rw [← hW6]; exact Str.new W5 #[.int .i64 2, .slice Af nf cf, .int .i64 clo, .int .i64 chi, .int .i64 cva] 37)
  have hba6 : Below W5.heap.size W5 W6 := by rw [← hW6]; exact balloc (bsame _) _
  have HB_6 := Lib.hid (bstep HB_5.out hba6)
  have hw_6 := HB_6.out.size
  have hws_6 := hba6.size
  have HYf_6 := Lib.hid (HYf_5.out.next hba6)
  clear HYf_5
  clear hW6
  clear f0_5_0 f0_5_1 f0_5_2 f0_5_3 f0_5_4 f0_5_5 HS0_5 hf0_5 f1_5_0 f1_5_1 f1_5_2 f1_5_3 f1_5_4 f1_5_5 HS1_5 hf1_5 f2_5_0 f2_5_1 f2_5_2 f2_5_3 f2_5_4 HS2_5
  obtain ⟨f0_6_0, f0_6_1, f0_6_2, f0_6_3, f0_6_4, f0_6_5⟩ := str6 HS0_6.out
  have hl0_6 := HS0_6.out.lt
  have hf0_6 := fun j => HS0_6.out.frozen j
  obtain ⟨f1_6_0, f1_6_1, f1_6_2, f1_6_3, f1_6_4, f1_6_5⟩ := str6 HS1_6.out
  have hl1_6 := HS1_6.out.lt
  have hf1_6 := fun j => HS1_6.out.frozen j
  obtain ⟨f2_6_0, f2_6_1, f2_6_2, f2_6_3, f2_6_4⟩ := str5 HS2_6.out
  have hl2_6 := HS2_6.out.lt
  obtain ⟨f3_6_0, f3_6_1, f3_6_2, f3_6_3, f3_6_4⟩ := str5 HS3_6.out
  have hl3_6 := HS3_6.out.lt
  exact bodyPost_ret (v := .tuple #[.slice A n c, .agg #[.int .i64 8, .int .i64 0, .slice none 0 0, .int .i64 0, .int .i64 0, .int .i64 0]]) (by simp [results, Try.results25, go_sem, *]) rfl ⟨A, n, c, none, 0, 0, rfl, ((H.out.below (HB_6.out.mono hB)).more (Nat.le_trans hB HB_6.out.size)), Bytes.none_ _ _, HB_6.out⟩
set_option maxRecDepth 100000 in
set_option maxHeartbeats 2000000 in
theorem rstep_move5_high (A : Option Addr) (n c B : Nat) (l : List Pair) (xk : ByteArray) (xdata : List UInt8) (Ax : Option Addr) (nx cx Bx : Nat) (xlo xhi xn : Int) (w : World) (h : Pairs w B A n c l) (hB : B ≤ w.heap.size) (hs : Small l) (hx : Bytes w Bx Ax nx cx xdata) (hBx : Bx ≤ w.heap.size) (hxk : xk.size ≤ maxLen) (hi1 : In64 xlo) (hi2 : In64 xhi) (hi3 : In64 xn) (cda : List UInt8) (clo chi cva : Int) (hf : ModelP.find l xk = (some ⟨2, [], clo, chi, cva⟩)) (hg : ModelP.good ⟨5, xk, xdata, xlo, xhi, xn⟩ = true) (hic1 : In64 clo) (hic2 : In64 chi) (hic3 : In64 cva) (hl : ¬ (cva - xn) < clo) (ho : chi < (cva - xn)) :
    Calls Try.prog 25 #[.slice A n c, .agg #[.int .i64 5, .string xk, .slice Ax nx cx, .int .i64 xlo, .int .i64 xhi, .int .i64 xn]] w (GivesSA w ((l, ⟨8, CellP.none⟩))) := by
  have hlen := h.len
  have hn : n ≤ 1000 := by rw [← hlen]; exact hs.len
  have H := Lib.hid h
  have HD := Lib.hid hs.data
  have HX := Lib.hid hx
  have hlx := hx.len
  clear h hs hlen
  have HG : Hid (ModelP.good ⟨5, xk, xdata, xlo, xhi, xn⟩ = true) := Lib.hid hg
  clear hg hx
  go_enter Try.func25, Try.ntmps25
  go_wp2_with fail
  generalize hW0 : ((w).alloc (.cells #[.int .i64 5, .string xk, .slice Ax nx cx, .int .i64 xlo, .int .i64 xhi, .int .i64 xn] 24)).alloc (.cells #[.int .i64 0, .int .i64 0, .slice none 0 0, .int .i64 0, .int .i64 0, .int .i64 0] 39) = W0
  have HS0_0 : Hid (Str W0 (w.heap.size) #[.int .i64 5, .string xk, .slice Ax nx cx, .int .i64 xlo, .int .i64 xhi, .int .i64 xn]) := Lib.hid (by rw [← hW0]; have := (Str.new (w) #[.int .i64 5, .string xk, .slice Ax nx cx, .int .i64 xlo, .int .i64 xhi, .int .i64 xn] 24).alloc (.cells #[.int .i64 0, .int .i64 0, .slice none 0 0, .int .i64 0, .int .i64 0, .int .i64 0] 39); simpa using this)
  have HS1_0 : Hid (Str W0 (w.heap.size + 1) #[.int .i64 0, .int .i64 0, .slice none 0 0, .int .i64 0, .int .i64 0, .int .i64 0]) := Lib.hid (by rw [← hW0]; have := Str.new ((w).alloc (.cells #[.int .i64 5, .string xk, .slice Ax nx cx, .int .i64 xlo, .int .i64 xhi, .int .i64 xn] 24)) #[.int .i64 0, .int .i64 0, .slice none 0 0, .int .i64 0, .int .i64 0, .int .i64 0] 39; simpa using this)
  have HB_0 : Hid (Below w.heap.size w W0) := Lib.hid (by rw [← hW0]; exact balloc (balloc (bsame w) _) _)
  have hw_0 := HB_0.out.size
  clear hW0
  obtain ⟨f0_0_0, f0_0_1, f0_0_2, f0_0_3, f0_0_4, f0_0_5⟩ := str6 HS0_0.out
  have hl0_0 := HS0_0.out.lt
  have hf0_0 := fun j => HS0_0.out.frozen j
  obtain ⟨f1_0_0, f1_0_1, f1_0_2, f1_0_3, f1_0_4, f1_0_5⟩ := str6 HS1_0.out
  have hl1_0 := HS1_0.out.lt
  have hf1_0 := fun j => HS1_0.out.frozen j
  refine (good_any ⟨5, xk, xdata, xlo, xhi, xn⟩ Ax nx cx _ hxk hlx).mono ?_
  rintro e W1 ⟨rfl, hb1⟩
  rw [HG.out]
  have HS0_1 := Lib.hid (HS0_0.out.next hb1)
  have HS1_1 := Lib.hid (HS1_0.out.next hb1)
  have HB_1 := Lib.hid (bstep HB_0.out hb1)
  have hw_1 := HB_1.out.size
  have hws_1 := (hb1).size
  clear f0_0_0 f0_0_1 f0_0_2 f0_0_3 f0_0_4 f0_0_5 HS0_0 hf0_0 f1_0_0 f1_0_1 f1_0_2 f1_0_3 f1_0_4 f1_0_5 HS1_0 hf1_0
  clear hb1
  obtain ⟨f0_1_0, f0_1_1, f0_1_2, f0_1_3, f0_1_4, f0_1_5⟩ := str6 HS0_1.out
  have hl0_1 := HS0_1.out.lt
  have hf0_1 := fun j => HS0_1.out.frozen j
  obtain ⟨f1_1_0, f1_1_1, f1_1_2, f1_1_3, f1_1_4, f1_1_5⟩ := str6 HS1_1.out
  have hl1_1 := HS1_1.out.lt
  have hf1_1 := fun j => HS1_1.out.frozen j
  go_wp2_with fail
  have HF := Lib.hid hf
  clear hf
  refine (refFind_any A n c w.heap.size l xk _ ((H.out.more hB).below HB_1.out) HB_1.out.size (by omega) HD.out).mono ?_
  rintro e W2 ⟨Af, nf, cf, rfl, hyf, hb2⟩
  have HS0_2 := Lib.hid (HS0_1.out.next hb2)
  have HS1_2 := Lib.hid (HS1_1.out.next hb2)
  have HB_2 := Lib.hid (bstep HB_1.out hb2)
  have hw_2 := HB_2.out.size
  have hws_2 := (hb2).size
  clear f0_1_0 f0_1_1 f0_1_2 f0_1_3 f0_1_4 f0_1_5 HS0_1 hf0_1 f1_1_0 f1_1_1 f1_1_2 f1_1_3 f1_1_4 f1_1_5 HS1_1 hf1_1
  clear hb2
  obtain ⟨f0_2_0, f0_2_1, f0_2_2, f0_2_3, f0_2_4, f0_2_5⟩ := str6 HS0_2.out
  have hl0_2 := HS0_2.out.lt
  have hf0_2 := fun j => HS0_2.out.frozen j
  obtain ⟨f1_2_0, f1_2_1, f1_2_2, f1_2_3, f1_2_4, f1_2_5⟩ := str6 HS1_2.out
  have hl1_2 := HS1_2.out.lt
  have hf1_2 := fun j => HS1_2.out.frozen j
  rw [HF.out] at hyf
  dsimp only [Option.getD, CellP.none] at hyf
  have hnf := hyf.len
  have HYf_2 := Lib.hid (hyf)
  clear hyf
  rw [HF.out]
  dsimp only [Option.getD, Option.isSome]
  go_wp2_with fail
  generalize hW3 : W2.alloc (.cells #[.int .i64 2, .slice Af nf cf, .int .i64 clo, .int .i64 chi, .int .i64 cva] 37) = W3
  have HS0_3 : Hid (Str W3 (w.heap.size) #[.int .i64 5, .string xk, .slice Ax nx cx, .int .i64 xlo, .int .i64 xhi, .int .i64 xn]) := Lib.hid (by rw [← hW3]; exact HS0_2.out.alloc _)
  have HS1_3 : Hid (Str W3 (w.heap.size + 1) #[.int .i64 0, .int .i64 0, .slice none 0 0, .int .i64 0, .int .i64 0, .int .i64 0]) := Lib.hid (by rw [← hW3]; exact HS1_2.out.alloc _)
  have HS2_3 : Hid (Str W3 W2.heap.size #[.int .i64 2, .slice Af nf cf, .int .i64 clo, .int .i64 chi, .int .i64 cva]) := Lib.hid (by rw [← hW3]; exact Str.new W2 #[.int .i64 2, .slice Af nf cf, .int .i64 clo, .int .i64 chi, .int .i64 cva] 37)
  have hba3 : Below W2.heap.size W2 W3 := by rw [← hW3]; exact balloc (bsame _) _
  have HB_3 := Lib.hid (bstep HB_2.out hba3)
  have hw_3 := HB_3.out.size
  have hws_3 := hba3.size
  have HYf_3 := Lib.hid (HYf_2.out.next hba3)
  clear HYf_2
  clear hW3
  clear f0_2_0 f0_2_1 f0_2_2 f0_2_3 f0_2_4 f0_2_5 HS0_2 hf0_2 f1_2_0 f1_2_1 f1_2_2 f1_2_3 f1_2_4 f1_2_5 HS1_2 hf1_2
  obtain ⟨f0_3_0, f0_3_1, f0_3_2, f0_3_3, f0_3_4, f0_3_5⟩ := str6 HS0_3.out
  have hl0_3 := HS0_3.out.lt
  have hf0_3 := fun j => HS0_3.out.frozen j
  obtain ⟨f1_3_0, f1_3_1, f1_3_2, f1_3_3, f1_3_4, f1_3_5⟩ := str6 HS1_3.out
  have hl1_3 := HS1_3.out.lt
  have hf1_3 := fun j => HS1_3.out.frozen j
  obtain ⟨f2_3_0, f2_3_1, f2_3_2, f2_3_3, f2_3_4⟩ := str5 HS2_3.out
  have hl2_3 := HS2_3.out.lt
  refine (rmove5_high xk Ax nx cx xlo xhi xn Af nf cf clo chi cva _ hic1 hic2 hic3 hi3 (by omega) (by omega)).mono ?_
  rintro e W4 ⟨rfl, hb4⟩
  have HS0_4 := Lib.hid (HS0_3.out.next hb4)
  have HS1_4 := Lib.hid (HS1_3.out.next hb4)
  have HS2_4 := Lib.hid (HS2_3.out.next hb4)
  have HB_4 := Lib.hid (bstep HB_3.out hb4)
  have hw_4 := HB_4.out.size
  have hws_4 := (hb4).size
  have HYf_4 := Lib.hid (HYf_3.out.next hb4)
  clear HYf_3
  clear f0_3_0 f0_3_1 f0_3_2 f0_3_3 f0_3_4 f0_3_5 HS0_3 hf0_3 f1_3_0 f1_3_1 f1_3_2 f1_3_3 f1_3_4 f1_3_5 HS1_3 hf1_3 f2_3_0 f2_3_1 f2_3_2 f2_3_3 f2_3_4 HS2_3
  clear hb4
  obtain ⟨f0_4_0, f0_4_1, f0_4_2, f0_4_3, f0_4_4, f0_4_5⟩ := str6 HS0_4.out
  have hl0_4 := HS0_4.out.lt
  have hf0_4 := fun j => HS0_4.out.frozen j
  obtain ⟨f1_4_0, f1_4_1, f1_4_2, f1_4_3, f1_4_4, f1_4_5⟩ := str6 HS1_4.out
  have hl1_4 := HS1_4.out.lt
  have hf1_4 := fun j => HS1_4.out.frozen j
  obtain ⟨f2_4_0, f2_4_1, f2_4_2, f2_4_3, f2_4_4⟩ := str5 HS2_4.out
  have hl2_4 := HS2_4.out.lt
  go_wp2_with fail
  generalize hW5 : ((((((W4).setCell ⟨w.heap.size + 1, 0, none⟩ (.int .i64 8)).setCell ⟨w.heap.size + 1, 1, none⟩ (.int .i64 0)).setCell ⟨w.heap.size + 1, 2, none⟩ (.slice none 0 0)).setCell ⟨w.heap.size + 1, 3, none⟩ (.int .i64 0)).setCell ⟨w.heap.size + 1, 4, none⟩ (.int .i64 0)).setCell ⟨w.heap.size + 1, 5, none⟩ (.int .i64 0) = W5
  have HS0_5 : Hid (Str W5 (w.heap.size) #[.int .i64 5, .string xk, .slice Ax nx cx, .int .i64 xlo, .int .i64 xhi, .int .i64 xn]) := Lib.hid (by rw [← hW5]; exact ((((((HS0_4.out).other 0 _ (by omega)).other 1 _ (by omega)).other 2 _ (by omega)).other 3 _ (by omega)).other 4 _ (by omega)).other 5 _ (by omega))
  have HS1_5 : Hid (Str W5 (w.heap.size + 1) #[.int .i64 8, .int .i64 0, .slice none 0 0, .int .i64 0, .int .i64 0, .int .i64 0]) := Lib.hid (by rw [← hW5]; have := ((((((HS1_4.out).set 0 (.int .i64 8)).set 1 (.int .i64 0)).set 2 (.slice none 0 0)).set 3 (.int .i64 0)).set 4 (.int .i64 0)).set 5 (.int .i64 0); simpa using this)
  have HS2_5 : Hid (Str W5 (W2.heap.size) #[.int .i64 2, .slice Af nf cf, .int .i64 clo, .int .i64 chi, .int .i64 cva]) := Lib.hid (by rw [← hW5]; exact ((((((HS2_4.out).other 0 _ (by omega)).other 1 _ (by omega)).other 2 _ (by omega)).other 3 _ (by omega)).other 4 _ (by omega)).other 5 _ (by omega))
  have hgr5 : W4.grownBy W5 (some (w.heap.size + 1)) := by rw [← hW5]; exact grown_set (grown_set (grown_set (grown_set (grown_set (grown_set (grown_refl W4 (w.heap.size + 1)) 0 (.int .i64 8)) 1 (.int .i64 0)) 2 (.slice none 0 0)) 3 (.int .i64 0)) 4 (.int .i64 0)) 5 (.int .i64 0)
  have HB_5 := Lib.hid (below_grown HB_4.out hgr5 (by omega))
  have hw_5 := HB_5.out.size
  have hws_5 := hgr5.size
  have HYf_5 := Lib.hid ((Bytes.grown HYf_4.out (Nat.le_refl _) HS1_4.out rfl hgr5).more hws_5)
  clear HYf_4
  clear hW5
  clear f0_4_0 f0_4_1 f0_4_2 f0_4_3 f0_4_4 f0_4_5 HS0_4 hf0_4 f1_4_0 f1_4_1 f1_4_2 f1_4_3 f1_4_4 f1_4_5 HS1_4 hf1_4 f2_4_0 f2_4_1 f2_4_2 f2_4_3 f2_4_4 HS2_4
  clear hgr5
  obtain ⟨f0_5_0, f0_5_1, f0_5_2, f0_5_3, f0_5_4, f0_5_5⟩ := str6 HS0_5.out
  have hl0_5 := HS0_5.out.lt
  have hf0_5 := fun j => HS0_5.out.frozen j
  obtain ⟨f1_5_0, f1_5_1, f1_5_2, f1_5_3, f1_5_4, f1_5_5⟩ := str6 HS1_5.out
  have hl1_5 := HS1_5.out.lt
  have hf1_5 := fun j => HS1_5.out.frozen j
  obtain ⟨f2_5_0, f2_5_1, f2_5_2, f2_5_3, f2_5_4⟩ := str5 HS2_5.out
  have hl2_5 := HS2_5.out.lt
  generalize hW6 : W5.alloc (.cells #[.int .i64 2, .slice Af nf cf, .int .i64 clo, .int .i64 chi, .int .i64 cva] 37) = W6
  have HS0_6 : Hid (Str W6 (w.heap.size) #[.int .i64 5, .string xk, .slice Ax nx cx, .int .i64 xlo, .int .i64 xhi, .int .i64 xn]) := Lib.hid (by rw [← hW6]; exact HS0_5.out.alloc _)
  have HS1_6 : Hid (Str W6 (w.heap.size + 1) #[.int .i64 8, .int .i64 0, .slice none 0 0, .int .i64 0, .int .i64 0, .int .i64 0]) := Lib.hid (by rw [← hW6]; exact HS1_5.out.alloc _)
  have HS2_6 : Hid (Str W6 (W2.heap.size) #[.int .i64 2, .slice Af nf cf, .int .i64 clo, .int .i64 chi, .int .i64 cva]) := Lib.hid (by rw [← hW6]; exact HS2_5.out.alloc _)
  have HS3_6 : Hid (Str W6 W5.heap.size #[.int .i64 2, .slice Af nf cf, .int .i64 clo, .int .i64 chi, .int .i64 cva]) := Lib.hid (by rw [← hW6]; exact Str.new W5 #[.int .i64 2, .slice Af nf cf, .int .i64 clo, .int .i64 chi, .int .i64 cva] 37)
  have hba6 : Below W5.heap.size W5 W6 := by rw [← hW6]; exact balloc (bsame _) _
  have HB_6 := Lib.hid (bstep HB_5.out hba6)
  have hw_6 := HB_6.out.size
  have hws_6 := hba6.size
  have HYf_6 := Lib.hid (HYf_5.out.next hba6)
  clear HYf_5
  clear hW6
  clear f0_5_0 f0_5_1 f0_5_2 f0_5_3 f0_5_4 f0_5_5 HS0_5 hf0_5 f1_5_0 f1_5_1 f1_5_2 f1_5_3 f1_5_4 f1_5_5 HS1_5 hf1_5 f2_5_0 f2_5_1 f2_5_2 f2_5_3 f2_5_4 HS2_5
  obtain ⟨f0_6_0, f0_6_1, f0_6_2, f0_6_3, f0_6_4, f0_6_5⟩ := str6 HS0_6.out
  have hl0_6 := HS0_6.out.lt
  have hf0_6 := fun j => HS0_6.out.frozen j
  obtain ⟨f1_6_0, f1_6_1, f1_6_2, f1_6_3, f1_6_4, f1_6_5⟩ := str6 HS1_6.out
  have hl1_6 := HS1_6.out.lt
  have hf1_6 := fun j => HS1_6.out.frozen j
  obtain ⟨f2_6_0, f2_6_1, f2_6_2, f2_6_3, f2_6_4⟩ := str5 HS2_6.out
  have hl2_6 := HS2_6.out.lt
  obtain ⟨f3_6_0, f3_6_1, f3_6_2, f3_6_3, f3_6_4⟩ := str5 HS3_6.out
  have hl3_6 := HS3_6.out.lt
  exact bodyPost_ret (v := .tuple #[.slice A n c, .agg #[.int .i64 8, .int .i64 0, .slice none 0 0, .int .i64 0, .int .i64 0, .int .i64 0]]) (by simp [results, Try.results25, go_sem, *]) rfl ⟨A, n, c, none, 0, 0, rfl, ((H.out.below (HB_6.out.mono hB)).more (Nat.le_trans hB HB_6.out.size)), Bytes.none_ _ _, HB_6.out⟩
set_option maxRecDepth 100000 in
set_option maxHeartbeats 2000000 in
theorem rstep_move5_ok (A : Option Addr) (n c B : Nat) (l : List Pair) (xk : ByteArray) (xdata : List UInt8) (Ax : Option Addr) (nx cx Bx : Nat) (xlo xhi xn : Int) (w : World) (h : Pairs w B A n c l) (hB : B ≤ w.heap.size) (hs : Small l) (hx : Bytes w Bx Ax nx cx xdata) (hBx : Bx ≤ w.heap.size) (hxk : xk.size ≤ maxLen) (hi1 : In64 xlo) (hi2 : In64 xhi) (hi3 : In64 xn) (cda : List UInt8) (clo chi cva : Int) (hf : ModelP.find l xk = (some ⟨2, [], clo, chi, cva⟩)) (hg : ModelP.good ⟨5, xk, xdata, xlo, xhi, xn⟩ = true) (hic1 : In64 clo) (hic2 : In64 chi) (hic3 : In64 cva) (hl : ¬ (cva - xn) < clo) (ho : ¬ chi < (cva - xn)) :
    Calls Try.prog 25 #[.slice A n c, .agg #[.int .i64 5, .string xk, .slice Ax nx cx, .int .i64 xlo, .int .i64 xhi, .int .i64 xn]] w (GivesSA w ((ModelP.put l xk (some ⟨2, [], clo, chi, (cva - xn)⟩), ⟨0, CellP.none⟩))) := by
  have hlen := h.len
  have hn : n ≤ 1000 := by rw [← hlen]; exact hs.len
  have H := Lib.hid h
  have HD := Lib.hid hs.data
  have HX := Lib.hid hx
  have hlx := hx.len
  clear h hs hlen
  have HG : Hid (ModelP.good ⟨5, xk, xdata, xlo, xhi, xn⟩ = true) := Lib.hid hg
  clear hg hx
  go_enter Try.func25, Try.ntmps25
  go_wp2_with fail
  generalize hW0 : ((w).alloc (.cells #[.int .i64 5, .string xk, .slice Ax nx cx, .int .i64 xlo, .int .i64 xhi, .int .i64 xn] 24)).alloc (.cells #[.int .i64 0, .int .i64 0, .slice none 0 0, .int .i64 0, .int .i64 0, .int .i64 0] 39) = W0
  have HS0_0 : Hid (Str W0 (w.heap.size) #[.int .i64 5, .string xk, .slice Ax nx cx, .int .i64 xlo, .int .i64 xhi, .int .i64 xn]) := Lib.hid (by rw [← hW0]; have := (Str.new (w) #[.int .i64 5, .string xk, .slice Ax nx cx, .int .i64 xlo, .int .i64 xhi, .int .i64 xn] 24).alloc (.cells #[.int .i64 0, .int .i64 0, .slice none 0 0, .int .i64 0, .int .i64 0, .int .i64 0] 39); simpa using this)
  have HS1_0 : Hid (Str W0 (w.heap.size + 1) #[.int .i64 0, .int .i64 0, .slice none 0 0, .int .i64 0, .int .i64 0, .int .i64 0]) := Lib.hid (by rw [← hW0]; have := Str.new ((w).alloc (.cells #[.int .i64 5, .string xk, .slice Ax nx cx, .int .i64 xlo, .int .i64 xhi, .int .i64 xn] 24)) #[.int .i64 0, .int .i64 0, .slice none 0 0, .int .i64 0, .int .i64 0, .int .i64 0] 39; simpa using this)
  have HB_0 : Hid (Below w.heap.size w W0) := Lib.hid (by rw [← hW0]; exact balloc (balloc (bsame w) _) _)
  have hw_0 := HB_0.out.size
  clear hW0
  obtain ⟨f0_0_0, f0_0_1, f0_0_2, f0_0_3, f0_0_4, f0_0_5⟩ := str6 HS0_0.out
  have hl0_0 := HS0_0.out.lt
  have hf0_0 := fun j => HS0_0.out.frozen j
  obtain ⟨f1_0_0, f1_0_1, f1_0_2, f1_0_3, f1_0_4, f1_0_5⟩ := str6 HS1_0.out
  have hl1_0 := HS1_0.out.lt
  have hf1_0 := fun j => HS1_0.out.frozen j
  refine (good_any ⟨5, xk, xdata, xlo, xhi, xn⟩ Ax nx cx _ hxk hlx).mono ?_
  rintro e W1 ⟨rfl, hb1⟩
  rw [HG.out]
  have HS0_1 := Lib.hid (HS0_0.out.next hb1)
  have HS1_1 := Lib.hid (HS1_0.out.next hb1)
  have HB_1 := Lib.hid (bstep HB_0.out hb1)
  have hw_1 := HB_1.out.size
  have hws_1 := (hb1).size
  clear f0_0_0 f0_0_1 f0_0_2 f0_0_3 f0_0_4 f0_0_5 HS0_0 hf0_0 f1_0_0 f1_0_1 f1_0_2 f1_0_3 f1_0_4 f1_0_5 HS1_0 hf1_0
  clear hb1
  obtain ⟨f0_1_0, f0_1_1, f0_1_2, f0_1_3, f0_1_4, f0_1_5⟩ := str6 HS0_1.out
  have hl0_1 := HS0_1.out.lt
  have hf0_1 := fun j => HS0_1.out.frozen j
  obtain ⟨f1_1_0, f1_1_1, f1_1_2, f1_1_3, f1_1_4, f1_1_5⟩ := str6 HS1_1.out
  have hl1_1 := HS1_1.out.lt
  have hf1_1 := fun j => HS1_1.out.frozen j
  go_wp2_with fail
  have HF := Lib.hid hf
  clear hf
  refine (refFind_any A n c w.heap.size l xk _ ((H.out.more hB).below HB_1.out) HB_1.out.size (by omega) HD.out).mono ?_
  rintro e W2 ⟨Af, nf, cf, rfl, hyf, hb2⟩
  have HS0_2 := Lib.hid (HS0_1.out.next hb2)
  have HS1_2 := Lib.hid (HS1_1.out.next hb2)
  have HB_2 := Lib.hid (bstep HB_1.out hb2)
  have hw_2 := HB_2.out.size
  have hws_2 := (hb2).size
  clear f0_1_0 f0_1_1 f0_1_2 f0_1_3 f0_1_4 f0_1_5 HS0_1 hf0_1 f1_1_0 f1_1_1 f1_1_2 f1_1_3 f1_1_4 f1_1_5 HS1_1 hf1_1
  clear hb2
  obtain ⟨f0_2_0, f0_2_1, f0_2_2, f0_2_3, f0_2_4, f0_2_5⟩ := str6 HS0_2.out
  have hl0_2 := HS0_2.out.lt
  have hf0_2 := fun j => HS0_2.out.frozen j
  obtain ⟨f1_2_0, f1_2_1, f1_2_2, f1_2_3, f1_2_4, f1_2_5⟩ := str6 HS1_2.out
  have hl1_2 := HS1_2.out.lt
  have hf1_2 := fun j => HS1_2.out.frozen j
  rw [HF.out] at hyf
  dsimp only [Option.getD, CellP.none] at hyf
  have hnf := hyf.len
  have HYf_2 := Lib.hid (hyf)
  clear hyf
  rw [HF.out]
  dsimp only [Option.getD, Option.isSome]
  go_wp2_with fail
  generalize hW3 : W2.alloc (.cells #[.int .i64 2, .slice Af nf cf, .int .i64 clo, .int .i64 chi, .int .i64 cva] 37) = W3
  have HS0_3 : Hid (Str W3 (w.heap.size) #[.int .i64 5, .string xk, .slice Ax nx cx, .int .i64 xlo, .int .i64 xhi, .int .i64 xn]) := Lib.hid (by rw [← hW3]; exact HS0_2.out.alloc _)
  have HS1_3 : Hid (Str W3 (w.heap.size + 1) #[.int .i64 0, .int .i64 0, .slice none 0 0, .int .i64 0, .int .i64 0, .int .i64 0]) := Lib.hid (by rw [← hW3]; exact HS1_2.out.alloc _)
  have HS2_3 : Hid (Str W3 W2.heap.size #[.int .i64 2, .slice Af nf cf, .int .i64 clo, .int .i64 chi, .int .i64 cva]) := Lib.hid (by rw [← hW3]; exact Str.new W2 #[.int .i64 2, .slice Af nf cf, .int .i64 clo, .int .i64 chi, .int .i64 cva] 37)
  have hba3 : Below W2.heap.size W2 W3 := by rw [← hW3]; exact balloc (bsame _) _
  have HB_3 := Lib.hid (bstep HB_2.out hba3)
  have hw_3 := HB_3.out.size
  have hws_3 := hba3.size
  have HYf_3 := Lib.hid (HYf_2.out.next hba3)
  clear HYf_2
  clear hW3
  clear f0_2_0 f0_2_1 f0_2_2 f0_2_3 f0_2_4 f0_2_5 HS0_2 hf0_2 f1_2_0 f1_2_1 f1_2_2 f1_2_3 f1_2_4 f1_2_5 HS1_2 hf1_2
  obtain ⟨f0_3_0, f0_3_1, f0_3_2, f0_3_3, f0_3_4, f0_3_5⟩ := str6 HS0_3.out
  have hl0_3 := HS0_3.out.lt
  have hf0_3 := fun j => HS0_3.out.frozen j
  obtain ⟨f1_3_0, f1_3_1, f1_3_2, f1_3_3, f1_3_4, f1_3_5⟩ := str6 HS1_3.out
  have hl1_3 := HS1_3.out.lt
  have hf1_3 := fun j => HS1_3.out.frozen j
  obtain ⟨f2_3_0, f2_3_1, f2_3_2, f2_3_3, f2_3_4⟩ := str5 HS2_3.out
  have hl2_3 := HS2_3.out.lt
  refine (rmove5_ok xk Ax nx cx xlo xhi xn Af nf cf clo chi cva _ hic1 hic2 hic3 hi3 (by omega) (by omega)).mono ?_
  rintro e W4 ⟨rfl, hb4⟩
  have HS0_4 := Lib.hid (HS0_3.out.next hb4)
  have HS1_4 := Lib.hid (HS1_3.out.next hb4)
  have HS2_4 := Lib.hid (HS2_3.out.next hb4)
  have HB_4 := Lib.hid (bstep HB_3.out hb4)
  have hw_4 := HB_4.out.size
  have hws_4 := (hb4).size
  have HYf_4 := Lib.hid (HYf_3.out.next hb4)
  clear HYf_3
  clear f0_3_0 f0_3_1 f0_3_2 f0_3_3 f0_3_4 f0_3_5 HS0_3 hf0_3 f1_3_0 f1_3_1 f1_3_2 f1_3_3 f1_3_4 f1_3_5 HS1_3 hf1_3 f2_3_0 f2_3_1 f2_3_2 f2_3_3 f2_3_4 HS2_3
  clear hb4
  obtain ⟨f0_4_0, f0_4_1, f0_4_2, f0_4_3, f0_4_4, f0_4_5⟩ := str6 HS0_4.out
  have hl0_4 := HS0_4.out.lt
  have hf0_4 := fun j => HS0_4.out.frozen j
  obtain ⟨f1_4_0, f1_4_1, f1_4_2, f1_4_3, f1_4_4, f1_4_5⟩ := str6 HS1_4.out
  have hl1_4 := HS1_4.out.lt
  have hf1_4 := fun j => HS1_4.out.frozen j
  obtain ⟨f2_4_0, f2_4_1, f2_4_2, f2_4_3, f2_4_4⟩ := str5 HS2_4.out
  have hl2_4 := HS2_4.out.lt
  go_wp2_with fail
  generalize hW5 : W4.alloc (.cells #[.int .i64 2, .slice Af nf cf, .int .i64 clo, .int .i64 chi, .int .i64 (cva - xn)] 37) = W5
  have HS0_5 : Hid (Str W5 (w.heap.size) #[.int .i64 5, .string xk, .slice Ax nx cx, .int .i64 xlo, .int .i64 xhi, .int .i64 xn]) := Lib.hid (by rw [← hW5]; exact HS0_4.out.alloc _)
  have HS1_5 : Hid (Str W5 (w.heap.size + 1) #[.int .i64 0, .int .i64 0, .slice none 0 0, .int .i64 0, .int .i64 0, .int .i64 0]) := Lib.hid (by rw [← hW5]; exact HS1_4.out.alloc _)
  have HS2_5 : Hid (Str W5 (W2.heap.size) #[.int .i64 2, .slice Af nf cf, .int .i64 clo, .int .i64 chi, .int .i64 cva]) := Lib.hid (by rw [← hW5]; exact HS2_4.out.alloc _)
  have HS3_5 : Hid (Str W5 W4.heap.size #[.int .i64 2, .slice Af nf cf, .int .i64 clo, .int .i64 chi, .int .i64 (cva - xn)]) := Lib.hid (by rw [← hW5]; exact Str.new W4 #[.int .i64 2, .slice Af nf cf, .int .i64 clo, .int .i64 chi, .int .i64 (cva - xn)] 37)
  have hba5 : Below W4.heap.size W4 W5 := by rw [← hW5]; exact balloc (bsame _) _
  have HB_5 := Lib.hid (bstep HB_4.out hba5)
  have hw_5 := HB_5.out.size
  have hws_5 := hba5.size
  have HYf_5 := Lib.hid (HYf_4.out.next hba5)
  clear HYf_4
  clear hW5
  clear f0_4_0 f0_4_1 f0_4_2 f0_4_3 f0_4_4 f0_4_5 HS0_4 hf0_4 f1_4_0 f1_4_1 f1_4_2 f1_4_3 f1_4_4 f1_4_5 HS1_4 hf1_4 f2_4_0 f2_4_1 f2_4_2 f2_4_3 f2_4_4 HS2_4
  obtain ⟨f0_5_0, f0_5_1, f0_5_2, f0_5_3, f0_5_4, f0_5_5⟩ := str6 HS0_5.out
  have hl0_5 := HS0_5.out.lt
  have hf0_5 := fun j => HS0_5.out.frozen j
  obtain ⟨f1_5_0, f1_5_1, f1_5_2, f1_5_3, f1_5_4, f1_5_5⟩ := str6 HS1_5.out
  have hl1_5 := HS1_5.out.lt
  have hf1_5 := fun j => HS1_5.out.frozen j
  obtain ⟨f2_5_0, f2_5_1, f2_5_2, f2_5_3, f2_5_4⟩ := str5 HS2_5.out
  have hl2_5 := HS2_5.out.lt
  obtain ⟨f3_5_0, f3_5_1, f3_5_2, f3_5_3, f3_5_4⟩ := str5 HS3_5.out
  have hl3_5 := HS3_5.out.lt
  refine (putSome A n c w.heap.size l xk 2 [] clo chi (cva - xn) Af nf cf W5.heap.size _ ((H.out.more hB).below HB_5.out) HB_5.out.size hn HYf_5.out (Nat.le_refl _) hxk ⟨by unfold In64; omega, hic1, hic2, by unfold In64 at *; omega⟩ (by decide)).mono ?_
  rintro e W6 ⟨A', n', c', rfl, hp', hb6⟩
  have HS0_6 := Lib.hid (HS0_5.out.next hb6)
  have HS1_6 := Lib.hid (HS1_5.out.next hb6)
  have HS2_6 := Lib.hid (HS2_5.out.next hb6)
  have HS3_6 := Lib.hid (HS3_5.out.next hb6)
  have HB_6 := Lib.hid (bstep HB_5.out hb6)
  have hw_6 := HB_6.out.size
  have hws_6 := (hb6).size
  have HYf_6 := Lib.hid (HYf_5.out.next hb6)
  clear HYf_5
  clear f0_5_0 f0_5_1 f0_5_2 f0_5_3 f0_5_4 f0_5_5 HS0_5 hf0_5 f1_5_0 f1_5_1 f1_5_2 f1_5_3 f1_5_4 f1_5_5 HS1_5 hf1_5 f2_5_0 f2_5_1 f2_5_2 f2_5_3 f2_5_4 HS2_5 f3_5_0 f3_5_1 f3_5_2 f3_5_3 f3_5_4 HS3_5
  clear hb6
  obtain ⟨f0_6_0, f0_6_1, f0_6_2, f0_6_3, f0_6_4, f0_6_5⟩ := str6 HS0_6.out
  have hl0_6 := HS0_6.out.lt
  have hf0_6 := fun j => HS0_6.out.frozen j
  obtain ⟨f1_6_0, f1_6_1, f1_6_2, f1_6_3, f1_6_4, f1_6_5⟩ := str6 HS1_6.out
  have hl1_6 := HS1_6.out.lt
  have hf1_6 := fun j => HS1_6.out.frozen j
  obtain ⟨f2_6_0, f2_6_1, f2_6_2, f2_6_3, f2_6_4⟩ := str5 HS2_6.out
  have hl2_6 := HS2_6.out.lt
  obtain ⟨f3_6_0, f3_6_1, f3_6_2, f3_6_3, f3_6_4⟩ := str5 HS3_6.out
  have hl3_6 := HS3_6.out.lt
  have HPs_6 := Lib.hid hp'
  clear hp'
  go_wp2_with fail
  generalize hW7 : ((((((W6).setCell ⟨w.heap.size + 1, 0, none⟩ (.int .i64 0)).setCell ⟨w.heap.size + 1, 1, none⟩ (.int .i64 0)).setCell ⟨w.heap.size + 1, 2, none⟩ (.slice none 0 0)).setCell ⟨w.heap.size + 1, 3, none⟩ (.int .i64 0)).setCell ⟨w.heap.size + 1, 4, none⟩ (.int .i64 0)).setCell ⟨w.heap.size + 1, 5, none⟩ (.int .i64 0) = W7
  have HS0_7 : Hid (Str W7 (w.heap.size) #[.int .i64 5, .string xk, .slice Ax nx cx, .int .i64 xlo, .int .i64 xhi, .int .i64 xn]) := Lib.hid (by rw [← hW7]; exact ((((((HS0_6.out).other 0 _ (by omega)).other 1 _ (by omega)).other 2 _ (by omega)).other 3 _ (by omega)).other 4 _ (by omega)).other 5 _ (by omega))
  have HS1_7 : Hid (Str W7 (w.heap.size + 1) #[.int .i64 0, .int .i64 0, .slice none 0 0, .int .i64 0, .int .i64 0, .int .i64 0]) := Lib.hid (by rw [← hW7]; have := ((((((HS1_6.out).set 0 (.int .i64 0)).set 1 (.int .i64 0)).set 2 (.slice none 0 0)).set 3 (.int .i64 0)).set 4 (.int .i64 0)).set 5 (.int .i64 0); simpa using this)
  have HS2_7 : Hid (Str W7 (W2.heap.size) #[.int .i64 2, .slice Af nf cf, .int .i64 clo, .int .i64 chi, .int .i64 cva]) := Lib.hid (by rw [← hW7]; exact ((((((HS2_6.out).other 0 _ (by omega)).other 1 _ (by omega)).other 2 _ (by omega)).other 3 _ (by omega)).other 4 _ (by omega)).other 5 _ (by omega))
  have HS3_7 : Hid (Str W7 (W4.heap.size) #[.int .i64 2, .slice Af nf cf, .int .i64 clo, .int .i64 chi, .int .i64 (cva - xn)]) := Lib.hid (by rw [← hW7]; exact ((((((HS3_6.out).other 0 _ (by omega)).other 1 _ (by omega)).other 2 _ (by omega)).other 3 _ (by omega)).other 4 _ (by omega)).other 5 _ (by omega))
  have hgr7 : W6.grownBy W7 (some (w.heap.size + 1)) := by rw [← hW7]; exact grown_set (grown_set (grown_set (grown_set (grown_set (grown_set (grown_refl W6 (w.heap.size + 1)) 0 (.int .i64 0)) 1 (.int .i64 0)) 2 (.slice none 0 0)) 3 (.int .i64 0)) 4 (.int .i64 0)) 5 (.int .i64 0)
  have HB_7 := Lib.hid (below_grown HB_6.out hgr7 (by omega))
  have hw_7 := HB_7.out.size
  have hws_7 := hgr7.size
  have HYf_7 := Lib.hid ((Bytes.grown HYf_6.out (Nat.le_refl _) HS1_6.out rfl hgr7).more hws_7)
  clear HYf_6
  have HPz : Hid (Pairs W7 W7.heap.size A' n' c' _) := Lib.hid (Pairs.grown HPs_6.out HS1_6.out rfl rfl hgr7)
  clear hW7
  clear f0_6_0 f0_6_1 f0_6_2 f0_6_3 f0_6_4 f0_6_5 HS0_6 hf0_6 f1_6_0 f1_6_1 f1_6_2 f1_6_3 f1_6_4 f1_6_5 HS1_6 hf1_6 f2_6_0 f2_6_1 f2_6_2 f2_6_3 f2_6_4 HS2_6 f3_6_0 f3_6_1 f3_6_2 f3_6_3 f3_6_4 HS3_6
  clear hgr7
  obtain ⟨f0_7_0, f0_7_1, f0_7_2, f0_7_3, f0_7_4, f0_7_5⟩ := str6 HS0_7.out
  have hl0_7 := HS0_7.out.lt
  have hf0_7 := fun j => HS0_7.out.frozen j
  obtain ⟨f1_7_0, f1_7_1, f1_7_2, f1_7_3, f1_7_4, f1_7_5⟩ := str6 HS1_7.out
  have hl1_7 := HS1_7.out.lt
  have hf1_7 := fun j => HS1_7.out.frozen j
  obtain ⟨f2_7_0, f2_7_1, f2_7_2, f2_7_3, f2_7_4⟩ := str5 HS2_7.out
  have hl2_7 := HS2_7.out.lt
  obtain ⟨f3_7_0, f3_7_1, f3_7_2, f3_7_3, f3_7_4⟩ := str5 HS3_7.out
  have hl3_7 := HS3_7.out.lt
  exact bodyPost_ret (v := .tuple #[.slice A' n' c', .agg #[.int .i64 0, .int .i64 0, .slice none 0 0, .int .i64 0, .int .i64 0, .int .i64 0]]) (by simp [results, Try.results25, go_sem, *]) rfl ⟨A', n', c', none, 0, 0, rfl, HPz.out, Bytes.none_ _ _, HB_7.out⟩
/-- ref09.Step -/
theorem RStep_any (A : Option Addr) (n c B : Nat) (l : List Pair) (xk : ByteArray) (xdata : List UInt8) (Ax : Option Addr) (nx cx Bx : Nat) (xlo xhi xn : Int) (w : World) (h : Pairs w B A n c l) (hB : B ≤ w.heap.size) (hs : Small l) (hx : Bytes w Bx Ax nx cx xdata) (hBx : Bx ≤ w.heap.size) (hxk : xk.size ≤ maxLen) (hi1 : In64 xlo) (hi2 : In64 xhi) (hi3 : In64 xn) (hR : ModelP.Right l) (act : Int) :
    Calls Try.prog 25 #[.slice A n c, .agg #[.int .i64 act, .string xk, .slice Ax nx cx, .int .i64 xlo, .int .i64 xhi, .int .i64 xn]] w (GivesSA w (ModelP.step l ⟨act, xk, xdata, xlo, xhi, xn⟩)) := by
  by_cases hg : ModelP.good ⟨act, xk, xdata, xlo, xhi, xn⟩ = true
  case neg =>
    have hg : ModelP.good ⟨act, xk, xdata, xlo, xhi, xn⟩ = false := by simpa using hg
    have e : ModelP.step l ⟨act, xk, xdata, xlo, xhi, xn⟩ = (l, ⟨1, CellP.none⟩) := by unfold ModelP.step; rw [if_pos hg]
    rw [e]
    exact rstep_bad A n c B l act xk xdata Ax nx cx Bx xlo xhi xn w h hB hs hx hBx hxk hi1 hi2 hi3 hg
  have hact : 0 ≤ act ∧ act ≤ 5 := by
    unfold ModelP.good at hg
    simp only [Bool.and_eq_true, decide_eq_true_eq] at hg
    exact hg.1
  have hcase : act = 0 ∨ act = 1 ∨ act = 2 ∨ act = 3 ∨ act = 4 ∨ act = 5 := by omega
  clear hact
  cases hf : ModelP.find l xk with
  | none =>
    rcases hcase with rfl | rfl | rfl | rfl | rfl | rfl
    · rw [step_err (e := 5) hg hf (by simp [ModelP.rule]) (by decide)]
      exact rstep_none A n c B l 0 xk xdata Ax nx cx Bx xlo xhi xn w h hB hs hx hBx hxk hi1 hi2 hi3 hf hg (by decide) (by decide)
    · rw [step_ok hg hf (th := some ⟨1, xdata, 0, 0, 0⟩) (told := CellP.none) (by simp [ModelP.rule, CellP.none])]
      exact rstep_write_none A n c B l xk xdata Ax nx cx Bx xlo xhi xn w h hB hs hx hBx hxk hi1 hi2 hi3 hf hg
    · rw [step_ok hg hf (th := some ⟨2, [], xlo, xhi, xn⟩) (told := CellP.none) (by simp [ModelP.rule])]
      exact rstep_create_none A n c B l xk xdata Ax nx cx Bx xlo xhi xn w h hB hs hx hBx hxk hi1 hi2 hi3 hf hg
    · rw [step_err (e := 5) hg hf (by simp [ModelP.rule]) (by decide)]
      exact rstep_none A n c B l 3 xk xdata Ax nx cx Bx xlo xhi xn w h hB hs hx hBx hxk hi1 hi2 hi3 hf hg (by decide) (by decide)
    · rw [step_err (e := 5) hg hf (by simp [ModelP.rule]) (by decide)]
      exact rstep_none A n c B l 4 xk xdata Ax nx cx Bx xlo xhi xn w h hB hs hx hBx hxk hi1 hi2 hi3 hf hg (by decide) (by decide)
    · rw [step_err (e := 5) hg hf (by simp [ModelP.rule]) (by decide)]
      exact rstep_none A n c B l 5 xk xdata Ax nx cx Bx xlo xhi xn w h hB hs hx hBx hxk hi1 hi2 hi3 hf hg (by decide) (by decide)
  | some c0 =>
    have hcr := ModelP.find_right xk hR c0 hf
    obtain ⟨ckd, cda, clo, chi, cva⟩ := c0
    have hci : ModelP.CellIn ⟨ckd, cda, clo, chi, cva⟩ := by
      rw [ModelP.find_eq xk l hR.2] at hf
      split at hf
      · obtain ⟨p, hp, e⟩ := Option.map_eq_some_iff.1 hf
        have hk : ModelP.at_ l xk < n := by rw [← h.len]; exact (List.getElem?_eq_some_iff.1 hp).1
        obtain ⟨_, _, q, _, _, _, _, _, hq, _, _, j1, j2, j3, j4, _⟩ := pair_at h hk
        rw [hp] at hq
        cases hq
        rw [← e]
        exact ⟨j1, j2, j3, j4⟩
      · cases hf
    rcases hcase with rfl | rfl | rfl | rfl | rfl | rfl
    · rw [step_ok hg hf (th := some ⟨ckd, cda, clo, chi, cva⟩) (told := ⟨ckd, cda, clo, chi, cva⟩) (by simp [ModelP.rule]), ModelP.put_same l xk hR.2 _ hf]
      exact rstep_read_some A n c B l xk xdata Ax nx cx Bx xlo xhi xn w h hB hs hx hBx hxk hi1 hi2 hi3 ckd cda clo chi cva hf hg
    · by_cases hk : ckd = 2
      · subst hk
        rw [step_err (e := 6) hg hf (by simp [ModelP.rule]) (by decide)]
        exact rstep_write_kind A n c B l xk xdata Ax nx cx Bx xlo xhi xn w h hB hs hx hBx hxk hi1 hi2 hi3 cda clo chi cva hf hg
      · rw [step_ok hg hf (th := some ⟨1, xdata, 0, 0, 0⟩) (told := CellP.none) (by simp [ModelP.rule, hk])]
        exact rstep_write_some A n c B l xk xdata Ax nx cx Bx xlo xhi xn w h hB hs hx hBx hxk hi1 hi2 hi3 ckd cda clo chi cva hf hg hk
    · rw [step_err (e := 7) hg hf (by simp [ModelP.rule]) (by decide)]
      exact rstep_create_has A n c B l xk xdata Ax nx cx Bx xlo xhi xn w h hB hs hx hBx hxk hi1 hi2 hi3 ckd cda clo chi cva hf hg
    · rw [step_ok hg hf (th := none) (told := CellP.none) (by simp [ModelP.rule])]
      exact rstep_drop_some A n c B l xk xdata Ax nx cx Bx xlo xhi xn w h hB hs hx hBx hxk hi1 hi2 hi3 ckd cda clo chi cva hf hg
    · by_cases hk : ckd = 2
      · subst hk
        have hd0 : cda = [] := by simp [CellP.right] at hcr; exact hcr.1
        subst hd0
        obtain ⟨-, j2, j3, j4⟩ := hci
        by_cases hlow : cva + xn < clo
        · rw [step_err (e := 8) hg hf (by simp [ModelP.rule, hlow]) (by decide)]
          exact rstep_move4_low A n c B l xk xdata Ax nx cx Bx xlo xhi xn w h hB hs hx hBx hxk hi1 hi2 hi3 [] clo chi cva hf hg j2 j3 j4 hlow
        · by_cases hhi : chi < cva + xn
          · rw [step_err (e := 8) hg hf (by simp [ModelP.rule, hhi]) (by decide)]
            exact rstep_move4_high A n c B l xk xdata Ax nx cx Bx xlo xhi xn w h hB hs hx hBx hxk hi1 hi2 hi3 [] clo chi cva hf hg j2 j3 j4 hlow hhi
          · rw [step_ok hg hf (th := some ⟨2, [], clo, chi, cva + xn⟩) (told := CellP.none) (by simp [ModelP.rule, hlow, hhi])]
            exact rstep_move4_ok A n c B l xk xdata Ax nx cx Bx xlo xhi xn w h hB hs hx hBx hxk hi1 hi2 hi3 [] clo chi cva hf hg j2 j3 j4 hlow hhi
      · rw [step_err (e := 6) hg hf (by simp [ModelP.rule, hk]) (by decide)]
        exact rstep_move4_kind A n c B l xk xdata Ax nx cx Bx xlo xhi xn w h hB hs hx hBx hxk hi1 hi2 hi3 ckd cda clo chi cva hf hg hk
    · by_cases hk : ckd = 2
      · subst hk
        have hd0 : cda = [] := by simp [CellP.right] at hcr; exact hcr.1
        subst hd0
        obtain ⟨-, j2, j3, j4⟩ := hci
        by_cases hlow : cva - xn < clo
        · rw [step_err (e := 8) hg hf (by simp [ModelP.rule, hlow]) (by decide)]
          exact rstep_move5_low A n c B l xk xdata Ax nx cx Bx xlo xhi xn w h hB hs hx hBx hxk hi1 hi2 hi3 [] clo chi cva hf hg j2 j3 j4 hlow
        · by_cases hhi : chi < cva - xn
          · rw [step_err (e := 8) hg hf (by simp [ModelP.rule, hhi]) (by decide)]
            exact rstep_move5_high A n c B l xk xdata Ax nx cx Bx xlo xhi xn w h hB hs hx hBx hxk hi1 hi2 hi3 [] clo chi cva hf hg j2 j3 j4 hlow hhi
          · rw [step_ok hg hf (th := some ⟨2, [], clo, chi, cva - xn⟩) (told := CellP.none) (by simp [ModelP.rule, hlow, hhi])]
            exact rstep_move5_ok A n c B l xk xdata Ax nx cx Bx xlo xhi xn w h hB hs hx hBx hxk hi1 hi2 hi3 [] clo chi cva hf hg j2 j3 j4 hlow hhi
      · rw [step_err (e := 6) hg hf (by simp [ModelP.rule, hk]) (by decide)]
        exact rstep_move5_kind A n c B l xk xdata Ax nx cx Bx xlo xhi xn w h hB hs hx hBx hxk hi1 hi2 hi3 ckd cda clo chi cva hf hg hk
end Go.Proofs.Ytghgccgpgonlmaa.ModelW
namespace Go.Proofs.Ytghgccgpgonlmaa
open Go.RowKit
set_option linter.unusedVariables false
namespace ModelP
theorem muchS_no {l : List Pair} (h : muchS l = false) : l.length ≤ 60 ∧ ∀ p ∈ l, p.key.size ≤ 300 ∧ p.cell.data.length ≤ 300 := by
  unfold muchS at h
  simp only [Bool.or_eq_false_iff, decide_eq_false_iff_not, List.any_eq_false] at h
  refine ⟨by omega, fun p hp => ?_⟩
  have := h.1 p (by rw [List.take_of_length_le (by omega)]; exact hp)
  unfold muchP at this
  simp at this
  omega
theorem muchL_no {l : List OpX} (h : muchL l = false) : l.length ≤ 60 ∧ ∀ p ∈ l, p.key.size ≤ 300 ∧ p.data.length ≤ 300 := by
  unfold muchL at h
  simp only [Bool.or_eq_false_iff, decide_eq_false_iff_not, List.any_eq_false] at h
  refine ⟨by omega, fun p hp => ?_⟩
  have := h.1 p (by rw [List.take_of_length_le (by omega)]; exact hp)
  unfold muchO at this
  simp at this
  omega
theorem same_self' (x : OpX) : same x x = true := by simp [same]
end ModelP
theorem small_of {l : List Pair} (h : ModelP.muchS l = false) : ModelW.Small l := by
  obtain ⟨h1, h2⟩ := ModelP.muchS_no h
  exact ⟨by omega, fun p hp => by have := (h2 p hp).2; omega⟩
/-- an operation typed out -/
theorem op_lit {w : World} {b n c B : Nat} {A : Option Addr} {x : OpX} (hs : Str w b (opV x A n c).toArray) (hy : Bytes w B A n c x.data) (hB : B ≤ w.heap.size) (hk : x.key.size ≤ maxLen) (hin : In64 x.act ∧ In64 x.lo ∧ In64 x.hi ∧ In64 x.n) : OpsL w w.heap.size (some ⟨b, 0, none⟩) 1 1 [x] := by
  refine ⟨[opV x A n c], ⟨⟨A, n, c, rfl, hy.more hB, hk, hin.1, hin.2.1, hin.2.2.1, hin.2.2.2⟩, trivial⟩, rfl, Nat.le_refl _, by unfold maxLen; omega, fun _ => ⟨b, 0, rfl, hs.lt, fun j v hv => ?_⟩⟩
  rw [List.flatten_singleton] at hv
  rw [hs.cell, Nat.zero_add]
  simpa using hv
namespace Reg
/-- an operation -/
def opS (x : OpX) : SP ext := ⟨fun v w => ∃ A n c, v = .agg (opV x A n c).toArray ∧ Bytes w w.heap.size A n c x.data, fun _ _ _ hb ⟨A, n, c, e, h⟩ => ⟨A, n, c, e, h.next hb⟩⟩
end Reg
end Go.Proofs.Ytghgccgpgonlmaa
namespace Go.Proofs.Ytghgccgpgonlmaa.Live09
open Go.RowKit ModelW
set_option linter.unusedVariables false
theorem code_any (n : Int) (w : World) : Calls Try.prog 14 #[.int .i64 n] w fun e w' => e = .returned (.int .i64 n) ∧ w = w' := by
  go_enter Try.func14, Try.ntmps14
  go_wp2
  go_ret
  exact ⟨rfl, rfl⟩
def x1 : OpX := ⟨2, ⟨#[97]⟩, [], 0, 5, 3⟩
def x2 : OpX := ⟨4, ⟨#[97]⟩, [], 0, 0, 3⟩
def s1 : List Pair := [⟨⟨#[97]⟩, ⟨2, [], 0, 5, 3⟩⟩]
theorem step1 : ModelP.step [] ⟨2, ⟨#[97]⟩, [], 0, 5, 3⟩ = (s1, ⟨0, CellP.none⟩) := by
  rw [step_ok (x := ⟨2, ⟨#[97]⟩, [], 0, 5, 3⟩) (t := none) (th := some ⟨2, [], 0, 5, 3⟩) (told := CellP.none) (by decide +kernel) rfl (by simp [ModelP.rule])]
  rfl
theorem step2 : ModelP.step s1 ⟨4, ⟨#[97]⟩, [], 0, 0, 3⟩ = (s1, ⟨8, CellP.none⟩) :=
  step_err (x := ⟨4, ⟨#[97]⟩, [], 0, 0, 3⟩) (t := some ⟨2, [], 0, 5, 3⟩) (by decide +kernel) (by simp [s1, ModelP.find]) (by simp [ModelP.rule]) (by decide)
set_option maxRecDepth 100000 in
set_option maxHeartbeats 1000000 in
theorem live_any (w : World) : Calls Try.prog 13 #[] w fun e w' => e = .returned (.bool true) ∧ Below w.heap.size w w' := by
  have HS1 := Lib.hid step1
  have HS2 := Lib.hid step2
  have hr1 : ModelP.Rises s1 := List.pairwise_singleton _ _
  have HSM : Hid (Small s1) := Lib.hid ⟨by decide, by intro p hp; simp only [s1, List.mem_cons, List.not_mem_nil, or_false] at hp; subst hp; decide⟩
  have HR1 := Lib.hid hr1
  clear hr1
  go_enter Try.func13, Try.ntmps13
  go_wp2_with fail
  refine (Step_any none 0 0 0 [] 2 ⟨#[97]⟩ [] none 0 0 0 0 5 3 w (Elems.none_ _ _ _) (Nat.zero_le _) List.Pairwise.nil ⟨by decide, by intro p hp; cases hp⟩ (Bytes.none_ _ _) (Nat.zero_le _) (by decide) (by unfold In64; omega) (by unfold In64; omega) (by unfold In64; omega) (by omega)).mono ?_
  rw [HS1.out]
  rintro e W1 ⟨A1, n1, c1, Aa, na, ca, rfl, hP1, hy1, hb1⟩
  have hn1 : n1 = 1 := hP1.len.symm
  subst hn1
  have hna : na = 0 := hy1.len.symm
  subst hna
  have HP1 := Lib.hid hP1
  have HB1 := Lib.hid hb1
  clear hP1 hb1 hy1
  simp only [ansV, CellP.none]
  go_wp2_with fail
  generalize hW2 : W1.alloc (.cells #[.int .i64 0, .int .i64 0, .slice Aa 0 ca, .int .i64 0, .int .i64 0, .int .i64 0] 39) = W2
  have HS_2 : Hid (Str W2 W1.heap.size #[.int .i64 0, .int .i64 0, .slice Aa 0 ca, .int .i64 0, .int .i64 0, .int .i64 0]) := Lib.hid (by rw [← hW2]; exact Str.new W1 _ _)
  have hba : Below W1.heap.size W1 W2 := by rw [← hW2]; exact balloc (bsame _) _
  have HB2 := Lib.hid (bstep HB1.out hba)
  have HP2 := Lib.hid (HP1.out.next hba)
  clear hW2 hba HP1
  obtain ⟨f0, f1, f2, f3, f4, f5⟩ := str6 HS_2.out
  have hfl := HS_2.out.lt
  refine (Step_any A1 1 c1 W2.heap.size s1 4 ⟨#[97]⟩ [] none 0 0 0 0 0 3 _ HP2.out (Nat.le_refl _) HR1.out HSM.out (Bytes.none_ _ _) (Nat.zero_le _) (by decide) (by unfold In64; omega) (by unfold In64; omega) (by unfold In64; omega) (by omega)).mono ?_
  rw [HS2.out]
  rintro e W3 ⟨A3, n3, c3, Ab, nb, cb, rfl, hP3, hy3, hb3⟩
  have hn3 : n3 = 1 := hP3.len.symm
  subst hn3
  have HS_3 := Lib.hid (HS_2.out.next hb3)
  have HB3 := Lib.hid (bstep HB2.out hb3)
  clear hP3 hy3 hb3 f0 f1 f2 f3 f4 f5 hfl HS_2
  obtain ⟨f0, f1, f2, f3, f4, f5⟩ := str6 HS_3.out
  have hfl := HS_3.out.lt
  simp only [ansV, CellP.none]
  go_wp2_with (go_at_call 14; refine (code_any _ _).mono ?_; rintro e w9 ⟨rfl, rfl⟩)
  go_ret
  exact ⟨rfl, balloc HB3.out _⟩
end Go.Proofs.Ytghgccgpgonlmaa.Live09
namespace Go.Proofs.Ytghgccgpgonlmaa.ModelW
open Go.RowKit
set_option linter.unusedVariables false
set_option maxRecDepth 100000 in
set_option maxHeartbeats 1000000 in
theorem Right_any (A : Option Addr) (n c B : Nat) (l : List Pair) (w : World) (h : Pairs w B A n c l) (hB : B ≤ w.heap.size) (hn : n ≤ 100000) :
    Calls Try.prog 26 #[.slice A n c] w fun e w' => e = .returned (.bool (ModelP.rightB l)) ∧ Below w.heap.size w w' := by
  have H := Lib.hid h
  have HL := Lib.hid h.len
  clear h
  go_enter Try.func26, Try.ntmps26
  go_wp2
  go_loopw [7] (fun i wr => ∃ k : Nat, k ≤ n ∧ i = .int .i64 (k : Int) ∧ Hid (Below w.heap.size w wr ∧ (∀ (j : Nat) p, j < k → l[j]? = some p → ModelP.okP p) ∧ ∀ (j : Nat) p q, j + 1 < k → l[j]? = some p → l[j + 1]? = some q → ModelP.lt p.key q.key)) (fun i _ => n - (intOf i).toNat)
  case atStart => exact ⟨0, Nat.zero_le _, rfl, Lib.hid ⟨bsame w, fun j p hj => absurd hj (by omega), fun j p q hj => absurd hj (by omega)⟩⟩
  case round =>
    obtain ⟨k, hk, rfl, HK⟩ := hrel
    have hsz := HK.out.1.size
    by_cases hlt : k < n
    · obtain ⟨b, o, p, Ap, np, cp, rfl, hbB, hp, hby, hpk, -, -, -, -, c0, c1, c2, c3, c4, c5⟩ := pair_at (H.out.below (HK.out.1.mono hB)) hlt
      have HP := Lib.hid hp
      have hnp := hby.len
      have hnm := Nat.le_trans hby.2.1 hby.2.2.1
      clear hp hby
      obtain ⟨pk, pkd, pda, plo, phi, pva⟩ := p
      dsimp only at *
      have hbw : b < wr.heap.size := by omega
      obtain ⟨kr, hkr⟩ : ∃ kr, KeyP.right pk.data.toList = kr := ⟨_, rfl⟩
      have HKR := Lib.hid hkr
      clear hkr
      go_wp2_with fail
      generalize hW1 : wr.alloc (.cells #[.string pk, .int .i64 pkd, .slice Ap np cp, .int .i64 plo, .int .i64 phi, .int .i64 pva] 103) = W1
      have HS1 : Hid (Str W1 wr.heap.size #[.string pk, .int .i64 pkd, .slice Ap np cp, .int .i64 plo, .int .i64 phi, .int .i64 pva]) := Lib.hid (by rw [← hW1]; exact Str.new wr _ _)
      have hba : Below wr.heap.size wr W1 := by rw [← hW1]; exact balloc (bsame _) _
      clear hW1
      refine (Key.check_any pk _ hpk).mono ?_
      rw [HKR.out]
      rintro e W2 ⟨rfl, hb1⟩
      have HS2 := Lib.hid (HS1.out.next hb1)
      have HB2 := Lib.hid (bstep HK.out.1 (bstep hba hb1))
      have HR2 := Lib.hid (bstep hba hb1)
      clear hba hb1 HS1 c0 c1 c2 c3 c4 c5
      obtain ⟨f0, f1, f2, f3, f4, f5⟩ := str6 HS2.out
      have hfl := HS2.out.lt
      cases kr with
      | false =>
        have HE := Lib.hid (ModelP.wrong_at HP.out (fun hok => by have := hok.1; dsimp only at this; rw [HKR.out] at this; cases this))
        rw [show KeyP.code false = 1 from rfl]
        go_wp2
        go_ret
        exact ⟨by rw [HE.out]; rfl, HB2.out⟩
      | true =>
        rw [show KeyP.code true = 0 from rfl]
        obtain ⟨cr, hcr⟩ : ∃ cr, CellP.right ⟨pkd, pda, plo, phi, pva⟩ = cr := ⟨_, rfl⟩
        have HCR := Lib.hid hcr
        clear hcr
        go_wp2_with fail
        refine (CellW.check_any Ap np cp ⟨pkd, pda, plo, phi, pva⟩ _ hnp hnm).mono ?_
        rw [HCR.out]
        rintro e W3 ⟨rfl, hb2⟩
        have HS3 := Lib.hid (HS2.out.next hb2)
        have HB3 := Lib.hid (bstep HB2.out hb2)
        have HR3 := Lib.hid (bstep HR2.out hb2)
        have hsz3 := HR3.out.size
        clear hb2 HS2 f0 f1 f2 f3 f4 f5 hfl HB2 HR2
        obtain ⟨f0, f1, f2, f3, f4, f5⟩ := str6 HS3.out
        have hfl := HS3.out.lt
        cases cr with
        | false =>
          have HE := Lib.hid (ModelP.wrong_at HP.out (fun hok => by have := hok.2; dsimp only at this; rw [HCR.out] at this; cases this))
          rw [show CellP.code false = 1 from rfl]
          go_wp2
          go_ret
          exact ⟨by rw [HE.out]; rfl, HB3.out⟩
        | true =>
          rw [show CellP.code true = 0 from rfl]
          have HOK : Hid (ModelP.okP ⟨pk, pkd, pda, plo, phi, pva⟩) := Lib.hid ⟨HKR.out, HCR.out⟩
          rcases Nat.eq_zero_or_pos k with hk0 | hk0
          · have HK0 := Lib.hid hk0
            clear hk0
            go_wp2
            refine Reg.wp_region_vals (R := ext) (W := W3) [Reg.eqv (.int .i64 (k : Int)), Reg.eqv (.bool false), Reg.eqv (.bool false), Reg.eqv undef, Reg.eqv undef, Reg.eqv undef, Reg.eqv undef, Reg.eqv undef, Reg.eqv undef, Reg.eqv undef, Reg.eqv undef, Reg.eqv undef, Reg.eqv (.bool false)] 36 [[(3, none)], [(22, some 0)], [(23, some 1)], [(0, none), (24, some 2)], [(3, none), (24, some 2)], [(26, some 4), (24, some 2)], [(25, some 3), (27, some 5), (24, some 2)], [(28, some 6), (24, some 2)], [(29, some 7), (24, some 2)], [(4, none), (24, some 2)], [(31, some 9), (24, some 2)], [(30, some 8), (32, some 10), (24, some 2)], [(24, some 2), (33, some 11)]] rfl (by kernel_rfl) (by kernel_rfl) (by kernel_rfl) ?_ [some 22, some 23, some 24, some 25, some 26, some 27, some 28, some 29, some 30, some 31, some 32, some 33, some 34] (by kernel_rfl) ?_
            · refine ⟨?_, ?_, ?_, ?_, ?_, ?_, ?_, ?_, ?_, ?_, ?_, ?_, ?_, trivial⟩
              · intro ax wx hx hs
                obtain ⟨e3, -⟩ := hs
                have g3 := Reg.ev (v := .int .i64 (k : Int)) e3
                exact Reg.obl_free rfl (Reg.wp_eqv (Option.some_ne_none _) (by go_simp) rfl)
              · intro ax wx hx hs
                obtain ⟨e22, -⟩ := hs
                have g22 := Reg.ev (v := .int .i64 (k : Int)) e22
                refine Reg.obl_free rfl ?_
                have hk0 := HK0.out
                exact (Reg.wp_eqv (Option.some_ne_none _) (by go_simp) rfl)
              · intro ax wx hx hs
                obtain ⟨e23, -⟩ := hs
                have g23 := Reg.ev (v := .bool false) e23
                exact Reg.obl_free rfl (Reg.wp_eqv (Option.some_ne_none _) (by go_simp) rfl)
              · intro ax wx hx hs
                obtain ⟨e0, e24, -⟩ := hs
                have g0 := Reg.ev (v := .slice (some ⟨b, o, none⟩) n c) e0
                have g24 := Reg.ev (v := .bool false) e24
                exact Reg.obl_skip rfl rfl e24 rfl rfl
              · intro ax wx hx hs
                obtain ⟨e3, e24, -⟩ := hs
                have g3 := Reg.ev (v := .int .i64 (k : Int)) e3
                have g24 := Reg.ev (v := .bool false) e24
                exact Reg.obl_skip rfl rfl e24 rfl rfl
              · intro ax wx hx hs
                obtain ⟨e26, e24, -⟩ := hs
                have g26 := Reg.ev (v := undef) e26
                have g24 := Reg.ev (v := .bool false) e24
                exact Reg.obl_skip rfl rfl e24 rfl rfl
              · intro ax wx hx hs
                obtain ⟨e25, e27, e24, -⟩ := hs
                have g25 := Reg.ev (v := undef) e25
                have g27 := Reg.ev (v := undef) e27
                have g24 := Reg.ev (v := .bool false) e24
                exact Reg.obl_skip rfl rfl e24 rfl rfl
              · intro ax wx hx hs
                obtain ⟨e28, e24, -⟩ := hs
                have g28 := Reg.ev (v := undef) e28
                have g24 := Reg.ev (v := .bool false) e24
                exact Reg.obl_skip rfl rfl e24 rfl rfl
              · intro ax wx hx hs
                obtain ⟨e29, e24, -⟩ := hs
                have g29 := Reg.ev (v := undef) e29
                have g24 := Reg.ev (v := .bool false) e24
                exact Reg.obl_skip rfl rfl e24 rfl rfl
              · intro ax wx hx hs
                obtain ⟨e4, e24, -⟩ := hs
                have g4 := Reg.ev (v := .pointer (some ⟨wr.heap.size, 0, none⟩)) e4
                have g24 := Reg.ev (v := .bool false) e24
                exact Reg.obl_skip rfl rfl e24 rfl rfl
              · intro ax wx hx hs
                obtain ⟨e31, e24, -⟩ := hs
                have g31 := Reg.ev (v := undef) e31
                have g24 := Reg.ev (v := .bool false) e24
                exact Reg.obl_skip rfl rfl e24 rfl rfl
              · intro ax wx hx hs
                obtain ⟨e30, e32, e24, -⟩ := hs
                have g30 := Reg.ev (v := undef) e30
                have g32 := Reg.ev (v := undef) e32
                have g24 := Reg.ev (v := .bool false) e24
                exact Reg.obl_skip rfl rfl e24 rfl rfl
              · intro ax wx hx hs
                obtain ⟨e24, e33, -⟩ := hs
                have g24 := Reg.ev (v := .bool false) e24
                have g33 := Reg.ev (v := undef) e33
                exact Reg.obl_free rfl (Reg.wp_eqv (Option.some_ne_none _) (by go_simp) rfl)
            · intro W4 hwf
              simp only [Reg.Fin]
              rintro _ rfl _ rfl _ rfl _ rfl _ rfl _ rfl _ rfl _ rfl _ rfl _ rfl _ rfl _ rfl _ rfl
              go_simp
              have HB4 := Lib.hid (bstep HB3.out (show Below W3.heap.size W3 W4 from hwf))
              clear hwf
              go_wp2
              go_roundw
              case rel => exact ⟨k + 1, by omega, by go_num, Lib.hid ⟨HB4.out, fun j p hj h1 => by
                rcases Nat.lt_or_ge j k with h3 | h3
                · exact HK.out.2.1 j p h3 h1
                · have : j = k := by omega
                  subst this
                  rw [HP.out] at h1
                  cases h1
                  exact HOK.out, fun i p q hi h1 h2 => by
                rcases Nat.lt_or_ge (i + 1) k with h3 | h3
                · exact HK.out.2.2 i p q h3 h1 h2
                · have := HK0.out; omega⟩⟩
              case measure => simp [intOf]; omega
          · obtain ⟨j, hj⟩ : ∃ j, k = j + 1 := ⟨k - 1, by omega⟩
            obtain ⟨b', o', q, Aq, nq', cq, e, -, hq, -, hqk, -, -, -, -, d0, -⟩ := pair_at (H.out.below (HK.out.1.mono hB)) (show j < n by omega)
            cases e
            have HQ := Lib.hid hq
            obtain ⟨qk, qc⟩ := q
            dsimp only at *
            clear hq
            have dk : decide (0 < (k : Int)) = true := by simp; omega
            have w1 : IntKind.i64.wrap ((k : Int) - 1) = (j : Int) := by rw [show (k : Int) - 1 = (j : Int) by omega]; exact IntWalk.i64_in _ (by omega)
            have hjn : (j : Int) < (n : Int) := by omega
            have HJ := Lib.hid hj
            clear hj
            by_cases hlq : Op.bytesLess qk.toList pk.toList = true
            · have HLQ : Hid (ModelP.lt qk pk) := Lib.hid (by rw [KeyS_less] at hlq; simpa using hlq)
              have hl1 : Op.bytesLess pk.toList qk.toList = false := by rw [KeyS_less]; simp; exact fun h => List.lt_asymm HLQ.out h
              have hl2 : ¬ pk.toList = qk.toList := fun e => by have e2 := key_inj e; subst e2; exact ModelP.lt_irrefl _ HLQ.out
              have hl3 : ¬ qk.toList = pk.toList := fun e => hl2 e.symm
              go_wp2
              refine Reg.wp_region_vals (R := ext) (W := W3) [Reg.eqv (.int .i64 (k : Int)), Reg.eqv (.bool true), Reg.eqv (.bool true), Reg.eqv (.slice (some ⟨b, o, none⟩) n c), Reg.eqv (.int .i64 (k : Int)), Reg.eqv (.int .i64 (j : Int)), Reg.eqv (.pointer (some ⟨b, o + j * 6, none⟩)), Reg.eqv (.pointer (some ⟨b, o + j * 6, none⟩)), Reg.eqv (.string qk), Reg.eqv (.pointer (some ⟨wr.heap.size, 0, none⟩)), Reg.eqv (.string pk), Reg.eqv (.bool false), Reg.eqv (.bool false)] 36 [[(3, none)], [(22, some 0)], [(23, some 1)], [(0, none), (24, some 2)], [(3, none), (24, some 2)], [(26, some 4), (24, some 2)], [(25, some 3), (27, some 5), (24, some 2)], [(28, some 6), (24, some 2)], [(29, some 7), (24, some 2)], [(4, none), (24, some 2)], [(31, some 9), (24, some 2)], [(30, some 8), (32, some 10), (24, some 2)], [(24, some 2), (33, some 11)]] rfl (by kernel_rfl) (by kernel_rfl) (by kernel_rfl) ?_ [some 22, some 23, some 24, some 25, some 26, some 27, some 28, some 29, some 30, some 31, some 32, some 33, some 34] (by kernel_rfl) ?_
              · refine ⟨?_, ?_, ?_, ?_, ?_, ?_, ?_, ?_, ?_, ?_, ?_, ?_, ?_, trivial⟩
                · intro ax wx hx hs
                  obtain ⟨e3, -⟩ := hs
                  have g3 := Reg.ev (v := .int .i64 (k : Int)) e3
                  exact Reg.obl_free rfl (Reg.wp_eqv (Option.some_ne_none _) (by go_simp) rfl)
                · intro ax wx hx hs
                  obtain ⟨e22, -⟩ := hs
                  have g22 := Reg.ev (v := .int .i64 (k : Int)) e22
                  exact Reg.obl_free rfl (Reg.wp_eqv (Option.some_ne_none _) (by go_simp) rfl)
                · intro ax wx hx hs
                  obtain ⟨e23, -⟩ := hs
                  have g23 := Reg.ev (v := .bool true) e23
                  exact Reg.obl_free rfl (Reg.wp_eqv (Option.some_ne_none _) (by go_simp) rfl)
                · intro ax wx hx hs
                  obtain ⟨e0, e24, -⟩ := hs
                  have g0 := Reg.ev (v := .slice (some ⟨b, o, none⟩) n c) e0
                  have g24 := Reg.ev (v := .bool true) e24
                  exact Reg.obl_want rfl rfl e24 (Reg.wp_eqv (Option.some_ne_none _) (by go_simp) rfl)
                · intro ax wx hx hs
                  obtain ⟨e3, e24, -⟩ := hs
                  have g3 := Reg.ev (v := .int .i64 (k : Int)) e3
                  have g24 := Reg.ev (v := .bool true) e24
                  exact Reg.obl_want rfl rfl e24 (Reg.wp_eqv (Option.some_ne_none _) (by go_simp) rfl)
                · intro ax wx hx hs
                  obtain ⟨e26, e24, -⟩ := hs
                  have g26 := Reg.ev (v := .int .i64 (k : Int)) e26
                  have g24 := Reg.ev (v := .bool true) e24
                  exact Reg.obl_want rfl rfl e24 (Reg.wp_eqv (Option.some_ne_none _) (by go_simp) rfl)
                · intro ax wx hx hs
                  obtain ⟨e25, e27, e24, -⟩ := hs
                  have g25 := Reg.ev (v := .slice (some ⟨b, o, none⟩) n c) e25
                  have g27 := Reg.ev (v := .int .i64 (j : Int)) e27
                  have g24 := Reg.ev (v := .bool true) e24
                  exact Reg.obl_want rfl rfl e24 (Reg.wp_eqv (Option.some_ne_none _) (by go_simp) rfl)
                · intro ax wx hx hs
                  obtain ⟨e28, e24, -⟩ := hs
                  have g28 := Reg.ev (v := .pointer (some ⟨b, o + j * 6, none⟩)) e28
                  have g24 := Reg.ev (v := .bool true) e24
                  exact Reg.obl_want rfl rfl e24 (Reg.wp_eqv (Option.some_ne_none _) (by go_simp) rfl)
                · intro ax wx hx hs
                  obtain ⟨e29, e24, -⟩ := hs
                  have g29 := Reg.ev (v := .pointer (some ⟨b, o + j * 6, none⟩)) e29
                  have g24 := Reg.ev (v := .bool true) e24
                  have hx' : Below W3.heap.size W3 wx := hx
                  obtain ⟨l0, l1, l2, l3, l4, l5⟩ := str6 (HS3.out.next hx')
                  have ld0 := ((HR3.out.trans (hx'.mono hsz3)).cell (p := ⟨b, o + j * 6, none⟩) hbw).trans d0
                  exact Reg.obl_want rfl rfl e24 (Reg.wp_eqv (Option.some_ne_none _) (by go_simp) rfl)
                · intro ax wx hx hs
                  obtain ⟨e4, e24, -⟩ := hs
                  have g4 := Reg.ev (v := .pointer (some ⟨wr.heap.size, 0, none⟩)) e4
                  have g24 := Reg.ev (v := .bool true) e24
                  exact Reg.obl_want rfl rfl e24 (Reg.wp_eqv (Option.some_ne_none _) (by go_simp) rfl)
                · intro ax wx hx hs
                  obtain ⟨e31, e24, -⟩ := hs
                  have g31 := Reg.ev (v := .pointer (some ⟨wr.heap.size, 0, none⟩)) e31
                  have g24 := Reg.ev (v := .bool true) e24
                  have hx' : Below W3.heap.size W3 wx := hx
                  obtain ⟨l0, l1, l2, l3, l4, l5⟩ := str6 (HS3.out.next hx')
                  have ld0 := ((HR3.out.trans (hx'.mono hsz3)).cell (p := ⟨b, o + j * 6, none⟩) hbw).trans d0
                  exact Reg.obl_want rfl rfl e24 (Reg.wp_eqv (Option.some_ne_none _) (by go_simp) rfl)
                · intro ax wx hx hs
                  obtain ⟨e30, e32, e24, -⟩ := hs
                  have g30 := Reg.ev (v := .string qk) e30
                  have g32 := Reg.ev (v := .string pk) e32
                  have g24 := Reg.ev (v := .bool true) e24
                  exact Reg.obl_want rfl rfl e24 (Reg.wp_eqv (Option.some_ne_none _) (by go_simp) rfl)
                · intro ax wx hx hs
                  obtain ⟨e24, e33, -⟩ := hs
                  have g24 := Reg.ev (v := .bool true) e24
                  have g33 := Reg.ev (v := .bool false) e33
                  exact Reg.obl_free rfl (Reg.wp_eqv (Option.some_ne_none _) (by go_simp) rfl)
              · intro W4 hwf
                simp only [Reg.Fin]
                rintro _ rfl _ rfl _ rfl _ rfl _ rfl _ rfl _ rfl _ rfl _ rfl _ rfl _ rfl _ rfl _ rfl
                go_simp
                have HB4 := Lib.hid (bstep HB3.out (show Below W3.heap.size W3 W4 from hwf))
                clear hwf
                go_wp2
                go_roundw
                case rel => exact ⟨k + 1, by omega, by go_num, Lib.hid ⟨HB4.out, fun j p hj h1 => by
                  rcases Nat.lt_or_ge j k with h3 | h3
                  · exact HK.out.2.1 j p h3 h1
                  · have : j = k := by omega
                    subst this
                    rw [HP.out] at h1
                    cases h1
                    exact HOK.out, fun i p q hi h1 h2 => by
                  rcases Nat.lt_or_ge (i + 1) k with h3 | h3
                  · exact HK.out.2.2 i p q h3 h1 h2
                  · have e1 : i = j := by have := HJ.out; omega
                    subst e1
                    rw [HQ.out] at h1
                    rw [← HJ.out, HP.out] at h2
                    cases h1
                    cases h2
                    exact HLQ.out⟩⟩
                case measure => simp [intOf]; omega
            · have HLQ : Hid (¬ ModelP.lt qk pk) := Lib.hid (by rw [KeyS_less] at hlq; simpa using hlq)
              replace hlq : Op.bytesLess qk.toList pk.toList = false := by simpa using hlq
              have hl1 : Op.bytesLess pk.toList qk.toList = true ∨ qk.toList = pk.toList := by
                rw [KeyS_less]
                simp only [decide_eq_true_eq]
                rcases List.le_iff_lt_or_eq.1 (List.not_lt.1 HLQ.out) with h1 | h1
                · exact .inl h1
                · exact .inr (by rw [ModelP.key_eq h1])
              go_wp2
              refine Reg.wp_region_vals (R := ext) (W := W3) [Reg.eqv (.int .i64 (k : Int)), Reg.eqv (.bool true), Reg.eqv (.bool true), Reg.eqv (.slice (some ⟨b, o, none⟩) n c), Reg.eqv (.int .i64 (k : Int)), Reg.eqv (.int .i64 (j : Int)), Reg.eqv (.pointer (some ⟨b, o + j * 6, none⟩)), Reg.eqv (.pointer (some ⟨b, o + j * 6, none⟩)), Reg.eqv (.string qk), Reg.eqv (.pointer (some ⟨wr.heap.size, 0, none⟩)), Reg.eqv (.string pk), Reg.eqv (.bool true), Reg.eqv (.bool true)] 36 [[(3, none)], [(22, some 0)], [(23, some 1)], [(0, none), (24, some 2)], [(3, none), (24, some 2)], [(26, some 4), (24, some 2)], [(25, some 3), (27, some 5), (24, some 2)], [(28, some 6), (24, some 2)], [(29, some 7), (24, some 2)], [(4, none), (24, some 2)], [(31, some 9), (24, some 2)], [(30, some 8), (32, some 10), (24, some 2)], [(24, some 2), (33, some 11)]] rfl (by kernel_rfl) (by kernel_rfl) (by kernel_rfl) ?_ [some 22, some 23, some 24, some 25, some 26, some 27, some 28, some 29, some 30, some 31, some 32, some 33, some 34] (by kernel_rfl) ?_
              · refine ⟨?_, ?_, ?_, ?_, ?_, ?_, ?_, ?_, ?_, ?_, ?_, ?_, ?_, trivial⟩
                · intro ax wx hx hs
                  obtain ⟨e3, -⟩ := hs
                  have g3 := Reg.ev (v := .int .i64 (k : Int)) e3
                  exact Reg.obl_free rfl (Reg.wp_eqv (Option.some_ne_none _) (by go_simp) rfl)
                · intro ax wx hx hs
                  obtain ⟨e22, -⟩ := hs
                  have g22 := Reg.ev (v := .int .i64 (k : Int)) e22
                  exact Reg.obl_free rfl (Reg.wp_eqv (Option.some_ne_none _) (by go_simp) rfl)
                · intro ax wx hx hs
                  obtain ⟨e23, -⟩ := hs
                  have g23 := Reg.ev (v := .bool true) e23
                  exact Reg.obl_free rfl (Reg.wp_eqv (Option.some_ne_none _) (by go_simp) rfl)
                · intro ax wx hx hs
                  obtain ⟨e0, e24, -⟩ := hs
                  have g0 := Reg.ev (v := .slice (some ⟨b, o, none⟩) n c) e0
                  have g24 := Reg.ev (v := .bool true) e24
                  exact Reg.obl_want rfl rfl e24 (Reg.wp_eqv (Option.some_ne_none _) (by go_simp) rfl)
                · intro ax wx hx hs
                  obtain ⟨e3, e24, -⟩ := hs
                  have g3 := Reg.ev (v := .int .i64 (k : Int)) e3
                  have g24 := Reg.ev (v := .bool true) e24
                  exact Reg.obl_want rfl rfl e24 (Reg.wp_eqv (Option.some_ne_none _) (by go_simp) rfl)
                · intro ax wx hx hs
                  obtain ⟨e26, e24, -⟩ := hs
                  have g26 := Reg.ev (v := .int .i64 (k : Int)) e26
                  have g24 := Reg.ev (v := .bool true) e24
                  exact Reg.obl_want rfl rfl e24 (Reg.wp_eqv (Option.some_ne_none _) (by go_simp) rfl)
                · intro ax wx hx hs
                  obtain ⟨e25, e27, e24, -⟩ := hs
                  have g25 := Reg.ev (v := .slice (some ⟨b, o, none⟩) n c) e25
                  have g27 := Reg.ev (v := .int .i64 (j : Int)) e27
                  have g24 := Reg.ev (v := .bool true) e24
                  exact Reg.obl_want rfl rfl e24 (Reg.wp_eqv (Option.some_ne_none _) (by go_simp) rfl)
                · intro ax wx hx hs
                  obtain ⟨e28, e24, -⟩ := hs
                  have g28 := Reg.ev (v := .pointer (some ⟨b, o + j * 6, none⟩)) e28
                  have g24 := Reg.ev (v := .bool true) e24
                  exact Reg.obl_want rfl rfl e24 (Reg.wp_eqv (Option.some_ne_none _) (by go_simp) rfl)
                · intro ax wx hx hs
                  obtain ⟨e29, e24, -⟩ := hs
                  have g29 := Reg.ev (v := .pointer (some ⟨b, o + j * 6, none⟩)) e29
                  have g24 := Reg.ev (v := .bool true) e24
                  have hx' : Below W3.heap.size W3 wx := hx
                  obtain ⟨l0, l1, l2, l3, l4, l5⟩ := str6 (HS3.out.next hx')
                  have ld0 := ((HR3.out.trans (hx'.mono hsz3)).cell (p := ⟨b, o + j * 6, none⟩) hbw).trans d0
                  exact Reg.obl_want rfl rfl e24 (Reg.wp_eqv (Option.some_ne_none _) (by go_simp) rfl)
                · intro ax wx hx hs
                  obtain ⟨e4, e24, -⟩ := hs
                  have g4 := Reg.ev (v := .pointer (some ⟨wr.heap.size, 0, none⟩)) e4
                  have g24 := Reg.ev (v := .bool true) e24
                  exact Reg.obl_want rfl rfl e24 (Reg.wp_eqv (Option.some_ne_none _) (by go_simp) rfl)
                · intro ax wx hx hs
                  obtain ⟨e31, e24, -⟩ := hs
                  have g31 := Reg.ev (v := .pointer (some ⟨wr.heap.size, 0, none⟩)) e31
                  have g24 := Reg.ev (v := .bool true) e24
                  have hx' : Below W3.heap.size W3 wx := hx
                  obtain ⟨l0, l1, l2, l3, l4, l5⟩ := str6 (HS3.out.next hx')
                  have ld0 := ((HR3.out.trans (hx'.mono hsz3)).cell (p := ⟨b, o + j * 6, none⟩) hbw).trans d0
                  exact Reg.obl_want rfl rfl e24 (Reg.wp_eqv (Option.some_ne_none _) (by go_simp) rfl)
                · intro ax wx hx hs
                  obtain ⟨e30, e32, e24, -⟩ := hs
                  have g30 := Reg.ev (v := .string qk) e30
                  have g32 := Reg.ev (v := .string pk) e32
                  have g24 := Reg.ev (v := .bool true) e24
                  exact Reg.obl_want rfl rfl e24 (Reg.wp_eqv (Option.some_ne_none _) (by go_simp) rfl)
                · intro ax wx hx hs
                  obtain ⟨e24, e33, -⟩ := hs
                  have g24 := Reg.ev (v := .bool true) e24
                  have g33 := Reg.ev (v := .bool true) e33
                  exact Reg.obl_free rfl (Reg.wp_eqv (Option.some_ne_none _) (by go_simp) rfl)
              · intro W4 hwf
                simp only [Reg.Fin]
                rintro _ rfl _ rfl _ rfl _ rfl _ rfl _ rfl _ rfl _ rfl _ rfl _ rfl _ rfl _ rfl _ rfl
                go_simp
                have HB4 := Lib.hid (bstep HB3.out (show Below W3.heap.size W3 W4 from hwf))
                clear hwf
                have HE := Lib.hid (ModelP.wrong_to HQ.out (by rw [← HJ.out]; exact HP.out) HLQ.out)
                go_wp2
                go_ret
                exact ⟨by rw [HE.out]; rfl, HB4.out⟩
    · have hk' : k = n := by omega
      subst hk'
      have HE := Lib.hid (ModelP.right_of (s := l) (fun j p h1 => HK.out.2.1 j p (by rw [← HL.out]; exact (List.getElem?_eq_some_iff.1 h1).1) h1) (fun j p q h1 h2 => HK.out.2.2 j p q (by rw [← HL.out]; exact (List.getElem?_eq_some_iff.1 h2).1) h1 h2))
      go_wp2
      go_ret
      exact ⟨by rw [HE.out]; rfl, HK.out.1⟩
end Go.Proofs.Ytghgccgpgonlmaa.ModelW
namespace Go.Proofs.Ytghgccgpgonlmaa
open Go.RowKit
set_option linter.unusedVariables false
namespace ModelP
/-- the state behind all, and what they tell -/
def run (s : List Pair) : List OpX → List Pair × List Answer
  | [] => (s, [])
  | x :: l => ((run (step s x).1 l).1, (step s x).2 :: (run (step s x).1 l).2)
/-- the state behind the first k -/
def upto (s : List Pair) (l : List OpX) (k : Nat) : List Pair := (run s (l.take k)).1
/-- what the first k tell -/
def told (s : List Pair) (l : List OpX) (k : Nat) : List Answer := (run s (l.take k)).2
theorem run_append (s : List Pair) (l : List OpX) (x : OpX) : run s (l ++ [x]) = ((step (run s l).1 x).1, (run s l).2 ++ [(step (run s l).1 x).2]) := by
  induction l generalizing s with
  | nil => rfl
  | cons y l ih =>
    show run s (y :: (l ++ [x])) = _
    unfold run
    rw [ih]
    rfl
theorem upto_succ {s : List Pair} {l : List OpX} {k : Nat} {x : OpX} (h : l[k]? = some x) : upto s l (k + 1) = (step (upto s l k) x).1 ∧ told s l (k + 1) = told s l k ++ [(step (upto s l k) x).2] := by
  unfold upto told
  rw [List.take_add_one, h]
  show (run s (l.take k ++ [x])).1 = _ ∧ (run s (l.take k ++ [x])).2 = _
  rw [run_append]
  exact ⟨rfl, rfl⟩
theorem told_length (s : List Pair) (l : List OpX) : (run s l).2.length = l.length := by
  induction l generalizing s with
  | nil => rfl
  | cons y l ih => unfold run; simp [ih]
theorem upto_rises {s : List Pair} (h : Rises s) (l : List OpX) : ∀ k, k ≤ l.length → Rises (upto s l k)
  | 0, _ => by simpa [upto, run] using h
  | k + 1, hk => by
    rw [(upto_succ (List.getElem?_eq_getElem (show k < l.length by omega))).1]
    have ih := upto_rises h l k (by omega)
    unfold step
    split
    · exact ih
    · split
      · exact ih
      · exact put_rises _ _ _ ih
theorem upto_length (s : List Pair) (l : List OpX) : ∀ k, k ≤ l.length → (upto s l k).length ≤ s.length + k
  | 0, _ => by simp [upto, run]
  | k + 1, hk => by
    rw [(upto_succ (List.getElem?_eq_getElem (show k < l.length by omega))).1]
    have := step_length (upto s l k) l[k]
    have := upto_length s l k (by omega)
    omega
theorem rule_data {t : Option Cell} {x : OpX} (ht : ∀ c, t = some c → c.data.length ≤ 100000) (hx : x.data.length ≤ 100000) : ∀ c, (rule t x).2.1 = some c → c.data.length ≤ 100000 := by
  intro c hc
  unfold rule at hc
  split at hc
  · cases t with
    | none => cases hc
    | some d => cases hc; exact ht _ rfl
  · split at hc
    · split at hc
      · cases hc
      · cases hc; exact hx
    · split at hc
      · cases t with
        | some d => cases hc
        | none => cases hc; exact Nat.zero_le _
      · split at hc
        · cases t <;> cases hc
        · cases t with
          | none => cases hc
          | some d =>
            dsimp only at hc
            generalize (if x.act = 4 then d.val + x.n else d.val - x.n) = v at hc
            split at hc
            · cases hc
            · split at hc
              · cases hc
              · simp only [Option.some.injEq] at hc
                subst hc
                exact Nat.zero_le _
theorem step_data {s : List Pair} (h : ∀ p ∈ s, p.cell.data.length ≤ 100000) {x : OpX} (hx : x.data.length ≤ 100000) (hr : Rises s) : ∀ p ∈ (step s x).1, p.cell.data.length ≤ 100000 := by
  unfold step
  split
  · exact h
  · split
    · exact h
    · intro p hp
      rcases mem_put hp with hp | ⟨c, hc, rfl⟩
      · exact h p hp
      · refine rule_data (fun d hd => ?_) hx c hc
        rw [find_eq x.key s hr] at hd
        split at hd
        · obtain ⟨q, hq, rfl⟩ := Option.map_eq_some_iff.1 hd
          exact h q (List.mem_of_getElem? hq)
        · cases hd
theorem upto_data {s : List Pair} (hr : Rises s) (h : ∀ p ∈ s, p.cell.data.length ≤ 100000) {l : List OpX} (hl : ∀ x ∈ l, x.data.length ≤ 100000) : ∀ k, k ≤ l.length → ∀ p ∈ upto s l k, p.cell.data.length ≤ 100000
  | 0, _ => by simpa [upto, run] using h
  | k + 1, hk => by
    rw [(upto_succ (List.getElem?_eq_getElem (show k < l.length by omega))).1]
    exact step_data (upto_data hr h hl k (by omega)) (hl _ (List.getElem_mem _)) (upto_rises hr l k (by omega))
end ModelP
/-- how an answer lies in memory -/
def AnsE : El Answer where
  size := 6
  pos := by decide
  rel w B vs a := ∃ A n c, vs = (ansV A n c a).toList ∧ Bytes w B A n c a.cell.data
  len := by rintro w B vs p ⟨A, n, c, rfl, _⟩; rfl
  one := by
    rintro w B vs p ⟨A, n, c, rfl, _⟩ v hv
    simp only [ansV, List.mem_cons, List.not_mem_nil, or_false] at hv
    rcases hv with rfl | rfl | rfl | rfl | rfl | rfl <;> rfl
  sub := by rintro w w' B vs p hs ⟨A, n, c, e, h⟩; exact ⟨A, n, c, e, h.sub hs⟩
  more := by rintro w B B' vs p hB ⟨A, n, c, e, h⟩; exact ⟨A, n, c, e, h.more hB⟩
theorem AnsE_byt : El.Byt AnsE := by
  intro w w' B vs p hs ⟨A, n, c, e, h⟩
  exact ⟨A, n, c, e, h.subU hs⟩
def zeroAns : Answer := ⟨0, CellP.none⟩
theorem zeroAns_rel (w : World) (B : Nat) : AnsE.rel w B [.int .i64 0, .int .i64 0, .slice none 0 0, .int .i64 0, .int .i64 0, .int .i64 0] zeroAns := ⟨none, 0, 0, rfl, Bytes.none_ _ _⟩
theorem infoA : (Try.prog.info? 39).map (fun i => (i.zero, i.size, i.bytes)) = some (some (.agg #[.int .i64 0, .int .i64 0, .slice none 0 0, .int .i64 0, .int .i64 0, .int .i64 0]), 6, 64) := by kernel_rfl
theorem stA_fold (a v : Value) : Instr.storeAt 39 a v = stSem 39 a v := rfl
abbrev TAn : TypeId := 39
/-- the row of what was told: its words hang on no block of the state's row -/
def Told (w : World) (base g m : Nat) (A : Option Addr) (l : List Answer) : Prop := ∃ vs, w.ownsRow base TAn 6 (.slice (some ⟨g, 0, none⟩) m m) m vs.flatten ∧ Rel2 (AnsE.rel (hideL w (blk A)) w.heap.size) vs l
section
variable {w w' : World} {base g m : Nat} {A A2 : Option Addr} {l : List Answer}
theorem Told.len (h : Told w base g m A l) : l.length = m := by
  obtain ⟨vs, h1, h2⟩ := h
  have e1 := h1.1
  rw [h2.flat (fun _ _ => AnsE.len)] at e1
  exact Nat.eq_of_mul_eq_mul_right AnsE.pos e1
theorem Told.next (h : Told w base g m A l) (hb : Below w.heap.size w w') : Told w' base g m A l := by
  obtain ⟨vs, h1, h2⟩ := h
  exact ⟨vs, own_next h1 hb, h2.imp fun _ _ hr => AnsE.more hb.size (AnsE.sub (hideL_below _ hb) hr)⟩
theorem Told.turn (h : Told w base g m A l) (hg : w.grownBy w' ((Value.slice A 0 0).ownBlock)) (hne : ∀ a, A = some a → a.block ≠ g) (hA : A2 = A ∨ ∀ a, A2 = some a → w.heap.size ≤ a.block) : Told w' base g m A2 l := by
  obtain ⟨vs, ⟨h1, h2⟩, h3⟩ := h
  have hob : ∀ k, k ∉ blk A → some k ≠ (Value.slice A 0 0).ownBlock := by
    intro k hk e
    cases A with
    | none => simp [Value.ownBlock] at e
    | some a => simp only [Value.ownBlock, Option.some.injEq] at e; exact hk (by simp [blk, e])
  refine ⟨vs, ⟨h1, ?_⟩, h3.imp fun _ _ hr => AnsE.more hg.size (AnsE.sub (hideL_sub_of fun k hk hn => ⟨?_, hg.block k hk (hob k hn)⟩) hr)⟩
  · rcases h2 with h2 | ⟨g', cap, cur, hv, hb, hh, r⟩
    · exact .inl h2
    · cases hv
      refine .inr ⟨g, m, cur, rfl, hb, (hg.block g (Array.getElem?_eq_some_iff.1 hh).1 (hob g ?_)).trans hh, r⟩
      cases A with
      | none => simp [blk]
      | some a =>
        have := hne a rfl
        simp only [blk, List.mem_cons, List.not_mem_nil, or_false]
        exact fun e => this e.symm
  · rcases hA with rfl | hA
    · exact hn
    · cases A2 with
      | none => simp [blk]
      | some a =>
        have := hA a rfl
        simp only [blk, List.mem_cons, List.not_mem_nil, or_false]
        omega
theorem zeroAns_any {w w' : World} {B B' : Nat} {v : List Value} (h : AnsE.rel w B v zeroAns) : AnsE.rel w' B' v zeroAns := by
  obtain ⟨A, n, c, e, h1, h2, h3, h4⟩ := h
  have hn : n = 0 := h1.symm
  subst hn
  exact ⟨A, 0, c, e, h1, h2, h3, fun hp => absurd hp (by omega)⟩
theorem Rel2.impm {α : Type} {R R' : List Value → α → Prop} : ∀ {vs : List (List Value)} {xs : List α}, (∀ v x, x ∈ xs → R v x → R' v x) → Rel2 R vs xs → Rel2 R' vs xs
  | [], [], _, _ => trivial
  | _ :: vs, _ :: xs, hi, h => ⟨hi _ _ (by simp) h.1, Rel2.impm (fun v x hx => hi v x (by simp [hx])) h.2⟩
  | [], _ :: _, _, h => h.elim
  | _ :: _, [], _, h => h.elim
theorem ansV_notU8 (A : Option Addr) (n c : Nat) (a : Answer) : notU8 (ansV A n c a) = true := rfl
theorem flat_notU8 {B : Nat} : ∀ {vs : List (List Value)} {l : List Answer}, Rel2 (AnsE.rel w B) vs l → notU8 vs.flatten.toArray = true
  | [], [], _ => rfl
  | v :: vs, x :: l, h => by
    obtain ⟨⟨A, n, c, rfl, -⟩, h2⟩ := h
    have ih := flat_notU8 h2
    have h1 := ansV_notU8 A n c x
    unfold notU8 at *
    simp only [List.flatten_cons, List.all_append, Bool.and_eq_true] at *
    exact ⟨h1, ih⟩
  | [], _ :: _, h => h.elim
  | _ :: _, [], h => h.elim
theorem Told.str (h : Told w base g m A l) (hm : 0 < m) : ∃ cs, Str w g cs ∧ notU8 cs = true ∧ base ≤ g ∧ g < w.heap.size := by
  have hl := h.len
  obtain ⟨vs, ⟨h1, h2⟩, h3⟩ := h
  rcases h2 with ⟨e, h0⟩ | ⟨g', cap, cur, hv, hb, hh, hnc, hmx, hsz, htk⟩
  · cases e
  · cases hv
    refine ⟨cur, ⟨_, hh⟩, ?_, hb, (Array.getElem?_eq_some_iff.1 hh).1⟩
    have e : cur = vs.flatten.toArray := by
      rw [← htk, List.take_of_length_le (by simp [hsz])]
    rw [e]
    exact flat_notU8 h3
theorem Told.write {P : Program} (h : Told w base g m A l) {k n c : Nat} {A1 : Option Addr} {a : Answer} (hk : k < m) (hy : BytesH (blk A) w A1 n c a.cell.data) :
    ∃ w1, (storeCells ⟨g, k * 6, none⟩ (ansV A1 n c a).toList).run P w = .ok () w1 ∧ Told w1 base g m A (l.set k a) ∧ w.grownBy w1 (some g) ∧ w1.heap.size = w.heap.size := by
  have hlen := h.len
  have hs := h.str (by omega)
  obtain ⟨vs, ⟨h1, h2⟩, hr⟩ := h
  obtain ⟨cs0, hS, hN, -, -⟩ := hs
  rcases h2 with ⟨e, h0⟩ | ⟨g', cap, cur, hv, hb, hh, hnc, hmx, hsz, htk⟩
  · cases e
  cases hv
  have hvl := hr.length.trans hlen
  have hjs : k * 6 + 6 ≤ m * 6 := by rw [← Nat.succ_mul]; exact Nat.mul_le_mul_right _ hk
  have h1c : ∀ v ∈ (ansV A1 n c a).toList, v.oneCell' = true := by
    intro v hv
    simp only [ansV, List.mem_cons, List.not_mem_nil, or_false] at hv
    rcases hv with rfl | rfl | rfl | rfl | rfl | rfl <;> rfl
  have hrun := run_storeCells_at P g (k * 6) TAn (ansV A1 n c a).toList 0 cur w hh (by rw [hsz]; show k * 6 + 0 + 6 ≤ m * 6; omega) h1c
  simp only [Nat.add_zero] at hrun
  obtain ⟨v, hv, hvr⟩ := hr.get (List.getElem?_eq_getElem (show k < l.length by omega))
  have hvlen := AnsE.len hvr
  have ecur : cur.toList = vs.flatten := by rw [← htk, List.take_of_length_le (by simp [hsz])]
  have hov : cur.toList.take (k * 6) ++ (ansV A1 n c a).toList ++ cur.toList.drop (k * 6 + (ansV A1 n c a).toList.length) = (vs.set k (ansV A1 n c a).toList).flatten := by
    have := over_flat (size := 6) vs hr.all k v 0 (ansV A1 n c a).toList hv (by show 0 + 6 ≤ 6; omega)
    rw [Nat.add_zero] at this
    have e2 : overV v 0 (ansV A1 n c a).toList = (ansV A1 n c a).toList := by
      unfold overV
      rw [List.take_zero, List.nil_append, List.drop_of_length_le (by rw [hvlen]; show 6 ≤ 0 + 6; omega), List.append_nil]
    rw [e2] at this
    rw [← this, ecur]
    simp [overV]
  rw [hov] at hrun
  have hsub : SubU w.heap.size (hideL w (blk A)) (hideL (w.setRow g (vs.set k (ansV A1 n c a).toList).flatten.toArray) (blk A)) := by
    rw [← hid_blk, ← hid_blk]
    exact subU_grown A hS hN (grown_setRow w g _)
  have hset : Rel2 (AnsE.rel (hideL (w.setRow g (vs.set k (ansV A1 n c a).toList).flatten.toArray) (blk A)) w.heap.size) (vs.set k (ansV A1 n c a).toList) (l.set k a) :=
    (hr.set (show AnsE.rel (hideL w (blk A)) w.heap.size (ansV A1 n c a).toList a from ⟨A1, n, c, rfl, hy⟩) k).imp fun _ _ hq => AnsE_byt hsub hq
  have hfl2 : (vs.set k (ansV A1 n c a).toList).flatten.length = m * 6 := by
    have := hset.flat (fun _ _ => AnsE.len)
    rw [this, List.length_set, hlen]; rfl
  refine ⟨_, hrun, ⟨_, ⟨hfl2, .inr ⟨g, m, _, rfl, hb, setRow_heap w g _ _ TAn _ hh, hnc, hmx, by simpa using hfl2, by rw [List.take_of_length_le (Nat.le_of_eq hfl2)]⟩⟩, hset.imp fun _ _ hq => by rw [sz_setRow]; exact hq⟩, grown_setRow w g _, sz_setRow _ _ _⟩
theorem Told.elems (h : Told w base g m A l) : Elems AnsE w w.heap.size (some ⟨g, 0, none⟩) m m l := by
  have hlen := h.len
  obtain ⟨vs, ⟨h1, h2⟩, hr⟩ := h
  rcases h2 with ⟨e, h0⟩ | ⟨g', cap, cur, hv, hb, hh, hnc, hmx, hsz, htk⟩
  · cases e
  cases hv
  refine ⟨vs, hr.imp fun _ _ hq => AnsE.sub (sub_hideL _ w _) hq, hlen, hnc, hmx, fun _ => ⟨g, 0, rfl, (Array.getElem?_eq_some_iff.1 hh).1, fun j u hu => ?_⟩⟩
  rw [← htk, List.getElem?_take] at hu
  split at hu
  · simp only [World.cell?, hh, Nat.zero_add]
    simpa using hu
  · cases hu
end
theorem setA_fill {l : List Answer} {k n : Nat} {p : Answer} (hl : l.length = k) (hk : k < n) : (l ++ List.replicate (n - k) zeroAns).set k p = (l ++ [p]) ++ List.replicate (n - (k + 1)) zeroAns := by
  rw [List.set_append_right _ _ (by omega), hl, Nat.sub_self, show n - k = (n - (k + 1)) + 1 by omega, List.replicate_succ, List.set_cons_zero]
  simp
end Go.Proofs.Ytghgccgpgonlmaa
namespace Go.Proofs.Ytghgccgpgonlmaa.ModelW
open Go.RowKit
set_option linter.unusedVariables false
attribute [local go_sem ↓] stA_fold
set_option maxRecDepth 100000 in
set_option maxHeartbeats 2000000 in
theorem Run_any (A : Option Addr) (n c B : Nat) (s : List Pair) (Al : Option Addr) (m cl Bl : Nat) (l : List OpX) (w : World) (h : Pairs w B A n c s) (hB : B ≤ w.heap.size) (hr : ModelP.Rises s) (hs : s.length ≤ 500 ∧ ∀ p ∈ s, p.cell.data.length ≤ 100000) (hl : OpsL w Bl Al m cl l) (hBl : Bl ≤ w.heap.size) (hm : m ≤ 500) (hd : ∀ x ∈ l, x.data.length ≤ 100000) :
    Calls Try.prog 27 #[.slice A n c, .slice Al m cl] w fun e w' => ∃ A1 n1 c1 A2 c2, e = .returned (.tuple #[.slice A1 n1 c1, .slice A2 m c2]) ∧ Pairs w' w'.heap.size A1 n1 c1 (ModelP.run s l).1 ∧ Elems AnsE w' w'.heap.size A2 m c2 (ModelP.run s l).2 ∧ Below w.heap.size w w' := by
  obtain ⟨i0, hi, hz0, hz1, hz2⟩ := info_parts infoA
  have hlen := h.len
  have hllen := hl.len
  have H := Lib.hid h
  have HO := Lib.hid hl
  have HD := Lib.hid hs.2
  have HR := Lib.hid hr
  have HLL := Lib.hid hllen
  have HSL := Lib.hid hs.1
  have hn : n ≤ 500 := by rw [← hlen]; exact hs.1
  have HDX := Lib.hid hd
  have HI := Lib.hid hi
  clear h hl hs hr hd hi hlen
  go_enter Try.func27, Try.ntmps27
  go_wp2_with fail
  refine (copyState_any A n c B s _ H.out hB (by omega) HD.out).mono ?_
  rintro e W1 ⟨g, rfl, hO1, hb1⟩
  obtain ⟨W2, hmk, hT2, hb2, hs2⟩ := own_made (P := Try.prog) (E := AnsE) 45 i0 _ _ zeroAns Try.underlying45 HI.out hz0 hz1 rfl zeroAns_rel m (by rw [hz2]; omega) (by omega) W1
  have hsz1 := hb1.size
  have hgl := hO1.blk_lt g (by simp [blk])
  have HP2 := Lib.hid (hO1.next hb2)
  have HT2 : Hid (Told W2 w.heap.size W1.heap.size m (some ⟨g, 0, none⟩) (ModelP.told s l 0 ++ List.replicate (m - 0) zeroAns)) := Lib.hid (by
    obtain ⟨vs, ⟨q1, q2⟩, h2⟩ := hT2
    exact ⟨vs, ⟨q1, q2.imp id fun ⟨g', cap, cur, e1, hg, r⟩ => ⟨g', cap, cur, e1, Nat.le_trans hsz1 hg, r⟩⟩, Rel2.impm (fun v x hx hq => by rw [List.eq_of_mem_replicate hx] at hq ⊢; exact zeroAns_any hq) h2⟩)
  have HB2 := Lib.hid (bstep hb1 hb2)
  clear hO1 hT2 hb1 hb2 hs2
  go_wp2
  go_loopw [6, 17] (fun sv i wr => ∃ (k : Nat) (A' : Option Addr) (n' c' : Nat), k ≤ m ∧ i = .int .i64 (k : Int) ∧ sv = .slice A' n' c' ∧ Hid (OwnE PairE TPr wr w.heap.size A' n' c' (ModelP.upto s l k) ∧ Told wr w.heap.size W1.heap.size m A' (ModelP.told s l k ++ List.replicate (m - k) zeroAns) ∧ (∀ a, A' = some a → a.block ≠ W1.heap.size) ∧ Below w.heap.size w wr)) (fun _ i _ => m - (intOf i).toNat)
  case atStart => exact ⟨0, some ⟨g, 0, none⟩, n, n, Nat.zero_le _, rfl, rfl, Lib.hid ⟨HP2.out, HT2.out, fun a e => by cases e; show g ≠ _; omega, HB2.out⟩⟩
  case round =>
    obtain ⟨k, A', n', c', hk, rfl, rfl, HK⟩ := hrel
    have hsz := HK.out.2.2.2.size
    by_cases hlt : k < m
    · obtain ⟨b, o, x, Ax, nx, cx, rfl, hbB, hx, hby, hxk, i1, i2, i3, i4, c0, c1, c2, c3, c4, c5⟩ := op_at (HO.out.below (HK.out.2.2.2.mono hBl)) hlt
      have HX := Lib.hid hx
      have hxd := HDX.out x (List.mem_of_getElem? hx)
      have HUP := Lib.hid (ModelP.upto_succ (s := s) hx)
      obtain ⟨xact, xk, xdata, xlo, xhi, xn⟩ := x
      dsimp only at *
      have HY := Lib.hid hby
      have hnx : nx ≤ 100000 := by rw [← hby.len]; exact hxd
      clear hx hby hxd
      have hbw : b < wr.heap.size := by omega
      have hkl : k ≤ l.length := by rw [HLL.out]; exact hk
      have HUR := Lib.hid (ModelP.upto_rises HR.out l k hkl)
      have HUD := Lib.hid (ModelP.upto_data HR.out HD.out HDX.out k hkl)
      have hul : n' ≤ 1000 := by have h1 := ModelP.upto_length s l k hkl; have h2 := HK.out.1.len; have := HSL.out; omega
      have HTL : Hid ((ModelP.told s l k).length = k) := Lib.hid (by unfold ModelP.told; rw [ModelP.told_length, List.length_take, HLL.out]; omega)
      go_wp2_with fail
      generalize hV1 : wr.alloc (.cells #[.int .i64 xact, .string xk, .slice Ax nx cx, .int .i64 xlo, .int .i64 xhi, .int .i64 xn] 24) = V1
      have hba : Below wr.heap.size wr V1 := by rw [← hV1]; exact balloc (bsame _) _
      clear hV1 c0 c1 c2 c3 c4 c5
      have HO1 := Lib.hid (HK.out.1.next hba)
      have HT1 := Lib.hid (HK.out.2.1.next hba)
      have hv1 := hba.size
      have HBV := Lib.hid (HK.out.2.2.2.trans (hba.mono hsz))
      refine (step_any A' n' c' w.heap.size (ModelP.upto s l k) xact xk xdata Ax nx cx Bl xlo xhi xn V1 HO1.out (by omega) HUR.out hul (HY.out.below (hba.mono (by omega))) (by omega) hxk HUD.out i2 i3 i4 hnx).mono ?_
      rintro e V2 ⟨A2, n2, c2, Aa, na, ca, rfl, hO2, hy2, hg2, hA2⟩
      have hT2' := HT1.out.turn hg2 HK.out.2.2.1 hA2
      obtain ⟨V3, hst, hT3, hg3, hs3⟩ := hT2'.write (P := Try.prog) (k := k) (a := (ModelP.step (ModelP.upto s l k) ⟨xact, xk, xdata, xlo, xhi, xn⟩).2) hlt hy2
      obtain ⟨cs, hS, hN, hbg, hgl2⟩ := hT2'.str (by omega)
      have hne2 : ∀ a, A2 = some a → a.block ≠ W1.heap.size := by
        intro a ea
        rcases hA2 with h9 | h9
        · exact HK.out.2.2.1 a (by rw [← h9, ea])
        · have h10 := h9 a ea
          have h11 := (HT1.out.str (by omega))
          obtain ⟨_, _, _, _, h12⟩ := h11
          omega
      have HO3 := Lib.hid (hO2.grownU PairE_byt hS hN hg3 hne2)
      have hst5 := run_stS (P := Try.prog) (ty := 39) (by kernel_rfl) hst
      have HB3 : Hid (Below w.heap.size w V3) := Lib.hid (below_grownO (below_grownO HBV.out hg2 (by omega) (by
        intro j hj
        cases A' with
        | none => simp [Value.ownBlock] at hj
        | some a => simp only [Value.ownBlock, Option.some.injEq] at hj; have := HO1.out.ge a rfl; omega)) hg3 (by have := hg2.size; omega) (by intro j hj; cases hj; exact hbg))
      rw [setA_fill HTL.out hlt] at hT3
      have HT3 := Lib.hid hT3
      have hv2 := hg2.size
      clear hO2 hy2 hg2 hA2 hT2' hT3 hg3 hs3 hS hN hst
      simp only [ansV] at hst5 ⊢
      go_wp2
      go_roundw
      case rel => exact ⟨k + 1, A2, n2, c2, by omega, by go_num, rfl, Lib.hid ⟨by rw [HUP.out.1]; exact HO3.out, by rw [HUP.out.2]; exact HT3.out, hne2, HB3.out⟩⟩
      case measure => simp [intOf]; omega
    · have hkm : k = m := by omega
      subst hkm
      have HUA : Hid (ModelP.upto s l k = (ModelP.run s l).1 ∧ ModelP.told s l k = (ModelP.run s l).2) := Lib.hid (by unfold ModelP.upto ModelP.told; rw [List.take_of_length_le (by rw [HLL.out]; exact Nat.le_refl _)]; exact ⟨rfl, rfl⟩)
      go_wp2
      go_ret2
      refine ⟨A', n', c', _, k, rfl, ?_, ?_, HK.out.2.2.2⟩
      · rw [← HUA.out.1]; exact HK.out.1.elems
      · have h9 := HK.out.2.1.elems
        rw [show k - k = 0 by omega, List.replicate_zero, List.append_nil, HUA.out.2] at h9
        exact h9
end Go.Proofs.Ytghgccgpgonlmaa.ModelW
namespace Go.Proofs.Ytghgccgpgonlmaa.modelSteps
open Go.RowKit ModelW
set_option linter.unusedVariables false
theorem upto_right {s : List Pair} (h : ModelP.Right s) (l : List OpX) : ∀ k, k ≤ l.length → ModelP.Right (ModelP.upto s l k)
  | 0, _ => by simpa [ModelP.upto, ModelP.run] using h
  | k + 1, hk => by
    rw [(ModelP.upto_succ (List.getElem?_eq_getElem (show k < l.length by omega))).1]
    exact ModelP.step_right (upto_right h l k (by omega)) _
set_option maxRecDepth 100000 in
set_option maxHeartbeats 2000000 in
theorem way_muchS (A : Option Addr) (n c : Nat) (s : List Pair) (Al : Option Addr) (m cl : Nat) (l : List OpX) (w : World) (h : Pairs w w.heap.size A n c s) (hl : OpsL w w.heap.size Al m cl l) (hm : ModelP.muchS s = true) :
    Calls Try.prog 5 #[.slice A n c, .slice Al m cl] w fun e w' => e = .returned (.bool true) ∧ Below w.heap.size w w' := by
  have hln := h.len
  have hlm := hl.len
  have H := Lib.hid h
  have HO := Lib.hid hl
  have HM := Lib.hid hm
  clear h hl hm hln hlm
  go_enter Try.func5, Try.ntmps5
  go_wp2_with fail
  have HB_0 := Lib.hid (bsame w)
  have hw_0 := HB_0.out.size
  refine (muchState_any A n c w.heap.size s _ H.out (Nat.le_refl _)).mono ?_
  rintro e W1 ⟨rfl, hb1⟩
  rw [HM.out]
  have HB_1 := Lib.hid (bstep HB_0.out hb1)
  have hw_1 := HB_1.out.size
  have hws_1 := (hb1).size
  clear hb1
  go_wp2_with fail
  refine (Live09.live_any _).mono ?_
  rintro e W2 ⟨rfl, hb2⟩
  have HB_2 := Lib.hid (bstep HB_1.out hb2)
  have hw_2 := HB_2.out.size
  have hws_2 := (hb2).size
  clear hb2
  go_wp2_with fail
  go_ret
  exact ⟨rfl, HB_2.out⟩
set_option maxRecDepth 100000 in
set_option maxHeartbeats 2000000 in
theorem way_muchL (A : Option Addr) (n c : Nat) (s : List Pair) (Al : Option Addr) (m cl : Nat) (l : List OpX) (w : World) (h : Pairs w w.heap.size A n c s) (hl : OpsL w w.heap.size Al m cl l) (hm : ModelP.muchS s = false) (hml : ModelP.muchL l = true) :
    Calls Try.prog 5 #[.slice A n c, .slice Al m cl] w fun e w' => e = .returned (.bool true) ∧ Below w.heap.size w w' := by
  have hln := h.len
  have hlm := hl.len
  have H := Lib.hid h
  have HO := Lib.hid hl
  have HM := Lib.hid hm
  have hn : n ≤ 60 := by rw [← hln]; exact (ModelP.muchS_no hm).1
  have HSM := Lib.hid (small_of hm)
  have HML := Lib.hid hml
  clear h hl hm hln hlm hml
  go_enter Try.func5, Try.ntmps5
  go_wp2_with fail
  have HB_0 := Lib.hid (bsame w)
  have hw_0 := HB_0.out.size
  refine (muchState_any A n c w.heap.size s _ H.out (Nat.le_refl _)).mono ?_
  rintro e W1 ⟨rfl, hb1⟩
  rw [HM.out]
  have HB_1 := Lib.hid (bstep HB_0.out hb1)
  have hw_1 := HB_1.out.size
  have hws_1 := (hb1).size
  clear hb1
  go_wp2_with fail
  refine (much_any Al m cl w.heap.size l _ (HO.out.below HB_1.out) HB_1.out.size).mono ?_
  rintro e W2 ⟨rfl, hb2⟩
  rw [HML.out]
  have HB_2 := Lib.hid (bstep HB_1.out hb2)
  have hw_2 := HB_2.out.size
  have hws_2 := (hb2).size
  clear hb2
  go_wp2_with fail
  refine (Live09.live_any _).mono ?_
  rintro e W3 ⟨rfl, hb3⟩
  have HB_3 := Lib.hid (bstep HB_2.out hb3)
  have hw_3 := HB_3.out.size
  have hws_3 := (hb3).size
  clear hb3
  go_wp2_with fail
  go_ret
  exact ⟨rfl, HB_3.out⟩
set_option maxRecDepth 100000 in
set_option maxHeartbeats 2000000 in
theorem way_wrong (A : Option Addr) (n c : Nat) (s : List Pair) (Al : Option Addr) (m cl : Nat) (l : List OpX) (w : World) (h : Pairs w w.heap.size A n c s) (hl : OpsL w w.heap.size Al m cl l) (hm : ModelP.muchS s = false) (hml : ModelP.muchL l = false) (hr : ModelP.rightB s = false) :
    Calls Try.prog 5 #[.slice A n c, .slice Al m cl] w fun e w' => e = .returned (.bool true) ∧ Below w.heap.size w w' := by
  have hln := h.len
  have hlm := hl.len
  have H := Lib.hid h
  have HO := Lib.hid hl
  have HM := Lib.hid hm
  have hn : n ≤ 60 := by rw [← hln]; exact (ModelP.muchS_no hm).1
  have HSM := Lib.hid (small_of hm)
  have HML := Lib.hid hml
  have hmm : m ≤ 60 := by rw [← hlm]; exact (ModelP.muchL_no hml).1
  have HR := Lib.hid hr
  clear h hl hm hln hlm hml hr
  go_enter Try.func5, Try.ntmps5
  go_wp2_with fail
  have HB_0 := Lib.hid (bsame w)
  have hw_0 := HB_0.out.size
  refine (muchState_any A n c w.heap.size s _ H.out (Nat.le_refl _)).mono ?_
  rintro e W1 ⟨rfl, hb1⟩
  rw [HM.out]
  have HB_1 := Lib.hid (bstep HB_0.out hb1)
  have hw_1 := HB_1.out.size
  have hws_1 := (hb1).size
  clear hb1
  go_wp2_with fail
  refine (much_any Al m cl w.heap.size l _ (HO.out.below HB_1.out) HB_1.out.size).mono ?_
  rintro e W2 ⟨rfl, hb2⟩
  rw [HML.out]
  have HB_2 := Lib.hid (bstep HB_1.out hb2)
  have hw_2 := HB_2.out.size
  have hws_2 := (hb2).size
  clear hb2
  go_wp2_with fail
  refine (refRight_any A n c w.heap.size s _ (H.out.below HB_2.out) HB_2.out.size (by omega)).mono ?_
  rintro e W3 ⟨rfl, hb3⟩
  rw [HR.out]
  have HB_3 := Lib.hid (bstep HB_2.out hb3)
  have hw_3 := HB_3.out.size
  have hws_3 := (hb3).size
  clear hb3
  go_wp2_with fail
  refine (Live09.live_any _).mono ?_
  rintro e W4 ⟨rfl, hb4⟩
  have HB_4 := Lib.hid (bstep HB_3.out hb4)
  have hw_4 := HB_4.out.size
  have hws_4 := (hb4).size
  clear hb4
  go_wp2_with fail
  go_ret
  exact ⟨rfl, HB_4.out⟩
set_option maxRecDepth 100000 in
set_option maxHeartbeats 2000000 in
theorem way_main (A : Option Addr) (n c : Nat) (s : List Pair) (Al : Option Addr) (m cl : Nat) (l : List OpX) (w : World) (h : Pairs w w.heap.size A n c s) (hl : OpsL w w.heap.size Al m cl l) (hm : ModelP.muchS s = false) (hml : ModelP.muchL l = false) (hr : ModelP.rightB s = true) :
    Calls Try.prog 5 #[.slice A n c, .slice Al m cl] w fun e w' => e = .returned (.bool true) ∧ Below w.heap.size w w' := by
  have hln := h.len
  have hlm := hl.len
  have H := Lib.hid h
  have HO := Lib.hid hl
  have HM := Lib.hid hm
  have hn : n ≤ 60 := by rw [← hln]; exact (ModelP.muchS_no hm).1
  have HSM := Lib.hid (small_of hm)
  have HML := Lib.hid hml
  have hmm : m ≤ 60 := by rw [← hlm]; exact (ModelP.muchL_no hml).1
  have HR := Lib.hid hr
  have HRT := Lib.hid ((ModelP.rightB_iff s).1 hr)
  have HLD : Hid (∀ x ∈ l, x.data.length ≤ 100000) := Lib.hid (fun x hx => by have := ((ModelP.muchL_no hml).2 x hx).2; omega)
  have HLM := Lib.hid hlm
  have HLN := Lib.hid hln
  clear h hl hm hln hlm hml hr
  go_enter Try.func5, Try.ntmps5
  go_wp2_with fail
  have HB_0 := Lib.hid (bsame w)
  have hw_0 := HB_0.out.size
  refine (muchState_any A n c w.heap.size s _ H.out (Nat.le_refl _)).mono ?_
  rintro e W1 ⟨rfl, hb1⟩
  rw [HM.out]
  have HB_1 := Lib.hid (bstep HB_0.out hb1)
  have hw_1 := HB_1.out.size
  have hws_1 := (hb1).size
  clear hb1
  go_wp2_with fail
  refine (much_any Al m cl w.heap.size l _ (HO.out.below HB_1.out) HB_1.out.size).mono ?_
  rintro e W2 ⟨rfl, hb2⟩
  rw [HML.out]
  have HB_2 := Lib.hid (bstep HB_1.out hb2)
  have hw_2 := HB_2.out.size
  have hws_2 := (hb2).size
  clear hb2
  go_wp2_with fail
  refine (refRight_any A n c w.heap.size s _ (H.out.below HB_2.out) HB_2.out.size (by omega)).mono ?_
  rintro e W3 ⟨rfl, hb3⟩
  rw [HR.out]
  have HB_3 := Lib.hid (bstep HB_2.out hb3)
  have hw_3 := HB_3.out.size
  have hws_3 := (hb3).size
  clear hb3
  go_wp2_with fail
  go_loopw [5, 6, 7] (fun s5 s6 i wr => ∃ (k : Nat) (A1 : Option Addr) (n1 c1 : Nat) (A2 : Option Addr) (n2 c2 : Nat), k ≤ m ∧ s5 = .slice A1 n1 c1 ∧ s6 = .slice A2 n2 c2 ∧ i = .int .i64 (k : Int) ∧ Hid (Pairs wr wr.heap.size A1 n1 c1 (ModelP.upto s l k) ∧ Pairs wr wr.heap.size A2 n2 c2 (ModelP.upto s l k) ∧ Below w.heap.size w wr)) (fun _ _ i _ => m - (intOf i).toNat)
  case atStart => exact ⟨0, A, n, c, A, n, c, Nat.zero_le _, rfl, rfl, rfl, Lib.hid ⟨H.out.next HB_3.out, H.out.next HB_3.out, HB_3.out⟩⟩
  case round =>
    obtain ⟨k, A1, n1, c1, A2, n2, c2, hk, rfl, rfl, rfl, HK⟩ := hrel
    have hsz := HK.out.2.2.size
    have hkl : k ≤ l.length := by rw [HLM.out]; exact hk
    have HUR := Lib.hid (upto_right HRT.out l k hkl)
    have HUS : Hid (Small (ModelP.upto s l k)) := Lib.hid ⟨by have := ModelP.upto_length s l k hkl; rw [HLN.out] at this; omega, ModelP.upto_data HRT.out.2 HSM.out.data HLD.out k hkl⟩
    by_cases hlt : k < m
    · obtain ⟨b, o, x, Ax, nx, cx, rfl, hbB, hx, hby, hxk, i1, i2, i3, i4, c0, c1', c2', c3, c4, c5⟩ := op_at (HO.out.below HK.out.2.2) hlt
      have hxd := HLD.out x (List.mem_of_getElem? hx)
      have HUP := Lib.hid (ModelP.upto_succ (s := s) hx).1
      obtain ⟨xact, xk, xdata, xlo, xhi, xn⟩ := x
      dsimp only at *
      obtain ⟨r, hr⟩ : ∃ r, ModelP.step (ModelP.upto s l k) ⟨xact, xk, xdata, xlo, xhi, xn⟩ = r := ⟨_, rfl⟩
      rw [hr] at HUP
      have HRR := Lib.hid hr
      have HY := Lib.hid (hby.more (show w.heap.size ≤ wr.heap.size by omega))
      have hnx : nx ≤ 100000 := by rw [← hby.len]; exact hxd
      clear hx hby hxd hr
      have hbw : b < wr.heap.size := by omega
      go_wp2_with fail
      refine (Step_any A1 n1 c1 wr.heap.size (ModelP.upto s l k) xact xk xdata Ax nx cx wr.heap.size xlo xhi xn _ HK.out.1 (Nat.le_refl _) HUR.out.2 HUS.out HY.out (Nat.le_refl _) hxk i2 i3 i4 hnx).mono ?_
      rw [HRR.out]
      rintro e V1 ⟨A3, n3, c3', Aa, na, ca, rfl, hp3, hy3, hb1⟩
      have d0 := (hb1.cell (p := ⟨b, o + k * 6, none⟩) hbw).trans c0
      have d1 := (hb1.cell (p := ⟨b, o + k * 6 + 1, none⟩) hbw).trans c1'
      have d2 := (hb1.cell (p := ⟨b, o + k * 6 + 2, none⟩) hbw).trans c2'
      have d3 := (hb1.cell (p := ⟨b, o + k * 6 + 3, none⟩) hbw).trans c3
      have d4 := (hb1.cell (p := ⟨b, o + k * 6 + 4, none⟩) hbw).trans c4
      have d5 := (hb1.cell (p := ⟨b, o + k * 6 + 5, none⟩) hbw).trans c5
      have hbw1 : b < V1.heap.size := by have := hb1.size; omega
      have HP3 := Lib.hid hp3
      have HY3 := Lib.hid hy3
      have HB1 := Lib.hid hb1
      clear hp3 hy3 hb1 c0 c1' c2' c3 c4 c5
      simp only [ansV]
      go_wp2_with fail
      generalize hV2 : V1.alloc (.cells #[.int .i64 r.2.err, .int .i64 r.2.cell.kind, .slice Aa na ca, .int .i64 r.2.cell.lo, .int .i64 r.2.cell.hi, .int .i64 r.2.cell.val] 39) = V2
      have HS2 : Hid (Str V2 V1.heap.size #[.int .i64 r.2.err, .int .i64 r.2.cell.kind, .slice Aa na ca, .int .i64 r.2.cell.lo, .int .i64 r.2.cell.hi, .int .i64 r.2.cell.val]) := Lib.hid (by rw [← hV2]; exact Str.new V1 _ _)
      have hba : Below V1.heap.size V1 V2 := by rw [← hV2]; exact balloc (bsame _) _
      have HB2 := Lib.hid (bstep HB1.out hba)
      have HP32 := Lib.hid (HP3.out.next hba)
      have HY32 := Lib.hid (HY3.out.next hba)
      clear hV2 hba HP3 HY3 d0 d1 d2 d3 d4 d5
      refine (RStep_any A2 n2 c2 V2.heap.size (ModelP.upto s l k) xk xdata Ax nx cx V2.heap.size xlo xhi xn V2 (HK.out.2.1.next HB2.out) (Nat.le_refl _) HUS.out (HY.out.next HB2.out) (Nat.le_refl _) hxk i2 i3 i4 HUR.out xact).mono ?_
      rw [HRR.out]
      rintro e V3 ⟨A4, n4, c4, Ab, nb, cb, rfl, hp4, hy4, hb3⟩
      have HS3 := Lib.hid (HS2.out.next hb3)
      have HB3 := Lib.hid (bstep HB2.out hb3)
      have HP33 := Lib.hid (HP32.out.next hb3)
      have HY33 := Lib.hid (HY32.out.next hb3)
      have HP4 := Lib.hid hp4
      have HY4 := Lib.hid hy4
      clear hp4 hy4 hb3 HP32 HY32 HS2
      obtain ⟨f0, f1, f2, f3, f4, f5⟩ := str6 HS3.out
      have hfl := HS3.out.lt
      simp only [ansV]
      go_wp2_with fail
      generalize hV4 : V3.alloc (.cells #[.int .i64 r.2.err, .int .i64 r.2.cell.kind, .slice Ab nb cb, .int .i64 r.2.cell.lo, .int .i64 r.2.cell.hi, .int .i64 r.2.cell.val] 39) = V4
      have HT4 : Hid (Str V4 V3.heap.size #[.int .i64 r.2.err, .int .i64 r.2.cell.kind, .slice Ab nb cb, .int .i64 r.2.cell.lo, .int .i64 r.2.cell.hi, .int .i64 r.2.cell.val]) := Lib.hid (by rw [← hV4]; exact Str.new V3 _ _)
      have hba4 : Below V3.heap.size V3 V4 := by rw [← hV4]; exact balloc (bsame _) _
      have HB4 := Lib.hid (bstep HB3.out hba4)
      have HS4 := Lib.hid (HS3.out.next hba4)
      have HP34 := Lib.hid (HP33.out.next hba4)
      have HP44 := Lib.hid (HP4.out.next hba4)
      have HY34 := Lib.hid (HY33.out.next hba4)
      have HY44 := Lib.hid (HY4.out.next hba4)
      clear hV4 hba4 f0 f1 f2 f3 f4 f5 hfl HS3 HP33 HP4 HY33 HY4
      have hul : n3 ≤ 100000 := by have h1 := HP34.out.len; have h2 := ModelP.upto_length s l (k + 1) (by rw [HLM.out]; omega); rw [HUP.out, HLN.out] at h2; omega
      have HSA : Hid (ModelP.sameAll r.1 r.1 = true) := Lib.hid (ModelP.same_self _)
      have HSB : Hid (ModelP.sameAns r.2 r.2 = true) := Lib.hid (ModelP.ans_self _)
      have HRG : Hid (ModelP.rightB r.1 = true) := Lib.hid ((ModelP.rightB_iff _).2 (by rw [← HUP.out]; exact upto_right HRT.out l (k + 1) (by rw [HLM.out]; omega)))
      obtain ⟨f0, f1, f2, f3, f4, f5⟩ := str6 HS4.out
      have hfl := HS4.out.lt
      obtain ⟨g0, g1, g2, g3, g4, g5⟩ := str6 HT4.out
      have hgl := HT4.out.lt
      refine (refSameS_any A3 A4 n3 c3' n4 c4 V4.heap.size V4.heap.size r.1 r.1 _ HP34.out (Nat.le_refl _) HP44.out (Nat.le_refl _) hul).mono ?_
      rw [HSA.out]
      rintro e V5 ⟨rfl, hb5⟩
      have HS5 := Lib.hid (HS4.out.next hb5)
      have HT5 := Lib.hid (HT4.out.next hb5)
      have HB5 := Lib.hid (bstep HB4.out hb5)
      have HP35 := Lib.hid (HP34.out.next hb5)
      have HP45 := Lib.hid (HP44.out.next hb5)
      have HY35 := Lib.hid (HY34.out.next hb5)
      have HY45 := Lib.hid (HY44.out.next hb5)
      clear hb5 f0 f1 f2 f3 f4 f5 hfl g0 g1 g2 g3 g4 g5 hgl HS4 HT4 HP34 HP44 HY34 HY44
      obtain ⟨f0, f1, f2, f3, f4, f5⟩ := str6 HS5.out
      have hfl := HS5.out.lt
      obtain ⟨g0, g1, g2, g3, g4, g5⟩ := str6 HT5.out
      have hgl := HT5.out.lt
      go_wp2_with fail
      refine (refSameAnswer_any r.2 r.2 Aa Ab na ca nb cb V5.heap.size V5.heap.size _ HY35.out (Nat.le_refl _) HY45.out (Nat.le_refl _)).mono ?_
      rw [HSB.out]
      rintro e V6 ⟨rfl, hb6⟩
      have HB6 := Lib.hid (bstep HB5.out hb6)
      have HP36 := Lib.hid (HP35.out.next hb6)
      have HP46 := Lib.hid (HP45.out.next hb6)
      clear hb6 f0 f1 f2 f3 f4 f5 hfl g0 g1 g2 g3 g4 g5 hgl HS5 HT5 HP35 HP45 HY35 HY45
      go_wp2_with fail
      refine (Right_any A3 n3 c3' V6.heap.size r.1 _ HP36.out (Nat.le_refl _) hul).mono ?_
      rw [HRG.out]
      rintro e V7 ⟨rfl, hb7⟩
      have HB7 := Lib.hid (bstep HB6.out hb7)
      have HP37 := Lib.hid (HP36.out.next hb7)
      have HP47 := Lib.hid (HP46.out.next hb7)
      clear hb7
      go_wp2
      go_roundw
      case rel => exact ⟨k + 1, A3, n3, c3', A4, n4, c4, by omega, rfl, rfl, by go_num, Lib.hid ⟨by rw [HUP.out]; exact HP37.out, by rw [HUP.out]; exact HP47.out, bstep HK.out.2.2 HB7.out⟩⟩
      case measure => simp [intOf]; omega
    · have hkm : k = m := by omega
      subst hkm
      have HUA : Hid (ModelP.upto s l k = (ModelP.run s l).1) := Lib.hid (by unfold ModelP.upto; rw [List.take_of_length_le (by rw [HLM.out]; exact Nat.le_refl _)])
      have HSA : Hid (ModelP.sameAll (ModelP.run s l).1 (ModelP.run s l).1 = true) := Lib.hid (ModelP.same_self _)
      go_wp2_with fail
      refine (Run_any A n c w.heap.size s Al k cl w.heap.size l _ (H.out.below HK.out.2.2) hsz HRT.out.2 ⟨by rw [HLN.out]; omega, HSM.out.data⟩ (HO.out.below HK.out.2.2) hsz (by omega) HLD.out).mono ?_
      rintro e V1 ⟨A3, n3, c3, A4, c4, rfl, hp3, ht3, hb1⟩
      have HP3 := Lib.hid hp3
      have HB1 := Lib.hid hb1
      have HP4 : Hid (Pairs V1 V1.heap.size A2 n2 c2 (ModelP.run s l).1) := Lib.hid (by rw [← HUA.out]; exact HK.out.2.1.next hb1)
      clear hp3 ht3 hb1
      go_wp2_with fail
      refine (refSameS_any A3 A2 n3 c3 n2 c2 V1.heap.size V1.heap.size (ModelP.run s l).1 (ModelP.run s l).1 _ HP3.out (Nat.le_refl _) HP4.out (Nat.le_refl _) (by have h1 := HP3.out.len; have h2 := ModelP.upto_length s l k hkl; rw [HUA.out, HLN.out] at h2; omega)).mono ?_
      rw [HSA.out]
      rintro e V2 ⟨rfl, hb2⟩
      have HB2 := Lib.hid (bstep HB1.out hb2)
      clear hb2
      go_wp2_with fail
      refine (Live09.live_any _).mono ?_
      rintro e V3 ⟨rfl, hb3⟩
      have HB3 := Lib.hid (bstep HK.out.2.2 (bstep HB2.out hb3))
      clear hb3
      go_wp2
      go_ret
      exact ⟨rfl, HB3.out⟩
theorem walk (v0 v1 : Value) (a0 : List Pair) (a1 : List OpX) (w : World) (g0 : RPairs w w.heap.size v0 a0) (g1 : ROps w w.heap.size v1 a1) :
    Calls Try.prog 5 #[v0, v1] w fun e w' => e = .returned (.bool true) ∧ Below w.heap.size w w' := by
  obtain ⟨A, n, c, rfl, h⟩ := g0
  obtain ⟨Al, m, cl, rfl, hl⟩ := g1
  cases hm : ModelP.muchS a0 with
  | true => exact way_muchS A n c a0 Al m cl a1 w h hl hm
  | false =>
    cases hml : ModelP.muchL a1 with
    | true => exact way_muchL A n c a0 Al m cl a1 w h hl hm hml
    | false =>
      cases hr : ModelP.rightB a0 with
      | true => exact way_main A n c a0 Al m cl a1 w h hl hm hml hr
      | false => exact way_wrong A n c a0 Al m cl a1 w h hl hm hml hr
end Go.Proofs.Ytghgccgpgonlmaa.modelSteps
