/-
  Loops over states: whether two are the same, what a key has, whether one may be.
-/
import Derived.Test.YtghgccgpgonlmaaModelH
import Derived.BigQuiet
namespace Go.Proofs.Ytghgccgpgonlmaa.ModelW
open Go.RowKit
set_option linter.unusedVariables false
set_option maxRecDepth 100000 in
set_option maxHeartbeats 1000000 in
theorem equal_any (A A' : Option Addr) (n c n' c' B B' : Nat) (l l' : List Pair) (w : World) (h : Pairs w B A n c l) (hB : B ≤ w.heap.size) (h' : Pairs w B' A' n' c' l') (hB' : B' ≤ w.heap.size) (hn : n ≤ 100000) :
    Calls Try.prog 70 #[.slice A n c, .slice A' n' c', .func (.func 71) #[] #[]] w fun e w' => e = .returned (.bool (ModelP.sameAll l l')) ∧ Below w.heap.size w w' := by
  have H := Lib.hid h
  have H' := Lib.hid h'
  have hl := h.len
  have hl' := h'.len
  clear h h'
  by_cases hnn : n = n'
  · subst hnn
    have HLL : Hid (l.length = l'.length) := Lib.hid (by rw [hl, hl'])
    clear hl'
    have HL := Lib.hid hl
    clear hl
    go_enter Try.func70, Try.ntmps70
    go_wp2
    go_loopw [17] (fun i wr => ∃ k : Nat, k ≤ n ∧ i = .int .i64 (k : Int) ∧ Hid (Below w.heap.size w wr ∧ ∀ (j : Nat) p q, j < k → l[j]? = some p → l'[j]? = some q → sameP p q = true)) (fun i _ => n - (intOf i).toNat)
    case atStart => exact ⟨0, Nat.zero_le _, rfl, Lib.hid ⟨bsame w, fun j p q hj => absurd hj (by omega)⟩⟩
    case round =>
      obtain ⟨k, hk, rfl, HK⟩ := hrel
      have hsz := HK.out.1.size
      by_cases hlt : k < n
      · obtain ⟨b, o, p, Ap, np, cp, rfl, hbB, hp, hby, -, -, -, -, -, c0, c1, c2, c3, c4, c5⟩ := pair_at (H.out.below (HK.out.1.mono hB)) hlt
        obtain ⟨b', o', q, Aq, nq', cq, rfl, hbB', hq, hby', -, -, -, -, -, d0, d1, d2, d3, d4, d5⟩ := pair_at (H'.out.below (HK.out.1.mono hB')) hlt
        have HP := Lib.hid hp
        have HQ := Lib.hid hq
        clear hp hq
        have HY := Lib.hid (hby.more (show B ≤ wr.heap.size by omega))
        have HY' := Lib.hid (hby'.more (show B' ≤ wr.heap.size by omega))
        clear hby hby'
        obtain ⟨pk, pkd, pda, plo, phi, pva⟩ := p
        obtain ⟨qk, qkd, qda, qlo, qhi, qva⟩ := q
        dsimp only at *
        have hbw : b < wr.heap.size := by omega
        have hbw' : b' < wr.heap.size := by omega
        go_wp2_with fail
        have h1 : Below wr.heap.size wr ((wr.alloc (.cells #[.string pk, .int .i64 pkd, .slice Ap np cp, .int .i64 plo, .int .i64 phi, .int .i64 pva] 103)).alloc (.cells #[.string qk, .int .i64 qkd, .slice Aq nq' cq, .int .i64 qlo, .int .i64 qhi, .int .i64 qva] 103)) := balloc (balloc (bsame wr) _) _
        refine (same1_any ⟨pk, pkd, pda, plo, phi, pva⟩ ⟨qk, qkd, qda, qlo, qhi, qva⟩ Ap Aq np cp nq' cq wr.heap.size wr.heap.size _ (HY.out.below h1) h1.size (HY'.out.below h1) h1.size).mono ?_
        by_cases hs : sameP ⟨pk, pkd, pda, plo, phi, pva⟩ ⟨qk, qkd, qda, qlo, qhi, qva⟩ = true
        · rw [hs]
          rintro e w1 ⟨rfl, hb1⟩
          have HB1 := Lib.hid (bstep HK.out.1 (bstep h1 hb1))
          have HS := Lib.hid hs
          clear hb1 h1 hs
          go_wp2
          go_roundw
          case rel => exact ⟨k + 1, by omega, by go_num, Lib.hid ⟨HB1.out, fun j p q hj h1 h2 => by
            rcases Nat.lt_or_ge j k with h3 | h3
            · exact HK.out.2 j p q h3 h1 h2
            · have : j = k := by omega
              subst this
              rw [HP.out] at h1; rw [HQ.out] at h2
              cases h1; cases h2
              exact HS.out⟩⟩
          case measure => simp [intOf]; omega
        · have hs : sameP ⟨pk, pkd, pda, plo, phi, pva⟩ ⟨qk, qkd, qda, qlo, qhi, qva⟩ = false := by simpa using hs
          rw [hs]
          rintro e w1 ⟨rfl, hb1⟩
          have HB1 := Lib.hid (bstep HK.out.1 (bstep h1 hb1))
          have HS := Lib.hid hs
          clear hb1 h1 hs
          go_wp2
          go_ret
          exact ⟨by rw [sameAll_at HP.out HQ.out HS.out]; rfl, HB1.out⟩
      · have hk' : k = n := by omega
        subst hk'
        go_wp2
        go_ret
        exact ⟨by rw [sameAll_of HLL.out (fun j p q h1 h2 => HK.out.2 j p q (by rw [← HL.out]; exact (List.getElem?_eq_some_iff.1 h1).1) h1 h2)]; rfl, HK.out.1⟩
  · have HE : Hid (ModelP.sameAll l l' = false) := Lib.hid (sameAll_len (by rw [hl, hl']; exact hnn))
    clear hl hl'
    have hne : ((n : Int) != (n' : Int)) = true := by simp; omega
    go_enter Try.func70, Try.ntmps70
    go_wp2
    go_ret
    exact ⟨by rw [HE.out]; rfl, bsame w⟩
theorem Same_any (A A' : Option Addr) (n c n' c' B B' : Nat) (l l' : List Pair) (w : World) (h : Pairs w B A n c l) (hB : B ≤ w.heap.size) (h' : Pairs w B' A' n' c' l') (hB' : B' ≤ w.heap.size) (hn : n ≤ 100000) :
    Calls Try.prog 31 #[.slice A n c, .slice A' n' c'] w fun e w' => e = .returned (.bool (ModelP.sameAll l l')) ∧ Below w.heap.size w w' := by
  have H := Lib.hid h
  have H' := Lib.hid h'
  clear h h'
  go_enter Try.func31, Try.ntmps31
  go_wp2_with fail
  refine (equal_any A A' n c n' c' B B' l l' w H.out hB H'.out hB' hn).mono ?_
  rintro e w1 ⟨rfl, hb⟩
  go_wp2
  go_ret
  exact ⟨rfl, hb⟩
/-- the call hands back a cell, and whether there is one -/
def GivesFind (w : World) (r : Option Cell) (e : Ending) (w' : World) : Prop :=
  ∃ A n c, e = .returned (.tuple #[.agg #[.int .i64 (r.getD CellP.none).kind, .slice A n c, .int .i64 (r.getD CellP.none).lo, .int .i64 (r.getD CellP.none).hi, .int .i64 (r.getD CellP.none).val], .bool r.isSome]) ∧ Bytes w' w'.heap.size A n c (r.getD CellP.none).data ∧ Below w.heap.size w w'
theorem find_at {l : List Pair} {k : ByteArray} {i : Nat} {p : Pair} (hp : l[i]? = some p) (hk : p.key = k) (h : ∀ (j : Nat) q, j < i → l[j]? = some q → ¬ q.key = k) : ModelP.find l k = some p.cell := by
  induction l generalizing i with
  | nil => simp at hp
  | cons q l ih =>
    unfold ModelP.find
    cases i with
    | zero => simp at hp; subst hp; rw [if_pos hk]
    | succ i =>
      rw [if_neg (h 0 q (by omega) rfl)]
      exact ih (by simpa using hp) (fun j r hj hr => h (j + 1) r (by omega) (by simpa using hr))
theorem find_no {l : List Pair} {k : ByteArray} (h : ∀ (j : Nat) q, l[j]? = some q → ¬ q.key = k) : ModelP.find l k = none := by
  induction l with
  | nil => rfl
  | cons q l ih =>
    unfold ModelP.find
    rw [if_neg (h 0 q rfl)]
    exact ih (fun j r hr => h (j + 1) r (by simpa using hr))
set_option maxRecDepth 100000 in
set_option maxHeartbeats 1000000 in
theorem Find_any (A : Option Addr) (n c B : Nat) (l : List Pair) (key : ByteArray) (w : World) (h : Pairs w B A n c l) (hB : B ≤ w.heap.size) (hn : n ≤ 100000) (hd : ∀ p ∈ l, p.cell.data.length ≤ 100000) :
    Calls Try.prog 28 #[.slice A n c, .string key] w (GivesFind w (ModelP.find l key)) := by
  have H := Lib.hid h
  have HL := Lib.hid h.len
  have HD := Lib.hid hd
  clear h hd
  go_enter Try.func28, Try.ntmps28
  go_wp2
  generalize hW0 : w.alloc (.cells #[.int .i64 0, .slice none 0 0, .int .i64 0, .int .i64 0, .int .i64 0] 37) = W0
  have HS0 : Hid (Str W0 w.heap.size #[.int .i64 0, .slice none 0 0, .int .i64 0, .int .i64 0, .int .i64 0]) := Lib.hid (by rw [← hW0]; exact Str.new w _ _)
  have HB0 : Hid (Below w.heap.size w W0) := Lib.hid (by rw [← hW0]; exact balloc (bsame w) _)
  clear hW0
  have hl0 := HS0.out.lt
  go_loopw [10] (fun i wr => ∃ k : Nat, k ≤ n ∧ i = .int .i64 (k : Int) ∧ Hid (Below W0.heap.size W0 wr ∧ ∀ (j : Nat) q, j < k → l[j]? = some q → ¬ q.key = key)) (fun i _ => n - (intOf i).toNat)
  case atStart => exact ⟨0, Nat.zero_le _, rfl, Lib.hid ⟨bsame W0, fun j q hj => absurd hj (by omega)⟩⟩
  case round =>
    obtain ⟨k, hk, rfl, HK⟩ := hrel
    have hsz := HK.out.1.size
    have HBw := Lib.hid (bstep HB0.out HK.out.1)
    have hszw := HBw.out.size
    by_cases hlt : k < n
    · obtain ⟨b, o, p, Ap, np, cp, rfl, hbB, hp, hby, -, -, -, -, -, c0, c1, c2, c3, c4, c5⟩ := pair_at (H.out.below (HBw.out.mono hB)) hlt
      have HP := Lib.hid hp
      have hnp : np ≤ 100000 := by have := HD.out p (List.mem_of_getElem? hp); rw [hby.len] at this; exact this
      clear hp
      have HY := Lib.hid (hby.more (show B ≤ wr.heap.size by omega))
      clear hby
      obtain ⟨pk, pkd, pda, plo, phi, pva⟩ := p
      dsimp only at *
      have hbw : b < wr.heap.size := by omega
      by_cases he : (pk.toList == key.toList) = true
      · have HE := Lib.hid (find_at HP.out (key_inj (by simpa using he)) HK.out.2)
        have HS1 := Lib.hid (HS0.out.next HK.out.1)
        obtain ⟨f0, f1, f2, f3, f4⟩ := str5 HS1.out
        have hff := fun j => HS1.out.frozen j
        have hfl := HS1.out.lt
        dsimp only at HE
        go_wp2_with fail
        generalize hW1 : wr.alloc (.cells #[.string pk, .int .i64 pkd, .slice Ap np cp, .int .i64 plo, .int .i64 phi, .int .i64 pva] 103) = W1
        have HS2 : Hid (Str W1 w.heap.size #[.int .i64 0, .slice none 0 0, .int .i64 0, .int .i64 0, .int .i64 0]) := Lib.hid (by rw [← hW1]; exact HS1.out.alloc _)
        have hba : Below wr.heap.size wr W1 := by rw [← hW1]; exact balloc (bsame _) _
        have hba2 := hba.size
        clear hW1
        refine (copyCell_any [] Ap np cp wr.heap.size pkd pda plo phi pva _ (by intro b hb; cases hb) (HY.out.below hba) hba.size hnp).mono ?_
        rintro e W2 ⟨A1, n1, c1', rfl, hy1, hb1⟩
        have HY1 : Hid (Bytes W2 W2.heap.size A1 n1 c1' pda) := Lib.hid hy1.bytes
        have HS3 := Lib.hid (HS2.out.next hb1)
        have HB2 := Lib.hid (bstep HBw.out (bstep hba hb1))
        have hsz2 := HB2.out.size
        clear hba hb1 f0 f1 f2 f3 f4 hff hfl HS1 HS2 hy1
        obtain ⟨f0, f1, f2, f3, f4⟩ := str5 HS3.out
        have hff := fun j => HS3.out.frozen j
        have hfl := HS3.out.lt
        go_wp2_with fail
        generalize hW3 : (((((W2).setCell ⟨w.heap.size, 0, none⟩ (.int .i64 pkd)).setCell ⟨w.heap.size, 1, none⟩ (.slice A1 n1 c1')).setCell ⟨w.heap.size, 2, none⟩ (.int .i64 plo)).setCell ⟨w.heap.size, 3, none⟩ (.int .i64 phi)).setCell ⟨w.heap.size, 4, none⟩ (.int .i64 pva) = W3
        have hgr : W2.grownBy W3 (some w.heap.size) := by rw [← hW3]; exact grown_set (grown_set (grown_set (grown_set (grown_set (grown_refl W2 w.heap.size) 0 (.int .i64 pkd)) 1 (.slice A1 n1 c1')) 2 (.int .i64 plo)) 3 (.int .i64 phi)) 4 (.int .i64 pva)
        have HSf : Str W3 w.heap.size #[.int .i64 pkd, .slice A1 n1 c1', .int .i64 plo, .int .i64 phi, .int .i64 pva] := by rw [← hW3]; have := (((((HS3.out).set 0 (.int .i64 pkd)).set 1 (.slice A1 n1 c1')).set 2 (.int .i64 plo)).set 3 (.int .i64 phi)).set 4 (.int .i64 pva); simpa using this
        clear f0 f1 f2 f3 f4 hW3
        obtain ⟨f0, f1, f2, f3, f4⟩ := str5 HSf
        clear HSf
        exact bodyPost_ret (v := .tuple #[.agg #[.int .i64 pkd, .slice A1 n1 c1', .int .i64 plo, .int .i64 phi, .int .i64 pva], .bool true]) (by simp [results, Try.results28, go_sem, *]) rfl ⟨A1, n1, c1', by rw [HE.out]; rfl, by rw [HE.out]; exact Bytes.more (Bytes.grown HY1.out (Nat.le_refl _) HS3.out rfl hgr) hgr.size, below_grownO HB2.out hgr (by omega) (by intro j hj; cases hj; omega)⟩
      · have he : (pk.toList == key.toList) = false := by simpa using he
        have HNE : Hid (¬ pk = key) := Lib.hid (by rintro rfl; simp at he)
        go_wp2
        go_roundw
        case rel => exact ⟨k + 1, by omega, by go_num, Lib.hid ⟨bstep HK.out.1 (balloc (bsame wr) _), fun j q hj hq => by
          rcases Nat.lt_or_ge j k with h3 | h3
          · exact HK.out.2 j q h3 hq
          · have : j = k := by omega
            subst this
            rw [HP.out] at hq
            cases hq
            exact HNE.out⟩⟩
        case measure => simp [intOf]; omega
    · have hk' : k = n := by omega
      subst hk'
      have HE := Lib.hid (find_no (l := l) (k := key) (fun j q hq => HK.out.2 j q (by rw [← HL.out]; exact (List.getElem?_eq_some_iff.1 hq).1) hq))
      have HS1 := Lib.hid (HS0.out.next HK.out.1)
      obtain ⟨f0, f1, f2, f3, f4⟩ := str5 HS1.out
      have hff := fun j => HS1.out.frozen j
      have hfl := HS1.out.lt
      go_wp2_with fail
      generalize hW3 : ((((wr.setCell ⟨w.heap.size, 0, none⟩ (.int .i64 0)).setCell ⟨w.heap.size, 1, none⟩ (.slice none 0 0)).setCell ⟨w.heap.size, 2, none⟩ (.int .i64 0)).setCell ⟨w.heap.size, 3, none⟩ (.int .i64 0)).setCell ⟨w.heap.size, 4, none⟩ (.int .i64 0) = W3
      have hgr : wr.grownBy W3 (some w.heap.size) := by rw [← hW3]; exact grown_set (grown_set (grown_set (grown_set (grown_set (grown_refl wr _) 0 _) 1 _) 2 _) 3 _) 4 _
      have HSf : Str W3 w.heap.size #[.int .i64 0, .slice none 0 0, .int .i64 0, .int .i64 0, .int .i64 0] := by rw [← hW3]; have := ((((HS1.out.set 0 (.int .i64 0)).set 1 (.slice none 0 0)).set 2 (.int .i64 0)).set 3 (.int .i64 0)).set 4 (.int .i64 0); simpa using this
      clear f0 f1 f2 f3 f4 hW3
      obtain ⟨f0, f1, f2, f3, f4⟩ := str5 HSf
      clear HSf
      exact bodyPost_ret (v := .tuple #[.agg #[.int .i64 0, .slice none 0 0, .int .i64 0, .int .i64 0, .int .i64 0], .bool false]) (by simp [results, Try.results28, go_sem, *]) rfl ⟨none, 0, 0, by rw [HE.out]; rfl, by rw [HE.out]; exact Bytes.none_ _ _, below_grownO HBw.out hgr (by omega) (by intro j hj; cases hj; omega)⟩
set_option maxRecDepth 100000 in
set_option maxHeartbeats 1000000 in
theorem refFind_any (A : Option Addr) (n c B : Nat) (l : List Pair) (key : ByteArray) (w : World) (h : Pairs w B A n c l) (hB : B ≤ w.heap.size) (hn : n ≤ 100000) (hd : ∀ p ∈ l, p.cell.data.length ≤ 100000) :
    Calls Try.prog 29 #[.slice A n c, .string key] w (GivesFind w (ModelP.find l key)) := by
  have H := Lib.hid h
  have HL := Lib.hid h.len
  have HD := Lib.hid hd
  clear h hd
  go_enter Try.func29, Try.ntmps29
  go_wp2
  generalize hW0 : w.alloc (.cells #[.int .i64 0, .slice none 0 0, .int .i64 0, .int .i64 0, .int .i64 0] 37) = W0
  have HS0 : Hid (Str W0 w.heap.size #[.int .i64 0, .slice none 0 0, .int .i64 0, .int .i64 0, .int .i64 0]) := Lib.hid (by rw [← hW0]; exact Str.new w _ _)
  have HB0 : Hid (Below w.heap.size w W0) := Lib.hid (by rw [← hW0]; exact balloc (bsame w) _)
  clear hW0
  have hl0 := HS0.out.lt
  go_loopw [6] (fun i wr => ∃ k : Nat, k ≤ n ∧ i = .int .i64 (k : Int) ∧ Hid (Below W0.heap.size W0 wr ∧ ∀ (j : Nat) q, j < k → l[j]? = some q → ¬ q.key = key)) (fun i _ => n - (intOf i).toNat)
  case atStart => exact ⟨0, Nat.zero_le _, rfl, Lib.hid ⟨bsame W0, fun j q hj => absurd hj (by omega)⟩⟩
  case round =>
    obtain ⟨k, hk, rfl, HK⟩ := hrel
    have hsz := HK.out.1.size
    have HBw := Lib.hid (bstep HB0.out HK.out.1)
    have hszw := HBw.out.size
    by_cases hlt : k < n
    · obtain ⟨b, o, p, Ap, np, cp, rfl, hbB, hp, hby, -, -, -, -, -, c0, c1, c2, c3, c4, c5⟩ := pair_at (H.out.below (HBw.out.mono hB)) hlt
      have HP := Lib.hid hp
      have hnp : np ≤ 100000 := by have := HD.out p (List.mem_of_getElem? hp); rw [hby.len] at this; exact this
      clear hp
      have HY := Lib.hid (hby.more (show B ≤ wr.heap.size by omega))
      clear hby
      obtain ⟨pk, pkd, pda, plo, phi, pva⟩ := p
      dsimp only at *
      have hbw : b < wr.heap.size := by omega
      by_cases he : (pk.toList == key.toList) = true
      · have HE := Lib.hid (find_at HP.out (key_inj (by simpa using he)) HK.out.2)
        have HS1 := Lib.hid (HS0.out.next HK.out.1)
        obtain ⟨f0, f1, f2, f3, f4⟩ := str5 HS1.out
        have hff := fun j => HS1.out.frozen j
        have hfl := HS1.out.lt
        dsimp only at HE
        go_wp2_with fail
        generalize hW3 : (((((wr).setCell ⟨w.heap.size, 0, none⟩ (.int .i64 pkd)).setCell ⟨w.heap.size, 1, none⟩ (.slice Ap np cp)).setCell ⟨w.heap.size, 2, none⟩ (.int .i64 plo)).setCell ⟨w.heap.size, 3, none⟩ (.int .i64 phi)).setCell ⟨w.heap.size, 4, none⟩ (.int .i64 pva) = W3
        have hgr : wr.grownBy W3 (some w.heap.size) := by rw [← hW3]; exact grown_set (grown_set (grown_set (grown_set (grown_set (grown_refl wr w.heap.size) 0 (.int .i64 pkd)) 1 (.slice Ap np cp)) 2 (.int .i64 plo)) 3 (.int .i64 phi)) 4 (.int .i64 pva)
        have HSf : Str W3 w.heap.size #[.int .i64 pkd, .slice Ap np cp, .int .i64 plo, .int .i64 phi, .int .i64 pva] := by rw [← hW3]; have := (((((HS1.out).set 0 (.int .i64 pkd)).set 1 (.slice Ap np cp)).set 2 (.int .i64 plo)).set 3 (.int .i64 phi)).set 4 (.int .i64 pva); simpa using this
        clear f0 f1 f2 f3 f4 hW3
        obtain ⟨f0, f1, f2, f3, f4⟩ := str5 HSf
        clear HSf
        exact bodyPost_ret (v := .tuple #[.agg #[.int .i64 pkd, .slice Ap np cp, .int .i64 plo, .int .i64 phi, .int .i64 pva], .bool true]) (by simp [results, Try.results29, go_sem, *]) rfl ⟨Ap, np, cp, by rw [HE.out]; rfl, by rw [HE.out]; exact Bytes.more (Bytes.grown HY.out (Nat.le_refl _) HS1.out rfl hgr) hgr.size, below_grownO HBw.out hgr (by omega) (by intro j hj; cases hj; omega)⟩
      · have he : (pk.toList == key.toList) = false := by simpa using he
        have HNE : Hid (¬ pk = key) := Lib.hid (by rintro rfl; simp at he)
        go_wp2
        go_roundw
        case rel => exact ⟨k + 1, by omega, by go_num, Lib.hid ⟨HK.out.1, fun j q hj hq => by
          rcases Nat.lt_or_ge j k with h3 | h3
          · exact HK.out.2 j q h3 hq
          · have : j = k := by omega
            subst this
            rw [HP.out] at hq
            cases hq
            exact HNE.out⟩⟩
        case measure => simp [intOf]; omega
    · have hk' : k = n := by omega
      subst hk'
      have HE := Lib.hid (find_no (l := l) (k := key) (fun j q hq => HK.out.2 j q (by rw [← HL.out]; exact (List.getElem?_eq_some_iff.1 hq).1) hq))
      have HS1 := Lib.hid (HS0.out.next HK.out.1)
      obtain ⟨f0, f1, f2, f3, f4⟩ := str5 HS1.out
      have hff := fun j => HS1.out.frozen j
      have hfl := HS1.out.lt
      go_wp2_with fail
      generalize hW3 : ((((wr.setCell ⟨w.heap.size, 0, none⟩ (.int .i64 0)).setCell ⟨w.heap.size, 1, none⟩ (.slice none 0 0)).setCell ⟨w.heap.size, 2, none⟩ (.int .i64 0)).setCell ⟨w.heap.size, 3, none⟩ (.int .i64 0)).setCell ⟨w.heap.size, 4, none⟩ (.int .i64 0) = W3
      have hgr : wr.grownBy W3 (some w.heap.size) := by rw [← hW3]; exact grown_set (grown_set (grown_set (grown_set (grown_set (grown_refl wr _) 0 _) 1 _) 2 _) 3 _) 4 _
      have HSf : Str W3 w.heap.size #[.int .i64 0, .slice none 0 0, .int .i64 0, .int .i64 0, .int .i64 0] := by rw [← hW3]; have := ((((HS1.out.set 0 (.int .i64 0)).set 1 (.slice none 0 0)).set 2 (.int .i64 0)).set 3 (.int .i64 0)).set 4 (.int .i64 0); simpa using this
      clear f0 f1 f2 f3 f4 hW3
      obtain ⟨f0, f1, f2, f3, f4⟩ := str5 HSf
      clear HSf
      exact bodyPost_ret (v := .tuple #[.agg #[.int .i64 0, .slice none 0 0, .int .i64 0, .int .i64 0, .int .i64 0], .bool false]) (by simp [results, Try.results29, go_sem, *]) rfl ⟨none, 0, 0, by rw [HE.out]; rfl, by rw [HE.out]; exact Bytes.none_ _ _, below_grownO HBw.out hgr (by omega) (by intro j hj; cases hj; omega)⟩
end Go.Proofs.Ytghgccgpgonlmaa.ModelW
