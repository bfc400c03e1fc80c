/-
  Parts of the proof of WalStays.
-/
import Derived.Test.YtpdfnlhhnodnjaaGreatWsG4
import Derived.Test.YtpdfnlhhnodnjaaGreatProg
import Derived.Test.YtpdfnlhhnodnjaaGreatWsG3
import Derived.Test.YtpdfnlhhnodnjaaGreatWsG0
import Derived.Test.YtpdfnlhhnodnjaaGreatWsG2
import Derived.Test.YtpdfnlhhnodnjaaGreatWsG1
import Derived.Lib.SliceRun
section
namespace Go.Proofs.YtpdfnlhhnodnjaaGreat.SlotW
open Go.RowKit

theorem code_true : CellP.code true = 0 := rfl
theorem code_false : CellP.code false = 1 := rfl

set_option maxHeartbeats 1000000 in
theorem check_any (A : Option Addr) (n cap B : Nat) (x : Item) (w : World) (h : Bytes w B A n cap x.cell.data) (hB : B ≤ w.heap.size) (hk : x.key.size ≤ maxLen) :
    Calls Tryz.prog 92 #[itemV A n cap x] w fun e w' => e = .returned (.int .i64 (CellP.code (SlotP.right x))) ∧ Below w.heap.size w w' := by
  have HS := Lib.hid (fun W (hW : Bytes W B A n cap x.cell.data) (hB : B ≤ W.heap.size) => same_any A none n cap 0 0 B 0 x SlotP.none W hW (empty_bytes W) hB (Nat.zero_le _))
  have HC := Lib.hid (fun W => CellW.check_any A n cap x.cell W h.len (Nat.le_trans h.2.1 h.2.2.1))
  have HK := Lib.hid (fun W => Key.check_any x.key W hk)
  have H := Lib.hid h
  clear h
  obtain ⟨s, k, kind, data, lo, hi, val⟩ := x
  dsimp only at *
  by_cases hs : s = 0
  · subst hs
    cases hr : SlotP.same ⟨0, k, kind, data, lo, hi, val⟩ SlotP.none
    all_goals
      have HRS := Lib.hid hr
      have HR := Lib.hid (show SlotP.right ⟨0, k, kind, data, lo, hi, val⟩ = _ from (by simp [SlotP.right] : _ = SlotP.same ⟨0, k, kind, data, lo, hi, val⟩ SlotP.none).trans hr)
      clear hr
      rw [HR.out]
      go_enter Tryz.func92, Tryz.ntmps92
      go_wp2_with fail
      refine (HS.out _ (H.out.alloc hB _) (by simp; omega)).mono ?_
      rintro e w1 ⟨rfl, hb⟩
      rw [HRS.out]
      go_wp2_with fail
      go_ret
      exact ⟨rfl, bstep (balloc (bsame _) _) hb⟩
  · have hs0 : (s == 0) = false := by simpa using hs
    by_cases h12 : s = 1 ∨ s = 2
    · cases hkr : KeyP.right k.data.toList
      · have HR : Hid (SlotP.right ⟨s, k, kind, data, lo, hi, val⟩ = false) := Lib.hid (by simp [SlotP.right, hs, hkr])
        rw [HR.out]
        have HKR := Lib.hid hkr
        clear hkr
        have hkf : KeyP.code false = 1 := rfl
        rcases h12 with rfl | rfl
        all_goals
          go_enter Tryz.func92, Tryz.ntmps92
          go_wp2_with (go_at_call 91; refine (HK.out _).mono ?_; rintro e w1 ⟨rfl, hb⟩; rw [HKR.out]; obtain ⟨hc1, hf1⟩ := bcell hb; have hsz : w.heap.size < w1.heap.size := (by have := hb.size; simp at this; omega))
          go_ret
          exact ⟨rfl, bstep (balloc (bsame _) _) hb⟩
      · have HR : Hid (SlotP.right ⟨s, k, kind, data, lo, hi, val⟩ = CellP.right ⟨kind, data, lo, hi, val⟩) := Lib.hid (by rcases h12 with rfl | rfl <;> simp [SlotP.right, hkr])
        rw [HR.out]
        have HKR := Lib.hid hkr
        clear hkr
        have hkt : KeyP.code true = 0 := rfl
        cases hcr : CellP.right ⟨kind, data, lo, hi, val⟩
        all_goals
          have HCR := Lib.hid hcr
          clear hcr
          have hc0 := code_true
          have hc1 := code_false
          rcases h12 with rfl | rfl
          all_goals
            go_enter Tryz.func92, Tryz.ntmps92
            go_wp2_with (first
              | (go_at_call 91; refine (HK.out _).mono ?_; rintro e w1 ⟨rfl, hb⟩; rw [HKR.out]; obtain ⟨hcc, hff⟩ := bcell hb; have hsz : w.heap.size < w1.heap.size := (by have := hb.size; simp at this; omega))
              | (go_at_call 110; refine (HC.out _).mono ?_; rintro e w2 ⟨rfl, hb2⟩; rw [HCR.out]))
            go_ret
            exact ⟨rfl, bstep (bstep (balloc (bsame _) _) hb) hb2⟩
    · have h1 : (s == 1) = false := by simp; omega
      have h2 : (s == 2) = false := by simp; omega
      have HR : Hid (SlotP.right ⟨s, k, kind, data, lo, hi, val⟩ = false) := Lib.hid (by simp [SlotP.right, hs]; omega)
      rw [HR.out]
      clear h12
      go_enter Tryz.func92, Tryz.ntmps92
      go_wp2
      go_ret
      exact ⟨rfl, balloc (bsame _) _⟩

end Go.Proofs.YtpdfnlhhnodnjaaGreat.SlotW
end
section
namespace Go.Proofs.YtpdfnlhhnodnjaaGreat.CellW
open Go.RowKit

end Go.Proofs.YtpdfnlhhnodnjaaGreat.CellW
end
section
namespace Go.Proofs.YtpdfnlhhnodnjaaGreat
theorem str10 {w : World} {b : Nat} {c0 c1 c2 c3 c4 c5 c6 c7 c8 c9 : Value} (h : Str w b #[c0, c1, c2, c3, c4, c5, c6, c7, c8, c9]) : w.cell? ⟨b, 0, none⟩ = some c0 ∧ w.cell? ⟨b, 1, none⟩ = some c1 ∧ w.cell? ⟨b, 2, none⟩ = some c2 ∧ w.cell? ⟨b, 3, none⟩ = some c3 ∧ w.cell? ⟨b, 4, none⟩ = some c4 ∧ w.cell? ⟨b, 5, none⟩ = some c5 ∧ w.cell? ⟨b, 6, none⟩ = some c6 ∧ w.cell? ⟨b, 7, none⟩ = some c7 ∧ w.cell? ⟨b, 8, none⟩ = some c8 ∧ w.cell? ⟨b, 9, none⟩ = some c9 := ⟨h.cell 0, h.cell 1, h.cell 2, h.cell 3, h.cell 4, h.cell 5, h.cell 6, h.cell 7, h.cell 8, h.cell 9⟩
end Go.Proofs.YtpdfnlhhnodnjaaGreat
namespace Go.Proofs.YtpdfnlhhnodnjaaGreat.UndoW
open Go.RowKit

theorem eql_nil (w : World) (a : Option Addr) (l c : Nat) : (binOp .eql 32 (.slice a l c) (.slice none 0 0)).run Tryz.prog w = .ok (.bool a.isNone) w := Lib.run_eql_slice_nil w _ _ a l c 0 0 Tryz.underlying32
section
attribute [local go_sem ↓] app_fold
set_option maxRecDepth 100000 in
set_option maxHeartbeats 400000 in
theorem clone_any (A : Option Addr) (n c B : Nat) (l : List UInt8) (w : World) (h : Bytes w B A n c l) (hB : B ≤ w.heap.size) (hn : n ≤ 140737488355328) :
    Calls Tryz.prog 35 #[.slice A n c] w (GivesBytes w l) := by
  cases A with
  | none =>
    have h0 : n = 0 := by
      rcases Nat.eq_zero_or_pos n with h0 | h0
      · exact h0
      · obtain ⟨b, o, e, -⟩ := h.2.2.2 h0
        cases e
    have hl : l = [] := List.eq_nil_of_length_eq_zero (by rw [h.1, h0])
    subst hl
    subst h0
    clear h
    have heq := eql_nil w none 0 c
    go_enter Tryz.func35, Tryz.ntmps35
    go_wp2
    go_ret
    exact ⟨none, 0, 0, rfl, Bytes.none_ _ _, bsame w⟩
  | some a =>
    obtain ⟨A3, c3, w3, happ3, hO3, hb3⟩ := (Own.empty w w.heap.size (Nat.le_refl _)).app (h.alloc hB _) (by omega) (by simp)
    simp only [Nat.zero_add, List.nil_append] at happ3 hO3
    have HB : Hid (Below w.heap.size w w3) := Lib.hid (((Below.refl _ w).alloc (Nat.le_refl _) _).trans hb3)
    have HO := Lib.hid hO3
    clear h hO3 hb3
    have heq := eql_nil w (some a) n c
    go_enter Tryz.func35, Tryz.ntmps35
    go_wp2
    go_ret
    exact ⟨A3, n, c3, rfl, HO.out.bytes, HB.out⟩
end
end Go.Proofs.YtpdfnlhhnodnjaaGreat.UndoW
end
section
namespace Go.Proofs.YtpdfnlhhnodnjaaGreat.UndoW
open Go.RowKit
set_option linter.unusedVariables false

set_option maxRecDepth 100000 in
set_option maxHeartbeats 1000000 in
theorem same_any (pact : Int) (puk : ByteArray) (Ap : Option Addr) (np cp Bp : Nat) (pst : Int) (pk : ByteArray) (pkd : Int) (pda : List UInt8) (plo phi pva : Int) (pun : Int) (qact : Int) (quk : ByteArray) (Aq : Option Addr) (nq cq Bq : Nat) (qst : Int) (qk : ByteArray) (qkd : Int) (qda : List UInt8) (qlo qhi qva : Int) (qun : Int) (w : World) (hp : Bytes w Bp Ap np cp pda) (hBp : Bp ≤ w.heap.size) (hq : Bytes w Bq Aq nq cq qda) (hBq : Bq ≤ w.heap.size) : Calls Tryz.prog 62 #[.agg #[.int .i64 pact, .string puk, .int .i64 pst, .string pk, .int .i64 pkd, .slice Ap np cp, .int .i64 plo, .int .i64 phi, .int .i64 pva, .int .i64 pun], .agg #[.int .i64 qact, .string quk, .int .i64 qst, .string qk, .int .i64 qkd, .slice Aq nq cq, .int .i64 qlo, .int .i64 qhi, .int .i64 qva, .int .i64 qun]] w fun e w' => e = .returned (.bool (UndoP.same ⟨pact, puk, ⟨pst, pk, ⟨pkd, pda, plo, phi, pva⟩⟩, pun⟩ ⟨qact, quk, ⟨qst, qk, ⟨qkd, qda, qlo, qhi, qva⟩⟩, qun⟩)) ∧ Below w.heap.size w w' := by
  have Hp := Lib.hid hp
  have Hq := Lib.hid hq
  clear hp hq
  by_cases h1 : pact = qact
  case neg =>
    have HE : Hid (UndoP.same ⟨pact, puk, ⟨pst, pk, ⟨pkd, pda, plo, phi, pva⟩⟩, pun⟩ ⟨qact, quk, ⟨qst, qk, ⟨qkd, qda, qlo, qhi, qva⟩⟩, qun⟩ = false) := Lib.hid (by simp [UndoP.same, h1])
    rw [HE.out]
    go_enter Tryz.func62, Tryz.ntmps62
    go_wp2
    go_ret
    exact ⟨rfl, balloc (balloc (bsame w) _) _⟩
  subst h1
  by_cases hk : puk = quk
  case neg =>
    replace hk := key_ne hk
    have HE : Hid (UndoP.same ⟨pact, puk, ⟨pst, pk, ⟨pkd, pda, plo, phi, pva⟩⟩, pun⟩ ⟨pact, quk, ⟨qst, qk, ⟨qkd, qda, qlo, qhi, qva⟩⟩, qun⟩ = false) := Lib.hid (by simp [UndoP.same, hk])
    rw [HE.out]
    go_enter Tryz.func62, Tryz.ntmps62
    go_wp2
    go_ret
    exact ⟨rfl, balloc (balloc (bsame w) _) _⟩
  subst hk
  by_cases h3 : pun = qun
  case neg =>
    have HE : Hid (UndoP.same ⟨pact, puk, ⟨pst, pk, ⟨pkd, pda, plo, phi, pva⟩⟩, pun⟩ ⟨pact, puk, ⟨qst, qk, ⟨qkd, qda, qlo, qhi, qva⟩⟩, qun⟩ = false) := Lib.hid (by simp [UndoP.same, h3])
    rw [HE.out]
    go_enter Tryz.func62, Tryz.ntmps62
    go_wp2
    go_ret
    exact ⟨rfl, balloc (balloc (bsame w) _) _⟩
  subst h3
  have HE : Hid (UndoP.same ⟨pact, puk, ⟨pst, pk, ⟨pkd, pda, plo, phi, pva⟩⟩, pun⟩ ⟨pact, puk, ⟨qst, qk, ⟨qkd, qda, qlo, qhi, qva⟩⟩, pun⟩ = SlotP.same ⟨pst, pk, ⟨pkd, pda, plo, phi, pva⟩⟩ ⟨qst, qk, ⟨qkd, qda, qlo, qhi, qva⟩⟩) := Lib.hid (by simp [UndoP.same])
  rw [HE.out]
  go_enter Tryz.func62, Tryz.ntmps62
  go_wp2_with fail
  generalize hW0 : ((w).alloc (.cells #[.int .i64 pact, .string puk, .int .i64 pst, .string pk, .int .i64 pkd, .slice Ap np cp, .int .i64 plo, .int .i64 phi, .int .i64 pva, .int .i64 pun] 38)).alloc (.cells #[.int .i64 pact, .string puk, .int .i64 qst, .string qk, .int .i64 qkd, .slice Aq nq cq, .int .i64 qlo, .int .i64 qhi, .int .i64 qva, .int .i64 pun] 38) = W0
  have HS0_0 : Hid (Str W0 (w.heap.size) #[.int .i64 pact, .string puk, .int .i64 pst, .string pk, .int .i64 pkd, .slice Ap np cp, .int .i64 plo, .int .i64 phi, .int .i64 pva, .int .i64 pun]) := Lib.hid (by rw [← hW0]; have := (Str.new (w) #[.int .i64 pact, .string puk, .int .i64 pst, .string pk, .int .i64 pkd, .slice Ap np cp, .int .i64 plo, .int .i64 phi, .int .i64 pva, .int .i64 pun] 38).alloc (.cells #[.int .i64 pact, .string puk, .int .i64 qst, .string qk, .int .i64 qkd, .slice Aq nq cq, .int .i64 qlo, .int .i64 qhi, .int .i64 qva, .int .i64 pun] 38); simpa using this)
  have HS1_0 : Hid (Str W0 (w.heap.size + 1) #[.int .i64 pact, .string puk, .int .i64 qst, .string qk, .int .i64 qkd, .slice Aq nq cq, .int .i64 qlo, .int .i64 qhi, .int .i64 qva, .int .i64 pun]) := Lib.hid (by rw [← hW0]; have := Str.new ((w).alloc (.cells #[.int .i64 pact, .string puk, .int .i64 pst, .string pk, .int .i64 pkd, .slice Ap np cp, .int .i64 plo, .int .i64 phi, .int .i64 pva, .int .i64 pun] 38)) #[.int .i64 pact, .string puk, .int .i64 qst, .string qk, .int .i64 qkd, .slice Aq nq cq, .int .i64 qlo, .int .i64 qhi, .int .i64 qva, .int .i64 pun] 38; simpa using this)
  have HB_0 : Hid (Below w.heap.size w W0) := Lib.hid (by rw [← hW0]; exact balloc (balloc (bsame w) _) _)
  have hw_0 := HB_0.out.size
  clear hW0
  obtain ⟨f0_0_0, f0_0_1, f0_0_2, f0_0_3, f0_0_4, f0_0_5, f0_0_6, f0_0_7, f0_0_8, f0_0_9⟩ := str10 HS0_0.out
  have hl0_0 := HS0_0.out.lt
  obtain ⟨f1_0_0, f1_0_1, f1_0_2, f1_0_3, f1_0_4, f1_0_5, f1_0_6, f1_0_7, f1_0_8, f1_0_9⟩ := str10 HS1_0.out
  have hl1_0 := HS1_0.out.lt
  refine (SlotW.same_any Ap Aq np cp nq cq Bp Bq ⟨pst, pk, ⟨pkd, pda, plo, phi, pva⟩⟩ ⟨qst, qk, ⟨qkd, qda, qlo, qhi, qva⟩⟩ _ (Hp.out.below (HB_0.out.mono hBp)) (Hq.out.below (HB_0.out.mono hBq)) (by omega) (by omega)).mono ?_
  rintro e W1 ⟨rfl, hb1⟩
  have HS0_1 := Lib.hid (HS0_0.out.next hb1)
  have HS1_1 := Lib.hid (HS1_0.out.next hb1)
  have HB_1 := Lib.hid (bstep HB_0.out hb1)
  have hw_1 := HB_1.out.size
  have hws_1 := (hb1).size
  clear f0_0_0 f0_0_1 f0_0_2 f0_0_3 f0_0_4 f0_0_5 f0_0_6 f0_0_7 f0_0_8 f0_0_9 HS0_0 f1_0_0 f1_0_1 f1_0_2 f1_0_3 f1_0_4 f1_0_5 f1_0_6 f1_0_7 f1_0_8 f1_0_9 HS1_0
  clear hb1
  obtain ⟨f0_1_0, f0_1_1, f0_1_2, f0_1_3, f0_1_4, f0_1_5, f0_1_6, f0_1_7, f0_1_8, f0_1_9⟩ := str10 HS0_1.out
  have hl0_1 := HS0_1.out.lt
  obtain ⟨f1_1_0, f1_1_1, f1_1_2, f1_1_3, f1_1_4, f1_1_5, f1_1_6, f1_1_7, f1_1_8, f1_1_9⟩ := str10 HS1_1.out
  have hl1_1 := HS1_1.out.lt
  go_wp2_with fail
  go_ret
  exact ⟨rfl, HB_1.out⟩

set_option maxRecDepth 100000 in
set_option maxHeartbeats 1000000 in
theorem refSame_any (pact : Int) (puk : ByteArray) (Ap : Option Addr) (np cp Bp : Nat) (pst : Int) (pk : ByteArray) (pkd : Int) (pda : List UInt8) (plo phi pva : Int) (pun : Int) (qact : Int) (quk : ByteArray) (Aq : Option Addr) (nq cq Bq : Nat) (qst : Int) (qk : ByteArray) (qkd : Int) (qda : List UInt8) (qlo qhi qva : Int) (qun : Int) (w : World) (hp : Bytes w Bp Ap np cp pda) (hBp : Bp ≤ w.heap.size) (hq : Bytes w Bq Aq nq cq qda) (hBq : Bq ≤ w.heap.size) : Calls Tryz.prog 31 #[.agg #[.int .i64 pact, .string puk, .int .i64 pst, .string pk, .int .i64 pkd, .slice Ap np cp, .int .i64 plo, .int .i64 phi, .int .i64 pva, .int .i64 pun], .agg #[.int .i64 qact, .string quk, .int .i64 qst, .string qk, .int .i64 qkd, .slice Aq nq cq, .int .i64 qlo, .int .i64 qhi, .int .i64 qva, .int .i64 qun]] w fun e w' => e = .returned (.bool (UndoP.same ⟨pact, puk, ⟨pst, pk, ⟨pkd, pda, plo, phi, pva⟩⟩, pun⟩ ⟨qact, quk, ⟨qst, qk, ⟨qkd, qda, qlo, qhi, qva⟩⟩, qun⟩)) ∧ Below w.heap.size w w' := by
  have Hp := Lib.hid hp
  have Hq := Lib.hid hq
  clear hp hq
  by_cases h1 : pact = qact
  case neg =>
    have HE : Hid (UndoP.same ⟨pact, puk, ⟨pst, pk, ⟨pkd, pda, plo, phi, pva⟩⟩, pun⟩ ⟨qact, quk, ⟨qst, qk, ⟨qkd, qda, qlo, qhi, qva⟩⟩, qun⟩ = false) := Lib.hid (by simp [UndoP.same, h1])
    rw [HE.out]
    go_enter Tryz.func31, Tryz.ntmps31
    go_wp2
    go_ret
    exact ⟨rfl, balloc (balloc (bsame w) _) _⟩
  subst h1
  by_cases hk : puk = quk
  case neg =>
    replace hk := key_ne hk
    have HE : Hid (UndoP.same ⟨pact, puk, ⟨pst, pk, ⟨pkd, pda, plo, phi, pva⟩⟩, pun⟩ ⟨pact, quk, ⟨qst, qk, ⟨qkd, qda, qlo, qhi, qva⟩⟩, qun⟩ = false) := Lib.hid (by simp [UndoP.same, hk])
    rw [HE.out]
    go_enter Tryz.func31, Tryz.ntmps31
    go_wp2
    go_ret
    exact ⟨rfl, balloc (balloc (bsame w) _) _⟩
  subst hk
  by_cases h3 : pun = qun
  case neg =>
    have HE : Hid (UndoP.same ⟨pact, puk, ⟨pst, pk, ⟨pkd, pda, plo, phi, pva⟩⟩, pun⟩ ⟨pact, puk, ⟨qst, qk, ⟨qkd, qda, qlo, qhi, qva⟩⟩, qun⟩ = false) := Lib.hid (by simp [UndoP.same, h3])
    rw [HE.out]
    go_enter Tryz.func31, Tryz.ntmps31
    go_wp2
    go_ret
    exact ⟨rfl, balloc (balloc (bsame w) _) _⟩
  subst h3
  have HE : Hid (UndoP.same ⟨pact, puk, ⟨pst, pk, ⟨pkd, pda, plo, phi, pva⟩⟩, pun⟩ ⟨pact, puk, ⟨qst, qk, ⟨qkd, qda, qlo, qhi, qva⟩⟩, pun⟩ = SlotP.same ⟨pst, pk, ⟨pkd, pda, plo, phi, pva⟩⟩ ⟨qst, qk, ⟨qkd, qda, qlo, qhi, qva⟩⟩) := Lib.hid (by simp [UndoP.same])
  rw [HE.out]
  go_enter Tryz.func31, Tryz.ntmps31
  go_wp2_with fail
  generalize hW0 : ((w).alloc (.cells #[.int .i64 pact, .string puk, .int .i64 pst, .string pk, .int .i64 pkd, .slice Ap np cp, .int .i64 plo, .int .i64 phi, .int .i64 pva, .int .i64 pun] 38)).alloc (.cells #[.int .i64 pact, .string puk, .int .i64 qst, .string qk, .int .i64 qkd, .slice Aq nq cq, .int .i64 qlo, .int .i64 qhi, .int .i64 qva, .int .i64 pun] 38) = W0
  have HS0_0 : Hid (Str W0 (w.heap.size) #[.int .i64 pact, .string puk, .int .i64 pst, .string pk, .int .i64 pkd, .slice Ap np cp, .int .i64 plo, .int .i64 phi, .int .i64 pva, .int .i64 pun]) := Lib.hid (by rw [← hW0]; have := (Str.new (w) #[.int .i64 pact, .string puk, .int .i64 pst, .string pk, .int .i64 pkd, .slice Ap np cp, .int .i64 plo, .int .i64 phi, .int .i64 pva, .int .i64 pun] 38).alloc (.cells #[.int .i64 pact, .string puk, .int .i64 qst, .string qk, .int .i64 qkd, .slice Aq nq cq, .int .i64 qlo, .int .i64 qhi, .int .i64 qva, .int .i64 pun] 38); simpa using this)
  have HS1_0 : Hid (Str W0 (w.heap.size + 1) #[.int .i64 pact, .string puk, .int .i64 qst, .string qk, .int .i64 qkd, .slice Aq nq cq, .int .i64 qlo, .int .i64 qhi, .int .i64 qva, .int .i64 pun]) := Lib.hid (by rw [← hW0]; have := Str.new ((w).alloc (.cells #[.int .i64 pact, .string puk, .int .i64 pst, .string pk, .int .i64 pkd, .slice Ap np cp, .int .i64 plo, .int .i64 phi, .int .i64 pva, .int .i64 pun] 38)) #[.int .i64 pact, .string puk, .int .i64 qst, .string qk, .int .i64 qkd, .slice Aq nq cq, .int .i64 qlo, .int .i64 qhi, .int .i64 qva, .int .i64 pun] 38; simpa using this)
  have HB_0 : Hid (Below w.heap.size w W0) := Lib.hid (by rw [← hW0]; exact balloc (balloc (bsame w) _) _)
  have hw_0 := HB_0.out.size
  clear hW0
  obtain ⟨f0_0_0, f0_0_1, f0_0_2, f0_0_3, f0_0_4, f0_0_5, f0_0_6, f0_0_7, f0_0_8, f0_0_9⟩ := str10 HS0_0.out
  have hl0_0 := HS0_0.out.lt
  obtain ⟨f1_0_0, f1_0_1, f1_0_2, f1_0_3, f1_0_4, f1_0_5, f1_0_6, f1_0_7, f1_0_8, f1_0_9⟩ := str10 HS1_0.out
  have hl1_0 := HS1_0.out.lt
  refine (SlotW.refSame_any Ap Aq np cp nq cq Bp Bq ⟨pst, pk, ⟨pkd, pda, plo, phi, pva⟩⟩ ⟨qst, qk, ⟨qkd, qda, qlo, qhi, qva⟩⟩ _ (Hp.out.below (HB_0.out.mono hBp)) (Hq.out.below (HB_0.out.mono hBq)) (by omega) (by omega)).mono ?_
  rintro e W1 ⟨rfl, hb1⟩
  have HS0_1 := Lib.hid (HS0_0.out.next hb1)
  have HS1_1 := Lib.hid (HS1_0.out.next hb1)
  have HB_1 := Lib.hid (bstep HB_0.out hb1)
  have hw_1 := HB_1.out.size
  have hws_1 := (hb1).size
  clear f0_0_0 f0_0_1 f0_0_2 f0_0_3 f0_0_4 f0_0_5 f0_0_6 f0_0_7 f0_0_8 f0_0_9 HS0_0 f1_0_0 f1_0_1 f1_0_2 f1_0_3 f1_0_4 f1_0_5 f1_0_6 f1_0_7 f1_0_8 f1_0_9 HS1_0
  clear hb1
  obtain ⟨f0_1_0, f0_1_1, f0_1_2, f0_1_3, f0_1_4, f0_1_5, f0_1_6, f0_1_7, f0_1_8, f0_1_9⟩ := str10 HS0_1.out
  have hl0_1 := HS0_1.out.lt
  obtain ⟨f1_1_0, f1_1_1, f1_1_2, f1_1_3, f1_1_4, f1_1_5, f1_1_6, f1_1_7, f1_1_8, f1_1_9⟩ := str10 HS1_1.out
  have hl1_1 := HS1_1.out.lt
  go_wp2_with fail
  go_ret
  exact ⟨rfl, HB_1.out⟩

set_option maxRecDepth 100000 in
set_option maxHeartbeats 1000000 in
theorem check0 (puk : ByteArray) (Ap : Option Addr) (np cp Bp : Nat) (pst : Int) (pk : ByteArray) (pkd : Int) (pda : List UInt8) (plo phi pva : Int) (pun : Int) (w : World) (hp : Bytes w Bp Ap np cp pda) (hBp : Bp ≤ w.heap.size) (hpk : pk.size ≤ maxLen) (huk : puk.size ≤ maxLen) : Calls Tryz.prog 60 #[.agg #[.int .i64 0, .string puk, .int .i64 pst, .string pk, .int .i64 pkd, .slice Ap np cp, .int .i64 plo, .int .i64 phi, .int .i64 pva, .int .i64 pun]] w fun e w' => e = .returned (.int .i64 (CellP.code (UndoP.right ⟨0, puk, ⟨pst, pk, ⟨pkd, pda, plo, phi, pva⟩⟩, pun⟩))) ∧ Below w.heap.size w w' := by
  have Hp := Lib.hid hp
  clear hp
  go_enter Tryz.func60, Tryz.ntmps60
  go_wp2_with fail
  generalize hW0 : (w).alloc (.cells #[.int .i64 0, .string puk, .int .i64 pst, .string pk, .int .i64 pkd, .slice Ap np cp, .int .i64 plo, .int .i64 phi, .int .i64 pva, .int .i64 pun] 38) = W0
  have HS0_0 : Hid (Str W0 (w.heap.size) #[.int .i64 0, .string puk, .int .i64 pst, .string pk, .int .i64 pkd, .slice Ap np cp, .int .i64 plo, .int .i64 phi, .int .i64 pva, .int .i64 pun]) := Lib.hid (by rw [← hW0]; have := Str.new (w) #[.int .i64 0, .string puk, .int .i64 pst, .string pk, .int .i64 pkd, .slice Ap np cp, .int .i64 plo, .int .i64 phi, .int .i64 pva, .int .i64 pun] 38; simpa using this)
  have HB_0 : Hid (Below w.heap.size w W0) := Lib.hid (by rw [← hW0]; exact balloc (bsame w) _)
  have hw_0 := HB_0.out.size
  clear hW0
  obtain ⟨f0_0_0, f0_0_1, f0_0_2, f0_0_3, f0_0_4, f0_0_5, f0_0_6, f0_0_7, f0_0_8, f0_0_9⟩ := str10 HS0_0.out
  have hl0_0 := HS0_0.out.lt
  refine (same_any _ _ _ _ _ _ _ _ _ pda _ _ _ _ 0 ⟨#[]⟩ none 0 0 0 0 ⟨#[]⟩ 0 [] 0 0 0 0 _ (Hp.out.below (HB_0.out.mono hBp)) (by omega) (Bytes.none_ _ _) (by omega)).mono ?_
  rintro e W1 ⟨rfl, hb1⟩
  have HS0_1 := Lib.hid (HS0_0.out.next hb1)
  have HB_1 := Lib.hid (bstep HB_0.out hb1)
  have hw_1 := HB_1.out.size
  have hws_1 := (hb1).size
  clear f0_0_0 f0_0_1 f0_0_2 f0_0_3 f0_0_4 f0_0_5 f0_0_6 f0_0_7 f0_0_8 f0_0_9 HS0_0
  clear hb1
  obtain ⟨f0_1_0, f0_1_1, f0_1_2, f0_1_3, f0_1_4, f0_1_5, f0_1_6, f0_1_7, f0_1_8, f0_1_9⟩ := str10 HS0_1.out
  have hl0_1 := HS0_1.out.lt
  have HE : Hid (UndoP.right ⟨0, puk, ⟨pst, pk, ⟨pkd, pda, plo, phi, pva⟩⟩, pun⟩ = UndoP.same ⟨0, puk, ⟨pst, pk, ⟨pkd, pda, plo, phi, pva⟩⟩, pun⟩ ⟨0, ⟨#[]⟩, ⟨0, ⟨#[]⟩, ⟨0, [], 0, 0, 0⟩⟩, 0⟩) := Lib.hid (by simp [UndoP.right]; rfl)
  generalize UndoP.same ⟨0, puk, ⟨pst, pk, ⟨pkd, pda, plo, phi, pva⟩⟩, pun⟩ ⟨0, ⟨#[]⟩, ⟨0, ⟨#[]⟩, ⟨0, [], 0, 0, 0⟩⟩, 0⟩ = r at HE ⊢
  cases r
  all_goals
    go_wp2_with fail
    go_ret
    exact ⟨by rw [HE.out]; rfl, HB_1.out⟩

set_option maxRecDepth 100000 in
set_option maxHeartbeats 1000000 in
theorem check1_1 (puk : ByteArray) (Ap : Option Addr) (np cp Bp : Nat) (pk : ByteArray) (pkd : Int) (pda : List UInt8) (plo phi pva : Int) (pun : Int) (w : World) (hp : Bytes w Bp Ap np cp pda) (hBp : Bp ≤ w.heap.size) (hpk : pk.size ≤ maxLen) (huk : puk.size ≤ maxLen)  : Calls Tryz.prog 60 #[.agg #[.int .i64 1, .string puk, .int .i64 1, .string pk, .int .i64 pkd, .slice Ap np cp, .int .i64 plo, .int .i64 phi, .int .i64 pva, .int .i64 pun]] w fun e w' => e = .returned (.int .i64 (CellP.code (UndoP.right ⟨1, puk, ⟨1, pk, ⟨pkd, pda, plo, phi, pva⟩⟩, pun⟩))) ∧ Below w.heap.size w w' := by
  have Hp := Lib.hid hp
  clear hp
  go_enter Tryz.func60, Tryz.ntmps60
  go_wp2_with fail
  generalize hW0 : (w).alloc (.cells #[.int .i64 1, .string puk, .int .i64 1, .string pk, .int .i64 pkd, .slice Ap np cp, .int .i64 plo, .int .i64 phi, .int .i64 pva, .int .i64 pun] 38) = W0
  have HS0_0 : Hid (Str W0 (w.heap.size) #[.int .i64 1, .string puk, .int .i64 1, .string pk, .int .i64 pkd, .slice Ap np cp, .int .i64 plo, .int .i64 phi, .int .i64 pva, .int .i64 pun]) := Lib.hid (by rw [← hW0]; have := Str.new (w) #[.int .i64 1, .string puk, .int .i64 1, .string pk, .int .i64 pkd, .slice Ap np cp, .int .i64 plo, .int .i64 phi, .int .i64 pva, .int .i64 pun] 38; simpa using this)
  have HB_0 : Hid (Below w.heap.size w W0) := Lib.hid (by rw [← hW0]; exact balloc (bsame w) _)
  have hw_0 := HB_0.out.size
  clear hW0
  obtain ⟨f0_0_0, f0_0_1, f0_0_2, f0_0_3, f0_0_4, f0_0_5, f0_0_6, f0_0_7, f0_0_8, f0_0_9⟩ := str10 HS0_0.out
  have hl0_0 := HS0_0.out.lt
  refine (Key.check_any puk _ huk).mono ?_
  rintro e W1 ⟨rfl, hb1⟩
  have HS0_1 := Lib.hid (HS0_0.out.next hb1)
  have HB_1 := Lib.hid (bstep HB_0.out hb1)
  have hw_1 := HB_1.out.size
  have hws_1 := (hb1).size
  clear f0_0_0 f0_0_1 f0_0_2 f0_0_3 f0_0_4 f0_0_5 f0_0_6 f0_0_7 f0_0_8 f0_0_9 HS0_0
  clear hb1
  obtain ⟨f0_1_0, f0_1_1, f0_1_2, f0_1_3, f0_1_4, f0_1_5, f0_1_6, f0_1_7, f0_1_8, f0_1_9⟩ := str10 HS0_1.out
  have hl0_1 := HS0_1.out.lt
  cases hkr : KeyP.right puk.data.toList
  case false =>
    rw [show KeyP.code false = 1 from rfl]
    have HE : Hid (UndoP.right ⟨1, puk, ⟨1, pk, ⟨pkd, pda, plo, phi, pva⟩⟩, pun⟩ = false) := Lib.hid (by simp [UndoP.right, hkr])
    go_wp2_with fail
    go_ret
    exact ⟨by rw [HE.out]; rfl, HB_1.out⟩
  case true =>
    rw [show KeyP.code true = 0 from rfl]
    go_wp2_with fail
    refine (SlotW.check_any Ap np cp Bp ⟨1, pk, ⟨pkd, pda, plo, phi, pva⟩⟩ _ (Hp.out.below (HB_1.out.mono hBp)) (by omega) hpk).mono ?_
    rintro e W2 ⟨rfl, hb2⟩
    have HS0_2 := Lib.hid (HS0_1.out.next hb2)
    have HB_2 := Lib.hid (bstep HB_1.out hb2)
    have hw_2 := HB_2.out.size
    have hws_2 := (hb2).size
    clear f0_1_0 f0_1_1 f0_1_2 f0_1_3 f0_1_4 f0_1_5 f0_1_6 f0_1_7 f0_1_8 f0_1_9 HS0_1
    clear hb2
    obtain ⟨f0_2_0, f0_2_1, f0_2_2, f0_2_3, f0_2_4, f0_2_5, f0_2_6, f0_2_7, f0_2_8, f0_2_9⟩ := str10 HS0_2.out
    have hl0_2 := HS0_2.out.lt
    cases hsr : SlotP.right ⟨1, pk, ⟨pkd, pda, plo, phi, pva⟩⟩
    case false =>
      rw [show CellP.code false = 1 from rfl]
      have HE : Hid (UndoP.right ⟨1, puk, ⟨1, pk, ⟨pkd, pda, plo, phi, pva⟩⟩, pun⟩ = false) := Lib.hid (by simp [UndoP.right, hkr, hsr])
      go_wp2_with fail
      go_ret
      exact ⟨by rw [HE.out]; rfl, HB_2.out⟩
    case true =>
      rw [show CellP.code true = 0 from rfl]
      by_cases hk : pk = puk
      case neg =>
        replace hk := key_ne hk
        have HE : Hid (UndoP.right ⟨1, puk, ⟨1, pk, ⟨pkd, pda, plo, phi, pva⟩⟩, pun⟩ = false) := Lib.hid (by simp [UndoP.right, hkr, hsr, hk])
        go_wp2_with fail
        go_ret
        exact ⟨by rw [HE.out]; rfl, HB_2.out⟩
      by_cases hn : pun = 0
      case neg =>
        subst hk
        replace hn : (pun == 0) = false := by simpa using hn
        have HE : Hid (UndoP.right ⟨1, pk, ⟨1, pk, ⟨pkd, pda, plo, phi, pva⟩⟩, pun⟩ = false) := Lib.hid (by simp [UndoP.right, hkr, hsr, hn])
        go_wp2_with fail
        go_ret
        exact ⟨by rw [HE.out]; rfl, HB_2.out⟩
      subst hk
      subst hn
      have HE : Hid (UndoP.right ⟨1, pk, ⟨1, pk, ⟨pkd, pda, plo, phi, pva⟩⟩, 0⟩ = true) := Lib.hid (by simp [UndoP.right, hkr, hsr])
      go_wp2_with fail
      go_ret
      exact ⟨by rw [HE.out]; rfl, HB_2.out⟩

set_option maxRecDepth 100000 in
set_option maxHeartbeats 1000000 in
theorem check1_2 (puk : ByteArray) (Ap : Option Addr) (np cp Bp : Nat) (pk : ByteArray) (pkd : Int) (pda : List UInt8) (plo phi pva : Int) (pun : Int) (w : World) (hp : Bytes w Bp Ap np cp pda) (hBp : Bp ≤ w.heap.size) (hpk : pk.size ≤ maxLen) (huk : puk.size ≤ maxLen)  : Calls Tryz.prog 60 #[.agg #[.int .i64 1, .string puk, .int .i64 2, .string pk, .int .i64 pkd, .slice Ap np cp, .int .i64 plo, .int .i64 phi, .int .i64 pva, .int .i64 pun]] w fun e w' => e = .returned (.int .i64 (CellP.code (UndoP.right ⟨1, puk, ⟨2, pk, ⟨pkd, pda, plo, phi, pva⟩⟩, pun⟩))) ∧ Below w.heap.size w w' := by
  have Hp := Lib.hid hp
  clear hp
  go_enter Tryz.func60, Tryz.ntmps60
  go_wp2_with fail
  generalize hW0 : (w).alloc (.cells #[.int .i64 1, .string puk, .int .i64 2, .string pk, .int .i64 pkd, .slice Ap np cp, .int .i64 plo, .int .i64 phi, .int .i64 pva, .int .i64 pun] 38) = W0
  have HS0_0 : Hid (Str W0 (w.heap.size) #[.int .i64 1, .string puk, .int .i64 2, .string pk, .int .i64 pkd, .slice Ap np cp, .int .i64 plo, .int .i64 phi, .int .i64 pva, .int .i64 pun]) := Lib.hid (by rw [← hW0]; have := Str.new (w) #[.int .i64 1, .string puk, .int .i64 2, .string pk, .int .i64 pkd, .slice Ap np cp, .int .i64 plo, .int .i64 phi, .int .i64 pva, .int .i64 pun] 38; simpa using this)
  have HB_0 : Hid (Below w.heap.size w W0) := Lib.hid (by rw [← hW0]; exact balloc (bsame w) _)
  have hw_0 := HB_0.out.size
  clear hW0
  obtain ⟨f0_0_0, f0_0_1, f0_0_2, f0_0_3, f0_0_4, f0_0_5, f0_0_6, f0_0_7, f0_0_8, f0_0_9⟩ := str10 HS0_0.out
  have hl0_0 := HS0_0.out.lt
  refine (Key.check_any puk _ huk).mono ?_
  rintro e W1 ⟨rfl, hb1⟩
  have HS0_1 := Lib.hid (HS0_0.out.next hb1)
  have HB_1 := Lib.hid (bstep HB_0.out hb1)
  have hw_1 := HB_1.out.size
  have hws_1 := (hb1).size
  clear f0_0_0 f0_0_1 f0_0_2 f0_0_3 f0_0_4 f0_0_5 f0_0_6 f0_0_7 f0_0_8 f0_0_9 HS0_0
  clear hb1
  obtain ⟨f0_1_0, f0_1_1, f0_1_2, f0_1_3, f0_1_4, f0_1_5, f0_1_6, f0_1_7, f0_1_8, f0_1_9⟩ := str10 HS0_1.out
  have hl0_1 := HS0_1.out.lt
  cases hkr : KeyP.right puk.data.toList
  case false =>
    rw [show KeyP.code false = 1 from rfl]
    have HE : Hid (UndoP.right ⟨1, puk, ⟨2, pk, ⟨pkd, pda, plo, phi, pva⟩⟩, pun⟩ = false) := Lib.hid (by simp [UndoP.right, hkr])
    go_wp2_with fail
    go_ret
    exact ⟨by rw [HE.out]; rfl, HB_1.out⟩
  case true =>
    rw [show KeyP.code true = 0 from rfl]
    go_wp2_with fail
    refine (SlotW.check_any Ap np cp Bp ⟨2, pk, ⟨pkd, pda, plo, phi, pva⟩⟩ _ (Hp.out.below (HB_1.out.mono hBp)) (by omega) hpk).mono ?_
    rintro e W2 ⟨rfl, hb2⟩
    have HS0_2 := Lib.hid (HS0_1.out.next hb2)
    have HB_2 := Lib.hid (bstep HB_1.out hb2)
    have hw_2 := HB_2.out.size
    have hws_2 := (hb2).size
    clear f0_1_0 f0_1_1 f0_1_2 f0_1_3 f0_1_4 f0_1_5 f0_1_6 f0_1_7 f0_1_8 f0_1_9 HS0_1
    clear hb2
    obtain ⟨f0_2_0, f0_2_1, f0_2_2, f0_2_3, f0_2_4, f0_2_5, f0_2_6, f0_2_7, f0_2_8, f0_2_9⟩ := str10 HS0_2.out
    have hl0_2 := HS0_2.out.lt
    cases hsr : SlotP.right ⟨2, pk, ⟨pkd, pda, plo, phi, pva⟩⟩
    case false =>
      rw [show CellP.code false = 1 from rfl]
      have HE : Hid (UndoP.right ⟨1, puk, ⟨2, pk, ⟨pkd, pda, plo, phi, pva⟩⟩, pun⟩ = false) := Lib.hid (by simp [UndoP.right, hkr, hsr])
      go_wp2_with fail
      go_ret
      exact ⟨by rw [HE.out]; rfl, HB_2.out⟩
    case true =>
      rw [show CellP.code true = 0 from rfl]
      by_cases hk : pk = puk
      case neg =>
        replace hk := key_ne hk
        have HE : Hid (UndoP.right ⟨1, puk, ⟨2, pk, ⟨pkd, pda, plo, phi, pva⟩⟩, pun⟩ = false) := Lib.hid (by simp [UndoP.right, hkr, hsr, hk])
        go_wp2_with fail
        go_ret
        exact ⟨by rw [HE.out]; rfl, HB_2.out⟩
      by_cases hn : pun = 0
      case neg =>
        subst hk
        replace hn : (pun == 0) = false := by simpa using hn
        have HE : Hid (UndoP.right ⟨1, pk, ⟨2, pk, ⟨pkd, pda, plo, phi, pva⟩⟩, pun⟩ = false) := Lib.hid (by simp [UndoP.right, hkr, hsr, hn])
        go_wp2_with fail
        go_ret
        exact ⟨by rw [HE.out]; rfl, HB_2.out⟩
      subst hk
      subst hn
      have HE : Hid (UndoP.right ⟨1, pk, ⟨2, pk, ⟨pkd, pda, plo, phi, pva⟩⟩, 0⟩ = true) := Lib.hid (by simp [UndoP.right, hkr, hsr])
      go_wp2_with fail
      go_ret
      exact ⟨by rw [HE.out]; rfl, HB_2.out⟩

set_option maxRecDepth 100000 in
set_option maxHeartbeats 1000000 in
theorem check1n (puk : ByteArray) (Ap : Option Addr) (np cp Bp : Nat) (pst : Int) (pk : ByteArray) (pkd : Int) (pda : List UInt8) (plo phi pva : Int) (pun : Int) (w : World) (hp : Bytes w Bp Ap np cp pda) (hBp : Bp ≤ w.heap.size) (hpk : pk.size ≤ maxLen) (huk : puk.size ≤ maxLen) (hs1 : ¬ pst = 1) (hs2 : ¬ pst = 2) : Calls Tryz.prog 60 #[.agg #[.int .i64 1, .string puk, .int .i64 pst, .string pk, .int .i64 pkd, .slice Ap np cp, .int .i64 plo, .int .i64 phi, .int .i64 pva, .int .i64 pun]] w fun e w' => e = .returned (.int .i64 (CellP.code (UndoP.right ⟨1, puk, ⟨pst, pk, ⟨pkd, pda, plo, phi, pva⟩⟩, pun⟩))) ∧ Below w.heap.size w w' := by
  have Hp := Lib.hid hp
  clear hp
  go_enter Tryz.func60, Tryz.ntmps60
  go_wp2_with fail
  generalize hW0 : (w).alloc (.cells #[.int .i64 1, .string puk, .int .i64 pst, .string pk, .int .i64 pkd, .slice Ap np cp, .int .i64 plo, .int .i64 phi, .int .i64 pva, .int .i64 pun] 38) = W0
  have HS0_0 : Hid (Str W0 (w.heap.size) #[.int .i64 1, .string puk, .int .i64 pst, .string pk, .int .i64 pkd, .slice Ap np cp, .int .i64 plo, .int .i64 phi, .int .i64 pva, .int .i64 pun]) := Lib.hid (by rw [← hW0]; have := Str.new (w) #[.int .i64 1, .string puk, .int .i64 pst, .string pk, .int .i64 pkd, .slice Ap np cp, .int .i64 plo, .int .i64 phi, .int .i64 pva, .int .i64 pun] 38; simpa using this)
  have HB_0 : Hid (Below w.heap.size w W0) := Lib.hid (by rw [← hW0]; exact balloc (bsame w) _)
  have hw_0 := HB_0.out.size
  clear hW0
  obtain ⟨f0_0_0, f0_0_1, f0_0_2, f0_0_3, f0_0_4, f0_0_5, f0_0_6, f0_0_7, f0_0_8, f0_0_9⟩ := str10 HS0_0.out
  have hl0_0 := HS0_0.out.lt
  refine (Key.check_any puk _ huk).mono ?_
  rintro e W1 ⟨rfl, hb1⟩
  have HS0_1 := Lib.hid (HS0_0.out.next hb1)
  have HB_1 := Lib.hid (bstep HB_0.out hb1)
  have hw_1 := HB_1.out.size
  have hws_1 := (hb1).size
  clear f0_0_0 f0_0_1 f0_0_2 f0_0_3 f0_0_4 f0_0_5 f0_0_6 f0_0_7 f0_0_8 f0_0_9 HS0_0
  clear hb1
  obtain ⟨f0_1_0, f0_1_1, f0_1_2, f0_1_3, f0_1_4, f0_1_5, f0_1_6, f0_1_7, f0_1_8, f0_1_9⟩ := str10 HS0_1.out
  have hl0_1 := HS0_1.out.lt
  cases hkr : KeyP.right puk.data.toList
  case false =>
    rw [show KeyP.code false = 1 from rfl]
    have HE : Hid (UndoP.right ⟨1, puk, ⟨pst, pk, ⟨pkd, pda, plo, phi, pva⟩⟩, pun⟩ = false) := Lib.hid (by simp [UndoP.right, hkr])
    go_wp2_with fail
    go_ret
    exact ⟨by rw [HE.out]; rfl, HB_1.out⟩
  case true =>
    rw [show KeyP.code true = 0 from rfl]
    have HE : Hid (UndoP.right ⟨1, puk, ⟨pst, pk, ⟨pkd, pda, plo, phi, pva⟩⟩, pun⟩ = false) := Lib.hid (by simp [UndoP.right, hkr, hs1, hs2])
    go_wp2_with fail
    go_ret
    exact ⟨by rw [HE.out]; rfl, HB_1.out⟩

set_option maxRecDepth 100000 in
set_option maxHeartbeats 1000000 in
theorem check2 (puk : ByteArray) (Ap : Option Addr) (np cp Bp : Nat) (pst : Int) (pk : ByteArray) (pkd : Int) (pda : List UInt8) (plo phi pva : Int) (pun : Int) (w : World) (hp : Bytes w Bp Ap np cp pda) (hBp : Bp ≤ w.heap.size) (hpk : pk.size ≤ maxLen) (huk : puk.size ≤ maxLen)  : Calls Tryz.prog 60 #[.agg #[.int .i64 2, .string puk, .int .i64 pst, .string pk, .int .i64 pkd, .slice Ap np cp, .int .i64 plo, .int .i64 phi, .int .i64 pva, .int .i64 pun]] w fun e w' => e = .returned (.int .i64 (CellP.code (UndoP.right ⟨2, puk, ⟨pst, pk, ⟨pkd, pda, plo, phi, pva⟩⟩, pun⟩))) ∧ Below w.heap.size w w' := by
  have Hp := Lib.hid hp
  clear hp
  go_enter Tryz.func60, Tryz.ntmps60
  go_wp2_with fail
  generalize hW0 : (w).alloc (.cells #[.int .i64 2, .string puk, .int .i64 pst, .string pk, .int .i64 pkd, .slice Ap np cp, .int .i64 plo, .int .i64 phi, .int .i64 pva, .int .i64 pun] 38) = W0
  have HS0_0 : Hid (Str W0 (w.heap.size) #[.int .i64 2, .string puk, .int .i64 pst, .string pk, .int .i64 pkd, .slice Ap np cp, .int .i64 plo, .int .i64 phi, .int .i64 pva, .int .i64 pun]) := Lib.hid (by rw [← hW0]; have := Str.new (w) #[.int .i64 2, .string puk, .int .i64 pst, .string pk, .int .i64 pkd, .slice Ap np cp, .int .i64 plo, .int .i64 phi, .int .i64 pva, .int .i64 pun] 38; simpa using this)
  have HB_0 : Hid (Below w.heap.size w W0) := Lib.hid (by rw [← hW0]; exact balloc (bsame w) _)
  have hw_0 := HB_0.out.size
  clear hW0
  obtain ⟨f0_0_0, f0_0_1, f0_0_2, f0_0_3, f0_0_4, f0_0_5, f0_0_6, f0_0_7, f0_0_8, f0_0_9⟩ := str10 HS0_0.out
  have hl0_0 := HS0_0.out.lt
  refine (Key.check_any puk _ huk).mono ?_
  rintro e W1 ⟨rfl, hb1⟩
  have HS0_1 := Lib.hid (HS0_0.out.next hb1)
  have HB_1 := Lib.hid (bstep HB_0.out hb1)
  have hw_1 := HB_1.out.size
  have hws_1 := (hb1).size
  clear f0_0_0 f0_0_1 f0_0_2 f0_0_3 f0_0_4 f0_0_5 f0_0_6 f0_0_7 f0_0_8 f0_0_9 HS0_0
  clear hb1
  obtain ⟨f0_1_0, f0_1_1, f0_1_2, f0_1_3, f0_1_4, f0_1_5, f0_1_6, f0_1_7, f0_1_8, f0_1_9⟩ := str10 HS0_1.out
  have hl0_1 := HS0_1.out.lt
  cases hkr : KeyP.right puk.data.toList
  case false =>
    rw [show KeyP.code false = 1 from rfl]
    have HE : Hid (UndoP.right ⟨2, puk, ⟨pst, pk, ⟨pkd, pda, plo, phi, pva⟩⟩, pun⟩ = false) := Lib.hid (by simp [UndoP.right, hkr])
    go_wp2_with fail
    go_ret
    exact ⟨by rw [HE.out]; rfl, HB_1.out⟩
  case true =>
    rw [show KeyP.code true = 0 from rfl]
    by_cases hn : pun < 0
    case pos =>
      have hn' : ¬ 0 ≤ pun := by omega
      have HE : Hid (UndoP.right ⟨2, puk, ⟨pst, pk, ⟨pkd, pda, plo, phi, pva⟩⟩, pun⟩ = false) := Lib.hid (by simp [UndoP.right, hkr, hn'])
      go_wp2_with fail
      go_ret
      exact ⟨by rw [HE.out]; rfl, HB_1.out⟩
    have hn' : 0 ≤ pun := by omega
    go_wp2_with fail
    refine (SlotW.same_any Ap none np cp 0 0 Bp 0 ⟨pst, pk, ⟨pkd, pda, plo, phi, pva⟩⟩ ⟨0, ⟨#[]⟩, ⟨0, [], 0, 0, 0⟩⟩ _ (Hp.out.below (HB_1.out.mono hBp)) (Bytes.none_ _ _) (by omega) (by omega)).mono ?_
    rintro e W2 ⟨rfl, hb2⟩
    have HS0_2 := Lib.hid (HS0_1.out.next hb2)
    have HB_2 := Lib.hid (bstep HB_1.out hb2)
    have hw_2 := HB_2.out.size
    have hws_2 := (hb2).size
    clear f0_1_0 f0_1_1 f0_1_2 f0_1_3 f0_1_4 f0_1_5 f0_1_6 f0_1_7 f0_1_8 f0_1_9 HS0_1
    clear hb2
    obtain ⟨f0_2_0, f0_2_1, f0_2_2, f0_2_3, f0_2_4, f0_2_5, f0_2_6, f0_2_7, f0_2_8, f0_2_9⟩ := str10 HS0_2.out
    have hl0_2 := HS0_2.out.lt
    have HE : Hid (UndoP.right ⟨2, puk, ⟨pst, pk, ⟨pkd, pda, plo, phi, pva⟩⟩, pun⟩ = SlotP.same ⟨pst, pk, ⟨pkd, pda, plo, phi, pva⟩⟩ ⟨0, ⟨#[]⟩, ⟨0, [], 0, 0, 0⟩⟩) := Lib.hid (by simp [UndoP.right, hkr, hn']; rfl)
    generalize SlotP.same ⟨pst, pk, ⟨pkd, pda, plo, phi, pva⟩⟩ ⟨0, ⟨#[]⟩, ⟨0, [], 0, 0, 0⟩⟩ = r at HE ⊢
    cases r
    all_goals
      go_wp2_with fail
      go_ret
      exact ⟨by rw [HE.out]; rfl, HB_2.out⟩

set_option maxRecDepth 100000 in
set_option maxHeartbeats 1000000 in
theorem check3 (puk : ByteArray) (Ap : Option Addr) (np cp Bp : Nat) (pst : Int) (pk : ByteArray) (pkd : Int) (pda : List UInt8) (plo phi pva : Int) (pun : Int) (w : World) (hp : Bytes w Bp Ap np cp pda) (hBp : Bp ≤ w.heap.size) (hpk : pk.size ≤ maxLen) (huk : puk.size ≤ maxLen)  : Calls Tryz.prog 60 #[.agg #[.int .i64 3, .string puk, .int .i64 pst, .string pk, .int .i64 pkd, .slice Ap np cp, .int .i64 plo, .int .i64 phi, .int .i64 pva, .int .i64 pun]] w fun e w' => e = .returned (.int .i64 (CellP.code (UndoP.right ⟨3, puk, ⟨pst, pk, ⟨pkd, pda, plo, phi, pva⟩⟩, pun⟩))) ∧ Below w.heap.size w w' := by
  have Hp := Lib.hid hp
  clear hp
  go_enter Tryz.func60, Tryz.ntmps60
  go_wp2_with fail
  generalize hW0 : (w).alloc (.cells #[.int .i64 3, .string puk, .int .i64 pst, .string pk, .int .i64 pkd, .slice Ap np cp, .int .i64 plo, .int .i64 phi, .int .i64 pva, .int .i64 pun] 38) = W0
  have HS0_0 : Hid (Str W0 (w.heap.size) #[.int .i64 3, .string puk, .int .i64 pst, .string pk, .int .i64 pkd, .slice Ap np cp, .int .i64 plo, .int .i64 phi, .int .i64 pva, .int .i64 pun]) := Lib.hid (by rw [← hW0]; have := Str.new (w) #[.int .i64 3, .string puk, .int .i64 pst, .string pk, .int .i64 pkd, .slice Ap np cp, .int .i64 plo, .int .i64 phi, .int .i64 pva, .int .i64 pun] 38; simpa using this)
  have HB_0 : Hid (Below w.heap.size w W0) := Lib.hid (by rw [← hW0]; exact balloc (bsame w) _)
  have hw_0 := HB_0.out.size
  clear hW0
  obtain ⟨f0_0_0, f0_0_1, f0_0_2, f0_0_3, f0_0_4, f0_0_5, f0_0_6, f0_0_7, f0_0_8, f0_0_9⟩ := str10 HS0_0.out
  have hl0_0 := HS0_0.out.lt
  refine (Key.check_any puk _ huk).mono ?_
  rintro e W1 ⟨rfl, hb1⟩
  have HS0_1 := Lib.hid (HS0_0.out.next hb1)
  have HB_1 := Lib.hid (bstep HB_0.out hb1)
  have hw_1 := HB_1.out.size
  have hws_1 := (hb1).size
  clear f0_0_0 f0_0_1 f0_0_2 f0_0_3 f0_0_4 f0_0_5 f0_0_6 f0_0_7 f0_0_8 f0_0_9 HS0_0
  clear hb1
  obtain ⟨f0_1_0, f0_1_1, f0_1_2, f0_1_3, f0_1_4, f0_1_5, f0_1_6, f0_1_7, f0_1_8, f0_1_9⟩ := str10 HS0_1.out
  have hl0_1 := HS0_1.out.lt
  cases hkr : KeyP.right puk.data.toList
  case false =>
    rw [show KeyP.code false = 1 from rfl]
    have HE : Hid (UndoP.right ⟨3, puk, ⟨pst, pk, ⟨pkd, pda, plo, phi, pva⟩⟩, pun⟩ = false) := Lib.hid (by simp [UndoP.right, hkr])
    go_wp2_with fail
    go_ret
    exact ⟨by rw [HE.out]; rfl, HB_1.out⟩
  case true =>
    rw [show KeyP.code true = 0 from rfl]
    by_cases hn : pun < 0
    case pos =>
      have hn' : ¬ 0 ≤ pun := by omega
      have HE : Hid (UndoP.right ⟨3, puk, ⟨pst, pk, ⟨pkd, pda, plo, phi, pva⟩⟩, pun⟩ = false) := Lib.hid (by simp [UndoP.right, hkr, hn'])
      go_wp2_with fail
      go_ret
      exact ⟨by rw [HE.out]; rfl, HB_1.out⟩
    have hn' : 0 ≤ pun := by omega
    go_wp2_with fail
    refine (SlotW.same_any Ap none np cp 0 0 Bp 0 ⟨pst, pk, ⟨pkd, pda, plo, phi, pva⟩⟩ ⟨0, ⟨#[]⟩, ⟨0, [], 0, 0, 0⟩⟩ _ (Hp.out.below (HB_1.out.mono hBp)) (Bytes.none_ _ _) (by omega) (by omega)).mono ?_
    rintro e W2 ⟨rfl, hb2⟩
    have HS0_2 := Lib.hid (HS0_1.out.next hb2)
    have HB_2 := Lib.hid (bstep HB_1.out hb2)
    have hw_2 := HB_2.out.size
    have hws_2 := (hb2).size
    clear f0_1_0 f0_1_1 f0_1_2 f0_1_3 f0_1_4 f0_1_5 f0_1_6 f0_1_7 f0_1_8 f0_1_9 HS0_1
    clear hb2
    obtain ⟨f0_2_0, f0_2_1, f0_2_2, f0_2_3, f0_2_4, f0_2_5, f0_2_6, f0_2_7, f0_2_8, f0_2_9⟩ := str10 HS0_2.out
    have hl0_2 := HS0_2.out.lt
    have HE : Hid (UndoP.right ⟨3, puk, ⟨pst, pk, ⟨pkd, pda, plo, phi, pva⟩⟩, pun⟩ = SlotP.same ⟨pst, pk, ⟨pkd, pda, plo, phi, pva⟩⟩ ⟨0, ⟨#[]⟩, ⟨0, [], 0, 0, 0⟩⟩) := Lib.hid (by simp [UndoP.right, hkr, hn']; rfl)
    generalize SlotP.same ⟨pst, pk, ⟨pkd, pda, plo, phi, pva⟩⟩ ⟨0, ⟨#[]⟩, ⟨0, [], 0, 0, 0⟩⟩ = r at HE ⊢
    cases r
    all_goals
      go_wp2_with fail
      go_ret
      exact ⟨by rw [HE.out]; rfl, HB_2.out⟩

set_option maxRecDepth 100000 in
set_option maxHeartbeats 1000000 in
theorem checkN (pact : Int) (puk : ByteArray) (Ap : Option Addr) (np cp Bp : Nat) (pst : Int) (pk : ByteArray) (pkd : Int) (pda : List UInt8) (plo phi pva : Int) (pun : Int) (w : World) (hp : Bytes w Bp Ap np cp pda) (hBp : Bp ≤ w.heap.size) (hpk : pk.size ≤ maxLen) (huk : puk.size ≤ maxLen) (h0 : ¬ pact = 0) (h1 : ¬ pact = 1) (h2 : ¬ pact = 2) (h3 : ¬ pact = 3) : Calls Tryz.prog 60 #[.agg #[.int .i64 pact, .string puk, .int .i64 pst, .string pk, .int .i64 pkd, .slice Ap np cp, .int .i64 plo, .int .i64 phi, .int .i64 pva, .int .i64 pun]] w fun e w' => e = .returned (.int .i64 (CellP.code (UndoP.right ⟨pact, puk, ⟨pst, pk, ⟨pkd, pda, plo, phi, pva⟩⟩, pun⟩))) ∧ Below w.heap.size w w' := by
  have HE : Hid (UndoP.right ⟨pact, puk, ⟨pst, pk, ⟨pkd, pda, plo, phi, pva⟩⟩, pun⟩ = false) := Lib.hid (by simp [UndoP.right, h0, h1, h2, h3])
  go_enter Tryz.func60, Tryz.ntmps60
  go_wp2
  go_ret
  exact ⟨by rw [HE.out]; rfl, balloc (bsame w) _⟩

set_option maxRecDepth 100000 in
set_option maxHeartbeats 1000000 in
theorem check_any (pact : Int) (puk : ByteArray) (Ap : Option Addr) (np cp Bp : Nat) (pst : Int) (pk : ByteArray) (pkd : Int) (pda : List UInt8) (plo phi pva : Int) (pun : Int) (w : World) (hp : Bytes w Bp Ap np cp pda) (hBp : Bp ≤ w.heap.size) (hpk : pk.size ≤ maxLen) (huk : puk.size ≤ maxLen) : Calls Tryz.prog 60 #[.agg #[.int .i64 pact, .string puk, .int .i64 pst, .string pk, .int .i64 pkd, .slice Ap np cp, .int .i64 plo, .int .i64 phi, .int .i64 pva, .int .i64 pun]] w fun e w' => e = .returned (.int .i64 (CellP.code (UndoP.right ⟨pact, puk, ⟨pst, pk, ⟨pkd, pda, plo, phi, pva⟩⟩, pun⟩))) ∧ Below w.heap.size w w' := by
  by_cases h0 : pact = 0
  · subst h0
    exact check0 puk Ap np cp Bp pst pk pkd pda plo phi pva pun w hp hBp hpk huk
  by_cases h1 : pact = 1
  · subst h1
    by_cases hs1 : pst = 1
    · subst hs1
      exact check1_1 puk Ap np cp Bp pk pkd pda plo phi pva pun w hp hBp hpk huk
    by_cases hs2 : pst = 2
    · subst hs2
      exact check1_2 puk Ap np cp Bp pk pkd pda plo phi pva pun w hp hBp hpk huk
    exact check1n puk Ap np cp Bp pst pk pkd pda plo phi pva pun w hp hBp hpk huk hs1 hs2
  by_cases h2 : pact = 2
  · subst h2
    exact check2 puk Ap np cp Bp pst pk pkd pda plo phi pva pun w hp hBp hpk huk
  by_cases h3 : pact = 3
  · subst h3
    exact check3 puk Ap np cp Bp pst pk pkd pda plo phi pva pun w hp hBp hpk huk
  exact checkN pact puk Ap np cp Bp pst pk pkd pda plo phi pva pun w hp hBp hpk huk h0 h1 h2 h3

end Go.Proofs.YtpdfnlhhnodnjaaGreat.UndoW
end
