/-
  Texts of one claim, joined: SlotC, CellSet, Undo.
-/
import Derived.Test.YtiokcemlfdonnaaRecP8
import Derived.Test.YtiokcemlfdonnaaProg
import Derived.Test.YtiokcemlfdonnaaRecP5
import Derived.Test.YtiokcemlfdonnaaRecP2
import Derived.Test.YtiokcemlfdonnaaRecP4
import Derived.Lib.SliceRun
namespace Go.Proofs.Ytiokcemlfdonnaa.SlotW
open Go.RowKit

theorem code_bool (b : Bool) : (KeyP.code b == 0) = b := by cases b <;> decide
theorem ccode_bool (b : Bool) : (CellP.code b == 0) = b := by cases b <;> decide
theorem code_true : CellP.code true = 0 := rfl
theorem code_false : CellP.code false = 1 := rfl

set_option maxHeartbeats 1000000 in
theorem check_any (A : Option Addr) (n cap B : Nat) (x : Item) (w : World) (h : Bytes w B A n cap x.cell.data) (hB : B ≤ w.heap.size) (hk : x.key.size ≤ maxLen) :
    Calls Try.prog 79 #[itemV A n cap x] w fun e w' => e = .returned (.int .i64 (CellP.code (SlotP.right x))) ∧ Below w.heap.size w w' := by
  have HS := Lib.hid (fun W (hW : Bytes W B A n cap x.cell.data) (hB : B ≤ W.heap.size) => same_any A none n cap 0 0 B 0 x SlotP.none W hW (empty_bytes W) hB (Nat.zero_le _))
  have HC := Lib.hid (fun W => CellW.check_any A n cap x.cell W h.len (Nat.le_trans h.2.1 h.2.2.1))
  have HK := Lib.hid (fun W => Key.check_any x.key W hk)
  have H := Lib.hid h
  clear h
  obtain ⟨s, k, kind, data, lo, hi, val⟩ := x
  dsimp only at *
  by_cases hs : s = 0
  · subst hs
    cases hr : SlotP.same ⟨0, k, kind, data, lo, hi, val⟩ SlotP.none
    all_goals
      have HRS := Lib.hid hr
      have HR := Lib.hid (show SlotP.right ⟨0, k, kind, data, lo, hi, val⟩ = _ from (by simp [SlotP.right] : _ = SlotP.same ⟨0, k, kind, data, lo, hi, val⟩ SlotP.none).trans hr)
      clear hr
      rw [HR.out]
      go_enter Try.func79, Try.ntmps79
      go_wp2_with fail
      refine (HS.out _ (H.out.alloc hB _) (by simp; omega)).mono ?_
      rintro e w1 ⟨rfl, hb⟩
      rw [HRS.out]
      go_wp2_with fail
      go_ret
      exact ⟨rfl, bstep (balloc (bsame _) _) hb⟩
  · have hs0 : (s == 0) = false := by simpa using hs
    by_cases h12 : s = 1 ∨ s = 2
    · cases hkr : KeyP.right k.data.toList
      · have HR : Hid (SlotP.right ⟨s, k, kind, data, lo, hi, val⟩ = false) := Lib.hid (by simp [SlotP.right, hs, hkr])
        rw [HR.out]
        have HKR := Lib.hid hkr
        clear hkr
        have hkf : KeyP.code false = 1 := rfl
        rcases h12 with rfl | rfl
        all_goals
          go_enter Try.func79, Try.ntmps79
          go_wp2_with (go_at_call 78; refine (HK.out _).mono ?_; rintro e w1 ⟨rfl, hb⟩; rw [HKR.out]; obtain ⟨hc1, hf1⟩ := bcell hb; have hsz : w.heap.size < w1.heap.size := (by have := hb.size; simp at this; omega))
          go_ret
          exact ⟨rfl, bstep (balloc (bsame _) _) hb⟩
      · have HR : Hid (SlotP.right ⟨s, k, kind, data, lo, hi, val⟩ = CellP.right ⟨kind, data, lo, hi, val⟩) := Lib.hid (by rcases h12 with rfl | rfl <;> simp [SlotP.right, hkr])
        rw [HR.out]
        have HKR := Lib.hid hkr
        clear hkr
        have hkt : KeyP.code true = 0 := rfl
        cases hcr : CellP.right ⟨kind, data, lo, hi, val⟩
        all_goals
          have HCR := Lib.hid hcr
          clear hcr
          have hc0 := code_true
          have hc1 := code_false
          rcases h12 with rfl | rfl
          all_goals
            go_enter Try.func79, Try.ntmps79
            go_wp2_with (first
              | (go_at_call 78; refine (HK.out _).mono ?_; rintro e w1 ⟨rfl, hb⟩; rw [HKR.out]; obtain ⟨hcc, hff⟩ := bcell hb; have hsz : w.heap.size < w1.heap.size := (by have := hb.size; simp at this; omega))
              | (go_at_call 111; refine (HC.out _).mono ?_; rintro e w2 ⟨rfl, hb2⟩; rw [HCR.out]))
            go_ret
            exact ⟨rfl, bstep (bstep (balloc (bsame _) _) hb) hb2⟩
    · have h1 : (s == 1) = false := by simp; omega
      have h2 : (s == 2) = false := by simp; omega
      have HR : Hid (SlotP.right ⟨s, k, kind, data, lo, hi, val⟩ = false) := Lib.hid (by simp [SlotP.right, hs]; omega)
      rw [HR.out]
      clear h12
      go_enter Try.func79, Try.ntmps79
      go_wp2
      go_ret
      exact ⟨rfl, balloc (bsame _) _⟩

end Go.Proofs.Ytiokcemlfdonnaa.SlotW
namespace Go.Proofs.Ytiokcemlfdonnaa.CellW
open Go.RowKit

/-- what Set and its reference hand back: a cell, whose bytes are none, and the error's number -/
theorem set_no (c : Cell) (v : Int) (h : c.kind ≠ 2 ∨ CellP.right c = false) : CellP.set c v = (CellP.none, 6) := by
  unfold CellP.set
  rw [if_neg]
  rintro ⟨h1, h2⟩
  rcases h with h | h
  · exact h h1
  · rw [h] at h2; cases h2

/-- the call hands back this cell, and this error's number -/
def GivesCell (w : World) (c : Cell) (k : Int) (e : Ending) (w' : World) : Prop := ∃ A n cap, e = .returned (.tuple #[.agg #[.int .i64 c.kind, .slice A n cap, .int .i64 c.lo, .int .i64 c.hi, .int .i64 c.val], .int .i64 k]) ∧ Bytes w' w'.heap.size A n cap c.data ∧ Below w.heap.size w w'

end Go.Proofs.Ytiokcemlfdonnaa.CellW
namespace Go.Proofs.Ytiokcemlfdonnaa
theorem str8 {w : World} {b : Nat} {c0 c1 c2 c3 c4 c5 c6 c7 : Value} (h : Str w b #[c0, c1, c2, c3, c4, c5, c6, c7]) : w.cell? ⟨b, 0, none⟩ = some c0 ∧ w.cell? ⟨b, 1, none⟩ = some c1 ∧ w.cell? ⟨b, 2, none⟩ = some c2 ∧ w.cell? ⟨b, 3, none⟩ = some c3 ∧ w.cell? ⟨b, 4, none⟩ = some c4 ∧ w.cell? ⟨b, 5, none⟩ = some c5 ∧ w.cell? ⟨b, 6, none⟩ = some c6 ∧ w.cell? ⟨b, 7, none⟩ = some c7 := ⟨h.cell 0, h.cell 1, h.cell 2, h.cell 3, h.cell 4, h.cell 5, h.cell 6, h.cell 7⟩
theorem str9 {w : World} {b : Nat} {c0 c1 c2 c3 c4 c5 c6 c7 c8 : Value} (h : Str w b #[c0, c1, c2, c3, c4, c5, c6, c7, c8]) : w.cell? ⟨b, 0, none⟩ = some c0 ∧ w.cell? ⟨b, 1, none⟩ = some c1 ∧ w.cell? ⟨b, 2, none⟩ = some c2 ∧ w.cell? ⟨b, 3, none⟩ = some c3 ∧ w.cell? ⟨b, 4, none⟩ = some c4 ∧ w.cell? ⟨b, 5, none⟩ = some c5 ∧ w.cell? ⟨b, 6, none⟩ = some c6 ∧ w.cell? ⟨b, 7, none⟩ = some c7 ∧ w.cell? ⟨b, 8, none⟩ = some c8 := ⟨h.cell 0, h.cell 1, h.cell 2, h.cell 3, h.cell 4, h.cell 5, h.cell 6, h.cell 7, h.cell 8⟩
theorem str10 {w : World} {b : Nat} {c0 c1 c2 c3 c4 c5 c6 c7 c8 c9 : Value} (h : Str w b #[c0, c1, c2, c3, c4, c5, c6, c7, c8, c9]) : w.cell? ⟨b, 0, none⟩ = some c0 ∧ w.cell? ⟨b, 1, none⟩ = some c1 ∧ w.cell? ⟨b, 2, none⟩ = some c2 ∧ w.cell? ⟨b, 3, none⟩ = some c3 ∧ w.cell? ⟨b, 4, none⟩ = some c4 ∧ w.cell? ⟨b, 5, none⟩ = some c5 ∧ w.cell? ⟨b, 6, none⟩ = some c6 ∧ w.cell? ⟨b, 7, none⟩ = some c7 ∧ w.cell? ⟨b, 8, none⟩ = some c8 ∧ w.cell? ⟨b, 9, none⟩ = some c9 := ⟨h.cell 0, h.cell 1, h.cell 2, h.cell 3, h.cell 4, h.cell 5, h.cell 6, h.cell 7, h.cell 8, h.cell 9⟩
end Go.Proofs.Ytiokcemlfdonnaa
namespace Go.Proofs.Ytiokcemlfdonnaa.UndoW
open Go.RowKit

theorem eql_nil (w : World) (a : Option Addr) (l c : Nat) : (binOp .eql 23 (.slice a l c) (.slice none 0 0)).run Try.prog w = .ok (.bool a.isNone) w := Lib.run_eql_slice_nil w _ _ a l c 0 0 Try.underlying23
section
attribute [local go_sem ↓] app_fold
set_option maxRecDepth 100000 in
set_option maxHeartbeats 400000 in
theorem clone_any (A : Option Addr) (n c B : Nat) (l : List UInt8) (w : World) (h : Bytes w B A n c l) (hB : B ≤ w.heap.size) (hn : n ≤ 140737488355328) :
    Calls Try.prog 74 #[.slice A n c] w (GivesBytes w l) := by
  cases A with
  | none =>
    have h0 : n = 0 := by
      rcases Nat.eq_zero_or_pos n with h0 | h0
      · exact h0
      · obtain ⟨b, o, e, -⟩ := h.2.2.2 h0
        cases e
    have hl : l = [] := List.eq_nil_of_length_eq_zero (by rw [h.1, h0])
    subst hl
    subst h0
    clear h
    have heq := eql_nil w none 0 c
    go_enter Try.func74, Try.ntmps74
    go_wp2
    go_ret
    exact ⟨none, 0, 0, rfl, Bytes.none_ _ _, bsame w⟩
  | some a =>
    obtain ⟨A3, c3, w3, happ3, hO3, hb3⟩ := (Own.empty w w.heap.size (Nat.le_refl _)).app (h.alloc hB _) (by omega) (by simp)
    simp only [Nat.zero_add, List.nil_append] at happ3 hO3
    have HB : Hid (Below w.heap.size w w3) := Lib.hid (((Below.refl _ w).alloc (Nat.le_refl _) _).trans hb3)
    have HO := Lib.hid hO3
    clear h hO3 hb3
    have heq := eql_nil w (some a) n c
    go_enter Try.func74, Try.ntmps74
    go_wp2
    go_ret
    exact ⟨A3, n, c3, rfl, HO.out.bytes, HB.out⟩
end
/-- the call hands back an item -/
def GivesItem (w : World) (x : Item) (e : Ending) (w' : World) : Prop := ∃ A n cap, e = .returned (.agg #[.int .i64 x.state, .string x.key, .int .i64 x.cell.kind, .slice A n cap, .int .i64 x.cell.lo, .int .i64 x.cell.hi, .int .i64 x.cell.val]) ∧ Bytes w' w'.heap.size A n cap x.cell.data ∧ Below w.heap.size w w'

end Go.Proofs.Ytiokcemlfdonnaa.UndoW
