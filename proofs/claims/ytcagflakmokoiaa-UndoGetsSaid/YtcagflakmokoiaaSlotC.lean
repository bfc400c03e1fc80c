/-
  The walk of slot.Check.
-/
import Derived.Test.YtcagflakmokoiaaSlot
namespace Go.Proofs.Ytcagflakmokoiaa.SlotW
open Go.RowKit

theorem code_bool (b : Bool) : (KeyP.code b == 0) = b := by cases b <;> decide
theorem ccode_bool (b : Bool) : (CellP.code b == 0) = b := by cases b <;> decide
theorem code_true : CellP.code true = 0 := rfl
theorem code_false : CellP.code false = 1 := rfl

set_option maxHeartbeats 1000000 in
theorem check_any (A : Option Addr) (n cap B : Nat) (x : Item) (w : World) (h : Bytes w B A n cap x.cell.data) (hB : B ≤ w.heap.size) (hk : x.key.size ≤ maxLen) :
    Calls Try.prog 113 #[itemV A n cap x] w fun e w' => e = .returned (.int .i64 (CellP.code (SlotP.right x))) ∧ Below w.heap.size w w' := by
  have HS := Lib.hid (fun W (hW : Bytes W B A n cap x.cell.data) (hB : B ≤ W.heap.size) => same_any A none n cap 0 0 B 0 x SlotP.none W hW (empty_bytes W) hB (Nat.zero_le _))
  have HC := Lib.hid (fun W => CellW.check_any A n cap x.cell W h.len (Nat.le_trans h.2.1 h.2.2.1))
  have HK := Lib.hid (fun W => Key.check_any x.key W hk)
  have H := Lib.hid h
  clear h
  obtain ⟨s, k, kind, data, lo, hi, val⟩ := x
  dsimp only at *
  by_cases hs : s = 0
  · subst hs
    cases hr : SlotP.same ⟨0, k, kind, data, lo, hi, val⟩ SlotP.none
    all_goals
      have HRS := Lib.hid hr
      have HR := Lib.hid (show SlotP.right ⟨0, k, kind, data, lo, hi, val⟩ = _ from (by simp [SlotP.right] : _ = SlotP.same ⟨0, k, kind, data, lo, hi, val⟩ SlotP.none).trans hr)
      clear hr
      rw [HR.out]
      go_enter Try.func113, Try.ntmps113
      go_wp2_with fail
      refine (HS.out _ (H.out.alloc hB _) (by simp; omega)).mono ?_
      rintro e w1 ⟨rfl, hb⟩
      rw [HRS.out]
      go_wp2_with fail
      go_ret
      exact ⟨rfl, bstep (balloc (bsame _) _) hb⟩
  · have hs0 : (s == 0) = false := by simpa using hs
    by_cases h12 : s = 1 ∨ s = 2
    · cases hkr : KeyP.right k.data.toList
      · have HR : Hid (SlotP.right ⟨s, k, kind, data, lo, hi, val⟩ = false) := Lib.hid (by simp [SlotP.right, hs, hkr])
        rw [HR.out]
        have HKR := Lib.hid hkr
        clear hkr
        have hkf : KeyP.code false = 1 := rfl
        rcases h12 with rfl | rfl
        all_goals
          go_enter Try.func113, Try.ntmps113
          go_wp2_with (go_at_call 85; refine (HK.out _).mono ?_; rintro e w1 ⟨rfl, hb⟩; rw [HKR.out]; obtain ⟨hc1, hf1⟩ := bcell hb; have hsz : w.heap.size < w1.heap.size := (by have := hb.size; simp at this; omega))
          go_ret
          exact ⟨rfl, bstep (balloc (bsame _) _) hb⟩
      · have HR : Hid (SlotP.right ⟨s, k, kind, data, lo, hi, val⟩ = CellP.right ⟨kind, data, lo, hi, val⟩) := Lib.hid (by rcases h12 with rfl | rfl <;> simp [SlotP.right, hkr])
        rw [HR.out]
        have HKR := Lib.hid hkr
        clear hkr
        have hkt : KeyP.code true = 0 := rfl
        cases hcr : CellP.right ⟨kind, data, lo, hi, val⟩
        all_goals
          have HCR := Lib.hid hcr
          clear hcr
          have hc0 := code_true
          have hc1 := code_false
          rcases h12 with rfl | rfl
          all_goals
            go_enter Try.func113, Try.ntmps113
            go_wp2_with (first
              | (go_at_call 85; refine (HK.out _).mono ?_; rintro e w1 ⟨rfl, hb⟩; rw [HKR.out]; obtain ⟨hcc, hff⟩ := bcell hb; have hsz : w.heap.size < w1.heap.size := (by have := hb.size; simp at this; omega))
              | (go_at_call 93; refine (HC.out _).mono ?_; rintro e w2 ⟨rfl, hb2⟩; rw [HCR.out]))
            go_ret
            exact ⟨rfl, bstep (bstep (balloc (bsame _) _) hb) hb2⟩
    · have h1 : (s == 1) = false := by simp; omega
      have h2 : (s == 2) = false := by simp; omega
      have HR : Hid (SlotP.right ⟨s, k, kind, data, lo, hi, val⟩ = false) := Lib.hid (by simp [SlotP.right, hs]; omega)
      rw [HR.out]
      clear h12
      go_enter Try.func113, Try.ntmps113
      go_wp2
      go_ret
      exact ⟨rfl, balloc (bsame _) _⟩

end Go.Proofs.Ytcagflakmokoiaa.SlotW
