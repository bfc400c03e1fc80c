/-
  The walks of slices.Clone of bytes, and of undo.own.
-/
import Derived.Test.YtghgccgpgonlmaaPUndo
import Derived.Test.YtghgccgpgonlmaaApp
import Derived.Test.YtghgccgpgonlmaaRegS
import Derived.Test.YtghgccgpgonlmaaBox
import Derived.Test.YtghgccgpgonlmaaSlotC
import Derived.Test.YtghgccgpgonlmaaCellSet
import Derived.Lib.SliceRun
namespace Go.Proofs.Ytghgccgpgonlmaa
theorem str8 {w : World} {b : Nat} {c0 c1 c2 c3 c4 c5 c6 c7 : Value} (h : Str w b #[c0, c1, c2, c3, c4, c5, c6, c7]) : w.cell? ⟨b, 0, none⟩ = some c0 ∧ w.cell? ⟨b, 1, none⟩ = some c1 ∧ w.cell? ⟨b, 2, none⟩ = some c2 ∧ w.cell? ⟨b, 3, none⟩ = some c3 ∧ w.cell? ⟨b, 4, none⟩ = some c4 ∧ w.cell? ⟨b, 5, none⟩ = some c5 ∧ w.cell? ⟨b, 6, none⟩ = some c6 ∧ w.cell? ⟨b, 7, none⟩ = some c7 := ⟨h.cell 0, h.cell 1, h.cell 2, h.cell 3, h.cell 4, h.cell 5, h.cell 6, h.cell 7⟩
theorem str9 {w : World} {b : Nat} {c0 c1 c2 c3 c4 c5 c6 c7 c8 : Value} (h : Str w b #[c0, c1, c2, c3, c4, c5, c6, c7, c8]) : w.cell? ⟨b, 0, none⟩ = some c0 ∧ w.cell? ⟨b, 1, none⟩ = some c1 ∧ w.cell? ⟨b, 2, none⟩ = some c2 ∧ w.cell? ⟨b, 3, none⟩ = some c3 ∧ w.cell? ⟨b, 4, none⟩ = some c4 ∧ w.cell? ⟨b, 5, none⟩ = some c5 ∧ w.cell? ⟨b, 6, none⟩ = some c6 ∧ w.cell? ⟨b, 7, none⟩ = some c7 ∧ w.cell? ⟨b, 8, none⟩ = some c8 := ⟨h.cell 0, h.cell 1, h.cell 2, h.cell 3, h.cell 4, h.cell 5, h.cell 6, h.cell 7, h.cell 8⟩
theorem str10 {w : World} {b : Nat} {c0 c1 c2 c3 c4 c5 c6 c7 c8 c9 : Value} (h : Str w b #[c0, c1, c2, c3, c4, c5, c6, c7, c8, c9]) : w.cell? ⟨b, 0, none⟩ = some c0 ∧ w.cell? ⟨b, 1, none⟩ = some c1 ∧ w.cell? ⟨b, 2, none⟩ = some c2 ∧ w.cell? ⟨b, 3, none⟩ = some c3 ∧ w.cell? ⟨b, 4, none⟩ = some c4 ∧ w.cell? ⟨b, 5, none⟩ = some c5 ∧ w.cell? ⟨b, 6, none⟩ = some c6 ∧ w.cell? ⟨b, 7, none⟩ = some c7 ∧ w.cell? ⟨b, 8, none⟩ = some c8 ∧ w.cell? ⟨b, 9, none⟩ = some c9 := ⟨h.cell 0, h.cell 1, h.cell 2, h.cell 3, h.cell 4, h.cell 5, h.cell 6, h.cell 7, h.cell 8, h.cell 9⟩
end Go.Proofs.Ytghgccgpgonlmaa
namespace Go.Proofs.Ytghgccgpgonlmaa.UndoW
open Go.RowKit

theorem eql_nil (w : World) (a : Option Addr) (l c : Nat) : (binOp .eql 22 (.slice a l c) (.slice none 0 0)).run Try.prog w = .ok (.bool a.isNone) w := Lib.run_eql_slice_nil w _ _ a l c 0 0 Try.underlying22
section
attribute [local go_sem ↓] app_fold
set_option maxRecDepth 100000 in
set_option maxHeartbeats 400000 in
theorem clone_any (A : Option Addr) (n c B : Nat) (l : List UInt8) (w : World) (h : Bytes w B A n c l) (hB : B ≤ w.heap.size) (hn : n ≤ 140737488355328) :
    Calls Try.prog 73 #[.slice A n c] w (GivesBytes w l) := by
  cases A with
  | none =>
    have h0 : n = 0 := by
      rcases Nat.eq_zero_or_pos n with h0 | h0
      · exact h0
      · obtain ⟨b, o, e, -⟩ := h.2.2.2 h0
        cases e
    have hl : l = [] := List.eq_nil_of_length_eq_zero (by rw [h.1, h0])
    subst hl
    subst h0
    clear h
    have heq := eql_nil w none 0 c
    go_enter Try.func73, Try.ntmps73
    go_wp2
    go_ret
    exact ⟨none, 0, 0, rfl, Bytes.none_ _ _, bsame w⟩
  | some a =>
    obtain ⟨A3, c3, w3, happ3, hO3, hb3⟩ := (Own.empty w w.heap.size (Nat.le_refl _)).app (h.alloc hB _) (by omega) (by simp)
    simp only [Nat.zero_add, List.nil_append] at happ3 hO3
    have HB : Hid (Below w.heap.size w w3) := Lib.hid (((Below.refl _ w).alloc (Nat.le_refl _) _).trans hb3)
    have HO := Lib.hid hO3
    clear h hO3 hb3
    have heq := eql_nil w (some a) n c
    go_enter Try.func73, Try.ntmps73
    go_wp2
    go_ret
    exact ⟨A3, n, c3, rfl, HO.out.bytes, HB.out⟩
end
/-- the call hands back an item -/
def GivesItem (w : World) (x : Item) (e : Ending) (w' : World) : Prop := ∃ A n cap, e = .returned (.agg #[.int .i64 x.state, .string x.key, .int .i64 x.cell.kind, .slice A n cap, .int .i64 x.cell.lo, .int .i64 x.cell.hi, .int .i64 x.cell.val]) ∧ Bytes w' w'.heap.size A n cap x.cell.data ∧ Below w.heap.size w w'

set_option maxRecDepth 100000 in
set_option maxHeartbeats 400000 in
theorem own_any (A : Option Addr) (n cap B : Nat) (st : Int) (k : ByteArray) (kd : Int) (data : List UInt8) (lo hi va : Int) (w : World) (h : Bytes w B A n cap data) (hB : B ≤ w.heap.size) (hn : n ≤ 140737488355328) :
    Calls Try.prog 74 #[.agg #[.int .i64 st, .string k, .int .i64 kd, .slice A n cap, .int .i64 lo, .int .i64 hi, .int .i64 va]] w (GivesItem w ⟨st, k, ⟨kd, data, lo, hi, va⟩⟩) := by
  have H := Lib.hid h
  clear h
  go_enter Try.func74, Try.ntmps74
  go_wp2_with fail
  generalize hW0 : ((w).alloc (.cells #[.int .i64 st, .string k, .int .i64 kd, .slice A n cap, .int .i64 lo, .int .i64 hi, .int .i64 va] 54)).alloc (.cells #[.int .i64 0, .string ⟨#[]⟩, .int .i64 0, .slice none 0 0, .int .i64 0, .int .i64 0, .int .i64 0] 54) = W0
  have HS0_0 : Hid (Str W0 (w.heap.size) #[.int .i64 st, .string k, .int .i64 kd, .slice A n cap, .int .i64 lo, .int .i64 hi, .int .i64 va]) := Lib.hid (by rw [← hW0]; have := (Str.new (w) #[.int .i64 st, .string k, .int .i64 kd, .slice A n cap, .int .i64 lo, .int .i64 hi, .int .i64 va] 54).alloc (.cells #[.int .i64 0, .string ⟨#[]⟩, .int .i64 0, .slice none 0 0, .int .i64 0, .int .i64 0, .int .i64 0] 54); simpa using this)
  have HS1_0 : Hid (Str W0 (w.heap.size + 1) #[.int .i64 0, .string ⟨#[]⟩, .int .i64 0, .slice none 0 0, .int .i64 0, .int .i64 0, .int .i64 0]) := Lib.hid (by rw [← hW0]; have := Str.new ((w).alloc (.cells #[.int .i64 st, .string k, .int .i64 kd, .slice A n cap, .int .i64 lo, .int .i64 hi, .int .i64 va] 54)) #[.int .i64 0, .string ⟨#[]⟩, .int .i64 0, .slice none 0 0, .int .i64 0, .int .i64 0, .int .i64 0] 54; simpa using this)
  have HB_0 : Hid (Below w.heap.size w W0) := Lib.hid (by rw [← hW0]; exact balloc (balloc (bsame w) _) _)
  have hw_0 := HB_0.out.size
  clear hW0
  obtain ⟨f0_0_0, f0_0_1, f0_0_2, f0_0_3, f0_0_4, f0_0_5, f0_0_6⟩ := str7 HS0_0.out
  have hl0_0 := HS0_0.out.lt
  have hf0_0 := fun j => HS0_0.out.frozen j
  obtain ⟨f1_0_0, f1_0_1, f1_0_2, f1_0_3, f1_0_4, f1_0_5, f1_0_6⟩ := str7 HS1_0.out
  have hl1_0 := HS1_0.out.lt
  have hf1_0 := fun j => HS1_0.out.frozen j
  refine (clone_any A n cap B data _ (H.out.below (HB_0.out.mono hB)) (by omega) hn).mono ?_
  rintro e W1 ⟨A1, n1, c1, rfl, hy1, hb1⟩
  have HS0_1 := Lib.hid (HS0_0.out.next hb1)
  have HS1_1 := Lib.hid (HS1_0.out.next hb1)
  have HB_1 := Lib.hid (bstep HB_0.out hb1)
  have hw_1 := HB_1.out.size
  have hws_1 := (hb1).size
  clear f0_0_0 f0_0_1 f0_0_2 f0_0_3 f0_0_4 f0_0_5 f0_0_6 HS0_0 hf0_0 f1_0_0 f1_0_1 f1_0_2 f1_0_3 f1_0_4 f1_0_5 f1_0_6 HS1_0 hf1_0
  clear hb1
  obtain ⟨f0_1_0, f0_1_1, f0_1_2, f0_1_3, f0_1_4, f0_1_5, f0_1_6⟩ := str7 HS0_1.out
  have hl0_1 := HS0_1.out.lt
  have hf0_1 := fun j => HS0_1.out.frozen j
  obtain ⟨f1_1_0, f1_1_1, f1_1_2, f1_1_3, f1_1_4, f1_1_5, f1_1_6⟩ := str7 HS1_1.out
  have hl1_1 := HS1_1.out.lt
  have hf1_1 := fun j => HS1_1.out.frozen j
  have HYx_1 := Lib.hid (hy1)
  clear hy1
  go_wp2_with fail
  generalize hW2 : (W1).setCell ⟨w.heap.size, 3, none⟩ (.slice A1 n1 c1) = W2
  have HS0_2 : Hid (Str W2 (w.heap.size) #[.int .i64 st, .string k, .int .i64 kd, .slice A1 n1 c1, .int .i64 lo, .int .i64 hi, .int .i64 va]) := Lib.hid (by rw [← hW2]; have := (HS0_1.out).set 3 (.slice A1 n1 c1); simpa using this)
  have HS1_2 : Hid (Str W2 (w.heap.size + 1) #[.int .i64 0, .string ⟨#[]⟩, .int .i64 0, .slice none 0 0, .int .i64 0, .int .i64 0, .int .i64 0]) := Lib.hid (by rw [← hW2]; exact (HS1_1.out).other 3 _ (by omega))
  have hgr2 : W1.grownBy W2 (some (w.heap.size)) := by rw [← hW2]; exact grown_set (grown_refl W1 (w.heap.size)) 3 (.slice A1 n1 c1)
  have HB_2 := Lib.hid (below_grown HB_1.out hgr2 (by omega))
  have hw_2 := HB_2.out.size
  have hws_2 := hgr2.size
  have HYx_2 := Lib.hid ((Bytes.grown HYx_1.out (Nat.le_refl _) HS0_1.out rfl hgr2).more hws_2)
  clear HYx_1
  clear hW2
  clear f0_1_0 f0_1_1 f0_1_2 f0_1_3 f0_1_4 f0_1_5 f0_1_6 HS0_1 hf0_1 f1_1_0 f1_1_1 f1_1_2 f1_1_3 f1_1_4 f1_1_5 f1_1_6 HS1_1 hf1_1
  clear hgr2
  obtain ⟨f0_2_0, f0_2_1, f0_2_2, f0_2_3, f0_2_4, f0_2_5, f0_2_6⟩ := str7 HS0_2.out
  have hl0_2 := HS0_2.out.lt
  have hf0_2 := fun j => HS0_2.out.frozen j
  obtain ⟨f1_2_0, f1_2_1, f1_2_2, f1_2_3, f1_2_4, f1_2_5, f1_2_6⟩ := str7 HS1_2.out
  have hl1_2 := HS1_2.out.lt
  have hf1_2 := fun j => HS1_2.out.frozen j
  generalize hW3 : (((((((W2).setCell ⟨w.heap.size + 1, 0, none⟩ (.int .i64 st)).setCell ⟨w.heap.size + 1, 1, none⟩ (.string k)).setCell ⟨w.heap.size + 1, 2, none⟩ (.int .i64 kd)).setCell ⟨w.heap.size + 1, 3, none⟩ (.slice A1 n1 c1)).setCell ⟨w.heap.size + 1, 4, none⟩ (.int .i64 lo)).setCell ⟨w.heap.size + 1, 5, none⟩ (.int .i64 hi)).setCell ⟨w.heap.size + 1, 6, none⟩ (.int .i64 va) = W3
  have HS0_3 : Hid (Str W3 (w.heap.size) #[.int .i64 st, .string k, .int .i64 kd, .slice A1 n1 c1, .int .i64 lo, .int .i64 hi, .int .i64 va]) := Lib.hid (by rw [← hW3]; exact (((((((HS0_2.out).other 0 _ (by omega)).other 1 _ (by omega)).other 2 _ (by omega)).other 3 _ (by omega)).other 4 _ (by omega)).other 5 _ (by omega)).other 6 _ (by omega))
  have HS1_3 : Hid (Str W3 (w.heap.size + 1) #[.int .i64 st, .string k, .int .i64 kd, .slice A1 n1 c1, .int .i64 lo, .int .i64 hi, .int .i64 va]) := Lib.hid (by rw [← hW3]; have := (((((((HS1_2.out).set 0 (.int .i64 st)).set 1 (.string k)).set 2 (.int .i64 kd)).set 3 (.slice A1 n1 c1)).set 4 (.int .i64 lo)).set 5 (.int .i64 hi)).set 6 (.int .i64 va); simpa using this)
  have hgr3 : W2.grownBy W3 (some (w.heap.size + 1)) := by rw [← hW3]; exact grown_set (grown_set (grown_set (grown_set (grown_set (grown_set (grown_set (grown_refl W2 (w.heap.size + 1)) 0 (.int .i64 st)) 1 (.string k)) 2 (.int .i64 kd)) 3 (.slice A1 n1 c1)) 4 (.int .i64 lo)) 5 (.int .i64 hi)) 6 (.int .i64 va)
  have HB_3 := Lib.hid (below_grown HB_2.out hgr3 (by omega))
  have hw_3 := HB_3.out.size
  have hws_3 := hgr3.size
  have HYx_3 := Lib.hid ((Bytes.grown HYx_2.out (Nat.le_refl _) HS1_2.out rfl hgr3).more hws_3)
  clear HYx_2
  clear hW3
  clear f0_2_0 f0_2_1 f0_2_2 f0_2_3 f0_2_4 f0_2_5 f0_2_6 HS0_2 hf0_2 f1_2_0 f1_2_1 f1_2_2 f1_2_3 f1_2_4 f1_2_5 f1_2_6 HS1_2 hf1_2
  clear hgr3
  obtain ⟨f0_3_0, f0_3_1, f0_3_2, f0_3_3, f0_3_4, f0_3_5, f0_3_6⟩ := str7 HS0_3.out
  have hl0_3 := HS0_3.out.lt
  have hf0_3 := fun j => HS0_3.out.frozen j
  obtain ⟨f1_3_0, f1_3_1, f1_3_2, f1_3_3, f1_3_4, f1_3_5, f1_3_6⟩ := str7 HS1_3.out
  have hl1_3 := HS1_3.out.lt
  have hf1_3 := fun j => HS1_3.out.frozen j
  exact bodyPost_ret (v := .agg #[.int .i64 st, .string k, .int .i64 kd, .slice A1 n1 c1, .int .i64 lo, .int .i64 hi, .int .i64 va]) (by simp [results, Try.results74, go_sem, *]) rfl ⟨A1, n1, c1, rfl, HYx_3.out, HB_3.out⟩
end Go.Proofs.Ytghgccgpgonlmaa.UndoW
