/-
  The walks of be.Reader: a box with the bytes that are ahead, and whether it is bad.
-/
import Derived.Test.YtcagflakmokoiaaNum
import Derived.Test.YtcagflakmokoiaaBox
import Derived.Test.YtcagflakmokoiaaCut
import Derived.Test.YtcagflakmokoiaaStr
namespace Go.Proofs.Ytcagflakmokoiaa
open Go.RowKit

/-- a reader: what is ahead, and whether it is bad -/
def Rd (w : World) (b : Nat) (l : List UInt8) (bad : Bool) : Prop := ∃ A n c, Str w b #[.slice A n c, .bool bad] ∧ Bytes w b A n c l
theorem Rd.lt {w : World} {b : Nat} {l : List UInt8} {bad : Bool} (h : Rd w b l bad) : b < w.heap.size := by
  obtain ⟨A, n, c, hs, -⟩ := h
  exact hs.lt
theorem Rd.below {w w' : World} {b : Nat} {l : List UInt8} {bad : Bool} (h : Rd w b l bad) (hb : Below w.heap.size w w') : Rd w' b l bad := by
  obtain ⟨A, n, c, hs, hy⟩ := h
  exact ⟨A, n, c, hs.next hb, hy.keep fun p hp => hb.cell (Nat.lt_trans hp hs.lt)⟩
theorem grownSome {w w1 : World} {g : Nat} (h : w.grownBy w1 (some g)) : w.heap.size ≤ w1.heap.size := h.size
theorem Str.near {w w1 : World} {B b : Nat} {cs : Array Value} (h : Str w b cs) (hg : w.grownBy w1 (some B)) (hne : b ≠ B) : Str w1 b cs := h.grown hg hne
theorem grown_below {w w1 : World} {g : Nat} (hg : w.grownBy w1 (some g)) : Below g w w1 ∨ w.heap.size ≤ g := by
  rcases Nat.lt_or_ge g w.heap.size with h | h
  · exact .inl ⟨hg.os, hg.tape, hg.output, hg.size, fun k hk => hg.block k (by omega) (by intro e; injection e; omega)⟩
  · exact .inr h
end Go.Proofs.Ytcagflakmokoiaa
namespace Go.Proofs.Ytcagflakmokoiaa.RdP
/-- Num: the number, what is ahead then, bad -/
def numV (l : List UInt8) (bad : Bool) (width : Nat) : Int := if bad then 0 else NumP.val l 0 width
def numL (l : List UInt8) (bad : Bool) (width : Nat) : List UInt8 := if bad then l else if width ≤ l.length then l.drop width else []
def numB (l : List UInt8) (bad : Bool) (width : Nat) : Bool := if bad then true else !decide (width ≤ l.length)
/-- take -/
def takeB (l : List UInt8) (bad : Bool) (k : Int) : Bool := bad || !(decide (0 ≤ k) && decide (k ≤ (l.length : Int)))
def takeL (l : List UInt8) (bad : Bool) (k : Int) : List UInt8 := if bad then l else if takeB l bad k then [] else l.drop k.toNat
def takeH (l : List UInt8) (bad : Bool) (k : Int) : List UInt8 := if takeB l bad k then [] else l.take k.toNat
end Go.Proofs.Ytcagflakmokoiaa.RdP
namespace Go.Proofs.Ytcagflakmokoiaa.RdW
open Go.RowKit
attribute [local go_sem ↓] cut_fold

set_option maxHeartbeats 400000 in
theorem read_any (A : Option Addr) (n c B : Nat) (l : List UInt8) (w : World) (h : Bytes w B A n c l) (hB : B ≤ w.heap.size) (hn : n ≤ 140737488355328) :
    Calls Try.prog 77 #[.slice A n c] w fun e w' => ∃ b, e = .returned (.pointer (some ⟨b, 0, none⟩)) ∧ w.heap.size ≤ b ∧ Rd w' b l false ∧ Below w.heap.size w w' := by
  have H := Lib.hid h
  clear h
  go_enter Try.func77, Try.ntmps77
  go_wp2_with (go_at_call 117; refine (Be.with_any A n c 0 B l w H.out hB (by omega)).mono ?_; rintro e w1 ⟨rfl, hrow, hb⟩)
  have hy := Bytes.own hrow
  rw [H.out.1] at hy
  have HY := Lib.hid hy
  clear hy
  have HB := Lib.hid hb
  clear hrow hb
  go_wp2
  go_ret
  have hs := HB.out.size
  exact ⟨w1.heap.size, rfl, hs, ⟨_, _, _, Str.new _ _ _, HY.out.alloc (Nat.le_refl _) _⟩, balloc HB.out _⟩

theorem ok_any (b : Nat) (s : Value) (bad : Bool) (w : World) (h : Str w b #[s, .bool bad]) :
    Calls Try.prog 79 #[.pointer (some ⟨b, 0, none⟩)] w fun e w' => e = .returned (.bool (!bad)) ∧ w = w' := by
  obtain ⟨h0, h1⟩ := str2 h
  clear h
  go_enter Try.func79, Try.ntmps79
  go_wp2
  go_ret
  exact ⟨rfl, rfl⟩

theorem spoil_any (b : Nat) (s : Value) (bad : Bool) (w : World) (h : Str w b #[s, .bool bad]) :
    Calls Try.prog 119 #[.pointer (some ⟨b, 0, none⟩)] w fun e w' => e = .returned (.tuple #[]) ∧ Str w' b #[.slice none 0 0, .bool true] ∧ w.grownBy w' (some b) := by
  obtain ⟨h0, h1⟩ := str2 h
  have HS := Lib.hid h
  have hf := fun j => h.frozen j
  clear h
  go_enter Try.func119, Try.ntmps119
  go_wp2
  first | go_end0 | refine bodyPost_ret (results_none rfl _ _ _) rfl ?_
  refine ⟨rfl, ?_, ?_⟩
  · have := (HS.out.set 0 (.slice none 0 0)).set 1 (.bool true)
    simpa using this
  · exact grown_set (grown_set (grown_refl w b) 0 _) 1 _

set_option maxHeartbeats 800000 in
theorem num_any (b : Nat) (l : List UInt8) (bad : Bool) (width : Nat) (w : World) (h : Rd w b l bad) (hw1 : 1 ≤ width) (hw8 : width ≤ 8) :
    Calls Try.prog 78 #[.pointer (some ⟨b, 0, none⟩), .int .i64 (width : Int)] w fun e w' => e = .returned (.int .i64 (RdP.numV l bad width)) ∧ Rd w' b (RdP.numL l bad width) (RdP.numB l bad width) ∧ w.grownBy w' (some b) := by
  obtain ⟨A, n, c, hs, hy⟩ := h
  have HS := Lib.hid hs
  have HY := Lib.hid hy
  obtain ⟨h0, h1⟩ := str2 hs
  have hf := fun j => hs.frozen j
  have hlt := hs.lt
  have hn := hy.2.1
  have hc := hy.2.2.1
  unfold maxLen at hc
  have hln := hy.1
  clear hs hy
  cases bad
  case true =>
    clear hln
    go_enter Try.func78, Try.ntmps78
    go_wp2_with (go_at_call 79; refine (ok_any _ _ _ _ HS.out).mono ?_; rintro e w' ⟨rfl, rfl⟩)
    go_ret
    exact ⟨rfl, ⟨A, n, c, HS.out, HY.out⟩, grown_refl w b⟩
  case false =>
    by_cases hin : width ≤ n
    · have HV : Hid (RdP.numV l false width = NumP.val l 0 width) := Lib.hid rfl
      have HL : Hid (RdP.numL l false width = l.drop width) := Lib.hid (by simp [RdP.numL, hln, hin])
      have HB : Hid (RdP.numB l false width = false) := Lib.hid (by simp [RdP.numB, hln, hin])
      have HT : Hid (NumP.there l 0 width = true) := Lib.hid (by simp [NumP.there, hln, hin])
      have HC := Lib.hid (HY.out.cut width n c hin (Nat.le_refl _) hn (Nat.le_refl _))
      rw [HV.out, HL.out, HB.out]
      have HX := Lib.hid hln
      clear hln
      go_enter Try.func78, Try.ntmps78
      go_wp2_with (first
        | (go_at_call 79; refine (ok_any _ _ _ _ HS.out).mono ?_; rintro e w' ⟨rfl, rfl⟩)
        | (go_at_call 118; refine (NumW.num_any A n c b 0 width l w HY.out (by omega) hw1 hw8).mono ?_; rintro e w' ⟨rfl, rfl⟩; rw [HT.out]))
      go_ret
      refine ⟨rfl, ⟨_, _, _, (by have := HS.out.set 0 (.slice (cutA A width c 1) (n - width) (c - width)); simpa using this), ?_⟩, grown_set (grown_refl w b) 0 _⟩
      have hx := HC.out
      rw [List.take_of_length_le (by simp; have := HX.out; omega)] at hx
      exact hx.keep fun p hp => by
        have := (grown_set (grown_refl w b) 0 (.slice (cutA A width c 1) (n - width) (c - width))).block p.block (by omega) (by intro e; injection e; omega)
        exact World.cell?_of_block (a := p) this
    · have HV : Hid (RdP.numV l false width = 0) := Lib.hid (by simp [RdP.numV, NumP.val, hln, hin])
      have HL : Hid (RdP.numL l false width = []) := Lib.hid (by simp [RdP.numL, hln, hin])
      have HB : Hid (RdP.numB l false width = true) := Lib.hid (by simp [RdP.numB, hln, hin])
      have HT : Hid (NumP.there l 0 width = false) := Lib.hid (by simp [NumP.there, hln, hin])
      rw [HV.out, HL.out, HB.out]
      clear hln
      go_enter Try.func78, Try.ntmps78
      go_wp2_with (first
        | (go_at_call 79; refine (ok_any _ _ _ _ HS.out).mono ?_; rintro e w' ⟨rfl, rfl⟩)
        | (go_at_call 119; refine (spoil_any _ _ _ _ HS.out).mono ?_; rintro e w' ⟨rfl, hs', hg'⟩)
        | (go_at_call 118; refine (NumW.num_any A n c b 0 width l w HY.out (by omega) hw1 hw8).mono ?_; rintro e w' ⟨rfl, rfl⟩; rw [HT.out]))
      go_ret
      exact ⟨rfl, ⟨_, _, _, hs', Bytes.none_ _ _⟩, hg'⟩
end Go.Proofs.Ytcagflakmokoiaa.RdW
