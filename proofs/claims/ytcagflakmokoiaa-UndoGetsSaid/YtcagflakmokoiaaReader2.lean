/-
  The walks of be.Reader: take, Bytes, Left.
-/
import Derived.Test.YtcagflakmokoiaaReader
namespace Go.Proofs.Ytcagflakmokoiaa
open Go.RowKit
theorem grown_then {w w1 w2 : World} {b : Nat} (h : w.grownBy w1 (some b)) (hb : Below w1.heap.size w1 w2) : w.grownBy w2 (some b) :=
  ⟨hb.os.trans h.os, hb.tape.trans h.tape, hb.output.trans h.output, Nat.le_trans h.size hb.size, fun k hk hne => (hb.block k (Nat.lt_of_lt_of_le hk h.size)).trans (h.block k hk hne)⟩
end Go.Proofs.Ytcagflakmokoiaa
namespace Go.Proofs.Ytcagflakmokoiaa.RdP
def tb (l : List UInt8) (bad : Bool) (k : Nat) : Bool := bad || !decide (k ≤ l.length)
def tl (l : List UInt8) (bad : Bool) (k : Nat) : List UInt8 := if bad then l else if k ≤ l.length then l.drop k else []
def th (l : List UInt8) (bad : Bool) (k : Nat) : List UInt8 := if tb l bad k then [] else l.take k
end Go.Proofs.Ytcagflakmokoiaa.RdP
namespace Go.Proofs.Ytcagflakmokoiaa.RdW
open Go.RowKit
attribute [local go_sem ↓] cut_fold

set_option maxHeartbeats 800000 in
theorem take_any (b : Nat) (l : List UInt8) (bad : Bool) (k : Nat) (w : World) (h : Rd w b l bad) (hk : k ≤ 1000000000) :
    Calls Try.prog 120 #[.pointer (some ⟨b, 0, none⟩), .int .i64 (k : Int)] w fun e w' => ∃ A n c, e = .returned (.tuple #[.slice A n c, .bool (!RdP.tb l bad k)]) ∧ Bytes w' b A n c (RdP.th l bad k) ∧ Rd w' b (RdP.tl l bad k) (RdP.tb l bad k) ∧ w.grownBy w' (some b) := by
  obtain ⟨A, n, c, hs, hy⟩ := h
  have HS := Lib.hid hs
  have HY := Lib.hid hy
  obtain ⟨h0, h1⟩ := str2 hs
  have hf := fun j => hs.frozen j
  have hlt := hs.lt
  have hn := hy.2.1
  have hc := hy.2.2.1
  unfold maxLen at hc
  have hln := hy.1
  clear hs hy
  cases bad
  case true =>
    have HT : Hid (RdP.tb l true k = true) := Lib.hid rfl
    have HL : Hid (RdP.tl l true k = l) := Lib.hid rfl
    have HH : Hid (RdP.th l true k = []) := Lib.hid rfl
    rw [HT.out, HL.out, HH.out]
    clear hln
    go_enter Try.func120, Try.ntmps120
    go_wp2_with (go_at_call 79; refine (ok_any _ _ _ _ HS.out).mono ?_; rintro e w' ⟨rfl, rfl⟩)
    exact bodyPost_ret (v := .tuple #[.slice none 0 0, .bool false]) (by simp [results, Try.results120, go_sem]) rfl ⟨none, 0, 0, rfl, Bytes.none_ _ _, ⟨A, n, c, HS.out, HY.out⟩, grown_refl w b⟩
  case false =>
    by_cases hin : k ≤ n
    · have HT : Hid (RdP.tb l false k = false) := Lib.hid (by simp [RdP.tb, hln, hin])
      have HL : Hid (RdP.tl l false k = l.drop k) := Lib.hid (by simp [RdP.tl, hln, hin])
      have HH : Hid (RdP.th l false k = l.take k) := Lib.hid (by simp [RdP.th, HT.out])
      have HC := Lib.hid (HY.out.cut k n c hin (Nat.le_refl _) hn (Nat.le_refl _))
      have HC2 := Lib.hid (HY.out.cut 0 k k (Nat.zero_le _) hin (Nat.le_refl _) (by omega))
      rw [HT.out, HL.out, HH.out]
      have HX := Lib.hid hln
      clear hln
      go_enter Try.func120, Try.ntmps120
      go_wp2_with (go_at_call 79; refine (ok_any _ _ _ _ HS.out).mono ?_; rintro e w' ⟨rfl, rfl⟩)
      have hkeep : ∀ p : Addr, p.block < b → (w.setCell ⟨b, 0, none⟩ (.slice (cutA A k c 1) (n - k) (c - k))).cell? p = w.cell? p := fun p hp => by
        have := (grown_set (grown_refl w b) 0 (.slice (cutA A k c 1) (n - k) (c - k))).block p.block (by omega) (by intro e; injection e; omega)
        exact World.cell?_of_block (a := p) this
      have h2 := HC2.out
      simp only [Nat.sub_zero, List.drop_zero] at h2
      exact bodyPost_ret (v := .tuple #[.slice (cutA A 0 k 1) k k, .bool true]) (by simp [results, Try.results120, go_sem]) rfl
        ⟨_, _, _, rfl, h2.keep hkeep, ⟨_, _, _, (by have := HS.out.set 0 (.slice (cutA A k c 1) (n - k) (c - k)); simpa using this), (by
          have hx := HC.out
          rw [List.take_of_length_le (by simp; have := HX.out; omega)] at hx
          exact hx.keep hkeep)⟩, grown_set (grown_refl w b) 0 _⟩
    · have HT : Hid (RdP.tb l false k = true) := Lib.hid (by simp [RdP.tb, hln]; omega)
      have HL : Hid (RdP.tl l false k = []) := Lib.hid (by simp [RdP.tl, hln, hin])
      have HH : Hid (RdP.th l false k = []) := Lib.hid (by simp [RdP.th, HT.out])
      rw [HT.out, HL.out, HH.out]
      clear hln
      go_enter Try.func120, Try.ntmps120
      go_wp2_with (first
        | (go_at_call 79; refine (ok_any _ _ _ _ HS.out).mono ?_; rintro e w' ⟨rfl, rfl⟩)
        | (go_at_call 119; refine (spoil_any _ _ _ _ HS.out).mono ?_; rintro e w' ⟨rfl, hs', hg'⟩))
      exact bodyPost_ret (v := .tuple #[.slice none 0 0, .bool false]) (by simp [results, Try.results120, go_sem]) rfl ⟨none, 0, 0, rfl, Bytes.none_ _ _, ⟨_, _, _, hs', Bytes.none_ _ _⟩, hg'⟩

set_option maxHeartbeats 800000 in
theorem bytes_any (b : Nat) (l : List UInt8) (bad : Bool) (k : Nat) (w : World) (h : Rd w b l bad) (hk : k ≤ 1000000000) :
    Calls Try.prog 80 #[.pointer (some ⟨b, 0, none⟩), .int .i64 (k : Int)] w fun e w' => ∃ A n c, e = .returned (.slice A n c) ∧ Bytes w' w'.heap.size A n c (RdP.th l bad k) ∧ Rd w' b (RdP.tl l bad k) (RdP.tb l bad k) ∧ w.grownBy w' (some b) := by
  have HT := Lib.hid (take_any b l bad k w h hk)
  have hlt := h.lt
  have HLE : Hid ((RdP.th l bad k).length ≤ k) := Lib.hid (by unfold RdP.th; split <;> simp; omega)
  clear h
  cases ht : RdP.tb l bad k
  case true =>
    have HH : Hid (RdP.th l bad k = []) := Lib.hid (by simp [RdP.th, ht])
    have HTB := Lib.hid ht
    clear ht
    go_enter Try.func80, Try.ntmps80
    go_wp2_with fail
    refine HT.out.mono ?_
    rw [HTB.out]
    rintro e w1 ⟨A1, n1, c1, rfl, hy, hR, hg⟩
    go_wp2_with fail
    go_ret
    rw [HH.out]
    exact ⟨none, 0, 0, rfl, Bytes.none_ _ _, hR, hg⟩
  case false =>
    have HTB := Lib.hid ht
    clear ht
    go_enter Try.func80, Try.ntmps80
    go_wp2_with fail
    refine HT.out.mono ?_
    rw [HTB.out]
    rintro e w1 ⟨A1, n1, c1, rfl, hy, hR, hg⟩
    have hlt1 := hR.lt
    have hln := hy.len
    have HR := Lib.hid hR
    have HG := Lib.hid hg
    have HY := Lib.hid hy
    clear hy hR hg
    go_wp2_with fail
    refine (Be.with_any A1 n1 c1 0 b _ w1 HY.out (by omega) (by have := HLE.out; omega)).mono ?_
    rintro e w2 ⟨rfl, hrow, hb⟩
    have hy2 := Bytes.own hrow
    rw [hln] at hy2
    have HY2 := Lib.hid hy2
    have HB := Lib.hid hb
    clear hrow hb hy2
    go_wp2_with fail
    go_ret
    exact ⟨_, _, _, rfl, HY2.out, HR.out.below HB.out, grown_then HG.out HB.out⟩

set_option maxHeartbeats 400000 in
theorem left_any (b : Nat) (l : List UInt8) (bad : Bool) (w : World) (h : Rd w b l bad) :
    Calls Try.prog 82 #[.pointer (some ⟨b, 0, none⟩)] w fun e w' => e = .returned (.int .i64 (if bad then 0 else (l.length : Int))) ∧ w = w' := by
  obtain ⟨A, n, c, hs, hy⟩ := h
  have HS := Lib.hid hs
  obtain ⟨h0, h1⟩ := str2 hs
  have hln := hy.1
  have hc := Nat.le_trans hy.2.1 hy.2.2.1
  unfold maxLen at hc
  subst hln
  clear hs hy
  cases bad <;>
  · go_enter Try.func82, Try.ntmps82
    go_wp2_with (go_at_call 79; refine (ok_any _ _ _ _ HS.out).mono ?_; rintro e w' ⟨rfl, rfl⟩)
    go_ret
    exact ⟨rfl, rfl⟩
end Go.Proofs.Ytcagflakmokoiaa.RdW
