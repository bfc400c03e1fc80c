/-
  Parts of the proof of WalStays.
-/
import Derived.Test.YtpdfnlhhnodnjaaGreatProg
import Derived.Test.YtpdfnlhhnodnjaaGreatWsG4
import Derived.Test.YtpdfnlhhnodnjaaGreatWsG0
import Derived.Test.YtpdfnlhhnodnjaaGreatWsG1
import Derived.Test.YtpdfnlhhnodnjaaGreatWsG3
import Derived.Laws.StructEq
import Derived.Test.YtpdfnlhhnodnjaaGreatWsG2
section
namespace Go.Proofs.YtpdfnlhhnodnjaaGreat.NumW
open Go.RowKit

theorem val_no (l : List UInt8) (a width : Nat) (h : ¬ a + width ≤ l.length) : NumP.val l a width = 0 := by simp [NumP.val, h]
theorem val_yes (l : List UInt8) (a width : Nat) (h : a + width ≤ l.length) : NumP.val l a width = NumP.toI (NumP.num ((l.drop a).take width)) := by simp [NumP.val, h]
theorem there_no (l : List UInt8) (a width : Nat) (h : ¬ a + width ≤ l.length) : NumP.there l a width = false := by simp [NumP.there, h]
theorem there_yes (l : List UInt8) (a width : Nat) (h : a + width ≤ l.length) : NumP.there l a width = true := by simp [NumP.there, h]
theorem take_step (l : List UInt8) (a k : Nat) (h : a + k < l.length) : NumP.num ((l.drop a).take (k + 1)) = NumP.num ((l.drop a).take k) * 256 + (l[a + k]).toNat := by
  have hl : k < (l.drop a).length := by simp; omega
  rw [List.take_succ_eq_append_getElem hl, NumP.num_snoc]
  simp
theorem take_lt (l : List UInt8) (a k : Nat) (h : k ≤ 7) : NumP.num ((l.drop a).take k) < 72057594037927936 := NumP.num_lt7 _ (by simp; omega)

theorem or_join (x u : Nat) (hx : x < 72057594037927936) (hu : u < 256) : bits .or .u64 ((x : Int) * 256) (u : Int) = ((x * 256 + u : Nat) : Int) := by
  have e : (x : Int) * 256 = ((x * 256 : Nat) : Int) := by omega
  rw [e, u64_or_nat (x * 256) u (by omega) (by omega), nat_join 8 (x * 256) u (by omega) (by omega)]
theorem wrap_toI (u : Nat) (h : u < 18446744073709551616) : wrap64 (u : Int) = NumP.toI u := by
  unfold wrap64 NumP.toI
  split <;> omega

set_option maxHeartbeats 1000000 in
theorem num_any (A : Option Addr) (n c B a width : Nat) (l : List UInt8) (w : World) (h : Bytes w B A n c l) (ha : a ≤ 4611686018427387904) (hw1 : 1 ≤ width) (hw8 : width ≤ 8) :
    Calls Tryz.prog 54 #[.slice A n c, .int .i64 (a : Int), .int .i64 (width : Int)] w fun e w' => e = .returned (.tuple #[.int .i64 (NumP.val l a width), .bool (NumP.there l a width)]) ∧ w = w' := by
  have hn := Nat.le_trans h.2.1 h.2.2.1
  have hc1 := h.2.1
  have hc2 := h.2.2.1
  unfold maxLen at hn hc2
  have hl := h.len
  have hwd : (decide ((1 : Int) ≤ (width : Int)) && decide ((width : Int) ≤ 8)) = true := by simp; omega
  by_cases hin : a + width ≤ n
  · obtain ⟨b, o, rfl, hb, hcell⟩ := h.2.2.2 (by omega)
    have HC := Lib.hid hcell
    have HL := Lib.hid hl
    have HV := Lib.hid (val_yes l a width (by omega))
    have HT := Lib.hid (there_yes l a width (by omega))
    rw [HV.out, HT.out]
    clear hcell h hl
    have d1 : decide ((a : Int) < 0) = false := by simp
    have d2 : decide (n < a) = false := by simp; omega
    have d3 : decide ((n : Int) - (a : Int) < (width : Int)) = false := by simp; omega
    have d4 : a + width - a = width := by omega
    go_enter Tryz.func54, Tryz.ntmps54
    go_wp2_with (go_at_call 63; refine (Be.wide_any _ _).mono ?_; rintro e w' ⟨rfl, rfl⟩)
    go_loop [8, 42] (fun v i => ∃ k : Nat, k ≤ width ∧ i = .int .i64 k ∧ v = .int .u64 ((NumP.num ((l.drop a).take k) : Nat) : Int)) (fun _ i => width - (intOf i).toNat)
    case atStart => exact ⟨0, Nat.zero_le _, rfl, by simp [NumP.num]⟩
    case round =>
      obtain ⟨k, hk, rfl, rfl⟩ := hrel
      by_cases hlt : k < width
      · have hlk : a + k < l.length := by rw [HL.out]; omega
        have hcell : w.cell? ⟨b, o + a + k, none⟩ = some (.int .u8 ((l[a + k]'hlk).toNat : Int)) := by
          rw [Nat.add_assoc]
          exact HC.out (a + k) _ (List.getElem?_eq_getElem hlk)
        have HS := Lib.hid (take_step l a k hlk)
        have hx := take_lt l a k (by omega)
        generalize hg : NumP.num ((l.drop a).take k) = x at *
        have HG := Lib.hid hg
        clear hg
        have hu := (l[a + k]'hlk).toNat_lt
        generalize (l[a + k]'hlk).toNat = u at *
        go_wp2
        go_round
        case rel => refine ⟨k + 1, by omega, by go_num, ?_⟩; rw [HS.out, or_join x u hx (by omega)]
        case measure => simp [intOf]; omega
      · obtain rfl : k = width := by omega
        have hx := NumP.num_lt8 ((l.drop a).take k) (by simp; omega)
        have HW := Lib.hid (wrap_toI _ hx)
        go_wp2
        go_ret2
        rw [← HW.out]
        exact ⟨rfl, rfl⟩
  · have HV := Lib.hid (val_no l a width (by omega))
    have HT := Lib.hid (there_no l a width (by omega))
    rw [HV.out, HT.out]
    clear h hl
    have d1 : ¬ (a : Int) < 0 := by omega
    by_cases hlt : n < a
    · have d2 : (n : Int) < (a : Int) := by omega
      go_enter Tryz.func54, Tryz.ntmps54
      go_wp2_with (go_at_call 63; refine (Be.wide_any _ _).mono ?_; rintro e w' ⟨rfl, rfl⟩)
      go_ret2
      exact ⟨rfl, rfl⟩
    · have d2 : ¬ (n : Int) < (a : Int) := by omega
      have d3 : (n : Int) - (a : Int) < (width : Int) := by omega
      go_enter Tryz.func54, Tryz.ntmps54
      go_wp2_with (go_at_call 63; refine (Be.wide_any _ _).mono ?_; rintro e w' ⟨rfl, rfl⟩)
      go_ret2
      exact ⟨rfl, rfl⟩

end Go.Proofs.YtpdfnlhhnodnjaaGreat.NumW
end
section
namespace Go.Proofs.YtpdfnlhhnodnjaaGreat
open Go.RowKit

/-- a reader: what is ahead, and whether it is bad -/
def Rd (w : World) (b : Nat) (l : List UInt8) (bad : Bool) : Prop := ∃ A n c, Str w b #[.slice A n c, .bool bad] ∧ Bytes w b A n c l
theorem Rd.lt {w : World} {b : Nat} {l : List UInt8} {bad : Bool} (h : Rd w b l bad) : b < w.heap.size := by
  obtain ⟨A, n, c, hs, -⟩ := h
  exact hs.lt
theorem Rd.below {w w' : World} {b : Nat} {l : List UInt8} {bad : Bool} (h : Rd w b l bad) (hb : Below w.heap.size w w') : Rd w' b l bad := by
  obtain ⟨A, n, c, hs, hy⟩ := h
  exact ⟨A, n, c, hs.next hb, hy.keep fun p hp => hb.cell (Nat.lt_trans hp hs.lt)⟩
end Go.Proofs.YtpdfnlhhnodnjaaGreat
namespace Go.Proofs.YtpdfnlhhnodnjaaGreat.RdP
/-- Num: the number, what is ahead then, bad -/
def numV (l : List UInt8) (bad : Bool) (width : Nat) : Int := if bad then 0 else NumP.val l 0 width
def numL (l : List UInt8) (bad : Bool) (width : Nat) : List UInt8 := if bad then l else if width ≤ l.length then l.drop width else []
def numB (l : List UInt8) (bad : Bool) (width : Nat) : Bool := if bad then true else !decide (width ≤ l.length)
end Go.Proofs.YtpdfnlhhnodnjaaGreat.RdP
namespace Go.Proofs.YtpdfnlhhnodnjaaGreat.RdW
open Go.RowKit
attribute [local go_sem ↓] cut_fold

set_option maxHeartbeats 400000 in
theorem read_any (A : Option Addr) (n c B : Nat) (l : List UInt8) (w : World) (h : Bytes w B A n c l) (hB : B ≤ w.heap.size) (hn : n ≤ 140737488355328) :
    Calls Tryz.prog 84 #[.slice A n c] w fun e w' => ∃ b, e = .returned (.pointer (some ⟨b, 0, none⟩)) ∧ w.heap.size ≤ b ∧ Rd w' b l false ∧ Below w.heap.size w w' := by
  have H := Lib.hid h
  clear h
  go_enter Tryz.func84, Tryz.ntmps84
  go_wp2_with (go_at_call 64; refine (Be.with_any A n c 0 B l w H.out hB (by omega)).mono ?_; rintro e w1 ⟨rfl, hrow, hb⟩)
  have hy := Bytes.own hrow
  rw [H.out.1] at hy
  have HY := Lib.hid hy
  clear hy
  have HB := Lib.hid hb
  clear hrow hb
  go_wp2
  go_ret
  have hs := HB.out.size
  exact ⟨w1.heap.size, rfl, hs, ⟨_, _, _, Str.new _ _ _, HY.out.alloc (Nat.le_refl _) _⟩, balloc HB.out _⟩

theorem ok_any (b : Nat) (s : Value) (bad : Bool) (w : World) (h : Str w b #[s, .bool bad]) :
    Calls Tryz.prog 86 #[.pointer (some ⟨b, 0, none⟩)] w fun e w' => e = .returned (.bool (!bad)) ∧ w = w' := by
  obtain ⟨h0, h1⟩ := str2 h
  clear h
  go_enter Tryz.func86, Tryz.ntmps86
  go_wp2
  go_ret
  exact ⟨rfl, rfl⟩

theorem spoil_any (b : Nat) (s : Value) (bad : Bool) (w : World) (h : Str w b #[s, .bool bad]) :
    Calls Tryz.prog 105 #[.pointer (some ⟨b, 0, none⟩)] w fun e w' => e = .returned (.tuple #[]) ∧ Str w' b #[.slice none 0 0, .bool true] ∧ w.grownBy w' (some b) := by
  obtain ⟨h0, h1⟩ := str2 h
  have HS := Lib.hid h
  have hf := fun j => h.frozen j
  clear h
  go_enter Tryz.func105, Tryz.ntmps105
  go_wp2
  first | go_end0 | refine bodyPost_ret (results_none rfl _ _ _) rfl ?_
  refine ⟨rfl, ?_, ?_⟩
  · have := (HS.out.set 0 (.slice none 0 0)).set 1 (.bool true)
    simpa using this
  · exact grown_set (grown_set (grown_refl w b) 0 _) 1 _

set_option maxHeartbeats 800000 in
theorem num_any (b : Nat) (l : List UInt8) (bad : Bool) (width : Nat) (w : World) (h : Rd w b l bad) (hw1 : 1 ≤ width) (hw8 : width ≤ 8) :
    Calls Tryz.prog 85 #[.pointer (some ⟨b, 0, none⟩), .int .i64 (width : Int)] w fun e w' => e = .returned (.int .i64 (RdP.numV l bad width)) ∧ Rd w' b (RdP.numL l bad width) (RdP.numB l bad width) ∧ w.grownBy w' (some b) := by
  obtain ⟨A, n, c, hs, hy⟩ := h
  have HS := Lib.hid hs
  have HY := Lib.hid hy
  obtain ⟨h0, h1⟩ := str2 hs
  have hf := fun j => hs.frozen j
  have hlt := hs.lt
  have hn := hy.2.1
  have hc := hy.2.2.1
  unfold maxLen at hc
  have hln := hy.1
  clear hs hy
  cases bad
  case true =>
    clear hln
    go_enter Tryz.func85, Tryz.ntmps85
    go_wp2_with (go_at_call 86; refine (ok_any _ _ _ _ HS.out).mono ?_; rintro e w' ⟨rfl, rfl⟩)
    go_ret
    exact ⟨rfl, ⟨A, n, c, HS.out, HY.out⟩, grown_refl w b⟩
  case false =>
    by_cases hin : width ≤ n
    · have HV : Hid (RdP.numV l false width = NumP.val l 0 width) := Lib.hid rfl
      have HL : Hid (RdP.numL l false width = l.drop width) := Lib.hid (by simp [RdP.numL, hln, hin])
      have HB : Hid (RdP.numB l false width = false) := Lib.hid (by simp [RdP.numB, hln, hin])
      have HT : Hid (NumP.there l 0 width = true) := Lib.hid (by simp [NumP.there, hln, hin])
      have HC := Lib.hid (HY.out.cut width n c hin (Nat.le_refl _) hn (Nat.le_refl _))
      rw [HV.out, HL.out, HB.out]
      have HX := Lib.hid hln
      clear hln
      go_enter Tryz.func85, Tryz.ntmps85
      go_wp2_with (first
        | (go_at_call 86; refine (ok_any _ _ _ _ HS.out).mono ?_; rintro e w' ⟨rfl, rfl⟩)
        | (go_at_call 54; refine (NumW.num_any A n c b 0 width l w HY.out (by omega) hw1 hw8).mono ?_; rintro e w' ⟨rfl, rfl⟩; rw [HT.out]))
      go_ret
      refine ⟨rfl, ⟨_, _, _, (by have := HS.out.set 0 (.slice (cutA A width c 1) (n - width) (c - width)); simpa using this), ?_⟩, grown_set (grown_refl w b) 0 _⟩
      have hx := HC.out
      rw [List.take_of_length_le (by simp; have := HX.out; omega)] at hx
      exact hx.keep fun p hp => by
        have := (grown_set (grown_refl w b) 0 (.slice (cutA A width c 1) (n - width) (c - width))).block p.block (by omega) (by intro e; injection e; omega)
        exact World.cell?_of_block (a := p) this
    · have HV : Hid (RdP.numV l false width = 0) := Lib.hid (by simp [RdP.numV, NumP.val, hln, hin])
      have HL : Hid (RdP.numL l false width = []) := Lib.hid (by simp [RdP.numL, hln, hin])
      have HB : Hid (RdP.numB l false width = true) := Lib.hid (by simp [RdP.numB, hln, hin])
      have HT : Hid (NumP.there l 0 width = false) := Lib.hid (by simp [NumP.there, hln, hin])
      rw [HV.out, HL.out, HB.out]
      clear hln
      go_enter Tryz.func85, Tryz.ntmps85
      go_wp2_with (first
        | (go_at_call 86; refine (ok_any _ _ _ _ HS.out).mono ?_; rintro e w' ⟨rfl, rfl⟩)
        | (go_at_call 105; refine (spoil_any _ _ _ _ HS.out).mono ?_; rintro e w' ⟨rfl, hs', hg'⟩)
        | (go_at_call 54; refine (NumW.num_any A n c b 0 width l w HY.out (by omega) hw1 hw8).mono ?_; rintro e w' ⟨rfl, rfl⟩; rw [HT.out]))
      go_ret
      exact ⟨rfl, ⟨_, _, _, hs', Bytes.none_ _ _⟩, hg'⟩
end Go.Proofs.YtpdfnlhhnodnjaaGreat.RdW
end
section
namespace Go.Proofs.YtpdfnlhhnodnjaaGreat
open Go.RowKit
theorem grown_then {w w1 w2 : World} {b : Nat} (h : w.grownBy w1 (some b)) (hb : Below w1.heap.size w1 w2) : w.grownBy w2 (some b) :=
  ⟨hb.os.trans h.os, hb.tape.trans h.tape, hb.output.trans h.output, Nat.le_trans h.size hb.size, fun k hk hne => (hb.block k (Nat.lt_of_lt_of_le hk h.size)).trans (h.block k hk hne)⟩
end Go.Proofs.YtpdfnlhhnodnjaaGreat
namespace Go.Proofs.YtpdfnlhhnodnjaaGreat.RdP
def tb (l : List UInt8) (bad : Bool) (k : Nat) : Bool := bad || !decide (k ≤ l.length)
def tl (l : List UInt8) (bad : Bool) (k : Nat) : List UInt8 := if bad then l else if k ≤ l.length then l.drop k else []
def th (l : List UInt8) (bad : Bool) (k : Nat) : List UInt8 := if tb l bad k then [] else l.take k
end Go.Proofs.YtpdfnlhhnodnjaaGreat.RdP
namespace Go.Proofs.YtpdfnlhhnodnjaaGreat.RdW
open Go.RowKit
attribute [local go_sem ↓] cut_fold

set_option maxHeartbeats 800000 in
theorem take_any (b : Nat) (l : List UInt8) (bad : Bool) (k : Nat) (w : World) (h : Rd w b l bad) (hk : k ≤ 1000000000) :
    Calls Tryz.prog 106 #[.pointer (some ⟨b, 0, none⟩), .int .i64 (k : Int)] w fun e w' => ∃ A n c, e = .returned (.tuple #[.slice A n c, .bool (!RdP.tb l bad k)]) ∧ Bytes w' b A n c (RdP.th l bad k) ∧ Rd w' b (RdP.tl l bad k) (RdP.tb l bad k) ∧ w.grownBy w' (some b) := by
  obtain ⟨A, n, c, hs, hy⟩ := h
  have HS := Lib.hid hs
  have HY := Lib.hid hy
  obtain ⟨h0, h1⟩ := str2 hs
  have hf := fun j => hs.frozen j
  have hlt := hs.lt
  have hn := hy.2.1
  have hc := hy.2.2.1
  unfold maxLen at hc
  have hln := hy.1
  clear hs hy
  cases bad
  case true =>
    have HT : Hid (RdP.tb l true k = true) := Lib.hid rfl
    have HL : Hid (RdP.tl l true k = l) := Lib.hid rfl
    have HH : Hid (RdP.th l true k = []) := Lib.hid rfl
    rw [HT.out, HL.out, HH.out]
    clear hln
    go_enter Tryz.func106, Tryz.ntmps106
    go_wp2_with (go_at_call 86; refine (ok_any _ _ _ _ HS.out).mono ?_; rintro e w' ⟨rfl, rfl⟩)
    exact bodyPost_ret (v := .tuple #[.slice none 0 0, .bool false]) (by simp [results, Tryz.results106, go_sem]) rfl ⟨none, 0, 0, rfl, Bytes.none_ _ _, ⟨A, n, c, HS.out, HY.out⟩, grown_refl w b⟩
  case false =>
    by_cases hin : k ≤ n
    · have HT : Hid (RdP.tb l false k = false) := Lib.hid (by simp [RdP.tb, hln, hin])
      have HL : Hid (RdP.tl l false k = l.drop k) := Lib.hid (by simp [RdP.tl, hln, hin])
      have HH : Hid (RdP.th l false k = l.take k) := Lib.hid (by simp [RdP.th, HT.out])
      have HC := Lib.hid (HY.out.cut k n c hin (Nat.le_refl _) hn (Nat.le_refl _))
      have HC2 := Lib.hid (HY.out.cut 0 k k (Nat.zero_le _) hin (Nat.le_refl _) (by omega))
      rw [HT.out, HL.out, HH.out]
      have HX := Lib.hid hln
      clear hln
      go_enter Tryz.func106, Tryz.ntmps106
      go_wp2_with (go_at_call 86; refine (ok_any _ _ _ _ HS.out).mono ?_; rintro e w' ⟨rfl, rfl⟩)
      have hkeep : ∀ p : Addr, p.block < b → (w.setCell ⟨b, 0, none⟩ (.slice (cutA A k c 1) (n - k) (c - k))).cell? p = w.cell? p := fun p hp => by
        have := (grown_set (grown_refl w b) 0 (.slice (cutA A k c 1) (n - k) (c - k))).block p.block (by omega) (by intro e; injection e; omega)
        exact World.cell?_of_block (a := p) this
      have h2 := HC2.out
      simp only [Nat.sub_zero, List.drop_zero] at h2
      exact bodyPost_ret (v := .tuple #[.slice (cutA A 0 k 1) k k, .bool true]) (by simp [results, Tryz.results106, go_sem]) rfl
        ⟨_, _, _, rfl, h2.keep hkeep, ⟨_, _, _, (by have := HS.out.set 0 (.slice (cutA A k c 1) (n - k) (c - k)); simpa using this), (by
          have hx := HC.out
          rw [List.take_of_length_le (by simp; have := HX.out; omega)] at hx
          exact hx.keep hkeep)⟩, grown_set (grown_refl w b) 0 _⟩
    · have HT : Hid (RdP.tb l false k = true) := Lib.hid (by simp [RdP.tb, hln]; omega)
      have HL : Hid (RdP.tl l false k = []) := Lib.hid (by simp [RdP.tl, hln, hin])
      have HH : Hid (RdP.th l false k = []) := Lib.hid (by simp [RdP.th, HT.out])
      rw [HT.out, HL.out, HH.out]
      clear hln
      go_enter Tryz.func106, Tryz.ntmps106
      go_wp2_with (first
        | (go_at_call 86; refine (ok_any _ _ _ _ HS.out).mono ?_; rintro e w' ⟨rfl, rfl⟩)
        | (go_at_call 105; refine (spoil_any _ _ _ _ HS.out).mono ?_; rintro e w' ⟨rfl, hs', hg'⟩))
      exact bodyPost_ret (v := .tuple #[.slice none 0 0, .bool false]) (by simp [results, Tryz.results106, go_sem]) rfl ⟨none, 0, 0, rfl, Bytes.none_ _ _, ⟨_, _, _, hs', Bytes.none_ _ _⟩, hg'⟩

set_option maxHeartbeats 800000 in
theorem bytes_any (b : Nat) (l : List UInt8) (bad : Bool) (k : Nat) (w : World) (h : Rd w b l bad) (hk : k ≤ 1000000000) :
    Calls Tryz.prog 87 #[.pointer (some ⟨b, 0, none⟩), .int .i64 (k : Int)] w fun e w' => ∃ A n c, e = .returned (.slice A n c) ∧ Bytes w' w'.heap.size A n c (RdP.th l bad k) ∧ Rd w' b (RdP.tl l bad k) (RdP.tb l bad k) ∧ w.grownBy w' (some b) := by
  have HT := Lib.hid (take_any b l bad k w h hk)
  have hlt := h.lt
  have HLE : Hid ((RdP.th l bad k).length ≤ k) := Lib.hid (by unfold RdP.th; split <;> simp; omega)
  clear h
  cases ht : RdP.tb l bad k
  case true =>
    have HH : Hid (RdP.th l bad k = []) := Lib.hid (by simp [RdP.th, ht])
    have HTB := Lib.hid ht
    clear ht
    go_enter Tryz.func87, Tryz.ntmps87
    go_wp2_with fail
    refine HT.out.mono ?_
    rw [HTB.out]
    rintro e w1 ⟨A1, n1, c1, rfl, hy, hR, hg⟩
    go_wp2_with fail
    go_ret
    rw [HH.out]
    exact ⟨none, 0, 0, rfl, Bytes.none_ _ _, hR, hg⟩
  case false =>
    have HTB := Lib.hid ht
    clear ht
    go_enter Tryz.func87, Tryz.ntmps87
    go_wp2_with fail
    refine HT.out.mono ?_
    rw [HTB.out]
    rintro e w1 ⟨A1, n1, c1, rfl, hy, hR, hg⟩
    have hlt1 := hR.lt
    have hln := hy.len
    have HR := Lib.hid hR
    have HG := Lib.hid hg
    have HY := Lib.hid hy
    clear hy hR hg
    go_wp2_with fail
    refine (Be.with_any A1 n1 c1 0 b _ w1 HY.out (by omega) (by have := HLE.out; omega)).mono ?_
    rintro e w2 ⟨rfl, hrow, hb⟩
    have hy2 := Bytes.own hrow
    rw [hln] at hy2
    have HY2 := Lib.hid hy2
    have HB := Lib.hid hb
    clear hrow hb hy2
    go_wp2_with fail
    go_ret
    exact ⟨_, _, _, rfl, HY2.out, HR.out.below HB.out, grown_then HG.out HB.out⟩

set_option maxHeartbeats 400000 in
theorem left_any (b : Nat) (l : List UInt8) (bad : Bool) (w : World) (h : Rd w b l bad) :
    Calls Tryz.prog 88 #[.pointer (some ⟨b, 0, none⟩)] w fun e w' => e = .returned (.int .i64 (if bad then 0 else (l.length : Int))) ∧ w = w' := by
  obtain ⟨A, n, c, hs, hy⟩ := h
  have HS := Lib.hid hs
  obtain ⟨h0, h1⟩ := str2 hs
  have hln := hy.1
  have hc := Nat.le_trans hy.2.1 hy.2.2.1
  unfold maxLen at hc
  subst hln
  clear hs hy
  cases bad <;>
  · go_enter Tryz.func88, Tryz.ntmps88
    go_wp2_with (go_at_call 86; refine (ok_any _ _ _ _ HS.out).mono ?_; rintro e w' ⟨rfl, rfl⟩)
    go_ret
    exact ⟨rfl, rfl⟩
end Go.Proofs.YtpdfnlhhnodnjaaGreat.RdW
end
section
namespace Go.Proofs.YtpdfnlhhnodnjaaGreat.CellP

/-- the second byte, as a number -/
def len1 (l : List UInt8) : Nat := (l.getD 1 0).toNat
/-- the cell with which bytes begin, how many bytes it takes, the error's number -/
def get (l : List UInt8) : Cell × Int × Int :=
  if l.length < 1 then (none, 0, 13)
  else if NumP.val l 0 1 = 1 then
    (if l.length < 2 ∨ l.length < 2 + len1 l then (none, 0, 13) else if 32 < len1 l then (none, 0, 12) else (⟨1, (l.drop 2).take (len1 l), 0, 0, 0⟩, 2 + (len1 l : Int), 0))
  else if NumP.val l 0 1 = 2 then
    (if l.length < 25 then (none, 0, 13) else if NumP.val l 1 8 ≤ NumP.val l 17 8 ∧ NumP.val l 17 8 ≤ NumP.val l 9 8 then (⟨2, [], NumP.val l 1 8, NumP.val l 9 8, NumP.val l 17 8⟩, 25, 0) else (none, 0, 12))
  else (none, 0, 12)

theorem len1_val (l : List UInt8) (h : 2 ≤ l.length) : NumP.val l 1 1 = (len1 l : Int) := by
  match l, h with
  | a :: b :: r, _ => exact NumP.val_one [a] r b
theorem len1_lt (l : List UInt8) : len1 l < 256 := (l.getD 1 0).toNat_lt
theorem val_in (l : List UInt8) (a width : Nat) (h : width ≤ 8) : In64 (NumP.val l a width) := by
  unfold NumP.val
  split
  · exact NumP.toI_in _ (NumP.num_lt8 _ (by simp; omega))
  · unfold In64; omega
theorem get_short (l : List UInt8) (h : l.length < 1) : get l = (none, 0, 13) := by simp only [get]; rw [if_pos h]
theorem get_rec_short (l : List UInt8) (h : ¬ l.length < 1) (hk : NumP.val l 0 1 = 1) (h2 : l.length < 2 ∨ l.length < 2 + len1 l) : get l = (none, 0, 13) := by
  simp only [get]; rw [if_neg h, if_pos hk, if_pos h2]
theorem get_rec_form (l : List UInt8) (h : ¬ l.length < 1) (hk : NumP.val l 0 1 = 1) (h2 : ¬ (l.length < 2 ∨ l.length < 2 + len1 l)) (h3 : 32 < len1 l) : get l = (none, 0, 12) := by
  simp only [get]; rw [if_neg h, if_pos hk, if_neg h2, if_pos h3]
theorem get_rec (l : List UInt8) (h : ¬ l.length < 1) (hk : NumP.val l 0 1 = 1) (h2 : ¬ (l.length < 2 ∨ l.length < 2 + len1 l)) (h3 : ¬ 32 < len1 l) : get l = (⟨1, (l.drop 2).take (len1 l), 0, 0, 0⟩, 2 + (len1 l : Int), 0) := by
  simp only [get]; rw [if_neg h, if_pos hk, if_neg h2, if_neg h3]
theorem get_cnt_short (l : List UInt8) (h : ¬ l.length < 1) (hk : NumP.val l 0 1 = 2) (h2 : l.length < 25) : get l = (none, 0, 13) := by
  simp only [get]; rw [if_neg h, if_neg (by omega), if_pos hk, if_pos h2]
theorem get_cnt_form (l : List UInt8) (h : ¬ l.length < 1) (hk : NumP.val l 0 1 = 2) (h2 : ¬ l.length < 25) (h3 : ¬ (NumP.val l 1 8 ≤ NumP.val l 17 8 ∧ NumP.val l 17 8 ≤ NumP.val l 9 8)) : get l = (none, 0, 12) := by
  simp only [get]; rw [if_neg h, if_neg (by omega), if_pos hk, if_neg h2, if_neg h3]
theorem get_cnt (l : List UInt8) (h : ¬ l.length < 1) (hk : NumP.val l 0 1 = 2) (h2 : ¬ l.length < 25) (h3 : NumP.val l 1 8 ≤ NumP.val l 17 8 ∧ NumP.val l 17 8 ≤ NumP.val l 9 8) :
    get l = (⟨2, [], NumP.val l 1 8, NumP.val l 9 8, NumP.val l 17 8⟩, 25, 0) := by
  simp only [get]; rw [if_neg h, if_neg (by omega), if_pos hk, if_neg h2, if_pos h3]
theorem get_other (l : List UInt8) (h : ¬ l.length < 1) (hk : NumP.val l 0 1 ≠ 1) (hk2 : NumP.val l 0 1 ≠ 2) : get l = (none, 0, 12) := by
  simp only [get]; rw [if_neg h, if_neg hk, if_neg hk2]

theorem right_rec (d : List UInt8) (h : d.length ≤ 32) : right ⟨1, d, 0, 0, 0⟩ = true := by simp [right, h]
theorem right_rec_no (d : List UInt8) (h : ¬ d.length ≤ 32) : right ⟨1, d, 0, 0, 0⟩ = false := by simp [right, h]
theorem right_cnt (lo hi v : Int) (h : lo ≤ v ∧ v ≤ hi) : right ⟨2, [], lo, hi, v⟩ = true := by simp [right, h]
theorem right_cnt_no (lo hi v : Int) (h : ¬ (lo ≤ v ∧ v ≤ hi)) : right ⟨2, [], lo, hi, v⟩ = false := by
  simp [right]
  omega
theorem right_other (k : Int) (d : List UInt8) (lo hi v : Int) (h1 : k ≠ 1) (h2 : k ≠ 2) : right ⟨k, d, lo, hi, v⟩ = false := by simp [right, h1, h2]
/-- a cell that may be is got out of its bytes -/
theorem get_bytes (c : Cell) (post : List UInt8) (hr : right c = true) (hi : In64 c.lo ∧ In64 c.hi ∧ In64 c.val) : get (bytes c ++ post) = (c, ((bytes c).length : Int), 0) := by
  obtain ⟨k, d, lo, hi', v⟩ := c
  obtain ⟨i1, i2, i3⟩ := hi
  dsimp only at *
  have hr' := hr
  by_cases hk : k = 1
  · subst hk
    simp [right] at hr'
    obtain ⟨hd, rfl, rfl, rfl⟩ := hr'
    have hb : bytes ⟨1, d, 0, 0, 0⟩ = 1 :: UInt8.ofNat d.length :: d := by
      unfold bytes
      rw [if_pos hr, if_pos rfl]
      rfl
    rw [hb]
    have hn : (UInt8.ofNat d.length).toNat = d.length := by simp; omega
    have hl1 : len1 (1 :: UInt8.ofNat d.length :: d ++ post) = d.length := by simp [len1]; omega
    have hv : NumP.val (1 :: UInt8.ofNat d.length :: d ++ post) 0 1 = 1 := NumP.val_one [] (UInt8.ofNat d.length :: d ++ post) 1
    rw [get_rec _ (by simp) hv (by rw [hl1]; simp; omega) (by rw [hl1]; omega), hl1]
    simp
    omega
  · have hk2 : k = 2 := by simp [right, hk] at hr'; exact hr'.1
    subst hk2
    simp [right] at hr'
    obtain ⟨rfl, h1, h2⟩ := hr'
    have hb : bytes ⟨2, [], lo, hi', v⟩ = 2 :: (BeP.parts 8 lo ++ (BeP.parts 8 hi' ++ BeP.parts 8 v)) := by
      unfold bytes
      rw [if_pos hr, if_neg (by simp)]
      rfl
    rw [hb]
    have p1 := BeP.parts_length 8 lo
    have p2 := BeP.parts_length 8 hi'
    have p3 := BeP.parts_length 8 v
    have hv : NumP.val (2 :: (BeP.parts 8 lo ++ (BeP.parts 8 hi' ++ BeP.parts 8 v)) ++ post) 0 1 = 2 := NumP.val_one [] _ 2
    have e1 : NumP.val (2 :: (BeP.parts 8 lo ++ (BeP.parts 8 hi' ++ BeP.parts 8 v)) ++ post) 1 8 = lo := by
      have := NumP.val_parts8 [2] (BeP.parts 8 hi' ++ (BeP.parts 8 v ++ post)) lo i1
      simpa using this
    have e2 : NumP.val (2 :: (BeP.parts 8 lo ++ (BeP.parts 8 hi' ++ BeP.parts 8 v)) ++ post) 9 8 = hi' := by
      have := NumP.val_parts8 (2 :: BeP.parts 8 lo) (BeP.parts 8 v ++ post) hi' i2
      simpa [p1] using this
    have e3 : NumP.val (2 :: (BeP.parts 8 lo ++ (BeP.parts 8 hi' ++ BeP.parts 8 v)) ++ post) 17 8 = v := by
      have := NumP.val_parts8 (2 :: BeP.parts 8 lo ++ BeP.parts 8 hi') post v i3
      simpa [p1, p2] using this
    rw [get_cnt _ (by simp) hv (by simp [p1, p2, p3]; omega) (by rw [e1, e2, e3]; exact ⟨h1, h2⟩), e1, e2, e3]
    simp [p1, p2, p3]
end Go.Proofs.YtpdfnlhhnodnjaaGreat.CellP
end
section
namespace Go.Proofs.YtpdfnlhhnodnjaaGreat.SlotP

/-- bytes as a text -/
def text (l : List UInt8) : ByteArray := ⟨l.toArray⟩
/-- the item that bytes seem to be -/
def seem (l : List UInt8) : Item := ⟨((l.getD 0 0).toNat : Int), text ((l.drop 2).take (l.getD 1 0).toNat), (CellP.get (l.drop (2 + (l.getD 1 0).toNat))).1⟩
/-- is it one? -/
def good (l : List UInt8) : Bool := decide ((l.getD 1 0).toNat ≤ 16) && ((CellP.get (l.drop (2 + (l.getD 1 0).toNat))).2.2 == 0 && (right (seem l) && (bytes (seem l) == l)))
/-- the item of which bytes are, and the error's number -/
def get (l : List UInt8) : Item × Int := if l = zeros 64 then (none, 0) else if good l = true then (seem l, 0) else (none, 12)

theorem text_of (s : ByteArray) : text s.data.toList = s := by
  obtain ⟨⟨l⟩⟩ := s
  rfl
theorem bytearray_ext {a b : ByteArray} (h : a.toList = b.toList) : a = b := by
  have h2 : a.data.toList = b.data.toList := by
    rw [ByteArray.toList_eq, ByteArray.toList_eq] at h
    exact h
  rw [← text_of a, ← text_of b, h2]
theorem cell_same {c d : Cell} (h : CellP.same c d = true) : c = d := by
  obtain ⟨k, l, lo, hi, v⟩ := c
  obtain ⟨k', l', lo', hi', v'⟩ := d
  simp [CellP.same] at h
  obtain ⟨rfl, rfl, rfl, rfl, rfl⟩ := h
  rfl
theorem same_eq {x y : Item} (h : same x y = true) : x = y := by
  obtain ⟨s, k, c⟩ := x
  obtain ⟨s', k', c'⟩ := y
  unfold same at h
  simp only [Bool.and_eq_true, beq_iff_eq] at h
  obtain ⟨rfl, h2, h3⟩ := h
  obtain rfl := bytearray_ext h2
  obtain rfl := cell_same h3
  rfl
theorem same_self (x : Item) : same x x = true := by simp [same, CellP.same]
theorem right_none (x : Item) (h0 : x.state = 0) (hr : right x = true) : x = none := by
  unfold right at hr
  rw [if_pos h0] at hr
  exact same_eq hr
/-- numbers that may be -/
def In (x : Item) : Prop := In64 x.state ∧ In64 x.cell.kind ∧ In64 x.cell.lo ∧ In64 x.cell.hi ∧ In64 x.cell.val
theorem bytes_full (x : Item) (h0 : x.state ≠ 0) (hr : right x = true) : bytes x = UInt8.ofNat x.state.toNat :: UInt8.ofNat x.key.size :: (x.key.data.toList ++ (CellP.bytes x.cell ++ zeros (64 - (body x).length))) := by
  unfold bytes
  rw [if_pos ⟨h0, hr⟩]
  simp [body]
theorem seem_bytes (x : Item) (h0 : x.state ≠ 0) (hr : right x = true) (hi : In64 x.cell.lo ∧ In64 x.cell.hi ∧ In64 x.cell.val) :
    seem (bytes x) = x ∧ ((bytes x).getD 1 0).toNat = x.key.size ∧ (CellP.get ((bytes x).drop (2 + x.key.size))).2.2 = 0 := by
  have hk := right_key x h0 hr
  have h12 := right_state x h0 hr
  have hc := right_cell x h0 hr
  have hl : x.key.data.toList.length = x.key.size := Array.length_toList
  have hb := bytes_full x h0 hr
  have hn : (UInt8.ofNat x.key.size).toNat = x.key.size := by simp; omega
  have h1 : ((bytes x).getD 1 0).toNat = x.key.size := by rw [hb]; exact hn
  have hd : (bytes x).drop (2 + x.key.size) = CellP.bytes x.cell ++ zeros (64 - (body x).length) := by
    rw [hb, Nat.add_comm 2, List.drop_succ_cons, List.drop_succ_cons, ← hl, List.drop_left]
  have hg := CellP.get_bytes x.cell (zeros (64 - (body x).length)) hc hi
  refine ⟨?_, h1, by rw [hd, hg]⟩
  unfold seem
  rw [h1, hd, hg]
  have h2 : ((bytes x).drop 2).take x.key.size = x.key.data.toList := by
    rw [hb, List.drop_succ_cons, List.drop_succ_cons, List.drop_zero, ← hl, List.take_left]
  rw [h2, text_of]
  have h3 : (((bytes x).getD 0 0).toNat : Int) = x.state := by
    rw [hb]
    rcases h12 with e | e <;> rw [e] <;> rfl
  rw [h3]
theorem zeros_ne (x : Item) (h0 : x.state ≠ 0) (hr : right x = true) : bytes x ≠ zeros 64 := by
  intro h
  have hb := bytes_full x h0 hr
  rw [h] at hb
  have h1 := congrArg (fun l => l.getD 0 0) hb
  rcases right_state x h0 hr with e | e
  · rw [e] at h1
    have h2 : (0 : UInt8) = UInt8.ofNat (Int.toNat 1) := h1
    exact absurd h2 (by decide)
  · rw [e] at h1
    have h2 : (0 : UInt8) = UInt8.ofNat (Int.toNat 2) := h1
    exact absurd h2 (by decide)
theorem get_zeros : get (zeros 64) = (none, 0) := by unfold get; rw [if_pos rfl]
/-- an item that may be is got out of its bytes -/
theorem get_bytes (x : Item) (hr : right x = true) (hi : In x) : get (bytes x) = (x, 0) := by
  by_cases h0 : x.state = 0
  · have hx := right_none x h0 hr
    have hb : bytes x = zeros 64 := by
      unfold bytes
      rw [if_neg (by simp [h0])]
    rw [hb, get_zeros, hx]
  · obtain ⟨h1, h2, h3⟩ := seem_bytes x h0 hr hi.2.2
    have hk := right_key x h0 hr
    have hg : good (bytes x) = true := by
      unfold good
      rw [h1, h2, h3, hr]
      simp [hk]
    unfold get
    rw [if_neg (zeros_ne x h0 hr), if_pos hg, h1]
end Go.Proofs.YtpdfnlhhnodnjaaGreat.SlotP
end
section
namespace Go.Proofs.YtpdfnlhhnodnjaaGreat.UndoP
def size (a : Nat) : Nat := if a = 1 then 64 else 8
/-- the one that seems to stand there -/
def seem (a : Nat) (l : List UInt8) : Undo :=
  ⟨(a : Int), SlotP.text ((l.drop 2).take (l.getD 1 0).toNat), if a = 1 then (SlotP.get ((l.drop (2 + (l.getD 1 0).toNat)).take 64)).1 else SlotP.none, if a = 1 then 0 else NumP.val l (2 + (l.getD 1 0).toNat) 8⟩
def err (a : Nat) (l : List UInt8) : Int := if a = 1 then (SlotP.get ((l.drop (2 + (l.getD 1 0).toNat)).take 64)).2 else 0
def get (l : List UInt8) : Undo × Int × Int :=
  if l.length < 1 then (none, 0, 13)
  else if 3 < (l.getD 0 0).toNat then (none, 0, 12)
  else if (l.getD 0 0).toNat = 0 then (none, 1, 0)
  else if l.length < 2 ∨ l.length < 2 + (l.getD 1 0).toNat + size (l.getD 0 0).toNat then (none, 0, 13)
  else if err (l.getD 0 0).toNat l = 0 ∧ right (seem (l.getD 0 0).toNat l) = true then (seem (l.getD 0 0).toNat l, ((2 + (l.getD 1 0).toNat + size (l.getD 0 0).toNat : Nat) : Int), 0) else (none, 0, 12)
/-! what a reader reads behind the first byte -/
def k1 (l : List UInt8) : Nat := if 1 ≤ l.length then (l.getD 0 0).toNat else 0
def L2 (l : List UInt8) : List UInt8 := RdP.numL l false 1
def b2 (l : List UInt8) : Bool := RdP.numB l false 1
def K (l : List UInt8) : List UInt8 := RdP.th (L2 l) (b2 l) (k1 l)
def L3 (l : List UInt8) : List UInt8 := RdP.tl (L2 l) (b2 l) (k1 l)
def b3 (l : List UInt8) : Bool := RdP.tb (L2 l) (b2 l) (k1 l)
theorem numV_k1 (l : List UInt8) : RdP.numV l false 1 = (k1 l : Int) := by
  unfold RdP.numV k1
  rw [if_neg (by simp)]
  cases l with
  | nil => rfl
  | cons x l =>
    have := x.toNat_lt
    unfold NumP.val
    rw [if_pos (by simp), if_pos (by simp), List.drop_zero, List.take_succ_cons, List.take_zero, NumP.toI_small _ (by simp [NumP.num, NumP.nstep]; omega)]
    simp [NumP.num, NumP.nstep]
theorem k1_le (l : List UInt8) : k1 l ≤ 255 := by
  unfold k1
  split
  · have := (l.getD 0 0).toNat_lt; omega
  · omega
theorem b3_cons (y : UInt8) (l : List UInt8) : b3 (y :: l) = !decide (y.toNat ≤ l.length) := by
  simp [b3, b2, L2, k1, RdP.numL, RdP.numB, RdP.tb]
theorem L3_cons (y : UInt8) (l : List UInt8) (h : y.toNat ≤ l.length) : L3 (y :: l) = l.drop y.toNat := by
  simp [L3, b2, L2, k1, RdP.numL, RdP.numB, RdP.tl, h]
theorem K_cons (y : UInt8) (l : List UInt8) (h : y.toNat ≤ l.length) : K (y :: l) = l.take y.toNat := by
  simp [K, b2, L2, k1, RdP.numL, RdP.numB, RdP.th, RdP.tb, h]
/-! the kinds with a number -/
def N4 (l : List UInt8) : Int := RdP.numV (L3 l) (b3 l) 8
def L4 (l : List UInt8) : List UInt8 := RdP.numL (L3 l) (b3 l) 8
def b4 (l : List UInt8) : Bool := RdP.numB (L3 l) (b3 l) 8
def U4 (a : Nat) (l : List UInt8) : Undo := ⟨(a : Int), SlotP.text (K l), SlotP.none, N4 l⟩
theorem val_drop (l : List UInt8) (a : Nat) (h : a + 8 ≤ l.length) : NumP.val (l.drop a) 0 8 = NumP.val l a 8 := by
  unfold NumP.val
  rw [if_pos (by simp; omega), if_pos h, List.drop_zero]
theorem get_short4 (x : UInt8) (l : List UInt8) (h : x.toNat = 2 ∨ x.toNat = 3) (hb : b4 l = true) : get (x :: l) = (none, 0, 13) := by
  have hs : size x.toNat = 8 := by unfold size; rw [if_neg (by omega)]
  unfold get
  rw [if_neg (by simp), if_neg (by simp; omega), if_neg (by simp; omega), if_pos]
  cases l with
  | nil => left; simp
  | cons y l =>
    right
    rw [show ((x :: y :: l).getD 0 0) = x from rfl, hs, show ((x :: y :: l).getD 1 0) = y from rfl]
    simp only [List.length_cons]
    by_cases hy : y.toNat ≤ l.length
    · have h3 : b3 (y :: l) = false := by rw [b3_cons]; simp [hy]
      unfold b4 at hb
      rw [h3, L3_cons y l hy] at hb
      simp [RdP.numB] at hb
      omega
    · omega
theorem get_full4 (x : UInt8) (l : List UInt8) (h : x.toNat = 2 ∨ x.toNat = 3) (hb : b4 l = false) : get (x :: l) = (if right (U4 x.toNat l) = true then (U4 x.toNat l, ((l.length + 1 : Nat) : Int) - ((L4 l).length : Int), 0) else (none, 0, 12)) := by
  have hs : size x.toNat = 8 := by unfold size; rw [if_neg (by omega)]
  cases l with
  | nil => cases hb
  | cons y l =>
    by_cases hy : y.toNat ≤ l.length
    case neg =>
      have h3 : b3 (y :: l) = true := by rw [b3_cons]; simp [hy]
      unfold b4 at hb
      rw [h3] at hb
      cases hb
    have h3 : b3 (y :: l) = false := by rw [b3_cons]; simp [hy]
    have h8 : y.toNat + 8 ≤ l.length := by
      unfold b4 at hb
      rw [h3, L3_cons y l hy] at hb
      simp [RdP.numB] at hb
      omega
    have hU : U4 x.toNat (y :: l) = seem x.toNat (x :: y :: l) := by
      unfold U4 seem N4
      rw [if_neg (by omega), if_neg (by omega), K_cons y l hy, h3, L3_cons y l hy, show ((x :: y :: l).getD 1 0) = y from rfl]
      have e1 : (x :: y :: l).drop 2 = l := rfl
      have e2 : NumP.val (x :: y :: l) (2 + y.toNat) 8 = NumP.val l y.toNat 8 := by
        unfold NumP.val
        rw [if_pos (by simp; omega), if_pos h8, show 2 + y.toNat = y.toNat + 1 + 1 by omega]
        rfl
      rw [e1, e2]
      unfold RdP.numV
      rw [if_neg (by simp), val_drop l y.toNat h8]
    have hL : (L4 (y :: l)).length = l.length - y.toNat - 8 := by
      unfold L4
      rw [h3, L3_cons y l hy]
      unfold RdP.numL
      rw [if_neg (by simp), if_pos (by simp; omega)]
      simp
      omega
    have he : err x.toNat (x :: y :: l) = 0 := by unfold err; rw [if_neg (by omega)]
    rw [hU, hL]
    unfold get
    rw [if_neg (by simp), if_neg (by simp; omega), if_neg (by simp; omega), show ((x :: y :: l).getD 0 0) = x from rfl, show ((x :: y :: l).getD 1 0) = y from rfl, hs, if_neg (by simp; omega), he]
    simp only [true_and]
    split
    · simp only [List.length_cons]
      congr 2
      omega
    · rfl
/-! the kind with an item -/
def S5 (l : List UInt8) : List UInt8 := RdP.th (L3 l) (b3 l) 64
def L5 (l : List UInt8) : List UInt8 := RdP.tl (L3 l) (b3 l) 64
def b5 (l : List UInt8) : Bool := RdP.tb (L3 l) (b3 l) 64
def raw (l : List UInt8) : List UInt8 := SlotP.over (SlotP.zeros 64) 0 (S5 l)
def U5 (l : List UInt8) : Undo := ⟨1, SlotP.text (K l), (SlotP.get (raw l)).1, 0⟩
theorem S5_le (l : List UInt8) : (S5 l).length ≤ 64 := by
  unfold S5 RdP.th
  split
  · simp
  · simp; omega
theorem raw_length (l : List UInt8) : (raw l).length = 64 := by
  have h := S5_le l
  unfold raw SlotP.over
  simp [SlotP.zeros]
  omega
theorem get_short5 (x : UInt8) (l : List UInt8) (h : x.toNat = 1) (hb : b5 l = true) : get (x :: l) = (none, 0, 13) := by
  have hs : size x.toNat = 64 := by unfold size; rw [if_pos h]
  unfold get
  rw [if_neg (by simp), if_neg (by simp; omega), if_neg (by simp; omega), if_pos]
  cases l with
  | nil => left; simp
  | cons y l =>
    right
    rw [show ((x :: y :: l).getD 0 0) = x from rfl, hs, show ((x :: y :: l).getD 1 0) = y from rfl]
    simp only [List.length_cons]
    by_cases hy : y.toNat ≤ l.length
    · have h3 : b3 (y :: l) = false := by rw [b3_cons]; simp [hy]
      unfold b5 at hb
      rw [h3, L3_cons y l hy] at hb
      simp [RdP.tb] at hb
      omega
    · omega
theorem get_full5 (x : UInt8) (l : List UInt8) (h : x.toNat = 1) (hb : b5 l = false) : get (x :: l) = (if (SlotP.get (raw l)).2 = 0 ∧ right (U5 l) = true then (U5 l, ((l.length + 1 : Nat) : Int) - ((L5 l).length : Int), 0) else (none, 0, 12)) := by
  have hs : size x.toNat = 64 := by unfold size; rw [if_pos h]
  cases l with
  | nil => cases hb
  | cons y l =>
    by_cases hy : y.toNat ≤ l.length
    case neg =>
      have h3 : b3 (y :: l) = true := by rw [b3_cons]; simp [hy]
      unfold b5 at hb
      rw [h3] at hb
      cases hb
    have h3 : b3 (y :: l) = false := by rw [b3_cons]; simp [hy]
    have h8 : y.toNat + 64 ≤ l.length := by
      unfold b5 at hb
      rw [h3, L3_cons y l hy] at hb
      simp [RdP.tb] at hb
      omega
    have hS : raw (y :: l) = (l.drop y.toNat).take 64 := by
      have e5 : S5 (y :: l) = (l.drop y.toNat).take 64 := by
        unfold S5
        rw [h3, L3_cons y l hy]
        unfold RdP.th RdP.tb
        rw [if_neg (by simp; omega)]
      have e6 : ((l.drop y.toNat).take 64).length = 64 := by simp; omega
      unfold raw SlotP.over
      rw [e5, e6]
      simp [SlotP.zeros]
    have ed : ((x :: y :: l).drop (2 + y.toNat)).take 64 = (l.drop y.toNat).take 64 := by
      rw [show 2 + y.toNat = y.toNat + 1 + 1 by omega]
      rfl
    have hU : U5 (y :: l) = seem x.toNat (x :: y :: l) := by
      unfold U5 seem
      rw [if_pos h, if_pos h, K_cons y l hy, hS, show ((x :: y :: l).getD 1 0) = y from rfl, ed, h]
      rfl
    have hL : (L5 (y :: l)).length = l.length - y.toNat - 64 := by
      unfold L5
      rw [h3, L3_cons y l hy]
      unfold RdP.tl
      rw [if_neg (by simp), if_pos (by simp; omega)]
      simp
      omega
    have he : err x.toNat (x :: y :: l) = (SlotP.get (raw (y :: l))).2 := by
      unfold err
      rw [if_pos h, show ((x :: y :: l).getD 1 0) = y from rfl, ed, hS]
    rw [hU, hL, ← he]
    unfold get
    rw [if_neg (by simp), if_neg (by simp; omega), if_neg (by simp; omega), show ((x :: y :: l).getD 0 0) = x from rfl, show ((x :: y :: l).getD 1 0) = y from rfl, hs, if_neg (by simp; omega)]
    split
    · simp only [List.length_cons]
      congr 2
      omega
    · rfl
theorem get_zero (x : UInt8) (l : List UInt8) (h : x.toNat = 0) : get (x :: l) = (none, 1, 0) := by
  unfold get
  rw [if_neg (by simp), if_neg (by simp; omega), if_pos (by simpa using h)]
theorem get_form (x : UInt8) (l : List UInt8) (h : 3 < x.toNat) : get (x :: l) = (none, 0, 12) := by
  unfold get
  rw [if_neg (by simp), if_pos (by simpa using h)]
theorem numL_le (l : List UInt8) (b : Bool) (k : Nat) : (RdP.numL l b k).length ≤ l.length := by
  unfold RdP.numL
  split
  · omega
  · split <;> simp
theorem tl_le (l : List UInt8) (b : Bool) (k : Nat) : (RdP.tl l b k).length ≤ l.length := by
  unfold RdP.tl
  split
  · omega
  · split <;> simp
theorem L3_le (l : List UInt8) : (L3 l).length ≤ l.length := Nat.le_trans (tl_le _ _ _) (numL_le _ _ _)
theorem L4_le (l : List UInt8) : (L4 l).length ≤ l.length := Nat.le_trans (numL_le _ _ _) (L3_le l)
theorem L5_le (l : List UInt8) : (L5 l).length ≤ l.length := Nat.le_trans (tl_le _ _ _) (L3_le l)
theorem get_nil : get [] = (none, 0, 13) := rfl
end Go.Proofs.YtpdfnlhhnodnjaaGreat.UndoP
end
