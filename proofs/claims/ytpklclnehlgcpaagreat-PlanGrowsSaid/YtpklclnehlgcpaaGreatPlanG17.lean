/-
  Parts of the proof of PlanGrows.
-/
import Derived.Shelf.Small.Strs
import Derived.Test.YtpklclnehlgcpaaGreatProg
import Derived.Test.YtpklclnehlgcpaaGreatPlanG16
import Derived.Test.YtpklclnehlgcpaaGreatPlanG7
import Derived.Deep.LoopGhost
import Derived.Test.YtpklclnehlgcpaaGreatPlanG4
import Derived.RegionTactic
section
namespace Go.Proofs.YtpklclnehlgcpaaGreat
open Go.Shelf Go.RowKit
def lays106_ren : Ren where
  f x := match x with
    | 106 => 89
    | 213 => 102
    | 265 => 112
    | n => n
  t x := match x with
    | 9 => 9
    | 3 => 3
    | n => n
  g x := x
theorem lays106 : Lays.n106 Tryz.prog lays106_ren where
  mixed := rfl
  f106 := Tryz.func89.trans (by kernel_rfl)
  f213 := Tryz.func102.trans (by kernel_rfl)
  f265 := Tryz.func112.trans (by kernel_rfl)
  t3 := Tryz.underlying3
  a3 := Tryz.isAgg3
  z3 := Tryz.sizeOf3
  v3 := Tryz.zeroValue3
  t9 := Tryz.underlying9
  a9 := Tryz.isAgg9
  z9 := Tryz.sizeOf9
  v9 := Tryz.zeroValue9
end Go.Proofs.YtpklclnehlgcpaaGreat
end
section
namespace Go.Proofs.YtpklclnehlgcpaaGreat
open Go.RowKit Go.Shelf
set_option linter.unusedVariables false
/-- a pair's cells -/
def pairV (p : Pair) (A : Option Addr) (n c : Nat) : List Value := [.string p.key, .int .i64 p.cell.kind, .slice A n c, .int .i64 p.cell.lo, .int .i64 p.cell.hi, .int .i64 p.cell.val]
/-- how a pair lies in memory -/
def PairE : El Pair where
  size := 6
  pos := by decide
  rel w B vs p := ∃ A n c, vs = pairV p A n c ∧ Bytes w B A n c p.cell.data ∧ p.key.size ≤ maxLen ∧ In64 p.cell.kind ∧ In64 p.cell.lo ∧ In64 p.cell.hi ∧ In64 p.cell.val
  len := by rintro w B vs p ⟨A, n, c, rfl, _⟩; rfl
  one := by
    rintro w B vs p ⟨A, n, c, rfl, _⟩ v hv
    simp only [pairV, List.mem_cons, List.not_mem_nil, or_false] at hv
    rcases hv with rfl | rfl | rfl | rfl | rfl | rfl <;> rfl
  sub := by rintro w w' B vs p hs ⟨A, n, c, e, h, r⟩; exact ⟨A, n, c, e, h.sub hs, r⟩
  more := by rintro w B B' vs p hB ⟨A, n, c, e, h, r⟩; exact ⟨A, n, c, e, h.more hB, r⟩
abbrev Pairs (w : World) (B : Nat) (A : Option Addr) (n c : Nat) (l : List Pair) : Prop := Elems PairE w B A n c l
/-- a pair of a slice: its cells -/
theorem pair_at {wr w : World} {B n c k : Nat} {A : Option Addr} {l : List Pair} (h : ElemsIn PairE wr w B A n c l) (hk : k < n) : ∃ b o p Ap np cp, A = some ⟨b, o, none⟩ ∧ b < B ∧ l[k]? = some p ∧ Bytes wr B Ap np cp p.cell.data ∧ p.key.size ≤ maxLen ∧ In64 p.cell.kind ∧ In64 p.cell.lo ∧ In64 p.cell.hi ∧ In64 p.cell.val ∧
    w.cell? ⟨b, o + k * 6, none⟩ = some (.string p.key) ∧ w.cell? ⟨b, o + k * 6 + 1, none⟩ = some (.int .i64 p.cell.kind) ∧ w.cell? ⟨b, o + k * 6 + 2, none⟩ = some (.slice Ap np cp) ∧ w.cell? ⟨b, o + k * 6 + 3, none⟩ = some (.int .i64 p.cell.lo) ∧ w.cell? ⟨b, o + k * 6 + 4, none⟩ = some (.int .i64 p.cell.hi) ∧ w.cell? ⟨b, o + k * 6 + 5, none⟩ = some (.int .i64 p.cell.val) := by
  have hl : k < l.length := by rw [h.len]; exact hk
  obtain ⟨b, o, vs, e, hb, ⟨Ap, np, cp, rfl, hy, h1, h2, h3, h4, h5⟩, hc⟩ := h.at_ hk
  exact ⟨b, o, _, Ap, np, cp, e, hb, List.getElem?_eq_getElem hl, hy, h1, h2, h3, h4, h5, hc 0 _ rfl, hc 1 _ rfl, hc 2 _ rfl, hc 3 _ rfl, hc 4 _ rfl, hc 5 _ rfl⟩
end Go.Proofs.YtpklclnehlgcpaaGreat
namespace Go.Proofs.YtpklclnehlgcpaaGreat.ModelW
open Go.RowKit Go.Shelf
set_option linter.unusedVariables false
theorem cmp_lt : ∀ a b : List UInt8, Lib.compareBytes a b < 0 ↔ a < b
  | [], [] => by simp [Lib.compareBytes]
  | [], b :: ys => by simp [Lib.compareBytes]
  | a :: xs, [] => by simp [Lib.compareBytes]
  | a :: xs, b :: ys => by
    unfold Lib.compareBytes
    rw [List.cons_lt_cons_iff]
    by_cases h1 : a < b
    · simp [h1]
    · by_cases h2 : b < a
      · have hne : ¬ a = b := by rintro rfl; exact h1 h2
        simp [h1, h2, hne]
      · have e : a = b := UInt8.le_antisymm (UInt8.not_lt.1 h2) (UInt8.not_lt.1 h1)
        subst e
        simp [h1, cmp_lt xs ys]
theorem cmp_eq : ∀ a b : List UInt8, Lib.compareBytes a b = 0 ↔ a = b
  | [], [] => by simp [Lib.compareBytes]
  | [], b :: ys => by simp [Lib.compareBytes]
  | a :: xs, [] => by simp [Lib.compareBytes]
  | a :: xs, b :: ys => by
    unfold Lib.compareBytes
    by_cases h1 : a < b
    · have hne : ¬ a = b := by rintro rfl; exact absurd h1 (UInt8.lt_irrefl _)
      simp [h1, hne]
    · by_cases h2 : b < a
      · have hne : ¬ a = b := by rintro rfl; exact h1 h2
        simp [h1, h2, hne]
      · have e : a = b := UInt8.le_antisymm (UInt8.not_lt.1 h2) (UInt8.not_lt.1 h1)
        subst e
        simp [h1, cmp_eq xs ys]
theorem compare_any (a b : ByteArray) (w : World) : Calls Tryz.prog 89 #[.string a, .string b] w fun e w' => e = .returned (.int .i64 (Lib.compareBytes a.data.toList b.data.toList)) ∧ w = w' :=
  (Any.strings_Compare lays106 a b w).mono fun e w' ⟨h1, h2⟩ => ⟨h1, h2.symm⟩
set_option maxRecDepth 100000 in
set_option maxHeartbeats 400000 in
theorem place1_any (pk k : ByteArray) (pkd : Int) (Ap : Option Addr) (np cp : Nat) (plo phi pva : Int) (w : World) : Calls Tryz.prog 88 #[.agg #[.string pk, .int .i64 pkd, .slice Ap np cp, .int .i64 plo, .int .i64 phi, .int .i64 pva], .string k] w fun e w' => e = .returned (.int .i64 (Lib.compareBytes pk.data.toList k.data.toList)) ∧ Below w.heap.size w w' := by
  go_enter Tryz.func88, Tryz.ntmps88
  go_wp2_with fail
  refine (compare_any _ _ _).mono ?_
  rintro e w1 ⟨rfl, rfl⟩
  go_wp2
  go_ret
  exact ⟨rfl, balloc (bsame w) _⟩

set_option maxRecDepth 100000 in
set_option maxHeartbeats 400000 in
theorem check_read (xk : ByteArray) (Ax : Option Addr) (nx cx : Nat) (xlo xhi xn : Int) (w : World) (hxk : xk.size ≤ maxLen) :
    Calls Tryz.prog 73 #[.agg #[.int .i64 0, .string xk, .slice Ax nx cx, .int .i64 xlo, .int .i64 xhi, .int .i64 xn]] w fun e w' => e = .returned (.int .i64 (ModelP.code (KeyP.right xk.data.toList))) ∧ Below w.heap.size w w' := by
  go_enter Tryz.func73, Tryz.ntmps73
  cases hr : KeyP.right xk.data.toList
  · have HC : Hid (KeyP.code (KeyP.right xk.data.toList) = 1) := Lib.hid (by rw [hr]; rfl)
    clear hr
    go_wp2_with fail
    refine (Key.check_any xk _ hxk).mono ?_
    rintro e w1 ⟨rfl, hb1⟩
    rw [HC.out]
    have HB := Lib.hid (bstep (balloc (bsame w) _) hb1)
    clear hb1
    go_wp2
    go_ret
    exact ⟨rfl, HB.out⟩
  · have HC : Hid (KeyP.code (KeyP.right xk.data.toList) = 0) := Lib.hid (by rw [hr]; rfl)
    clear hr
    go_wp2_with fail
    refine (Key.check_any xk _ hxk).mono ?_
    rintro e w1 ⟨rfl, hb1⟩
    rw [HC.out]
    have HB := Lib.hid (bstep (balloc (bsame w) _) hb1)
    clear hb1
    go_wp2
    go_ret
    exact ⟨rfl, HB.out⟩
set_option maxRecDepth 100000 in
set_option maxHeartbeats 400000 in
theorem check_drop (xk : ByteArray) (Ax : Option Addr) (nx cx : Nat) (xlo xhi xn : Int) (w : World) (hxk : xk.size ≤ maxLen) :
    Calls Tryz.prog 73 #[.agg #[.int .i64 3, .string xk, .slice Ax nx cx, .int .i64 xlo, .int .i64 xhi, .int .i64 xn]] w fun e w' => e = .returned (.int .i64 (ModelP.code (KeyP.right xk.data.toList))) ∧ Below w.heap.size w w' := by
  go_enter Tryz.func73, Tryz.ntmps73
  cases hr : KeyP.right xk.data.toList
  · have HC : Hid (KeyP.code (KeyP.right xk.data.toList) = 1) := Lib.hid (by rw [hr]; rfl)
    clear hr
    go_wp2_with fail
    refine (Key.check_any xk _ hxk).mono ?_
    rintro e w1 ⟨rfl, hb1⟩
    rw [HC.out]
    have HB := Lib.hid (bstep (balloc (bsame w) _) hb1)
    clear hb1
    go_wp2
    go_ret
    exact ⟨rfl, HB.out⟩
  · have HC : Hid (KeyP.code (KeyP.right xk.data.toList) = 0) := Lib.hid (by rw [hr]; rfl)
    clear hr
    go_wp2_with fail
    refine (Key.check_any xk _ hxk).mono ?_
    rintro e w1 ⟨rfl, hb1⟩
    rw [HC.out]
    have HB := Lib.hid (bstep (balloc (bsame w) _) hb1)
    clear hb1
    go_wp2
    go_ret
    exact ⟨rfl, HB.out⟩
set_option maxRecDepth 100000 in
set_option maxHeartbeats 400000 in
theorem check_write (xk : ByteArray) (Ax : Option Addr) (nx cx : Nat) (xlo xhi xn : Int) (w : World) (hxk : xk.size ≤ maxLen) (hc : nx ≤ 32) :
    Calls Tryz.prog 73 #[.agg #[.int .i64 1, .string xk, .slice Ax nx cx, .int .i64 xlo, .int .i64 xhi, .int .i64 xn]] w fun e w' => e = .returned (.int .i64 (ModelP.code (KeyP.right xk.data.toList))) ∧ Below w.heap.size w w' := by
  go_enter Tryz.func73, Tryz.ntmps73
  cases hr : KeyP.right xk.data.toList
  · have HC : Hid (KeyP.code (KeyP.right xk.data.toList) = 1) := Lib.hid (by rw [hr]; rfl)
    clear hr
    go_wp2_with fail
    refine (Key.check_any xk _ hxk).mono ?_
    rintro e w1 ⟨rfl, hb1⟩
    rw [HC.out]
    have HB := Lib.hid (bstep (balloc (bsame w) _) hb1)
    clear hb1
    go_wp2
    go_ret
    exact ⟨rfl, HB.out⟩
  · have HC : Hid (KeyP.code (KeyP.right xk.data.toList) = 0) := Lib.hid (by rw [hr]; rfl)
    clear hr
    go_wp2_with fail
    refine (Key.check_any xk _ hxk).mono ?_
    rintro e w1 ⟨rfl, hb1⟩
    rw [HC.out]
    have HB := Lib.hid (bstep (balloc (bsame w) _) hb1)
    clear hb1
    go_wp2
    go_ret
    exact ⟨rfl, HB.out⟩
set_option maxRecDepth 100000 in
set_option maxHeartbeats 400000 in
theorem check_writeN (xk : ByteArray) (Ax : Option Addr) (nx cx : Nat) (xlo xhi xn : Int) (w : World) (hxk : xk.size ≤ maxLen) (hc : 32 < nx) :
    Calls Tryz.prog 73 #[.agg #[.int .i64 1, .string xk, .slice Ax nx cx, .int .i64 xlo, .int .i64 xhi, .int .i64 xn]] w fun e w' => e = .returned (.int .i64 (ModelP.code (false))) ∧ Below w.heap.size w w' := by
  go_enter Tryz.func73, Tryz.ntmps73
  go_wp2
  go_ret
  exact ⟨rfl, balloc (bsame w) _⟩
set_option maxRecDepth 100000 in
set_option maxHeartbeats 400000 in
theorem check_create (xk : ByteArray) (Ax : Option Addr) (nx cx : Nat) (xlo xhi xn : Int) (w : World) (hxk : xk.size ≤ maxLen) (h1 : xlo ≤ xn) (h2 : xn ≤ xhi) :
    Calls Tryz.prog 73 #[.agg #[.int .i64 2, .string xk, .slice Ax nx cx, .int .i64 xlo, .int .i64 xhi, .int .i64 xn]] w fun e w' => e = .returned (.int .i64 (ModelP.code (KeyP.right xk.data.toList))) ∧ Below w.heap.size w w' := by
  go_enter Tryz.func73, Tryz.ntmps73
  cases hr : KeyP.right xk.data.toList
  · have HC : Hid (KeyP.code (KeyP.right xk.data.toList) = 1) := Lib.hid (by rw [hr]; rfl)
    clear hr
    go_wp2_with fail
    refine (Key.check_any xk _ hxk).mono ?_
    rintro e w1 ⟨rfl, hb1⟩
    rw [HC.out]
    have HB := Lib.hid (bstep (balloc (bsame w) _) hb1)
    clear hb1
    go_wp2
    go_ret
    exact ⟨rfl, HB.out⟩
  · have HC : Hid (KeyP.code (KeyP.right xk.data.toList) = 0) := Lib.hid (by rw [hr]; rfl)
    clear hr
    go_wp2_with fail
    refine (Key.check_any xk _ hxk).mono ?_
    rintro e w1 ⟨rfl, hb1⟩
    rw [HC.out]
    have HB := Lib.hid (bstep (balloc (bsame w) _) hb1)
    clear hb1
    go_wp2
    go_ret
    exact ⟨rfl, HB.out⟩
set_option maxRecDepth 100000 in
set_option maxHeartbeats 400000 in
theorem check_createN1 (xk : ByteArray) (Ax : Option Addr) (nx cx : Nat) (xlo xhi xn : Int) (w : World) (hxk : xk.size ≤ maxLen) (h1 : xn < xlo) :
    Calls Tryz.prog 73 #[.agg #[.int .i64 2, .string xk, .slice Ax nx cx, .int .i64 xlo, .int .i64 xhi, .int .i64 xn]] w fun e w' => e = .returned (.int .i64 (ModelP.code (false))) ∧ Below w.heap.size w w' := by
  go_enter Tryz.func73, Tryz.ntmps73
  go_wp2
  go_ret
  exact ⟨rfl, balloc (bsame w) _⟩
set_option maxRecDepth 100000 in
set_option maxHeartbeats 400000 in
theorem check_createN2 (xk : ByteArray) (Ax : Option Addr) (nx cx : Nat) (xlo xhi xn : Int) (w : World) (hxk : xk.size ≤ maxLen) (h1 : xlo ≤ xn) (h2 : xhi < xn) :
    Calls Tryz.prog 73 #[.agg #[.int .i64 2, .string xk, .slice Ax nx cx, .int .i64 xlo, .int .i64 xhi, .int .i64 xn]] w fun e w' => e = .returned (.int .i64 (ModelP.code (false))) ∧ Below w.heap.size w w' := by
  go_enter Tryz.func73, Tryz.ntmps73
  go_wp2
  go_ret
  exact ⟨rfl, balloc (bsame w) _⟩
set_option maxRecDepth 100000 in
set_option maxHeartbeats 400000 in
theorem check_inc (xk : ByteArray) (Ax : Option Addr) (nx cx : Nat) (xlo xhi xn : Int) (w : World) (hxk : xk.size ≤ maxLen) (h1 : 0 ≤ xn) :
    Calls Tryz.prog 73 #[.agg #[.int .i64 4, .string xk, .slice Ax nx cx, .int .i64 xlo, .int .i64 xhi, .int .i64 xn]] w fun e w' => e = .returned (.int .i64 (ModelP.code (KeyP.right xk.data.toList))) ∧ Below w.heap.size w w' := by
  go_enter Tryz.func73, Tryz.ntmps73
  cases hr : KeyP.right xk.data.toList
  · have HC : Hid (KeyP.code (KeyP.right xk.data.toList) = 1) := Lib.hid (by rw [hr]; rfl)
    clear hr
    go_wp2_with fail
    refine (Key.check_any xk _ hxk).mono ?_
    rintro e w1 ⟨rfl, hb1⟩
    rw [HC.out]
    have HB := Lib.hid (bstep (balloc (bsame w) _) hb1)
    clear hb1
    go_wp2
    go_ret
    exact ⟨rfl, HB.out⟩
  · have HC : Hid (KeyP.code (KeyP.right xk.data.toList) = 0) := Lib.hid (by rw [hr]; rfl)
    clear hr
    go_wp2_with fail
    refine (Key.check_any xk _ hxk).mono ?_
    rintro e w1 ⟨rfl, hb1⟩
    rw [HC.out]
    have HB := Lib.hid (bstep (balloc (bsame w) _) hb1)
    clear hb1
    go_wp2
    go_ret
    exact ⟨rfl, HB.out⟩
set_option maxRecDepth 100000 in
set_option maxHeartbeats 400000 in
theorem check_incN (xk : ByteArray) (Ax : Option Addr) (nx cx : Nat) (xlo xhi xn : Int) (w : World) (hxk : xk.size ≤ maxLen) (h1 : xn < 0) :
    Calls Tryz.prog 73 #[.agg #[.int .i64 4, .string xk, .slice Ax nx cx, .int .i64 xlo, .int .i64 xhi, .int .i64 xn]] w fun e w' => e = .returned (.int .i64 (ModelP.code (false))) ∧ Below w.heap.size w w' := by
  go_enter Tryz.func73, Tryz.ntmps73
  go_wp2
  go_ret
  exact ⟨rfl, balloc (bsame w) _⟩
set_option maxRecDepth 100000 in
set_option maxHeartbeats 400000 in
theorem check_dec (xk : ByteArray) (Ax : Option Addr) (nx cx : Nat) (xlo xhi xn : Int) (w : World) (hxk : xk.size ≤ maxLen) (h1 : 0 ≤ xn) :
    Calls Tryz.prog 73 #[.agg #[.int .i64 5, .string xk, .slice Ax nx cx, .int .i64 xlo, .int .i64 xhi, .int .i64 xn]] w fun e w' => e = .returned (.int .i64 (ModelP.code (KeyP.right xk.data.toList))) ∧ Below w.heap.size w w' := by
  go_enter Tryz.func73, Tryz.ntmps73
  cases hr : KeyP.right xk.data.toList
  · have HC : Hid (KeyP.code (KeyP.right xk.data.toList) = 1) := Lib.hid (by rw [hr]; rfl)
    clear hr
    go_wp2_with fail
    refine (Key.check_any xk _ hxk).mono ?_
    rintro e w1 ⟨rfl, hb1⟩
    rw [HC.out]
    have HB := Lib.hid (bstep (balloc (bsame w) _) hb1)
    clear hb1
    go_wp2
    go_ret
    exact ⟨rfl, HB.out⟩
  · have HC : Hid (KeyP.code (KeyP.right xk.data.toList) = 0) := Lib.hid (by rw [hr]; rfl)
    clear hr
    go_wp2_with fail
    refine (Key.check_any xk _ hxk).mono ?_
    rintro e w1 ⟨rfl, hb1⟩
    rw [HC.out]
    have HB := Lib.hid (bstep (balloc (bsame w) _) hb1)
    clear hb1
    go_wp2
    go_ret
    exact ⟨rfl, HB.out⟩
set_option maxRecDepth 100000 in
set_option maxHeartbeats 400000 in
theorem check_decN (xk : ByteArray) (Ax : Option Addr) (nx cx : Nat) (xlo xhi xn : Int) (w : World) (hxk : xk.size ≤ maxLen) (h1 : xn < 0) :
    Calls Tryz.prog 73 #[.agg #[.int .i64 5, .string xk, .slice Ax nx cx, .int .i64 xlo, .int .i64 xhi, .int .i64 xn]] w fun e w' => e = .returned (.int .i64 (ModelP.code (false))) ∧ Below w.heap.size w w' := by
  go_enter Tryz.func73, Tryz.ntmps73
  go_wp2
  go_ret
  exact ⟨rfl, balloc (bsame w) _⟩
set_option maxRecDepth 100000 in
set_option maxHeartbeats 400000 in
theorem check_other (act : Int) (xk : ByteArray) (Ax : Option Addr) (nx cx : Nat) (xlo xhi xn : Int) (w : World) (hxk : xk.size ≤ maxLen) (h0 : act < 0 ∨ 5 < act) :
    Calls Tryz.prog 73 #[.agg #[.int .i64 act, .string xk, .slice Ax nx cx, .int .i64 xlo, .int .i64 xhi, .int .i64 xn]] w fun e w' => e = .returned (.int .i64 (ModelP.code (false))) ∧ Below w.heap.size w w' := by
  have n0 : (act == 0) = false := by simp; omega
  have n1 : (act == 1) = false := by simp; omega
  have n2 : (act == 2) = false := by simp; omega
  have n3 : (act == 3) = false := by simp; omega
  have n4 : (act == 4) = false := by simp; omega
  have n5 : (act == 5) = false := by simp; omega
  go_enter Tryz.func73, Tryz.ntmps73
  go_wp2
  go_ret
  exact ⟨rfl, balloc (bsame w) _⟩
/-- model.Check -/
theorem check_any (x : OpX) (Ax : Option Addr) (nx cx : Nat) (w : World) (hl : x.data.length = nx) (hxk : x.key.size ≤ maxLen) :
    Calls Tryz.prog 73 #[.agg #[.int .i64 x.act, .string x.key, .slice Ax nx cx, .int .i64 x.lo, .int .i64 x.hi, .int .i64 x.n]] w fun e w' => e = .returned (.int .i64 (ModelP.code (ModelP.good x))) ∧ Below w.heap.size w w' := by
  obtain ⟨act, xk, xdata, xlo, xhi, xn⟩ := x
  dsimp only at *
  by_cases h0 : act < 0 ∨ 5 < act
  · have e : ModelP.good ⟨act, xk, xdata, xlo, xhi, xn⟩ = false := by
      unfold ModelP.good
      have : ¬ (0 ≤ act ∧ act ≤ 5) := by omega
      simp [this]
    rw [e]
    exact check_other act xk Ax nx cx xlo xhi xn w hxk h0
  have hcase : act = 0 ∨ act = 1 ∨ act = 2 ∨ act = 3 ∨ act = 4 ∨ act = 5 := by omega
  rcases hcase with rfl | rfl | rfl | rfl | rfl | rfl
  · rw [show ModelP.good ⟨0, xk, xdata, xlo, xhi, xn⟩ = KeyP.right xk.data.toList from by simp [ModelP.good]]
    exact check_read xk Ax nx cx xlo xhi xn w hxk
  · by_cases h : nx ≤ 32
    · rw [show ModelP.good ⟨1, xk, xdata, xlo, xhi, xn⟩ = KeyP.right xk.data.toList from by simp [ModelP.good, hl, h]]
      exact check_write xk Ax nx cx xlo xhi xn w hxk h
    · rw [show ModelP.good ⟨1, xk, xdata, xlo, xhi, xn⟩ = false from by simp [ModelP.good, hl, h]]
      exact check_writeN xk Ax nx cx xlo xhi xn w hxk (by omega)
  · by_cases h : xlo ≤ xn
    · by_cases h2 : xn ≤ xhi
      · rw [show ModelP.good ⟨2, xk, xdata, xlo, xhi, xn⟩ = KeyP.right xk.data.toList from by simp [ModelP.good, h, h2]]
        exact check_create xk Ax nx cx xlo xhi xn w hxk h h2
      · rw [show ModelP.good ⟨2, xk, xdata, xlo, xhi, xn⟩ = false from by simp [ModelP.good, h2]]
        exact check_createN2 xk Ax nx cx xlo xhi xn w hxk h (by omega)
    · rw [show ModelP.good ⟨2, xk, xdata, xlo, xhi, xn⟩ = false from by simp [ModelP.good, h]]
      exact check_createN1 xk Ax nx cx xlo xhi xn w hxk (by omega)
  · rw [show ModelP.good ⟨3, xk, xdata, xlo, xhi, xn⟩ = KeyP.right xk.data.toList from by simp [ModelP.good]]
    exact check_drop xk Ax nx cx xlo xhi xn w hxk
  · by_cases h : 0 ≤ xn
    · rw [show ModelP.good ⟨4, xk, xdata, xlo, xhi, xn⟩ = KeyP.right xk.data.toList from by simp [ModelP.good, h]]
      exact check_inc xk Ax nx cx xlo xhi xn w hxk h
    · rw [show ModelP.good ⟨4, xk, xdata, xlo, xhi, xn⟩ = false from by simp [ModelP.good, h]]
      exact check_incN xk Ax nx cx xlo xhi xn w hxk (by omega)
  · by_cases h : 0 ≤ xn
    · rw [show ModelP.good ⟨5, xk, xdata, xlo, xhi, xn⟩ = KeyP.right xk.data.toList from by simp [ModelP.good, h]]
      exact check_dec xk Ax nx cx xlo xhi xn w hxk h
    · rw [show ModelP.good ⟨5, xk, xdata, xlo, xhi, xn⟩ = false from by simp [ModelP.good, h]]
      exact check_decN xk Ax nx cx xlo xhi xn w hxk (by omega)
/-- is the key there? -/
def hasB (l : List Pair) (k : ByteArray) : Bool := match l[ModelP.at_ l k]? with | some p => p.key.toList == k.toList | none => false
theorem hasB_iff (l : List Pair) (k : ByteArray) : hasB l k = true ↔ (l[ModelP.at_ l k]?).map (·.key) = some k := by
  unfold hasB
  cases h : l[ModelP.at_ l k]? with
  | none => simp
  | some p =>
    simp only [beq_iff_eq, Option.map_some, Option.some.injEq]
    exact ⟨key_inj, fun e => by rw [e]⟩
theorem rises_mono {l : List Pair} (h : ModelP.Rises l) (k : ByteArray) {i j : Nat} {p q : Pair} (hij : i ≤ j) (hp : l[i]? = some p) (hq : l[j]? = some q) (hl : ModelP.lt q.key k) : ModelP.lt p.key k := by
  rcases Nat.lt_or_ge i j with h1 | h1
  · have hi := (List.getElem?_eq_some_iff.1 hp)
    have hj := (List.getElem?_eq_some_iff.1 hq)
    obtain ⟨hi1, rfl⟩ := hi
    obtain ⟨hj1, rfl⟩ := hj
    exact ModelP.lt_trans (List.pairwise_iff_getElem.1 h i j hi1 hj1 h1) hl
  · have : i = j := by omega
    subst this
    rw [hp] at hq
    cases hq
    exact hl
set_option maxRecDepth 100000 in
set_option maxHeartbeats 1000000 in
theorem search_any (A : Option Addr) (n c B : Nat) (l : List Pair) (k : ByteArray) (w : World) (h : Pairs w B A n c l) (hB : B ≤ w.heap.size) (hr : ModelP.Rises l) (hn : n ≤ 100000) :
    Calls Tryz.prog 87 #[.slice A n c, .string k, .func (.func 88) #[] #[]] w fun e w' => e = .returned (.tuple #[.int .i64 (ModelP.at_ l k : Nat), .bool (hasB l k)]) ∧ Below w.heap.size w w' := by
  have H := Lib.hid h
  have HR := Lib.hid hr
  have HL := Lib.hid h.len
  clear h hr
  go_enter Tryz.func87, Tryz.ntmps87
  go_wp2
  go_loopg [9, 10] n (fun kx s9 s10 wr => ∃ lo hi : Nat, s9 = .int .i64 lo ∧ s10 = .int .i64 hi ∧ lo ≤ hi ∧ hi ≤ n ∧ hi - lo ≤ kx ∧ Hid (Below w.heap.size w wr) ∧
    Hid ((∀ t p, t < lo → l[t]? = some p → ModelP.lt p.key k) ∧ (∀ t p, hi ≤ t → l[t]? = some p → ¬ ModelP.lt p.key k)))
  case atStart => exact ⟨0, n, rfl, rfl, Nat.zero_le _, Nat.le_refl _, by omega, Lib.hid (bsame w), Lib.hid ⟨fun t p ht => absurd ht (Nat.not_lt_zero _), fun t p h1 h2 => by
    have := (List.getElem?_eq_some_iff.1 h2).1
    rw [HL.out] at this
    omega⟩⟩
  case round =>
    obtain ⟨lo, hi, rfl, rfl, hlh, hin, hg, HB, HI⟩ := hrel
    have hsz := HB.out.size
    by_cases hlt : lo < hi
    · obtain ⟨b, o, p, Ap, np, cp, rfl, hbB, hp, -, hpk, -, -, -, -, c0, c1, c2, c3, c4, c5⟩ := pair_at (H.out.below (HB.out.mono hB)) (show (lo + hi) / 2 < n by omega)
      have HP := Lib.hid hp
      clear hp
      obtain ⟨pk, pkd, pda, plo, phi, pva⟩ := p
      dsimp only at *
      have hbw : b < wr.heap.size := by omega
      by_cases hyx : Lib.compareBytes pk.data.toList k.data.toList < 0
      · have HX := Lib.hid ((cmp_lt _ _).1 hyx)
        go_wp2_with fail
        refine (place1_any pk k pkd Ap np cp plo phi pva _).mono ?_
        rintro e w1 ⟨rfl, hb1⟩
        have HB1 := Lib.hid (bstep HB.out hb1)
        clear hb1
        go_wp2
        go_roundg (hi - ((lo + hi) / 2 + 1))
        case measure => omega
        case rel =>
          exact ⟨(lo + hi) / 2 + 1, hi, by rw [show ((lo : Int) + (hi : Int)) / 2 + 1 = (((lo + hi) / 2 + 1 : Nat) : Int) by omega], rfl, by omega, hin, Nat.le_refl _, HB1, Lib.hid ⟨fun t q ht hq => rises_mono HR.out k (by omega) hq HP.out HX.out, HI.out.2⟩⟩
      · have HX : Hid (¬ ModelP.lt pk k) := Lib.hid (fun hh => hyx ((cmp_lt _ _).2 hh))
        go_wp2_with fail
        refine (place1_any pk k pkd Ap np cp plo phi pva _).mono ?_
        rintro e w1 ⟨rfl, hb1⟩
        have HB1 := Lib.hid (bstep HB.out hb1)
        clear hb1
        go_wp2
        go_roundg ((lo + hi) / 2 - lo)
        case measure => omega
        case rel =>
          exact ⟨lo, (lo + hi) / 2, rfl, by rw [show ((lo : Int) + (hi : Int)) / 2 = (((lo + hi) / 2 : Nat) : Int) by omega], by omega, by omega, Nat.le_refl _, HB1, Lib.hid ⟨HI.out.1, fun t q ht hq hh => HX.out (rises_mono HR.out k ht HP.out hq hh)⟩⟩
    · have e : lo = hi := by omega
      subst e
      have HAT : Hid (ModelP.at_ l k = lo) := Lib.hid (ModelP.at_eq k l lo (by rw [HL.out]; exact hin) HI.out.1 (fun p hp => HI.out.2 lo p (Nat.le_refl _) hp))
      by_cases hln : lo < n
      · obtain ⟨b, o, p, Ap, np, cp, rfl, hbB, hp, -, hpk, -, -, -, -, c0, c1, c2, c3, c4, c5⟩ := pair_at (H.out.below (HB.out.mono hB)) hln
        have HP := Lib.hid hp
        clear hp
        obtain ⟨pk, pkd, pda, plo, phi, pva⟩ := p
        dsimp only at *
        have hbw : b < wr.heap.size := by omega
        by_cases hyx : (Lib.compareBytes pk.data.toList k.data.toList == 0) = true
        · have HX : Hid (hasB l k = true) := Lib.hid ((hasB_iff l k).2 (by rw [HAT.out, HP.out]; simp; exact ModelP.key_eq ((cmp_eq _ _).1 (by simpa using hyx))))
          go_wp2_with fail
          refine (place1_any pk k pkd Ap np cp plo phi pva _).mono ?_
          rintro e w1 ⟨rfl, hb1⟩
          have HB1 := Lib.hid (bstep HB.out hb1)
          clear hb1
          go_wp2
          go_ret2
          exact ⟨by rw [HAT.out, HX.out]; rfl, HB1.out⟩
        · have HX : Hid (hasB l k = false) := Lib.hid (by
            cases hh : hasB l k with
            | false => rfl
            | true =>
              exfalso
              have := (hasB_iff l k).1 hh
              rw [HAT.out, HP.out] at this
              simp only [Option.map_some, Option.some.injEq] at this
              apply hyx
              simp [(cmp_eq pk.data.toList k.data.toList).2 (by rw [this])])
          replace hyx : (Lib.compareBytes pk.data.toList k.data.toList == 0) = false := by simpa using hyx
          go_wp2_with fail
          refine (place1_any pk k pkd Ap np cp plo phi pva _).mono ?_
          rintro e w1 ⟨rfl, hb1⟩
          have HB1 := Lib.hid (bstep HB.out hb1)
          clear hb1
          go_wp2
          go_ret2
          exact ⟨by rw [HAT.out, HX.out]; rfl, HB1.out⟩
      · have HX : Hid (hasB l k = false) := Lib.hid (by
          unfold hasB
          rw [HAT.out, List.getElem?_eq_none (by rw [HL.out]; omega)])
        have hd : decide ((lo : Int) < (n : Int)) = false := by simpa using hln
        go_wp2
        go_ret2
        exact ⟨by rw [HAT.out, HX.out]; rfl, HB.out⟩
set_option maxRecDepth 100000 in
set_option maxHeartbeats 400000 in
theorem place_any (A : Option Addr) (n c B : Nat) (l : List Pair) (k : ByteArray) (w : World) (h : Pairs w B A n c l) (hB : B ≤ w.heap.size) (hr : ModelP.Rises l) (hn : n ≤ 100000) :
    Calls Tryz.prog 74 #[.slice A n c, .string k] w fun e w' => e = .returned (.tuple #[.int .i64 (ModelP.at_ l k : Nat), .bool (hasB l k)]) ∧ Below w.heap.size w w' := by
  have H := Lib.hid h
  have HR := Lib.hid hr
  clear h hr
  go_enter Tryz.func74, Tryz.ntmps74
  go_wp2_with fail
  refine (search_any A n c B l k w H.out hB HR.out hn).mono ?_
  rintro e w1 ⟨rfl, hb1⟩
  have HB1 := Lib.hid hb1
  clear hb1
  go_wp2
  go_ret2
  exact ⟨rfl, HB1.out⟩
end Go.Proofs.YtpklclnehlgcpaaGreat.ModelW
end
section
namespace Go.Proofs.YtpklclnehlgcpaaGreat
open Go.RowKit
set_option linter.unusedVariables false
namespace Reg
/-- bytes in a value, that hang on none of these blocks: while nothing turns -/
def byHS (obs : List Nat) (V : Option Addr → Nat → Nat → Value) (l : List UInt8) : SP ext := ⟨fun v w => ∃ A n c, v = V A n c ∧ BytesH obs w A n c l, fun _ _ _ hb ⟨A, n, c, e, h⟩ => ⟨A, n, c, e, h.next hb⟩⟩
end Reg
theorem run_stS {P : Program} {w w1 : World} {ty : TypeId} {ad : Addr} {cs : Array Value} (hi : (P.info? ty).map (·.size) = some cs.size) (hst : (storeCells ad cs.toList).run P w = .ok () w1) : (stSem ty (.pointer (some ad)) (.agg cs)).run P w = .ok () w1 := by
  have hrun : (storeVar ty ad (.agg cs)).run P w = .ok () w1 := by
    cases hq : P.info? ty with
    | none => simp [hq] at hi
    | some i =>
      have hs : cs.size = i.size := by simp [hq] at hi; omega
      simp [storeVar, sizeOf, typeInfo, hq, Value.cells, hs, hst]
  simp only [stSem, Instr.storeAt, Instr.sureAddr, Sem.run_bind, Sem.run_pure, Result.andThen_ok]
  exact hrun
theorem run_stNew {P : Program} {w : World} {ty t : TypeId} {Z cs : Array Value} (hi : (P.info? ty).map (·.size) = some cs.size) (hz : Z.size = cs.size) (h1 : cs.toList.all (·.oneCell') = true) : (stSem ty (.pointer (some ⟨w.heap.size, 0, none⟩)) (.agg cs)).run P (w.alloc (.cells Z t)) = .ok () (w.alloc (.cells cs t)) := by
  have h1' : cs.all (·.oneCell') = true := by rw [← Array.all_toList]; exact h1
  simp only [stSem, Instr.storeAt, Instr.sureAddr, Sem.run_bind, Sem.run_pure, Result.andThen_ok]
  rw [run_storeVar_row (w.alloc (.cells Z t)) w.heap.size t ty Z cs (heap_alloc_new w _) hi hz h1', World.setRow_alloc_new]
theorem stP_fold (a v : Value) : Instr.storeAt 85 a v = stSem 85 a v := rfl
def zeroPair : Pair := ⟨ByteArray.empty, CellP.none⟩
theorem zeroPair_rel (w : World) (B : Nat) : PairE.rel w B [.string ⟨#[]⟩, .int .i64 0, .slice none 0 0, .int .i64 0, .int .i64 0, .int .i64 0] zeroPair :=
  ⟨none, 0, 0, rfl, Bytes.none_ _ _, by show (0 : Nat) ≤ maxLen; unfold maxLen; omega, by unfold In64 zeroPair CellP.none; dsimp only; omega, by unfold In64 zeroPair CellP.none; dsimp only; omega, by unfold In64 zeroPair CellP.none; dsimp only; omega, by unfold In64 zeroPair CellP.none; dsimp only; omega⟩
theorem infoP : (Tryz.prog.info? 85).map (fun i => (i.zero, i.size, i.bytes)) = some (some (.agg #[.string ⟨#[]⟩, .int .i64 0, .slice none 0 0, .int .i64 0, .int .i64 0, .int .i64 0]), 6, 72) := by kernel_rfl
theorem set_fill {l : List Pair} {k n : Nat} {p : Pair} (hl : l.length = n) (hk : k < n) (hp : l[k]? = some p) : (l.take k ++ List.replicate (n - k) zeroPair).set k p = l.take (k + 1) ++ List.replicate (n - (k + 1)) zeroPair := by
  have hlt : (l.take k).length = k := by simp; omega
  rw [List.set_append_right _ _ (by omega), hlt, Nat.sub_self, show n - k = (n - (k + 1)) + 1 by omega, List.replicate_succ, List.set_cons_zero]
  rw [List.take_add_one, hp]
  simp
end Go.Proofs.YtpklclnehlgcpaaGreat
namespace Go.Proofs.YtpklclnehlgcpaaGreat.ModelW
open Go.RowKit
set_option linter.unusedVariables false
attribute [local go_sem ↓] stP_fold
set_option maxRecDepth 100000 in
set_option maxHeartbeats 1000000 in
theorem copyState_any (A : Option Addr) (n c B : Nat) (l : List Pair) (w : World) (h : Pairs w B A n c l) (hB : B ≤ w.heap.size) (hn : n ≤ 1000) (hd : ∀ p ∈ l, p.cell.data.length ≤ 100000) :
    Calls Tryz.prog 60 #[.slice A n c] w fun e w' => ∃ g, e = .returned (.slice (some ⟨g, 0, none⟩) n n) ∧ OwnE PairE 85 w' w.heap.size (some ⟨g, 0, none⟩) n n l ∧ Below w.heap.size w w' := by
  obtain ⟨i0, hi, hz0, hz1, hz2⟩ := info_parts infoP
  obtain ⟨w1, hmk, hO1, hb1, hs1⟩ := own_made (P := Tryz.prog) (E := PairE) 83 i0 _ _ zeroPair Tryz.underlying83 hi hz0 hz1 rfl zeroPair_rel n (by rw [hz2]; omega) (by omega) w
  have H := Lib.hid h
  have HL := Lib.hid h.len
  have HD := Lib.hid hd
  have HO1 := Lib.hid hO1
  have HB1 := Lib.hid hb1
  have HI := Lib.hid hi
  clear h hd hO1 hb1 hi hz0 hz1 hz2 hs1
  go_enter Tryz.func60, Tryz.ntmps60
  go_wp2
  go_loopw [11] (fun i wr => ∃ k : Nat, k ≤ n ∧ i = .int .i64 (k : Int) ∧ Hid (OwnE PairE 85 wr w.heap.size (some ⟨w.heap.size, 0, none⟩) n n (l.take k ++ List.replicate (n - k) zeroPair) ∧ Below w.heap.size w wr)) (fun i _ => n - (intOf i).toNat)
  case atStart => exact ⟨0, Nat.zero_le _, rfl, Lib.hid ⟨by simpa using HO1.out, HB1.out⟩⟩
  case round =>
    obtain ⟨k, hk, rfl, HK⟩ := hrel
    have hsz := HK.out.2.size
    by_cases hlt : k < n
    · obtain ⟨b, o, p, Ap, np, cp, rfl, hbB, hp, hby, hpk, i1, i2, i3, i4, c0, c1, c2, c3, c4, c5⟩ := pair_at (H.out.below (HK.out.2.mono hB)) hlt
      have HP := Lib.hid hp
      have HIN := Lib.hid (And.intro hpk (And.intro i1 (And.intro i2 (And.intro i3 i4))))
      have HDP := Lib.hid (HD.out p (List.mem_of_getElem? hp))
      clear hp hpk i1 i2 i3 i4
      obtain ⟨pk, pkd, pda, plo, phi, pva⟩ := p
      dsimp only at *
      have HY := Lib.hid (hby.more (show B ≤ wr.heap.size by omega))
      have hnp : np ≤ 100000 := by have := hby.len; have := HDP.out; omega
      clear hby
      have hbw : b < wr.heap.size := by omega
      have hst4 := run_stNew (P := Tryz.prog) (w := wr) (ty := 85) (t := 85) (Z := #[.string ⟨#[]⟩, .int .i64 0, .slice none 0 0, .int .i64 0, .int .i64 0, .int .i64 0]) (cs := #[.string pk, .int .i64 pkd, .slice Ap np cp, .int .i64 plo, .int .i64 phi, .int .i64 pva]) (by kernel_rfl) rfl rfl
      go_wp2
      generalize hW1 : wr.alloc (.cells #[.string pk, .int .i64 pkd, .slice Ap np cp, .int .i64 plo, .int .i64 phi, .int .i64 pva] 85) = W1
      have HS : Hid (Str W1 wr.heap.size #[.string pk, .int .i64 pkd, .slice Ap np cp, .int .i64 plo, .int .i64 phi, .int .i64 pva]) := Lib.hid (by rw [← hW1]; exact Str.new wr _ _)
      have hba : Below wr.heap.size wr W1 := by rw [← hW1]; exact balloc (bsame _) _
      have hz1 : W1.heap.size = wr.heap.size + 1 := by rw [← hW1]; simp
      have HO2 := Lib.hid (HK.out.1.next hba)
      have HB2 := Lib.hid (bstep HK.out.2 hba)
      have HY1 := Lib.hid (HY.out.next hba)
      have hgl : w.heap.size < wr.heap.size := by
        obtain ⟨g, cur, vs, e, -, hh, -⟩ := HK.out.1.row (by omega)
        cases e
        exact (Array.getElem?_eq_some_iff.1 hh).1
      clear hW1 hba c0 c1 c2 c3 c4 c5 HK HY
      refine Reg.wp_region_tail (R := ext) (W := W1) [Reg.eqv (.slice (some ⟨w.heap.size, 0, none⟩) n n), Reg.eqv (.int .i64 (k : Int)), Reg.eqv (.pointer (some ⟨wr.heap.size, 0, none⟩)), Reg.eqv (.string pk), Reg.eqv (.pointer (some ⟨wr.heap.size, 1, none⟩)), Reg.eqv (.agg #[.int .i64 pkd, .slice Ap np cp, .int .i64 plo, .int .i64 phi, .int .i64 pva]), Reg.byHS [w.heap.size] (fun A n c => .agg #[.int .i64 pkd, .slice A n c, .int .i64 plo, .int .i64 phi, .int .i64 pva]) pda, Reg.byHS [w.heap.size] (fun A n c => .agg #[.string pk, .int .i64 pkd, .slice A n c, .int .i64 plo, .int .i64 phi, .int .i64 pva]) pda, Reg.eqv (.pointer (some ⟨w.heap.size, k * 6, none⟩))] 27 9 _ [[(3, none)], [(4, none)], [(5, none)], [(18, some 2)], [(5, none)], [(20, some 4)], [(21, some 5)], [(19, some 3), (22, some 6)], [(16, some 0), (17, some 1)]] rfl (by kernel_rfl) (by kernel_rfl) (by rfl) (by rfl) rfl (by kernel_rfl) ?_ [some 16, some 17, some 18, some 19, some 20, some 21, some 22, some 23, some 24] (by kernel_rfl) ?_
      · refine ⟨?_, ?_, ?_, ?_, ?_, ?_, ?_, ?_, ?_, trivial⟩
        · intro ax wx hx hs
          obtain ⟨e3, -⟩ := hs
          have g3 := Reg.ev (v := .slice (some ⟨w.heap.size, 0, none⟩) n n) e3
          exact Reg.obl_free rfl (Reg.wp_eqv (Option.some_ne_none _) (by go_simp) rfl)
        · intro ax wx hx hs
          obtain ⟨e4, -⟩ := hs
          have g4 := Reg.ev (v := .int .i64 (k : Int)) e4
          exact Reg.obl_free rfl (Reg.wp_eqv (Option.some_ne_none _) (by go_simp) rfl)
        · intro ax wx hx hs
          obtain ⟨e5, -⟩ := hs
          have g5 := Reg.ev (v := .pointer (some ⟨wr.heap.size, 0, none⟩)) e5
          exact Reg.obl_free rfl (Reg.wp_eqv (Option.some_ne_none _) (by go_simp) rfl)
        · intro ax wx hx hs
          obtain ⟨e18, -⟩ := hs
          have g18 := Reg.ev (v := .pointer (some ⟨wr.heap.size, 0, none⟩)) e18
          obtain ⟨l0, l1, l2, l3, l4, l5⟩ := str6 (HS.out.next hx)
          exact Reg.obl_free rfl (Reg.wp_eqv (Option.some_ne_none _) (by go_simp) rfl)
        · intro ax wx hx hs
          obtain ⟨e5, -⟩ := hs
          have g5 := Reg.ev (v := .pointer (some ⟨wr.heap.size, 0, none⟩)) e5
          exact Reg.obl_free rfl (Reg.wp_eqv (Option.some_ne_none _) (by go_simp) rfl)
        · intro ax wx hx hs
          obtain ⟨e20, -⟩ := hs
          have g20 := Reg.ev (v := .pointer (some ⟨wr.heap.size, 1, none⟩)) e20
          obtain ⟨l0, l1, l2, l3, l4, l5⟩ := str6 (HS.out.next hx)
          exact Reg.obl_free rfl (Reg.wp_eqv (Option.some_ne_none _) (by go_simp) rfl)
        · intro ax wx hx hs
          obtain ⟨e21, -⟩ := hs
          have g21 := Reg.ev (v := .agg #[.int .i64 pkd, .slice Ap np cp, .int .i64 plo, .int .i64 phi, .int .i64 pva]) e21
          refine Reg.obl_free rfl ?_
          go_simp
          refine (copyCell_any [w.heap.size] Ap np cp W1.heap.size pkd pda plo phi pva _ (by intro b hb; simp only [List.mem_cons, List.not_mem_nil, or_false] at hb; subst hb; have := Below.size hx; omega) (HY1.out.below hx) (Below.size hx) hnp).mono ?_
          rintro e wy ⟨A1, n1, c1, rfl, hy1, hby⟩
          exact Reg.done (Option.some_ne_none _) ⟨A1, n1, c1, rfl, hy1⟩ hby
        · intro ax wx hx hs
          obtain ⟨e19, e22, -⟩ := hs
          have g19 := Reg.ev (v := .string pk) e19
          refine Reg.obl_free rfl ?_
          obtain ⟨A1, n1, c1, e22, hy1⟩ := e22
          have g22 := Reg.ev e22
          exact Reg.wp_same (Option.some_ne_none _) (by go_simp) ⟨A1, n1, c1, rfl, hy1⟩
        · intro ax wx hx hs
          obtain ⟨e16, e17, -⟩ := hs
          have g16 := Reg.ev (v := .slice (some ⟨w.heap.size, 0, none⟩) n n) e16
          have g17 := Reg.ev (v := .int .i64 (k : Int)) e17
          exact Reg.obl_free rfl (Reg.wp_eqv (Option.some_ne_none _) (by go_simp) rfl)
      · intro W2 hwf
        simp only [Reg.Fin]
        rintro _ rfl _ rfl _ rfl _ rfl _ rfl _ rfl v22 h22 v23 h23 _ rfl
        obtain ⟨A1, n1, c1, rfl, hy1⟩ := h23
        have hwf' : Below W1.heap.size W1 W2 := hwf
        have hOn := HO2.out.next hwf'
        have hz0 : (l.take k ++ List.replicate (n - k) zeroPair)[k]? = some zeroPair := by
          have hlt2 : (l.take k).length = k := by have := HL.out; simp; omega
          rw [List.getElem?_append_right (by omega), hlt2, Nat.sub_self, List.getElem?_replicate, if_pos (by omega)]
        obtain ⟨g, W3, e, hge, hgl3, hst, hO3, hgr, hz3⟩ := hOn.write (P := Tryz.prog) (j := k) (i := 0) (s := (#[.string pk, .int .i64 pkd, .slice A1 n1 c1, .int .i64 plo, .int .i64 phi, .int .i64 pva] : Array Value).toList) (x := ⟨pk, ⟨pkd, pda, plo, phi, pva⟩⟩) hlt (by show 0 + 6 ≤ 6; omega) (by
            intro v hv
            simp only [List.mem_cons, List.not_mem_nil, or_false] at hv
            rcases hv with rfl | rfl | rfl | rfl | rfl | rfl <;> rfl) (by
            intro g vs e hr
            cases e
            have hvl := PairE.len (hr _ hz0)
            have e2 : overV vs 0 (#[.string pk, .int .i64 pkd, .slice A1 n1 c1, .int .i64 plo, .int .i64 phi, .int .i64 pva] : Array Value).toList = (#[.string pk, .int .i64 pkd, .slice A1 n1 c1, .int .i64 plo, .int .i64 phi, .int .i64 pva] : Array Value).toList := by
              unfold overV
              rw [List.take_zero, List.nil_append, List.drop_of_length_le (by rw [hvl]; show 6 ≤ 0 + 6; omega), List.append_nil]
            rw [e2]
            exact ⟨A1, n1, c1, rfl, hy1, HIN.out⟩)
        cases e
        rw [set_fill HL.out hlt HP.out] at hO3
        have HO3 := Lib.hid hO3
        have HB3 := Lib.hid ((HB2.out.trans (hwf'.mono (by omega))).grown hgr (by have := HB2.out.size; have := hwf'.size; omega) (fun j hj => by cases hj; exact Nat.le_refl _))
        clear hO3 hgr hOn hwf hwf' hy1 hz3 h22
        have hst5 := run_stS (P := Tryz.prog) (ty := 85) (by kernel_rfl) hst
        rw [show k * PairE.size + 0 = k * 6 from rfl] at hst5
        clear hst hst4
        refine Reg.Goal.mk ?_
        go_simp
        go_wp2
        go_roundw
        case rel => exact ⟨k + 1, by omega, by go_num, Lib.hid ⟨HO3.out, HB3.out⟩⟩
        case measure => simp [intOf]; omega
    · go_wp2
      go_ret
      refine ⟨w.heap.size, rfl, ?_, HK.out.2⟩
      have h1 := HK.out.1
      rw [List.take_of_length_le (by rw [HL.out]; omega), show n - k = 0 by omega, List.replicate_zero, List.append_nil] at h1
      exact h1
end Go.Proofs.YtpklclnehlgcpaaGreat.ModelW
end
section
namespace Go.Proofs.YtpklclnehlgcpaaGreat.ModelW
open Go.RowKit
set_option linter.unusedVariables false
attribute [local go_sem ↓] app_fold cut_fold cl_fold cp_fold
abbrev TPr : TypeId := 85
theorem own_drew1 {w : World} {base n c : Nat} {A : Option Addr} {l : List Pair} (h : OwnE PairE TPr w base A n c l) : OwnE PairE TPr w.drew base A n c l := h.next ((bsame w).drew)
set_option maxRecDepth 100000 in
set_option maxHeartbeats 1000000 in
theorem delete_any (A : Option Addr) (n c base k : Nat) (l : List Pair) (w : World) (h : OwnE PairE TPr w base A n c l) (hb : base ≤ w.heap.size) (hk : k < n) (hn : n ≤ 100000) :
    Calls Tryz.prog 77 #[.slice A n c, .int .i64 (k : Int), .int .i64 ((k + 1 : Nat) : Int)] w fun e w' => e = .returned (.slice A (n - 1) c) ∧ OwnE PairE TPr w' base A (n - 1) c (l.eraseIdx k) ∧ w.grownBy w' ((Value.slice A 0 0).ownBlock) := by
  obtain ⟨i0, hi, hz0, hz1, hz2⟩ := info_parts infoP
  have hcap := h.elemsIn.cap
  obtain ⟨g, w1, rfl, hbg, hgl, hrun, hO1, hg1, hs1⟩ := (own_drew1 h).del (P := Tryz.prog) 83 83 i0 Tryz.underlying83 hi hz1 k hk
  obtain ⟨g', w2, e, hrun2, hO2, hg2, hs2⟩ := hO1.wipe (P := Tryz.prog) 83 0 i0 _ Tryz.underlying83 hi hz0 rfl (by intro v hv; simp only [Value.cells, List.mem_cons, List.not_mem_nil, or_false] at hv; rcases hv with rfl | rfl | rfl | rfl | rfl | rfl <;> rfl) (by omega) (n - (n - 1)) (by omega)
  cases e
  have HO2 := Lib.hid hO2
  have HB2 : Hid (w.grownBy w2 (some g)) := Lib.hid (((⟨rfl, rfl, rfl, Nat.le_refl _, fun _ _ _ => rfl⟩ : w.grownBy w.drew (some g)).trans hg1).trans hg2)
  rw [show PairE.size = 6 from rfl] at hrun hrun2
  have hcm := hcap.2
  have hcn := hcap.1
  unfold maxLen at hcm
  clear h hO1 hO2 hg1 hg2 hi hz0 hz1 hz2 hcap
  go_enter Tryz.func77, Tryz.ntmps77
  go_wp2
  go_region
  go_wp2
  go_ret
  exact ⟨rfl, HO2.out, HB2.out⟩

set_option maxRecDepth 100000 in
set_option maxHeartbeats 1000000 in
theorem insert_end (A : Option Addr) (n c base : Nat) (l : List Pair) (b o cv : Nat) (x : Pair) (w : World) (h : OwnE PairE TPr w base A n c l) (hv : ElemsIn PairE (hid A w) w w.heap.size (some ⟨b, o, none⟩) 1 cv [x]) (hb : base ≤ w.heap.size) (hn : n ≤ 100000) :
    Calls Tryz.prog 76 #[.slice A n c, .int .i64 (n : Int), .slice (some ⟨b, o, none⟩) 1 cv] w fun e w' => ∃ A' c', e = .returned (.slice A' (n + 1) c') ∧ OwnE PairE TPr w' base A' (n + 1) c' (l ++ [x]) ∧ w.grownBy w' ((Value.slice A 0 0).ownBlock) ∧ (A' = A ∨ ∀ a, A' = some a → w.heap.size ≤ a.block) := by
  obtain ⟨i0, hi, hz0, hz1, hz2⟩ := info_parts infoP
  have hcap := h.elemsIn.cap
  obtain ⟨A', c', w1, happ, hO, -, hB, hA⟩ := h.app (P := Tryz.prog) 83 83 i0 _ 72 Tryz.underlying83 hi hz0 hz1 hz2 rfl hv (by unfold maxLen; omega) (by omega) hb
  have HO := Lib.hid hO
  have HB := Lib.hid hB
  have hcm := hcap.2
  have hcn := hcap.1
  unfold maxLen at hcm
  have hcn' : (n : Int) ≤ (c : Int) := by omega
  clear h hv hO hB hi hz0 hz1 hz2 hcap
  go_enter Tryz.func76, Tryz.ntmps76
  go_wp2
  go_ret
  exact ⟨A', c', rfl, HO.out, HB.out, hA.imp id fun ⟨a, e, ha⟩ a' e' => by rw [e] at e'; cases e'; omega⟩
set_option maxRecDepth 100000 in
set_option maxHeartbeats 1000000 in
theorem insert_mid (A : Option Addr) (n base k : Nat) (l : List Pair) (b o cv : Nat) (x : Pair) (w : World) (h : OwnE PairE TPr w base A n n l) (hv : ElemsIn PairE (hid A w) w w.heap.size (some ⟨b, o, none⟩) 1 cv [x]) (hk : k < n) (hn : n ≤ 100000) :
    Calls Tryz.prog 76 #[.slice A n n, .int .i64 (k : Int), .slice (some ⟨b, o, none⟩) 1 cv] w fun e w' => ∃ A' c', e = .returned (.slice A' (n + 1) c') ∧ OwnE PairE TPr w' w.heap.size A' (n + 1) c' (l.take k ++ x :: l.drop k) ∧ Below w.heap.size w w' := by
  obtain ⟨i0, hi, hz0, hz1, hz2⟩ := info_parts infoP
  obtain ⟨cap, wA, wB, wC, h1, h2, happ, hcp1, hcp2, hO, hB, hs⟩ := h.ins (P := Tryz.prog) 83 3 83 3 i0 _ 72 Tryz.underlying83 Tryz.underlying3 hi hz0 hz1 hz2 rfl k hk rfl hn (by decide) hv
  have HO := Lib.hid hO
  have HB := Lib.hid hB
  unfold maxLen at h2
  rw [show PairE.size = 6 from rfl] at happ hcp1 hcp2
  rw [show ((n + 1 - k : Nat) : Int) = (n : Int) + 1 - (k : Int) by omega] at happ
  clear h hv hO hB hi hz0 hz1 hz2 hs
  have hne : ((k : Int) == (n : Int)) = false := by simp; omega
  go_enter Tryz.func76, Tryz.ntmps76
  go_wp2
  have q1 : IntKind.i64.wrap ((k : Int) + 1) = (k : Int) + 1 := IntWalk.i64_in _ (by omega)
  have q2 : (0 : Int) ≤ (k : Int) + 1 := by omega
  have q3 : ((k : Int) + 1).toNat = k + 1 := by omega
  have q4 : (k : Int) + 1 ≤ (n : Int) + 1 := by omega
  have q5 : (k : Int) ≤ (n : Int) := by omega
  have q6 : (n : Int) + 1 ≤ (cap : Int) := by omega
  clear hcp1 happ
  go_region
  go_wp2
  go_ret
  exact ⟨_, cap, rfl, HO.out, HB.out⟩
end Go.Proofs.YtpklclnehlgcpaaGreat.ModelW
end
section
namespace Go.Proofs.YtpklclnehlgcpaaGreat.ModelW
open Go.RowKit
set_option linter.unusedVariables false
attribute [local go_sem ↓] app_fold cut_fold cl_fold cp_fold
theorem frozen_row {w : World} {b : Nat} {cs : Array Value} {t : TypeId} (h : w.heap[b]? = some (.cells cs t (0, 0))) (i : Nat) : w.frozen? ⟨b, i, none⟩ = false := by simp [World.frozen?, h]
theorem shape_row {w : World} {b : Nat} {cs : Array Value} {t : TypeId} (h : w.heap[b]? = some (.cells cs t (0, 0))) : w.shape? b = some (t, cs.size) := by simp [World.shape?, h]
def overlapsEntry : Array Value → Sem Value := fun args => Extern.SlicesOverlaps.overlaps #[83, 83] #[4] args
theorem overlaps_any (b o cv g q n c : Nat) (cs cur : Array Value) (t t' : TypeId) (w : World) (hb : w.heap[b]? = some (.cells cs t (0, 0))) (hg : w.heap[g]? = some (.cells cur t' (0, 0))) (hne : b ≠ g) (hk : cur.size ≠ 0) :
    (callFunc 97 #[.slice (some ⟨b, o, none⟩) 1 cv, .slice (some ⟨g, q, none⟩) n c]).run Tryz.prog w = .ok (.value (.bool false)) w := by
  have hz : ∀ w, (Go.sizeOf 85).run Tryz.prog w = .ok 6 w := fun w => by
    obtain ⟨i0, hi, hz0, hz1, hz2⟩ := info_parts infoP
    simp [sizeOf, typeInfo, hi, hz1]
  have hrun := Lib.run_overlaps_apart (P := Tryz.prog) w 83 4 85 Tryz.underlying83 6 hz ⟨b, o, none⟩ ⟨g, q, none⟩ 1 cv n c hne t t' cs.size cur.size (shape_row hb) (shape_row hg) hk (frozen_row hb _) (frozen_row hb _)
  rw [run_callFunc_extern Tryz.func97 (by kernel_rfl) (by kernel_rfl) (by kernel_rfl) (e := overlapsEntry) (by kernel_rfl)]
  unfold overlapsEntry
  rw [hrun]
  rfl
set_option maxRecDepth 100000 in
set_option maxHeartbeats 1000000 in
theorem insert_room (A : Option Addr) (n c base k : Nat) (l : List Pair) (b o cv : Nat) (x : Pair) (w : World) (h : OwnE PairE TPr w base A n c l) (hv : ElemsIn PairE (hid A w) w w.heap.size (some ⟨b, o, none⟩) 1 cv [x]) (hk : k < n) (hc : n < c) (hn : n ≤ 100000) (hb : base ≤ w.heap.size)
    (cs : Array Value) (hs : Str w b cs) (hne : ∀ a, A = some a → b ≠ a.block) :
    Calls Tryz.prog 76 #[.slice A n c, .int .i64 (k : Int), .slice (some ⟨b, o, none⟩) 1 cv] w fun e w' => e = .returned (.slice A (n + 1) c) ∧ OwnE PairE TPr w' base A (n + 1) c (l.take k ++ x :: l.drop k) ∧ w.grownBy w' ((Value.slice A 0 0).ownBlock) := by
  obtain ⟨i0, hi, hz0, hz1, hz2⟩ := info_parts infoP
  have hcap := h.elemsIn.cap
  obtain ⟨g, wA, wB, rfl, hg, hgl, hcp1, hcp2, hO, hgr, hsz, cells, hh, hcs⟩ := h.insRoom (P := Tryz.prog) 83 3 i0 Tryz.underlying83 hi hz1 k hk hc hv hne
  obtain ⟨tb, hbb⟩ := hs
  rw [show PairE.size = 6 from rfl] at hcp1 hcp2 hcs
  have hov := overlaps_any b o cv g ((k + 1) * 6) (n + 1 - (k + 1)) (c - (k + 1)) cs cells tb _ w hbb hh (hne _ rfl) (by omega)
  have hcut : cutA (cutA (some ⟨g, 0, none⟩) 0 c 6) (k + 1) c 6 = some ⟨g, (k + 1) * 6, none⟩ := by rw [cutA_zero, cutA_pos (by omega), Nat.zero_add]
  rw [← hcut] at hov
  rw [cutA_zero] at hov hcp1 hcp2
  rw [show n + 1 - (k + 1) = n - k by omega] at hov hcp1
  have hlast := cutA_zero g 0 c 6
  have HO := Lib.hid hO
  have HB : Hid (w.grownBy wB (some g)) := Lib.hid hgr
  have hcm := hcap.2
  unfold maxLen at hcm
  clear h hv hO hgr hi hz0 hz1 hz2 hcap hbb hh hcut hne
  have hne : ((k : Int) == (n : Int)) = false := by simp; omega
  have hnc : decide ((c : Int) < (n : Int) + 1) = false := by simp; omega
  have p1 : (0 : Int) ≤ (n : Int) + 1 := by omega
  have p2 : (n : Int) + 1 ≤ (c : Int) := by omega
  have p3 : ((n : Int) + 1).toNat = n + 1 := by omega
  have q2 : (0 : Int) ≤ (k : Int) + 1 := by omega
  have q3 : ((k : Int) + 1).toNat = k + 1 := by omega
  have q4 : (k : Int) + 1 ≤ ((n + 1 : Nat) : Int) := by omega
  have q5 : (k : Int) ≤ ((n + 1 : Nat) : Int) := by omega
  have q6 : (k : Int) ≤ (n : Int) := by omega
  have q7 : (k : Int) ≤ (n : Int) + 1 := by omega
  have q8 : (k : Int) + 1 ≤ (n : Int) + 1 := by omega
  go_enter Tryz.func76, Tryz.ntmps76
  go_wp2
  clear hov
  go_region
  go_wp2
  go_ret
  exact ⟨rfl, HO.out, HB.out⟩
/-- slices.Insert of one pair -/
theorem insert_any (A : Option Addr) (n c base k : Nat) (l : List Pair) (b o cv : Nat) (x : Pair) (w : World) (h : OwnE PairE TPr w base A n c l) (hv : ElemsIn PairE (hid A w) w w.heap.size (some ⟨b, o, none⟩) 1 cv [x]) (hk : k ≤ n) (hn : n ≤ 100000) (hb : base ≤ w.heap.size)
    (cs : Array Value) (hs : Str w b cs) (hne : ∀ a, A = some a → b ≠ a.block) :
    Calls Tryz.prog 76 #[.slice A n c, .int .i64 (k : Int), .slice (some ⟨b, o, none⟩) 1 cv] w fun e w' => ∃ A' c', e = .returned (.slice A' (n + 1) c') ∧ OwnE PairE TPr w' base A' (n + 1) c' (l.take k ++ x :: l.drop k) ∧ w.grownBy w' ((Value.slice A 0 0).ownBlock) ∧ (A' = A ∨ ∀ a, A' = some a → w.heap.size ≤ a.block) := by
  have hlen := h.len
  have hcap := h.elemsIn.cap
  by_cases hkn : k = n
  · subst hkn
    have e : l.take k ++ x :: l.drop k = l ++ [x] := by rw [List.take_of_length_le (by omega), List.drop_of_length_le (by omega)]
    rw [e]
    exact insert_end A k c base l b o cv x w h hv hb hn
  · by_cases hc : n < c
    · exact (insert_room A n c base k l b o cv x w h hv (by omega) hc hn hb cs hs hne).mono fun e w' ⟨h1, h2, h3⟩ => ⟨A, c, h1, h2, h3, .inl rfl⟩
    · have e : c = n := by omega
      subst e
      exact (insert_mid A c base k l b o cv x w h hv (by omega) hn).mono fun e w' ⟨A', c', h1, h2, h3⟩ => ⟨A', c', h1, h2.less hb, grown_below h3 _, .inr h2.ge⟩
end Go.Proofs.YtpklclnehlgcpaaGreat.ModelW
end
