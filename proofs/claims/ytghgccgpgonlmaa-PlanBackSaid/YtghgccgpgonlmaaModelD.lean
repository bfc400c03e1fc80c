/-
  Pairs in memory; the walks of model.Check and of place: a search by halves.
-/
import Derived.Test.YtghgccgpgonlmaaModelC
import Derived.Test.YtghgccgpgonlmaaLayC
import Derived.Test.YtghgccgpgonlmaaKey
import Derived.Deep.LoopGhost
namespace Go.Proofs.Ytghgccgpgonlmaa
open Go.RowKit Go.Shelf
set_option linter.unusedVariables false
/-- a pair's cells -/
def pairV (p : Pair) (A : Option Addr) (n c : Nat) : List Value := [.string p.key, .int .i64 p.cell.kind, .slice A n c, .int .i64 p.cell.lo, .int .i64 p.cell.hi, .int .i64 p.cell.val]
/-- how a pair lies in memory -/
def PairE : El Pair where
  size := 6
  pos := by decide
  rel w B vs p := ∃ A n c, vs = pairV p A n c ∧ Bytes w B A n c p.cell.data ∧ p.key.size ≤ maxLen ∧ In64 p.cell.kind ∧ In64 p.cell.lo ∧ In64 p.cell.hi ∧ In64 p.cell.val
  len := by rintro w B vs p ⟨A, n, c, rfl, _⟩; rfl
  one := by
    rintro w B vs p ⟨A, n, c, rfl, _⟩ v hv
    simp only [pairV, List.mem_cons, List.not_mem_nil, or_false] at hv
    rcases hv with rfl | rfl | rfl | rfl | rfl | rfl <;> rfl
  sub := by rintro w w' B vs p hs ⟨A, n, c, e, h, r⟩; exact ⟨A, n, c, e, h.sub hs, r⟩
  more := by rintro w B B' vs p hB ⟨A, n, c, e, h, r⟩; exact ⟨A, n, c, e, h.more hB, r⟩
abbrev Pairs (w : World) (B : Nat) (A : Option Addr) (n c : Nat) (l : List Pair) : Prop := Elems PairE w B A n c l
/-- a pair of a slice: its cells -/
theorem pair_at {wr w : World} {B n c k : Nat} {A : Option Addr} {l : List Pair} (h : ElemsIn PairE wr w B A n c l) (hk : k < n) : ∃ b o p Ap np cp, A = some ⟨b, o, none⟩ ∧ b < B ∧ l[k]? = some p ∧ Bytes wr B Ap np cp p.cell.data ∧ p.key.size ≤ maxLen ∧ In64 p.cell.kind ∧ In64 p.cell.lo ∧ In64 p.cell.hi ∧ In64 p.cell.val ∧
    w.cell? ⟨b, o + k * 6, none⟩ = some (.string p.key) ∧ w.cell? ⟨b, o + k * 6 + 1, none⟩ = some (.int .i64 p.cell.kind) ∧ w.cell? ⟨b, o + k * 6 + 2, none⟩ = some (.slice Ap np cp) ∧ w.cell? ⟨b, o + k * 6 + 3, none⟩ = some (.int .i64 p.cell.lo) ∧ w.cell? ⟨b, o + k * 6 + 4, none⟩ = some (.int .i64 p.cell.hi) ∧ w.cell? ⟨b, o + k * 6 + 5, none⟩ = some (.int .i64 p.cell.val) := by
  have hl : k < l.length := by rw [h.len]; exact hk
  obtain ⟨b, o, vs, e, hb, ⟨Ap, np, cp, rfl, hy, h1, h2, h3, h4, h5⟩, hc⟩ := h.at_ hk
  exact ⟨b, o, _, Ap, np, cp, e, hb, List.getElem?_eq_getElem hl, hy, h1, h2, h3, h4, h5, hc 0 _ rfl, hc 1 _ rfl, hc 2 _ rfl, hc 3 _ rfl, hc 4 _ rfl, hc 5 _ rfl⟩
end Go.Proofs.Ytghgccgpgonlmaa
namespace Go.Proofs.Ytghgccgpgonlmaa.ModelW
open Go.RowKit Go.Shelf
set_option linter.unusedVariables false
theorem cmp_lt : ∀ a b : List UInt8, Lib.compareBytes a b < 0 ↔ a < b
  | [], [] => by simp [Lib.compareBytes]
  | [], b :: ys => by simp [Lib.compareBytes]
  | a :: xs, [] => by simp [Lib.compareBytes]
  | a :: xs, b :: ys => by
    unfold Lib.compareBytes
    rw [List.cons_lt_cons_iff]
    by_cases h1 : a < b
    · simp [h1]
    · by_cases h2 : b < a
      · have hne : ¬ a = b := by rintro rfl; exact h1 h2
        simp [h1, h2, hne]
      · have e : a = b := UInt8.le_antisymm (UInt8.not_lt.1 h2) (UInt8.not_lt.1 h1)
        subst e
        simp [h1, cmp_lt xs ys]
theorem cmp_eq : ∀ a b : List UInt8, Lib.compareBytes a b = 0 ↔ a = b
  | [], [] => by simp [Lib.compareBytes]
  | [], b :: ys => by simp [Lib.compareBytes]
  | a :: xs, [] => by simp [Lib.compareBytes]
  | a :: xs, b :: ys => by
    unfold Lib.compareBytes
    by_cases h1 : a < b
    · have hne : ¬ a = b := by rintro rfl; exact absurd h1 (UInt8.lt_irrefl _)
      simp [h1, hne]
    · by_cases h2 : b < a
      · have hne : ¬ a = b := by rintro rfl; exact h1 h2
        simp [h1, h2, hne]
      · have e : a = b := UInt8.le_antisymm (UInt8.not_lt.1 h2) (UInt8.not_lt.1 h1)
        subst e
        simp [h1, cmp_eq xs ys]
theorem compare_any (a b : ByteArray) (w : World) : Calls Try.prog 101 #[.string a, .string b] w fun e w' => e = .returned (.int .i64 (Lib.compareBytes a.data.toList b.data.toList)) ∧ w = w' :=
  (Any.strings_Compare lays106 a b w).mono fun e w' ⟨h1, h2⟩ => ⟨h1, h2.symm⟩
set_option maxRecDepth 100000 in
set_option maxHeartbeats 400000 in
theorem place1_any (pk k : ByteArray) (pkd : Int) (Ap : Option Addr) (np cp : Nat) (plo phi pva : Int) (w : World) : Calls Try.prog 100 #[.agg #[.string pk, .int .i64 pkd, .slice Ap np cp, .int .i64 plo, .int .i64 phi, .int .i64 pva], .string k] w fun e w' => e = .returned (.int .i64 (Lib.compareBytes pk.data.toList k.data.toList)) ∧ Below w.heap.size w w' := by
  go_enter Try.func100, Try.ntmps100
  go_wp2_with fail
  refine (compare_any _ _ _).mono ?_
  rintro e w1 ⟨rfl, rfl⟩
  go_wp2
  go_ret
  exact ⟨rfl, balloc (bsame w) _⟩

theorem good_code (x : OpX) : (if ModelP.good x = true then (0 : Int) else 1) = ModelP.code (ModelP.good x) := by unfold ModelP.code; cases ModelP.good x <;> rfl
set_option maxRecDepth 100000 in
set_option maxHeartbeats 400000 in
theorem check_read (xk : ByteArray) (Ax : Option Addr) (nx cx : Nat) (xlo xhi xn : Int) (w : World) (hxk : xk.size ≤ maxLen) :
    Calls Try.prog 15 #[.agg #[.int .i64 0, .string xk, .slice Ax nx cx, .int .i64 xlo, .int .i64 xhi, .int .i64 xn]] w fun e w' => e = .returned (.int .i64 (ModelP.code (KeyP.right xk.data.toList))) ∧ Below w.heap.size w w' := by
  go_enter Try.func15, Try.ntmps15
  cases hr : KeyP.right xk.data.toList
  · have HC : Hid (KeyP.code (KeyP.right xk.data.toList) = 1) := Lib.hid (by rw [hr]; rfl)
    clear hr
    go_wp2_with fail
    refine (Key.check_any xk _ hxk).mono ?_
    rintro e w1 ⟨rfl, hb1⟩
    rw [HC.out]
    have HB := Lib.hid (bstep (balloc (bsame w) _) hb1)
    clear hb1
    go_wp2
    go_ret
    exact ⟨rfl, HB.out⟩
  · have HC : Hid (KeyP.code (KeyP.right xk.data.toList) = 0) := Lib.hid (by rw [hr]; rfl)
    clear hr
    go_wp2_with fail
    refine (Key.check_any xk _ hxk).mono ?_
    rintro e w1 ⟨rfl, hb1⟩
    rw [HC.out]
    have HB := Lib.hid (bstep (balloc (bsame w) _) hb1)
    clear hb1
    go_wp2
    go_ret
    exact ⟨rfl, HB.out⟩
set_option maxRecDepth 100000 in
set_option maxHeartbeats 400000 in
theorem check_drop (xk : ByteArray) (Ax : Option Addr) (nx cx : Nat) (xlo xhi xn : Int) (w : World) (hxk : xk.size ≤ maxLen) :
    Calls Try.prog 15 #[.agg #[.int .i64 3, .string xk, .slice Ax nx cx, .int .i64 xlo, .int .i64 xhi, .int .i64 xn]] w fun e w' => e = .returned (.int .i64 (ModelP.code (KeyP.right xk.data.toList))) ∧ Below w.heap.size w w' := by
  go_enter Try.func15, Try.ntmps15
  cases hr : KeyP.right xk.data.toList
  · have HC : Hid (KeyP.code (KeyP.right xk.data.toList) = 1) := Lib.hid (by rw [hr]; rfl)
    clear hr
    go_wp2_with fail
    refine (Key.check_any xk _ hxk).mono ?_
    rintro e w1 ⟨rfl, hb1⟩
    rw [HC.out]
    have HB := Lib.hid (bstep (balloc (bsame w) _) hb1)
    clear hb1
    go_wp2
    go_ret
    exact ⟨rfl, HB.out⟩
  · have HC : Hid (KeyP.code (KeyP.right xk.data.toList) = 0) := Lib.hid (by rw [hr]; rfl)
    clear hr
    go_wp2_with fail
    refine (Key.check_any xk _ hxk).mono ?_
    rintro e w1 ⟨rfl, hb1⟩
    rw [HC.out]
    have HB := Lib.hid (bstep (balloc (bsame w) _) hb1)
    clear hb1
    go_wp2
    go_ret
    exact ⟨rfl, HB.out⟩
set_option maxRecDepth 100000 in
set_option maxHeartbeats 400000 in
theorem check_write (xk : ByteArray) (Ax : Option Addr) (nx cx : Nat) (xlo xhi xn : Int) (w : World) (hxk : xk.size ≤ maxLen) (hc : nx ≤ 32) :
    Calls Try.prog 15 #[.agg #[.int .i64 1, .string xk, .slice Ax nx cx, .int .i64 xlo, .int .i64 xhi, .int .i64 xn]] w fun e w' => e = .returned (.int .i64 (ModelP.code (KeyP.right xk.data.toList))) ∧ Below w.heap.size w w' := by
  go_enter Try.func15, Try.ntmps15
  cases hr : KeyP.right xk.data.toList
  · have HC : Hid (KeyP.code (KeyP.right xk.data.toList) = 1) := Lib.hid (by rw [hr]; rfl)
    clear hr
    go_wp2_with fail
    refine (Key.check_any xk _ hxk).mono ?_
    rintro e w1 ⟨rfl, hb1⟩
    rw [HC.out]
    have HB := Lib.hid (bstep (balloc (bsame w) _) hb1)
    clear hb1
    go_wp2
    go_ret
    exact ⟨rfl, HB.out⟩
  · have HC : Hid (KeyP.code (KeyP.right xk.data.toList) = 0) := Lib.hid (by rw [hr]; rfl)
    clear hr
    go_wp2_with fail
    refine (Key.check_any xk _ hxk).mono ?_
    rintro e w1 ⟨rfl, hb1⟩
    rw [HC.out]
    have HB := Lib.hid (bstep (balloc (bsame w) _) hb1)
    clear hb1
    go_wp2
    go_ret
    exact ⟨rfl, HB.out⟩
set_option maxRecDepth 100000 in
set_option maxHeartbeats 400000 in
theorem check_writeN (xk : ByteArray) (Ax : Option Addr) (nx cx : Nat) (xlo xhi xn : Int) (w : World) (hxk : xk.size ≤ maxLen) (hc : 32 < nx) :
    Calls Try.prog 15 #[.agg #[.int .i64 1, .string xk, .slice Ax nx cx, .int .i64 xlo, .int .i64 xhi, .int .i64 xn]] w fun e w' => e = .returned (.int .i64 (ModelP.code (false))) ∧ Below w.heap.size w w' := by
  go_enter Try.func15, Try.ntmps15
  go_wp2
  go_ret
  exact ⟨rfl, balloc (bsame w) _⟩
set_option maxRecDepth 100000 in
set_option maxHeartbeats 400000 in
theorem check_create (xk : ByteArray) (Ax : Option Addr) (nx cx : Nat) (xlo xhi xn : Int) (w : World) (hxk : xk.size ≤ maxLen) (h1 : xlo ≤ xn) (h2 : xn ≤ xhi) :
    Calls Try.prog 15 #[.agg #[.int .i64 2, .string xk, .slice Ax nx cx, .int .i64 xlo, .int .i64 xhi, .int .i64 xn]] w fun e w' => e = .returned (.int .i64 (ModelP.code (KeyP.right xk.data.toList))) ∧ Below w.heap.size w w' := by
  go_enter Try.func15, Try.ntmps15
  cases hr : KeyP.right xk.data.toList
  · have HC : Hid (KeyP.code (KeyP.right xk.data.toList) = 1) := Lib.hid (by rw [hr]; rfl)
    clear hr
    go_wp2_with fail
    refine (Key.check_any xk _ hxk).mono ?_
    rintro e w1 ⟨rfl, hb1⟩
    rw [HC.out]
    have HB := Lib.hid (bstep (balloc (bsame w) _) hb1)
    clear hb1
    go_wp2
    go_ret
    exact ⟨rfl, HB.out⟩
  · have HC : Hid (KeyP.code (KeyP.right xk.data.toList) = 0) := Lib.hid (by rw [hr]; rfl)
    clear hr
    go_wp2_with fail
    refine (Key.check_any xk _ hxk).mono ?_
    rintro e w1 ⟨rfl, hb1⟩
    rw [HC.out]
    have HB := Lib.hid (bstep (balloc (bsame w) _) hb1)
    clear hb1
    go_wp2
    go_ret
    exact ⟨rfl, HB.out⟩
set_option maxRecDepth 100000 in
set_option maxHeartbeats 400000 in
theorem check_createN1 (xk : ByteArray) (Ax : Option Addr) (nx cx : Nat) (xlo xhi xn : Int) (w : World) (hxk : xk.size ≤ maxLen) (h1 : xn < xlo) :
    Calls Try.prog 15 #[.agg #[.int .i64 2, .string xk, .slice Ax nx cx, .int .i64 xlo, .int .i64 xhi, .int .i64 xn]] w fun e w' => e = .returned (.int .i64 (ModelP.code (false))) ∧ Below w.heap.size w w' := by
  go_enter Try.func15, Try.ntmps15
  go_wp2
  go_ret
  exact ⟨rfl, balloc (bsame w) _⟩
set_option maxRecDepth 100000 in
set_option maxHeartbeats 400000 in
theorem check_createN2 (xk : ByteArray) (Ax : Option Addr) (nx cx : Nat) (xlo xhi xn : Int) (w : World) (hxk : xk.size ≤ maxLen) (h1 : xlo ≤ xn) (h2 : xhi < xn) :
    Calls Try.prog 15 #[.agg #[.int .i64 2, .string xk, .slice Ax nx cx, .int .i64 xlo, .int .i64 xhi, .int .i64 xn]] w fun e w' => e = .returned (.int .i64 (ModelP.code (false))) ∧ Below w.heap.size w w' := by
  go_enter Try.func15, Try.ntmps15
  go_wp2
  go_ret
  exact ⟨rfl, balloc (bsame w) _⟩
set_option maxRecDepth 100000 in
set_option maxHeartbeats 400000 in
theorem check_inc (xk : ByteArray) (Ax : Option Addr) (nx cx : Nat) (xlo xhi xn : Int) (w : World) (hxk : xk.size ≤ maxLen) (h1 : 0 ≤ xn) :
    Calls Try.prog 15 #[.agg #[.int .i64 4, .string xk, .slice Ax nx cx, .int .i64 xlo, .int .i64 xhi, .int .i64 xn]] w fun e w' => e = .returned (.int .i64 (ModelP.code (KeyP.right xk.data.toList))) ∧ Below w.heap.size w w' := by
  go_enter Try.func15, Try.ntmps15
  cases hr : KeyP.right xk.data.toList
  · have HC : Hid (KeyP.code (KeyP.right xk.data.toList) = 1) := Lib.hid (by rw [hr]; rfl)
    clear hr
    go_wp2_with fail
    refine (Key.check_any xk _ hxk).mono ?_
    rintro e w1 ⟨rfl, hb1⟩
    rw [HC.out]
    have HB := Lib.hid (bstep (balloc (bsame w) _) hb1)
    clear hb1
    go_wp2
    go_ret
    exact ⟨rfl, HB.out⟩
  · have HC : Hid (KeyP.code (KeyP.right xk.data.toList) = 0) := Lib.hid (by rw [hr]; rfl)
    clear hr
    go_wp2_with fail
    refine (Key.check_any xk _ hxk).mono ?_
    rintro e w1 ⟨rfl, hb1⟩
    rw [HC.out]
    have HB := Lib.hid (bstep (balloc (bsame w) _) hb1)
    clear hb1
    go_wp2
    go_ret
    exact ⟨rfl, HB.out⟩
set_option maxRecDepth 100000 in
set_option maxHeartbeats 400000 in
theorem check_incN (xk : ByteArray) (Ax : Option Addr) (nx cx : Nat) (xlo xhi xn : Int) (w : World) (hxk : xk.size ≤ maxLen) (h1 : xn < 0) :
    Calls Try.prog 15 #[.agg #[.int .i64 4, .string xk, .slice Ax nx cx, .int .i64 xlo, .int .i64 xhi, .int .i64 xn]] w fun e w' => e = .returned (.int .i64 (ModelP.code (false))) ∧ Below w.heap.size w w' := by
  go_enter Try.func15, Try.ntmps15
  go_wp2
  go_ret
  exact ⟨rfl, balloc (bsame w) _⟩
set_option maxRecDepth 100000 in
set_option maxHeartbeats 400000 in
theorem check_dec (xk : ByteArray) (Ax : Option Addr) (nx cx : Nat) (xlo xhi xn : Int) (w : World) (hxk : xk.size ≤ maxLen) (h1 : 0 ≤ xn) :
    Calls Try.prog 15 #[.agg #[.int .i64 5, .string xk, .slice Ax nx cx, .int .i64 xlo, .int .i64 xhi, .int .i64 xn]] w fun e w' => e = .returned (.int .i64 (ModelP.code (KeyP.right xk.data.toList))) ∧ Below w.heap.size w w' := by
  go_enter Try.func15, Try.ntmps15
  cases hr : KeyP.right xk.data.toList
  · have HC : Hid (KeyP.code (KeyP.right xk.data.toList) = 1) := Lib.hid (by rw [hr]; rfl)
    clear hr
    go_wp2_with fail
    refine (Key.check_any xk _ hxk).mono ?_
    rintro e w1 ⟨rfl, hb1⟩
    rw [HC.out]
    have HB := Lib.hid (bstep (balloc (bsame w) _) hb1)
    clear hb1
    go_wp2
    go_ret
    exact ⟨rfl, HB.out⟩
  · have HC : Hid (KeyP.code (KeyP.right xk.data.toList) = 0) := Lib.hid (by rw [hr]; rfl)
    clear hr
    go_wp2_with fail
    refine (Key.check_any xk _ hxk).mono ?_
    rintro e w1 ⟨rfl, hb1⟩
    rw [HC.out]
    have HB := Lib.hid (bstep (balloc (bsame w) _) hb1)
    clear hb1
    go_wp2
    go_ret
    exact ⟨rfl, HB.out⟩
set_option maxRecDepth 100000 in
set_option maxHeartbeats 400000 in
theorem check_decN (xk : ByteArray) (Ax : Option Addr) (nx cx : Nat) (xlo xhi xn : Int) (w : World) (hxk : xk.size ≤ maxLen) (h1 : xn < 0) :
    Calls Try.prog 15 #[.agg #[.int .i64 5, .string xk, .slice Ax nx cx, .int .i64 xlo, .int .i64 xhi, .int .i64 xn]] w fun e w' => e = .returned (.int .i64 (ModelP.code (false))) ∧ Below w.heap.size w w' := by
  go_enter Try.func15, Try.ntmps15
  go_wp2
  go_ret
  exact ⟨rfl, balloc (bsame w) _⟩
set_option maxRecDepth 100000 in
set_option maxHeartbeats 400000 in
theorem check_other (act : Int) (xk : ByteArray) (Ax : Option Addr) (nx cx : Nat) (xlo xhi xn : Int) (w : World) (hxk : xk.size ≤ maxLen) (h0 : act < 0 ∨ 5 < act) :
    Calls Try.prog 15 #[.agg #[.int .i64 act, .string xk, .slice Ax nx cx, .int .i64 xlo, .int .i64 xhi, .int .i64 xn]] w fun e w' => e = .returned (.int .i64 (ModelP.code (false))) ∧ Below w.heap.size w w' := by
  have n0 : (act == 0) = false := by simp; omega
  have n1 : (act == 1) = false := by simp; omega
  have n2 : (act == 2) = false := by simp; omega
  have n3 : (act == 3) = false := by simp; omega
  have n4 : (act == 4) = false := by simp; omega
  have n5 : (act == 5) = false := by simp; omega
  go_enter Try.func15, Try.ntmps15
  go_wp2
  go_ret
  exact ⟨rfl, balloc (bsame w) _⟩
/-- model.Check -/
theorem check_any (x : OpX) (Ax : Option Addr) (nx cx : Nat) (w : World) (hl : x.data.length = nx) (hxk : x.key.size ≤ maxLen) :
    Calls Try.prog 15 #[.agg #[.int .i64 x.act, .string x.key, .slice Ax nx cx, .int .i64 x.lo, .int .i64 x.hi, .int .i64 x.n]] w fun e w' => e = .returned (.int .i64 (ModelP.code (ModelP.good x))) ∧ Below w.heap.size w w' := by
  obtain ⟨act, xk, xdata, xlo, xhi, xn⟩ := x
  dsimp only at *
  by_cases h0 : act < 0 ∨ 5 < act
  · have e : ModelP.good ⟨act, xk, xdata, xlo, xhi, xn⟩ = false := by
      unfold ModelP.good
      have : ¬ (0 ≤ act ∧ act ≤ 5) := by omega
      simp [this]
    rw [e]
    exact check_other act xk Ax nx cx xlo xhi xn w hxk h0
  have hcase : act = 0 ∨ act = 1 ∨ act = 2 ∨ act = 3 ∨ act = 4 ∨ act = 5 := by omega
  rcases hcase with rfl | rfl | rfl | rfl | rfl | rfl
  · rw [show ModelP.good ⟨0, xk, xdata, xlo, xhi, xn⟩ = KeyP.right xk.data.toList from by simp [ModelP.good]]
    exact check_read xk Ax nx cx xlo xhi xn w hxk
  · by_cases h : nx ≤ 32
    · rw [show ModelP.good ⟨1, xk, xdata, xlo, xhi, xn⟩ = KeyP.right xk.data.toList from by simp [ModelP.good, hl, h]]
      exact check_write xk Ax nx cx xlo xhi xn w hxk h
    · rw [show ModelP.good ⟨1, xk, xdata, xlo, xhi, xn⟩ = false from by simp [ModelP.good, hl, h]]
      exact check_writeN xk Ax nx cx xlo xhi xn w hxk (by omega)
  · by_cases h : xlo ≤ xn
    · by_cases h2 : xn ≤ xhi
      · rw [show ModelP.good ⟨2, xk, xdata, xlo, xhi, xn⟩ = KeyP.right xk.data.toList from by simp [ModelP.good, h, h2]]
        exact check_create xk Ax nx cx xlo xhi xn w hxk h h2
      · rw [show ModelP.good ⟨2, xk, xdata, xlo, xhi, xn⟩ = false from by simp [ModelP.good, h2]]
        exact check_createN2 xk Ax nx cx xlo xhi xn w hxk h (by omega)
    · rw [show ModelP.good ⟨2, xk, xdata, xlo, xhi, xn⟩ = false from by simp [ModelP.good, h]]
      exact check_createN1 xk Ax nx cx xlo xhi xn w hxk (by omega)
  · rw [show ModelP.good ⟨3, xk, xdata, xlo, xhi, xn⟩ = KeyP.right xk.data.toList from by simp [ModelP.good]]
    exact check_drop xk Ax nx cx xlo xhi xn w hxk
  · by_cases h : 0 ≤ xn
    · rw [show ModelP.good ⟨4, xk, xdata, xlo, xhi, xn⟩ = KeyP.right xk.data.toList from by simp [ModelP.good, h]]
      exact check_inc xk Ax nx cx xlo xhi xn w hxk h
    · rw [show ModelP.good ⟨4, xk, xdata, xlo, xhi, xn⟩ = false from by simp [ModelP.good, h]]
      exact check_incN xk Ax nx cx xlo xhi xn w hxk (by omega)
  · by_cases h : 0 ≤ xn
    · rw [show ModelP.good ⟨5, xk, xdata, xlo, xhi, xn⟩ = KeyP.right xk.data.toList from by simp [ModelP.good, h]]
      exact check_dec xk Ax nx cx xlo xhi xn w hxk h
    · rw [show ModelP.good ⟨5, xk, xdata, xlo, xhi, xn⟩ = false from by simp [ModelP.good, h]]
      exact check_decN xk Ax nx cx xlo xhi xn w hxk (by omega)
/-- is the key there? -/
def hasB (l : List Pair) (k : ByteArray) : Bool := match l[ModelP.at_ l k]? with | some p => p.key.toList == k.toList | none => false
theorem hasB_iff (l : List Pair) (k : ByteArray) : hasB l k = true ↔ (l[ModelP.at_ l k]?).map (·.key) = some k := by
  unfold hasB
  cases h : l[ModelP.at_ l k]? with
  | none => simp
  | some p =>
    simp only [beq_iff_eq, Option.map_some, Option.some.injEq]
    exact ⟨key_inj, fun e => by rw [e]⟩
theorem rises_mono {l : List Pair} (h : ModelP.Rises l) (k : ByteArray) {i j : Nat} {p q : Pair} (hij : i ≤ j) (hp : l[i]? = some p) (hq : l[j]? = some q) (hl : ModelP.lt q.key k) : ModelP.lt p.key k := by
  rcases Nat.lt_or_ge i j with h1 | h1
  · have hi := (List.getElem?_eq_some_iff.1 hp)
    have hj := (List.getElem?_eq_some_iff.1 hq)
    obtain ⟨hi1, rfl⟩ := hi
    obtain ⟨hj1, rfl⟩ := hj
    exact ModelP.lt_trans (List.pairwise_iff_getElem.1 h i j hi1 hj1 h1) hl
  · have : i = j := by omega
    subst this
    rw [hp] at hq
    cases hq
    exact hl
set_option maxRecDepth 100000 in
set_option maxHeartbeats 1000000 in
theorem search_any (A : Option Addr) (n c B : Nat) (l : List Pair) (k : ByteArray) (w : World) (h : Pairs w B A n c l) (hB : B ≤ w.heap.size) (hr : ModelP.Rises l) (hn : n ≤ 100000) :
    Calls Try.prog 99 #[.slice A n c, .string k, .func (.func 100) #[] #[]] w fun e w' => e = .returned (.tuple #[.int .i64 (ModelP.at_ l k : Nat), .bool (hasB l k)]) ∧ Below w.heap.size w w' := by
  have H := Lib.hid h
  have HR := Lib.hid hr
  have HL := Lib.hid h.len
  clear h hr
  go_enter Try.func99, Try.ntmps99
  go_wp2
  go_loopg [9, 10] n (fun kx s9 s10 wr => ∃ lo hi : Nat, s9 = .int .i64 lo ∧ s10 = .int .i64 hi ∧ lo ≤ hi ∧ hi ≤ n ∧ hi - lo ≤ kx ∧ Hid (Below w.heap.size w wr) ∧
    Hid ((∀ t p, t < lo → l[t]? = some p → ModelP.lt p.key k) ∧ (∀ t p, hi ≤ t → l[t]? = some p → ¬ ModelP.lt p.key k)))
  case atStart => exact ⟨0, n, rfl, rfl, Nat.zero_le _, Nat.le_refl _, by omega, Lib.hid (bsame w), Lib.hid ⟨fun t p ht => absurd ht (Nat.not_lt_zero _), fun t p h1 h2 => by
    have := (List.getElem?_eq_some_iff.1 h2).1
    rw [HL.out] at this
    omega⟩⟩
  case round =>
    obtain ⟨lo, hi, rfl, rfl, hlh, hin, hg, HB, HI⟩ := hrel
    have hsz := HB.out.size
    by_cases hlt : lo < hi
    · obtain ⟨b, o, p, Ap, np, cp, rfl, hbB, hp, -, hpk, -, -, -, -, c0, c1, c2, c3, c4, c5⟩ := pair_at (H.out.below (HB.out.mono hB)) (show (lo + hi) / 2 < n by omega)
      have HP := Lib.hid hp
      clear hp
      obtain ⟨pk, pkd, pda, plo, phi, pva⟩ := p
      dsimp only at *
      have hbw : b < wr.heap.size := by omega
      by_cases hyx : Lib.compareBytes pk.data.toList k.data.toList < 0
      · have HX := Lib.hid ((cmp_lt _ _).1 hyx)
        go_wp2_with fail
        refine (place1_any pk k pkd Ap np cp plo phi pva _).mono ?_
        rintro e w1 ⟨rfl, hb1⟩
        have HB1 := Lib.hid (bstep HB.out hb1)
        clear hb1
        go_wp2
        go_roundg (hi - ((lo + hi) / 2 + 1))
        case measure => omega
        case rel =>
          exact ⟨(lo + hi) / 2 + 1, hi, by rw [show ((lo : Int) + (hi : Int)) / 2 + 1 = (((lo + hi) / 2 + 1 : Nat) : Int) by omega], rfl, by omega, hin, Nat.le_refl _, HB1, Lib.hid ⟨fun t q ht hq => rises_mono HR.out k (by omega) hq HP.out HX.out, HI.out.2⟩⟩
      · have HX : Hid (¬ ModelP.lt pk k) := Lib.hid (fun hh => hyx ((cmp_lt _ _).2 hh))
        go_wp2_with fail
        refine (place1_any pk k pkd Ap np cp plo phi pva _).mono ?_
        rintro e w1 ⟨rfl, hb1⟩
        have HB1 := Lib.hid (bstep HB.out hb1)
        clear hb1
        go_wp2
        go_roundg ((lo + hi) / 2 - lo)
        case measure => omega
        case rel =>
          exact ⟨lo, (lo + hi) / 2, rfl, by rw [show ((lo : Int) + (hi : Int)) / 2 = (((lo + hi) / 2 : Nat) : Int) by omega], by omega, by omega, Nat.le_refl _, HB1, Lib.hid ⟨HI.out.1, fun t q ht hq hh => HX.out (rises_mono HR.out k ht HP.out hq hh)⟩⟩
    · have e : lo = hi := by omega
      subst e
      have HAT : Hid (ModelP.at_ l k = lo) := Lib.hid (ModelP.at_eq k l lo (by rw [HL.out]; exact hin) HI.out.1 (fun p hp => HI.out.2 lo p (Nat.le_refl _) hp))
      by_cases hln : lo < n
      · obtain ⟨b, o, p, Ap, np, cp, rfl, hbB, hp, -, hpk, -, -, -, -, c0, c1, c2, c3, c4, c5⟩ := pair_at (H.out.below (HB.out.mono hB)) hln
        have HP := Lib.hid hp
        clear hp
        obtain ⟨pk, pkd, pda, plo, phi, pva⟩ := p
        dsimp only at *
        have hbw : b < wr.heap.size := by omega
        by_cases hyx : (Lib.compareBytes pk.data.toList k.data.toList == 0) = true
        · have HX : Hid (hasB l k = true) := Lib.hid ((hasB_iff l k).2 (by rw [HAT.out, HP.out]; simp; exact ModelP.key_eq ((cmp_eq _ _).1 (by simpa using hyx))))
          go_wp2_with fail
          refine (place1_any pk k pkd Ap np cp plo phi pva _).mono ?_
          rintro e w1 ⟨rfl, hb1⟩
          have HB1 := Lib.hid (bstep HB.out hb1)
          clear hb1
          go_wp2
          go_ret2
          exact ⟨by rw [HAT.out, HX.out]; rfl, HB1.out⟩
        · have HX : Hid (hasB l k = false) := Lib.hid (by
            cases hh : hasB l k with
            | false => rfl
            | true =>
              exfalso
              have := (hasB_iff l k).1 hh
              rw [HAT.out, HP.out] at this
              simp only [Option.map_some, Option.some.injEq] at this
              apply hyx
              simp [(cmp_eq pk.data.toList k.data.toList).2 (by rw [this])])
          replace hyx : (Lib.compareBytes pk.data.toList k.data.toList == 0) = false := by simpa using hyx
          go_wp2_with fail
          refine (place1_any pk k pkd Ap np cp plo phi pva _).mono ?_
          rintro e w1 ⟨rfl, hb1⟩
          have HB1 := Lib.hid (bstep HB.out hb1)
          clear hb1
          go_wp2
          go_ret2
          exact ⟨by rw [HAT.out, HX.out]; rfl, HB1.out⟩
      · have HX : Hid (hasB l k = false) := Lib.hid (by
          unfold hasB
          rw [HAT.out, List.getElem?_eq_none (by rw [HL.out]; omega)])
        have hd : decide ((lo : Int) < (n : Int)) = false := by simpa using hln
        go_wp2
        go_ret2
        exact ⟨by rw [HAT.out, HX.out]; rfl, HB.out⟩
set_option maxRecDepth 100000 in
set_option maxHeartbeats 400000 in
theorem place_any (A : Option Addr) (n c B : Nat) (l : List Pair) (k : ByteArray) (w : World) (h : Pairs w B A n c l) (hB : B ≤ w.heap.size) (hr : ModelP.Rises l) (hn : n ≤ 100000) :
    Calls Try.prog 83 #[.slice A n c, .string k] w fun e w' => e = .returned (.tuple #[.int .i64 (ModelP.at_ l k : Nat), .bool (hasB l k)]) ∧ Below w.heap.size w w' := by
  have H := Lib.hid h
  have HR := Lib.hid hr
  clear h hr
  go_enter Try.func83, Try.ntmps83
  go_wp2_with fail
  refine (search_any A n c B l k w H.out hB HR.out hn).mono ?_
  rintro e w1 ⟨rfl, hb1⟩
  have HB1 := Lib.hid hb1
  clear hb1
  go_wp2
  go_ret2
  exact ⟨rfl, HB1.out⟩
end Go.Proofs.Ytghgccgpgonlmaa.ModelW
