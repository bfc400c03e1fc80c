/-
  Texts of one claim, joined: Wide, PUndo, PCrc, PRec.
-/
import Derived.Test.YtiokcemlfdonnaaRecP2
import Derived.Test.YtiokcemlfdonnaaRecP3
import Derived.Laws.Externs
import Derived.Test.YtiokcemlfdonnaaRecP1
namespace Go.Proofs.Ytiokcemlfdonnaa.WideP
def hi (x : Int) : Int := x / 18446744073709551616
def lo (x : Int) : Int := x % 18446744073709551616
/-- a number of 64 bits? -/
def fits (x : Int) : Bool := decide (-9223372036854775808 ≤ x) && decide (x ≤ 9223372036854775807)
def num (x : Int) : Int := if fits x then x else 0
def bor (x y : Int) : Int := if x < y then 1 else 0
end Go.Proofs.Ytiokcemlfdonnaa.WideP
namespace Go.Proofs.Ytiokcemlfdonnaa.WideW
open Go.RowKit

def sumV (x : Int) : Value := .agg #[.int .i64 (WideP.hi x), .int .u64 (WideP.lo x)]
def sub64Entry : Array Value → Sem Value := fun args => do
  let (x, y, b) ← Extern.MathBitsCarry.three "Sub64" args
  pure (Extern.MathBitsCarry.pair ((x + Extern.MathBitsCarry.m64 - y - b) % Extern.MathBitsCarry.m64) (if x < y + b then 1 else 0))
theorem run_sub64 (P : Program) (x y : Nat) (w : World) : (sub64Entry #[.int .u64 x, .int .u64 y, .int .u64 0]).run P w =
      .ok (.tuple #[.int .u64 (((x + 18446744073709551616 - y) % 18446744073709551616 : Nat) : Int), .int .u64 ((if x < y then 1 else 0 : Nat) : Int)]) w := rfl
theorem wrap_i64 (x : Int) (h1 : -9223372036854775808 ≤ x) (h2 : x ≤ 9223372036854775807) : wrap64 x = x := by
  simp only [wrap64]
  omega
theorem wrap_u64 (x : Int) : IntKind.u64.wrap x = WideP.lo x := by
  simp only [IntKind.wrap, IntKind.bits, IntKind.signed, WideP.lo]
  simp
theorem wrap_lo (x : Int) (h : WideP.fits x = true) : wrap64 (WideP.lo x) = x := by
  simp [WideP.fits] at h
  simp only [wrap64, WideP.lo]
  omega
theorem wrap_in (x : Int) : -9223372036854775808 ≤ wrap64 x ∧ wrap64 x ≤ 9223372036854775807 := by
  simp only [wrap64]
  omega
theorem lo_nonneg (x : Int) : 0 ≤ WideP.lo x := by unfold WideP.lo; omega
theorem lo_lt (x : Int) : WideP.lo x < 18446744073709551616 := by unfold WideP.lo; omega
theorem hi_wrap (x : Int) (h : WideP.fits x = false) : WideP.hi (wrap64 (WideP.lo x)) ≠ WideP.hi x := by
  simp [WideP.fits] at h
  simp only [wrap64, WideP.lo, WideP.hi]
  omega
theorem lo_wrap (x : Int) : WideP.lo (wrap64 (WideP.lo x)) = WideP.lo x := by
  simp only [wrap64, WideP.lo]
  omega
theorem join_hi (x y : Int) (hx1 : -1000000000000000000000 ≤ x) (hx2 : x ≤ 1000000000000000000000) (hy1 : -1000000000000000000000 ≤ y) (hy2 : y ≤ 1000000000000000000000) :
    wrap64 (wrap64 (WideP.hi x + WideP.hi y) + wrap64 ((WideP.lo x + WideP.lo y) / 18446744073709551616)) = WideP.hi (x + y) := by
  unfold WideP.hi WideP.lo
  rw [wrap_i64 (x / 18446744073709551616 + y / 18446744073709551616) (by omega) (by omega), wrap_i64 ((x % 18446744073709551616 + y % 18446744073709551616) / 18446744073709551616) (by omega) (by omega), wrap_i64 _ (by omega) (by omega)]
  omega
theorem join_lo (x y : Int) : (WideP.lo x + WideP.lo y) % 18446744073709551616 = WideP.lo (x + y) := by
  unfold WideP.lo
  omega
theorem take_hi (x y : Int) (hx1 : -1000000000000000000000 ≤ x) (hx2 : x ≤ 1000000000000000000000) (hy1 : -1000000000000000000000 ≤ y) (hy2 : y ≤ 1000000000000000000000) :
    wrap64 (wrap64 (WideP.hi x - WideP.hi y) - wrap64 (WideP.bor (WideP.lo x) (WideP.lo y))) = WideP.hi (x - y) := by
  unfold WideP.hi WideP.lo WideP.bor
  rw [wrap_i64 (x / 18446744073709551616 - y / 18446744073709551616) (by omega) (by omega)]
  split
  · rw [wrap_i64 1 (by omega) (by omega), wrap_i64 _ (by omega) (by omega)]
    omega
  · rw [wrap_i64 0 (by omega) (by omega), wrap_i64 _ (by omega) (by omega)]
    omega
theorem take_lo (x y : Int) : (WideP.lo x - WideP.lo y) % 18446744073709551616 = WideP.lo (x - y) := by
  unfold WideP.lo
  omega
theorem of_hi (n : Int) (h1 : -9223372036854775808 ≤ n) (h2 : n ≤ 9223372036854775807) : n / 9223372036854775808 = WideP.hi n := by
  unfold WideP.hi
  omega

end Go.Proofs.Ytiokcemlfdonnaa.WideW
namespace Go.Proofs.Ytiokcemlfdonnaa
theorem key_inj {a b : ByteArray} (h : a.toList = b.toList) : a = b := by
  rw [Lib.toList_data, Lib.toList_data] at h
  exact ByteArray.ext (Array.ext' h)
theorem key_ne {a b : ByteArray} (h : ¬ a = b) : (a.toList == b.toList) = false := by
  rw [beq_eq_false_iff_ne]
  exact fun e => h (key_inj e)
end Go.Proofs.Ytiokcemlfdonnaa
namespace Go.Proofs.Ytiokcemlfdonnaa.UndoP
def none : Undo := ⟨0, ByteArray.empty, SlotP.none, 0⟩
/-- does the slot stand for this key? -/
def stands (x : Item) (k : ByteArray) : Prop := (x.state = 1 ∨ x.state = 2) ∧ x.key = k
/-- how an operation is taken back -/
noncomputable def of (x : OpX) (was thn : Item) : Undo := by
  classical
  exact if x.act = 4 then ⟨3, x.key, SlotP.none, x.n⟩ else if x.act = 5 then ⟨2, x.key, SlotP.none, x.n⟩ else
    if x.act = 1 ∨ x.act = 2 ∨ x.act = 3 then (if stands was x.key then ⟨1, x.key, was, 0⟩ else ⟨1, x.key, ⟨2, thn.key, thn.cell⟩, 0⟩) else none
/-- the sum, or the difference -/
def sum (u : Undo) (now : Item) : Int := if u.act = 3 then now.cell.val - u.n else now.cell.val + u.n
/-- what a slot becomes -/
noncomputable def apply (u : Undo) (now : Item) : Item × Int := by
  classical
  exact if u.act = 1 then (u.item, 0) else if u.act = 2 ∨ u.act = 3 then
    (if now.state = 1 ∧ now.key = u.key then
      (if now.cell.kind = 2 ∧ CellP.right now.cell = true then
        (if sum u now < now.cell.lo ∨ now.cell.hi < sum u now then (SlotP.none, 8) else (⟨1, now.key, ⟨2, [], now.cell.lo, now.cell.hi, sum u now⟩⟩, 0)) else (SlotP.none, 6)) else (SlotP.none, 5)) else (SlotP.none, 1)
theorem apply_item (u : Undo) (now : Item) (h : u.act = 1) : apply u now = (u.item, 0) := by simp [apply, h]
theorem apply_arg (u : Undo) (now : Item) (h1 : u.act ≠ 1) (h2 : u.act ≠ 2) (h3 : u.act ≠ 3) : apply u now = (SlotP.none, 1) := by simp [apply, h1, h2, h3]
theorem apply_none (u : Undo) (now : Item) (h2 : u.act = 2 ∨ u.act = 3) (h : ¬ (now.state = 1 ∧ now.key = u.key)) : apply u now = (SlotP.none, 5) := by
  have h1 : u.act ≠ 1 := by omega
  simp only [apply, h1, h2, h, if_true, if_false]
theorem apply_kind (u : Undo) (now : Item) (h2 : u.act = 2 ∨ u.act = 3) (h : now.state = 1 ∧ now.key = u.key) (hk : ¬ (now.cell.kind = 2 ∧ CellP.right now.cell = true)) : apply u now = (SlotP.none, 6) := by
  have h1 : u.act ≠ 1 := by omega
  simp only [apply, h1, h2, if_true, if_false, if_pos h, if_neg hk]
theorem apply_out (u : Undo) (now : Item) (h2 : u.act = 2 ∨ u.act = 3) (h : now.state = 1 ∧ now.key = u.key) (hk : now.cell.kind = 2 ∧ CellP.right now.cell = true) (ho : sum u now < now.cell.lo ∨ now.cell.hi < sum u now) : apply u now = (SlotP.none, 8) := by
  have h1 : u.act ≠ 1 := by omega
  simp only [apply, h1, h2, if_true, if_false, if_pos h, if_pos hk, if_pos ho]
theorem apply_ok (u : Undo) (now : Item) (h2 : u.act = 2 ∨ u.act = 3) (h : now.state = 1 ∧ now.key = u.key) (hk : now.cell.kind = 2 ∧ CellP.right now.cell = true) (ho : ¬ (sum u now < now.cell.lo ∨ now.cell.hi < sum u now)) : apply u now = (⟨1, now.key, ⟨2, [], now.cell.lo, now.cell.hi, sum u now⟩⟩, 0) := by
  have h1 : u.act ≠ 1 := by omega
  simp only [apply, h1, h2, if_true, if_false, if_pos h, if_pos hk, if_neg ho]
theorem of_inc (x : OpX) (was thn : Item) (h : x.act = 4) : of x was thn = ⟨3, x.key, SlotP.none, x.n⟩ := by simp [of, h]
theorem of_dec (x : OpX) (was thn : Item) (h : x.act = 5) : of x was thn = ⟨2, x.key, SlotP.none, x.n⟩ := by simp [of, h]
theorem of_was (x : OpX) (was thn : Item) (h : x.act = 1 ∨ x.act = 2 ∨ x.act = 3) (hs : stands was x.key) : of x was thn = ⟨1, x.key, was, 0⟩ := by
  have h4 : x.act ≠ 4 := by omega
  have h5 : x.act ≠ 5 := by omega
  simp only [of, h4, h5, if_false, if_pos h, if_pos hs]
theorem of_then (x : OpX) (was thn : Item) (h : x.act = 1 ∨ x.act = 2 ∨ x.act = 3) (hs : ¬ stands was x.key) : of x was thn = ⟨1, x.key, ⟨2, thn.key, thn.cell⟩, 0⟩ := by
  have h4 : x.act ≠ 4 := by omega
  have h5 : x.act ≠ 5 := by omega
  simp only [of, h4, h5, if_false, if_pos h, if_neg hs]
theorem of_none (x : OpX) (was thn : Item) (h : ¬ (x.act = 1 ∨ x.act = 2 ∨ x.act = 3 ∨ x.act = 4 ∨ x.act = 5)) : of x was thn = none := by
  have h4 : x.act ≠ 4 := by omega
  have h5 : x.act ≠ 5 := by omega
  have h1 : ¬ (x.act = 1 ∨ x.act = 2 ∨ x.act = 3) := by omega
  simp only [of, h4, h5, if_false, if_neg h1]
/-- are all fields the same? -/
def same (a b : Undo) : Bool := a.act == b.act && (a.key.toList == b.key.toList && (a.n == b.n && SlotP.same a.item b.item))
end Go.Proofs.Ytiokcemlfdonnaa.UndoP
namespace Go.Proofs.Ytiokcemlfdonnaa.UndoP
/-- may it be? -/
def right (u : Undo) : Bool :=
  if u.act = 0 then same u none
  else if u.act = 1 then KeyP.right u.key.data.toList && ((u.item.state == 1 || u.item.state == 2) && (SlotP.right u.item && (u.item.key.toList == u.key.toList && u.n == 0)))
  else if u.act = 2 ∨ u.act = 3 then KeyP.right u.key.data.toList && (decide (0 ≤ u.n) && SlotP.same u.item SlotP.none) else false
/-- its bytes, if it may be -/
def bytes (u : Undo) : List UInt8 :=
  if right u = true then (if u.act = 0 then [0] else [UInt8.ofNat u.act.toNat, UInt8.ofNat u.key.size] ++ (u.key.data.toList ++ (if u.act = 1 then SlotP.bytes u.item else BeP.parts 8 u.n))) else []
theorem slot_right_state (x : Item) (h : SlotP.right x = true) (h0 : ¬ x.state = 0) : (x.state == 1 || x.state == 2) = true := by
  unfold SlotP.right at h
  rw [if_neg h0] at h
  simp only [Bool.and_eq_true] at h
  exact h.1
end Go.Proofs.Ytiokcemlfdonnaa.UndoP
namespace Go.Proofs.Ytiokcemlfdonnaa.CrcP

/-- what a bit's step makes of a sum -/
def bit (v : Nat) : Nat := if v % 2 = 1 then v / 2 ^^^ 2197175160 else v / 2
def bits : Nat → Nat → Nat
  | 0, v => v
  | k + 1, v => bits k (bit v)
/-- eight steps -/
def step8 (v : Nat) : Nat := bits 8 v
/-- a byte's round -/
def round (v : Nat) (c : UInt8) : Nat := step8 (v ^^^ c.toNat)
def more (sum : Nat) (l : List UInt8) : Nat := 4294967295 - l.foldl round (4294967295 - sum)
/-- the sum of bytes -/
def sum (l : List UInt8) : Nat := more 0 l

theorem bit_lt (v : Nat) (h : v < 4294967296) : bit v < 4294967296 := by
  unfold bit
  split
  · have : v / 2 ^^^ 2197175160 < 2 ^ 32 := Nat.xor_lt_two_pow (by omega) (by omega)
    omega
  · omega
theorem bits_lt (k v : Nat) (h : v < 4294967296) : bits k v < 4294967296 := by
  induction k generalizing v with
  | zero => exact h
  | succ k ih => exact ih _ (bit_lt v h)
theorem step8_lt (v : Nat) (h : v < 4294967296) : step8 v < 4294967296 := bits_lt 8 v h
theorem xor_byte_lt (v : Nat) (h : v < 4294967296) (c : UInt8) : v ^^^ c.toNat < 4294967296 := by
  have hc := c.toNat_lt
  have : v ^^^ c.toNat < 2 ^ 32 := Nat.xor_lt_two_pow (by omega) (by omega)
  omega
theorem round_lt (v : Nat) (h : v < 4294967296) (c : UInt8) : round v c < 4294967296 := step8_lt _ (xor_byte_lt v h c)
theorem fold_lt (l : List UInt8) (v : Nat) (h : v < 4294967296) : l.foldl round v < 4294967296 := by
  induction l generalizing v with
  | nil => exact h
  | cons c l ih => exact ih _ (round_lt v h c)

theorem xor_div2 (a b : Nat) : (a ^^^ b) / 2 = a / 2 ^^^ b / 2 := by
  have := Nat.shiftRight_xor_distrib (a := a) (b := b) (i := 1)
  simpa [Nat.shiftRight_eq_div_pow] using this
theorem xor_mod2 (a b : Nat) : (a ^^^ b) % 2 = (a + b) % 2 := by
  have h : (a ^^^ b) % 2 = a % 2 ^^^ b % 2 := by
    have := Nat.xor_mod_two_pow (a := a) (b := b) (n := 1)
    simpa using this
  rw [h]
  have ha : a % 2 = 0 ∨ a % 2 = 1 := by omega
  have hb : b % 2 = 0 ∨ b % 2 = 1 := by omega
  rcases ha with ha | ha <;> rcases hb with hb | hb <;> rw [ha, hb] <;> simp <;> omega
/-- a step is linear -/
theorem bit_xor (a b : Nat) : bit (a ^^^ b) = bit a ^^^ bit b := by
  unfold bit
  rw [xor_div2, xor_mod2]
  generalize a / 2 = x
  generalize b / 2 = y
  have ha : a % 2 = 0 ∨ a % 2 = 1 := by omega
  have hb : b % 2 = 0 ∨ b % 2 = 1 := by omega
  rcases ha with ha | ha <;> rcases hb with hb | hb
  · rw [if_neg (by omega), if_neg (by omega), if_neg (by omega)]
  · rw [if_pos (by omega), if_neg (by omega), if_pos (by omega), Nat.xor_assoc]
  · rw [if_pos (by omega), if_pos (by omega), if_neg (by omega), Nat.xor_assoc, Nat.xor_assoc, Nat.xor_comm y]
  · rw [if_neg (by omega), if_pos (by omega), if_pos (by omega), Nat.xor_assoc, Nat.xor_comm 2197175160, Nat.xor_assoc, Nat.xor_self, Nat.xor_zero]
theorem bits_xor (k a b : Nat) : bits k (a ^^^ b) = bits k a ^^^ bits k b := by
  induction k generalizing a b with
  | zero => rfl
  | succ k ih => show bits k (bit (a ^^^ b)) = _; rw [bit_xor, ih]; rfl
theorem step8_xor (a b : Nat) : step8 (a ^^^ b) = step8 a ^^^ step8 b := bits_xor 8 a b
theorem bit_double (v : Nat) : bit (2 * v) = v := by
  unfold bit
  rw [if_neg (by omega)]
  omega
theorem step8_shift (v : Nat) : step8 (256 * v) = v := by
  show bit (bit (bit (bit (bit (bit (bit (bit (256 * v)))))))) = v
  rw [show 256 * v = 2 * (2 * (2 * (2 * (2 * (2 * (2 * (2 * v))))))) by omega, bit_double, bit_double, bit_double, bit_double, bit_double, bit_double, bit_double, bit_double]
theorem split_low (v : Nat) : v = 256 * (v / 256) ^^^ v % 256 := by
  have h : 2 ^ 8 * (v / 2 ^ 8) + v % 2 ^ 8 = 2 ^ 8 * (v / 2 ^ 8) ^^^ v % 2 ^ 8 := by
    apply Nat.eq_of_testBit_eq
    intro i
    rw [Nat.testBit_two_pow_mul_add _ (Nat.mod_lt _ (by decide)), Nat.testBit_xor, Nat.testBit_two_pow_mul]
    by_cases hi : i < 8
    · have h8 : ¬ 8 ≤ i := by omega
      simp [hi, h8]
    · have h0 : (v % 2 ^ 8).testBit i = false := Nat.testBit_lt_two_pow (Nat.lt_of_lt_of_le (Nat.mod_lt _ (by decide)) (Nat.pow_le_pow_right (by decide) (by omega)))
      simp [hi, h0]
      omega
  have h2 := Nat.div_add_mod v (2 ^ 8)
  have h3 : (2 : Nat) ^ 8 = 256 := by decide
  rw [h3] at h h2
  omega
/-- a round by a table -/
theorem round_table (v : Nat) (c : UInt8) : round v c = v / 256 ^^^ step8 (v % 256 ^^^ c.toNat) := by
  unfold round
  have hv := split_low v
  conv => lhs; rw [hv, Nat.xor_assoc, step8_xor, step8_shift]
theorem sum_lt (l : List UInt8) : sum l < 4294967296 := by
  unfold sum more
  omega
end Go.Proofs.Ytiokcemlfdonnaa.CrcP
namespace Go.Proofs.Ytiokcemlfdonnaa
set_option linter.unusedVariables false
/-- a record -/
structure RecX where
  kind : Int
  txn : Int
  prev : Int
  next : Int
  patches : List PatchX
  undo : Undo
namespace RecP
def May (n least : Int) : Prop := least ≤ n ∧ n ≤ 281474976710656
def Nums (x : RecX) : Prop := (1 ≤ x.kind ∧ x.kind ≤ 4) ∧ May x.txn 1 ∧ May x.prev 0 ∧ May x.next 0
def Rest (x : RecX) : Prop := (x.kind ≠ 2 → x.next = 0) ∧ (x.kind ≠ 1 → x.undo.act = 0) ∧ (3 ≤ x.kind → x.patches.length = 0)
def Pats (l : List PatchX) (k : Nat) : Prop := ∀ i p, i < k → l[i]? = some p → PatchP.Right p
def Right (x : RecX) : Prop := Nums x ∧ x.patches.length ≤ 4 ∧ UndoP.right x.undo = true ∧ Pats x.patches x.patches.length ∧ Rest x
noncomputable def right (x : RecX) : Bool := @decide (Right x) (Classical.propDecidable _)
theorem right_iff (x : RecX) : right x = true ↔ Right x := by unfold right; simp
theorem right_no (x : RecX) (h : ¬ Right x) : right x = false := by unfold right; simpa using h
theorem right_yes (x : RecX) (h : Right x) : right x = true := (right_iff x).2 h
theorem pats_zero (l : List PatchX) : Pats l 0 := fun i p hi => absurd hi (Nat.not_lt_zero _)
theorem pats_step {l : List PatchX} {k : Nat} {p : PatchX} (h : Pats l k) (hp : l[k]? = some p) (hr : PatchP.Right p) : Pats l (k + 1) := by
  intro i q hi hq
  by_cases e : i = k
  · subst e; rw [hp] at hq; cases hq; exact hr
  · exact h i q (by omega) hq
theorem pats_bad {x : RecX} {k : Nat} {p : PatchX} (hp : x.patches[k]? = some p) (hr : PatchP.right p = false) : right x = false := right_no x fun h => by
  have := h.2.2.2.1 k p (List.getElem?_eq_some_iff.1 hp).1 hp
  rw [PatchP.right_yes p this] at hr
  cases hr
/-- an undo that may be and does nothing is none -/
theorem act_zero (u : Undo) (h : UndoP.right u = true) : UndoP.same u UndoP.none = decide (u.act = 0) := by
  by_cases h0 : u.act = 0
  · unfold UndoP.right at h
    rw [if_pos h0] at h
    rw [h]; simpa using h0
  · have : UndoP.same u UndoP.none = false := by
      unfold UndoP.same
      have : (u.act == UndoP.none.act) = false := by
        show (u.act == 0) = false
        simpa using h0
      rw [this]; rfl
    rw [this]; simpa using h0
noncomputable def samePats (a b : List PatchX) : Bool := @decide (a = b) (Classical.propDecidable _)
noncomputable def same (a b : RecX) : Bool := (a.kind == b.kind) && ((a.txn == b.txn) && ((a.prev == b.prev) && ((a.next == b.next) && (samePats a.patches b.patches && UndoP.same a.undo b.undo))))
theorem samePats_len {l m : List PatchX} (h : l.length ≠ m.length) : samePats l m = false := by
  unfold samePats
  simp only [decide_eq_false_iff_not]
  intro e; exact h (by rw [e])
theorem samePats_at {l m : List PatchX} {k : Nat} {r q : PatchX} (hr : l[k]? = some r) (hq : m[k]? = some q) (h : PatchP.same r q = false) : samePats l m = false := by
  unfold samePats
  simp only [decide_eq_false_iff_not]
  intro e
  rw [e, hq] at hr
  cases hr
  unfold PatchP.same at h
  simp at h
theorem samePats_all {l m : List PatchX} {k : Nat} (h : l.take k = m.take k) (h1 : l.length = k) (h2 : m.length = k) : samePats l m = true := by
  unfold samePats
  simp only [decide_eq_true_eq]
  rwa [List.take_of_length_le (by omega), List.take_of_length_le (by omega)] at h
theorem take_same {l m : List PatchX} {k : Nat} {r q : PatchX} (h : l.take k = m.take k) (hr : l[k]? = some r) (hq : m[k]? = some q) (h1 : PatchP.same r q = true) : l.take (k + 1) = m.take (k + 1) := by
  obtain ⟨i1, e1⟩ := List.getElem?_eq_some_iff.1 hr
  obtain ⟨i2, e2⟩ := List.getElem?_eq_some_iff.1 hq
  rw [List.take_succ_eq_append_getElem i1, List.take_succ_eq_append_getElem i2, h, e1, e2]
  unfold PatchP.same at h1
  simp only [decide_eq_true_eq] at h1
  rw [h1]
/-- the bytes -/
noncomputable def patsB (l : List PatchX) : List UInt8 := l.flatMap PatchP.bytes
noncomputable def inner (x : RecX) : List UInt8 := BeP.parts 1 x.kind ++ (BeP.parts 8 x.txn ++ (BeP.parts 8 x.prev ++ (BeP.parts 8 x.next ++ (BeP.parts 1 (x.patches.length : Nat) ++ (patsB x.patches ++ UndoP.bytes x.undo)))))
noncomputable def body (x : RecX) : List UInt8 := BeP.parts 4 ((CrcP.sum (inner x) : Nat) : Int) ++ inner x
noncomputable def fits (x : RecX) : Bool := right x && decide ((body x).length ≤ 65535)
noncomputable def bytes (x : RecX) : List UInt8 := if fits x then BeP.parts 2 ((body x).length : Nat) ++ body x else []
theorem patsB_snoc (l : List PatchX) (k : Nat) (p : PatchX) (h : l[k]? = some p) : patsB (l.take (k + 1)) = patsB (l.take k) ++ PatchP.bytes p := by
  obtain ⟨hk, e⟩ := List.getElem?_eq_some_iff.1 h
  rw [List.take_succ_eq_append_getElem hk, e]
  simp [patsB]
theorem patsB_drop (l : List PatchX) (k : Nat) (p : PatchX) (h : l[k]? = some p) : patsB (l.drop k) = PatchP.bytes p ++ patsB (l.drop (k + 1)) := by
  obtain ⟨hk, e⟩ := List.getElem?_eq_some_iff.1 h
  rw [List.drop_eq_getElem_cons hk, e]
  simp [patsB]
theorem bytes_right {p : PatchX} (h : PatchP.Right p) : PatchP.bytes p = PatchP.body p := by
  unfold PatchP.bytes; rw [if_pos (PatchP.right_yes p h)]
theorem patch_le (p : PatchX) : (PatchP.bytes p).length ≤ 252005 := by
  unfold PatchP.bytes
  split
  · rename_i h; exact PatchP.body_le ((PatchP.right_iff p).1 h)
  · simp
theorem patsB_le (l : List PatchX) : (patsB l).length ≤ l.length * 252005 := by
  induction l with
  | nil => simp [patsB]
  | cons p l ih =>
    have h1 := patch_le p
    have : patsB (p :: l) = PatchP.bytes p ++ patsB l := by simp [patsB]
    rw [this, List.length_append, List.length_cons, Nat.add_mul]
    omega
theorem inner_length (x : RecX) : (inner x).length = 26 + (patsB x.patches).length + (UndoP.bytes x.undo).length := by
  simp [inner, BeP.parts_length]; omega
theorem body_length (x : RecX) : (body x).length = 30 + (patsB x.patches).length + (UndoP.bytes x.undo).length := by
  unfold body
  rw [List.length_append, BeP.parts_length, inner_length]; omega
theorem bytes_length (x : RecX) (h : fits x = true) : (bytes x).length = 2 + (body x).length := by
  unfold bytes
  rw [if_pos h, List.length_append, BeP.parts_length]
theorem fits_right {x : RecX} (h : fits x = true) : Right x := by
  unfold fits at h
  simp only [Bool.and_eq_true] at h
  exact (right_iff x).1 h.1
theorem fits_len {x : RecX} (h : fits x = true) : (body x).length ≤ 65535 := by
  unfold fits at h
  simp only [Bool.and_eq_true, decide_eq_true_eq] at h
  exact h.2
end RecP
end Go.Proofs.Ytiokcemlfdonnaa
