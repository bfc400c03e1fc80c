/-
  Layouts as plain data: which one stands in a page; what a reader reads of a part of a list. No program in sight.
-/
import Derived.Test.YtjengjbkdflapaaPNum
import Derived.Test.YtjengjbkdflapaaReader
namespace Go.Proofs.Ytjengjbkdflapaa.NumP
theorem num_inj : ∀ (n : Nat) (x y : List UInt8), x.length = n → y.length = n → num x = num y → x = y
  | 0, x, y, hx, hy, _ => by
    rw [List.eq_nil_of_length_eq_zero hx, List.eq_nil_of_length_eq_zero hy]
  | n + 1, x, y, hx, hy, h => by
    rcases List.eq_nil_or_concat x with rfl | ⟨a, c, rfl⟩
    · simp at hx
    rcases List.eq_nil_or_concat y with rfl | ⟨b, d, rfl⟩
    · simp at hy
    simp only [List.concat_eq_append, List.length_append, List.length_cons, List.length_nil] at hx hy h ⊢
    rw [num_snoc, num_snoc] at h
    have hc := c.toNat_lt
    have hd := d.toNat_lt
    have h1 : num a = num b := by omega
    have h2 : c.toNat = d.toNat := by omega
    rw [num_inj n a b (by omega) (by omega) h1, UInt8.toNat_inj.1 h2]
theorem u64_toI (u : Nat) (h : u < 18446744073709551616) : BeP.u64 (toI u) = u := by
  unfold BeP.u64 toI
  split <;> omega
theorem parts_back (x : List UInt8) (h : x.length = 8) : BeP.parts 8 (toI (num x)) = x :=
  num_inj 8 _ _ (BeP.parts_length _ _) h (by rw [num_parts8, u64_toI _ (num_lt8 x (by omega))])
theorem parts_val (l : List UInt8) (a : Nat) (h : a + 8 ≤ l.length) : BeP.parts 8 (val l a 8) = (l.drop a).take 8 := by
  rw [val, if_pos h, parts_back _ (by simp; omega)]
theorem val_nonneg (l : List UInt8) (a w : Nat) (h : w ≤ 7) : 0 ≤ val l a w ∧ val l a w < 72057594037927936 := by
  unfold val
  split
  · have := num_lt7 ((l.drop a).take w) (by simp; omega)
    rw [toI_small _ (by omega)]
    omega
  · omega
theorem val_small (l : List UInt8) (a w : Nat) (h : w ≤ 2) : 0 ≤ val l a w ∧ val l a w ≤ 65535 := by
  unfold val
  split
  · have h1 := num_lt ((l.drop a).take w)
    have h2 : ((l.drop a).take w).length = w := by simp; omega
    rw [h2] at h1
    have h3 : 256 ^ w ≤ 256 ^ 2 := Nat.pow_le_pow_right (by omega) h
    rw [toI_small _ (by omega)]
    omega
  · omega
theorem val_byte (l : List UInt8) (a : Nat) (h : a < l.length) : val l a 1 = (l[a].toNat : Int) := by
  unfold val
  rw [if_pos (by omega), List.drop_eq_getElem_cons h, List.take_succ_cons, List.take_zero]
  have := l[a].toNat_lt
  rw [toI_small _ (by simp [num, nstep]; omega)]
  simp [num, nstep]
end Go.Proofs.Ytjengjbkdflapaa.NumP
namespace Go.Proofs.Ytjengjbkdflapaa.RdP
theorem val_part (l : List UInt8) (a k w : Nat) (hl : a + k ≤ l.length) (hw : w ≤ k) : NumP.val ((l.drop a).take k) 0 w = NumP.val l a w := by
  unfold NumP.val
  rw [if_pos (by simp; omega), if_pos (by omega), List.drop_zero, List.take_take, Nat.min_eq_left hw]
theorem numV_part (l : List UInt8) (a k w : Nat) (hl : a + k ≤ l.length) (hw : w ≤ k) : numV ((l.drop a).take k) false w = NumP.val l a w := val_part l a k w hl hw
theorem numL_part (l : List UInt8) (a k w : Nat) (hl : a + k ≤ l.length) (hw : w ≤ k) : numL ((l.drop a).take k) false w = (l.drop (a + w)).take (k - w) := by
  unfold numL
  rw [if_neg (by simp), if_pos (by simp; omega), List.drop_take, List.drop_drop]
theorem numB_part (l : List UInt8) (a k w : Nat) (hl : a + k ≤ l.length) (hw : w ≤ k) : numB ((l.drop a).take k) false w = false := by
  unfold numB
  simp
  omega
end Go.Proofs.Ytjengjbkdflapaa.RdP
namespace Go.Proofs.Ytjengjbkdflapaa.MetaP
theorem wrap_id (x : Int) (h1 : -9223372036854775808 ≤ x) (h2 : x ≤ 9223372036854775807) : IntKind.i64.wrap x = x := by
  simp only [IntKind.wrap, IntKind.bits, IntKind.signed]
  simp
  omega
def within (n least most : Int) : Bool := decide (least ≤ n) && decide (n ≤ most)
/-- may the layout be? -/
def right (b p f c l : Int) : Bool := within b 1 16 && (within p (b + 1) 1024 && (within f 4 64 && (within c 1 16 && within l 4 1024)))
def check (b p f c l : Int) : Int := if right b p f c l then 0 else 1
theorem within_iff (n a b : Int) : within n a b = true ↔ a ≤ n ∧ n ≤ b := by simp [within]
theorem check_ne (b p f c l : Int) : (check b p f c l != 0) = !right b p f c l := by
  unfold check
  cases right b p f c l <;> rfl
/-- what stands in a page is no layout -/
def bad (x : List UInt8) : Bool := (((NumP.val x 12 2 != 0) || (NumP.val x 16 1 != 0)) || (check (NumP.val x 17 1) (NumP.val x 18 2) (NumP.val x 20 1) (NumP.val x 21 1) (NumP.val x 22 2) != 0)) || !within (NumP.val x 14 2) (NumP.val x 17 1 + 1) (NumP.val x 18 2)
def cb (x : List UInt8) : Int := if bad x then 0 else NumP.val x 17 1
def cp (x : List UInt8) : Int := if bad x then 0 else NumP.val x 18 2
def cf (x : List UInt8) : Int := if bad x then 0 else NumP.val x 20 1
def cc (x : List UInt8) : Int := if bad x then 0 else NumP.val x 21 1
def cl (x : List UInt8) : Int := if bad x then 0 else NumP.val x 22 2
def used (x : List UInt8) : Int := if bad x then 0 else NumP.val x 14 2
def err (x : List UInt8) : Int := if bad x then 14 else 0
end Go.Proofs.Ytjengjbkdflapaa.MetaP
