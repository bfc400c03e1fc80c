/-
  Plain words on the number that bytes make, the greatest part ahead. No program in sight.
-/
import Derived.Test.YtldgdgfplgdipaaPTypes
import Derived.Test.YtldgdgfplgdipaaPBe
namespace Go.Proofs.Ytldgdgfplgdipaa.NumP

def nstep (n : Nat) (c : UInt8) : Nat := n * 256 + c.toNat
/-- the number of bytes -/
def num (l : List UInt8) : Nat := l.foldl nstep 0
/-- a number of 64 bits without a sign, as one with a sign -/
def toI (u : Nat) : Int := if u < 9223372036854775808 then (u : Int) else (u : Int) - 18446744073709551616
/-- are there width bytes from at on? -/
def there (l : List UInt8) (at_ width : Nat) : Bool := decide (at_ + width ≤ l.length)
/-- their number, or 0 -/
def val (l : List UInt8) (at_ width : Nat) : Int := if at_ + width ≤ l.length then toI (num ((l.drop at_).take width)) else 0

theorem num_snoc (l : List UInt8) (c : UInt8) : num (l ++ [c]) = num l * 256 + c.toNat := by simp [num, nstep]
theorem fold_lt (l : List UInt8) (n : Nat) : l.foldl nstep n < (n + 1) * 256 ^ l.length := by
  induction l generalizing n with
  | nil => simp
  | cons c l ih =>
    have h1 := ih (nstep n c)
    have hc := c.toNat_lt
    have h2 : (nstep n c + 1) * 256 ^ l.length ≤ ((n + 1) * 256) * 256 ^ l.length := Nat.mul_le_mul_right _ (by unfold nstep; omega)
    have h3 : (n + 1) * 256 ^ (l.length + 1) = ((n + 1) * 256) * 256 ^ l.length := by rw [Nat.pow_succ, Nat.mul_assoc, Nat.mul_comm (256 ^ l.length)]
    show l.foldl nstep (nstep n c) < (n + 1) * 256 ^ (l.length + 1)
    rw [h3]
    omega
theorem num_lt (l : List UInt8) : num l < 256 ^ l.length := by
  have := fold_lt l 0
  simpa [num] using this
theorem num_lt8 (l : List UInt8) (h : l.length ≤ 8) : num l < 18446744073709551616 := by
  have h1 := num_lt l
  have h2 : 256 ^ l.length ≤ 256 ^ 8 := Nat.pow_le_pow_right (by decide) h
  have h3 : (256 : Nat) ^ 8 = 18446744073709551616 := by decide
  omega
theorem num_lt7 (l : List UInt8) (h : l.length ≤ 7) : num l < 72057594037927936 := by
  have h1 := num_lt l
  have h2 : 256 ^ l.length ≤ 256 ^ 7 := Nat.pow_le_pow_right (by decide) h
  have h3 : (256 : Nat) ^ 7 = 72057594037927936 := by decide
  omega
theorem toI_in (u : Nat) (h : u < 18446744073709551616) : In64 (toI u) := by
  unfold toI In64
  split <;> omega
theorem toI_small (u : Nat) (h : u < 9223372036854775808) : toI u = (u : Int) := by simp [toI, h]
theorem toI_u64 (m : Int) (h : In64 m) : toI (BeP.u64 m) = m := by
  unfold In64 at h
  unfold toI BeP.u64
  split <;> omega
theorem u64_lt (m : Int) : BeP.u64 m < 18446744073709551616 := by unfold BeP.u64; omega

theorem part_toNat (width : Nat) (m : Int) (k : Nat) : (BeP.part width m k).toNat = BeP.u64 m / 256 ^ (width - 1 - k) % 256 := by
  unfold BeP.part
  have : (2 : Nat) ^ (8 * (width - 1 - k)) = 256 ^ (width - 1 - k) := by rw [Nat.pow_mul]
  rw [this]
  simp
theorem num_parts_take (width : Nat) (m : Int) (k : Nat) (h : k ≤ width) : num ((BeP.parts width m).take k) = BeP.u64 m / 256 ^ (width - k) % 256 ^ k := by
  induction k with
  | zero => simp [num, Nat.mod_one]
  | succ k ih =>
    rw [BeP.parts_take width m k (by omega), num_snoc, ih (by omega), part_toNat]
    generalize BeP.u64 m = u
    have e1 : width - k = (width - 1 - k) + 1 := by omega
    have e2 : width - (k + 1) = width - 1 - k := by omega
    rw [e1, e2, Nat.pow_succ 256 (width - 1 - k), ← Nat.div_div_eq_div_mul]
    generalize u / 256 ^ (width - 1 - k) = q
    rw [Nat.pow_succ, Nat.mul_comm (256 ^ k) 256, Nat.mod_mul]
    omega
theorem num_parts (width : Nat) (m : Int) : num (BeP.parts width m) = BeP.u64 m % 256 ^ width := by
  have := num_parts_take width m width (Nat.le_refl _)
  rw [List.take_of_length_le (by rw [BeP.parts_length]; exact Nat.le_refl _)] at this
  simpa using this
theorem num_parts8 (m : Int) : num (BeP.parts 8 m) = BeP.u64 m := by
  rw [num_parts]
  exact Nat.mod_eq_of_lt (u64_lt m)
theorem val_parts8 (pre post : List UInt8) (m : Int) (h : In64 m) : val (pre ++ (BeP.parts 8 m ++ post)) pre.length 8 = m := by
  unfold val
  have hl := BeP.parts_length 8 m
  rw [if_pos (by simp [hl]), List.drop_left, List.take_append_of_le_length (by omega), List.take_of_length_le (by omega), num_parts8, toI_u64 m h]
theorem val_one (pre post : List UInt8) (c : UInt8) : val (pre ++ c :: post) pre.length 1 = (c.toNat : Int) := by
  unfold val
  rw [if_pos (by simp), List.drop_left]
  have := c.toNat_lt
  simp [num, nstep, toI]
  omega
theorem there_iff (l : List UInt8) (a w : Nat) : there l a w = true ↔ a + w ≤ l.length := by simp [there]
end Go.Proofs.Ytldgdgfplgdipaa.NumP
