/-
  Plain words on numbers as bytes, the greatest part ahead. No program in sight.
-/
import Derived.Laws.BitsAllLaws
namespace Go.Proofs.Ytldgdgfplgdipaa.BeP

/-- a number of 64 bits, as a natural number -/
def u64 (m : Int) : Nat := (m % 18446744073709551616).toNat
/-- byte k of the lowest width bytes of m -/
def part (width : Nat) (m : Int) (k : Nat) : UInt8 := UInt8.ofNat (u64 m / 2 ^ (8 * (width - 1 - k)))
/-- the lowest width bytes of m, the greatest one ahead -/
def parts (width : Nat) (m : Int) : List UInt8 := (List.range width).map (part width m)
theorem parts_length (width : Nat) (m : Int) : (parts width m).length = width := by simp [parts]
theorem parts_take (width : Nat) (m : Int) (k : Nat) (h : k < width) : (parts width m).take (k + 1) = (parts width m).take k ++ [part width m k] := by
  have hl : k < (parts width m).length := by rw [parts_length]; exact h
  rw [List.take_succ_eq_append_getElem hl]
  simp [parts]
theorem parts_all (width : Nat) (m : Int) (k : Nat) (h : ¬ k < width) : (parts width m).take k = parts width m := List.take_of_length_le (by rw [parts_length]; omega)
theorem u64_wrap (m : Int) : IntKind.u64.wrap m = (u64 m : Int) := by
  simp only [IntKind.wrap, IntKind.bits, IntKind.signed, u64]
  simp
  omega
/-- as the walk spells it -/
theorem part_walk (width : Nat) (m : Int) (k : Nat) (h : k < width) : IntKind.u64.wrap m / 2 ^ (8 * (width - 1) - 8 * k) % 256 = ((part width m k).toNat : Int) := by
  have e : 8 * (width - 1) - 8 * k = 8 * (width - 1 - k) := by omega
  rw [u64_wrap, e, part]
  generalize 8 * (width - 1 - k) = j
  generalize u64 m = u
  have h1 : (UInt8.ofNat (u / 2 ^ j)).toNat = u / 2 ^ j % 256 := by simp
  rw [h1]
  simp
end Go.Proofs.Ytldgdgfplgdipaa.BeP
