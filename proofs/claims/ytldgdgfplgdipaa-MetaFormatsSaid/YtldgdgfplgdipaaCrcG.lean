/-
  Texts of one claim, joined: PCrcT, Crc, Crc2, Seal, RefBytesO, RefCrc, RefPage2.
-/
import Derived.Test.YtldgdgfplgdipaaPCrc
import Derived.Test.YtldgdgfplgdipaaArrT
import Derived.Test.YtldgdgfplgdipaaNum
import Derived.Laws.BitsAllLaws
import Derived.IntWalk
import Derived.Test.YtldgdgfplgdipaaCut
import Derived.Test.YtldgdgfplgdipaaApp
import Derived.Test.YtldgdgfplgdipaaRefBytes
import Derived.Test.YtldgdgfplgdipaaPage
import Derived.Test.YtldgdgfplgdipaaPPage
import Derived.Test.YtldgdgfplgdipaaRegS
import Derived.Test.YtldgdgfplgdipaaProg
import Derived.Test.YtldgdgfplgdipaaBe
import Derived.Test.YtldgdgfplgdipaaPNum
import Derived.Test.YtldgdgfplgdipaaSame
import Derived.Test.YtldgdgfplgdipaaRefGG
namespace Go.Proofs.Ytldgdgfplgdipaa.CrcP

/-- the table when all multiples of step are there -/
def headf (step : Nat) (i : Nat) : Nat := if i % step = 0 then step8 i else 0
/-- the table when the odd multiples of step below a are there, too -/
def tabf (step a : Nat) (i : Nat) : Nat := if i % (2 * step) = 0 then step8 i else if i % step = 0 ∧ i < a then step8 i else 0
theorem tabf_start (step : Nat) (i : Nat) : tabf step 0 i = headf (2 * step) i := by
  unfold tabf headf
  split
  · rfl
  · rw [if_neg (by omega)]
theorem step8_zero : step8 0 = 0 := by decide
theorem headf_zero (i : Nat) (h : i < 256) : headf 256 i = 0 := by
  unfold headf
  by_cases h0 : i = 0
  · subst h0; decide
  · rw [if_neg (by omega)]
theorem headf_one (i : Nat) : headf 1 i = step8 i := by
  unfold headf
  rw [if_pos (by omega)]
theorem tabf_end128 (i : Nat) (h : i < 256) : tabf 128 256 i = headf 128 i := by
  unfold tabf headf
  by_cases h1 : i % (2 * 128) = 0
  · rw [if_pos h1, if_pos (by omega)]
  · rw [if_neg h1]
    by_cases h2 : i % 128 = 0
    · rw [if_pos ⟨h2, h⟩, if_pos h2]
    · rw [if_neg (by omega), if_neg h2]
theorem tabf_next128 (a i : Nat) (h : a % (2 * 128) = 0) : (if i = a + 128 then step8 (a + 128) else tabf 128 a i) = tabf 128 (a + 2 * 128) i := by
  unfold tabf
  by_cases h1 : i = a + 128
  · subst h1
    rw [if_pos rfl, if_neg (by omega), if_pos (by omega)]
  · rw [if_neg h1]
    by_cases h2 : i % (2 * 128) = 0
    · rw [if_pos h2, if_pos h2]
    · rw [if_neg h2, if_neg h2]
      by_cases h3 : i % 128 = 0 ∧ i < a
      · rw [if_pos h3, if_pos (by omega)]
      · rw [if_neg h3, if_neg (by omega)]
theorem tabf_at128 (a : Nat) (h : a % (2 * 128) = 0) : tabf 128 a a = step8 a := by
  unfold tabf
  rw [if_pos h]
theorem step8_at128 (a : Nat) (h : a % (2 * 128) = 0) : step8 a ^^^ 2197175160 = step8 (a + 128) := by
  have hx : a + 128 = a ^^^ 128 := by
    have h2 : (2 : Nat) ^ 8 = 2 * 128 := by decide
    obtain ⟨q, rfl⟩ : ∃ q, a = 2 ^ 8 * q := ⟨a / (2 * 128), by rw [h2]; omega⟩
    apply Nat.eq_of_testBit_eq
    intro i
    rw [Nat.testBit_two_pow_mul_add _ (by decide), Nat.testBit_xor, Nat.testBit_two_pow_mul]
    by_cases hi : i < 8
    · have h8 : ¬ 8 ≤ i := by omega
      simp [hi, h8]
    · have h0 : Nat.testBit 128 i = false := Nat.testBit_lt_two_pow (Nat.lt_of_lt_of_le (by decide : 128 < 2 ^ 8) (Nat.pow_le_pow_right (by decide) (by omega)))
      have h8 : 8 ≤ i := by omega
      simp [hi, h0, h8]
  rw [hx, step8_xor, show step8 128 = 2197175160 by decide +kernel]
theorem tabf_end64 (i : Nat) (h : i < 256) : tabf 64 256 i = headf 64 i := by
  unfold tabf headf
  by_cases h1 : i % (2 * 64) = 0
  · rw [if_pos h1, if_pos (by omega)]
  · rw [if_neg h1]
    by_cases h2 : i % 64 = 0
    · rw [if_pos ⟨h2, h⟩, if_pos h2]
    · rw [if_neg (by omega), if_neg h2]
theorem tabf_next64 (a i : Nat) (h : a % (2 * 64) = 0) : (if i = a + 64 then step8 (a + 64) else tabf 64 a i) = tabf 64 (a + 2 * 64) i := by
  unfold tabf
  by_cases h1 : i = a + 64
  · subst h1
    rw [if_pos rfl, if_neg (by omega), if_pos (by omega)]
  · rw [if_neg h1]
    by_cases h2 : i % (2 * 64) = 0
    · rw [if_pos h2, if_pos h2]
    · rw [if_neg h2, if_neg h2]
      by_cases h3 : i % 64 = 0 ∧ i < a
      · rw [if_pos h3, if_pos (by omega)]
      · rw [if_neg h3, if_neg (by omega)]
theorem tabf_at64 (a : Nat) (h : a % (2 * 64) = 0) : tabf 64 a a = step8 a := by
  unfold tabf
  rw [if_pos h]
theorem step8_at64 (a : Nat) (h : a % (2 * 64) = 0) : step8 a ^^^ 1098587580 = step8 (a + 64) := by
  have hx : a + 64 = a ^^^ 64 := by
    have h2 : (2 : Nat) ^ 7 = 2 * 64 := by decide
    obtain ⟨q, rfl⟩ : ∃ q, a = 2 ^ 7 * q := ⟨a / (2 * 64), by rw [h2]; omega⟩
    apply Nat.eq_of_testBit_eq
    intro i
    rw [Nat.testBit_two_pow_mul_add _ (by decide), Nat.testBit_xor, Nat.testBit_two_pow_mul]
    by_cases hi : i < 7
    · have h8 : ¬ 7 ≤ i := by omega
      simp [hi, h8]
    · have h0 : Nat.testBit 64 i = false := Nat.testBit_lt_two_pow (Nat.lt_of_lt_of_le (by decide : 64 < 2 ^ 7) (Nat.pow_le_pow_right (by decide) (by omega)))
      have h8 : 7 ≤ i := by omega
      simp [hi, h0, h8]
  rw [hx, step8_xor, show step8 64 = 1098587580 by decide +kernel]
theorem tabf_end32 (i : Nat) (h : i < 256) : tabf 32 256 i = headf 32 i := by
  unfold tabf headf
  by_cases h1 : i % (2 * 32) = 0
  · rw [if_pos h1, if_pos (by omega)]
  · rw [if_neg h1]
    by_cases h2 : i % 32 = 0
    · rw [if_pos ⟨h2, h⟩, if_pos h2]
    · rw [if_neg (by omega), if_neg h2]
theorem tabf_next32 (a i : Nat) (h : a % (2 * 32) = 0) : (if i = a + 32 then step8 (a + 32) else tabf 32 a i) = tabf 32 (a + 2 * 32) i := by
  unfold tabf
  by_cases h1 : i = a + 32
  · subst h1
    rw [if_pos rfl, if_neg (by omega), if_pos (by omega)]
  · rw [if_neg h1]
    by_cases h2 : i % (2 * 32) = 0
    · rw [if_pos h2, if_pos h2]
    · rw [if_neg h2, if_neg h2]
      by_cases h3 : i % 32 = 0 ∧ i < a
      · rw [if_pos h3, if_pos (by omega)]
      · rw [if_neg h3, if_neg (by omega)]
theorem tabf_at32 (a : Nat) (h : a % (2 * 32) = 0) : tabf 32 a a = step8 a := by
  unfold tabf
  rw [if_pos h]
theorem step8_at32 (a : Nat) (h : a % (2 * 32) = 0) : step8 a ^^^ 549293790 = step8 (a + 32) := by
  have hx : a + 32 = a ^^^ 32 := by
    have h2 : (2 : Nat) ^ 6 = 2 * 32 := by decide
    obtain ⟨q, rfl⟩ : ∃ q, a = 2 ^ 6 * q := ⟨a / (2 * 32), by rw [h2]; omega⟩
    apply Nat.eq_of_testBit_eq
    intro i
    rw [Nat.testBit_two_pow_mul_add _ (by decide), Nat.testBit_xor, Nat.testBit_two_pow_mul]
    by_cases hi : i < 6
    · have h8 : ¬ 6 ≤ i := by omega
      simp [hi, h8]
    · have h0 : Nat.testBit 32 i = false := Nat.testBit_lt_two_pow (Nat.lt_of_lt_of_le (by decide : 32 < 2 ^ 6) (Nat.pow_le_pow_right (by decide) (by omega)))
      have h8 : 6 ≤ i := by omega
      simp [hi, h0, h8]
  rw [hx, step8_xor, show step8 32 = 549293790 by decide +kernel]
theorem tabf_end16 (i : Nat) (h : i < 256) : tabf 16 256 i = headf 16 i := by
  unfold tabf headf
  by_cases h1 : i % (2 * 16) = 0
  · rw [if_pos h1, if_pos (by omega)]
  · rw [if_neg h1]
    by_cases h2 : i % 16 = 0
    · rw [if_pos ⟨h2, h⟩, if_pos h2]
    · rw [if_neg (by omega), if_neg h2]
theorem tabf_next16 (a i : Nat) (h : a % (2 * 16) = 0) : (if i = a + 16 then step8 (a + 16) else tabf 16 a i) = tabf 16 (a + 2 * 16) i := by
  unfold tabf
  by_cases h1 : i = a + 16
  · subst h1
    rw [if_pos rfl, if_neg (by omega), if_pos (by omega)]
  · rw [if_neg h1]
    by_cases h2 : i % (2 * 16) = 0
    · rw [if_pos h2, if_pos h2]
    · rw [if_neg h2, if_neg h2]
      by_cases h3 : i % 16 = 0 ∧ i < a
      · rw [if_pos h3, if_pos (by omega)]
      · rw [if_neg h3, if_neg (by omega)]
theorem tabf_at16 (a : Nat) (h : a % (2 * 16) = 0) : tabf 16 a a = step8 a := by
  unfold tabf
  rw [if_pos h]
theorem step8_at16 (a : Nat) (h : a % (2 * 16) = 0) : step8 a ^^^ 274646895 = step8 (a + 16) := by
  have hx : a + 16 = a ^^^ 16 := by
    have h2 : (2 : Nat) ^ 5 = 2 * 16 := by decide
    obtain ⟨q, rfl⟩ : ∃ q, a = 2 ^ 5 * q := ⟨a / (2 * 16), by rw [h2]; omega⟩
    apply Nat.eq_of_testBit_eq
    intro i
    rw [Nat.testBit_two_pow_mul_add _ (by decide), Nat.testBit_xor, Nat.testBit_two_pow_mul]
    by_cases hi : i < 5
    · have h8 : ¬ 5 ≤ i := by omega
      simp [hi, h8]
    · have h0 : Nat.testBit 16 i = false := Nat.testBit_lt_two_pow (Nat.lt_of_lt_of_le (by decide : 16 < 2 ^ 5) (Nat.pow_le_pow_right (by decide) (by omega)))
      have h8 : 5 ≤ i := by omega
      simp [hi, h0, h8]
  rw [hx, step8_xor, show step8 16 = 274646895 by decide +kernel]
theorem tabf_end8 (i : Nat) (h : i < 256) : tabf 8 256 i = headf 8 i := by
  unfold tabf headf
  by_cases h1 : i % (2 * 8) = 0
  · rw [if_pos h1, if_pos (by omega)]
  · rw [if_neg h1]
    by_cases h2 : i % 8 = 0
    · rw [if_pos ⟨h2, h⟩, if_pos h2]
    · rw [if_neg (by omega), if_neg h2]
theorem tabf_next8 (a i : Nat) (h : a % (2 * 8) = 0) : (if i = a + 8 then step8 (a + 8) else tabf 8 a i) = tabf 8 (a + 2 * 8) i := by
  unfold tabf
  by_cases h1 : i = a + 8
  · subst h1
    rw [if_pos rfl, if_neg (by omega), if_pos (by omega)]
  · rw [if_neg h1]
    by_cases h2 : i % (2 * 8) = 0
    · rw [if_pos h2, if_pos h2]
    · rw [if_neg h2, if_neg h2]
      by_cases h3 : i % 8 = 0 ∧ i < a
      · rw [if_pos h3, if_pos (by omega)]
      · rw [if_neg h3, if_neg (by omega)]
theorem tabf_at8 (a : Nat) (h : a % (2 * 8) = 0) : tabf 8 a a = step8 a := by
  unfold tabf
  rw [if_pos h]
theorem step8_at8 (a : Nat) (h : a % (2 * 8) = 0) : step8 a ^^^ 2329499855 = step8 (a + 8) := by
  have hx : a + 8 = a ^^^ 8 := by
    have h2 : (2 : Nat) ^ 4 = 2 * 8 := by decide
    obtain ⟨q, rfl⟩ : ∃ q, a = 2 ^ 4 * q := ⟨a / (2 * 8), by rw [h2]; omega⟩
    apply Nat.eq_of_testBit_eq
    intro i
    rw [Nat.testBit_two_pow_mul_add _ (by decide), Nat.testBit_xor, Nat.testBit_two_pow_mul]
    by_cases hi : i < 4
    · have h8 : ¬ 4 ≤ i := by omega
      simp [hi, h8]
    · have h0 : Nat.testBit 8 i = false := Nat.testBit_lt_two_pow (Nat.lt_of_lt_of_le (by decide : 8 < 2 ^ 4) (Nat.pow_le_pow_right (by decide) (by omega)))
      have h8 : 4 ≤ i := by omega
      simp [hi, h0, h8]
  rw [hx, step8_xor, show step8 8 = 2329499855 by decide +kernel]
theorem tabf_end4 (i : Nat) (h : i < 256) : tabf 4 256 i = headf 4 i := by
  unfold tabf headf
  by_cases h1 : i % (2 * 4) = 0
  · rw [if_pos h1, if_pos (by omega)]
  · rw [if_neg h1]
    by_cases h2 : i % 4 = 0
    · rw [if_pos ⟨h2, h⟩, if_pos h2]
    · rw [if_neg (by omega), if_neg h2]
theorem tabf_next4 (a i : Nat) (h : a % (2 * 4) = 0) : (if i = a + 4 then step8 (a + 4) else tabf 4 a i) = tabf 4 (a + 2 * 4) i := by
  unfold tabf
  by_cases h1 : i = a + 4
  · subst h1
    rw [if_pos rfl, if_neg (by omega), if_pos (by omega)]
  · rw [if_neg h1]
    by_cases h2 : i % (2 * 4) = 0
    · rw [if_pos h2, if_pos h2]
    · rw [if_neg h2, if_neg h2]
      by_cases h3 : i % 4 = 0 ∧ i < a
      · rw [if_pos h3, if_pos (by omega)]
      · rw [if_neg h3, if_neg (by omega)]
theorem tabf_at4 (a : Nat) (h : a % (2 * 4) = 0) : tabf 4 a a = step8 a := by
  unfold tabf
  rw [if_pos h]
theorem step8_at4 (a : Nat) (h : a % (2 * 4) = 0) : step8 a ^^^ 3348797215 = step8 (a + 4) := by
  have hx : a + 4 = a ^^^ 4 := by
    have h2 : (2 : Nat) ^ 3 = 2 * 4 := by decide
    obtain ⟨q, rfl⟩ : ∃ q, a = 2 ^ 3 * q := ⟨a / (2 * 4), by rw [h2]; omega⟩
    apply Nat.eq_of_testBit_eq
    intro i
    rw [Nat.testBit_two_pow_mul_add _ (by decide), Nat.testBit_xor, Nat.testBit_two_pow_mul]
    by_cases hi : i < 3
    · have h8 : ¬ 3 ≤ i := by omega
      simp [hi, h8]
    · have h0 : Nat.testBit 4 i = false := Nat.testBit_lt_two_pow (Nat.lt_of_lt_of_le (by decide : 4 < 2 ^ 3) (Nat.pow_le_pow_right (by decide) (by omega)))
      have h8 : 3 ≤ i := by omega
      simp [hi, h0, h8]
  rw [hx, step8_xor, show step8 4 = 3348797215 by decide +kernel]
theorem tabf_end2 (i : Nat) (h : i < 256) : tabf 2 256 i = headf 2 i := by
  unfold tabf headf
  by_cases h1 : i % (2 * 2) = 0
  · rw [if_pos h1, if_pos (by omega)]
  · rw [if_neg h1]
    by_cases h2 : i % 2 = 0
    · rw [if_pos ⟨h2, h⟩, if_pos h2]
    · rw [if_neg (by omega), if_neg h2]
theorem tabf_next2 (a i : Nat) (h : a % (2 * 2) = 0) : (if i = a + 2 then step8 (a + 2) else tabf 2 a i) = tabf 2 (a + 2 * 2) i := by
  unfold tabf
  by_cases h1 : i = a + 2
  · subst h1
    rw [if_pos rfl, if_neg (by omega), if_pos (by omega)]
  · rw [if_neg h1]
    by_cases h2 : i % (2 * 2) = 0
    · rw [if_pos h2, if_pos h2]
    · rw [if_neg h2, if_neg h2]
      by_cases h3 : i % 2 = 0 ∧ i < a
      · rw [if_pos h3, if_pos (by omega)]
      · rw [if_neg h3, if_neg (by omega)]
theorem tabf_at2 (a : Nat) (h : a % (2 * 2) = 0) : tabf 2 a a = step8 a := by
  unfold tabf
  rw [if_pos h]
theorem step8_at2 (a : Nat) (h : a % (2 * 2) = 0) : step8 a ^^^ 3778769143 = step8 (a + 2) := by
  have hx : a + 2 = a ^^^ 2 := by
    have h2 : (2 : Nat) ^ 2 = 2 * 2 := by decide
    obtain ⟨q, rfl⟩ : ∃ q, a = 2 ^ 2 * q := ⟨a / (2 * 2), by rw [h2]; omega⟩
    apply Nat.eq_of_testBit_eq
    intro i
    rw [Nat.testBit_two_pow_mul_add _ (by decide), Nat.testBit_xor, Nat.testBit_two_pow_mul]
    by_cases hi : i < 2
    · have h8 : ¬ 2 ≤ i := by omega
      simp [hi, h8]
    · have h0 : Nat.testBit 2 i = false := Nat.testBit_lt_two_pow (Nat.lt_of_lt_of_le (by decide : 2 < 2 ^ 2) (Nat.pow_le_pow_right (by decide) (by omega)))
      have h8 : 2 ≤ i := by omega
      simp [hi, h0, h8]
  rw [hx, step8_xor, show step8 2 = 3778769143 by decide +kernel]
theorem tabf_end1 (i : Nat) (h : i < 256) : tabf 1 256 i = headf 1 i := by
  unfold tabf headf
  by_cases h1 : i % (2 * 1) = 0
  · rw [if_pos h1, if_pos (by omega)]
  · rw [if_neg h1]
    by_cases h2 : i % 1 = 0
    · rw [if_pos ⟨h2, h⟩, if_pos h2]
    · rw [if_neg (by omega), if_neg h2]
theorem tabf_next1 (a i : Nat) (h : a % (2 * 1) = 0) : (if i = a + 1 then step8 (a + 1) else tabf 1 a i) = tabf 1 (a + 2 * 1) i := by
  unfold tabf
  by_cases h1 : i = a + 1
  · subst h1
    rw [if_pos rfl, if_neg (by omega), if_pos (by omega)]
  · rw [if_neg h1]
    by_cases h2 : i % (2 * 1) = 0
    · rw [if_pos h2, if_pos h2]
    · rw [if_neg h2, if_neg h2]
      by_cases h3 : i % 1 = 0 ∧ i < a
      · rw [if_pos h3, if_pos (by omega)]
      · rw [if_neg h3, if_neg (by omega)]
theorem tabf_at1 (a : Nat) (h : a % (2 * 1) = 0) : tabf 1 a a = step8 a := by
  unfold tabf
  rw [if_pos h]
theorem step8_at1 (a : Nat) (h : a % (2 * 1) = 0) : step8 a ^^^ 4067132163 = step8 (a + 1) := by
  have hx : a + 1 = a ^^^ 1 := by
    have h2 : (2 : Nat) ^ 1 = 2 * 1 := by decide
    obtain ⟨q, rfl⟩ : ∃ q, a = 2 ^ 1 * q := ⟨a / (2 * 1), by rw [h2]; omega⟩
    apply Nat.eq_of_testBit_eq
    intro i
    rw [Nat.testBit_two_pow_mul_add _ (by decide), Nat.testBit_xor, Nat.testBit_two_pow_mul]
    by_cases hi : i < 1
    · have h8 : ¬ 1 ≤ i := by omega
      simp [hi, h8]
    · have h0 : Nat.testBit 1 i = false := Nat.testBit_lt_two_pow (Nat.lt_of_lt_of_le (by decide : 1 < 2 ^ 1) (Nat.pow_le_pow_right (by decide) (by omega)))
      have h8 : 1 ≤ i := by omega
      simp [hi, h0, h8]
  rw [hx, step8_xor, show step8 1 = 4067132163 by decide +kernel]
end Go.Proofs.Ytldgdgfplgdipaa.CrcP
namespace Go.Proofs.Ytldgdgfplgdipaa.CrcW
open Go.RowKit

/-- 256 numbers of 32 bits as cells -/
def rowU (f : Nat → Nat) : Array Value := ((List.range 256).map fun i => Value.int .u32 (f i : Int)).toArray
theorem rowU_size (f : Nat → Nat) : (rowU f).size = 256 := by simp [rowU]
theorem rowU_get (f : Nat → Nat) (i : Nat) (h : i < 256) : (rowU f)[i]? = some (.int .u32 (f i : Int)) := by simp [rowU, h]
theorem rowU_congr {f g : Nat → Nat} (h : ∀ i, i < 256 → f i = g i) : rowU f = rowU g := by
  unfold rowU
  congr 1
  refine List.map_congr_left fun i hi => ?_
  rw [h i (List.mem_range.1 hi)]
theorem rowU_set (f : Nat → Nat) (i v : Nat) : (rowU f).setIfInBounds i (.int .u32 (v : Int)) = rowU fun j => if j = i then v else f j := by
  apply Array.ext_getElem?
  intro j
  rw [Array.getElem?_setIfInBounds]
  by_cases hij : i = j
  · subst hij
    by_cases hl : i < 256
    · rw [if_pos rfl, if_pos (by rw [rowU_size]; exact hl), rowU_get _ _ hl]
      simp
    · rw [if_pos rfl, if_neg (by rw [rowU_size]; exact hl), Array.getElem?_eq_none (by rw [rowU_size]; omega)]
  · rw [if_neg hij]
    by_cases hl : j < 256
    · rw [rowU_get _ _ hl, rowU_get _ _ hl]
      simp [Ne.symm hij]
    · rw [Array.getElem?_eq_none (by rw [rowU_size]; omega), Array.getElem?_eq_none (by rw [rowU_size]; omega)]
theorem rowU_one (f : Nat → Nat) : (rowU f).all (·.oneCell') = true := by
  rw [Array.all_eq_true_iff_forall_mem]
  intro v hv
  simp [rowU] at hv
  obtain ⟨i, _, rfl⟩ := hv
  rfl
theorem zero_row : rowU (fun _ => 0) = Array.replicate 256 (.int .u32 0) := by
  apply Array.ext_getElem?
  intro j
  by_cases hl : j < 256
  · rw [rowU_get _ _ hl]
    simp [hl]
  · rw [Array.getElem?_eq_none (by rw [rowU_size]; omega), Array.getElem?_eq_none (by simp; omega)]
theorem infoT : (Try.prog.info? 111).map (fun i => (i.zero, i.size)) = some (some (.agg (Array.replicate 256 (.int .u32 0))), 256) := by kernel_rfl
theorem run_alT (w : World) : (alSem 111).run Try.prog w = .ok (.pointer (some ⟨w.heap.size, 0, none⟩)) (w.alloc (.cells (rowU fun _ => 0) 111)) := by
  obtain ⟨hz, _⟩ := zero_of_info infoT
  rw [zero_row]
  simp [alSem, Instr.alloc, hz, newVar, newRow, Value.cells]
theorem run_ldT {w : World} {b : Nat} {f : Nat → Nat} (hs : Str w b (rowU f)) : (ldSem 111 (.pointer (some ⟨b, 0, none⟩))).run Try.prog w = .ok (.agg (rowU f)) w := by
  obtain ⟨t', hg⟩ := hs
  simp only [ldSem, Instr.loadAt, Instr.sureAddr, Sem.run_bind, Sem.run_pure, Result.andThen_ok]
  exact run_loadVar_row w b t' 111 (rowU f) (0, 0) _ hg Try.underlying111 rfl (by rw [rowU_size]; exact (zero_of_info infoT).2)
theorem run_stT {w : World} {b : Nat} {g f : Nat → Nat} (hs : Str w b (rowU g)) : (stSem 111 (.pointer (some ⟨b, 0, none⟩)) (.agg (rowU f))).run Try.prog w = .ok () (w.setRow b (rowU f)) := by
  obtain ⟨t', hg⟩ := hs
  simp only [stSem, Instr.storeAt, Instr.sureAddr, Sem.run_bind, Sem.run_pure, Result.andThen_ok]
  exact run_storeVar_row w b t' 111 (rowU g) (rowU f) hg (by rw [rowU_size]; exact (zero_of_info infoT).2) (by rw [rowU_size, rowU_size]) (rowU_one f)
theorem alT_fold : Instr.alloc 111 true (.tuple #[]) = alSem 111 := rfl
theorem ldT_fold (v : Value) : Instr.loadAt 111 v = ldSem 111 v := rfl
theorem stT_fold (a v : Value) : Instr.storeAt 111 a v = stSem 111 a v := rfl
theorem results_T {fn : Func} {p : Tmp} (hr : fn.results = #[.cell p 111]) (tmps : Array Value) {w : World} {g : Nat} {f : Nat → Nat} (hs : Str w g (rowU f))
    (hp : tmps.getD p undef = .pointer (some ⟨g, 0, none⟩)) : (results fn tmps).run Try.prog w = .ok (.agg (rowU f)) w := by
  obtain ⟨t', hg⟩ := hs
  exact results_cell_row hr tmps w g t' (rowU f) (0, 0) _ hp hg Try.underlying111 rfl (by rw [rowU_size]; exact (zero_of_info infoT).2)
attribute [local go_sem ↓] alT_fold ldT_fold stT_fold

/-- the two tables while they are made -/
def Tab (w wr : World) (f : Nat → Nat) : Prop := Str wr w.heap.size (rowU fun _ => 0) ∧ Str wr (w.heap.size + 1) (rowU f) ∧ Below w.heap.size w wr
theorem Tab.congr {w wr : World} {f g : Nat → Nat} (h : Tab w wr f) (e : ∀ i, i < 256 → f i = g i) : Tab w wr g := by
  unfold Tab
  rw [← rowU_congr e]
  exact h
theorem Tab.set {w wr : World} {f : Nat → Nat} (h : Tab w wr f) (i v : Nat) : Tab w (wr.setCell ⟨w.heap.size + 1, i, none⟩ (.int .u32 (v : Int))) (fun j => if j = i then v else f j) :=
  ⟨h.1.other _ _ (by omega), by have := h.2.1.set i (.int .u32 (v : Int)); rwa [rowU_set] at this, h.2.2.setCell (by simp) _⟩

def Inner (w : World) (step : Nat) (a : Value) (wr : World) : Prop := ∃ n : Nat, n ≤ 256 ∧ n % (2 * step) = 0 ∧ a = .int .i64 (n : Int) ∧ Tab w wr (CrcP.tabf step n)
def Outer (w : World) (s i : Value) (wr : World) : Prop := ∃ k : Nat, k ≤ 8 ∧ i = .int .i64 (k : Int) ∧ s = .int .u32 ((CrcP.bits k 1 : Nat) : Int) ∧ Tab w wr (CrcP.headf (2 ^ (8 - k)))

set_option maxRecDepth 100000 in
set_option maxHeartbeats 4000000 in
theorem table_any (w : World) : Calls Try.prog 90 #[] w fun e w' => e = .returned (.agg (rowU CrcP.step8)) ∧ Below w.heap.size w w' := by
  have hal := fun W => run_alT W
  have HT : Hid (Tab w ((w.alloc (.cells (rowU fun _ => 0) 111)).alloc (.cells (rowU fun _ => 0) 111)) (CrcP.headf 256)) := Lib.hid (Tab.congr ⟨(Str.new w _ _).alloc _, (by have := Str.new (w.alloc (.cells (rowU fun _ => 0) 111)) (rowU fun _ => 0) 111; simpa using this), balloc (balloc (bsame w) _) _⟩ fun i hi => (CrcP.headf_zero i hi).symm)
  go_enter Try.func90, Try.ntmps90
  go_wp2
  clear hal
  go_loopw [2, 7] (fun s i wr => Outer w s i wr) (fun _ i _ => 8 - (intOf i).toNat)
  case atStart => exact ⟨0, by omega, rfl, rfl, HT.out⟩
  case round =>
    obtain ⟨k, hk, rfl, rfl, hT⟩ := hrel
    clear HT
    obtain ⟨wo, rfl⟩ : ∃ wo : World, wo = wr := ⟨_, rfl⟩
    have hks : k = 0 ∨ k = 1 ∨ k = 2 ∨ k = 3 ∨ k = 4 ∨ k = 5 ∨ k = 6 ∨ k = 7 ∨ k = 8 := by omega
    clear hk
    rcases hks with rfl | rfl | rfl | rfl | rfl | rfl | rfl | rfl | rfl
    · rw [show CrcP.bits 0 1 = 1 by decide +kernel]
      have hand : bits .and .u32 1 1 = 1 := by decide +kernel
      have hxor : bits .xor .u32 0 2197175160 = 2197175160 := by decide +kernel
      have HT0 : Hid (Tab w wo (CrcP.tabf 128 0)) := Lib.hid (hT.congr fun i _ => (CrcP.tabf_start 128 i).symm)
      clear hT
      go_wp2
      go_loopw [6] (fun a wr => Inner w 128 a wr) (fun a _ => 256 - (intOf a).toNat)
      case atStart => exact ⟨0, by omega, by omega, rfl, HT0.out⟩
      case round =>
        obtain ⟨a, ha, hm, rfl, hT⟩ := hrel
        by_cases hlt : a < 256
        · have hc : wr.cell? ⟨w.heap.size + 1, a, none⟩ = some (.int .u32 ((CrcP.step8 a : Nat) : Int)) := by
            rw [hT.2.1.cell, rowU_get _ _ hlt, CrcP.tabf_at128 a hm]
          have hc2 : wr.cell? ⟨w.heap.size + 1, a + 128, none⟩ = some (.int .u32 ((CrcP.tabf 128 a (a + 128) : Nat) : Int)) := by
            rw [hT.2.1.cell, rowU_get _ _ (by omega)]
          have hf := fun i => hT.2.1.frozen i
          have hx : bits .xor .u32 ((CrcP.step8 a : Nat) : Int) 2197175160 = ((CrcP.step8 (a + 128) : Nat) : Int) := by
            have := u32_xor_nat (CrcP.step8 a) 2197175160 (CrcP.step8_lt a (by omega)) (by omega)
            rw [CrcP.step8_at128 a hm] at this
            exact this
          have ht : ((a : Int) + 128).toNat = a + 128 := by omega
          have HT : Hid (Tab w (wr.setCell ⟨w.heap.size + 1, a + 128, none⟩ (.int .u32 ((CrcP.step8 (a + 128) : Nat) : Int))) (CrcP.tabf 128 (a + 2 * 128))) := Lib.hid ((hT.set (a + 128) (CrcP.step8 (a + 128))).congr fun i _ => CrcP.tabf_next128 a i hm)
          have hl1 := hT.2.1.lt
          have hb1 : (a : Int) + 128 < 256 := by omega
          clear hT
          go_wp2
          go_roundw
          case rel => exact ⟨a + 2 * 128, by omega, by omega, by go_num, HT.out⟩
          case measure => simp [intOf]; omega
        · have ha' : a = 256 := by omega
          subst ha'
          have HT : Hid (Tab w wr (CrcP.headf 128)) := Lib.hid (hT.congr fun i hi => CrcP.tabf_end128 i hi)
          clear hT
          go_wp2
          go_roundw
          case rel => exact ⟨1, by omega, by go_num, by rw [show CrcP.bits 1 1 = 2197175160 by decide +kernel]; rfl, HT.out⟩
          case measure => simp [intOf]
    · rw [show CrcP.bits 1 1 = 2197175160 by decide +kernel]
      have hand : bits .and .u32 2197175160 1 = 0 := by decide +kernel
      have HT0 : Hid (Tab w wo (CrcP.tabf 64 0)) := Lib.hid (hT.congr fun i _ => (CrcP.tabf_start 64 i).symm)
      clear hT
      go_wp2
      go_loopw [6] (fun a wr => Inner w 64 a wr) (fun a _ => 256 - (intOf a).toNat)
      case atStart => exact ⟨0, by omega, by omega, rfl, HT0.out⟩
      case round =>
        obtain ⟨a, ha, hm, rfl, hT⟩ := hrel
        by_cases hlt : a < 256
        · have hc : wr.cell? ⟨w.heap.size + 1, a, none⟩ = some (.int .u32 ((CrcP.step8 a : Nat) : Int)) := by
            rw [hT.2.1.cell, rowU_get _ _ hlt, CrcP.tabf_at64 a hm]
          have hc2 : wr.cell? ⟨w.heap.size + 1, a + 64, none⟩ = some (.int .u32 ((CrcP.tabf 64 a (a + 64) : Nat) : Int)) := by
            rw [hT.2.1.cell, rowU_get _ _ (by omega)]
          have hf := fun i => hT.2.1.frozen i
          have hx : bits .xor .u32 ((CrcP.step8 a : Nat) : Int) 1098587580 = ((CrcP.step8 (a + 64) : Nat) : Int) := by
            have := u32_xor_nat (CrcP.step8 a) 1098587580 (CrcP.step8_lt a (by omega)) (by omega)
            rw [CrcP.step8_at64 a hm] at this
            exact this
          have ht : ((a : Int) + 64).toNat = a + 64 := by omega
          have HT : Hid (Tab w (wr.setCell ⟨w.heap.size + 1, a + 64, none⟩ (.int .u32 ((CrcP.step8 (a + 64) : Nat) : Int))) (CrcP.tabf 64 (a + 2 * 64))) := Lib.hid ((hT.set (a + 64) (CrcP.step8 (a + 64))).congr fun i _ => CrcP.tabf_next64 a i hm)
          have hl1 := hT.2.1.lt
          have hb1 : (a : Int) + 64 < 256 := by omega
          clear hT
          go_wp2
          go_roundw
          case rel => exact ⟨a + 2 * 64, by omega, by omega, by go_num, HT.out⟩
          case measure => simp [intOf]; omega
        · have ha' : a = 256 := by omega
          subst ha'
          have HT : Hid (Tab w wr (CrcP.headf 64)) := Lib.hid (hT.congr fun i hi => CrcP.tabf_end64 i hi)
          clear hT
          go_wp2
          go_roundw
          case rel => exact ⟨2, by omega, by go_num, by rw [show CrcP.bits 2 1 = 1098587580 by decide +kernel]; rfl, HT.out⟩
          case measure => simp [intOf]
    · rw [show CrcP.bits 2 1 = 1098587580 by decide +kernel]
      have hand : bits .and .u32 1098587580 1 = 0 := by decide +kernel
      have HT0 : Hid (Tab w wo (CrcP.tabf 32 0)) := Lib.hid (hT.congr fun i _ => (CrcP.tabf_start 32 i).symm)
      clear hT
      go_wp2
      go_loopw [6] (fun a wr => Inner w 32 a wr) (fun a _ => 256 - (intOf a).toNat)
      case atStart => exact ⟨0, by omega, by omega, rfl, HT0.out⟩
      case round =>
        obtain ⟨a, ha, hm, rfl, hT⟩ := hrel
        by_cases hlt : a < 256
        · have hc : wr.cell? ⟨w.heap.size + 1, a, none⟩ = some (.int .u32 ((CrcP.step8 a : Nat) : Int)) := by
            rw [hT.2.1.cell, rowU_get _ _ hlt, CrcP.tabf_at32 a hm]
          have hc2 : wr.cell? ⟨w.heap.size + 1, a + 32, none⟩ = some (.int .u32 ((CrcP.tabf 32 a (a + 32) : Nat) : Int)) := by
            rw [hT.2.1.cell, rowU_get _ _ (by omega)]
          have hf := fun i => hT.2.1.frozen i
          have hx : bits .xor .u32 ((CrcP.step8 a : Nat) : Int) 549293790 = ((CrcP.step8 (a + 32) : Nat) : Int) := by
            have := u32_xor_nat (CrcP.step8 a) 549293790 (CrcP.step8_lt a (by omega)) (by omega)
            rw [CrcP.step8_at32 a hm] at this
            exact this
          have ht : ((a : Int) + 32).toNat = a + 32 := by omega
          have HT : Hid (Tab w (wr.setCell ⟨w.heap.size + 1, a + 32, none⟩ (.int .u32 ((CrcP.step8 (a + 32) : Nat) : Int))) (CrcP.tabf 32 (a + 2 * 32))) := Lib.hid ((hT.set (a + 32) (CrcP.step8 (a + 32))).congr fun i _ => CrcP.tabf_next32 a i hm)
          have hl1 := hT.2.1.lt
          have hb1 : (a : Int) + 32 < 256 := by omega
          clear hT
          go_wp2
          go_roundw
          case rel => exact ⟨a + 2 * 32, by omega, by omega, by go_num, HT.out⟩
          case measure => simp [intOf]; omega
        · have ha' : a = 256 := by omega
          subst ha'
          have HT : Hid (Tab w wr (CrcP.headf 32)) := Lib.hid (hT.congr fun i hi => CrcP.tabf_end32 i hi)
          clear hT
          go_wp2
          go_roundw
          case rel => exact ⟨3, by omega, by go_num, by rw [show CrcP.bits 3 1 = 549293790 by decide +kernel]; rfl, HT.out⟩
          case measure => simp [intOf]
    · rw [show CrcP.bits 3 1 = 549293790 by decide +kernel]
      have hand : bits .and .u32 549293790 1 = 0 := by decide +kernel
      have HT0 : Hid (Tab w wo (CrcP.tabf 16 0)) := Lib.hid (hT.congr fun i _ => (CrcP.tabf_start 16 i).symm)
      clear hT
      go_wp2
      go_loopw [6] (fun a wr => Inner w 16 a wr) (fun a _ => 256 - (intOf a).toNat)
      case atStart => exact ⟨0, by omega, by omega, rfl, HT0.out⟩
      case round =>
        obtain ⟨a, ha, hm, rfl, hT⟩ := hrel
        by_cases hlt : a < 256
        · have hc : wr.cell? ⟨w.heap.size + 1, a, none⟩ = some (.int .u32 ((CrcP.step8 a : Nat) : Int)) := by
            rw [hT.2.1.cell, rowU_get _ _ hlt, CrcP.tabf_at16 a hm]
          have hc2 : wr.cell? ⟨w.heap.size + 1, a + 16, none⟩ = some (.int .u32 ((CrcP.tabf 16 a (a + 16) : Nat) : Int)) := by
            rw [hT.2.1.cell, rowU_get _ _ (by omega)]
          have hf := fun i => hT.2.1.frozen i
          have hx : bits .xor .u32 ((CrcP.step8 a : Nat) : Int) 274646895 = ((CrcP.step8 (a + 16) : Nat) : Int) := by
            have := u32_xor_nat (CrcP.step8 a) 274646895 (CrcP.step8_lt a (by omega)) (by omega)
            rw [CrcP.step8_at16 a hm] at this
            exact this
          have ht : ((a : Int) + 16).toNat = a + 16 := by omega
          have HT : Hid (Tab w (wr.setCell ⟨w.heap.size + 1, a + 16, none⟩ (.int .u32 ((CrcP.step8 (a + 16) : Nat) : Int))) (CrcP.tabf 16 (a + 2 * 16))) := Lib.hid ((hT.set (a + 16) (CrcP.step8 (a + 16))).congr fun i _ => CrcP.tabf_next16 a i hm)
          have hl1 := hT.2.1.lt
          have hb1 : (a : Int) + 16 < 256 := by omega
          clear hT
          go_wp2
          go_roundw
          case rel => exact ⟨a + 2 * 16, by omega, by omega, by go_num, HT.out⟩
          case measure => simp [intOf]; omega
        · have ha' : a = 256 := by omega
          subst ha'
          have HT : Hid (Tab w wr (CrcP.headf 16)) := Lib.hid (hT.congr fun i hi => CrcP.tabf_end16 i hi)
          clear hT
          go_wp2
          go_roundw
          case rel => exact ⟨4, by omega, by go_num, by rw [show CrcP.bits 4 1 = 274646895 by decide +kernel]; rfl, HT.out⟩
          case measure => simp [intOf]
    · rw [show CrcP.bits 4 1 = 274646895 by decide +kernel]
      have hand : bits .and .u32 274646895 1 = 1 := by decide +kernel
      have hxor : bits .xor .u32 137323447 2197175160 = 2329499855 := by decide +kernel
      have HT0 : Hid (Tab w wo (CrcP.tabf 8 0)) := Lib.hid (hT.congr fun i _ => (CrcP.tabf_start 8 i).symm)
      clear hT
      go_wp2
      go_loopw [6] (fun a wr => Inner w 8 a wr) (fun a _ => 256 - (intOf a).toNat)
      case atStart => exact ⟨0, by omega, by omega, rfl, HT0.out⟩
      case round =>
        obtain ⟨a, ha, hm, rfl, hT⟩ := hrel
        by_cases hlt : a < 256
        · have hc : wr.cell? ⟨w.heap.size + 1, a, none⟩ = some (.int .u32 ((CrcP.step8 a : Nat) : Int)) := by
            rw [hT.2.1.cell, rowU_get _ _ hlt, CrcP.tabf_at8 a hm]
          have hc2 : wr.cell? ⟨w.heap.size + 1, a + 8, none⟩ = some (.int .u32 ((CrcP.tabf 8 a (a + 8) : Nat) : Int)) := by
            rw [hT.2.1.cell, rowU_get _ _ (by omega)]
          have hf := fun i => hT.2.1.frozen i
          have hx : bits .xor .u32 ((CrcP.step8 a : Nat) : Int) 2329499855 = ((CrcP.step8 (a + 8) : Nat) : Int) := by
            have := u32_xor_nat (CrcP.step8 a) 2329499855 (CrcP.step8_lt a (by omega)) (by omega)
            rw [CrcP.step8_at8 a hm] at this
            exact this
          have ht : ((a : Int) + 8).toNat = a + 8 := by omega
          have HT : Hid (Tab w (wr.setCell ⟨w.heap.size + 1, a + 8, none⟩ (.int .u32 ((CrcP.step8 (a + 8) : Nat) : Int))) (CrcP.tabf 8 (a + 2 * 8))) := Lib.hid ((hT.set (a + 8) (CrcP.step8 (a + 8))).congr fun i _ => CrcP.tabf_next8 a i hm)
          have hl1 := hT.2.1.lt
          have hb1 : (a : Int) + 8 < 256 := by omega
          clear hT
          go_wp2
          go_roundw
          case rel => exact ⟨a + 2 * 8, by omega, by omega, by go_num, HT.out⟩
          case measure => simp [intOf]; omega
        · have ha' : a = 256 := by omega
          subst ha'
          have HT : Hid (Tab w wr (CrcP.headf 8)) := Lib.hid (hT.congr fun i hi => CrcP.tabf_end8 i hi)
          clear hT
          go_wp2
          go_roundw
          case rel => exact ⟨5, by omega, by go_num, by rw [show CrcP.bits 5 1 = 2329499855 by decide +kernel]; rfl, HT.out⟩
          case measure => simp [intOf]
    · rw [show CrcP.bits 5 1 = 2329499855 by decide +kernel]
      have hand : bits .and .u32 2329499855 1 = 1 := by decide +kernel
      have hxor : bits .xor .u32 1164749927 2197175160 = 3348797215 := by decide +kernel
      have HT0 : Hid (Tab w wo (CrcP.tabf 4 0)) := Lib.hid (hT.congr fun i _ => (CrcP.tabf_start 4 i).symm)
      clear hT
      go_wp2
      go_loopw [6] (fun a wr => Inner w 4 a wr) (fun a _ => 256 - (intOf a).toNat)
      case atStart => exact ⟨0, by omega, by omega, rfl, HT0.out⟩
      case round =>
        obtain ⟨a, ha, hm, rfl, hT⟩ := hrel
        by_cases hlt : a < 256
        · have hc : wr.cell? ⟨w.heap.size + 1, a, none⟩ = some (.int .u32 ((CrcP.step8 a : Nat) : Int)) := by
            rw [hT.2.1.cell, rowU_get _ _ hlt, CrcP.tabf_at4 a hm]
          have hc2 : wr.cell? ⟨w.heap.size + 1, a + 4, none⟩ = some (.int .u32 ((CrcP.tabf 4 a (a + 4) : Nat) : Int)) := by
            rw [hT.2.1.cell, rowU_get _ _ (by omega)]
          have hf := fun i => hT.2.1.frozen i
          have hx : bits .xor .u32 ((CrcP.step8 a : Nat) : Int) 3348797215 = ((CrcP.step8 (a + 4) : Nat) : Int) := by
            have := u32_xor_nat (CrcP.step8 a) 3348797215 (CrcP.step8_lt a (by omega)) (by omega)
            rw [CrcP.step8_at4 a hm] at this
            exact this
          have ht : ((a : Int) + 4).toNat = a + 4 := by omega
          have HT : Hid (Tab w (wr.setCell ⟨w.heap.size + 1, a + 4, none⟩ (.int .u32 ((CrcP.step8 (a + 4) : Nat) : Int))) (CrcP.tabf 4 (a + 2 * 4))) := Lib.hid ((hT.set (a + 4) (CrcP.step8 (a + 4))).congr fun i _ => CrcP.tabf_next4 a i hm)
          have hl1 := hT.2.1.lt
          have hb1 : (a : Int) + 4 < 256 := by omega
          clear hT
          go_wp2
          go_roundw
          case rel => exact ⟨a + 2 * 4, by omega, by omega, by go_num, HT.out⟩
          case measure => simp [intOf]; omega
        · have ha' : a = 256 := by omega
          subst ha'
          have HT : Hid (Tab w wr (CrcP.headf 4)) := Lib.hid (hT.congr fun i hi => CrcP.tabf_end4 i hi)
          clear hT
          go_wp2
          go_roundw
          case rel => exact ⟨6, by omega, by go_num, by rw [show CrcP.bits 6 1 = 3348797215 by decide +kernel]; rfl, HT.out⟩
          case measure => simp [intOf]
    · rw [show CrcP.bits 6 1 = 3348797215 by decide +kernel]
      have hand : bits .and .u32 3348797215 1 = 1 := by decide +kernel
      have hxor : bits .xor .u32 1674398607 2197175160 = 3778769143 := by decide +kernel
      have HT0 : Hid (Tab w wo (CrcP.tabf 2 0)) := Lib.hid (hT.congr fun i _ => (CrcP.tabf_start 2 i).symm)
      clear hT
      go_wp2
      go_loopw [6] (fun a wr => Inner w 2 a wr) (fun a _ => 256 - (intOf a).toNat)
      case atStart => exact ⟨0, by omega, by omega, rfl, HT0.out⟩
      case round =>
        obtain ⟨a, ha, hm, rfl, hT⟩ := hrel
        by_cases hlt : a < 256
        · have hc : wr.cell? ⟨w.heap.size + 1, a, none⟩ = some (.int .u32 ((CrcP.step8 a : Nat) : Int)) := by
            rw [hT.2.1.cell, rowU_get _ _ hlt, CrcP.tabf_at2 a hm]
          have hc2 : wr.cell? ⟨w.heap.size + 1, a + 2, none⟩ = some (.int .u32 ((CrcP.tabf 2 a (a + 2) : Nat) : Int)) := by
            rw [hT.2.1.cell, rowU_get _ _ (by omega)]
          have hf := fun i => hT.2.1.frozen i
          have hx : bits .xor .u32 ((CrcP.step8 a : Nat) : Int) 3778769143 = ((CrcP.step8 (a + 2) : Nat) : Int) := by
            have := u32_xor_nat (CrcP.step8 a) 3778769143 (CrcP.step8_lt a (by omega)) (by omega)
            rw [CrcP.step8_at2 a hm] at this
            exact this
          have ht : ((a : Int) + 2).toNat = a + 2 := by omega
          have HT : Hid (Tab w (wr.setCell ⟨w.heap.size + 1, a + 2, none⟩ (.int .u32 ((CrcP.step8 (a + 2) : Nat) : Int))) (CrcP.tabf 2 (a + 2 * 2))) := Lib.hid ((hT.set (a + 2) (CrcP.step8 (a + 2))).congr fun i _ => CrcP.tabf_next2 a i hm)
          have hl1 := hT.2.1.lt
          have hb1 : (a : Int) + 2 < 256 := by omega
          clear hT
          go_wp2
          go_roundw
          case rel => exact ⟨a + 2 * 2, by omega, by omega, by go_num, HT.out⟩
          case measure => simp [intOf]; omega
        · have ha' : a = 256 := by omega
          subst ha'
          have HT : Hid (Tab w wr (CrcP.headf 2)) := Lib.hid (hT.congr fun i hi => CrcP.tabf_end2 i hi)
          clear hT
          go_wp2
          go_roundw
          case rel => exact ⟨7, by omega, by go_num, by rw [show CrcP.bits 7 1 = 3778769143 by decide +kernel]; rfl, HT.out⟩
          case measure => simp [intOf]
    · rw [show CrcP.bits 7 1 = 3778769143 by decide +kernel]
      have hand : bits .and .u32 3778769143 1 = 1 := by decide +kernel
      have hxor : bits .xor .u32 1889384571 2197175160 = 4067132163 := by decide +kernel
      have HT0 : Hid (Tab w wo (CrcP.tabf 1 0)) := Lib.hid (hT.congr fun i _ => (CrcP.tabf_start 1 i).symm)
      clear hT
      go_wp2
      go_loopw [6] (fun a wr => Inner w 1 a wr) (fun a _ => 256 - (intOf a).toNat)
      case atStart => exact ⟨0, by omega, by omega, rfl, HT0.out⟩
      case round =>
        obtain ⟨a, ha, hm, rfl, hT⟩ := hrel
        by_cases hlt : a < 256
        · have hc : wr.cell? ⟨w.heap.size + 1, a, none⟩ = some (.int .u32 ((CrcP.step8 a : Nat) : Int)) := by
            rw [hT.2.1.cell, rowU_get _ _ hlt, CrcP.tabf_at1 a hm]
          have hc2 : wr.cell? ⟨w.heap.size + 1, a + 1, none⟩ = some (.int .u32 ((CrcP.tabf 1 a (a + 1) : Nat) : Int)) := by
            rw [hT.2.1.cell, rowU_get _ _ (by omega)]
          have hf := fun i => hT.2.1.frozen i
          have hx : bits .xor .u32 ((CrcP.step8 a : Nat) : Int) 4067132163 = ((CrcP.step8 (a + 1) : Nat) : Int) := by
            have := u32_xor_nat (CrcP.step8 a) 4067132163 (CrcP.step8_lt a (by omega)) (by omega)
            rw [CrcP.step8_at1 a hm] at this
            exact this
          have ht : ((a : Int) + 1).toNat = a + 1 := by omega
          have HT : Hid (Tab w (wr.setCell ⟨w.heap.size + 1, a + 1, none⟩ (.int .u32 ((CrcP.step8 (a + 1) : Nat) : Int))) (CrcP.tabf 1 (a + 2 * 1))) := Lib.hid ((hT.set (a + 1) (CrcP.step8 (a + 1))).congr fun i _ => CrcP.tabf_next1 a i hm)
          have hl1 := hT.2.1.lt
          have hb1 : (a : Int) + 1 < 256 := by omega
          clear hT
          go_wp2
          go_roundw
          case rel => exact ⟨a + 2 * 1, by omega, by omega, by go_num, HT.out⟩
          case measure => simp [intOf]; omega
        · have ha' : a = 256 := by omega
          subst ha'
          have HT : Hid (Tab w wr (CrcP.headf 1)) := Lib.hid (hT.congr fun i hi => CrcP.tabf_end1 i hi)
          clear hT
          go_wp2
          go_roundw
          case rel => exact ⟨8, by omega, by go_num, by rw [show CrcP.bits 8 1 = 4067132163 by decide +kernel]; rfl, HT.out⟩
          case measure => simp [intOf]
    · have hld := run_ldT hT.2.1
      have hst := run_stT (f := CrcP.headf 1) hT.1
      have HS := Lib.hid (hT.1.setRow (cs' := rowU (CrcP.headf 1)))
      have HB := Lib.hid (below_setRow hT.2.2 (Nat.le_refl _) (rowU (CrcP.headf 1)))
      have he : rowU CrcP.step8 = rowU (CrcP.headf 1) := rowU_congr fun i _ => (CrcP.headf_one i).symm
      have HE := Lib.hid he
      clear hT he
      go_wp2
      refine bodyPost_ret (v := .agg (rowU (CrcP.headf 1))) (results_T Try.results90 _ HS.out rfl) rfl ⟨?_, HB.out⟩
      rw [HE.out]
end Go.Proofs.Ytldgdgfplgdipaa.CrcW
namespace Go.Proofs.Ytldgdgfplgdipaa.CrcW
open Go.RowKit
attribute [local go_sem ↓] alT_fold ldT_fold stT_fold app_fold cut_fold

def st (u : Nat) (l : List UInt8) (k : Nat) : Nat := (l.take k).foldl CrcP.round (4294967295 - u)
theorem st_zero (u : Nat) (l : List UInt8) : st u l 0 = 4294967295 - u := rfl
theorem st_lt (u : Nat) (l : List UInt8) (k : Nat) : st u l k < 4294967296 := CrcP.fold_lt _ _ (by omega)
theorem st_succ (u : Nat) (l : List UInt8) (k : Nat) (h : k < l.length) : st u l (k + 1) = CrcP.round (st u l k) l[k] := by
  unfold st
  rw [List.take_succ_eq_append_getElem h, List.foldl_append]
  rfl
theorem st_all (u : Nat) (l : List UInt8) (k : Nat) (h : l.length ≤ k) : CrcP.more u l = 4294967295 - st u l k := by
  unfold st CrcP.more
  rw [List.take_of_length_le h]
theorem xor_ones (v : Nat) (h : v < 4294967296) : 4294967295 ^^^ v = 4294967295 - v := by
  have e := congrArg BitVec.toNat (BitVec.allOnes_xor (x := BitVec.ofNat 32 v))
  rw [BitVec.toNat_xor, BitVec.toNat_allOnes, BitVec.toNat_not, BitVec.toNat_ofNat, Nat.mod_eq_of_lt (by omega)] at e
  have h2 : (2 : Nat) ^ 32 = 4294967296 := by decide
  rw [h2] at e
  exact e
theorem not32 (v : Nat) (h : v < 4294967296) : bits .xor .u32 IntKind.u32.max (v : Int) = ((4294967295 - v : Nat) : Int) := by
  have e : IntKind.u32.max = ((4294967295 : Nat) : Int) := by decide
  rw [e, u32_xor_nat 4294967295 v (by omega) h, xor_ones v h]
theorem idx_lt (v : Nat) (c : UInt8) : v % 256 ^^^ c.toNat < 256 := by
  have hc := c.toNat_lt
  have : v % 256 ^^^ c.toNat < 2 ^ 8 := Nat.xor_lt_two_pow (by omega) (by omega)
  omega

set_option maxRecDepth 100000 in
set_option maxHeartbeats 1000000 in
theorem more_any (u : Nat) (hu : u < 4294967296) (A : Option Addr) (n c B : Nat) (l : List UInt8) (w : World) (h : Bytes w B A n c l) (hB : B ≤ w.heap.size) :
    Calls Try.prog 83 #[.int .u32 (u : Int), .slice A n c] w fun e w' => e = .returned (.int .u32 ((CrcP.more u l : Nat) : Int)) ∧ Below w.heap.size w w' := by
  have hn := Nat.le_trans h.2.1 h.2.2.1
  unfold maxLen at hn
  have hln := h.len
  have H := Lib.hid h
  have HLN := Lib.hid hln
  have hal := fun W => run_alT W
  clear h hln
  go_enter Try.func83, Try.ntmps83
  go_wp2_with fail
  refine (table_any _).mono ?_
  rintro e W1 ⟨rfl, hb1⟩
  have hst := run_stT (f := CrcP.step8) (Str.new W1 (rowU fun _ => 0) 111)
  obtain ⟨W2, hW2⟩ : ∃ W2, (W1.alloc (.cells (rowU fun _ => 0) 111)).setRow W1.heap.size (rowU CrcP.step8) = W2 := ⟨_, rfl⟩
  have hS : Str W2 W1.heap.size (rowU CrcP.step8) := by rw [← hW2]; exact (Str.new W1 _ _).setRow
  have hB2 : Below w.heap.size w W2 := by rw [← hW2]; exact below_setRow (balloc hb1 _) hb1.size _
  rw [hW2] at hst
  have HS := Lib.hid hS
  have HB := Lib.hid hB2
  have HY := Lib.hid (H.out.below (hB2.mono hB))
  have hnot : bits .xor .u32 IntKind.u32.max (u : Int) = ((st u l 0 : Nat) : Int) := not32 u hu
  clear hS hB2 hW2 hb1
  go_wp2_with fail
  clear hnot hst hal
  go_loop [6, 14] (fun s i => ∃ k : Nat, k ≤ n ∧ i = .int .i64 (k : Int) ∧ s = .int .u32 ((st u l k : Nat) : Int)) (fun _ i => n - (intOf i).toNat)
  case atStart => exact ⟨0, Nat.zero_le _, rfl, rfl⟩
  case round =>
    obtain ⟨k, hk, rfl, rfl⟩ := hrel
    by_cases hlt : k < n
    · have hkl : k < l.length := by rw [HLN.out]; exact hlt
      obtain ⟨b, o, rfl, hbB, hcell⟩ := HY.out.at_ hlt
      unfold byteV at hcell
      have HN := Lib.hid (st_succ u l k hkl)
      have hv := st_lt u l k
      generalize hc : l[k] = cb at *
      generalize hsv : st u l k = v at *
      have HSV := Lib.hid hsv
      clear hsv hc hkl
      have hcl := cb.toNat_lt
      have hj := idx_lt v cb
      have hx8 : bits .xor .u8 ((v : Int) % 256) (cb.toNat : Int) = ((v % 256 ^^^ cb.toNat : Nat) : Int) := by
        have := u8_xor_nat (v % 256) cb.toNat (by omega) (by omega)
        rwa [show ((v % 256 : Nat) : Int) = (v : Int) % 256 by omega] at this
      have hx32 : bits .xor .u32 ((v : Int) / 256) ((CrcP.step8 (v % 256 ^^^ cb.toNat) : Nat) : Int) = ((st u l (k + 1) : Nat) : Int) := by
        rw [HN.out, CrcP.round_table]
        have := u32_xor_nat (v / 256) (CrcP.step8 (v % 256 ^^^ cb.toNat)) (by omega) (CrcP.step8_lt _ (by omega))
        rwa [show ((v / 256 : Nat) : Int) = (v : Int) / 256 by omega] at this
      generalize hjj : v % 256 ^^^ cb.toNat = jx at *
      clear hjj
      have hct : W2.cell? ⟨W1.heap.size, jx, none⟩ = some (.int .u32 ((CrcP.step8 jx : Nat) : Int)) := by rw [HS.out.cell, rowU_get _ _ hj]
      have hj' : (jx : Int) < 256 := by omega
      go_wp2
      go_round
      case rel => exact ⟨k + 1, by omega, by go_num, rfl⟩
      case measure => simp [intOf]; omega
    · have HF := Lib.hid (st_all u l k (by rw [HLN.out]; omega))
      have hnot : bits .xor .u32 IntKind.u32.max ((st u l k : Nat) : Int) = ((CrcP.more u l : Nat) : Int) := by rw [not32 _ (st_lt u l k), HF.out]
      go_wp2
      go_ret
      exact ⟨rfl, HB.out⟩

set_option maxHeartbeats 400000 in
theorem sum_any (A : Option Addr) (n c B : Nat) (l : List UInt8) (w : World) (h : Bytes w B A n c l) (hB : B ≤ w.heap.size) :
    Calls Try.prog 69 #[.slice A n c] w fun e w' => e = .returned (.int .u32 ((CrcP.sum l : Nat) : Int)) ∧ Below w.heap.size w w' := by
  have H := Lib.hid h
  clear h
  go_enter Try.func69, Try.ntmps69
  go_wp2_with fail
  refine (more_any 0 (by omega) A n c B l _ H.out hB).mono ?_
  rintro e w1 ⟨rfl, hb⟩
  go_wp2_with fail
  go_ret
  exact ⟨rfl, hb⟩

theorem bit_any (v : Nat) (hv : v < 4294967296) (w : World) : Calls Try.prog 81 #[.int .u32 (v : Int)] w fun e w' => e = .returned (.int .u32 ((CrcP.bit v : Nat) : Int)) ∧ w = w' := by
  by_cases h : v % 2 = 1
  · have hb : CrcP.bit v = v / 2 ^^^ 2197175160 := by unfold CrcP.bit; rw [if_pos h]
    have HB := Lib.hid hb
    have hx : bits .xor .u32 ((v : Int) / 2) 2197175160 = ((v / 2 ^^^ 2197175160 : Nat) : Int) := by
      have := u32_xor_nat (v / 2) 2197175160 (by omega) (by omega)
      rwa [show ((v / 2 : Nat) : Int) = (v : Int) / 2 by omega] at this
    have h1 : ((v : Int) % 2 == 1) = true := by rw [beq_iff_eq]; omega
    have h0 : (0 : Int) ≤ (v : Int) := by omega
    clear hb h
    go_enter Try.func81, Try.ntmps81
    go_wp2
    go_ret
    rw [HB.out]
    exact ⟨rfl, rfl⟩
  · have hb : CrcP.bit v = v / 2 := by unfold CrcP.bit; rw [if_neg h]
    have HB := Lib.hid hb
    have h1 : ((v : Int) % 2 == 1) = false := by rw [beq_eq_false_iff_ne]; omega
    have h0 : (0 : Int) ≤ (v : Int) := by omega
    clear hb h
    go_enter Try.func81, Try.ntmps81
    go_wp2
    go_ret
    rw [HB.out]
    exact ⟨rfl, rfl⟩
end Go.Proofs.Ytldgdgfplgdipaa.CrcW
namespace Go.Proofs.Ytldgdgfplgdipaa.PageW
open Go.RowKit
attribute [local go_sem ↓] alPage_fold ldPage_fold stPage_fold bdPage_fold slPage_fold

set_option maxRecDepth 100000 in
set_option maxHeartbeats 400000 in
theorem sum_any (l : List UInt8) (hl : l.length = 512) (w : World) : Calls Try.prog 62 #[.agg (rowV l)] w fun e w' => e = .returned (.int .i64 ((CrcP.sum (l.drop 4) : Nat) : Int)) ∧ Below w.heap.size w w' := by
  have hpt := (Str.new w (rowV l) 30).part 4 508 508 (by omega) (by omega) (by unfold maxLen; omega)
  rw [List.take_of_length_le (by rw [List.length_drop]; omega)] at hpt
  have HP := Lib.hid hpt
  have hsl := fun W => run_sl_from (P := Try.prog) arrPage w.heap.size 4 (by omega) W
  simp only [Nat.reduceSub, Int.cast_ofNat_Int] at hsl
  have hs := CrcP.sum_lt (l.drop 4)
  clear hpt hl
  go_enter Try.func62, Try.ntmps62
  go_wp2_with fail
  refine (CrcW.sum_any _ _ _ _ _ _ HP.out (Nat.le_refl _)).mono ?_
  rintro e w1 ⟨rfl, hb⟩
  generalize hsm : CrcP.sum (l.drop 4) = sm at *
  have HSM := Lib.hid hsm
  clear hsm
  go_wp2_with fail
  go_ret
  rw [HSM.out]
  exact ⟨rfl, bstep (balloc (bsame w) _) hb⟩

set_option maxRecDepth 100000 in
set_option maxHeartbeats 1000000 in
theorem sealed_any (l : List UInt8) (hl : l.length = 512) (w : World) : Calls Try.prog 42 #[.agg (rowV l)] w fun e w' => e = .returned (.agg (rowV (PageP.sealed l))) ∧ Below w.heap.size w w' := by
  have hal := fun W => run_al (P := Try.prog) arrPage W
  have HL := Lib.hid hl
  have HLO := Lib.hid (PageP.sealed_length l hl)
  clear hl
  go_enter Try.func42, Try.ntmps42
  go_wp2_with fail
  generalize hW0 : ((w).alloc (.cells (rowV l) 30)).alloc (.cells (rowV (SlotP.zeros 512)) 30) = W0
  have HS0_0 : Hid (Str W0 (w.heap.size) (rowV l)) := Lib.hid (by rw [← hW0]; have := (Str.new (w) (rowV l) 30).alloc (.cells (rowV (SlotP.zeros 512)) 30); simpa using this)
  have HS1_0 : Hid (Str W0 (w.heap.size + 1) (rowV (SlotP.zeros 512))) := Lib.hid (by rw [← hW0]; have := Str.new ((w).alloc (.cells (rowV l) 30)) (rowV (SlotP.zeros 512)) 30; simpa using this)
  have HB_0 : Hid (Below w.heap.size w W0) := Lib.hid (by rw [← hW0]; exact balloc (balloc (bsame w) _) _)
  have hw_0 := HB_0.out.size
  clear hW0
  have hl0_0 := HS0_0.out.lt
  have hl1_0 := HS1_0.out.lt
  refine Reg.wp_region_tail (R := ext) (W := W0) [Reg.eqv (.agg (rowV l)), Reg.eqv (.agg (rowV l)), Reg.eqv (.int .i64 ((CrcP.sum (l.drop 4) : Nat) : Int)), Reg.eqv (.agg (rowV (PageP.sealed l)))] 7 4 _ [[(1, none)], [(1, none)], [(4, some 1)], [(3, some 0), (5, some 2)]] rfl (by kernel_rfl) (by kernel_rfl) (by rfl) (by rfl) rfl (by kernel_rfl) ?_ [some 3, some 4, some 5, some 6] (by kernel_rfl) ?_
  · refine ⟨?_, ?_, ?_, ?_, trivial⟩
    · intro ax wx hx hs
      obtain ⟨e1, -⟩ := hs
      have g1 := Reg.ev (v := .pointer (some ⟨w.heap.size, 0, none⟩)) e1
      refine Reg.obl_free rfl ?_
      have hx' : Below W0.heap.size W0 wx := hx
      have hld := run_ld (P := Try.prog) arrPage (HS0_0.out.next hx') HL.out
      exact Reg.wp_eqv (Option.some_ne_none _) (by go_simp) rfl
    · intro ax wx hx hs
      obtain ⟨e1, -⟩ := hs
      have g1 := Reg.ev (v := .pointer (some ⟨w.heap.size, 0, none⟩)) e1
      refine Reg.obl_free rfl ?_
      have hx' : Below W0.heap.size W0 wx := hx
      have hld := run_ld (P := Try.prog) arrPage (HS0_0.out.next hx') HL.out
      exact Reg.wp_eqv (Option.some_ne_none _) (by go_simp) rfl
    · intro ax wx hx hs
      obtain ⟨e4, -⟩ := hs
      have g4 := Reg.ev (v := .agg (rowV l)) e4
      refine Reg.obl_free rfl ?_
      go_simp
      refine (sum_any l HL.out _).mono ?_
      rintro e wy ⟨rfl, hby⟩
      exact Reg.done (Option.some_ne_none _) rfl hby
    · intro ax wx hx hs
      obtain ⟨e3, e5, -⟩ := hs
      have g3 := Reg.ev (v := .agg (rowV l)) e3
      have g5 := Reg.ev (v := .int .i64 ((CrcP.sum (l.drop 4) : Nat) : Int)) e5
      refine Reg.obl_free rfl ?_
      go_simp
      refine (with_any l HL.out 0 4 _ (by omega) (by omega) (by omega) _).mono ?_
      rintro e wy ⟨rfl, hby⟩
      exact Reg.done (Option.some_ne_none _) rfl hby
  · intro W1 hwf
    simp only [Reg.Fin]
    rintro _ rfl _ rfl _ rfl _ rfl
    have hwf' : Below W0.heap.size W0 W1 := hwf
    have hV1 := HS1_0.out.next hwf'
    have hst := run_st (P := Try.prog) arrPage hV1 (by rw [rowV_size]; exact SlotPut.zeros_len 512) HLO.out
    have HB7 := Lib.hid (below_setRow (bstep HB_0.out hwf') (by omega : w.heap.size ≤ w.heap.size + 1) (rowV (PageP.sealed l)))
    have HS7 := Lib.hid (hV1.setRow (cs' := rowV (PageP.sealed l)))
    clear hwf hwf' hV1 hal
    refine Reg.Goal.mk ?_
    go_simp
    go_wp2_with fail
    exact bodyPost_ret (v := .agg (rowV (PageP.sealed l))) (results_arr arrPage Try.results42 _ HS7.out HLO.out rfl) rfl ⟨rfl, HB7.out⟩

end Go.Proofs.Ytldgdgfplgdipaa.PageW
namespace Go.Proofs.Ytldgdgfplgdipaa.RefBytesO
open Go.RowKit
attribute [local go_sem ↓] app_fold

open RefBytes (sh sh_zero sh_succ sh_lt wrap_quo drop_step)
/-- what holds at a round's head -/
def GivesOwn (w : World) (l : List UInt8) (e : Ending) (w' : World) : Prop := ∃ A n c, e = .returned (.slice A n c) ∧ Own w' w.heap.size A n c l ∧ Below w.heap.size w w'
/-- what holds at a round's head -/
def Rel (w : World) (width : Nat) (m : Int) (u out i : Value) (wr : World) : Prop :=
  ∃ (k : Nat) (A : Option Addr) (c : Nat), k ≤ width ∧ i = .int .i64 k ∧ u = .int .u64 ((sh m k : Nat) : Int) ∧ out = .slice A k c ∧ Own wr w.heap.size A k c ((BeP.parts width m).drop (width - k)) ∧ Below w.heap.size w wr

set_option maxRecDepth 100000 in
set_option maxHeartbeats 1000000 in
theorem bytes_any (width : Nat) (m : Int) (w : World) (hw8 : width ≤ 8) :
    Calls Try.prog 45 #[.int .i64 (width : Int), .int .i64 m] w (GivesOwn w (BeP.parts width m)) := by
  obtain ⟨i0, hi, hz0, hz1, hz2⟩ := info_parts Be.infoU8
  have hw := BeP.u64_wrap m
  have h8 : decide ((width : Int) ≤ 8) = true := by simp; omega
  go_enter Try.func45, Try.ntmps45
  go_wp2
  go_loopw [5, 6, 7] (fun u out i wr => Rel w width m u out i wr) (fun _ _ i _ => width - (intOf i).toNat)
  case atStart => exact ⟨0, none, 0, Nat.zero_le _, rfl, by rw [sh_zero], rfl, by rw [List.drop_eq_nil_of_le (by rw [BeP.parts_length]; omega)]; exact Own.none_ w _, bsame w⟩
  case round =>
    obtain ⟨k, A, c, hk, rfl, rfl, rfl, hby, hb⟩ := hrel
    have HBY := Lib.hid hby
    have HB := Lib.hid hb
    clear hby hb hw
    by_cases hlt : k < width
    · have HD := Lib.hid (drop_step width m k hlt)
      have HP := Lib.hid (sh_succ m k)
      have HQ := Lib.hid (wrap_quo _ (sh_lt m k))
      obtain ⟨q, hq⟩ : ∃ q, sh m k = q := ⟨_, rfl⟩
      rw [hq] at HD HP HQ ⊢
      clear hq
      have hv : Value.int .u8 ((q : Int) % 256) = byteV (UInt8.ofNat q) := by
        unfold byteV
        have : (UInt8.ofNat q).toNat = q % 256 := by simp
        rw [this]
        simp
      have hown0 : (wr.alloc (.cells #[.int .u8 ((q : Int) % 256)] 5)).ownsRow w.heap.size 5 1 (.slice (some ⟨wr.heap.size, 0, none⟩) 1 1) 1 [byteV (UInt8.ofNat q)] :=
        ⟨rfl, .inr ⟨_, _, _, rfl, HB.out.size, heap_alloc_new wr _, Nat.le_refl _, by decide, rfl, by simp [hv]⟩⟩
      clear hv
      obtain ⟨v', w', happ, hown, hgrow⟩ := run_append_bytes (P := Try.prog) (wr.alloc (.cells #[.int .u8 ((q : Int) % 256)] 5)) w.heap.size 22 22 5 i0 _ Try.underlying22 hi hz0 hz1 hz2 rfl _ 1 _ hown0 wr.heap.size A k c _ (HBY.out.bytes.alloc (Nat.le_refl _) _) (by omega) (by have := HB.out.size; simp; omega)
      have hbw : Below w.heap.size w w' := (balloc HB.out _).grown hgrow (by have := HB.out.size; simp; omega) (own_block hown0)
      obtain ⟨A', c', rfl⟩ := own_slice hown
      have hby' : Own w' w.heap.size A' (1 + k) c' (UInt8.ofNat q :: (BeP.parts width m).drop (width - k)) := by simpa [Own] using hown
      obtain ⟨n', hn'⟩ : ∃ n', 1 + k = n' := ⟨_, rfl⟩
      rw [hn'] at hby' happ
      clear hn'
      have HBW := Lib.hid hbw
      have HBY' := Lib.hid hby'
      have HN := Lib.hid hby'.len
      clear hown0 hown hgrow hbw hby'
      go_wp2
      go_roundw
      case rel =>
        have hn : n' = k + 1 := by have := HN.out; simp [BeP.parts_length] at this; omega
        subst hn
        refine ⟨k + 1, A', c', by omega, by go_num, ?_, rfl, ?_, HBW.out⟩
        · rw [HP.out]
          exact congrArg (Value.int .u64) HQ.out
        · rw [HD.out]
          exact HBY'.out
      case measure => simp [intOf]; omega
    · go_wp2
      go_ret
      have hk' : width - k = 0 := by omega
      have := HBY.out
      rw [hk', List.drop_zero] at this
      exact ⟨A, k, c, rfl, this, HB.out⟩
end Go.Proofs.Ytldgdgfplgdipaa.RefBytesO
namespace Go.Proofs.Ytldgdgfplgdipaa.RefCrc
open Go.RowKit CrcW
attribute [local go_sem ↓] app_fold cut_fold

theorem bits_snoc (k v : Nat) : CrcP.bits (k + 1) v = CrcP.bit (CrcP.bits k v) := by
  induction k generalizing v with
  | zero => rfl
  | succ k ih => rw [CrcP.bits, ih]; rfl
def Inner (w : World) (x : Nat) (v j : Value) (wr : World) : Prop := ∃ k : Nat, k ≤ 8 ∧ j = .int .i64 (k : Int) ∧ v = .int .u32 ((CrcP.bits k x : Nat) : Int) ∧ w = wr
def Outer (w : World) (u n : Nat) (l : List UInt8) (v i : Value) (wr : World) : Prop := ∃ k : Nat, k ≤ n ∧ i = .int .i64 (k : Int) ∧ v = .int .u32 ((st u l k : Nat) : Int) ∧ w = wr

set_option maxRecDepth 100000 in
set_option maxHeartbeats 1000000 in
theorem more_any (u : Nat) (hu : u < 4294967296) (A : Option Addr) (n c B : Nat) (l : List UInt8) (w : World) (h : Bytes w B A n c l) :
    Calls Try.prog 65 #[.int .u32 (u : Int), .slice A n c] w fun e w' => e = .returned (.int .u32 ((CrcP.more u l : Nat) : Int)) ∧ w = w' := by
  have hn := Nat.le_trans h.2.1 h.2.2.1
  unfold maxLen at hn
  have HLN := Lib.hid h.len
  have HY := Lib.hid h
  clear h
  go_enter Try.func65, Try.ntmps65
  go_wp2_with fail
  go_loopw [5, 6] (fun v i wr => Outer w u n l v i wr) (fun _ i _ => n - (intOf i).toNat)
  case atStart => exact ⟨0, Nat.zero_le _, rfl, congrArg (Value.int .u32) (by rw [st_zero]; omega), rfl⟩
  case round =>
    obtain ⟨k, hk, rfl, rfl, rfl⟩ := hrel
    by_cases hlt : k < n
    · have hkl : k < l.length := by rw [HLN.out]; exact hlt
      obtain ⟨b, o, rfl, hbB, hcell⟩ := HY.out.at_ hlt
      unfold byteV at hcell
      have HN := Lib.hid (st_succ u l k hkl)
      have hv := st_lt u l k
      generalize hc : l[k] = cb at *
      generalize hsv : st u l k = v at *
      clear hsv hc hkl
      have hcl := cb.toNat_lt
      have hcm : ((cb.toNat : Int) % 4294967296) = (cb.toNat : Int) := by omega
      have hx32 : bits .xor .u32 (v : Int) (cb.toNat : Int) = ((v ^^^ cb.toNat : Nat) : Int) := u32_xor_nat v cb.toNat hv (by omega)
      have hxl := CrcP.xor_byte_lt v hv cb
      have HX : Hid (CrcP.bits 8 (v ^^^ cb.toNat) = st u l (k + 1)) := Lib.hid (by rw [HN.out]; rfl)
      generalize v ^^^ cb.toNat = x at *
      go_wp2_with fail
      go_loopw [5, 7] (fun v j wr => Inner w x v j wr) (fun _ j _ => 8 - (intOf j).toNat)
      case atStart => exact ⟨0, by omega, rfl, rfl, rfl⟩
      case round =>
        obtain ⟨q, hq, rfl, rfl, rfl⟩ := hrel
        by_cases hq8 : q < 8
        · have hbl := CrcP.bits_lt q x hxl
          have HBS := Lib.hid (bits_snoc q x)
          generalize CrcP.bits q x = y at *
          go_wp2_with (go_at_call 81; refine (bit_any _ hbl _).mono ?_; rintro e w9 ⟨rfl, rfl⟩)
          go_roundw
          case rel => exact ⟨q + 1, by omega, by go_num, by rw [HBS.out], rfl⟩
          case measure => simp [intOf]; omega
        · have hq' : q = 8 := by omega
          subst hq'
          rw [HX.out]
          go_wp2_with fail
          go_roundw
          case rel => exact ⟨k + 1, by omega, by go_num, rfl, rfl⟩
          case measure => simp [intOf]; omega
    · have hv := st_lt u l k
      have HF : Hid ((4294967295 : Int) - ((st u l k : Nat) : Int) = ((CrcP.more u l : Nat) : Int)) := Lib.hid (by rw [st_all u l k (by rw [HLN.out]; omega)]; omega)
      generalize st u l k = v at *
      go_wp2_with fail
      go_ret
      exact ⟨congrArg (fun x => Ending.returned (.int .u32 x)) HF.out, rfl⟩

set_option maxRecDepth 100000 in
set_option maxHeartbeats 1000000 in
theorem seal_any (A : Option Addr) (n c B : Nat) (l : List UInt8) (w : World) (h : Bytes w B A n c l) (hB : B ≤ w.heap.size) (hn : n ≤ 1000000000) :
    Calls Try.prog 48 #[.slice A n c] w (GivesBytes w (BeP.parts 4 ((CrcP.sum l : Nat) : Int) ++ l)) := by
  have H := Lib.hid h
  have hs := CrcP.sum_lt l
  clear h
  go_enter Try.func48, Try.ntmps48
  go_wp2_with fail
  refine (more_any 0 (by omega) A n c B l _ H.out).mono ?_
  rintro e w1 ⟨rfl, rfl⟩
  obtain ⟨sm, hsm⟩ : ∃ sm, CrcP.sum l = sm := ⟨_, rfl⟩
  have hsm' : CrcP.more 0 l = sm := hsm
  rw [hsm'] 
  rw [hsm] at hs
  have HSM := Lib.hid hsm
  clear hsm hsm'
  go_wp2_with fail
  refine (RefBytesO.bytes_any 4 (sm : Int) _ (by omega)).mono ?_
  rintro e w2 ⟨A2, n2, c2, rfl, hO, hb2⟩
  have hn2 : n2 = 4 := by rw [← hO.len, BeP.parts_length]
  subst hn2
  obtain ⟨A3, c3, w3, happ, hO3, hb3⟩ := hO.app (H.out.below (hb2.mono hB)) (by omega) hb2.size
  have HO := Lib.hid hO3
  have HB := Lib.hid (hb2.trans hb3)
  clear hO hb2 hO3 hb3
  go_wp2_with fail
  go_ret
  rw [HSM.out]
  exact ⟨A3, _, c3, rfl, HO.out.bytes, HB.out⟩

end Go.Proofs.Ytldgdgfplgdipaa.RefCrc
namespace Go.Proofs.Ytldgdgfplgdipaa.RefPage
open Go.RowKit
attribute [local go_sem ↓] app_fold cut_fold

set_option maxRecDepth 100000 in
set_option maxHeartbeats 400000 in
theorem sealed_any (A : Option Addr) (c B : Nat) (l : List UInt8) (w : World) (h : Bytes w B A 512 c l) (hB : B ≤ w.heap.size) : Calls Try.prog 27 #[.slice A 512 c] w (GivesBytes w (PageP.sealed l)) := by
  have hcm := h.2.2.1
  have hnc := h.2.1
  unfold maxLen at hcm
  have hcut := h.cut 4 512 c (by omega) (Nat.le_refl _) hnc (Nat.le_refl _)
  rw [List.take_of_length_le (by rw [List.length_drop, h.len]; omega)] at hcut
  have HCUT := Lib.hid hcut
  have HE := Lib.hid (PageP.sealed_eq l)
  clear h hcut
  go_enter Try.func27, Try.ntmps27
  go_wp2_with fail
  refine (RefCrc.seal_any _ _ _ B _ _ HCUT.out hB (by omega)).mono ?_
  rintro e w1 ⟨A1, n1, c1, rfl, hy, hb⟩
  go_wp2_with fail
  go_ret
  rw [HE.out]
  exact ⟨A1, n1, c1, rfl, hy, hb⟩

def Chk (w : World) (l : List UInt8) (i : Value) (wr : World) : Prop := ∃ k : Nat, k ≤ 7 ∧ i = .int .i64 (k : Int) ∧ PageP.slotsOk l k = true ∧ Below w.heap.size w wr
end Go.Proofs.Ytldgdgfplgdipaa.RefPage
