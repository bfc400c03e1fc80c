/-
  Parts of the proof of RecRows.
-/
import Derived.Test.YtiokcemlfdonnaaRecR5
import Derived.Test.YtiokcemlfdonnaaRecR15
import Derived.Test.YtiokcemlfdonnaaRecR18
import Derived.Laws.BitsAllLaws
import Derived.IntWalk
import Derived.Test.YtiokcemlfdonnaaProg
import Derived.Test.YtiokcemlfdonnaaRecR8
import Derived.Test.YtiokcemlfdonnaaRecR4
section
namespace Go.Proofs.Ytiokcemlfdonnaa.CrcP

/-- the table when all multiples of step are there -/
def headf (step : Nat) (i : Nat) : Nat := if i % step = 0 then step8 i else 0
/-- the table when the odd multiples of step below a are there, too -/
def tabf (step a : Nat) (i : Nat) : Nat := if i % (2 * step) = 0 then step8 i else if i % step = 0 ∧ i < a then step8 i else 0
theorem tabf_start (step : Nat) (i : Nat) : tabf step 0 i = headf (2 * step) i := by
  unfold tabf headf
  split
  · rfl
  · rw [if_neg (by omega)]
theorem headf_zero (i : Nat) (h : i < 256) : headf 256 i = 0 := by
  unfold headf
  by_cases h0 : i = 0
  · subst h0; decide
  · rw [if_neg (by omega)]
theorem headf_one (i : Nat) : headf 1 i = step8 i := by
  unfold headf
  rw [if_pos (by omega)]
theorem tabf_end128 (i : Nat) (h : i < 256) : tabf 128 256 i = headf 128 i := by
  unfold tabf headf
  by_cases h1 : i % (2 * 128) = 0
  · rw [if_pos h1, if_pos (by omega)]
  · rw [if_neg h1]
    by_cases h2 : i % 128 = 0
    · rw [if_pos ⟨h2, h⟩, if_pos h2]
    · rw [if_neg (by omega), if_neg h2]
theorem tabf_next128 (a i : Nat) (h : a % (2 * 128) = 0) : (if i = a + 128 then step8 (a + 128) else tabf 128 a i) = tabf 128 (a + 2 * 128) i := by
  unfold tabf
  by_cases h1 : i = a + 128
  · subst h1
    rw [if_pos rfl, if_neg (by omega), if_pos (by omega)]
  · rw [if_neg h1]
    by_cases h2 : i % (2 * 128) = 0
    · rw [if_pos h2, if_pos h2]
    · rw [if_neg h2, if_neg h2]
      by_cases h3 : i % 128 = 0 ∧ i < a
      · rw [if_pos h3, if_pos (by omega)]
      · rw [if_neg h3, if_neg (by omega)]
theorem tabf_at128 (a : Nat) (h : a % (2 * 128) = 0) : tabf 128 a a = step8 a := by
  unfold tabf
  rw [if_pos h]
theorem step8_at128 (a : Nat) (h : a % (2 * 128) = 0) : step8 a ^^^ 2197175160 = step8 (a + 128) := by
  have hx : a + 128 = a ^^^ 128 := by
    have h2 : (2 : Nat) ^ 8 = 2 * 128 := by decide
    obtain ⟨q, rfl⟩ : ∃ q, a = 2 ^ 8 * q := ⟨a / (2 * 128), by rw [h2]; omega⟩
    apply Nat.eq_of_testBit_eq
    intro i
    rw [Nat.testBit_two_pow_mul_add _ (by decide), Nat.testBit_xor, Nat.testBit_two_pow_mul]
    by_cases hi : i < 8
    · have h8 : ¬ 8 ≤ i := by omega
      simp [hi, h8]
    · have h0 : Nat.testBit 128 i = false := Nat.testBit_lt_two_pow (Nat.lt_of_lt_of_le (by decide : 128 < 2 ^ 8) (Nat.pow_le_pow_right (by decide) (by omega)))
      have h8 : 8 ≤ i := by omega
      simp [hi, h0, h8]
  rw [hx, step8_xor, show step8 128 = 2197175160 by decide +kernel]
theorem tabf_end64 (i : Nat) (h : i < 256) : tabf 64 256 i = headf 64 i := by
  unfold tabf headf
  by_cases h1 : i % (2 * 64) = 0
  · rw [if_pos h1, if_pos (by omega)]
  · rw [if_neg h1]
    by_cases h2 : i % 64 = 0
    · rw [if_pos ⟨h2, h⟩, if_pos h2]
    · rw [if_neg (by omega), if_neg h2]
theorem tabf_next64 (a i : Nat) (h : a % (2 * 64) = 0) : (if i = a + 64 then step8 (a + 64) else tabf 64 a i) = tabf 64 (a + 2 * 64) i := by
  unfold tabf
  by_cases h1 : i = a + 64
  · subst h1
    rw [if_pos rfl, if_neg (by omega), if_pos (by omega)]
  · rw [if_neg h1]
    by_cases h2 : i % (2 * 64) = 0
    · rw [if_pos h2, if_pos h2]
    · rw [if_neg h2, if_neg h2]
      by_cases h3 : i % 64 = 0 ∧ i < a
      · rw [if_pos h3, if_pos (by omega)]
      · rw [if_neg h3, if_neg (by omega)]
theorem tabf_at64 (a : Nat) (h : a % (2 * 64) = 0) : tabf 64 a a = step8 a := by
  unfold tabf
  rw [if_pos h]
theorem step8_at64 (a : Nat) (h : a % (2 * 64) = 0) : step8 a ^^^ 1098587580 = step8 (a + 64) := by
  have hx : a + 64 = a ^^^ 64 := by
    have h2 : (2 : Nat) ^ 7 = 2 * 64 := by decide
    obtain ⟨q, rfl⟩ : ∃ q, a = 2 ^ 7 * q := ⟨a / (2 * 64), by rw [h2]; omega⟩
    apply Nat.eq_of_testBit_eq
    intro i
    rw [Nat.testBit_two_pow_mul_add _ (by decide), Nat.testBit_xor, Nat.testBit_two_pow_mul]
    by_cases hi : i < 7
    · have h8 : ¬ 7 ≤ i := by omega
      simp [hi, h8]
    · have h0 : Nat.testBit 64 i = false := Nat.testBit_lt_two_pow (Nat.lt_of_lt_of_le (by decide : 64 < 2 ^ 7) (Nat.pow_le_pow_right (by decide) (by omega)))
      have h8 : 7 ≤ i := by omega
      simp [hi, h0, h8]
  rw [hx, step8_xor, show step8 64 = 1098587580 by decide +kernel]
theorem tabf_end32 (i : Nat) (h : i < 256) : tabf 32 256 i = headf 32 i := by
  unfold tabf headf
  by_cases h1 : i % (2 * 32) = 0
  · rw [if_pos h1, if_pos (by omega)]
  · rw [if_neg h1]
    by_cases h2 : i % 32 = 0
    · rw [if_pos ⟨h2, h⟩, if_pos h2]
    · rw [if_neg (by omega), if_neg h2]
theorem tabf_next32 (a i : Nat) (h : a % (2 * 32) = 0) : (if i = a + 32 then step8 (a + 32) else tabf 32 a i) = tabf 32 (a + 2 * 32) i := by
  unfold tabf
  by_cases h1 : i = a + 32
  · subst h1
    rw [if_pos rfl, if_neg (by omega), if_pos (by omega)]
  · rw [if_neg h1]
    by_cases h2 : i % (2 * 32) = 0
    · rw [if_pos h2, if_pos h2]
    · rw [if_neg h2, if_neg h2]
      by_cases h3 : i % 32 = 0 ∧ i < a
      · rw [if_pos h3, if_pos (by omega)]
      · rw [if_neg h3, if_neg (by omega)]
theorem tabf_at32 (a : Nat) (h : a % (2 * 32) = 0) : tabf 32 a a = step8 a := by
  unfold tabf
  rw [if_pos h]
theorem step8_at32 (a : Nat) (h : a % (2 * 32) = 0) : step8 a ^^^ 549293790 = step8 (a + 32) := by
  have hx : a + 32 = a ^^^ 32 := by
    have h2 : (2 : Nat) ^ 6 = 2 * 32 := by decide
    obtain ⟨q, rfl⟩ : ∃ q, a = 2 ^ 6 * q := ⟨a / (2 * 32), by rw [h2]; omega⟩
    apply Nat.eq_of_testBit_eq
    intro i
    rw [Nat.testBit_two_pow_mul_add _ (by decide), Nat.testBit_xor, Nat.testBit_two_pow_mul]
    by_cases hi : i < 6
    · have h8 : ¬ 6 ≤ i := by omega
      simp [hi, h8]
    · have h0 : Nat.testBit 32 i = false := Nat.testBit_lt_two_pow (Nat.lt_of_lt_of_le (by decide : 32 < 2 ^ 6) (Nat.pow_le_pow_right (by decide) (by omega)))
      have h8 : 6 ≤ i := by omega
      simp [hi, h0, h8]
  rw [hx, step8_xor, show step8 32 = 549293790 by decide +kernel]
theorem tabf_end16 (i : Nat) (h : i < 256) : tabf 16 256 i = headf 16 i := by
  unfold tabf headf
  by_cases h1 : i % (2 * 16) = 0
  · rw [if_pos h1, if_pos (by omega)]
  · rw [if_neg h1]
    by_cases h2 : i % 16 = 0
    · rw [if_pos ⟨h2, h⟩, if_pos h2]
    · rw [if_neg (by omega), if_neg h2]
theorem tabf_next16 (a i : Nat) (h : a % (2 * 16) = 0) : (if i = a + 16 then step8 (a + 16) else tabf 16 a i) = tabf 16 (a + 2 * 16) i := by
  unfold tabf
  by_cases h1 : i = a + 16
  · subst h1
    rw [if_pos rfl, if_neg (by omega), if_pos (by omega)]
  · rw [if_neg h1]
    by_cases h2 : i % (2 * 16) = 0
    · rw [if_pos h2, if_pos h2]
    · rw [if_neg h2, if_neg h2]
      by_cases h3 : i % 16 = 0 ∧ i < a
      · rw [if_pos h3, if_pos (by omega)]
      · rw [if_neg h3, if_neg (by omega)]
theorem tabf_at16 (a : Nat) (h : a % (2 * 16) = 0) : tabf 16 a a = step8 a := by
  unfold tabf
  rw [if_pos h]
theorem step8_at16 (a : Nat) (h : a % (2 * 16) = 0) : step8 a ^^^ 274646895 = step8 (a + 16) := by
  have hx : a + 16 = a ^^^ 16 := by
    have h2 : (2 : Nat) ^ 5 = 2 * 16 := by decide
    obtain ⟨q, rfl⟩ : ∃ q, a = 2 ^ 5 * q := ⟨a / (2 * 16), by rw [h2]; omega⟩
    apply Nat.eq_of_testBit_eq
    intro i
    rw [Nat.testBit_two_pow_mul_add _ (by decide), Nat.testBit_xor, Nat.testBit_two_pow_mul]
    by_cases hi : i < 5
    · have h8 : ¬ 5 ≤ i := by omega
      simp [hi, h8]
    · have h0 : Nat.testBit 16 i = false := Nat.testBit_lt_two_pow (Nat.lt_of_lt_of_le (by decide : 16 < 2 ^ 5) (Nat.pow_le_pow_right (by decide) (by omega)))
      have h8 : 5 ≤ i := by omega
      simp [hi, h0, h8]
  rw [hx, step8_xor, show step8 16 = 274646895 by decide +kernel]
theorem tabf_end8 (i : Nat) (h : i < 256) : tabf 8 256 i = headf 8 i := by
  unfold tabf headf
  by_cases h1 : i % (2 * 8) = 0
  · rw [if_pos h1, if_pos (by omega)]
  · rw [if_neg h1]
    by_cases h2 : i % 8 = 0
    · rw [if_pos ⟨h2, h⟩, if_pos h2]
    · rw [if_neg (by omega), if_neg h2]
theorem tabf_next8 (a i : Nat) (h : a % (2 * 8) = 0) : (if i = a + 8 then step8 (a + 8) else tabf 8 a i) = tabf 8 (a + 2 * 8) i := by
  unfold tabf
  by_cases h1 : i = a + 8
  · subst h1
    rw [if_pos rfl, if_neg (by omega), if_pos (by omega)]
  · rw [if_neg h1]
    by_cases h2 : i % (2 * 8) = 0
    · rw [if_pos h2, if_pos h2]
    · rw [if_neg h2, if_neg h2]
      by_cases h3 : i % 8 = 0 ∧ i < a
      · rw [if_pos h3, if_pos (by omega)]
      · rw [if_neg h3, if_neg (by omega)]
theorem tabf_at8 (a : Nat) (h : a % (2 * 8) = 0) : tabf 8 a a = step8 a := by
  unfold tabf
  rw [if_pos h]
theorem step8_at8 (a : Nat) (h : a % (2 * 8) = 0) : step8 a ^^^ 2329499855 = step8 (a + 8) := by
  have hx : a + 8 = a ^^^ 8 := by
    have h2 : (2 : Nat) ^ 4 = 2 * 8 := by decide
    obtain ⟨q, rfl⟩ : ∃ q, a = 2 ^ 4 * q := ⟨a / (2 * 8), by rw [h2]; omega⟩
    apply Nat.eq_of_testBit_eq
    intro i
    rw [Nat.testBit_two_pow_mul_add _ (by decide), Nat.testBit_xor, Nat.testBit_two_pow_mul]
    by_cases hi : i < 4
    · have h8 : ¬ 4 ≤ i := by omega
      simp [hi, h8]
    · have h0 : Nat.testBit 8 i = false := Nat.testBit_lt_two_pow (Nat.lt_of_lt_of_le (by decide : 8 < 2 ^ 4) (Nat.pow_le_pow_right (by decide) (by omega)))
      have h8 : 4 ≤ i := by omega
      simp [hi, h0, h8]
  rw [hx, step8_xor, show step8 8 = 2329499855 by decide +kernel]
theorem tabf_end4 (i : Nat) (h : i < 256) : tabf 4 256 i = headf 4 i := by
  unfold tabf headf
  by_cases h1 : i % (2 * 4) = 0
  · rw [if_pos h1, if_pos (by omega)]
  · rw [if_neg h1]
    by_cases h2 : i % 4 = 0
    · rw [if_pos ⟨h2, h⟩, if_pos h2]
    · rw [if_neg (by omega), if_neg h2]
theorem tabf_next4 (a i : Nat) (h : a % (2 * 4) = 0) : (if i = a + 4 then step8 (a + 4) else tabf 4 a i) = tabf 4 (a + 2 * 4) i := by
  unfold tabf
  by_cases h1 : i = a + 4
  · subst h1
    rw [if_pos rfl, if_neg (by omega), if_pos (by omega)]
  · rw [if_neg h1]
    by_cases h2 : i % (2 * 4) = 0
    · rw [if_pos h2, if_pos h2]
    · rw [if_neg h2, if_neg h2]
      by_cases h3 : i % 4 = 0 ∧ i < a
      · rw [if_pos h3, if_pos (by omega)]
      · rw [if_neg h3, if_neg (by omega)]
theorem tabf_at4 (a : Nat) (h : a % (2 * 4) = 0) : tabf 4 a a = step8 a := by
  unfold tabf
  rw [if_pos h]
theorem step8_at4 (a : Nat) (h : a % (2 * 4) = 0) : step8 a ^^^ 3348797215 = step8 (a + 4) := by
  have hx : a + 4 = a ^^^ 4 := by
    have h2 : (2 : Nat) ^ 3 = 2 * 4 := by decide
    obtain ⟨q, rfl⟩ : ∃ q, a = 2 ^ 3 * q := ⟨a / (2 * 4), by rw [h2]; omega⟩
    apply Nat.eq_of_testBit_eq
    intro i
    rw [Nat.testBit_two_pow_mul_add _ (by decide), Nat.testBit_xor, Nat.testBit_two_pow_mul]
    by_cases hi : i < 3
    · have h8 : ¬ 3 ≤ i := by omega
      simp [hi, h8]
    · have h0 : Nat.testBit 4 i = false := Nat.testBit_lt_two_pow (Nat.lt_of_lt_of_le (by decide : 4 < 2 ^ 3) (Nat.pow_le_pow_right (by decide) (by omega)))
      have h8 : 3 ≤ i := by omega
      simp [hi, h0, h8]
  rw [hx, step8_xor, show step8 4 = 3348797215 by decide +kernel]
theorem tabf_end2 (i : Nat) (h : i < 256) : tabf 2 256 i = headf 2 i := by
  unfold tabf headf
  by_cases h1 : i % (2 * 2) = 0
  · rw [if_pos h1, if_pos (by omega)]
  · rw [if_neg h1]
    by_cases h2 : i % 2 = 0
    · rw [if_pos ⟨h2, h⟩, if_pos h2]
    · rw [if_neg (by omega), if_neg h2]
theorem tabf_next2 (a i : Nat) (h : a % (2 * 2) = 0) : (if i = a + 2 then step8 (a + 2) else tabf 2 a i) = tabf 2 (a + 2 * 2) i := by
  unfold tabf
  by_cases h1 : i = a + 2
  · subst h1
    rw [if_pos rfl, if_neg (by omega), if_pos (by omega)]
  · rw [if_neg h1]
    by_cases h2 : i % (2 * 2) = 0
    · rw [if_pos h2, if_pos h2]
    · rw [if_neg h2, if_neg h2]
      by_cases h3 : i % 2 = 0 ∧ i < a
      · rw [if_pos h3, if_pos (by omega)]
      · rw [if_neg h3, if_neg (by omega)]
theorem tabf_at2 (a : Nat) (h : a % (2 * 2) = 0) : tabf 2 a a = step8 a := by
  unfold tabf
  rw [if_pos h]
theorem step8_at2 (a : Nat) (h : a % (2 * 2) = 0) : step8 a ^^^ 3778769143 = step8 (a + 2) := by
  have hx : a + 2 = a ^^^ 2 := by
    have h2 : (2 : Nat) ^ 2 = 2 * 2 := by decide
    obtain ⟨q, rfl⟩ : ∃ q, a = 2 ^ 2 * q := ⟨a / (2 * 2), by rw [h2]; omega⟩
    apply Nat.eq_of_testBit_eq
    intro i
    rw [Nat.testBit_two_pow_mul_add _ (by decide), Nat.testBit_xor, Nat.testBit_two_pow_mul]
    by_cases hi : i < 2
    · have h8 : ¬ 2 ≤ i := by omega
      simp [hi, h8]
    · have h0 : Nat.testBit 2 i = false := Nat.testBit_lt_two_pow (Nat.lt_of_lt_of_le (by decide : 2 < 2 ^ 2) (Nat.pow_le_pow_right (by decide) (by omega)))
      have h8 : 2 ≤ i := by omega
      simp [hi, h0, h8]
  rw [hx, step8_xor, show step8 2 = 3778769143 by decide +kernel]
theorem tabf_end1 (i : Nat) (h : i < 256) : tabf 1 256 i = headf 1 i := by
  unfold tabf headf
  by_cases h1 : i % (2 * 1) = 0
  · rw [if_pos h1, if_pos (by omega)]
  · rw [if_neg h1]
    by_cases h2 : i % 1 = 0
    · rw [if_pos ⟨h2, h⟩, if_pos h2]
    · rw [if_neg (by omega), if_neg h2]
theorem tabf_next1 (a i : Nat) (h : a % (2 * 1) = 0) : (if i = a + 1 then step8 (a + 1) else tabf 1 a i) = tabf 1 (a + 2 * 1) i := by
  unfold tabf
  by_cases h1 : i = a + 1
  · subst h1
    rw [if_pos rfl, if_neg (by omega), if_pos (by omega)]
  · rw [if_neg h1]
    by_cases h2 : i % (2 * 1) = 0
    · rw [if_pos h2, if_pos h2]
    · rw [if_neg h2, if_neg h2]
      by_cases h3 : i % 1 = 0 ∧ i < a
      · rw [if_pos h3, if_pos (by omega)]
      · rw [if_neg h3, if_neg (by omega)]
theorem tabf_at1 (a : Nat) (h : a % (2 * 1) = 0) : tabf 1 a a = step8 a := by
  unfold tabf
  rw [if_pos h]
theorem step8_at1 (a : Nat) (h : a % (2 * 1) = 0) : step8 a ^^^ 4067132163 = step8 (a + 1) := by
  have hx : a + 1 = a ^^^ 1 := by
    have h2 : (2 : Nat) ^ 1 = 2 * 1 := by decide
    obtain ⟨q, rfl⟩ : ∃ q, a = 2 ^ 1 * q := ⟨a / (2 * 1), by rw [h2]; omega⟩
    apply Nat.eq_of_testBit_eq
    intro i
    rw [Nat.testBit_two_pow_mul_add _ (by decide), Nat.testBit_xor, Nat.testBit_two_pow_mul]
    by_cases hi : i < 1
    · have h8 : ¬ 1 ≤ i := by omega
      simp [hi, h8]
    · have h0 : Nat.testBit 1 i = false := Nat.testBit_lt_two_pow (Nat.lt_of_lt_of_le (by decide : 1 < 2 ^ 1) (Nat.pow_le_pow_right (by decide) (by omega)))
      have h8 : 1 ≤ i := by omega
      simp [hi, h0, h8]
  rw [hx, step8_xor, show step8 1 = 4067132163 by decide +kernel]
end Go.Proofs.Ytiokcemlfdonnaa.CrcP
end
section
namespace Go.Proofs.Ytiokcemlfdonnaa.CrcW
open Go.RowKit

/-- 256 numbers of 32 bits as cells -/
def rowU (f : Nat → Nat) : Array Value := ((List.range 256).map fun i => Value.int .u32 (f i : Int)).toArray
theorem rowU_size (f : Nat → Nat) : (rowU f).size = 256 := by simp [rowU]
theorem rowU_get (f : Nat → Nat) (i : Nat) (h : i < 256) : (rowU f)[i]? = some (.int .u32 (f i : Int)) := by simp [rowU, h]
theorem rowU_congr {f g : Nat → Nat} (h : ∀ i, i < 256 → f i = g i) : rowU f = rowU g := by
  unfold rowU
  congr 1
  refine List.map_congr_left fun i hi => ?_
  rw [h i (List.mem_range.1 hi)]
theorem rowU_set (f : Nat → Nat) (i v : Nat) : (rowU f).setIfInBounds i (.int .u32 (v : Int)) = rowU fun j => if j = i then v else f j := by
  apply Array.ext_getElem?
  intro j
  rw [Array.getElem?_setIfInBounds]
  by_cases hij : i = j
  · subst hij
    by_cases hl : i < 256
    · rw [if_pos rfl, if_pos (by rw [rowU_size]; exact hl), rowU_get _ _ hl]
      simp
    · rw [if_pos rfl, if_neg (by rw [rowU_size]; exact hl), Array.getElem?_eq_none (by rw [rowU_size]; omega)]
  · rw [if_neg hij]
    by_cases hl : j < 256
    · rw [rowU_get _ _ hl, rowU_get _ _ hl]
      simp [Ne.symm hij]
    · rw [Array.getElem?_eq_none (by rw [rowU_size]; omega), Array.getElem?_eq_none (by rw [rowU_size]; omega)]
theorem rowU_one (f : Nat → Nat) : (rowU f).all (·.oneCell') = true := by
  rw [Array.all_eq_true_iff_forall_mem]
  intro v hv
  simp [rowU] at hv
  obtain ⟨i, _, rfl⟩ := hv
  rfl
theorem zero_row : rowU (fun _ => 0) = Array.replicate 256 (.int .u32 0) := by
  apply Array.ext_getElem?
  intro j
  by_cases hl : j < 256
  · rw [rowU_get _ _ hl]
    simp [hl]
  · rw [Array.getElem?_eq_none (by rw [rowU_size]; omega), Array.getElem?_eq_none (by simp; omega)]
theorem infoT : (Try.prog.info? 159).map (fun i => (i.zero, i.size)) = some (some (.agg (Array.replicate 256 (.int .u32 0))), 256) := by kernel_rfl
theorem run_alT (w : World) : (alSem 159).run Try.prog w = .ok (.pointer (some ⟨w.heap.size, 0, none⟩)) (w.alloc (.cells (rowU fun _ => 0) 159)) := by
  obtain ⟨hz, _⟩ := zero_of_info infoT
  rw [zero_row]
  simp [alSem, Instr.alloc, hz, newVar, newRow, Value.cells]
theorem run_ldT {w : World} {b : Nat} {f : Nat → Nat} (hs : Str w b (rowU f)) : (ldSem 159 (.pointer (some ⟨b, 0, none⟩))).run Try.prog w = .ok (.agg (rowU f)) w := by
  obtain ⟨t', hg⟩ := hs
  simp only [ldSem, Instr.loadAt, Instr.sureAddr, Sem.run_bind, Sem.run_pure, Result.andThen_ok]
  exact run_loadVar_row w b t' 159 (rowU f) (0, 0) _ hg Try.underlying159 rfl (by rw [rowU_size]; exact (zero_of_info infoT).2)
theorem run_stT {w : World} {b : Nat} {g f : Nat → Nat} (hs : Str w b (rowU g)) : (stSem 159 (.pointer (some ⟨b, 0, none⟩)) (.agg (rowU f))).run Try.prog w = .ok () (w.setRow b (rowU f)) := by
  obtain ⟨t', hg⟩ := hs
  simp only [stSem, Instr.storeAt, Instr.sureAddr, Sem.run_bind, Sem.run_pure, Result.andThen_ok]
  exact run_storeVar_row w b t' 159 (rowU g) (rowU f) hg (by rw [rowU_size]; exact (zero_of_info infoT).2) (by rw [rowU_size, rowU_size]) (rowU_one f)
theorem alT_fold : Instr.alloc 159 true (.tuple #[]) = alSem 159 := rfl
theorem ldT_fold (v : Value) : Instr.loadAt 159 v = ldSem 159 v := rfl
theorem stT_fold (a v : Value) : Instr.storeAt 159 a v = stSem 159 a v := rfl
theorem results_T {fn : Func} {p : Tmp} (hr : fn.results = #[.cell p 159]) (tmps : Array Value) {w : World} {g : Nat} {f : Nat → Nat} (hs : Str w g (rowU f))
    (hp : tmps.getD p undef = .pointer (some ⟨g, 0, none⟩)) : (results fn tmps).run Try.prog w = .ok (.agg (rowU f)) w := by
  obtain ⟨t', hg⟩ := hs
  exact results_cell_row hr tmps w g t' (rowU f) (0, 0) _ hp hg Try.underlying159 rfl (by rw [rowU_size]; exact (zero_of_info infoT).2)
attribute [local go_sem ↓] alT_fold ldT_fold stT_fold

/-- the two tables while they are made -/
def Tab (w wr : World) (f : Nat → Nat) : Prop := Str wr w.heap.size (rowU fun _ => 0) ∧ Str wr (w.heap.size + 1) (rowU f) ∧ Below w.heap.size w wr
theorem Tab.congr {w wr : World} {f g : Nat → Nat} (h : Tab w wr f) (e : ∀ i, i < 256 → f i = g i) : Tab w wr g := by
  unfold Tab
  rw [← rowU_congr e]
  exact h
theorem Tab.set {w wr : World} {f : Nat → Nat} (h : Tab w wr f) (i v : Nat) : Tab w (wr.setCell ⟨w.heap.size + 1, i, none⟩ (.int .u32 (v : Int))) (fun j => if j = i then v else f j) :=
  ⟨h.1.other _ _ (by omega), by have := h.2.1.set i (.int .u32 (v : Int)); rwa [rowU_set] at this, h.2.2.setCell (by simp) _⟩

def Inner (w : World) (step : Nat) (a : Value) (wr : World) : Prop := ∃ n : Nat, n ≤ 256 ∧ n % (2 * step) = 0 ∧ a = .int .i64 (n : Int) ∧ Tab w wr (CrcP.tabf step n)
def Outer (w : World) (s i : Value) (wr : World) : Prop := ∃ k : Nat, k ≤ 8 ∧ i = .int .i64 (k : Int) ∧ s = .int .u32 ((CrcP.bits k 1 : Nat) : Int) ∧ Tab w wr (CrcP.headf (2 ^ (8 - k)))

set_option maxRecDepth 100000 in
set_option maxHeartbeats 4000000 in
theorem table_any (w : World) : Calls Try.prog 123 #[] w fun e w' => e = .returned (.agg (rowU CrcP.step8)) ∧ Below w.heap.size w w' := by
  have hal := fun W => run_alT W
  have HT : Hid (Tab w ((w.alloc (.cells (rowU fun _ => 0) 159)).alloc (.cells (rowU fun _ => 0) 159)) (CrcP.headf 256)) := Lib.hid (Tab.congr ⟨(Str.new w _ _).alloc _, (by have := Str.new (w.alloc (.cells (rowU fun _ => 0) 159)) (rowU fun _ => 0) 159; simpa using this), balloc (balloc (bsame w) _) _⟩ fun i hi => (CrcP.headf_zero i hi).symm)
  go_enter Try.func123, Try.ntmps123
  go_wp2
  clear hal
  go_loopw [2, 7] (fun s i wr => Outer w s i wr) (fun _ i _ => 8 - (intOf i).toNat)
  case atStart => exact ⟨0, by omega, rfl, rfl, HT.out⟩
  case round =>
    obtain ⟨k, hk, rfl, rfl, hT⟩ := hrel
    clear HT
    obtain ⟨wo, rfl⟩ : ∃ wo : World, wo = wr := ⟨_, rfl⟩
    have hks : k = 0 ∨ k = 1 ∨ k = 2 ∨ k = 3 ∨ k = 4 ∨ k = 5 ∨ k = 6 ∨ k = 7 ∨ k = 8 := by omega
    clear hk
    rcases hks with rfl | rfl | rfl | rfl | rfl | rfl | rfl | rfl | rfl
    · rw [show CrcP.bits 0 1 = 1 by decide +kernel]
      have hand : bits .and .u32 1 1 = 1 := by decide +kernel
      have hxor : bits .xor .u32 0 2197175160 = 2197175160 := by decide +kernel
      have HT0 : Hid (Tab w wo (CrcP.tabf 128 0)) := Lib.hid (hT.congr fun i _ => (CrcP.tabf_start 128 i).symm)
      clear hT
      go_wp2
      go_loopw [6] (fun a wr => Inner w 128 a wr) (fun a _ => 256 - (intOf a).toNat)
      case atStart => exact ⟨0, by omega, by omega, rfl, HT0.out⟩
      case round =>
        obtain ⟨a, ha, hm, rfl, hT⟩ := hrel
        by_cases hlt : a < 256
        · have hc : wr.cell? ⟨w.heap.size + 1, a, none⟩ = some (.int .u32 ((CrcP.step8 a : Nat) : Int)) := by
            rw [hT.2.1.cell, rowU_get _ _ hlt, CrcP.tabf_at128 a hm]
          have hc2 : wr.cell? ⟨w.heap.size + 1, a + 128, none⟩ = some (.int .u32 ((CrcP.tabf 128 a (a + 128) : Nat) : Int)) := by
            rw [hT.2.1.cell, rowU_get _ _ (by omega)]
          have hf := fun i => hT.2.1.frozen i
          have hx : bits .xor .u32 ((CrcP.step8 a : Nat) : Int) 2197175160 = ((CrcP.step8 (a + 128) : Nat) : Int) := by
            have := u32_xor_nat (CrcP.step8 a) 2197175160 (CrcP.step8_lt a (by omega)) (by omega)
            rw [CrcP.step8_at128 a hm] at this
            exact this
          have ht : ((a : Int) + 128).toNat = a + 128 := by omega
          have HT : Hid (Tab w (wr.setCell ⟨w.heap.size + 1, a + 128, none⟩ (.int .u32 ((CrcP.step8 (a + 128) : Nat) : Int))) (CrcP.tabf 128 (a + 2 * 128))) := Lib.hid ((hT.set (a + 128) (CrcP.step8 (a + 128))).congr fun i _ => CrcP.tabf_next128 a i hm)
          have hl1 := hT.2.1.lt
          have hb1 : (a : Int) + 128 < 256 := by omega
          clear hT
          go_wp2
          go_roundw
          case rel => exact ⟨a + 2 * 128, by omega, by omega, by go_num, HT.out⟩
          case measure => simp [intOf]; omega
        · have ha' : a = 256 := by omega
          subst ha'
          have HT : Hid (Tab w wr (CrcP.headf 128)) := Lib.hid (hT.congr fun i hi => CrcP.tabf_end128 i hi)
          clear hT
          go_wp2
          go_roundw
          case rel => exact ⟨1, by omega, by go_num, by rw [show CrcP.bits 1 1 = 2197175160 by decide +kernel]; rfl, HT.out⟩
          case measure => simp [intOf]
    · rw [show CrcP.bits 1 1 = 2197175160 by decide +kernel]
      have hand : bits .and .u32 2197175160 1 = 0 := by decide +kernel
      have HT0 : Hid (Tab w wo (CrcP.tabf 64 0)) := Lib.hid (hT.congr fun i _ => (CrcP.tabf_start 64 i).symm)
      clear hT
      go_wp2
      go_loopw [6] (fun a wr => Inner w 64 a wr) (fun a _ => 256 - (intOf a).toNat)
      case atStart => exact ⟨0, by omega, by omega, rfl, HT0.out⟩
      case round =>
        obtain ⟨a, ha, hm, rfl, hT⟩ := hrel
        by_cases hlt : a < 256
        · have hc : wr.cell? ⟨w.heap.size + 1, a, none⟩ = some (.int .u32 ((CrcP.step8 a : Nat) : Int)) := by
            rw [hT.2.1.cell, rowU_get _ _ hlt, CrcP.tabf_at64 a hm]
          have hc2 : wr.cell? ⟨w.heap.size + 1, a + 64, none⟩ = some (.int .u32 ((CrcP.tabf 64 a (a + 64) : Nat) : Int)) := by
            rw [hT.2.1.cell, rowU_get _ _ (by omega)]
          have hf := fun i => hT.2.1.frozen i
          have hx : bits .xor .u32 ((CrcP.step8 a : Nat) : Int) 1098587580 = ((CrcP.step8 (a + 64) : Nat) : Int) := by
            have := u32_xor_nat (CrcP.step8 a) 1098587580 (CrcP.step8_lt a (by omega)) (by omega)
            rw [CrcP.step8_at64 a hm] at this
            exact this
          have ht : ((a : Int) + 64).toNat = a + 64 := by omega
          have HT : Hid (Tab w (wr.setCell ⟨w.heap.size + 1, a + 64, none⟩ (.int .u32 ((CrcP.step8 (a + 64) : Nat) : Int))) (CrcP.tabf 64 (a + 2 * 64))) := Lib.hid ((hT.set (a + 64) (CrcP.step8 (a + 64))).congr fun i _ => CrcP.tabf_next64 a i hm)
          have hl1 := hT.2.1.lt
          have hb1 : (a : Int) + 64 < 256 := by omega
          clear hT
          go_wp2
          go_roundw
          case rel => exact ⟨a + 2 * 64, by omega, by omega, by go_num, HT.out⟩
          case measure => simp [intOf]; omega
        · have ha' : a = 256 := by omega
          subst ha'
          have HT : Hid (Tab w wr (CrcP.headf 64)) := Lib.hid (hT.congr fun i hi => CrcP.tabf_end64 i hi)
          clear hT
          go_wp2
          go_roundw
          case rel => exact ⟨2, by omega, by go_num, by rw [show CrcP.bits 2 1 = 1098587580 by decide +kernel]; rfl, HT.out⟩
          case measure => simp [intOf]
    · rw [show CrcP.bits 2 1 = 1098587580 by decide +kernel]
      have hand : bits .and .u32 1098587580 1 = 0 := by decide +kernel
      have HT0 : Hid (Tab w wo (CrcP.tabf 32 0)) := Lib.hid (hT.congr fun i _ => (CrcP.tabf_start 32 i).symm)
      clear hT
      go_wp2
      go_loopw [6] (fun a wr => Inner w 32 a wr) (fun a _ => 256 - (intOf a).toNat)
      case atStart => exact ⟨0, by omega, by omega, rfl, HT0.out⟩
      case round =>
        obtain ⟨a, ha, hm, rfl, hT⟩ := hrel
        by_cases hlt : a < 256
        · have hc : wr.cell? ⟨w.heap.size + 1, a, none⟩ = some (.int .u32 ((CrcP.step8 a : Nat) : Int)) := by
            rw [hT.2.1.cell, rowU_get _ _ hlt, CrcP.tabf_at32 a hm]
          have hc2 : wr.cell? ⟨w.heap.size + 1, a + 32, none⟩ = some (.int .u32 ((CrcP.tabf 32 a (a + 32) : Nat) : Int)) := by
            rw [hT.2.1.cell, rowU_get _ _ (by omega)]
          have hf := fun i => hT.2.1.frozen i
          have hx : bits .xor .u32 ((CrcP.step8 a : Nat) : Int) 549293790 = ((CrcP.step8 (a + 32) : Nat) : Int) := by
            have := u32_xor_nat (CrcP.step8 a) 549293790 (CrcP.step8_lt a (by omega)) (by omega)
            rw [CrcP.step8_at32 a hm] at this
            exact this
          have ht : ((a : Int) + 32).toNat = a + 32 := by omega
          have HT : Hid (Tab w (wr.setCell ⟨w.heap.size + 1, a + 32, none⟩ (.int .u32 ((CrcP.step8 (a + 32) : Nat) : Int))) (CrcP.tabf 32 (a + 2 * 32))) := Lib.hid ((hT.set (a + 32) (CrcP.step8 (a + 32))).congr fun i _ => CrcP.tabf_next32 a i hm)
          have hl1 := hT.2.1.lt
          have hb1 : (a : Int) + 32 < 256 := by omega
          clear hT
          go_wp2
          go_roundw
          case rel => exact ⟨a + 2 * 32, by omega, by omega, by go_num, HT.out⟩
          case measure => simp [intOf]; omega
        · have ha' : a = 256 := by omega
          subst ha'
          have HT : Hid (Tab w wr (CrcP.headf 32)) := Lib.hid (hT.congr fun i hi => CrcP.tabf_end32 i hi)
          clear hT
          go_wp2
          go_roundw
          case rel => exact ⟨3, by omega, by go_num, by rw [show CrcP.bits 3 1 = 549293790 by decide +kernel]; rfl, HT.out⟩
          case measure => simp [intOf]
    · rw [show CrcP.bits 3 1 = 549293790 by decide +kernel]
      have hand : bits .and .u32 549293790 1 = 0 := by decide +kernel
      have HT0 : Hid (Tab w wo (CrcP.tabf 16 0)) := Lib.hid (hT.congr fun i _ => (CrcP.tabf_start 16 i).symm)
      clear hT
      go_wp2
      go_loopw [6] (fun a wr => Inner w 16 a wr) (fun a _ => 256 - (intOf a).toNat)
      case atStart => exact ⟨0, by omega, by omega, rfl, HT0.out⟩
      case round =>
        obtain ⟨a, ha, hm, rfl, hT⟩ := hrel
        by_cases hlt : a < 256
        · have hc : wr.cell? ⟨w.heap.size + 1, a, none⟩ = some (.int .u32 ((CrcP.step8 a : Nat) : Int)) := by
            rw [hT.2.1.cell, rowU_get _ _ hlt, CrcP.tabf_at16 a hm]
          have hc2 : wr.cell? ⟨w.heap.size + 1, a + 16, none⟩ = some (.int .u32 ((CrcP.tabf 16 a (a + 16) : Nat) : Int)) := by
            rw [hT.2.1.cell, rowU_get _ _ (by omega)]
          have hf := fun i => hT.2.1.frozen i
          have hx : bits .xor .u32 ((CrcP.step8 a : Nat) : Int) 274646895 = ((CrcP.step8 (a + 16) : Nat) : Int) := by
            have := u32_xor_nat (CrcP.step8 a) 274646895 (CrcP.step8_lt a (by omega)) (by omega)
            rw [CrcP.step8_at16 a hm] at this
            exact this
          have ht : ((a : Int) + 16).toNat = a + 16 := by omega
          have HT : Hid (Tab w (wr.setCell ⟨w.heap.size + 1, a + 16, none⟩ (.int .u32 ((CrcP.step8 (a + 16) : Nat) : Int))) (CrcP.tabf 16 (a + 2 * 16))) := Lib.hid ((hT.set (a + 16) (CrcP.step8 (a + 16))).congr fun i _ => CrcP.tabf_next16 a i hm)
          have hl1 := hT.2.1.lt
          have hb1 : (a : Int) + 16 < 256 := by omega
          clear hT
          go_wp2
          go_roundw
          case rel => exact ⟨a + 2 * 16, by omega, by omega, by go_num, HT.out⟩
          case measure => simp [intOf]; omega
        · have ha' : a = 256 := by omega
          subst ha'
          have HT : Hid (Tab w wr (CrcP.headf 16)) := Lib.hid (hT.congr fun i hi => CrcP.tabf_end16 i hi)
          clear hT
          go_wp2
          go_roundw
          case rel => exact ⟨4, by omega, by go_num, by rw [show CrcP.bits 4 1 = 274646895 by decide +kernel]; rfl, HT.out⟩
          case measure => simp [intOf]
    · rw [show CrcP.bits 4 1 = 274646895 by decide +kernel]
      have hand : bits .and .u32 274646895 1 = 1 := by decide +kernel
      have hxor : bits .xor .u32 137323447 2197175160 = 2329499855 := by decide +kernel
      have HT0 : Hid (Tab w wo (CrcP.tabf 8 0)) := Lib.hid (hT.congr fun i _ => (CrcP.tabf_start 8 i).symm)
      clear hT
      go_wp2
      go_loopw [6] (fun a wr => Inner w 8 a wr) (fun a _ => 256 - (intOf a).toNat)
      case atStart => exact ⟨0, by omega, by omega, rfl, HT0.out⟩
      case round =>
        obtain ⟨a, ha, hm, rfl, hT⟩ := hrel
        by_cases hlt : a < 256
        · have hc : wr.cell? ⟨w.heap.size + 1, a, none⟩ = some (.int .u32 ((CrcP.step8 a : Nat) : Int)) := by
            rw [hT.2.1.cell, rowU_get _ _ hlt, CrcP.tabf_at8 a hm]
          have hc2 : wr.cell? ⟨w.heap.size + 1, a + 8, none⟩ = some (.int .u32 ((CrcP.tabf 8 a (a + 8) : Nat) : Int)) := by
            rw [hT.2.1.cell, rowU_get _ _ (by omega)]
          have hf := fun i => hT.2.1.frozen i
          have hx : bits .xor .u32 ((CrcP.step8 a : Nat) : Int) 2329499855 = ((CrcP.step8 (a + 8) : Nat) : Int) := by
            have := u32_xor_nat (CrcP.step8 a) 2329499855 (CrcP.step8_lt a (by omega)) (by omega)
            rw [CrcP.step8_at8 a hm] at this
            exact this
          have ht : ((a : Int) + 8).toNat = a + 8 := by omega
          have HT : Hid (Tab w (wr.setCell ⟨w.heap.size + 1, a + 8, none⟩ (.int .u32 ((CrcP.step8 (a + 8) : Nat) : Int))) (CrcP.tabf 8 (a + 2 * 8))) := Lib.hid ((hT.set (a + 8) (CrcP.step8 (a + 8))).congr fun i _ => CrcP.tabf_next8 a i hm)
          have hl1 := hT.2.1.lt
          have hb1 : (a : Int) + 8 < 256 := by omega
          clear hT
          go_wp2
          go_roundw
          case rel => exact ⟨a + 2 * 8, by omega, by omega, by go_num, HT.out⟩
          case measure => simp [intOf]; omega
        · have ha' : a = 256 := by omega
          subst ha'
          have HT : Hid (Tab w wr (CrcP.headf 8)) := Lib.hid (hT.congr fun i hi => CrcP.tabf_end8 i hi)
          clear hT
          go_wp2
          go_roundw
          case rel => exact ⟨5, by omega, by go_num, by rw [show CrcP.bits 5 1 = 2329499855 by decide +kernel]; rfl, HT.out⟩
          case measure => simp [intOf]
    · rw [show CrcP.bits 5 1 = 2329499855 by decide +kernel]
      have hand : bits .and .u32 2329499855 1 = 1 := by decide +kernel
      have hxor : bits .xor .u32 1164749927 2197175160 = 3348797215 := by decide +kernel
      have HT0 : Hid (Tab w wo (CrcP.tabf 4 0)) := Lib.hid (hT.congr fun i _ => (CrcP.tabf_start 4 i).symm)
      clear hT
      go_wp2
      go_loopw [6] (fun a wr => Inner w 4 a wr) (fun a _ => 256 - (intOf a).toNat)
      case atStart => exact ⟨0, by omega, by omega, rfl, HT0.out⟩
      case round =>
        obtain ⟨a, ha, hm, rfl, hT⟩ := hrel
        by_cases hlt : a < 256
        · have hc : wr.cell? ⟨w.heap.size + 1, a, none⟩ = some (.int .u32 ((CrcP.step8 a : Nat) : Int)) := by
            rw [hT.2.1.cell, rowU_get _ _ hlt, CrcP.tabf_at4 a hm]
          have hc2 : wr.cell? ⟨w.heap.size + 1, a + 4, none⟩ = some (.int .u32 ((CrcP.tabf 4 a (a + 4) : Nat) : Int)) := by
            rw [hT.2.1.cell, rowU_get _ _ (by omega)]
          have hf := fun i => hT.2.1.frozen i
          have hx : bits .xor .u32 ((CrcP.step8 a : Nat) : Int) 3348797215 = ((CrcP.step8 (a + 4) : Nat) : Int) := by
            have := u32_xor_nat (CrcP.step8 a) 3348797215 (CrcP.step8_lt a (by omega)) (by omega)
            rw [CrcP.step8_at4 a hm] at this
            exact this
          have ht : ((a : Int) + 4).toNat = a + 4 := by omega
          have HT : Hid (Tab w (wr.setCell ⟨w.heap.size + 1, a + 4, none⟩ (.int .u32 ((CrcP.step8 (a + 4) : Nat) : Int))) (CrcP.tabf 4 (a + 2 * 4))) := Lib.hid ((hT.set (a + 4) (CrcP.step8 (a + 4))).congr fun i _ => CrcP.tabf_next4 a i hm)
          have hl1 := hT.2.1.lt
          have hb1 : (a : Int) + 4 < 256 := by omega
          clear hT
          go_wp2
          go_roundw
          case rel => exact ⟨a + 2 * 4, by omega, by omega, by go_num, HT.out⟩
          case measure => simp [intOf]; omega
        · have ha' : a = 256 := by omega
          subst ha'
          have HT : Hid (Tab w wr (CrcP.headf 4)) := Lib.hid (hT.congr fun i hi => CrcP.tabf_end4 i hi)
          clear hT
          go_wp2
          go_roundw
          case rel => exact ⟨6, by omega, by go_num, by rw [show CrcP.bits 6 1 = 3348797215 by decide +kernel]; rfl, HT.out⟩
          case measure => simp [intOf]
    · rw [show CrcP.bits 6 1 = 3348797215 by decide +kernel]
      have hand : bits .and .u32 3348797215 1 = 1 := by decide +kernel
      have hxor : bits .xor .u32 1674398607 2197175160 = 3778769143 := by decide +kernel
      have HT0 : Hid (Tab w wo (CrcP.tabf 2 0)) := Lib.hid (hT.congr fun i _ => (CrcP.tabf_start 2 i).symm)
      clear hT
      go_wp2
      go_loopw [6] (fun a wr => Inner w 2 a wr) (fun a _ => 256 - (intOf a).toNat)
      case atStart => exact ⟨0, by omega, by omega, rfl, HT0.out⟩
      case round =>
        obtain ⟨a, ha, hm, rfl, hT⟩ := hrel
        by_cases hlt : a < 256
        · have hc : wr.cell? ⟨w.heap.size + 1, a, none⟩ = some (.int .u32 ((CrcP.step8 a : Nat) : Int)) := by
            rw [hT.2.1.cell, rowU_get _ _ hlt, CrcP.tabf_at2 a hm]
          have hc2 : wr.cell? ⟨w.heap.size + 1, a + 2, none⟩ = some (.int .u32 ((CrcP.tabf 2 a (a + 2) : Nat) : Int)) := by
            rw [hT.2.1.cell, rowU_get _ _ (by omega)]
          have hf := fun i => hT.2.1.frozen i
          have hx : bits .xor .u32 ((CrcP.step8 a : Nat) : Int) 3778769143 = ((CrcP.step8 (a + 2) : Nat) : Int) := by
            have := u32_xor_nat (CrcP.step8 a) 3778769143 (CrcP.step8_lt a (by omega)) (by omega)
            rw [CrcP.step8_at2 a hm] at this
            exact this
          have ht : ((a : Int) + 2).toNat = a + 2 := by omega
          have HT : Hid (Tab w (wr.setCell ⟨w.heap.size + 1, a + 2, none⟩ (.int .u32 ((CrcP.step8 (a + 2) : Nat) : Int))) (CrcP.tabf 2 (a + 2 * 2))) := Lib.hid ((hT.set (a + 2) (CrcP.step8 (a + 2))).congr fun i _ => CrcP.tabf_next2 a i hm)
          have hl1 := hT.2.1.lt
          have hb1 : (a : Int) + 2 < 256 := by omega
          clear hT
          go_wp2
          go_roundw
          case rel => exact ⟨a + 2 * 2, by omega, by omega, by go_num, HT.out⟩
          case measure => simp [intOf]; omega
        · have ha' : a = 256 := by omega
          subst ha'
          have HT : Hid (Tab w wr (CrcP.headf 2)) := Lib.hid (hT.congr fun i hi => CrcP.tabf_end2 i hi)
          clear hT
          go_wp2
          go_roundw
          case rel => exact ⟨7, by omega, by go_num, by rw [show CrcP.bits 7 1 = 3778769143 by decide +kernel]; rfl, HT.out⟩
          case measure => simp [intOf]
    · rw [show CrcP.bits 7 1 = 3778769143 by decide +kernel]
      have hand : bits .and .u32 3778769143 1 = 1 := by decide +kernel
      have hxor : bits .xor .u32 1889384571 2197175160 = 4067132163 := by decide +kernel
      have HT0 : Hid (Tab w wo (CrcP.tabf 1 0)) := Lib.hid (hT.congr fun i _ => (CrcP.tabf_start 1 i).symm)
      clear hT
      go_wp2
      go_loopw [6] (fun a wr => Inner w 1 a wr) (fun a _ => 256 - (intOf a).toNat)
      case atStart => exact ⟨0, by omega, by omega, rfl, HT0.out⟩
      case round =>
        obtain ⟨a, ha, hm, rfl, hT⟩ := hrel
        by_cases hlt : a < 256
        · have hc : wr.cell? ⟨w.heap.size + 1, a, none⟩ = some (.int .u32 ((CrcP.step8 a : Nat) : Int)) := by
            rw [hT.2.1.cell, rowU_get _ _ hlt, CrcP.tabf_at1 a hm]
          have hc2 : wr.cell? ⟨w.heap.size + 1, a + 1, none⟩ = some (.int .u32 ((CrcP.tabf 1 a (a + 1) : Nat) : Int)) := by
            rw [hT.2.1.cell, rowU_get _ _ (by omega)]
          have hf := fun i => hT.2.1.frozen i
          have hx : bits .xor .u32 ((CrcP.step8 a : Nat) : Int) 4067132163 = ((CrcP.step8 (a + 1) : Nat) : Int) := by
            have := u32_xor_nat (CrcP.step8 a) 4067132163 (CrcP.step8_lt a (by omega)) (by omega)
            rw [CrcP.step8_at1 a hm] at this
            exact this
          have ht : ((a : Int) + 1).toNat = a + 1 := by omega
          have HT : Hid (Tab w (wr.setCell ⟨w.heap.size + 1, a + 1, none⟩ (.int .u32 ((CrcP.step8 (a + 1) : Nat) : Int))) (CrcP.tabf 1 (a + 2 * 1))) := Lib.hid ((hT.set (a + 1) (CrcP.step8 (a + 1))).congr fun i _ => CrcP.tabf_next1 a i hm)
          have hl1 := hT.2.1.lt
          have hb1 : (a : Int) + 1 < 256 := by omega
          clear hT
          go_wp2
          go_roundw
          case rel => exact ⟨a + 2 * 1, by omega, by omega, by go_num, HT.out⟩
          case measure => simp [intOf]; omega
        · have ha' : a = 256 := by omega
          subst ha'
          have HT : Hid (Tab w wr (CrcP.headf 1)) := Lib.hid (hT.congr fun i hi => CrcP.tabf_end1 i hi)
          clear hT
          go_wp2
          go_roundw
          case rel => exact ⟨8, by omega, by go_num, by rw [show CrcP.bits 8 1 = 4067132163 by decide +kernel]; rfl, HT.out⟩
          case measure => simp [intOf]
    · have hld := run_ldT hT.2.1
      have hst := run_stT (f := CrcP.headf 1) hT.1
      have HS := Lib.hid (hT.1.setRow (cs' := rowU (CrcP.headf 1)))
      have HB := Lib.hid (below_setRow hT.2.2 (Nat.le_refl _) (rowU (CrcP.headf 1)))
      have he : rowU CrcP.step8 = rowU (CrcP.headf 1) := rowU_congr fun i _ => (CrcP.headf_one i).symm
      have HE := Lib.hid he
      clear hT he
      go_wp2
      refine bodyPost_ret (v := .agg (rowU (CrcP.headf 1))) (results_T Try.results123 _ HS.out rfl) rfl ⟨?_, HB.out⟩
      rw [HE.out]
end Go.Proofs.Ytiokcemlfdonnaa.CrcW
end
section
namespace Go.Proofs.Ytiokcemlfdonnaa.RefBytes
open Go.RowKit
attribute [local go_sem ↓] app_fold

/-- what is left of a number when k bytes are gone -/
def sh (m : Int) (k : Nat) : Nat := BeP.u64 m / 256 ^ k
theorem sh_zero (m : Int) : sh m 0 = BeP.u64 m := by simp [sh]
theorem sh_succ (m : Int) (k : Nat) : sh m (k + 1) = sh m k / 256 := by
  unfold sh
  rw [Nat.div_div_eq_div_mul, Nat.pow_succ]
theorem sh_lt (m : Int) (k : Nat) : sh m k < 18446744073709551616 := Nat.lt_of_le_of_lt (Nat.div_le_self _ _) (NumP.u64_lt m)
theorem wrap_quo (q : Nat) (h : q < 18446744073709551616) : IntKind.u64.wrap ((q : Int) / 256) = ((q / 256 : Nat) : Int) := by
  have h2 : BeP.u64 ((q : Int) / 256) = q / 256 := by unfold BeP.u64; omega
  rw [BeP.u64_wrap, h2]
/-- what holds at a round's head -/
def Rel (w : World) (width : Nat) (m : Int) (u out i : Value) (wr : World) : Prop :=
  ∃ (k : Nat) (A : Option Addr) (c : Nat), k ≤ width ∧ i = .int .i64 k ∧ u = .int .u64 ((sh m k : Nat) : Int) ∧ out = .slice A k c ∧ Bytes wr wr.heap.size A k c ((BeP.parts width m).drop (width - k)) ∧ Below w.heap.size w wr

theorem drop_step (width : Nat) (m : Int) (k : Nat) (h : k < width) : (BeP.parts width m).drop (width - (k + 1)) = UInt8.ofNat (sh m k) :: (BeP.parts width m).drop (width - k) := by
  have hl : width - (k + 1) < (BeP.parts width m).length := by rw [BeP.parts_length]; omega
  rw [List.drop_eq_getElem_cons hl, show width - (k + 1) + 1 = width - k by omega]
  congr 1
  simp only [BeP.parts, List.getElem_map, List.getElem_range, BeP.part]
  have : (2 : Nat) ^ (8 * (width - 1 - (width - (k + 1)))) = 256 ^ k := by
    rw [show width - 1 - (width - (k + 1)) = k by omega, Nat.pow_mul]
  rw [this]
  rfl

set_option maxRecDepth 100000 in
set_option maxHeartbeats 1000000 in
theorem bytes_any (width : Nat) (m : Int) (w : World) (hw8 : width ≤ 8) :
    Calls Try.prog 41 #[.int .i64 (width : Int), .int .i64 m] w (GivesBytes w (BeP.parts width m)) := by
  obtain ⟨i0, hi, hz0, hz1, hz2⟩ := info_parts Be.infoU8
  have hw := BeP.u64_wrap m
  have h8 : decide ((width : Int) ≤ 8) = true := by simp; omega
  go_enter Try.func41, Try.ntmps41
  go_wp2
  go_loopw [5, 6, 7] (fun u out i wr => Rel w width m u out i wr) (fun _ _ i _ => width - (intOf i).toNat)
  case atStart => exact ⟨0, none, 0, Nat.zero_le _, rfl, by rw [sh_zero], rfl, by rw [List.drop_eq_nil_of_le (by rw [BeP.parts_length]; omega)]; exact Bytes.none_ w _, bsame w⟩
  case round =>
    obtain ⟨k, A, c, hk, rfl, rfl, rfl, hby, hb⟩ := hrel
    have HBY := Lib.hid hby
    have HB := Lib.hid hb
    clear hby hb hw
    by_cases hlt : k < width
    · have HD := Lib.hid (drop_step width m k hlt)
      have HP := Lib.hid (sh_succ m k)
      have HQ := Lib.hid (wrap_quo _ (sh_lt m k))
      obtain ⟨q, hq⟩ : ∃ q, sh m k = q := ⟨_, rfl⟩
      rw [hq] at HD HP HQ ⊢
      clear hq
      have hv : Value.int .u8 ((q : Int) % 256) = byteV (UInt8.ofNat q) := by
        unfold byteV
        have : (UInt8.ofNat q).toNat = q % 256 := by simp
        rw [this]
        simp
      have hown0 : (wr.alloc (.cells #[.int .u8 ((q : Int) % 256)] 5)).ownsRow w.heap.size 5 1 (.slice (some ⟨wr.heap.size, 0, none⟩) 1 1) 1 [byteV (UInt8.ofNat q)] :=
        ⟨rfl, .inr ⟨_, _, _, rfl, HB.out.size, heap_alloc_new wr _, Nat.le_refl _, by decide, rfl, by simp [hv]⟩⟩
      clear hv
      obtain ⟨v', w', happ, hown, hgrow⟩ := run_append_bytes (P := Try.prog) (wr.alloc (.cells #[.int .u8 ((q : Int) % 256)] 5)) w.heap.size 23 23 5 i0 _ Try.underlying23 hi hz0 hz1 hz2 rfl _ 1 _ hown0 wr.heap.size A k c _ (HBY.out.alloc (Nat.le_refl _) _) (by omega) (by have := HB.out.size; simp; omega)
      have hbw : Below w.heap.size w w' := (balloc HB.out _).grown hgrow (by have := HB.out.size; simp; omega) (own_block hown0)
      obtain ⟨A', n', c', rfl, hby'⟩ := Bytes.of_own (l := UInt8.ofNat q :: (BeP.parts width m).drop (width - k)) (by simpa using hown)
      have HBW := Lib.hid hbw
      have HBY' := Lib.hid hby'
      have HN := Lib.hid hby'.len
      clear hown0 hown hgrow hbw hby'
      go_wp2
      go_roundw
      case rel =>
        have hn : n' = k + 1 := by have := HN.out; simp [BeP.parts_length] at this; omega
        subst hn
        refine ⟨k + 1, A', c', by omega, by go_num, ?_, rfl, ?_, HBW.out⟩
        · rw [HP.out]
          exact congrArg (Value.int .u64) HQ.out
        · rw [HD.out]
          exact HBY'.out
      case measure => simp [intOf]; omega
    · go_wp2
      go_ret
      have hk' : width - k = 0 := by omega
      have := HBY.out
      rw [hk', List.drop_zero] at this
      exact ⟨A, k, c, rfl, this, HB.out⟩
end Go.Proofs.Ytiokcemlfdonnaa.RefBytes
end
