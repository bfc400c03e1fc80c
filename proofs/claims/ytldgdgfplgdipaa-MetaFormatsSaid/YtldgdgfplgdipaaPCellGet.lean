/-
  Plain words on the cell with which bytes begin. No program in sight.
-/
import Derived.Test.YtldgdgfplgdipaaPCell
import Derived.Test.YtldgdgfplgdipaaPNum
namespace Go.Proofs.Ytldgdgfplgdipaa.CellP

/-- the second byte, as a number -/
def len1 (l : List UInt8) : Nat := (l.getD 1 0).toNat
/-- the cell with which bytes begin, how many bytes it takes, the error's number -/
def get (l : List UInt8) : Cell × Int × Int :=
  if l.length < 1 then (none, 0, 13)
  else if NumP.val l 0 1 = 1 then
    (if l.length < 2 ∨ l.length < 2 + len1 l then (none, 0, 13) else if 32 < len1 l then (none, 0, 12) else (⟨1, (l.drop 2).take (len1 l), 0, 0, 0⟩, 2 + (len1 l : Int), 0))
  else if NumP.val l 0 1 = 2 then
    (if l.length < 25 then (none, 0, 13) else if NumP.val l 1 8 ≤ NumP.val l 17 8 ∧ NumP.val l 17 8 ≤ NumP.val l 9 8 then (⟨2, [], NumP.val l 1 8, NumP.val l 9 8, NumP.val l 17 8⟩, 25, 0) else (none, 0, 12))
  else (none, 0, 12)

theorem len1_val (l : List UInt8) (h : 2 ≤ l.length) : NumP.val l 1 1 = (len1 l : Int) := by
  match l, h with
  | a :: b :: r, _ => exact NumP.val_one [a] r b
theorem len1_lt (l : List UInt8) : len1 l < 256 := (l.getD 1 0).toNat_lt
theorem val_in (l : List UInt8) (a width : Nat) (h : width ≤ 8) : In64 (NumP.val l a width) := by
  unfold NumP.val
  split
  · exact NumP.toI_in _ (NumP.num_lt8 _ (by simp; omega))
  · unfold In64; omega
theorem get_short (l : List UInt8) (h : l.length < 1) : get l = (none, 0, 13) := by simp only [get]; rw [if_pos h]
theorem get_rec_short (l : List UInt8) (h : ¬ l.length < 1) (hk : NumP.val l 0 1 = 1) (h2 : l.length < 2 ∨ l.length < 2 + len1 l) : get l = (none, 0, 13) := by
  simp only [get]; rw [if_neg h, if_pos hk, if_pos h2]
theorem get_rec_form (l : List UInt8) (h : ¬ l.length < 1) (hk : NumP.val l 0 1 = 1) (h2 : ¬ (l.length < 2 ∨ l.length < 2 + len1 l)) (h3 : 32 < len1 l) : get l = (none, 0, 12) := by
  simp only [get]; rw [if_neg h, if_pos hk, if_neg h2, if_pos h3]
theorem get_rec (l : List UInt8) (h : ¬ l.length < 1) (hk : NumP.val l 0 1 = 1) (h2 : ¬ (l.length < 2 ∨ l.length < 2 + len1 l)) (h3 : ¬ 32 < len1 l) : get l = (⟨1, (l.drop 2).take (len1 l), 0, 0, 0⟩, 2 + (len1 l : Int), 0) := by
  simp only [get]; rw [if_neg h, if_pos hk, if_neg h2, if_neg h3]
theorem get_cnt_short (l : List UInt8) (h : ¬ l.length < 1) (hk : NumP.val l 0 1 = 2) (h2 : l.length < 25) : get l = (none, 0, 13) := by
  simp only [get]; rw [if_neg h, if_neg (by omega), if_pos hk, if_pos h2]
theorem get_cnt_form (l : List UInt8) (h : ¬ l.length < 1) (hk : NumP.val l 0 1 = 2) (h2 : ¬ l.length < 25) (h3 : ¬ (NumP.val l 1 8 ≤ NumP.val l 17 8 ∧ NumP.val l 17 8 ≤ NumP.val l 9 8)) : get l = (none, 0, 12) := by
  simp only [get]; rw [if_neg h, if_neg (by omega), if_pos hk, if_neg h2, if_neg h3]
theorem get_cnt (l : List UInt8) (h : ¬ l.length < 1) (hk : NumP.val l 0 1 = 2) (h2 : ¬ l.length < 25) (h3 : NumP.val l 1 8 ≤ NumP.val l 17 8 ∧ NumP.val l 17 8 ≤ NumP.val l 9 8) :
    get l = (⟨2, [], NumP.val l 1 8, NumP.val l 9 8, NumP.val l 17 8⟩, 25, 0) := by
  simp only [get]; rw [if_neg h, if_neg (by omega), if_pos hk, if_neg h2, if_pos h3]
theorem get_other (l : List UInt8) (h : ¬ l.length < 1) (hk : NumP.val l 0 1 ≠ 1) (hk2 : NumP.val l 0 1 ≠ 2) : get l = (none, 0, 12) := by
  simp only [get]; rw [if_neg h, if_neg hk, if_neg hk2]

theorem right_rec (d : List UInt8) (h : d.length ≤ 32) : right ⟨1, d, 0, 0, 0⟩ = true := by simp [right, h]
theorem right_rec_no (d : List UInt8) (h : ¬ d.length ≤ 32) : right ⟨1, d, 0, 0, 0⟩ = false := by simp [right, h]
theorem right_cnt (lo hi v : Int) (h : lo ≤ v ∧ v ≤ hi) : right ⟨2, [], lo, hi, v⟩ = true := by simp [right, h]
theorem right_cnt_no (lo hi v : Int) (h : ¬ (lo ≤ v ∧ v ≤ hi)) : right ⟨2, [], lo, hi, v⟩ = false := by
  simp [right]
  omega
theorem right_other (k : Int) (d : List UInt8) (lo hi v : Int) (h1 : k ≠ 1) (h2 : k ≠ 2) : right ⟨k, d, lo, hi, v⟩ = false := by simp [right, h1, h2]
/-- a cell that may be is got out of its bytes -/
theorem get_bytes (c : Cell) (post : List UInt8) (hr : right c = true) (hi : In64 c.lo ∧ In64 c.hi ∧ In64 c.val) : get (bytes c ++ post) = (c, ((bytes c).length : Int), 0) := by
  obtain ⟨k, d, lo, hi', v⟩ := c
  obtain ⟨i1, i2, i3⟩ := hi
  dsimp only at *
  have hr' := hr
  by_cases hk : k = 1
  · subst hk
    simp [right] at hr'
    obtain ⟨hd, rfl, rfl, rfl⟩ := hr'
    have hb : bytes ⟨1, d, 0, 0, 0⟩ = 1 :: UInt8.ofNat d.length :: d := by
      unfold bytes
      rw [if_pos hr, if_pos rfl]
      rfl
    rw [hb]
    have hn : (UInt8.ofNat d.length).toNat = d.length := by simp; omega
    have hl1 : len1 (1 :: UInt8.ofNat d.length :: d ++ post) = d.length := by simp [len1]; omega
    have hv : NumP.val (1 :: UInt8.ofNat d.length :: d ++ post) 0 1 = 1 := NumP.val_one [] (UInt8.ofNat d.length :: d ++ post) 1
    rw [get_rec _ (by simp) hv (by rw [hl1]; simp; omega) (by rw [hl1]; omega), hl1]
    simp
    omega
  · have hk2 : k = 2 := by simp [right, hk] at hr'; exact hr'.1
    subst hk2
    simp [right] at hr'
    obtain ⟨rfl, h1, h2⟩ := hr'
    have hb : bytes ⟨2, [], lo, hi', v⟩ = 2 :: (BeP.parts 8 lo ++ (BeP.parts 8 hi' ++ BeP.parts 8 v)) := by
      unfold bytes
      rw [if_pos hr, if_neg (by simp)]
      rfl
    rw [hb]
    have p1 := BeP.parts_length 8 lo
    have p2 := BeP.parts_length 8 hi'
    have p3 := BeP.parts_length 8 v
    have hv : NumP.val (2 :: (BeP.parts 8 lo ++ (BeP.parts 8 hi' ++ BeP.parts 8 v)) ++ post) 0 1 = 2 := NumP.val_one [] _ 2
    have e1 : NumP.val (2 :: (BeP.parts 8 lo ++ (BeP.parts 8 hi' ++ BeP.parts 8 v)) ++ post) 1 8 = lo := by
      have := NumP.val_parts8 [2] (BeP.parts 8 hi' ++ (BeP.parts 8 v ++ post)) lo i1
      simpa using this
    have e2 : NumP.val (2 :: (BeP.parts 8 lo ++ (BeP.parts 8 hi' ++ BeP.parts 8 v)) ++ post) 9 8 = hi' := by
      have := NumP.val_parts8 (2 :: BeP.parts 8 lo) (BeP.parts 8 v ++ post) hi' i2
      simpa [p1] using this
    have e3 : NumP.val (2 :: (BeP.parts 8 lo ++ (BeP.parts 8 hi' ++ BeP.parts 8 v)) ++ post) 17 8 = v := by
      have := NumP.val_parts8 (2 :: BeP.parts 8 lo ++ BeP.parts 8 hi') post v i3
      simpa [p1, p2] using this
    rw [get_cnt _ (by simp) hv (by simp [p1, p2, p3]; omega) (by rw [e1, e2, e3]; exact ⟨h1, h2⟩), e1, e2, e3]
    simp [p1, p2, p3]
end Go.Proofs.Ytldgdgfplgdipaa.CellP
