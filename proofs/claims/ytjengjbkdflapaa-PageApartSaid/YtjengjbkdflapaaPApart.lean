/-
  Plain words on parts of a page that lie apart. No program in sight.
-/
import Derived.Test.YtjengjbkdflapaaPPage
namespace Go.Proofs.Ytjengjbkdflapaa.PageP
open SlotP

theorem over_get (l : List UInt8) (a : Nat) (s : List UInt8) (h : a + s.length ≤ l.length) (k : Nat) : (over l a s)[k]? = if k < a then l[k]? else if k < a + s.length then s[k - a]? else l[k]? := by
  unfold over
  have ht : (l.take a).length = a := by rw [List.length_take]; omega
  by_cases h1 : k < a
  · rw [if_pos h1, List.getElem?_append_left (by omega), List.getElem?_take, if_pos h1]
  · rw [if_neg h1, List.getElem?_append_right (by omega), ht]
    by_cases h2 : k < a + s.length
    · rw [if_pos h2, List.getElem?_append_left (by omega)]
    · rw [if_neg h2, List.getElem?_append_right (by omega), List.getElem?_drop]
      congr 1
      omega
theorem over_comm (l : List UInt8) (a b : Nat) (s t : List UInt8) (h : a + s.length ≤ b) (hb : b + t.length ≤ l.length) : over (over l a s) b t = over (over l b t) a s := by
  apply List.ext_getElem?
  intro k
  rw [over_get _ _ _ (by rw [over_length _ _ _ (by omega)]; omega), over_get _ _ _ (by omega), over_get _ _ _ (by rw [over_length _ _ _ (by omega)]; omega), over_get _ _ _ (by omega)]
  split <;> split <;> (try split) <;> (try split) <;> first | rfl | omega
theorem part_get (l : List UInt8) (b n k : Nat) : ((l.drop b).take n)[k]? = if k < n then l[b + k]? else none := by
  rw [List.getElem?_take]
  split
  · rw [List.getElem?_drop]
  · rfl
theorem over_apart (l : List UInt8) (a : Nat) (s : List UInt8) (h : a + s.length ≤ l.length) (b n : Nat) (hd : b + n ≤ a ∨ a + s.length ≤ b) : ((over l a s).drop b).take n = (l.drop b).take n := by
  apply List.ext_getElem?
  intro k
  rw [part_get, part_get]
  split
  · rw [over_get _ _ _ h]
    split
    · rfl
    · split
      · omega
      · rfl
  · rfl
theorem over_there (l : List UInt8) (a : Nat) (s : List UInt8) (h : a + s.length ≤ l.length) (n : Nat) (hn : n = s.length) : ((over l a s).drop a).take n = s := by
  subst hn
  unfold over
  rw [List.drop_append_of_le_length (by rw [List.length_take]; omega), List.drop_of_length_le (by rw [List.length_take]; omega), List.nil_append, List.take_append_of_le_length (Nat.le_refl _), List.take_of_length_le (Nat.le_refl _)]
theorem val_apart (l : List UInt8) (a : Nat) (s : List UInt8) (h : a + s.length ≤ l.length) (b n : Nat) (hd : b + n ≤ a ∨ a + s.length ≤ b) : NumP.val (over l a s) b n = NumP.val l b n := by
  unfold NumP.val
  rw [over_apart l a s h b n hd, over_length _ _ _ h]
theorem val_there (l : List UInt8) (a n : Nat) (m : Int) (h : a + n ≤ l.length) : NumP.val (over l a (BeP.parts n m)) a n = NumP.toI (BeP.u64 m % 256 ^ n) := by
  unfold NumP.val
  have hp := BeP.parts_length n m
  rw [over_there _ _ _ (by omega) n hp.symm, over_length _ _ _ (by omega), if_pos h, NumP.num_parts]

def q1 (l : List UInt8) (i : Int) (x : Item) : List UInt8 := withSlot l i x
def q2 (l : List UInt8) (i : Int) (x : Item) (n : Int) : List UInt8 := over (q1 l i x) 4 (BeP.parts 8 n)
def q3 (l : List UInt8) (i : Int) (x : Item) (n : Int) : List UInt8 := over (q2 l i x n) 14 (BeP.parts 2 n)
def q4 (l : List UInt8) (i : Int) (x : Item) (n : Int) : List UInt8 := over (q3 l i x n) 16 (BeP.parts 8 n)
def r1 (l : List UInt8) (n : Int) : List UInt8 := over l 16 (BeP.parts 8 n)
def r2 (l : List UInt8) (n : Int) : List UInt8 := over (r1 l n) 14 (BeP.parts 2 n)
def r3 (l : List UInt8) (n : Int) : List UInt8 := over (r2 l n) 4 (BeP.parts 8 n)
variable (l : List UInt8) (hl : l.length = 512) (i : Int) (x : Item) (n : Int)
include hl
theorem q1_length : (q1 l i x).length = 512 := withSlot_length l hl i x
theorem q2_length : (q2 l i x n).length = 512 := by unfold q2; rw [over_length _ _ _ (by rw [q1_length l hl, BeP.parts_length]; omega), q1_length l hl]
theorem q3_length : (q3 l i x n).length = 512 := by unfold q3; rw [over_length _ _ _ (by rw [q2_length l hl, BeP.parts_length]; omega), q2_length l hl]
theorem q4_length : (q4 l i x n).length = 512 := by unfold q4; rw [over_length _ _ _ (by rw [q3_length l hl, BeP.parts_length]; omega), q3_length l hl]
theorem r1_length : (r1 l n).length = 512 := by unfold r1; rw [over_length _ _ _ (by rw [hl, BeP.parts_length]; omega), hl]
theorem r2_length : (r2 l n).length = 512 := by unfold r2; rw [over_length _ _ _ (by rw [r1_length l hl, BeP.parts_length]; omega), r1_length l hl]
theorem r3_length : (r3 l n).length = 512 := by unfold r3; rw [over_length _ _ _ (by rw [r2_length l hl, BeP.parts_length]; omega), r2_length l hl]
/-- a page's head and its slots lie apart -/
theorem withSlot_over (a : Nat) (s : List UInt8) (h : a + s.length ≤ 32) : withSlot (over l a s) i x = over (withSlot l i x) a s := by
  unfold withSlot
  split
  · rfl
  · have hb := bytes_length x
    exact over_comm l a _ s _ (by omega) (by omega)
theorem r4_eq : withSlot (r3 l n) i x = q4 l i x n := by
  have p8 := BeP.parts_length 8 n
  have p2 := BeP.parts_length 2 n
  unfold r3 q4
  rw [withSlot_over _ (r2_length l hl n) i x _ _ (by omega)]
  unfold r2 q3
  rw [withSlot_over _ (r1_length l hl n) i x _ _ (by omega)]
  unfold r1 q2 q1
  rw [withSlot_over _ hl i x _ _ (by omega)]
  have hw := withSlot_length l hl i x
  generalize withSlot l i x = z at *
  rw [← over_comm z 14 16 (BeP.parts 2 n) (BeP.parts 8 n) (by omega) (by omega)]
  rw [← over_comm (over z 14 (BeP.parts 2 n)) 4 16 (BeP.parts 8 n) (BeP.parts 8 n) (by omega) (by rw [over_length _ _ _ (by omega)]; omega)]
  rw [← over_comm z 4 14 (BeP.parts 8 n) (BeP.parts 2 n) (by omega) (by omega)]
theorem q4_apart (b m : Nat) (hb : b + m ≤ 4 ∨ 12 ≤ b ∧ b + m ≤ 14 ∨ 24 ≤ b) : ((q4 l i x n).drop b).take m = ((q1 l i x).drop b).take m := by
  have p8 := BeP.parts_length 8 n
  have p2 := BeP.parts_length 2 n
  have h1 := q1_length l hl i x
  have h2 := q2_length l hl i x n
  have h3 := q3_length l hl i x n
  unfold q4
  rw [over_apart _ _ _ (by omega) b m (by omega)]
  unfold q3
  rw [over_apart _ _ _ (by omega) b m (by omega)]
  unfold q2
  rw [over_apart _ _ _ (by omega) b m (by omega)]
theorem q4_no : NumP.val (q4 l i x n) 12 2 = NumP.val l 12 2 := by
  have e : ((q4 l i x n).drop 12).take 2 = (l.drop 12).take 2 := by
    rw [q4_apart l hl i x n 12 2 (by omega)]
    unfold q1 withSlot
    by_cases h : i < 0 ∨ 7 ≤ i
    · rw [if_pos h]
    · have hb := bytes_length x
      rw [if_neg h, over_apart _ _ _ (by omega) 12 2 (by omega)]
  unfold NumP.val
  rw [e, q4_length l hl i x n, hl]
theorem q4_note (hn : In64 n) : NumP.val (q4 l i x n) 16 8 = n := by
  unfold q4
  rw [val_there _ _ _ _ (by rw [q3_length l hl]; omega), Nat.mod_eq_of_lt (NumP.u64_lt n), NumP.toI_u64 n hn]
theorem q4_lsn (hn : In64 n) : NumP.val (q4 l i x n) 4 8 = n := by
  have p8 := BeP.parts_length 8 n
  have p2 := BeP.parts_length 2 n
  have h1 := q1_length l hl i x
  have h2 := q2_length l hl i x n
  have h3 := q3_length l hl i x n
  unfold q4
  rw [val_apart _ _ _ (by omega) _ _ (by omega)]
  unfold q3
  rw [val_apart _ _ _ (by omega) _ _ (by omega)]
  unfold q2
  rw [val_there _ _ _ _ (by omega), Nat.mod_eq_of_lt (NumP.u64_lt n), NumP.toI_u64 n hn]
theorem q4_next (h0 : 0 ≤ n) : NumP.val (q4 l i x n) 14 2 = n.tmod 65536 := by
  have p8 := BeP.parts_length 8 n
  have h3 := q3_length l hl i x n
  unfold q4
  rw [val_apart _ _ _ (by omega) _ _ (by omega)]
  unfold q3
  rw [val_there _ _ _ _ (by rw [q2_length l hl]; omega), Int.tmod_eq_emod_of_nonneg h0]
  unfold NumP.toI BeP.u64
  have : (256 : Nat) ^ 2 = 65536 := rfl
  rw [this]
  split <;> omega
theorem q4_slot (k : Nat) (hk : k < 7) (hki : (k : Int) ≠ i) : slot (q4 l i x n) (k : Int) = slot l (k : Int) := by
  unfold slot
  rw [if_neg (by omega), if_neg (by omega), q4_apart l hl i x n _ _ (by omega)]
  unfold q1 withSlot
  split
  · rfl
  · have hb := bytes_length x
    rw [over_apart _ _ _ (by omega) _ _ (by omega)]
end Go.Proofs.Ytjengjbkdflapaa.PageP
