/-
  With which undo bytes begin, as plain data: as the document says it, and as a reader reads it. No program in sight.
-/
import Derived.Test.YtcagflakmokoiaaPUndo
import Derived.Test.YtcagflakmokoiaaReader2
import Derived.Test.YtcagflakmokoiaaPSlotGet
import Derived.Test.YtcagflakmokoiaaPNum
namespace Go.Proofs.Ytcagflakmokoiaa.UndoP
def size (a : Nat) : Nat := if a = 1 then 64 else 8
/-- the one that seems to stand there -/
def seem (a : Nat) (l : List UInt8) : Undo :=
  ⟨(a : Int), SlotP.text ((l.drop 2).take (l.getD 1 0).toNat), if a = 1 then (SlotP.get ((l.drop (2 + (l.getD 1 0).toNat)).take 64)).1 else SlotP.none, if a = 1 then 0 else NumP.val l (2 + (l.getD 1 0).toNat) 8⟩
def err (a : Nat) (l : List UInt8) : Int := if a = 1 then (SlotP.get ((l.drop (2 + (l.getD 1 0).toNat)).take 64)).2 else 0
def get (l : List UInt8) : Undo × Int × Int :=
  if l.length < 1 then (none, 0, 13)
  else if 3 < (l.getD 0 0).toNat then (none, 0, 12)
  else if (l.getD 0 0).toNat = 0 then (none, 1, 0)
  else if l.length < 2 ∨ l.length < 2 + (l.getD 1 0).toNat + size (l.getD 0 0).toNat then (none, 0, 13)
  else if err (l.getD 0 0).toNat l = 0 ∧ right (seem (l.getD 0 0).toNat l) = true then (seem (l.getD 0 0).toNat l, ((2 + (l.getD 1 0).toNat + size (l.getD 0 0).toNat : Nat) : Int), 0) else (none, 0, 12)
/-! what a reader reads behind the first byte -/
def k1 (l : List UInt8) : Nat := if 1 ≤ l.length then (l.getD 0 0).toNat else 0
def L2 (l : List UInt8) : List UInt8 := RdP.numL l false 1
def b2 (l : List UInt8) : Bool := RdP.numB l false 1
def K (l : List UInt8) : List UInt8 := RdP.th (L2 l) (b2 l) (k1 l)
def L3 (l : List UInt8) : List UInt8 := RdP.tl (L2 l) (b2 l) (k1 l)
def b3 (l : List UInt8) : Bool := RdP.tb (L2 l) (b2 l) (k1 l)
theorem numV_k1 (l : List UInt8) : RdP.numV l false 1 = (k1 l : Int) := by
  unfold RdP.numV k1
  rw [if_neg (by simp)]
  cases l with
  | nil => rfl
  | cons x l =>
    have := x.toNat_lt
    unfold NumP.val
    rw [if_pos (by simp), if_pos (by simp), List.drop_zero, List.take_succ_cons, List.take_zero, NumP.toI_small _ (by simp [NumP.num, NumP.nstep]; omega)]
    simp [NumP.num, NumP.nstep]
theorem k1_le (l : List UInt8) : k1 l ≤ 255 := by
  unfold k1
  split
  · have := (l.getD 0 0).toNat_lt; omega
  · omega
theorem b3_cons (y : UInt8) (l : List UInt8) : b3 (y :: l) = !decide (y.toNat ≤ l.length) := by
  simp [b3, b2, L2, k1, RdP.numL, RdP.numB, RdP.tb]
theorem L3_cons (y : UInt8) (l : List UInt8) (h : y.toNat ≤ l.length) : L3 (y :: l) = l.drop y.toNat := by
  simp [L3, b2, L2, k1, RdP.numL, RdP.numB, RdP.tl, h]
theorem K_cons (y : UInt8) (l : List UInt8) (h : y.toNat ≤ l.length) : K (y :: l) = l.take y.toNat := by
  simp [K, b2, L2, k1, RdP.numL, RdP.numB, RdP.th, RdP.tb, h]
theorem b3_nil : b3 [] = true := rfl
/-! the kinds with a number -/
def N4 (l : List UInt8) : Int := RdP.numV (L3 l) (b3 l) 8
def L4 (l : List UInt8) : List UInt8 := RdP.numL (L3 l) (b3 l) 8
def b4 (l : List UInt8) : Bool := RdP.numB (L3 l) (b3 l) 8
def U4 (a : Nat) (l : List UInt8) : Undo := ⟨(a : Int), SlotP.text (K l), SlotP.none, N4 l⟩
theorem val_drop (l : List UInt8) (a : Nat) (h : a + 8 ≤ l.length) : NumP.val (l.drop a) 0 8 = NumP.val l a 8 := by
  unfold NumP.val
  rw [if_pos (by simp; omega), if_pos h, List.drop_zero]
theorem get_short4 (x : UInt8) (l : List UInt8) (h : x.toNat = 2 ∨ x.toNat = 3) (hb : b4 l = true) : get (x :: l) = (none, 0, 13) := by
  have hs : size x.toNat = 8 := by unfold size; rw [if_neg (by omega)]
  unfold get
  rw [if_neg (by simp), if_neg (by simp; omega), if_neg (by simp; omega), if_pos]
  cases l with
  | nil => left; simp
  | cons y l =>
    right
    rw [show ((x :: y :: l).getD 0 0) = x from rfl, hs, show ((x :: y :: l).getD 1 0) = y from rfl]
    simp only [List.length_cons]
    by_cases hy : y.toNat ≤ l.length
    · have h3 : b3 (y :: l) = false := by rw [b3_cons]; simp [hy]
      unfold b4 at hb
      rw [h3, L3_cons y l hy] at hb
      simp [RdP.numB] at hb
      omega
    · omega
theorem get_full4 (x : UInt8) (l : List UInt8) (h : x.toNat = 2 ∨ x.toNat = 3) (hb : b4 l = false) : get (x :: l) = (if right (U4 x.toNat l) = true then (U4 x.toNat l, ((l.length + 1 : Nat) : Int) - ((L4 l).length : Int), 0) else (none, 0, 12)) := by
  have hs : size x.toNat = 8 := by unfold size; rw [if_neg (by omega)]
  cases l with
  | nil => cases hb
  | cons y l =>
    by_cases hy : y.toNat ≤ l.length
    case neg =>
      have h3 : b3 (y :: l) = true := by rw [b3_cons]; simp [hy]
      unfold b4 at hb
      rw [h3] at hb
      cases hb
    have h3 : b3 (y :: l) = false := by rw [b3_cons]; simp [hy]
    have h8 : y.toNat + 8 ≤ l.length := by
      unfold b4 at hb
      rw [h3, L3_cons y l hy] at hb
      simp [RdP.numB] at hb
      omega
    have hU : U4 x.toNat (y :: l) = seem x.toNat (x :: y :: l) := by
      unfold U4 seem N4
      rw [if_neg (by omega), if_neg (by omega), K_cons y l hy, h3, L3_cons y l hy, show ((x :: y :: l).getD 1 0) = y from rfl]
      have e1 : (x :: y :: l).drop 2 = l := rfl
      have e2 : NumP.val (x :: y :: l) (2 + y.toNat) 8 = NumP.val l y.toNat 8 := by
        unfold NumP.val
        rw [if_pos (by simp; omega), if_pos h8, show 2 + y.toNat = y.toNat + 1 + 1 by omega]
        rfl
      rw [e1, e2]
      unfold RdP.numV
      rw [if_neg (by simp), val_drop l y.toNat h8]
    have hL : (L4 (y :: l)).length = l.length - y.toNat - 8 := by
      unfold L4
      rw [h3, L3_cons y l hy]
      unfold RdP.numL
      rw [if_neg (by simp), if_pos (by simp; omega)]
      simp
      omega
    have he : err x.toNat (x :: y :: l) = 0 := by unfold err; rw [if_neg (by omega)]
    rw [hU, hL]
    unfold get
    rw [if_neg (by simp), if_neg (by simp; omega), if_neg (by simp; omega), show ((x :: y :: l).getD 0 0) = x from rfl, show ((x :: y :: l).getD 1 0) = y from rfl, hs, if_neg (by simp; omega), he]
    simp only [true_and]
    split
    · simp only [List.length_cons]
      congr 2
      omega
    · rfl
/-! the kind with an item -/
def S5 (l : List UInt8) : List UInt8 := RdP.th (L3 l) (b3 l) 64
def L5 (l : List UInt8) : List UInt8 := RdP.tl (L3 l) (b3 l) 64
def b5 (l : List UInt8) : Bool := RdP.tb (L3 l) (b3 l) 64
def raw (l : List UInt8) : List UInt8 := SlotP.over (SlotP.zeros 64) 0 (S5 l)
def U5 (l : List UInt8) : Undo := ⟨1, SlotP.text (K l), (SlotP.get (raw l)).1, 0⟩
theorem S5_le (l : List UInt8) : (S5 l).length ≤ 64 := by
  unfold S5 RdP.th
  split
  · simp
  · simp; omega
theorem raw_length (l : List UInt8) : (raw l).length = 64 := by
  have h := S5_le l
  unfold raw SlotP.over
  simp [SlotP.zeros]
  omega
theorem get_short5 (x : UInt8) (l : List UInt8) (h : x.toNat = 1) (hb : b5 l = true) : get (x :: l) = (none, 0, 13) := by
  have hs : size x.toNat = 64 := by unfold size; rw [if_pos h]
  unfold get
  rw [if_neg (by simp), if_neg (by simp; omega), if_neg (by simp; omega), if_pos]
  cases l with
  | nil => left; simp
  | cons y l =>
    right
    rw [show ((x :: y :: l).getD 0 0) = x from rfl, hs, show ((x :: y :: l).getD 1 0) = y from rfl]
    simp only [List.length_cons]
    by_cases hy : y.toNat ≤ l.length
    · have h3 : b3 (y :: l) = false := by rw [b3_cons]; simp [hy]
      unfold b5 at hb
      rw [h3, L3_cons y l hy] at hb
      simp [RdP.tb] at hb
      omega
    · omega
theorem get_full5 (x : UInt8) (l : List UInt8) (h : x.toNat = 1) (hb : b5 l = false) : get (x :: l) = (if (SlotP.get (raw l)).2 = 0 ∧ right (U5 l) = true then (U5 l, ((l.length + 1 : Nat) : Int) - ((L5 l).length : Int), 0) else (none, 0, 12)) := by
  have hs : size x.toNat = 64 := by unfold size; rw [if_pos h]
  cases l with
  | nil => cases hb
  | cons y l =>
    by_cases hy : y.toNat ≤ l.length
    case neg =>
      have h3 : b3 (y :: l) = true := by rw [b3_cons]; simp [hy]
      unfold b5 at hb
      rw [h3] at hb
      cases hb
    have h3 : b3 (y :: l) = false := by rw [b3_cons]; simp [hy]
    have h8 : y.toNat + 64 ≤ l.length := by
      unfold b5 at hb
      rw [h3, L3_cons y l hy] at hb
      simp [RdP.tb] at hb
      omega
    have hS : raw (y :: l) = (l.drop y.toNat).take 64 := by
      have e5 : S5 (y :: l) = (l.drop y.toNat).take 64 := by
        unfold S5
        rw [h3, L3_cons y l hy]
        unfold RdP.th RdP.tb
        rw [if_neg (by simp; omega)]
      have e6 : ((l.drop y.toNat).take 64).length = 64 := by simp; omega
      unfold raw SlotP.over
      rw [e5, e6]
      simp [SlotP.zeros]
    have ed : ((x :: y :: l).drop (2 + y.toNat)).take 64 = (l.drop y.toNat).take 64 := by
      rw [show 2 + y.toNat = y.toNat + 1 + 1 by omega]
      rfl
    have hU : U5 (y :: l) = seem x.toNat (x :: y :: l) := by
      unfold U5 seem
      rw [if_pos h, if_pos h, K_cons y l hy, hS, show ((x :: y :: l).getD 1 0) = y from rfl, ed, h]
      rfl
    have hL : (L5 (y :: l)).length = l.length - y.toNat - 64 := by
      unfold L5
      rw [h3, L3_cons y l hy]
      unfold RdP.tl
      rw [if_neg (by simp), if_pos (by simp; omega)]
      simp
      omega
    have he : err x.toNat (x :: y :: l) = (SlotP.get (raw (y :: l))).2 := by
      unfold err
      rw [if_pos h, show ((x :: y :: l).getD 1 0) = y from rfl, ed, hS]
    rw [hU, hL, ← he]
    unfold get
    rw [if_neg (by simp), if_neg (by simp; omega), if_neg (by simp; omega), show ((x :: y :: l).getD 0 0) = x from rfl, show ((x :: y :: l).getD 1 0) = y from rfl, hs, if_neg (by simp; omega)]
    split
    · simp only [List.length_cons]
      congr 2
      omega
    · rfl
theorem get_zero (x : UInt8) (l : List UInt8) (h : x.toNat = 0) : get (x :: l) = (none, 1, 0) := by
  unfold get
  rw [if_neg (by simp), if_neg (by simp; omega), if_pos (by simpa using h)]
theorem get_form (x : UInt8) (l : List UInt8) (h : 3 < x.toNat) : get (x :: l) = (none, 0, 12) := by
  unfold get
  rw [if_neg (by simp), if_pos (by simpa using h)]
theorem numL_le (l : List UInt8) (b : Bool) (k : Nat) : (RdP.numL l b k).length ≤ l.length := by
  unfold RdP.numL
  split
  · omega
  · split <;> simp
theorem tl_le (l : List UInt8) (b : Bool) (k : Nat) : (RdP.tl l b k).length ≤ l.length := by
  unfold RdP.tl
  split
  · omega
  · split <;> simp
theorem L3_le (l : List UInt8) : (L3 l).length ≤ l.length := Nat.le_trans (tl_le _ _ _) (numL_le _ _ _)
theorem L4_le (l : List UInt8) : (L4 l).length ≤ l.length := Nat.le_trans (numL_le _ _ _) (L3_le l)
theorem L5_le (l : List UInt8) : (L5 l).length ≤ l.length := Nat.le_trans (tl_le _ _ _) (L3_le l)
theorem get_nil : get [] = (none, 0, 13) := rfl
end Go.Proofs.Ytcagflakmokoiaa.UndoP
