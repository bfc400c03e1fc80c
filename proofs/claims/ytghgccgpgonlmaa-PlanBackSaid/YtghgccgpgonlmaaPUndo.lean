/-
  How operations are taken back, as plain data. No program in sight.
-/
import Derived.Test.YtghgccgpgonlmaaPSlot
import Derived.Test.YtghgccgpgonlmaaWide
namespace Go.Proofs.Ytghgccgpgonlmaa
theorem key_inj {a b : ByteArray} (h : a.toList = b.toList) : a = b := by
  rw [Lib.toList_data, Lib.toList_data] at h
  exact ByteArray.ext (Array.ext' h)
theorem key_ne {a b : ByteArray} (h : ¬ a = b) : (a.toList == b.toList) = false := by
  rw [beq_eq_false_iff_ne]
  exact fun e => h (key_inj e)
end Go.Proofs.Ytghgccgpgonlmaa
namespace Go.Proofs.Ytghgccgpgonlmaa.UndoP
def none : Undo := ⟨0, ByteArray.empty, SlotP.none, 0⟩
/-- does the slot stand for this key? -/
def stands (x : Item) (k : ByteArray) : Prop := (x.state = 1 ∨ x.state = 2) ∧ x.key = k
/-- how an operation is taken back -/
noncomputable def of (x : OpX) (was thn : Item) : Undo := by
  classical
  exact if x.act = 4 then ⟨3, x.key, SlotP.none, x.n⟩ else if x.act = 5 then ⟨2, x.key, SlotP.none, x.n⟩ else
    if x.act = 1 ∨ x.act = 2 ∨ x.act = 3 then (if stands was x.key then ⟨1, x.key, was, 0⟩ else ⟨1, x.key, ⟨2, thn.key, thn.cell⟩, 0⟩) else none
/-- the sum, or the difference -/
def sum (u : Undo) (now : Item) : Int := if u.act = 3 then now.cell.val - u.n else now.cell.val + u.n
/-- what a slot becomes -/
noncomputable def apply (u : Undo) (now : Item) : Item × Int := by
  classical
  exact if u.act = 1 then (u.item, 0) else if u.act = 2 ∨ u.act = 3 then
    (if now.state = 1 ∧ now.key = u.key then
      (if now.cell.kind = 2 ∧ CellP.right now.cell = true then
        (if sum u now < now.cell.lo ∨ now.cell.hi < sum u now then (SlotP.none, 8) else (⟨1, now.key, ⟨2, [], now.cell.lo, now.cell.hi, sum u now⟩⟩, 0)) else (SlotP.none, 6)) else (SlotP.none, 5)) else (SlotP.none, 1)
theorem apply_item (u : Undo) (now : Item) (h : u.act = 1) : apply u now = (u.item, 0) := by simp [apply, h]
theorem apply_arg (u : Undo) (now : Item) (h1 : u.act ≠ 1) (h2 : u.act ≠ 2) (h3 : u.act ≠ 3) : apply u now = (SlotP.none, 1) := by simp [apply, h1, h2, h3]
theorem apply_none (u : Undo) (now : Item) (h2 : u.act = 2 ∨ u.act = 3) (h : ¬ (now.state = 1 ∧ now.key = u.key)) : apply u now = (SlotP.none, 5) := by
  have h1 : u.act ≠ 1 := by omega
  simp only [apply, h1, h2, h, if_true, if_false]
theorem apply_kind (u : Undo) (now : Item) (h2 : u.act = 2 ∨ u.act = 3) (h : now.state = 1 ∧ now.key = u.key) (hk : ¬ (now.cell.kind = 2 ∧ CellP.right now.cell = true)) : apply u now = (SlotP.none, 6) := by
  have h1 : u.act ≠ 1 := by omega
  simp only [apply, h1, h2, if_true, if_false, if_pos h, if_neg hk]
theorem apply_out (u : Undo) (now : Item) (h2 : u.act = 2 ∨ u.act = 3) (h : now.state = 1 ∧ now.key = u.key) (hk : now.cell.kind = 2 ∧ CellP.right now.cell = true) (ho : sum u now < now.cell.lo ∨ now.cell.hi < sum u now) : apply u now = (SlotP.none, 8) := by
  have h1 : u.act ≠ 1 := by omega
  simp only [apply, h1, h2, if_true, if_false, if_pos h, if_pos hk, if_pos ho]
theorem apply_ok (u : Undo) (now : Item) (h2 : u.act = 2 ∨ u.act = 3) (h : now.state = 1 ∧ now.key = u.key) (hk : now.cell.kind = 2 ∧ CellP.right now.cell = true) (ho : ¬ (sum u now < now.cell.lo ∨ now.cell.hi < sum u now)) : apply u now = (⟨1, now.key, ⟨2, [], now.cell.lo, now.cell.hi, sum u now⟩⟩, 0) := by
  have h1 : u.act ≠ 1 := by omega
  simp only [apply, h1, h2, if_true, if_false, if_pos h, if_pos hk, if_neg ho]
theorem of_inc (x : OpX) (was thn : Item) (h : x.act = 4) : of x was thn = ⟨3, x.key, SlotP.none, x.n⟩ := by simp [of, h]
theorem of_dec (x : OpX) (was thn : Item) (h : x.act = 5) : of x was thn = ⟨2, x.key, SlotP.none, x.n⟩ := by simp [of, h]
theorem of_was (x : OpX) (was thn : Item) (h : x.act = 1 ∨ x.act = 2 ∨ x.act = 3) (hs : stands was x.key) : of x was thn = ⟨1, x.key, was, 0⟩ := by
  have h4 : x.act ≠ 4 := by omega
  have h5 : x.act ≠ 5 := by omega
  simp only [of, h4, h5, if_false, if_pos h, if_pos hs]
theorem of_then (x : OpX) (was thn : Item) (h : x.act = 1 ∨ x.act = 2 ∨ x.act = 3) (hs : ¬ stands was x.key) : of x was thn = ⟨1, x.key, ⟨2, thn.key, thn.cell⟩, 0⟩ := by
  have h4 : x.act ≠ 4 := by omega
  have h5 : x.act ≠ 5 := by omega
  simp only [of, h4, h5, if_false, if_pos h, if_neg hs]
theorem of_none (x : OpX) (was thn : Item) (h : ¬ (x.act = 1 ∨ x.act = 2 ∨ x.act = 3 ∨ x.act = 4 ∨ x.act = 5)) : of x was thn = none := by
  have h4 : x.act ≠ 4 := by omega
  have h5 : x.act ≠ 5 := by omega
  have h1 : ¬ (x.act = 1 ∨ x.act = 2 ∨ x.act = 3) := by omega
  simp only [of, h4, h5, if_false, if_neg h1]
/-- are all fields the same? -/
def same (a b : Undo) : Bool := a.act == b.act && (a.key.toList == b.key.toList && (a.n == b.n && SlotP.same a.item b.item))
end Go.Proofs.Ytghgccgpgonlmaa.UndoP
namespace Go.Proofs.Ytghgccgpgonlmaa.UndoP
/-- may it be? -/
def right (u : Undo) : Bool :=
  if u.act = 0 then same u none
  else if u.act = 1 then KeyP.right u.key.data.toList && ((u.item.state == 1 || u.item.state == 2) && (SlotP.right u.item && (u.item.key.toList == u.key.toList && u.n == 0)))
  else if u.act = 2 ∨ u.act = 3 then KeyP.right u.key.data.toList && (decide (0 ≤ u.n) && SlotP.same u.item SlotP.none) else false
/-- its bytes, if it may be -/
def bytes (u : Undo) : List UInt8 :=
  if right u = true then (if u.act = 0 then [0] else [UInt8.ofNat u.act.toNat, UInt8.ofNat u.key.size] ++ (u.key.data.toList ++ (if u.act = 1 then SlotP.bytes u.item else BeP.parts 8 u.n))) else []
theorem slot_right_state (x : Item) (h : SlotP.right x = true) (h0 : ¬ x.state = 0) : (x.state == 1 || x.state == 2) = true := by
  unfold SlotP.right at h
  rw [if_neg h0] at h
  simp only [Bool.and_eq_true] at h
  exact h.1
end Go.Proofs.Ytghgccgpgonlmaa.UndoP
