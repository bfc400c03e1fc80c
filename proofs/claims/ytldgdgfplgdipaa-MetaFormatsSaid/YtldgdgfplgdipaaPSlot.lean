/-
  Plain words on slots: which items may be, their bytes. No program in sight.
-/
import Derived.Test.YtldgdgfplgdipaaPCell
import Derived.Test.YtldgdgfplgdipaaPKey
namespace Go.Proofs.Ytldgdgfplgdipaa.SlotP

/-- the empty slot -/
def none : Item := ⟨0, ByteArray.empty, CellP.none⟩
def same (x y : Item) : Bool := x.state == y.state && (x.key.toList == y.key.toList && CellP.same x.cell y.cell)
/-- may an item be? -/
def right (x : Item) : Bool := if x.state = 0 then same x none else ((x.state == 1 || x.state == 2) && (KeyP.right x.key.data.toList && CellP.right x.cell))
/-- what a slot begins with -/
def body (x : Item) : List UInt8 := [UInt8.ofNat x.state.toNat, UInt8.ofNat x.key.size] ++ (x.key.data.toList ++ CellP.bytes x.cell)
def zeros (n : Nat) : List UInt8 := List.replicate n 0
/-- the bytes of a slot -/
def bytes (x : Item) : List UInt8 := if x.state ≠ 0 ∧ right x = true then body x ++ zeros (64 - (body x).length) else zeros 64

theorem right_key (x : Item) (h0 : x.state ≠ 0) (hr : right x = true) : x.key.size ≤ 16 := by
  unfold right at hr
  rw [if_neg h0] at hr
  simp only [Bool.and_eq_true] at hr
  have := hr.2.1
  unfold KeyP.right at this
  simp at this
  exact this.2.2
theorem right_state (x : Item) (h0 : x.state ≠ 0) (hr : right x = true) : x.state = 1 ∨ x.state = 2 := by
  unfold right at hr
  rw [if_neg h0] at hr
  simp only [Bool.and_eq_true, Bool.or_eq_true, beq_iff_eq] at hr
  exact hr.1
theorem right_cell (x : Item) (h0 : x.state ≠ 0) (hr : right x = true) : CellP.right x.cell = true := by
  unfold right at hr
  rw [if_neg h0] at hr
  simp only [Bool.and_eq_true] at hr
  exact hr.2.2
theorem cell_le (c : Cell) : (CellP.bytes c).length ≤ 34 := by
  unfold CellP.bytes
  cases hr : CellP.right c
  · simp
  · by_cases hk : c.kind = 1
    · unfold CellP.right at hr
      rw [if_pos hk] at hr
      simp at hr
      simp [hk]
      omega
    · simp [hk, BeP.parts_length]
/-- bytes with others from a place on -/
def over (l : List UInt8) (off : Nat) (s : List UInt8) : List UInt8 := l.take off ++ (s ++ l.drop (off + s.length))
theorem over_append (p q s : List UInt8) (n : Nat) (h : p.length = n) : over (p ++ q) n s = p ++ (s ++ q.drop s.length) := by
  subst h
  unfold over
  rw [List.take_left, List.drop_append]
  simp
theorem zeros_drop (n m : Nat) : (zeros n).drop m = zeros (n - m) := by simp [zeros]
theorem over_length (l : List UInt8) (off : Nat) (s : List UInt8) (h : off + s.length ≤ l.length) : (over l off s).length = l.length := by
  simp [over]; omega
theorem over_zero (l s : List UInt8) (h : l.length = s.length) : over l 0 s = s := by
  unfold over
  rw [List.drop_eq_nil_of_le (by omega)]
  simp
/-- as slot.Put lays the bytes -/
theorem put_list (x : Item) (h0 : x.state ≠ 0) (hr : right x = true) :
    over (over (((zeros 64).set 0 (UInt8.ofNat x.state.toNat)).set 1 (UInt8.ofNat x.key.size)) 2 x.key.data.toList) (2 + x.key.size) (CellP.bytes x.cell) = bytes x := by
  have hl : x.key.data.toList.length = x.key.size := Array.length_toList
  have hset : ((zeros 64).set 0 (UInt8.ofNat x.state.toNat)).set 1 (UInt8.ofNat x.key.size) = [UInt8.ofNat x.state.toNat, UInt8.ofNat x.key.size] ++ zeros 62 := rfl
  have h2 : ([UInt8.ofNat x.state.toNat, UInt8.ofNat x.key.size] ++ x.key.data.toList).length = 2 + x.key.size := by
    rw [List.length_append, hl]
    rfl
  unfold bytes
  rw [if_pos ⟨h0, hr⟩, hset, over_append _ _ _ 2 rfl, ← List.append_assoc, over_append _ _ _ _ h2, zeros_drop, zeros_drop, hl]
  unfold body
  simp only [List.append_assoc, List.length_append, hl, List.length_cons, List.length_nil]
  rw [show 62 - x.key.size - (CellP.bytes x.cell).length = 64 - (0 + 1 + 1 + (x.key.size + (CellP.bytes x.cell).length)) by omega]
theorem bytes_length (x : Item) : (bytes x).length = 64 := by
  unfold bytes
  split
  · rename_i h
    have hk := right_key x h.1 h.2
    have hc := cell_le x.cell
    have hl : x.key.data.toList.length = x.key.size := Array.length_toList
    simp only [body, zeros, List.length_append, List.length_replicate, List.length_cons, List.length_nil, hl]
    omega
  · simp [zeros]
end Go.Proofs.Ytldgdgfplgdipaa.SlotP
