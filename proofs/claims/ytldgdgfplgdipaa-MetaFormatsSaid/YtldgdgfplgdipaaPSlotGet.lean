/-
  Plain words on slots: which item bytes are. No program in sight.
-/
import Derived.Test.YtldgdgfplgdipaaPSlot
import Derived.Test.YtldgdgfplgdipaaPCellGet
import Derived.Laws.StructEq
namespace Go.Proofs.Ytldgdgfplgdipaa.SlotP

/-- bytes as a text -/
def text (l : List UInt8) : ByteArray := ⟨l.toArray⟩
/-- the item that bytes seem to be -/
def seem (l : List UInt8) : Item := ⟨((l.getD 0 0).toNat : Int), text ((l.drop 2).take (l.getD 1 0).toNat), (CellP.get (l.drop (2 + (l.getD 1 0).toNat))).1⟩
/-- is it one? -/
def good (l : List UInt8) : Bool := decide ((l.getD 1 0).toNat ≤ 16) && ((CellP.get (l.drop (2 + (l.getD 1 0).toNat))).2.2 == 0 && (right (seem l) && (bytes (seem l) == l)))
/-- the item of which bytes are, and the error's number -/
def get (l : List UInt8) : Item × Int := if l = zeros 64 then (none, 0) else if good l = true then (seem l, 0) else (none, 12)

theorem text_data (l : List UInt8) : (text l).data.toList = l := by simp [text]
theorem text_of (s : ByteArray) : text s.data.toList = s := by
  obtain ⟨⟨l⟩⟩ := s
  rfl
theorem bytearray_ext {a b : ByteArray} (h : a.toList = b.toList) : a = b := by
  have h2 : a.data.toList = b.data.toList := by
    rw [ByteArray.toList_eq, ByteArray.toList_eq] at h
    exact h
  rw [← text_of a, ← text_of b, h2]
theorem cell_same {c d : Cell} (h : CellP.same c d = true) : c = d := by
  obtain ⟨k, l, lo, hi, v⟩ := c
  obtain ⟨k', l', lo', hi', v'⟩ := d
  simp [CellP.same] at h
  obtain ⟨rfl, rfl, rfl, rfl, rfl⟩ := h
  rfl
theorem same_eq {x y : Item} (h : same x y = true) : x = y := by
  obtain ⟨s, k, c⟩ := x
  obtain ⟨s', k', c'⟩ := y
  unfold same at h
  simp only [Bool.and_eq_true, beq_iff_eq] at h
  obtain ⟨rfl, h2, h3⟩ := h
  obtain rfl := bytearray_ext h2
  obtain rfl := cell_same h3
  rfl
theorem same_self (x : Item) : same x x = true := by simp [same, CellP.same]
theorem right_none (x : Item) (h0 : x.state = 0) (hr : right x = true) : x = none := by
  unfold right at hr
  rw [if_pos h0] at hr
  exact same_eq hr
/-- numbers that may be -/
def In (x : Item) : Prop := In64 x.state ∧ In64 x.cell.kind ∧ In64 x.cell.lo ∧ In64 x.cell.hi ∧ In64 x.cell.val
theorem bytes_full (x : Item) (h0 : x.state ≠ 0) (hr : right x = true) : bytes x = UInt8.ofNat x.state.toNat :: UInt8.ofNat x.key.size :: (x.key.data.toList ++ (CellP.bytes x.cell ++ zeros (64 - (body x).length))) := by
  unfold bytes
  rw [if_pos ⟨h0, hr⟩]
  simp [body]
theorem seem_bytes (x : Item) (h0 : x.state ≠ 0) (hr : right x = true) (hi : In64 x.cell.lo ∧ In64 x.cell.hi ∧ In64 x.cell.val) :
    seem (bytes x) = x ∧ ((bytes x).getD 1 0).toNat = x.key.size ∧ (CellP.get ((bytes x).drop (2 + x.key.size))).2.2 = 0 := by
  have hk := right_key x h0 hr
  have h12 := right_state x h0 hr
  have hc := right_cell x h0 hr
  have hl : x.key.data.toList.length = x.key.size := Array.length_toList
  have hb := bytes_full x h0 hr
  have hn : (UInt8.ofNat x.key.size).toNat = x.key.size := by simp; omega
  have h1 : ((bytes x).getD 1 0).toNat = x.key.size := by rw [hb]; exact hn
  have hd : (bytes x).drop (2 + x.key.size) = CellP.bytes x.cell ++ zeros (64 - (body x).length) := by
    rw [hb, Nat.add_comm 2, List.drop_succ_cons, List.drop_succ_cons, ← hl, List.drop_left]
  have hg := CellP.get_bytes x.cell (zeros (64 - (body x).length)) hc hi
  refine ⟨?_, h1, by rw [hd, hg]⟩
  unfold seem
  rw [h1, hd, hg]
  have h2 : ((bytes x).drop 2).take x.key.size = x.key.data.toList := by
    rw [hb, List.drop_succ_cons, List.drop_succ_cons, List.drop_zero, ← hl, List.take_left]
  rw [h2, text_of]
  have h3 : (((bytes x).getD 0 0).toNat : Int) = x.state := by
    rw [hb]
    rcases h12 with e | e <;> rw [e] <;> rfl
  rw [h3]
theorem body_len (x : Item) (h0 : x.state ≠ 0) (hr : right x = true) : (body x).length ≤ 64 := by
  have hk := right_key x h0 hr
  have hc := cell_le x.cell
  have hl : x.key.data.toList.length = x.key.size := Array.length_toList
  simp only [body, List.length_append, List.length_cons, List.length_nil, hl]
  omega
theorem zeros_ne (x : Item) (h0 : x.state ≠ 0) (hr : right x = true) : bytes x ≠ zeros 64 := by
  intro h
  have hb := bytes_full x h0 hr
  rw [h] at hb
  have h1 := congrArg (fun l => l.getD 0 0) hb
  rcases right_state x h0 hr with e | e
  · rw [e] at h1
    have h2 : (0 : UInt8) = UInt8.ofNat (Int.toNat 1) := h1
    exact absurd h2 (by decide)
  · rw [e] at h1
    have h2 : (0 : UInt8) = UInt8.ofNat (Int.toNat 2) := h1
    exact absurd h2 (by decide)
theorem get_zeros : get (zeros 64) = (none, 0) := by unfold get; rw [if_pos rfl]
/-- an item that may be is got out of its bytes -/
theorem get_bytes (x : Item) (hr : right x = true) (hi : In x) : get (bytes x) = (x, 0) := by
  by_cases h0 : x.state = 0
  · have hx := right_none x h0 hr
    have hb : bytes x = zeros 64 := by
      unfold bytes
      rw [if_neg (by simp [h0])]
    rw [hb, get_zeros, hx]
  · obtain ⟨h1, h2, h3⟩ := seem_bytes x h0 hr hi.2.2
    have hk := right_key x h0 hr
    have hg : good (bytes x) = true := by
      unfold good
      rw [h1, h2, h3, hr]
      simp [hk]
    unfold get
    rw [if_neg (zeros_ne x h0 hr), if_pos hg, h1]
theorem get_not (x : Item) (hr : right x = false) : get (bytes x) = (none, 0) := by
  have hb : bytes x = zeros 64 := by
    unfold bytes
    rw [if_neg (by simp [hr])]
  rw [hb, get_zeros]
/-- items that may be are the same just if their bytes are -/
theorem same_bytes (x y : Item) (hx : right x = true) (hy : right y = true) (ix : In x) (iy : In y) : same x y = (bytes x == bytes y) := by
  rw [Bool.eq_iff_iff, beq_iff_eq]
  constructor
  · intro h
    rw [same_eq h]
  · intro h
    have h1 := get_bytes x hx ix
    rw [h, get_bytes y hy iy] at h1
    have h2 : y = x := congrArg Prod.fst h1
    rw [h2]
    exact same_self x
end Go.Proofs.Ytldgdgfplgdipaa.SlotP
