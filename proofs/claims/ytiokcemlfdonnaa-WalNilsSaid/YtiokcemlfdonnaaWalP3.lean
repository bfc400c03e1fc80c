/-
  Parts of the proof of WalNils.
-/
import Derived.Test.YtiokcemlfdonnaaWalP1
import Derived.Test.YtiokcemlfdonnaaWalP2
import Derived.Laws.StructEq
import Derived.Test.YtiokcemlfdonnaaWalP0
import Derived.Test.YtiokcemlfdonnaaProg
section
namespace Go.Proofs.Ytiokcemlfdonnaa
set_option linter.unusedVariables false
/-- a record -/
structure RecX where
  kind : Int
  txn : Int
  prev : Int
  next : Int
  patches : List PatchX
  undo : Undo
namespace RecP
def May (n least : Int) : Prop := least ≤ n ∧ n ≤ 281474976710656
def Nums (x : RecX) : Prop := (1 ≤ x.kind ∧ x.kind ≤ 4) ∧ May x.txn 1 ∧ May x.prev 0 ∧ May x.next 0
def Rest (x : RecX) : Prop := (x.kind ≠ 2 → x.next = 0) ∧ (x.kind ≠ 1 → x.undo.act = 0) ∧ (3 ≤ x.kind → x.patches.length = 0)
def Pats (l : List PatchX) (k : Nat) : Prop := ∀ i p, i < k → l[i]? = some p → PatchP.Right p
def Right (x : RecX) : Prop := Nums x ∧ x.patches.length ≤ 4 ∧ UndoP.right x.undo = true ∧ Pats x.patches x.patches.length ∧ Rest x
noncomputable def right (x : RecX) : Bool := @decide (Right x) (Classical.propDecidable _)
theorem right_iff (x : RecX) : right x = true ↔ Right x := by unfold right; simp
theorem right_no (x : RecX) (h : ¬ Right x) : right x = false := by unfold right; simpa using h
theorem right_yes (x : RecX) (h : Right x) : right x = true := (right_iff x).2 h
theorem pats_zero (l : List PatchX) : Pats l 0 := fun i p hi => absurd hi (Nat.not_lt_zero _)
theorem pats_step {l : List PatchX} {k : Nat} {p : PatchX} (h : Pats l k) (hp : l[k]? = some p) (hr : PatchP.Right p) : Pats l (k + 1) := by
  intro i q hi hq
  by_cases e : i = k
  · subst e; rw [hp] at hq; cases hq; exact hr
  · exact h i q (by omega) hq
theorem pats_bad {x : RecX} {k : Nat} {p : PatchX} (hp : x.patches[k]? = some p) (hr : PatchP.right p = false) : right x = false := right_no x fun h => by
  have := h.2.2.2.1 k p (List.getElem?_eq_some_iff.1 hp).1 hp
  rw [PatchP.right_yes p this] at hr
  cases hr
/-- an undo that may be and does nothing is none -/
theorem act_zero (u : Undo) (h : UndoP.right u = true) : UndoP.same u UndoP.none = decide (u.act = 0) := by
  by_cases h0 : u.act = 0
  · unfold UndoP.right at h
    rw [if_pos h0] at h
    rw [h]; simpa using h0
  · have : UndoP.same u UndoP.none = false := by
      unfold UndoP.same
      have : (u.act == UndoP.none.act) = false := by
        show (u.act == 0) = false
        simpa using h0
      rw [this]; rfl
    rw [this]; simpa using h0
noncomputable def samePats (a b : List PatchX) : Bool := @decide (a = b) (Classical.propDecidable _)
noncomputable def same (a b : RecX) : Bool := (a.kind == b.kind) && ((a.txn == b.txn) && ((a.prev == b.prev) && ((a.next == b.next) && (samePats a.patches b.patches && UndoP.same a.undo b.undo))))
theorem samePats_len {l m : List PatchX} (h : l.length ≠ m.length) : samePats l m = false := by
  unfold samePats
  simp only [decide_eq_false_iff_not]
  intro e; exact h (by rw [e])
theorem samePats_at {l m : List PatchX} {k : Nat} {r q : PatchX} (hr : l[k]? = some r) (hq : m[k]? = some q) (h : PatchP.same r q = false) : samePats l m = false := by
  unfold samePats
  simp only [decide_eq_false_iff_not]
  intro e
  rw [e, hq] at hr
  cases hr
  unfold PatchP.same at h
  simp at h
theorem samePats_all {l m : List PatchX} {k : Nat} (h : l.take k = m.take k) (h1 : l.length = k) (h2 : m.length = k) : samePats l m = true := by
  unfold samePats
  simp only [decide_eq_true_eq]
  rwa [List.take_of_length_le (by omega), List.take_of_length_le (by omega)] at h
theorem take_same {l m : List PatchX} {k : Nat} {r q : PatchX} (h : l.take k = m.take k) (hr : l[k]? = some r) (hq : m[k]? = some q) (h1 : PatchP.same r q = true) : l.take (k + 1) = m.take (k + 1) := by
  obtain ⟨i1, e1⟩ := List.getElem?_eq_some_iff.1 hr
  obtain ⟨i2, e2⟩ := List.getElem?_eq_some_iff.1 hq
  rw [List.take_succ_eq_append_getElem i1, List.take_succ_eq_append_getElem i2, h, e1, e2]
  unfold PatchP.same at h1
  simp only [decide_eq_true_eq] at h1
  rw [h1]
/-- the bytes -/
noncomputable def patsB (l : List PatchX) : List UInt8 := l.flatMap PatchP.bytes
noncomputable def inner (x : RecX) : List UInt8 := BeP.parts 1 x.kind ++ (BeP.parts 8 x.txn ++ (BeP.parts 8 x.prev ++ (BeP.parts 8 x.next ++ (BeP.parts 1 (x.patches.length : Nat) ++ (patsB x.patches ++ UndoP.bytes x.undo)))))
noncomputable def body (x : RecX) : List UInt8 := BeP.parts 4 ((CrcP.sum (inner x) : Nat) : Int) ++ inner x
noncomputable def fits (x : RecX) : Bool := right x && decide ((body x).length ≤ 65535)
noncomputable def bytes (x : RecX) : List UInt8 := if fits x then BeP.parts 2 ((body x).length : Nat) ++ body x else []
theorem patsB_drop (l : List PatchX) (k : Nat) (p : PatchX) (h : l[k]? = some p) : patsB (l.drop k) = PatchP.bytes p ++ patsB (l.drop (k + 1)) := by
  obtain ⟨hk, e⟩ := List.getElem?_eq_some_iff.1 h
  rw [List.drop_eq_getElem_cons hk, e]
  simp [patsB]
theorem bytes_right {p : PatchX} (h : PatchP.Right p) : PatchP.bytes p = PatchP.body p := by
  unfold PatchP.bytes; rw [if_pos (PatchP.right_yes p h)]
theorem patch_le (p : PatchX) : (PatchP.bytes p).length ≤ 252005 := by
  unfold PatchP.bytes
  split
  · rename_i h; exact PatchP.body_le ((PatchP.right_iff p).1 h)
  · simp
theorem patsB_le (l : List PatchX) : (patsB l).length ≤ l.length * 252005 := by
  induction l with
  | nil => simp [patsB]
  | cons p l ih =>
    have h1 := patch_le p
    have : patsB (p :: l) = PatchP.bytes p ++ patsB l := by simp [patsB]
    rw [this, List.length_append, List.length_cons, Nat.add_mul]
    omega
theorem inner_length (x : RecX) : (inner x).length = 26 + (patsB x.patches).length + (UndoP.bytes x.undo).length := by
  simp [inner, BeP.parts_length]; omega
theorem body_length (x : RecX) : (body x).length = 30 + (patsB x.patches).length + (UndoP.bytes x.undo).length := by
  unfold body
  rw [List.length_append, BeP.parts_length, inner_length]; omega
theorem bytes_length (x : RecX) (h : fits x = true) : (bytes x).length = 2 + (body x).length := by
  unfold bytes
  rw [if_pos h, List.length_append, BeP.parts_length]
theorem fits_right {x : RecX} (h : fits x = true) : Right x := by
  unfold fits at h
  simp only [Bool.and_eq_true] at h
  exact (right_iff x).1 h.1
theorem fits_len {x : RecX} (h : fits x = true) : (body x).length ≤ 65535 := by
  unfold fits at h
  simp only [Bool.and_eq_true, decide_eq_true_eq] at h
  exact h.2
end RecP
end Go.Proofs.Ytiokcemlfdonnaa
end
section
namespace Go.Proofs.Ytiokcemlfdonnaa.CellP

/-- the second byte, as a number -/
def len1 (l : List UInt8) : Nat := (l.getD 1 0).toNat
/-- the cell with which bytes begin, how many bytes it takes, the error's number -/
def get (l : List UInt8) : Cell × Int × Int :=
  if l.length < 1 then (none, 0, 13)
  else if NumP.val l 0 1 = 1 then
    (if l.length < 2 ∨ l.length < 2 + len1 l then (none, 0, 13) else if 32 < len1 l then (none, 0, 12) else (⟨1, (l.drop 2).take (len1 l), 0, 0, 0⟩, 2 + (len1 l : Int), 0))
  else if NumP.val l 0 1 = 2 then
    (if l.length < 25 then (none, 0, 13) else if NumP.val l 1 8 ≤ NumP.val l 17 8 ∧ NumP.val l 17 8 ≤ NumP.val l 9 8 then (⟨2, [], NumP.val l 1 8, NumP.val l 9 8, NumP.val l 17 8⟩, 25, 0) else (none, 0, 12))
  else (none, 0, 12)

theorem len1_val (l : List UInt8) (h : 2 ≤ l.length) : NumP.val l 1 1 = (len1 l : Int) := by
  match l, h with
  | a :: b :: r, _ => exact NumP.val_one [a] r b
theorem len1_lt (l : List UInt8) : len1 l < 256 := (l.getD 1 0).toNat_lt
theorem val_in (l : List UInt8) (a width : Nat) (h : width ≤ 8) : In64 (NumP.val l a width) := by
  unfold NumP.val
  split
  · exact NumP.toI_in _ (NumP.num_lt8 _ (by simp; omega))
  · unfold In64; omega
theorem get_short (l : List UInt8) (h : l.length < 1) : get l = (none, 0, 13) := by simp only [get]; rw [if_pos h]
theorem get_rec_short (l : List UInt8) (h : ¬ l.length < 1) (hk : NumP.val l 0 1 = 1) (h2 : l.length < 2 ∨ l.length < 2 + len1 l) : get l = (none, 0, 13) := by
  simp only [get]; rw [if_neg h, if_pos hk, if_pos h2]
theorem get_rec_form (l : List UInt8) (h : ¬ l.length < 1) (hk : NumP.val l 0 1 = 1) (h2 : ¬ (l.length < 2 ∨ l.length < 2 + len1 l)) (h3 : 32 < len1 l) : get l = (none, 0, 12) := by
  simp only [get]; rw [if_neg h, if_pos hk, if_neg h2, if_pos h3]
theorem get_rec (l : List UInt8) (h : ¬ l.length < 1) (hk : NumP.val l 0 1 = 1) (h2 : ¬ (l.length < 2 ∨ l.length < 2 + len1 l)) (h3 : ¬ 32 < len1 l) : get l = (⟨1, (l.drop 2).take (len1 l), 0, 0, 0⟩, 2 + (len1 l : Int), 0) := by
  simp only [get]; rw [if_neg h, if_pos hk, if_neg h2, if_neg h3]
theorem get_cnt_short (l : List UInt8) (h : ¬ l.length < 1) (hk : NumP.val l 0 1 = 2) (h2 : l.length < 25) : get l = (none, 0, 13) := by
  simp only [get]; rw [if_neg h, if_neg (by omega), if_pos hk, if_pos h2]
theorem get_cnt_form (l : List UInt8) (h : ¬ l.length < 1) (hk : NumP.val l 0 1 = 2) (h2 : ¬ l.length < 25) (h3 : ¬ (NumP.val l 1 8 ≤ NumP.val l 17 8 ∧ NumP.val l 17 8 ≤ NumP.val l 9 8)) : get l = (none, 0, 12) := by
  simp only [get]; rw [if_neg h, if_neg (by omega), if_pos hk, if_neg h2, if_neg h3]
theorem get_cnt (l : List UInt8) (h : ¬ l.length < 1) (hk : NumP.val l 0 1 = 2) (h2 : ¬ l.length < 25) (h3 : NumP.val l 1 8 ≤ NumP.val l 17 8 ∧ NumP.val l 17 8 ≤ NumP.val l 9 8) :
    get l = (⟨2, [], NumP.val l 1 8, NumP.val l 9 8, NumP.val l 17 8⟩, 25, 0) := by
  simp only [get]; rw [if_neg h, if_neg (by omega), if_pos hk, if_neg h2, if_pos h3]
theorem get_other (l : List UInt8) (h : ¬ l.length < 1) (hk : NumP.val l 0 1 ≠ 1) (hk2 : NumP.val l 0 1 ≠ 2) : get l = (none, 0, 12) := by
  simp only [get]; rw [if_neg h, if_neg hk, if_neg hk2]

theorem right_rec (d : List UInt8) (h : d.length ≤ 32) : right ⟨1, d, 0, 0, 0⟩ = true := by simp [right, h]
theorem right_rec_no (d : List UInt8) (h : ¬ d.length ≤ 32) : right ⟨1, d, 0, 0, 0⟩ = false := by simp [right, h]
theorem right_cnt (lo hi v : Int) (h : lo ≤ v ∧ v ≤ hi) : right ⟨2, [], lo, hi, v⟩ = true := by simp [right, h]
theorem right_cnt_no (lo hi v : Int) (h : ¬ (lo ≤ v ∧ v ≤ hi)) : right ⟨2, [], lo, hi, v⟩ = false := by
  simp [right]
  omega
theorem right_other (k : Int) (d : List UInt8) (lo hi v : Int) (h1 : k ≠ 1) (h2 : k ≠ 2) : right ⟨k, d, lo, hi, v⟩ = false := by simp [right, h1, h2]
/-- a cell that may be is got out of its bytes -/
theorem get_bytes (c : Cell) (post : List UInt8) (hr : right c = true) (hi : In64 c.lo ∧ In64 c.hi ∧ In64 c.val) : get (bytes c ++ post) = (c, ((bytes c).length : Int), 0) := by
  obtain ⟨k, d, lo, hi', v⟩ := c
  obtain ⟨i1, i2, i3⟩ := hi
  dsimp only at *
  have hr' := hr
  by_cases hk : k = 1
  · subst hk
    simp [right] at hr'
    obtain ⟨hd, rfl, rfl, rfl⟩ := hr'
    have hb : bytes ⟨1, d, 0, 0, 0⟩ = 1 :: UInt8.ofNat d.length :: d := by
      unfold bytes
      rw [if_pos hr, if_pos rfl]
      rfl
    rw [hb]
    have hn : (UInt8.ofNat d.length).toNat = d.length := by simp; omega
    have hl1 : len1 (1 :: UInt8.ofNat d.length :: d ++ post) = d.length := by simp [len1]; omega
    have hv : NumP.val (1 :: UInt8.ofNat d.length :: d ++ post) 0 1 = 1 := NumP.val_one [] (UInt8.ofNat d.length :: d ++ post) 1
    rw [get_rec _ (by simp) hv (by rw [hl1]; simp; omega) (by rw [hl1]; omega), hl1]
    simp
    omega
  · have hk2 : k = 2 := by simp [right, hk] at hr'; exact hr'.1
    subst hk2
    simp [right] at hr'
    obtain ⟨rfl, h1, h2⟩ := hr'
    have hb : bytes ⟨2, [], lo, hi', v⟩ = 2 :: (BeP.parts 8 lo ++ (BeP.parts 8 hi' ++ BeP.parts 8 v)) := by
      unfold bytes
      rw [if_pos hr, if_neg (by simp)]
      rfl
    rw [hb]
    have p1 := BeP.parts_length 8 lo
    have p2 := BeP.parts_length 8 hi'
    have p3 := BeP.parts_length 8 v
    have hv : NumP.val (2 :: (BeP.parts 8 lo ++ (BeP.parts 8 hi' ++ BeP.parts 8 v)) ++ post) 0 1 = 2 := NumP.val_one [] _ 2
    have e1 : NumP.val (2 :: (BeP.parts 8 lo ++ (BeP.parts 8 hi' ++ BeP.parts 8 v)) ++ post) 1 8 = lo := by
      have := NumP.val_parts8 [2] (BeP.parts 8 hi' ++ (BeP.parts 8 v ++ post)) lo i1
      simpa using this
    have e2 : NumP.val (2 :: (BeP.parts 8 lo ++ (BeP.parts 8 hi' ++ BeP.parts 8 v)) ++ post) 9 8 = hi' := by
      have := NumP.val_parts8 (2 :: BeP.parts 8 lo) (BeP.parts 8 v ++ post) hi' i2
      simpa [p1] using this
    have e3 : NumP.val (2 :: (BeP.parts 8 lo ++ (BeP.parts 8 hi' ++ BeP.parts 8 v)) ++ post) 17 8 = v := by
      have := NumP.val_parts8 (2 :: BeP.parts 8 lo ++ BeP.parts 8 hi') post v i3
      simpa [p1, p2] using this
    rw [get_cnt _ (by simp) hv (by simp [p1, p2, p3]; omega) (by rw [e1, e2, e3]; exact ⟨h1, h2⟩), e1, e2, e3]
    simp [p1, p2, p3]
end Go.Proofs.Ytiokcemlfdonnaa.CellP
end
section
namespace Go.Proofs.Ytiokcemlfdonnaa.SlotP

/-- bytes as a text -/
def text (l : List UInt8) : ByteArray := ⟨l.toArray⟩
/-- the item that bytes seem to be -/
def seem (l : List UInt8) : Item := ⟨((l.getD 0 0).toNat : Int), text ((l.drop 2).take (l.getD 1 0).toNat), (CellP.get (l.drop (2 + (l.getD 1 0).toNat))).1⟩
/-- is it one? -/
def good (l : List UInt8) : Bool := decide ((l.getD 1 0).toNat ≤ 16) && ((CellP.get (l.drop (2 + (l.getD 1 0).toNat))).2.2 == 0 && (right (seem l) && (bytes (seem l) == l)))
/-- the item of which bytes are, and the error's number -/
def get (l : List UInt8) : Item × Int := if l = zeros 64 then (none, 0) else if good l = true then (seem l, 0) else (none, 12)

theorem text_of (s : ByteArray) : text s.data.toList = s := by
  obtain ⟨⟨l⟩⟩ := s
  rfl
theorem bytearray_ext {a b : ByteArray} (h : a.toList = b.toList) : a = b := by
  have h2 : a.data.toList = b.data.toList := by
    rw [ByteArray.toList_eq, ByteArray.toList_eq] at h
    exact h
  rw [← text_of a, ← text_of b, h2]
theorem cell_same {c d : Cell} (h : CellP.same c d = true) : c = d := by
  obtain ⟨k, l, lo, hi, v⟩ := c
  obtain ⟨k', l', lo', hi', v'⟩ := d
  simp [CellP.same] at h
  obtain ⟨rfl, rfl, rfl, rfl, rfl⟩ := h
  rfl
theorem same_eq {x y : Item} (h : same x y = true) : x = y := by
  obtain ⟨s, k, c⟩ := x
  obtain ⟨s', k', c'⟩ := y
  unfold same at h
  simp only [Bool.and_eq_true, beq_iff_eq] at h
  obtain ⟨rfl, h2, h3⟩ := h
  obtain rfl := bytearray_ext h2
  obtain rfl := cell_same h3
  rfl
theorem right_none (x : Item) (h0 : x.state = 0) (hr : right x = true) : x = none := by
  unfold right at hr
  rw [if_pos h0] at hr
  exact same_eq hr
/-- numbers that may be -/
def In (x : Item) : Prop := In64 x.state ∧ In64 x.cell.kind ∧ In64 x.cell.lo ∧ In64 x.cell.hi ∧ In64 x.cell.val
theorem bytes_full (x : Item) (h0 : x.state ≠ 0) (hr : right x = true) : bytes x = UInt8.ofNat x.state.toNat :: UInt8.ofNat x.key.size :: (x.key.data.toList ++ (CellP.bytes x.cell ++ zeros (64 - (body x).length))) := by
  unfold bytes
  rw [if_pos ⟨h0, hr⟩]
  simp [body]
theorem seem_bytes (x : Item) (h0 : x.state ≠ 0) (hr : right x = true) (hi : In64 x.cell.lo ∧ In64 x.cell.hi ∧ In64 x.cell.val) :
    seem (bytes x) = x ∧ ((bytes x).getD 1 0).toNat = x.key.size ∧ (CellP.get ((bytes x).drop (2 + x.key.size))).2.2 = 0 := by
  have hk := right_key x h0 hr
  have h12 := right_state x h0 hr
  have hc := right_cell x h0 hr
  have hl : x.key.data.toList.length = x.key.size := Array.length_toList
  have hb := bytes_full x h0 hr
  have hn : (UInt8.ofNat x.key.size).toNat = x.key.size := by simp; omega
  have h1 : ((bytes x).getD 1 0).toNat = x.key.size := by rw [hb]; exact hn
  have hd : (bytes x).drop (2 + x.key.size) = CellP.bytes x.cell ++ zeros (64 - (body x).length) := by
    rw [hb, Nat.add_comm 2, List.drop_succ_cons, List.drop_succ_cons, ← hl, List.drop_left]
  have hg := CellP.get_bytes x.cell (zeros (64 - (body x).length)) hc hi
  refine ⟨?_, h1, by rw [hd, hg]⟩
  unfold seem
  rw [h1, hd, hg]
  have h2 : ((bytes x).drop 2).take x.key.size = x.key.data.toList := by
    rw [hb, List.drop_succ_cons, List.drop_succ_cons, List.drop_zero, ← hl, List.take_left]
  rw [h2, text_of]
  have h3 : (((bytes x).getD 0 0).toNat : Int) = x.state := by
    rw [hb]
    rcases h12 with e | e <;> rw [e] <;> rfl
  rw [h3]
theorem zeros_ne (x : Item) (h0 : x.state ≠ 0) (hr : right x = true) : bytes x ≠ zeros 64 := by
  intro h
  have hb := bytes_full x h0 hr
  rw [h] at hb
  have h1 := congrArg (fun l => l.getD 0 0) hb
  rcases right_state x h0 hr with e | e
  · rw [e] at h1
    have h2 : (0 : UInt8) = UInt8.ofNat (Int.toNat 1) := h1
    exact absurd h2 (by decide)
  · rw [e] at h1
    have h2 : (0 : UInt8) = UInt8.ofNat (Int.toNat 2) := h1
    exact absurd h2 (by decide)
theorem get_zeros : get (zeros 64) = (none, 0) := by unfold get; rw [if_pos rfl]
/-- an item that may be is got out of its bytes -/
theorem get_bytes (x : Item) (hr : right x = true) (hi : In x) : get (bytes x) = (x, 0) := by
  by_cases h0 : x.state = 0
  · have hx := right_none x h0 hr
    have hb : bytes x = zeros 64 := by
      unfold bytes
      rw [if_neg (by simp [h0])]
    rw [hb, get_zeros, hx]
  · obtain ⟨h1, h2, h3⟩ := seem_bytes x h0 hr hi.2.2
    have hk := right_key x h0 hr
    have hg : good (bytes x) = true := by
      unfold good
      rw [h1, h2, h3, hr]
      simp [hk]
    unfold get
    rw [if_neg (zeros_ne x h0 hr), if_pos hg, h1]
end Go.Proofs.Ytiokcemlfdonnaa.SlotP
end
section
namespace Go.Proofs.Ytiokcemlfdonnaa
open Go.ChangeShapes Go.WideShapes Go.ChangeAt Go.RowKit
set_option linter.unusedVariables false
set_option maxRecDepth 100000
def recV (x : RecX) (A : Option Addr) (n c : Nat) (A2 : Option Addr) (n2 c2 : Nat) : List Value := [.int .i64 x.kind, .int .i64 x.txn, .int .i64 x.prev, .int .i64 x.next, .slice A n c, .int .i64 x.undo.act, .string x.undo.key, .int .i64 x.undo.item.state, .string x.undo.item.key, .int .i64 x.undo.item.cell.kind, .slice A2 n2 c2, .int .i64 x.undo.item.cell.lo, .int .i64 x.undo.item.cell.hi, .int .i64 x.undo.item.cell.val, .int .i64 x.undo.n]
/-- the numbers of a record fit the words they lie in -/
def RecIn (x : RecX) : Prop := (x.undo.key.size ≤ maxLen ∧ x.undo.item.key.size ≤ maxLen) ∧ SlotP.In x.undo.item ∧ In64 x.undo.act ∧ In64 x.undo.n ∧ In64 x.kind ∧ In64 x.txn ∧ In64 x.prev ∧ In64 x.next
def RRec (w : World) (B : Nat) (v : Value) (x : RecX) : Prop := ∃ A n c A2 n2 c2, v = .agg ⟨recV x A n c A2 n2 c2⟩ ∧ Elems PatchE w B A n c x.patches ∧ Bytes w B A2 n2 c2 x.undo.item.cell.data ∧ RecIn x
section
variable {H : Type} {enc : TypeId × Value → H} {P : Program} {w : World}
theorem bool_of {t : TypeId} (ht : P.underlying t = some .bool) {fuel : Nat} {cs : List Value} {x : DataW H × List MemPlace} (h : DataW.trod enc P w 0 (fun _ => true) true fuel t cs = some x) : ∃ b, cs = [.bool b] := by
  obtain ⟨b, e, _⟩ := DataW.trod_bool ht h
  exact ⟨b, e⟩
end
section
variable {H : Type} {enc : TypeId × Value → H} {W : World} {base : Nat} {v : Value} {d : DataW H} {p : List MemPlace}
theorem cells_run {n0 : Nat} {l : List Value} {y0 : DataW H × List MemPlace} (hf : DataW.trod enc Try.prog W 0 (fun _ => true) true n0 100 l = some y0) : ∃ x, RunE.rel W W.heap.size l x := by
  obtain ⟨hl, n, hg⟩ := field_of Try.underlying100 hf
  have hl' : l.length = 2 := hl.trans (by kernel_rfl)
  match l, hl' with
  | [c0, c1], _ =>
    obtain ⟨y0, h0⟩ := hg 0 3 0 1 rfl (by kernel_rfl)
    have h0' : DataW.trod enc Try.prog W 0 (fun _ => true) true n 3 [c0] = some y0 := h0
    obtain ⟨z0, e0, _, q0⟩ := DataW.trod_int Try.underlying3 h0'
    obtain ⟨y1, h1⟩ := hg 1 23 1 1 rfl (by kernel_rfl)
    have h1' : DataW.trod enc Try.prog W 0 (fun _ => true) true n 23 [c1] = some y1 := h1
    obtain ⟨A1, n1, k1, z1, e1, q1⟩ := bytes_of Try.underlying23 Try.underlying5 (by kernel_rfl) h1'
    simp only [List.cons.injEq, and_true] at e0 e1
    subst e0 e1
    exact ⟨⟨z0, z1⟩, A1, n1, k1, rfl, q1, in64 q0⟩
theorem cells_patch {n0 : Nat} {l : List Value} {y0 : DataW H × List MemPlace} (hf : DataW.trod enc Try.prog W 0 (fun _ => true) true n0 63 l = some y0) : ∃ x, PatchE.rel W W.heap.size l x := by
  obtain ⟨hl, n, hg⟩ := field_of Try.underlying63 hf
  have hl' : l.length = 3 := hl.trans (by kernel_rfl)
  match l, hl' with
  | [c0, c1, c2], _ =>
    obtain ⟨y0, h0⟩ := hg 0 3 0 1 rfl (by kernel_rfl)
    have h0' : DataW.trod enc Try.prog W 0 (fun _ => true) true n 3 [c0] = some y0 := h0
    obtain ⟨z0, e0, _, q0⟩ := DataW.trod_int Try.underlying3 h0'
    obtain ⟨y1, h1⟩ := hg 1 4 1 1 rfl (by kernel_rfl)
    have h1' : DataW.trod enc Try.prog W 0 (fun _ => true) true n 4 [c1] = some y1 := h1
    obtain ⟨z1, e1⟩ := bool_of Try.underlying4 h1'
    obtain ⟨y2, h2⟩ := hg 2 61 2 1 rfl (by kernel_rfl)
    have h2' : DataW.trod enc Try.prog W 0 (fun _ => true) true n 61 [c2] = some y2 := h2
    obtain ⟨A2, n2, k2, z2, e2, q2⟩ := elems_of RunE Try.underlying61 (by kernel_rfl) (fun _ _ _ hq => cells_run hq) h2'
    simp only [List.cons.injEq, and_true] at e0 e1 e2
    subst e0 e1 e2
    exact ⟨⟨z0, z1, z2⟩, A2, n2, k2, rfl, q2, in64 q0⟩
theorem open_rec (hv : Value.okWide Try.prog W .any base 31 v) (h : DataW.Trod enc Try.prog W 0 (fun _ => true) true 31 v d p) : ∃ x, RRec W W.heap.size v x := by
  obtain ⟨cs, rfl, hsz⟩ := okWide_struct Try.underlying31 hv
  obtain ⟨l⟩ := cs
  obtain ⟨fuel, hf⟩ := h
  obtain ⟨hl, n, hg⟩ := field_of Try.underlying31 hf
  have hl' : l.length = 15 := hl.trans (by kernel_rfl)
  match l, hl' with
  | [c0, c1, c2, c3, c4, c5, c6, c7, c8, c9, c10, c11, c12, c13, c14], _ =>
    obtain ⟨y0, h0⟩ := hg 0 3 0 1 rfl (by kernel_rfl)
    have h0' : DataW.trod enc Try.prog W 0 (fun _ => true) true n 3 [c0] = some y0 := h0
    obtain ⟨z0, e0, _, q0⟩ := DataW.trod_int Try.underlying3 h0'
    obtain ⟨y1, h1⟩ := hg 1 3 1 1 rfl (by kernel_rfl)
    have h1' : DataW.trod enc Try.prog W 0 (fun _ => true) true n 3 [c1] = some y1 := h1
    obtain ⟨z1, e1, _, q1⟩ := DataW.trod_int Try.underlying3 h1'
    obtain ⟨y2, h2⟩ := hg 2 3 2 1 rfl (by kernel_rfl)
    have h2' : DataW.trod enc Try.prog W 0 (fun _ => true) true n 3 [c2] = some y2 := h2
    obtain ⟨z2, e2, _, q2⟩ := DataW.trod_int Try.underlying3 h2'
    obtain ⟨y3, h3⟩ := hg 3 3 3 1 rfl (by kernel_rfl)
    have h3' : DataW.trod enc Try.prog W 0 (fun _ => true) true n 3 [c3] = some y3 := h3
    obtain ⟨z3, e3, _, q3⟩ := DataW.trod_int Try.underlying3 h3'
    obtain ⟨y4, h4⟩ := hg 4 22 4 1 rfl (by kernel_rfl)
    have h4' : DataW.trod enc Try.prog W 0 (fun _ => true) true n 22 [c4] = some y4 := h4
    obtain ⟨A4, n4, k4, z4, e4, q4⟩ := elems_of PatchE Try.underlying22 (by kernel_rfl) (fun _ _ _ hq => cells_patch hq) h4'
    obtain ⟨w5, g5⟩ := hg 5 29 5 10 rfl (by kernel_rfl)
    have g5' : DataW.trod enc Try.prog W 0 (fun _ => true) true n 29 [c5, c6, c7, c8, c9, c10, c11, c12, c13, c14] = some w5 := g5
    obtain ⟨_, m5, hg5⟩ := field_of Try.underlying29 g5'
    obtain ⟨y5, h5⟩ := hg5 0 3 0 1 rfl (by kernel_rfl)
    have h5' : DataW.trod enc Try.prog W 0 (fun _ => true) true m5 3 [c5] = some y5 := h5
    obtain ⟨z5, e5, _, q5⟩ := DataW.trod_int Try.underlying3 h5'
    obtain ⟨y6, h6⟩ := hg5 1 9 1 1 rfl (by kernel_rfl)
    have h6' : DataW.trod enc Try.prog W 0 (fun _ => true) true m5 9 [c6] = some y6 := h6
    obtain ⟨z6, e6, _, q6⟩ := DataW.trod_string Try.underlying9 h6'
    obtain ⟨w7, g7⟩ := hg5 2 27 2 7 rfl (by kernel_rfl)
    have g7' : DataW.trod enc Try.prog W 0 (fun _ => true) true m5 27 [c7, c8, c9, c10, c11, c12, c13] = some w7 := g7
    obtain ⟨_, m7, hg7⟩ := field_of Try.underlying27 g7'
    obtain ⟨y7, h7⟩ := hg7 0 3 0 1 rfl (by kernel_rfl)
    have h7' : DataW.trod enc Try.prog W 0 (fun _ => true) true m7 3 [c7] = some y7 := h7
    obtain ⟨z7, e7, _, q7⟩ := DataW.trod_int Try.underlying3 h7'
    obtain ⟨y8, h8⟩ := hg7 1 9 1 1 rfl (by kernel_rfl)
    have h8' : DataW.trod enc Try.prog W 0 (fun _ => true) true m7 9 [c8] = some y8 := h8
    obtain ⟨z8, e8, _, q8⟩ := DataW.trod_string Try.underlying9 h8'
    obtain ⟨w9, g9⟩ := hg7 2 25 2 5 rfl (by kernel_rfl)
    have g9' : DataW.trod enc Try.prog W 0 (fun _ => true) true m7 25 [c9, c10, c11, c12, c13] = some w9 := g9
    obtain ⟨_, m9, hg9⟩ := field_of Try.underlying25 g9'
    obtain ⟨y9, h9⟩ := hg9 0 3 0 1 rfl (by kernel_rfl)
    have h9' : DataW.trod enc Try.prog W 0 (fun _ => true) true m9 3 [c9] = some y9 := h9
    obtain ⟨z9, e9, _, q9⟩ := DataW.trod_int Try.underlying3 h9'
    obtain ⟨y10, h10⟩ := hg9 1 23 1 1 rfl (by kernel_rfl)
    have h10' : DataW.trod enc Try.prog W 0 (fun _ => true) true m9 23 [c10] = some y10 := h10
    obtain ⟨A10, n10, k10, z10, e10, q10⟩ := bytes_of Try.underlying23 Try.underlying5 (by kernel_rfl) h10'
    obtain ⟨y11, h11⟩ := hg9 2 3 2 1 rfl (by kernel_rfl)
    have h11' : DataW.trod enc Try.prog W 0 (fun _ => true) true m9 3 [c11] = some y11 := h11
    obtain ⟨z11, e11, _, q11⟩ := DataW.trod_int Try.underlying3 h11'
    obtain ⟨y12, h12⟩ := hg9 3 3 3 1 rfl (by kernel_rfl)
    have h12' : DataW.trod enc Try.prog W 0 (fun _ => true) true m9 3 [c12] = some y12 := h12
    obtain ⟨z12, e12, _, q12⟩ := DataW.trod_int Try.underlying3 h12'
    obtain ⟨y13, h13⟩ := hg9 4 3 4 1 rfl (by kernel_rfl)
    have h13' : DataW.trod enc Try.prog W 0 (fun _ => true) true m9 3 [c13] = some y13 := h13
    obtain ⟨z13, e13, _, q13⟩ := DataW.trod_int Try.underlying3 h13'
    obtain ⟨y14, h14⟩ := hg5 3 3 9 1 rfl (by kernel_rfl)
    have h14' : DataW.trod enc Try.prog W 0 (fun _ => true) true m5 3 [c14] = some y14 := h14
    obtain ⟨z14, e14, _, q14⟩ := DataW.trod_int Try.underlying3 h14'
    simp only [List.cons.injEq, and_true] at e0 e1 e2 e3 e4 e5 e6 e7 e8 e9 e10 e11 e12 e13 e14
    subst e0 e1 e2 e3 e4 e5 e6 e7 e8 e9 e10 e11 e12 e13 e14
    exact ⟨⟨z0, z1, z2, z3, z4, ⟨z5, z6, ⟨z7, z8, ⟨z9, z10, z11, z12, z13⟩⟩, z14⟩⟩, A4, n4, k4, A10, n10, k10, rfl, q4, q10, ⟨q6, q8⟩, ⟨in64 q7, in64 q9, in64 q11, in64 q12, in64 q13⟩, in64 q5, in64 q14, in64 q0, in64 q1, in64 q2, in64 q3⟩
end
end Go.Proofs.Ytiokcemlfdonnaa
end
section
namespace Go.Proofs.Ytiokcemlfdonnaa.Same
open Go.RowKit

theorem str_beq (l l' : List UInt8) : ((strOf l).toList == (strOf l').toList) = (l == l') := by
  rw [Lib.toList_data, Lib.toList_data, strOf_data, strOf_data]

set_option maxHeartbeats 400000 in
theorem same_any (A A' : Option Addr) (n c n' c' B B' : Nat) (l l' : List UInt8) (w : World) (h : Bytes w B A n c l) (h' : Bytes w B' A' n' c' l') :
    Calls Try.prog 12 #[.slice A n c, .slice A' n' c'] w fun e w' => e = .returned (.bool (l == l')) ∧ w = w' := by
  have h1 := run_str (P := Try.prog) 23 9 5 Try.underlying23 Try.underlying5 Try.underlying9 h
  have h2 := run_str (P := Try.prog) 23 9 5 Try.underlying23 Try.underlying5 Try.underlying9 h'
  clear h h'
  have HS := Lib.hid (str_beq l l')
  go_enter Try.func12, Try.ntmps12
  go_wp2
  go_ret
  rw [← HS.out]
  exact ⟨rfl, rfl⟩

set_option maxHeartbeats 400000 in
theorem equal_any (A A' : Option Addr) (n c n' c' B B' : Nat) (l l' : List UInt8) (w : World) (h : Bytes w B A n c l) (h' : Bytes w B' A' n' c' l') :
    Calls Try.prog 50 #[.slice A n c, .slice A' n' c'] w fun e w' => e = .returned (.bool (l == l')) ∧ w = w' := by
  have h1 := run_str (P := Try.prog) 23 9 5 Try.underlying23 Try.underlying5 Try.underlying9 h
  have h2 := run_str (P := Try.prog) 23 9 5 Try.underlying23 Try.underlying5 Try.underlying9 h'
  clear h h'
  have HS := Lib.hid (str_beq l l')
  go_enter Try.func50, Try.ntmps50
  go_wp2
  go_ret
  rw [← HS.out]
  exact ⟨rfl, rfl⟩
end Go.Proofs.Ytiokcemlfdonnaa.Same
end
section
namespace Go.Proofs.Ytiokcemlfdonnaa.PatchW
open Go.RowKit
set_option linter.unusedVariables false
set_option linter.unusedSimpArgs false
def code (b : Bool) : Int := if b then 0 else 1
set_option maxRecDepth 100000 in
set_option maxHeartbeats 1000000 in
theorem within_any (r : RunX) (A : Option Addr) (n c : Nat) (hn : r.data.length = n) (hm : n ≤ maxLen) (hi : In64 r.at_) (w : World) :
    Calls Try.prog 81 #[.agg #[.int .i64 r.at_, .slice A n c]] w fun e w' => e = .returned (.bool (PatchP.within r)) ∧ Below w.heap.size w w' := by
  have hs : PatchP.stop r = r.at_ + (n : Nat) := by unfold PatchP.stop; rw [hn]
  unfold maxLen at hm
  obtain ⟨hi1, hi2⟩ := hi
  obtain ⟨p, data⟩ := r
  dsimp only at *
  obtain ⟨W0, hW0⟩ : ∃ W, w.alloc (.cells #[.int .i64 p, .slice A n c] 100) = W := ⟨_, rfl⟩
  obtain ⟨HS0, HB0, hw0, hz0⟩ := new1 hW0
  have g0 := str2 HS0.out
  have hl0 := HS0.out.lt
  clear hz0
  by_cases c0 : 0 < n
  · have d0 : decide (0 < (n : Int)) = true := by simp; omega
    by_cases c1 : 12 ≤ p
    · have d1 : decide (12 ≤ p) = true := by simp; omega
      by_cases c2 : p < 512
      · have d2 : decide (p < 512) = true := by simp; omega
        by_cases c3 : (n : Int) ≤ 512 - p
        · have d3 : decide ((n : Int) ≤ 512 - p) = true := by simp; omega
          have hR : PatchP.within ⟨p, data⟩ = true := PatchP.within_yes _ ⟨by show 0 < data.length; omega, by show 12 ≤ p; omega, by omega⟩
          have HR := Lib.hid hR
          clear hR hs hn
          go_enter Try.func81, Try.ntmps81
          go_wp2
          go_ret
          exact ⟨by rw [HR.out]; rfl, HB0.out⟩
        · have d3 : decide ((n : Int) ≤ 512 - p) = false := by simp; omega
          have hR : PatchP.within ⟨p, data⟩ = false := PatchP.within_no _ (fun h => by obtain ⟨h1, h2, h3⟩ := h; dsimp only at h1 h2; omega)
          have HR := Lib.hid hR
          clear hR hs hn
          go_enter Try.func81, Try.ntmps81
          go_wp2
          go_ret
          exact ⟨by rw [HR.out]; rfl, HB0.out⟩
      · have d2 : decide (p < 512) = false := by simp; omega
        have hR : PatchP.within ⟨p, data⟩ = false := PatchP.within_no _ (fun h => by obtain ⟨h1, h2, h3⟩ := h; dsimp only at h1 h2; omega)
        have HR := Lib.hid hR
        clear hR hs hn
        go_enter Try.func81, Try.ntmps81
        go_wp2
        go_ret
        exact ⟨by rw [HR.out]; rfl, HB0.out⟩
    · have d1 : decide (12 ≤ p) = false := by simp; omega
      have hR : PatchP.within ⟨p, data⟩ = false := PatchP.within_no _ (fun h => by obtain ⟨h1, h2, h3⟩ := h; dsimp only at h1 h2; omega)
      have HR := Lib.hid hR
      clear hR hs hn
      go_enter Try.func81, Try.ntmps81
      go_wp2
      go_ret
      exact ⟨by rw [HR.out]; rfl, HB0.out⟩
  · have d0 : decide (0 < (n : Int)) = false := by simp; omega
    have hR : PatchP.within ⟨p, data⟩ = false := PatchP.within_no _ (fun h => by obtain ⟨h1, h2, h3⟩ := h; dsimp only at h1 h2; omega)
    have HR := Lib.hid hR
    clear hR hs hn
    go_enter Try.func81, Try.ntmps81
    go_wp2
    go_ret
    exact ⟨by rw [HR.out]; rfl, HB0.out⟩
set_option maxRecDepth 100000 in
set_option maxHeartbeats 2000000 in
theorem check_any (x : PatchX) (A : Option Addr) (n c B : Nat) (w : World) (hE : Elems RunE w B A n c x.runs) (hB : B ≤ w.heap.size) (hi : In64 x.page) :
    Calls Try.prog 39 #[.agg #[.int .i64 x.page, .bool x.fresh, .slice A n c]] w fun e w' => e = .returned (.int .i64 (code (PatchP.right x))) ∧ Below w.heap.size w w' := by
  have HE := Lib.hid hE
  have hlen := hE.len
  have hcap := hE.cap
  have hcm := hcap.2
  unfold maxLen at hcm
  clear hE
  obtain ⟨p, fr, l⟩ := x
  dsimp only at *
  obtain ⟨W0, hW0⟩ : ∃ W, w.alloc (.cells #[.int .i64 p, .bool fr, .slice A n c] 63) = W := ⟨_, rfl⟩
  obtain ⟨HS0, HB0, hw0, hz0⟩ := new1 hW0
  have g0 := str3 HS0.out
  have hl0 := HS0.out.lt
  clear hz0
  by_cases c0 : p < 0
  · have d0 : decide (p < 0) = true := by simpa using c0
    have HR := Lib.hid (PatchP.bad_page ⟨p, fr, l⟩ (.inl c0))
    go_enter Try.func39, Try.ntmps39
    go_wp2
    go_ret
    exact ⟨by rw [HR.out]; rfl, HB0.out⟩
  have d0 : decide (p < 0) = false := by simpa using c0
  by_cases c1 : 65535 < p
  · have d1 : decide (65535 < p) = true := by simpa using c1
    have HR := Lib.hid (PatchP.bad_page ⟨p, fr, l⟩ (.inr (.inl c1)))
    go_enter Try.func39, Try.ntmps39
    go_wp2
    go_ret
    exact ⟨by rw [HR.out]; rfl, HB0.out⟩
  have d1 : decide (65535 < p) = false := by simpa using c1
  by_cases c2 : 500 < n
  · have d2 : decide (500 < (n : Int)) = true := by simp; omega
    have HR := Lib.hid (PatchP.bad_page ⟨p, fr, l⟩ (.inr (.inr (by show 500 < l.length; omega))))
    go_enter Try.func39, Try.ntmps39
    go_wp2
    go_ret
    exact ⟨by rw [HR.out]; rfl, HB0.out⟩
  have d2 : decide (500 < (n : Int)) = false := by simp; omega
  have HBAD := Lib.hid (fun k r (hr : l[k]? = some r) hb => PatchP.bad_run ⟨p, fr, l⟩ (k := k) (r := r) hr hb)
  have HGOOD := Lib.hid (fun (h : PatchP.Okay l n) => PatchP.right_yes ⟨p, fr, l⟩ ⟨by show 0 ≤ p; omega, by show p ≤ 65535; omega, by show l.length ≤ 500; omega, by show PatchP.Okay l l.length; rw [hlen]; exact h⟩)
  clear c0 c1
  go_enter Try.func39, Try.ntmps39
  go_wp2
  go_loopw [3, 23] (fun ev iv wr => ∃ k : Nat, k ≤ n ∧ iv = .int .i64 (k : Int) ∧ ev = .int .i64 (PatchP.endOf l k) ∧ Hid (PatchP.Okay l k) ∧ Hid (Below w.heap.size w wr)) (fun _ iv _ => n - (intOf iv).toNat)
  case atStart => exact ⟨0, Nat.zero_le _, rfl, rfl, Lib.hid (PatchP.okay_zero l), HB0⟩
  case round =>
    obtain ⟨k, hk, rfl, rfl, HK, HB⟩ := hrel
    have hwr := HB.out.size
    have hend := PatchP.endOf_lo HK.out (Nat.le_refl k)
    clear g0 hl0 HB0
    by_cases hlt : k < n
    · have hd : decide ((k : Int) < (n : Int)) = true := by simp; omega
      obtain ⟨b, o, r, A2, n2, c2, rfl, hb, hr, hy, hir, q0, q1⟩ := run_at HE.out hlt
      have hyl := hy.len
      have hym : n2 ≤ maxLen := Nat.le_trans hy.2.1 hy.2.2.1
      have hyc := hy.2.1
      have hyc2 := hy.2.2.1
      unfold maxLen at hyc2
      replace q0 := (HB.out.cell (p := ⟨b, o + k * 2, none⟩) (by show b < _; omega)).trans q0
      replace q1 := (HB.out.cell (p := ⟨b, o + k * 2 + 1, none⟩) (by show b < _; omega)).trans q1
      have hst : PatchP.stop r = r.at_ + (n2 : Nat) := by unfold PatchP.stop; rw [hyl]
      have HR := Lib.hid hr
      obtain ⟨rp, rd⟩ := r
      dsimp only at *
      go_wp2_with fail
      generalize hW1 : wr.alloc (.cells #[.int .i64 rp, .slice A2 n2 c2] 100) = W1
      obtain ⟨HS1, HB1, hw1, hz1⟩ := new1 hW1
      refine (within_any ⟨rp, rd⟩ A2 n2 c2 hyl hym hir W1).mono ?_
      rintro e W2 ⟨rfl, hb2⟩
      have HS2 := Lib.hid (HS1.out.next hb2)
      have HB2 := Lib.hid (bstep HB.out (bstep HB1.out hb2))
      have g2 := str2 HS2.out
      have hl2 := HS2.out.lt
      clear hW1 hb2 HS1 HB1 hz1 hw1 q0 q1 hy hr
      by_cases hW : PatchP.Within ⟨rp, rd⟩
      · rw [PatchP.within_yes _ hW]
        by_cases he : PatchP.endOf l k < rp
        · have hd2 : decide (rp ≤ PatchP.endOf l k) = false := by simp; omega
          have HK2 : Hid (PatchP.Okay l (k + 1)) := Lib.hid (PatchP.okay_step HK.out HR.out hW he)
          have hen : PatchP.endOf l (k + 1) = rp + (n2 : Int) := (PatchP.endOf_succ l k _ HR.out).trans hst
          have hw3 : rp + (n2 : Int) ≤ 512 := by have := hW.2.2; omega
          have hw4 : 12 ≤ rp := hW.2.1
          have HEN := Lib.hid hen
          clear hW hen hst
          go_wp2
          go_roundw
          case rel => exact ⟨k + 1, by omega, by go_num, by rw [HEN.out], HK2, HB2⟩
          case measure => simp [intOf]; omega
        · have hd2 : decide (rp ≤ PatchP.endOf l k) = true := by simp; omega
          have HRR := Lib.hid (HBAD.out k _ HR.out (fun h => he h.2))
          clear hW he hst
          go_wp2
          go_ret
          exact ⟨by rw [HRR.out]; rfl, HB2.out⟩
      · rw [PatchP.within_no _ hW]
        have HRR := Lib.hid (HBAD.out k _ HR.out (fun h => hW h.1))
        clear hW hst
        go_wp2
        go_ret
        exact ⟨by rw [HRR.out]; rfl, HB2.out⟩
    · have hd : decide ((k : Int) < (n : Int)) = false := by simp; omega
      have hkn : k = n := by omega
      subst hkn
      have HRR := Lib.hid (HGOOD.out HK.out)
      go_wp2
      go_ret
      exact ⟨by rw [HRR.out]; rfl, HB.out⟩
end Go.Proofs.Ytiokcemlfdonnaa.PatchW
end
section
namespace Go.Proofs.Ytiokcemlfdonnaa.Reg
open Go.RowKit

/-- one word, at place j -/
def only {R : Way} (j : Nat) (p : SP R) : List (SP R) := List.replicate j any ++ [p]
section
variable {R : Way} {P : Program} {ops : Array Oper} {Q : Exit → Act → World → Prop} {T : List (SP R)} {a0 a : Act} {W w : World} {j : Nat} {o : Oper}
end
end Go.Proofs.Ytiokcemlfdonnaa.Reg
end
