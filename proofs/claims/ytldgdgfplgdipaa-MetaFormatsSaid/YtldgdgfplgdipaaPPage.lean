/-
  Plain words on pages. No program in sight.
-/
import Derived.Test.YtldgdgfplgdipaaPSlotGet
import Derived.Test.YtldgdgfplgdipaaPNum
import Derived.Test.YtldgdgfplgdipaaPCrc
namespace Go.Proofs.Ytldgdgfplgdipaa.PageP

/-- a slot of a page, and the error's number -/
def slot (l : List UInt8) (i : Int) : Item × Int := if i < 0 ∨ 7 ≤ i then (SlotP.none, 2) else SlotP.get ((l.drop (32 + i.toNat * 64)).take 64)
/-- a page with another slot -/
def withSlot (l : List UInt8) (i : Int) (x : Item) : List UInt8 := if i < 0 ∨ 7 ≤ i then l else SlotP.over l (32 + i.toNat * 64) (SlotP.bytes x)
theorem withSlot_length (l : List UInt8) (hl : l.length = 512) (i : Int) (x : Item) : (withSlot l i x).length = 512 := by
  unfold withSlot
  split
  · exact hl
  · rw [SlotP.over_length _ _ _ (by rw [SlotP.bytes_length]; omega)]
    exact hl
/-- a page with its sum -/
def sealed (l : List UInt8) : List UInt8 := SlotP.over l 0 (BeP.parts 4 ((CrcP.sum (l.drop 4) : Nat) : Int))
theorem sealed_length (l : List UInt8) (hl : l.length = 512) : (sealed l).length = 512 := by
  unfold sealed
  rw [SlotP.over_length _ _ _ (by rw [BeP.parts_length]; omega)]
  exact hl
/-- all these are 0 -/
def allz (l : List UInt8) : Bool := l.all fun c => c == 0
theorem allz_succ (l : List UInt8) (k : Nat) (h : k < l.length) : allz (l.take (k + 1)) = (allz (l.take k) && (l[k] == 0)) := by
  unfold allz
  rw [List.take_succ_eq_append_getElem h, List.all_append]
  simp
theorem allz_no (l : List UInt8) (k : Nat) (h : k < l.length) (h0 : l[k] ≠ 0) : allz l = false := by
  unfold allz
  rw [List.all_eq_false]
  exact ⟨l[k], List.getElem_mem h, by simpa using h0⟩
/-- the first k slots are some -/
def slotsOk (l : List UInt8) : Nat → Bool
  | 0 => true
  | k + 1 => slotsOk l k && ((slot l (k : Int)).2 == 0)
theorem slotsOk_succ (l : List UInt8) (k : Nat) : slotsOk l (k + 1) = (slotsOk l k && ((slot l (k : Int)).2 == 0)) := rfl
def right (l : List UInt8) (no : Int) : Bool :=
  (NumP.val l 0 4 == ((CrcP.sum (l.drop 4) : Nat) : Int)) && ((NumP.val l 12 2 == no) && (allz ((l.drop 24).take 8) && (allz (l.drop 480) && slotsOk l 7)))
theorem right_eq (l : List UInt8) (no : Int) : right l no = ((NumP.val l 0 4 == ((CrcP.sum (l.drop 4) : Nat) : Int)) && ((NumP.val l 12 2 == no) && (allz ((l.drop 24).take 8) && (allz (l.drop 480) && slotsOk l 7)))) := rfl
def code (b : Bool) : Int := if b then 0 else 14
theorem slotsOk_bad (l : List UInt8) (k : Nat) (h : (slot l (k : Int)).2 ≠ 0) : ∀ n, k < n → slotsOk l n = false
  | 0, hn => by omega
  | n + 1, hn => by
    unfold slotsOk
    by_cases hk : k = n
    · subst hk
      rw [beq_eq_false_iff_ne.2 h]
      simp
    · rw [slotsOk_bad l k h n (by omega)]
      rfl
theorem right_bad (l : List UInt8) (no : Int) (k : Nat) (hk : k < 7) (h : (slot l (k : Int)).2 ≠ 0) : right l no = false := by
  unfold right
  rw [slotsOk_bad l k h 7 hk]
  simp
theorem allz_eq (l : List UInt8) : (l == SlotP.zeros l.length) = allz l := by
  unfold allz SlotP.zeros
  rw [Bool.eq_iff_iff, beq_iff_eq, List.all_eq_true]
  constructor
  · intro h c hc
    rw [h] at hc
    simpa using (List.mem_replicate.1 hc).2
  · intro h
    exact List.eq_replicate_iff.2 ⟨rfl, fun c hc => by simpa using h c hc⟩
theorem sealed_eq (l : List UInt8) : sealed l = BeP.parts 4 ((CrcP.sum (l.drop 4) : Nat) : Int) ++ l.drop 4 := by
  unfold sealed SlotP.over
  rw [BeP.parts_length]
  rfl
end Go.Proofs.Ytldgdgfplgdipaa.PageP
