/-
  The walks of model.Step, Plain, Find, Same, SameAnswer, Right.
-/
import Derived.Test.YtghgccgpgonlmaaDoorModelG2
import Derived.Test.YtghgccgpgonlmaaDoorOpenM
namespace Go.Proofs.YtghgccgpgonlmaaDoor.ModelW
open Go.RowKit
set_option linter.unusedVariables false
theorem Elems.drew1 {w : World} {B n c : Nat} {A : Option Addr} {l : List Pair} (h : Pairs w B A n c l) : Pairs w.drew B A n c l := h.sub fun p v _ hv => hv
/-- what a state must be to be walked -/
structure Small (l : List Pair) : Prop where
  len : l.length ≤ 1000
  data : ∀ p ∈ l, p.cell.data.length ≤ 100000
/-- the call hands back a state and an answer -/
def GivesSA (w : World) (r : List Pair × Answer) (e : Ending) (w' : World) : Prop :=
  ∃ A n c A2 n2 c2, e = .returned (.tuple #[.slice A n c, .agg (ansV A2 n2 c2 r.2)]) ∧ Pairs w' w'.heap.size A n c r.1 ∧ Bytes w' w'.heap.size A2 n2 c2 r.2.cell.data ∧ Below w.heap.size w w'
set_option maxRecDepth 100000 in
set_option maxHeartbeats 1000000 in
theorem SameAnswer_any (a b : Answer) (Aa Ab : Option Addr) (na ca nb cb Ba Bb : Nat) (w : World) (h : Bytes w Ba Aa na ca a.cell.data) (hB : Ba ≤ w.heap.size) (h' : Bytes w Bb Ab nb cb b.cell.data) (hB' : Bb ≤ w.heap.size) :
    Calls Tryd.prog 18 #[.agg (ansV Aa na ca a), .agg (ansV Ab nb cb b)] w fun e w' => e = .returned (.bool (ModelP.sameAns a b)) ∧ Below w.heap.size w w' := by
  obtain ⟨ae, ak, ad, alo, ahi, ava⟩ := a
  obtain ⟨be, bk, bd, blo, bhi, bva⟩ := b
  dsimp only [ansV] at *
  have H := Lib.hid h
  have H' := Lib.hid h'
  clear h h'
  by_cases he : (ae == be) = true
  · have HE : Hid (ModelP.sameAns ⟨ae, ak, ad, alo, ahi, ava⟩ ⟨be, bk, bd, blo, bhi, bva⟩ = CellP.same ⟨ak, ad, alo, ahi, ava⟩ ⟨bk, bd, blo, bhi, bva⟩) := Lib.hid (by simp only [ModelP.sameAns, he, Bool.true_and])
    go_enter Tryd.func18, Tryd.ntmps18
    go_wp2_with (go_at_call 27; refine (CellW.same_any Aa Ab na ca nb cb Ba Bb ⟨ak, ad, alo, ahi, ava⟩ ⟨bk, bd, blo, bhi, bva⟩ _ ((H.out.alloc hB _).alloc (by simp; omega) _) ((H'.out.alloc hB' _).alloc (by simp; omega) _) (by simp; omega) (by simp; omega)).mono ?_; rintro e w1 ⟨rfl, hb⟩)
    go_ret
    exact ⟨by rw [HE.out]; rfl, bstep (balloc (balloc (bsame _) _) _) hb⟩
  · have he : (ae == be) = false := by simpa using he
    have HE : Hid (ModelP.sameAns ⟨ae, ak, ad, alo, ahi, ava⟩ ⟨be, bk, bd, blo, bhi, bva⟩ = false) := Lib.hid (by simp only [ModelP.sameAns, he, Bool.false_and])
    go_enter Tryd.func18, Tryd.ntmps18
    go_wp2
    go_ret
    exact ⟨by rw [HE.out]; rfl, balloc (balloc (bsame _) _) _⟩
set_option maxRecDepth 100000 in
set_option maxHeartbeats 1000000 in
theorem refSameAnswer_any (a b : Answer) (Aa Ab : Option Addr) (na ca nb cb Ba Bb : Nat) (w : World) (h : Bytes w Ba Aa na ca a.cell.data) (hB : Ba ≤ w.heap.size) (h' : Bytes w Bb Ab nb cb b.cell.data) (hB' : Bb ≤ w.heap.size) :
    Calls Tryd.prog 22 #[.agg (ansV Aa na ca a), .agg (ansV Ab nb cb b)] w fun e w' => e = .returned (.bool (ModelP.sameAns a b)) ∧ Below w.heap.size w w' := by
  obtain ⟨ae, ak, ad, alo, ahi, ava⟩ := a
  obtain ⟨be, bk, bd, blo, bhi, bva⟩ := b
  dsimp only [ansV] at *
  have H := Lib.hid h
  have H' := Lib.hid h'
  clear h h'
  by_cases he : (ae == be) = true
  · have HE : Hid (ModelP.sameAns ⟨ae, ak, ad, alo, ahi, ava⟩ ⟨be, bk, bd, blo, bhi, bva⟩ = CellP.same ⟨ak, ad, alo, ahi, ava⟩ ⟨bk, bd, blo, bhi, bva⟩) := Lib.hid (by simp only [ModelP.sameAns, he, Bool.true_and])
    go_enter Tryd.func22, Tryd.ntmps22
    go_wp2_with (go_at_call 31; refine (CellW.refSame_any Aa Ab na ca nb cb Ba Bb ⟨ak, ad, alo, ahi, ava⟩ ⟨bk, bd, blo, bhi, bva⟩ _ ((H.out.alloc hB _).alloc (by simp; omega) _) ((H'.out.alloc hB' _).alloc (by simp; omega) _) (by simp; omega) (by simp; omega)).mono ?_; rintro e w1 ⟨rfl, hb⟩)
    go_ret
    exact ⟨by rw [HE.out]; rfl, bstep (balloc (balloc (bsame _) _) _) hb⟩
  · have he : (ae == be) = false := by simpa using he
    have HE : Hid (ModelP.sameAns ⟨ae, ak, ad, alo, ahi, ava⟩ ⟨be, bk, bd, blo, bhi, bva⟩ = false) := Lib.hid (by simp only [ModelP.sameAns, he, Bool.false_and])
    go_enter Tryd.func22, Tryd.ntmps22
    go_wp2
    go_ret
    exact ⟨by rw [HE.out]; rfl, balloc (balloc (bsame _) _) _⟩
/-- are two pairs the same? -/
def sameP (p q : Pair) : Bool := p.key.toList == q.key.toList && CellP.same p.cell q.cell
theorem sameAll_of {s t : List Pair} (h : s.length = t.length) (hs : ∀ (j : Nat) p q, s[j]? = some p → t[j]? = some q → sameP p q = true) : ModelP.sameAll s t = true := by
  unfold ModelP.sameAll
  simp only [h, beq_self_eq_true, Bool.true_and, List.all_eq_true]
  intro p hp
  obtain ⟨j, hj, rfl⟩ := List.getElem_of_mem hp
  simp only [List.length_zip] at hj
  rw [List.getElem_zip]
  exact hs j _ _ (List.getElem?_eq_getElem (by omega)) (List.getElem?_eq_getElem (by omega))
theorem sameAll_at {s t : List Pair} {j : Nat} {p q : Pair} (hp : s[j]? = some p) (hq : t[j]? = some q) (hn : sameP p q = false) : ModelP.sameAll s t = false := by
  cases hh : ModelP.sameAll s t with
  | false => rfl
  | true =>
    unfold ModelP.sameAll at hh
    simp only [Bool.and_eq_true, List.all_eq_true] at hh
    have hm : (p, q) ∈ s.zip t := List.mem_of_getElem? (i := j) (by rw [List.getElem?_zip_eq_some]; exact ⟨hp, hq⟩)
    have h3 : sameP p q = true := by unfold sameP; rw [Bool.and_eq_true]; exact hh.2 _ hm
    rw [hn] at h3
    cases h3
theorem sameAll_len {s t : List Pair} (h : ¬ s.length = t.length) : ModelP.sameAll s t = false := by simp [ModelP.sameAll, h]
set_option maxRecDepth 100000 in
set_option maxHeartbeats 1000000 in
theorem same1_any (p q : Pair) (Aa Ab : Option Addr) (na ca nb cb Ba Bb : Nat) (w : World) (h : Bytes w Ba Aa na ca p.cell.data) (hB : Ba ≤ w.heap.size) (h' : Bytes w Bb Ab nb cb q.cell.data) (hB' : Bb ≤ w.heap.size) :
    Calls Tryd.prog 29 #[.agg (pairV p Aa na ca).toArray, .agg (pairV q Ab nb cb).toArray] w fun e w' => e = .returned (.bool (sameP p q)) ∧ Below w.heap.size w w' := by
  obtain ⟨ae, ak, ad, alo, ahi, ava⟩ := p
  obtain ⟨be, bk, bd, blo, bhi, bva⟩ := q
  dsimp only [pairV] at *
  have H := Lib.hid h
  have H' := Lib.hid h'
  clear h h'
  by_cases he : (ae.toList == be.toList) = true
  · have HE : Hid (sameP ⟨ae, ak, ad, alo, ahi, ava⟩ ⟨be, bk, bd, blo, bhi, bva⟩ = CellP.same ⟨ak, ad, alo, ahi, ava⟩ ⟨bk, bd, blo, bhi, bva⟩) := Lib.hid (by simp only [sameP, he, Bool.true_and])
    go_enter Tryd.func29, Tryd.ntmps29
    go_wp2_with (go_at_call 27; refine (CellW.same_any Aa Ab na ca nb cb Ba Bb ⟨ak, ad, alo, ahi, ava⟩ ⟨bk, bd, blo, bhi, bva⟩ _ ((H.out.alloc hB _).alloc (by simp; omega) _) ((H'.out.alloc hB' _).alloc (by simp; omega) _) (by simp; omega) (by simp; omega)).mono ?_; rintro e w1 ⟨rfl, hb⟩)
    go_ret
    exact ⟨by rw [HE.out]; rfl, bstep (balloc (balloc (bsame _) _) _) hb⟩
  · have he : (ae.toList == be.toList) = false := by simpa using he
    have HE : Hid (sameP ⟨ae, ak, ad, alo, ahi, ava⟩ ⟨be, bk, bd, blo, bhi, bva⟩ = false) := Lib.hid (by simp only [sameP, he, Bool.false_and])
    go_enter Tryd.func29, Tryd.ntmps29
    go_wp2
    go_ret
    exact ⟨by rw [HE.out]; rfl, balloc (balloc (bsame _) _) _⟩
end Go.Proofs.YtghgccgpgonlmaaDoor.ModelW
