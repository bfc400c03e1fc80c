/-
  The walks of model.Step, Plain, Find, Same, SameAnswer, Right.
-/
import Derived.Test.YtghgccgpgonlmaaModelG2
import Derived.Test.YtghgccgpgonlmaaOpenM
namespace Go.Proofs.Ytghgccgpgonlmaa.ModelW
open Go.RowKit
set_option linter.unusedVariables false
theorem Elems.drew1 {w : World} {B n c : Nat} {A : Option Addr} {l : List Pair} (h : Pairs w B A n c l) : Pairs w.drew B A n c l := h.sub fun p v _ hv => hv
/-- what a state must be to be walked -/
structure Small (l : List Pair) : Prop where
  len : l.length ≤ 1000
  data : ∀ p ∈ l, p.cell.data.length ≤ 100000
/-- the call hands back a state and an answer -/
def GivesSA (w : World) (r : List Pair × Answer) (e : Ending) (w' : World) : Prop :=
  ∃ A n c A2 n2 c2, e = .returned (.tuple #[.slice A n c, .agg (ansV A2 n2 c2 r.2)]) ∧ Pairs w' w'.heap.size A n c r.1 ∧ Bytes w' w'.heap.size A2 n2 c2 r.2.cell.data ∧ Below w.heap.size w w'
set_option maxRecDepth 100000 in
set_option maxHeartbeats 1000000 in
theorem Step_any (A : Option Addr) (n c B : Nat) (l : List Pair) (act : Int) (xk : ByteArray) (xdata : List UInt8) (Ax : Option Addr) (nx cx Bx : Nat) (xlo xhi xn : Int) (w : World) (h : Pairs w B A n c l) (hB : B ≤ w.heap.size) (hr : ModelP.Rises l) (hs : Small l) (hx : Bytes w Bx Ax nx cx xdata) (hBx : Bx ≤ w.heap.size) (hxk : xk.size ≤ maxLen) (hi1 : In64 xlo) (hi2 : In64 xhi) (hi3 : In64 xn) (hnx : nx ≤ 100000) :
    Calls Try.prog 22 #[.slice A n c, .agg #[.int .i64 act, .string xk, .slice Ax nx cx, .int .i64 xlo, .int .i64 xhi, .int .i64 xn]] w (GivesSA w (ModelP.step l ⟨act, xk, xdata, xlo, xhi, xn⟩)) := by
  have hlen := h.len
  have hn : n ≤ 1000 := by rw [← hlen]; exact hs.len
  have H := Lib.hid h
  have HR := Lib.hid hr
  have HD := Lib.hid hs.data
  have HX := Lib.hid hx
  clear h hr hs hx hlen
  obtain ⟨r, hr⟩ : ∃ r, ModelP.step l ⟨act, xk, xdata, xlo, xhi, xn⟩ = r := ⟨_, rfl⟩
  have HRR := Lib.hid hr
  rw [hr]
  clear hr
  go_enter Try.func22, Try.ntmps22
  go_wp2_with fail
  generalize hW0 : ((w).alloc (.cells #[.int .i64 act, .string xk, .slice Ax nx cx, .int .i64 xlo, .int .i64 xhi, .int .i64 xn] 24)).alloc (.cells #[.int .i64 0, .int .i64 0, .slice none 0 0, .int .i64 0, .int .i64 0, .int .i64 0] 39) = W0
  obtain ⟨HS0_0, HS1_0, HB_0, hw_0, hz0⟩ := new2 hW0
  clear hW0 hz0
  have f0_0 := str6 HS0_0.out
  have hl0_0 := HS0_0.out.lt
  have hf0_0 := fun j => HS0_0.out.frozen j
  have f1_0 := str6 HS1_0.out
  have hl1_0 := HS1_0.out.lt
  have hf1_0 := fun j => HS1_0.out.frozen j
  go_region_with (first
    | (go_at_call 65
       refine (copyState_any A n c B l _ (Elems.drew1 (H.out.below (HB_0.out.mono hB))) (by simp; omega) hn HD.out).mono ?_
       rintro e W1 ⟨g, rfl, hO1, hb1⟩
       rw [show W0.drew.heap.size = W0.heap.size from rfl] at hO1 hb1
       have HO1 := Lib.hid hO1
       have hb1' : Below W0.heap.size W0 W1 := ((bsame W0).drew).trans hb1
       obtain ⟨q0, q1, q2, q3, q4, q5⟩ := str6 (HS0_0.out.next hb1')
       have HB1 := Lib.hid hb1'
       have hsz1 := hb1'.size
       clear hO1 hb1 hb1')
    | (go_at_call 64
       refine (step_any (some ⟨g, 0, none⟩) n n W0.heap.size l act xk xdata Ax nx cx Bx xlo xhi xn _ HO1.out hsz1 HR.out hn ((HX.out.below (HB_0.out.mono hBx)).below (HB1.out.mono (by omega))) (by omega) hxk HD.out hi1 hi2 hi3 hnx).mono ?_
       rw [HRR.out]
       rintro e W2 ⟨A', n', c', A2, n2, c2, rfl, hO2, hy2, hg2, -⟩
       have hb2 : Below W0.heap.size W1 W2 := below_grownO (Below.refl _ _) hg2 hsz1 (by intro j hj; cases hj; exact HO1.out.ge _ rfl)
       clear hg2
       have hS1 := HS1_0.out.next (HB1.out.trans hb2)
       obtain ⟨r0, r1, r2, r3, r4, r5⟩ := str6 hS1
       have hrf := fun j => hS1.frozen j
       have hrl := hS1.lt
       have HS1 := Lib.hid hS1
       have HO2 := Lib.hid hO2
       have HY2 := Lib.hid hy2.bytes
       have HB2 := Lib.hid (HB1.out.trans hb2)
       have hsz2 := HB2.out.size
       clear hO2 hy2 hb2 hS1
       simp only [ansV]))
  all_goals
    go_wp2_with fail
  all_goals
    generalize hW3 : (((((W2.setCell ⟨w.heap.size + 1, 0, none⟩ (.int .i64 r.2.err)).setCell ⟨w.heap.size + 1, 1, none⟩ (.int .i64 r.2.cell.kind)).setCell ⟨w.heap.size + 1, 2, none⟩ (.slice A2 n2 c2)).setCell ⟨w.heap.size + 1, 3, none⟩ (.int .i64 r.2.cell.lo)).setCell ⟨w.heap.size + 1, 4, none⟩ (.int .i64 r.2.cell.hi)).setCell ⟨w.heap.size + 1, 5, none⟩ (.int .i64 r.2.cell.val) = W3
    have hgr : W2.grownBy W3 (some (w.heap.size + 1)) := by rw [← hW3]; exact grown_set (grown_set (grown_set (grown_set (grown_set (grown_set (grown_refl W2 _) 0 _) 1 _) 2 _) 3 _) 4 _) 5 _
    have HSf : Str W3 (w.heap.size + 1) #[.int .i64 r.2.err, .int .i64 r.2.cell.kind, .slice A2 n2 c2, .int .i64 r.2.cell.lo, .int .i64 r.2.cell.hi, .int .i64 r.2.cell.val] := by rw [← hW3]; have := (((((HS1.out.set 0 (.int .i64 r.2.err)).set 1 (.int .i64 r.2.cell.kind)).set 2 (.slice A2 n2 c2)).set 3 (.int .i64 r.2.cell.lo)).set 4 (.int .i64 r.2.cell.hi)).set 5 (.int .i64 r.2.cell.val); simpa using this
    clear r0 r1 r2 r3 r4 r5
    obtain ⟨r0, r1, r2, r3, r4, r5⟩ := str6 HSf
    clear hW3 HSf
    exact bodyPost_ret (v := .tuple #[.slice A' n' c', .agg #[.int .i64 r.2.err, .int .i64 r.2.cell.kind, .slice A2 n2 c2, .int .i64 r.2.cell.lo, .int .i64 r.2.cell.hi, .int .i64 r.2.cell.val]]) (by simp [results, Try.results22, go_sem, *]) rfl ⟨A', n', c', A2, n2, c2, rfl, (HO2.out.grownU PairE_byt HS1.out rfl hgr (by intro a e; have := HO2.out.ge a e; omega)).elems, Bytes.more (Bytes.grown HY2.out (Nat.le_refl _) HS1.out rfl hgr) hgr.size, below_grownO (HB_0.out.trans (HB2.out.mono (by omega))) hgr (by omega) (by intro j hj; cases hj; omega)⟩
set_option maxRecDepth 100000 in
set_option maxHeartbeats 1000000 in
theorem SameAnswer_any (a b : Answer) (Aa Ab : Option Addr) (na ca nb cb Ba Bb : Nat) (w : World) (h : Bytes w Ba Aa na ca a.cell.data) (hB : Ba ≤ w.heap.size) (h' : Bytes w Bb Ab nb cb b.cell.data) (hB' : Bb ≤ w.heap.size) :
    Calls Try.prog 32 #[.agg (ansV Aa na ca a), .agg (ansV Ab nb cb b)] w fun e w' => e = .returned (.bool (ModelP.sameAns a b)) ∧ Below w.heap.size w w' := by
  obtain ⟨ae, ak, ad, alo, ahi, ava⟩ := a
  obtain ⟨be, bk, bd, blo, bhi, bva⟩ := b
  dsimp only [ansV] at *
  have H := Lib.hid h
  have H' := Lib.hid h'
  clear h h'
  by_cases he : (ae == be) = true
  · have HE : Hid (ModelP.sameAns ⟨ae, ak, ad, alo, ahi, ava⟩ ⟨be, bk, bd, blo, bhi, bva⟩ = CellP.same ⟨ak, ad, alo, ahi, ava⟩ ⟨bk, bd, blo, bhi, bva⟩) := Lib.hid (by simp only [ModelP.sameAns, he, Bool.true_and])
    go_enter Try.func32, Try.ntmps32
    go_wp2_with (go_at_call 72; refine (CellW.same_any Aa Ab na ca nb cb Ba Bb ⟨ak, ad, alo, ahi, ava⟩ ⟨bk, bd, blo, bhi, bva⟩ _ ((H.out.alloc hB _).alloc (by simp; omega) _) ((H'.out.alloc hB' _).alloc (by simp; omega) _) (by simp; omega) (by simp; omega)).mono ?_; rintro e w1 ⟨rfl, hb⟩)
    go_ret
    exact ⟨by rw [HE.out]; rfl, bstep (balloc (balloc (bsame _) _) _) hb⟩
  · have he : (ae == be) = false := by simpa using he
    have HE : Hid (ModelP.sameAns ⟨ae, ak, ad, alo, ahi, ava⟩ ⟨be, bk, bd, blo, bhi, bva⟩ = false) := Lib.hid (by simp only [ModelP.sameAns, he, Bool.false_and])
    go_enter Try.func32, Try.ntmps32
    go_wp2
    go_ret
    exact ⟨by rw [HE.out]; rfl, balloc (balloc (bsame _) _) _⟩
set_option maxRecDepth 100000 in
set_option maxHeartbeats 1000000 in
theorem refSameAnswer_any (a b : Answer) (Aa Ab : Option Addr) (na ca nb cb Ba Bb : Nat) (w : World) (h : Bytes w Ba Aa na ca a.cell.data) (hB : Ba ≤ w.heap.size) (h' : Bytes w Bb Ab nb cb b.cell.data) (hB' : Bb ≤ w.heap.size) :
    Calls Try.prog 24 #[.agg (ansV Aa na ca a), .agg (ansV Ab nb cb b)] w fun e w' => e = .returned (.bool (ModelP.sameAns a b)) ∧ Below w.heap.size w w' := by
  obtain ⟨ae, ak, ad, alo, ahi, ava⟩ := a
  obtain ⟨be, bk, bd, blo, bhi, bva⟩ := b
  dsimp only [ansV] at *
  have H := Lib.hid h
  have H' := Lib.hid h'
  clear h h'
  by_cases he : (ae == be) = true
  · have HE : Hid (ModelP.sameAns ⟨ae, ak, ad, alo, ahi, ava⟩ ⟨be, bk, bd, blo, bhi, bva⟩ = CellP.same ⟨ak, ad, alo, ahi, ava⟩ ⟨bk, bd, blo, bhi, bva⟩) := Lib.hid (by simp only [ModelP.sameAns, he, Bool.true_and])
    go_enter Try.func24, Try.ntmps24
    go_wp2_with (go_at_call 30; refine (CellW.refSame_any Aa Ab na ca nb cb Ba Bb ⟨ak, ad, alo, ahi, ava⟩ ⟨bk, bd, blo, bhi, bva⟩ _ ((H.out.alloc hB _).alloc (by simp; omega) _) ((H'.out.alloc hB' _).alloc (by simp; omega) _) (by simp; omega) (by simp; omega)).mono ?_; rintro e w1 ⟨rfl, hb⟩)
    go_ret
    exact ⟨by rw [HE.out]; rfl, bstep (balloc (balloc (bsame _) _) _) hb⟩
  · have he : (ae == be) = false := by simpa using he
    have HE : Hid (ModelP.sameAns ⟨ae, ak, ad, alo, ahi, ava⟩ ⟨be, bk, bd, blo, bhi, bva⟩ = false) := Lib.hid (by simp only [ModelP.sameAns, he, Bool.false_and])
    go_enter Try.func24, Try.ntmps24
    go_wp2
    go_ret
    exact ⟨by rw [HE.out]; rfl, balloc (balloc (bsame _) _) _⟩
/-- are two pairs the same? -/
def sameP (p q : Pair) : Bool := p.key.toList == q.key.toList && CellP.same p.cell q.cell
theorem sameAll_of {s t : List Pair} (h : s.length = t.length) (hs : ∀ (j : Nat) p q, s[j]? = some p → t[j]? = some q → sameP p q = true) : ModelP.sameAll s t = true := by
  unfold ModelP.sameAll
  simp only [h, beq_self_eq_true, Bool.true_and, List.all_eq_true]
  intro p hp
  obtain ⟨j, hj, rfl⟩ := List.getElem_of_mem hp
  simp only [List.length_zip] at hj
  rw [List.getElem_zip]
  exact hs j _ _ (List.getElem?_eq_getElem (by omega)) (List.getElem?_eq_getElem (by omega))
theorem sameAll_at {s t : List Pair} {j : Nat} {p q : Pair} (hp : s[j]? = some p) (hq : t[j]? = some q) (hn : sameP p q = false) : ModelP.sameAll s t = false := by
  cases hh : ModelP.sameAll s t with
  | false => rfl
  | true =>
    unfold ModelP.sameAll at hh
    simp only [Bool.and_eq_true, List.all_eq_true] at hh
    have hm : (p, q) ∈ s.zip t := List.mem_of_getElem? (i := j) (by rw [List.getElem?_zip_eq_some]; exact ⟨hp, hq⟩)
    have h3 : sameP p q = true := by unfold sameP; rw [Bool.and_eq_true]; exact hh.2 _ hm
    rw [hn] at h3
    cases h3
theorem sameAll_len {s t : List Pair} (h : ¬ s.length = t.length) : ModelP.sameAll s t = false := by simp [ModelP.sameAll, h]
set_option maxRecDepth 100000 in
set_option maxHeartbeats 1000000 in
theorem same1_any (p q : Pair) (Aa Ab : Option Addr) (na ca nb cb Ba Bb : Nat) (w : World) (h : Bytes w Ba Aa na ca p.cell.data) (hB : Ba ≤ w.heap.size) (h' : Bytes w Bb Ab nb cb q.cell.data) (hB' : Bb ≤ w.heap.size) :
    Calls Try.prog 71 #[.agg (pairV p Aa na ca).toArray, .agg (pairV q Ab nb cb).toArray] w fun e w' => e = .returned (.bool (sameP p q)) ∧ Below w.heap.size w w' := by
  obtain ⟨ae, ak, ad, alo, ahi, ava⟩ := p
  obtain ⟨be, bk, bd, blo, bhi, bva⟩ := q
  dsimp only [pairV] at *
  have H := Lib.hid h
  have H' := Lib.hid h'
  clear h h'
  by_cases he : (ae.toList == be.toList) = true
  · have HE : Hid (sameP ⟨ae, ak, ad, alo, ahi, ava⟩ ⟨be, bk, bd, blo, bhi, bva⟩ = CellP.same ⟨ak, ad, alo, ahi, ava⟩ ⟨bk, bd, blo, bhi, bva⟩) := Lib.hid (by simp only [sameP, he, Bool.true_and])
    go_enter Try.func71, Try.ntmps71
    go_wp2_with (go_at_call 72; refine (CellW.same_any Aa Ab na ca nb cb Ba Bb ⟨ak, ad, alo, ahi, ava⟩ ⟨bk, bd, blo, bhi, bva⟩ _ ((H.out.alloc hB _).alloc (by simp; omega) _) ((H'.out.alloc hB' _).alloc (by simp; omega) _) (by simp; omega) (by simp; omega)).mono ?_; rintro e w1 ⟨rfl, hb⟩)
    go_ret
    exact ⟨by rw [HE.out]; rfl, bstep (balloc (balloc (bsame _) _) _) hb⟩
  · have he : (ae.toList == be.toList) = false := by simpa using he
    have HE : Hid (sameP ⟨ae, ak, ad, alo, ahi, ava⟩ ⟨be, bk, bd, blo, bhi, bva⟩ = false) := Lib.hid (by simp only [sameP, he, Bool.false_and])
    go_enter Try.func71, Try.ntmps71
    go_wp2
    go_ret
    exact ⟨by rw [HE.out]; rfl, balloc (balloc (bsame _) _) _⟩
end Go.Proofs.Ytghgccgpgonlmaa.ModelW
