/-
  Parts of the proof of RecRows.
-/
import Derived.Test.YtiokcemlfdonnaaRecR4
import Derived.Test.YtiokcemlfdonnaaRecR3
import Derived.Test.YtiokcemlfdonnaaRecR0
import Derived.Deep.Slices
import Derived.Test.YtiokcemlfdonnaaRecR1
import Derived.Test.YtiokcemlfdonnaaRecR2
import Derived.Laws.StructEq
section
namespace Go.Proofs.Ytiokcemlfdonnaa.CrcP

/-- what a bit's step makes of a sum -/
def bit (v : Nat) : Nat := if v % 2 = 1 then v / 2 ^^^ 2197175160 else v / 2
def bits : Nat → Nat → Nat
  | 0, v => v
  | k + 1, v => bits k (bit v)
/-- eight steps -/
def step8 (v : Nat) : Nat := bits 8 v
/-- a byte's round -/
def round (v : Nat) (c : UInt8) : Nat := step8 (v ^^^ c.toNat)
def more (sum : Nat) (l : List UInt8) : Nat := 4294967295 - l.foldl round (4294967295 - sum)
/-- the sum of bytes -/
def sum (l : List UInt8) : Nat := more 0 l

theorem bit_lt (v : Nat) (h : v < 4294967296) : bit v < 4294967296 := by
  unfold bit
  split
  · have : v / 2 ^^^ 2197175160 < 2 ^ 32 := Nat.xor_lt_two_pow (by omega) (by omega)
    omega
  · omega
theorem bits_lt (k v : Nat) (h : v < 4294967296) : bits k v < 4294967296 := by
  induction k generalizing v with
  | zero => exact h
  | succ k ih => exact ih _ (bit_lt v h)
theorem step8_lt (v : Nat) (h : v < 4294967296) : step8 v < 4294967296 := bits_lt 8 v h
theorem xor_byte_lt (v : Nat) (h : v < 4294967296) (c : UInt8) : v ^^^ c.toNat < 4294967296 := by
  have hc := c.toNat_lt
  have : v ^^^ c.toNat < 2 ^ 32 := Nat.xor_lt_two_pow (by omega) (by omega)
  omega
theorem round_lt (v : Nat) (h : v < 4294967296) (c : UInt8) : round v c < 4294967296 := step8_lt _ (xor_byte_lt v h c)
theorem fold_lt (l : List UInt8) (v : Nat) (h : v < 4294967296) : l.foldl round v < 4294967296 := by
  induction l generalizing v with
  | nil => exact h
  | cons c l ih => exact ih _ (round_lt v h c)

theorem xor_div2 (a b : Nat) : (a ^^^ b) / 2 = a / 2 ^^^ b / 2 := by
  have := Nat.shiftRight_xor_distrib (a := a) (b := b) (i := 1)
  simpa [Nat.shiftRight_eq_div_pow] using this
theorem xor_mod2 (a b : Nat) : (a ^^^ b) % 2 = (a + b) % 2 := by
  have h : (a ^^^ b) % 2 = a % 2 ^^^ b % 2 := by
    have := Nat.xor_mod_two_pow (a := a) (b := b) (n := 1)
    simpa using this
  rw [h]
  have ha : a % 2 = 0 ∨ a % 2 = 1 := by omega
  have hb : b % 2 = 0 ∨ b % 2 = 1 := by omega
  rcases ha with ha | ha <;> rcases hb with hb | hb <;> rw [ha, hb] <;> simp <;> omega
/-- a step is linear -/
theorem bit_xor (a b : Nat) : bit (a ^^^ b) = bit a ^^^ bit b := by
  unfold bit
  rw [xor_div2, xor_mod2]
  generalize a / 2 = x
  generalize b / 2 = y
  have ha : a % 2 = 0 ∨ a % 2 = 1 := by omega
  have hb : b % 2 = 0 ∨ b % 2 = 1 := by omega
  rcases ha with ha | ha <;> rcases hb with hb | hb
  · rw [if_neg (by omega), if_neg (by omega), if_neg (by omega)]
  · rw [if_pos (by omega), if_neg (by omega), if_pos (by omega), Nat.xor_assoc]
  · rw [if_pos (by omega), if_pos (by omega), if_neg (by omega), Nat.xor_assoc, Nat.xor_assoc, Nat.xor_comm y]
  · rw [if_neg (by omega), if_pos (by omega), if_pos (by omega), Nat.xor_assoc, Nat.xor_comm 2197175160, Nat.xor_assoc, Nat.xor_self, Nat.xor_zero]
theorem bits_xor (k a b : Nat) : bits k (a ^^^ b) = bits k a ^^^ bits k b := by
  induction k generalizing a b with
  | zero => rfl
  | succ k ih => show bits k (bit (a ^^^ b)) = _; rw [bit_xor, ih]; rfl
theorem step8_xor (a b : Nat) : step8 (a ^^^ b) = step8 a ^^^ step8 b := bits_xor 8 a b
theorem bit_double (v : Nat) : bit (2 * v) = v := by
  unfold bit
  rw [if_neg (by omega)]
  omega
theorem step8_shift (v : Nat) : step8 (256 * v) = v := by
  show bit (bit (bit (bit (bit (bit (bit (bit (256 * v)))))))) = v
  rw [show 256 * v = 2 * (2 * (2 * (2 * (2 * (2 * (2 * (2 * v))))))) by omega, bit_double, bit_double, bit_double, bit_double, bit_double, bit_double, bit_double, bit_double]
theorem split_low (v : Nat) : v = 256 * (v / 256) ^^^ v % 256 := by
  have h : 2 ^ 8 * (v / 2 ^ 8) + v % 2 ^ 8 = 2 ^ 8 * (v / 2 ^ 8) ^^^ v % 2 ^ 8 := by
    apply Nat.eq_of_testBit_eq
    intro i
    rw [Nat.testBit_two_pow_mul_add _ (Nat.mod_lt _ (by decide)), Nat.testBit_xor, Nat.testBit_two_pow_mul]
    by_cases hi : i < 8
    · have h8 : ¬ 8 ≤ i := by omega
      simp [hi, h8]
    · have h0 : (v % 2 ^ 8).testBit i = false := Nat.testBit_lt_two_pow (Nat.lt_of_lt_of_le (Nat.mod_lt _ (by decide)) (Nat.pow_le_pow_right (by decide) (by omega)))
      simp [hi, h0]
      omega
  have h2 := Nat.div_add_mod v (2 ^ 8)
  have h3 : (2 : Nat) ^ 8 = 256 := by decide
  rw [h3] at h h2
  omega
/-- a round by a table -/
theorem round_table (v : Nat) (c : UInt8) : round v c = v / 256 ^^^ step8 (v % 256 ^^^ c.toNat) := by
  unfold round
  have hv := split_low v
  conv => lhs; rw [hv, Nat.xor_assoc, step8_xor, step8_shift]
theorem sum_lt (l : List UInt8) : sum l < 4294967296 := by
  unfold sum more
  omega
end Go.Proofs.Ytiokcemlfdonnaa.CrcP
end
section
namespace Go.Proofs.Ytiokcemlfdonnaa
set_option linter.unusedVariables false
/-- a record -/
structure RecX where
  kind : Int
  txn : Int
  prev : Int
  next : Int
  patches : List PatchX
  undo : Undo
namespace RecP
def May (n least : Int) : Prop := least ≤ n ∧ n ≤ 281474976710656
def Nums (x : RecX) : Prop := (1 ≤ x.kind ∧ x.kind ≤ 4) ∧ May x.txn 1 ∧ May x.prev 0 ∧ May x.next 0
def Rest (x : RecX) : Prop := (x.kind ≠ 2 → x.next = 0) ∧ (x.kind ≠ 1 → x.undo.act = 0) ∧ (3 ≤ x.kind → x.patches.length = 0)
def Pats (l : List PatchX) (k : Nat) : Prop := ∀ i p, i < k → l[i]? = some p → PatchP.Right p
def Right (x : RecX) : Prop := Nums x ∧ x.patches.length ≤ 4 ∧ UndoP.right x.undo = true ∧ Pats x.patches x.patches.length ∧ Rest x
noncomputable def right (x : RecX) : Bool := @decide (Right x) (Classical.propDecidable _)
theorem right_iff (x : RecX) : right x = true ↔ Right x := by unfold right; simp
theorem right_no (x : RecX) (h : ¬ Right x) : right x = false := by unfold right; simpa using h
theorem right_yes (x : RecX) (h : Right x) : right x = true := (right_iff x).2 h
theorem pats_zero (l : List PatchX) : Pats l 0 := fun i p hi => absurd hi (Nat.not_lt_zero _)
theorem pats_step {l : List PatchX} {k : Nat} {p : PatchX} (h : Pats l k) (hp : l[k]? = some p) (hr : PatchP.Right p) : Pats l (k + 1) := by
  intro i q hi hq
  by_cases e : i = k
  · subst e; rw [hp] at hq; cases hq; exact hr
  · exact h i q (by omega) hq
theorem pats_bad {x : RecX} {k : Nat} {p : PatchX} (hp : x.patches[k]? = some p) (hr : PatchP.right p = false) : right x = false := right_no x fun h => by
  have := h.2.2.2.1 k p (List.getElem?_eq_some_iff.1 hp).1 hp
  rw [PatchP.right_yes p this] at hr
  cases hr
/-- an undo that may be and does nothing is none -/
theorem act_zero (u : Undo) (h : UndoP.right u = true) : UndoP.same u UndoP.none = decide (u.act = 0) := by
  by_cases h0 : u.act = 0
  · unfold UndoP.right at h
    rw [if_pos h0] at h
    rw [h]; simpa using h0
  · have : UndoP.same u UndoP.none = false := by
      unfold UndoP.same
      have : (u.act == UndoP.none.act) = false := by
        show (u.act == 0) = false
        simpa using h0
      rw [this]; rfl
    rw [this]; simpa using h0
noncomputable def samePats (a b : List PatchX) : Bool := @decide (a = b) (Classical.propDecidable _)
noncomputable def same (a b : RecX) : Bool := (a.kind == b.kind) && ((a.txn == b.txn) && ((a.prev == b.prev) && ((a.next == b.next) && (samePats a.patches b.patches && UndoP.same a.undo b.undo))))
theorem samePats_len {l m : List PatchX} (h : l.length ≠ m.length) : samePats l m = false := by
  unfold samePats
  simp only [decide_eq_false_iff_not]
  intro e; exact h (by rw [e])
theorem samePats_at {l m : List PatchX} {k : Nat} {r q : PatchX} (hr : l[k]? = some r) (hq : m[k]? = some q) (h : PatchP.same r q = false) : samePats l m = false := by
  unfold samePats
  simp only [decide_eq_false_iff_not]
  intro e
  rw [e, hq] at hr
  cases hr
  unfold PatchP.same at h
  simp at h
theorem samePats_all {l m : List PatchX} {k : Nat} (h : l.take k = m.take k) (h1 : l.length = k) (h2 : m.length = k) : samePats l m = true := by
  unfold samePats
  simp only [decide_eq_true_eq]
  rwa [List.take_of_length_le (by omega), List.take_of_length_le (by omega)] at h
theorem take_same {l m : List PatchX} {k : Nat} {r q : PatchX} (h : l.take k = m.take k) (hr : l[k]? = some r) (hq : m[k]? = some q) (h1 : PatchP.same r q = true) : l.take (k + 1) = m.take (k + 1) := by
  obtain ⟨i1, e1⟩ := List.getElem?_eq_some_iff.1 hr
  obtain ⟨i2, e2⟩ := List.getElem?_eq_some_iff.1 hq
  rw [List.take_succ_eq_append_getElem i1, List.take_succ_eq_append_getElem i2, h, e1, e2]
  unfold PatchP.same at h1
  simp only [decide_eq_true_eq] at h1
  rw [h1]
/-- the bytes -/
noncomputable def patsB (l : List PatchX) : List UInt8 := l.flatMap PatchP.bytes
noncomputable def inner (x : RecX) : List UInt8 := BeP.parts 1 x.kind ++ (BeP.parts 8 x.txn ++ (BeP.parts 8 x.prev ++ (BeP.parts 8 x.next ++ (BeP.parts 1 (x.patches.length : Nat) ++ (patsB x.patches ++ UndoP.bytes x.undo)))))
noncomputable def body (x : RecX) : List UInt8 := BeP.parts 4 ((CrcP.sum (inner x) : Nat) : Int) ++ inner x
noncomputable def fits (x : RecX) : Bool := right x && decide ((body x).length ≤ 65535)
noncomputable def bytes (x : RecX) : List UInt8 := if fits x then BeP.parts 2 ((body x).length : Nat) ++ body x else []
theorem patsB_drop (l : List PatchX) (k : Nat) (p : PatchX) (h : l[k]? = some p) : patsB (l.drop k) = PatchP.bytes p ++ patsB (l.drop (k + 1)) := by
  obtain ⟨hk, e⟩ := List.getElem?_eq_some_iff.1 h
  rw [List.drop_eq_getElem_cons hk, e]
  simp [patsB]
theorem bytes_right {p : PatchX} (h : PatchP.Right p) : PatchP.bytes p = PatchP.body p := by
  unfold PatchP.bytes; rw [if_pos (PatchP.right_yes p h)]
theorem patch_le (p : PatchX) : (PatchP.bytes p).length ≤ 252005 := by
  unfold PatchP.bytes
  split
  · rename_i h; exact PatchP.body_le ((PatchP.right_iff p).1 h)
  · simp
theorem patsB_le (l : List PatchX) : (patsB l).length ≤ l.length * 252005 := by
  induction l with
  | nil => simp [patsB]
  | cons p l ih =>
    have h1 := patch_le p
    have : patsB (p :: l) = PatchP.bytes p ++ patsB l := by simp [patsB]
    rw [this, List.length_append, List.length_cons, Nat.add_mul]
    omega
theorem inner_length (x : RecX) : (inner x).length = 26 + (patsB x.patches).length + (UndoP.bytes x.undo).length := by
  simp [inner, BeP.parts_length]; omega
theorem body_length (x : RecX) : (body x).length = 30 + (patsB x.patches).length + (UndoP.bytes x.undo).length := by
  unfold body
  rw [List.length_append, BeP.parts_length, inner_length]; omega
theorem bytes_length (x : RecX) (h : fits x = true) : (bytes x).length = 2 + (body x).length := by
  unfold bytes
  rw [if_pos h, List.length_append, BeP.parts_length]
theorem fits_right {x : RecX} (h : fits x = true) : Right x := by
  unfold fits at h
  simp only [Bool.and_eq_true] at h
  exact (right_iff x).1 h.1
theorem fits_len {x : RecX} (h : fits x = true) : (body x).length ≤ 65535 := by
  unfold fits at h
  simp only [Bool.and_eq_true, decide_eq_true_eq] at h
  exact h.2
end RecP
end Go.Proofs.Ytiokcemlfdonnaa
end
section
namespace Go.Proofs.Ytiokcemlfdonnaa
set_option linter.unusedVariables false
namespace RowsP
/-- the first so many that can be bytes -/
noncomputable def fl (l : List RecX) (k : Nat) : List RecX := (l.take k).filter RecP.fits
noncomputable def allB (f : List RecX) : List UInt8 := f.flatMap RecP.bytes
/-- where the first so many end -/
noncomputable def at_ (f : List RecX) (n : Nat) : Nat := (allB (f.take n)).length
noncomputable def ends (f : List RecX) : List Int := (List.range f.length).map fun j => ((at_ f (j + 1) : Nat) : Int)
theorem fl_fit {l : List RecX} {k : Nat} {x : RecX} (h : l[k]? = some x) (hf : RecP.fits x = true) : fl l (k + 1) = fl l k ++ [x] := by
  unfold fl
  rw [List.take_add_one, h, Option.toList_some, List.filter_append]
  simp [hf]
theorem fl_not {l : List RecX} {k : Nat} {x : RecX} (h : l[k]? = some x) (hf : RecP.fits x = false) : fl l (k + 1) = fl l k := by
  unfold fl
  rw [List.take_add_one, h, Option.toList_some, List.filter_append]
  simp [hf]
theorem fl_len (l : List RecX) (k : Nat) : (fl l k).length ≤ k := Nat.le_trans (List.length_filter_le _ _) (by rw [List.length_take]; omega)
theorem fl_fits {l : List RecX} {k : Nat} {x : RecX} (h : x ∈ fl l k) : RecP.fits x = true := (List.mem_filter.1 h).2
theorem fl_mem {l : List RecX} {k : Nat} {x : RecX} (h : x ∈ fl l k) : x ∈ l := List.mem_of_mem_take (List.mem_filter.1 h).1
theorem allB_app (f : List RecX) (x : RecX) : allB (f ++ [x]) = allB f ++ RecP.bytes x := by simp [allB, List.flatMap_append]
theorem allB_len {f : List RecX} (h : ∀ x ∈ f, (RecP.bytes x).length ≤ 65537) : (allB f).length ≤ f.length * 65537 := by
  induction f with
  | nil => simp [allB]
  | cons x f ih =>
    have h1 := h x List.mem_cons_self
    have h2 := ih (fun y hy => h y (List.mem_cons_of_mem _ hy))
    have e : allB (x :: f) = RecP.bytes x ++ allB f := by simp [allB]
    rw [e, List.length_append, List.length_cons]
    omega
theorem fits_small {x : RecX} (h : RecP.fits x = true) : 2 ≤ (RecP.bytes x).length ∧ (RecP.bytes x).length ≤ 65537 := by
  have h1 := RecP.bytes_length x h
  have h2 := RecP.fits_len h
  omega
theorem all_small (l : List RecX) (k : Nat) : (allB (fl l k)).length ≤ k * 65537 := by
  have h1 := allB_len (f := fl l k) (fun x hx => (fits_small (fl_fits hx)).2)
  have h2 := fl_len l k
  exact Nat.le_trans h1 (Nat.mul_le_mul_right _ h2)
theorem at_all (f : List RecX) : at_ f f.length = (allB f).length := by unfold at_; rw [List.take_length]
theorem at_zero (f : List RecX) : at_ f 0 = 0 := by simp [at_, allB]
theorem take_next {f : List RecX} {n : Nat} {x : RecX} (h : f[n]? = some x) : f.take (n + 1) = f.take n ++ [x] := by rw [List.take_add_one, h]; rfl
theorem at_next {f : List RecX} {n : Nat} {x : RecX} (h : f[n]? = some x) : at_ f (n + 1) = at_ f n + (RecP.bytes x).length := by
  unfold at_
  rw [take_next h, allB_app, List.length_append]
/-- what stands behind the first so many -/
theorem split {f : List RecX} {n : Nat} {x : RecX} (h : f[n]? = some x) : allB f = allB (f.take n) ++ (RecP.bytes x ++ allB (f.drop (n + 1))) := by
  have hl := (List.getElem?_eq_some_iff.1 h).1
  have e : f = f.take n ++ x :: f.drop (n + 1) := by
    have h1 := List.take_append_drop n f
    rw [List.drop_eq_getElem_cons hl, (List.getElem?_eq_some_iff.1 h).2] at h1
    exact h1.symm
  have e2 : allB (f.take n ++ x :: f.drop (n + 1)) = allB (f.take n) ++ (RecP.bytes x ++ allB (f.drop (n + 1))) := by simp [allB, List.flatMap_append]
  rw [← e2, ← e]
theorem drop_at {f : List RecX} {n : Nat} {x : RecX} (h : f[n]? = some x) : (allB f).drop (at_ f n) = RecP.bytes x ++ allB (f.drop (n + 1)) := by
  rw [split h]
  exact List.drop_left
theorem ends_get {f : List RecX} {n : Nat} (h : n < f.length) : (ends f)[n]? = some ((at_ f (n + 1) : Nat) : Int) := by
  simp [ends, h]
theorem ends_app (f : List RecX) (x : RecX) : ends (f ++ [x]) = ends f ++ [(((allB (f ++ [x])).length : Nat) : Int)] := by
  unfold ends
  rw [List.length_append, List.length_singleton, List.range_succ, List.map_append]
  refine congr (congrArg _ (List.map_congr_left fun j hj => ?_)) ?_
  · have hj' : j < f.length := List.mem_range.1 hj
    unfold at_
    rw [List.take_append_of_le_length (by omega)]
  · simp only [List.map_cons, List.map_nil]
    rw [show f.length + 1 = (f ++ [x]).length by simp, at_all]
/-- the part that is got: the record and what follows, as far as there is room -/
theorem got_whole {f : List RecX} {n cut : Nat} {x : RecX} (h : f[n]? = some x) (h1 : at_ f (n + 1) ≤ cut) : ∃ post, ((allB f).drop (at_ f n)).take (cut - at_ f n) = RecP.bytes x ++ post := by
  rw [drop_at h]
  rw [at_next h] at h1
  refine ⟨(allB (f.drop (n + 1))).take (cut - at_ f n - (RecP.bytes x).length), ?_⟩
  rw [List.take_append, List.take_of_length_le (by omega)]
theorem got_part {f : List RecX} {n cut : Nat} {x : RecX} (h : f[n]? = some x) (h1 : cut < at_ f (n + 1)) : ((allB f).drop (at_ f n)).take (cut - at_ f n) = (RecP.bytes x).take (cut - at_ f n) := by
  rw [drop_at h]
  rw [at_next h] at h1
  rw [List.take_append_of_le_length (by omega)]
end RowsP
end Go.Proofs.Ytiokcemlfdonnaa
end
section
namespace Go.Proofs.Ytiokcemlfdonnaa
open Go.ChangeShapes Go.WideShapes Go.ChangeAt Go.RowKit
set_option linter.unusedVariables false
section
variable {H : Type} {enc : TypeId × Value → H} {P : Program} {w : World}
/-- a slice whose elements can be read one by one -/
theorem elems_of {α : Type} (E : El α) {fuel : Nat} {t e : TypeId} {cs : List Value} {x : DataW H × List MemPlace} (ht : P.underlying t = some (.slice e)) (hc : P.cellsOf e = E.size)
    (hel : ∀ (n : Nat) (cs : List Value) y, DataW.trod enc P w 0 (fun _ => true) true n e cs = some y → ∃ x, E.rel w w.heap.size cs x)
    (h : DataW.trod enc P w 0 (fun _ => true) true fuel t cs = some x) : ∃ A n c l, cs = [.slice A n c] ∧ Elems E w w.heap.size A n c l := by
  rcases Go.Deep.open_slice ht h with ⟨hcs, _⟩ | ⟨a, len, cap, m, n, D, Pl, hcs, _, hl, hm, hmm, _, hx⟩
  · exact ⟨none, 0, 0, [], hcs, Elems.none_ _ _ _⟩
  · have hlm : len ≤ m := by rw [hmm]; split <;> omega
    have key : ∀ k, k ≤ len → ∃ (vs : List (List Value)) (l : List α), Rel2 (E.rel w w.heap.size) vs l ∧ l.length = k ∧ ∀ j v, vs.flatten[j]? = some v → w.cell? (a.add j) = some v := by
      intro k
      induction k with
      | zero => intro _; exact ⟨[], [], trivial, rfl, fun j v hv => by simp at hv⟩
      | succ k ih =>
        intro hk
        obtain ⟨vs, l, hr, hlen, hcell⟩ := ih (by omega)
        obtain ⟨cs', h1, h2⟩ := hx k (by omega)
        obtain ⟨y, hy⟩ := hel _ _ _ h2
        obtain ⟨_, hcl, hci⟩ := World.cells?_some h1
        refine ⟨vs ++ [cs'], l ++ [y], Rel2.append (show Rel2 (E.rel w w.heap.size) [cs'] [y] from ⟨hy, trivial⟩) hr, by simp [hlen], fun j v hv => ?_⟩
        have hfl : vs.flatten.length = k * E.size := by rw [hr.flat (fun _ _ => E.len), hlen]
        rw [List.flatten_append, List.flatten_singleton] at hv
        by_cases hj : j < vs.flatten.length
        · rw [List.getElem?_append_left hj] at hv
          exact hcell j v hv
        · rw [List.getElem?_append_right (by omega), hfl] at hv
          have hi := (List.getElem?_eq_some_iff.1 hv).1
          have := hci (j - k * E.size) (by omega)
          rw [hv, hc, Go.Deep.add_add, show k * E.size + (j - k * E.size) = j by omega] at this
          exact this
    obtain ⟨vs, l, hr, hlen, hcell⟩ := key len (Nat.le_refl _)
    refine ⟨some a, len, cap, l, hcs, vs, hr, hlen, hl, hm, fun hn => ?_⟩
    have hfl : vs.flatten.length = len * E.size := by rw [hr.flat (fun _ _ => E.len), hlen]
    have hpos : 0 < vs.flatten.length := by rw [hfl]; exact Nat.mul_pos hn E.pos
    obtain ⟨b, o, s⟩ := a
    have h0 := hcell 0 _ (List.getElem?_eq_getElem hpos)
    have hs : s = none := by simpa [Addr.add] using World.cell?_spot h0
    subst hs
    refine ⟨b, o, rfl, by simpa [Addr.add] using lt_of_cell h0, fun j v hv => ?_⟩
    have := hcell j v hv
    rwa [add_none] at this
end
end Go.Proofs.Ytiokcemlfdonnaa
end
section
namespace Go.Proofs.Ytiokcemlfdonnaa
open Go.RowKit
set_option linter.unusedVariables false
def runV (r : RunX) (A : Option Addr) (n c : Nat) : List Value := [.int .i64 r.at_, .slice A n c]
def RunE : El RunX where
  size := 2
  pos := by decide
  rel w B vs r := ∃ A n c, vs = runV r A n c ∧ Bytes w B A n c r.data ∧ In64 r.at_
  len := by rintro w B vs p ⟨A, n, c, rfl, _⟩; rfl
  one := by rintro w B vs p ⟨A, n, c, rfl, _⟩ v hv; simp only [runV, List.mem_cons, List.not_mem_nil, or_false] at hv; rcases hv with rfl | rfl <;> rfl
  sub := by rintro w w' B vs p hs ⟨A, n, c, e, h, r⟩; exact ⟨A, n, c, e, h.sub hs, r⟩
  more := by rintro w B B' vs p hB ⟨A, n, c, e, h, r⟩; exact ⟨A, n, c, e, h.more hB, r⟩
def patchV (x : PatchX) (A : Option Addr) (n c : Nat) : List Value := [.int .i64 x.page, .bool x.fresh, .slice A n c]
def PatchE : El PatchX where
  size := 3
  pos := by decide
  rel w B vs x := ∃ A n c, vs = patchV x A n c ∧ Elems RunE w B A n c x.runs ∧ In64 x.page
  len := by rintro w B vs p ⟨A, n, c, rfl, _⟩; rfl
  one := by rintro w B vs p ⟨A, n, c, rfl, _⟩ v hv; simp only [patchV, List.mem_cons, List.not_mem_nil, or_false] at hv; rcases hv with rfl | rfl | rfl <;> rfl
  sub := by rintro w w' B vs p hs ⟨A, n, c, e, h, r⟩; exact ⟨A, n, c, e, h.sub hs, r⟩
  more := by rintro w B B' vs p hB ⟨A, n, c, e, h, r⟩; exact ⟨A, n, c, e, h.more hB, r⟩
/-- a run in a slice: its cells -/
theorem run_at {wr w : World} {B n c k : Nat} {A : Option Addr} {l : List RunX} (h : ElemsIn RunE wr w B A n c l) (hk : k < n) : ∃ b o r A2 n2 c2, A = some ⟨b, o, none⟩ ∧ b < B ∧ l[k]? = some r ∧ Bytes wr B A2 n2 c2 r.data ∧ In64 r.at_ ∧
    w.cell? ⟨b, o + k * 2, none⟩ = some (.int .i64 r.at_) ∧ w.cell? ⟨b, o + k * 2 + 1, none⟩ = some (.slice A2 n2 c2) := by
  have hl : k < l.length := by rw [h.len]; exact hk
  obtain ⟨b, o, vs, e, hb, ⟨A2, n2, c2, rfl, hy, h1⟩, hc⟩ := h.at_ hk
  exact ⟨b, o, _, A2, n2, c2, e, hb, List.getElem?_eq_getElem hl, hy, h1, hc 0 _ rfl, hc 1 _ rfl⟩
/-- a patch in a slice: its cells -/
theorem patch_at {wr w : World} {B n c k : Nat} {A : Option Addr} {l : List PatchX} (h : ElemsIn PatchE wr w B A n c l) (hk : k < n) : ∃ b o x A2 n2 c2, A = some ⟨b, o, none⟩ ∧ b < B ∧ l[k]? = some x ∧ Elems RunE wr B A2 n2 c2 x.runs ∧ In64 x.page ∧
    w.cell? ⟨b, o + k * 3, none⟩ = some (.int .i64 x.page) ∧ w.cell? ⟨b, o + k * 3 + 1, none⟩ = some (.bool x.fresh) ∧ w.cell? ⟨b, o + k * 3 + 2, none⟩ = some (.slice A2 n2 c2) := by
  have hl : k < l.length := by rw [h.len]; exact hk
  obtain ⟨b, o, vs, e, hb, ⟨A2, n2, c2, rfl, hy, h1⟩, hc⟩ := h.at_ hk
  exact ⟨b, o, _, A2, n2, c2, e, hb, List.getElem?_eq_getElem hl, hy, h1, hc 0 _ rfl, hc 1 _ rfl, hc 2 _ rfl⟩
end Go.Proofs.Ytiokcemlfdonnaa
end
section
namespace Go.Proofs.Ytiokcemlfdonnaa.CellP

/-- the second byte, as a number -/
def len1 (l : List UInt8) : Nat := (l.getD 1 0).toNat
/-- the cell with which bytes begin, how many bytes it takes, the error's number -/
def get (l : List UInt8) : Cell × Int × Int :=
  if l.length < 1 then (none, 0, 13)
  else if NumP.val l 0 1 = 1 then
    (if l.length < 2 ∨ l.length < 2 + len1 l then (none, 0, 13) else if 32 < len1 l then (none, 0, 12) else (⟨1, (l.drop 2).take (len1 l), 0, 0, 0⟩, 2 + (len1 l : Int), 0))
  else if NumP.val l 0 1 = 2 then
    (if l.length < 25 then (none, 0, 13) else if NumP.val l 1 8 ≤ NumP.val l 17 8 ∧ NumP.val l 17 8 ≤ NumP.val l 9 8 then (⟨2, [], NumP.val l 1 8, NumP.val l 9 8, NumP.val l 17 8⟩, 25, 0) else (none, 0, 12))
  else (none, 0, 12)

theorem len1_val (l : List UInt8) (h : 2 ≤ l.length) : NumP.val l 1 1 = (len1 l : Int) := by
  match l, h with
  | a :: b :: r, _ => exact NumP.val_one [a] r b
theorem len1_lt (l : List UInt8) : len1 l < 256 := (l.getD 1 0).toNat_lt
theorem val_in (l : List UInt8) (a width : Nat) (h : width ≤ 8) : In64 (NumP.val l a width) := by
  unfold NumP.val
  split
  · exact NumP.toI_in _ (NumP.num_lt8 _ (by simp; omega))
  · unfold In64; omega
theorem get_short (l : List UInt8) (h : l.length < 1) : get l = (none, 0, 13) := by simp only [get]; rw [if_pos h]
theorem get_rec_short (l : List UInt8) (h : ¬ l.length < 1) (hk : NumP.val l 0 1 = 1) (h2 : l.length < 2 ∨ l.length < 2 + len1 l) : get l = (none, 0, 13) := by
  simp only [get]; rw [if_neg h, if_pos hk, if_pos h2]
theorem get_rec_form (l : List UInt8) (h : ¬ l.length < 1) (hk : NumP.val l 0 1 = 1) (h2 : ¬ (l.length < 2 ∨ l.length < 2 + len1 l)) (h3 : 32 < len1 l) : get l = (none, 0, 12) := by
  simp only [get]; rw [if_neg h, if_pos hk, if_neg h2, if_pos h3]
theorem get_rec (l : List UInt8) (h : ¬ l.length < 1) (hk : NumP.val l 0 1 = 1) (h2 : ¬ (l.length < 2 ∨ l.length < 2 + len1 l)) (h3 : ¬ 32 < len1 l) : get l = (⟨1, (l.drop 2).take (len1 l), 0, 0, 0⟩, 2 + (len1 l : Int), 0) := by
  simp only [get]; rw [if_neg h, if_pos hk, if_neg h2, if_neg h3]
theorem get_cnt_short (l : List UInt8) (h : ¬ l.length < 1) (hk : NumP.val l 0 1 = 2) (h2 : l.length < 25) : get l = (none, 0, 13) := by
  simp only [get]; rw [if_neg h, if_neg (by omega), if_pos hk, if_pos h2]
theorem get_cnt_form (l : List UInt8) (h : ¬ l.length < 1) (hk : NumP.val l 0 1 = 2) (h2 : ¬ l.length < 25) (h3 : ¬ (NumP.val l 1 8 ≤ NumP.val l 17 8 ∧ NumP.val l 17 8 ≤ NumP.val l 9 8)) : get l = (none, 0, 12) := by
  simp only [get]; rw [if_neg h, if_neg (by omega), if_pos hk, if_neg h2, if_neg h3]
theorem get_cnt (l : List UInt8) (h : ¬ l.length < 1) (hk : NumP.val l 0 1 = 2) (h2 : ¬ l.length < 25) (h3 : NumP.val l 1 8 ≤ NumP.val l 17 8 ∧ NumP.val l 17 8 ≤ NumP.val l 9 8) :
    get l = (⟨2, [], NumP.val l 1 8, NumP.val l 9 8, NumP.val l 17 8⟩, 25, 0) := by
  simp only [get]; rw [if_neg h, if_neg (by omega), if_pos hk, if_neg h2, if_pos h3]
theorem get_other (l : List UInt8) (h : ¬ l.length < 1) (hk : NumP.val l 0 1 ≠ 1) (hk2 : NumP.val l 0 1 ≠ 2) : get l = (none, 0, 12) := by
  simp only [get]; rw [if_neg h, if_neg hk, if_neg hk2]

theorem right_rec (d : List UInt8) (h : d.length ≤ 32) : right ⟨1, d, 0, 0, 0⟩ = true := by simp [right, h]
theorem right_rec_no (d : List UInt8) (h : ¬ d.length ≤ 32) : right ⟨1, d, 0, 0, 0⟩ = false := by simp [right, h]
theorem right_cnt (lo hi v : Int) (h : lo ≤ v ∧ v ≤ hi) : right ⟨2, [], lo, hi, v⟩ = true := by simp [right, h]
theorem right_cnt_no (lo hi v : Int) (h : ¬ (lo ≤ v ∧ v ≤ hi)) : right ⟨2, [], lo, hi, v⟩ = false := by
  simp [right]
  omega
theorem right_other (k : Int) (d : List UInt8) (lo hi v : Int) (h1 : k ≠ 1) (h2 : k ≠ 2) : right ⟨k, d, lo, hi, v⟩ = false := by simp [right, h1, h2]
/-- a cell that may be is got out of its bytes -/
theorem get_bytes (c : Cell) (post : List UInt8) (hr : right c = true) (hi : In64 c.lo ∧ In64 c.hi ∧ In64 c.val) : get (bytes c ++ post) = (c, ((bytes c).length : Int), 0) := by
  obtain ⟨k, d, lo, hi', v⟩ := c
  obtain ⟨i1, i2, i3⟩ := hi
  dsimp only at *
  have hr' := hr
  by_cases hk : k = 1
  · subst hk
    simp [right] at hr'
    obtain ⟨hd, rfl, rfl, rfl⟩ := hr'
    have hb : bytes ⟨1, d, 0, 0, 0⟩ = 1 :: UInt8.ofNat d.length :: d := by
      unfold bytes
      rw [if_pos hr, if_pos rfl]
      rfl
    rw [hb]
    have hn : (UInt8.ofNat d.length).toNat = d.length := by simp; omega
    have hl1 : len1 (1 :: UInt8.ofNat d.length :: d ++ post) = d.length := by simp [len1]; omega
    have hv : NumP.val (1 :: UInt8.ofNat d.length :: d ++ post) 0 1 = 1 := NumP.val_one [] (UInt8.ofNat d.length :: d ++ post) 1
    rw [get_rec _ (by simp) hv (by rw [hl1]; simp; omega) (by rw [hl1]; omega), hl1]
    simp
    omega
  · have hk2 : k = 2 := by simp [right, hk] at hr'; exact hr'.1
    subst hk2
    simp [right] at hr'
    obtain ⟨rfl, h1, h2⟩ := hr'
    have hb : bytes ⟨2, [], lo, hi', v⟩ = 2 :: (BeP.parts 8 lo ++ (BeP.parts 8 hi' ++ BeP.parts 8 v)) := by
      unfold bytes
      rw [if_pos hr, if_neg (by simp)]
      rfl
    rw [hb]
    have p1 := BeP.parts_length 8 lo
    have p2 := BeP.parts_length 8 hi'
    have p3 := BeP.parts_length 8 v
    have hv : NumP.val (2 :: (BeP.parts 8 lo ++ (BeP.parts 8 hi' ++ BeP.parts 8 v)) ++ post) 0 1 = 2 := NumP.val_one [] _ 2
    have e1 : NumP.val (2 :: (BeP.parts 8 lo ++ (BeP.parts 8 hi' ++ BeP.parts 8 v)) ++ post) 1 8 = lo := by
      have := NumP.val_parts8 [2] (BeP.parts 8 hi' ++ (BeP.parts 8 v ++ post)) lo i1
      simpa using this
    have e2 : NumP.val (2 :: (BeP.parts 8 lo ++ (BeP.parts 8 hi' ++ BeP.parts 8 v)) ++ post) 9 8 = hi' := by
      have := NumP.val_parts8 (2 :: BeP.parts 8 lo) (BeP.parts 8 v ++ post) hi' i2
      simpa [p1] using this
    have e3 : NumP.val (2 :: (BeP.parts 8 lo ++ (BeP.parts 8 hi' ++ BeP.parts 8 v)) ++ post) 17 8 = v := by
      have := NumP.val_parts8 (2 :: BeP.parts 8 lo ++ BeP.parts 8 hi') post v i3
      simpa [p1, p2] using this
    rw [get_cnt _ (by simp) hv (by simp [p1, p2, p3]; omega) (by rw [e1, e2, e3]; exact ⟨h1, h2⟩), e1, e2, e3]
    simp [p1, p2, p3]
end Go.Proofs.Ytiokcemlfdonnaa.CellP
end
section
namespace Go.Proofs.Ytiokcemlfdonnaa.SlotP

/-- bytes as a text -/
def text (l : List UInt8) : ByteArray := ⟨l.toArray⟩
/-- the item that bytes seem to be -/
def seem (l : List UInt8) : Item := ⟨((l.getD 0 0).toNat : Int), text ((l.drop 2).take (l.getD 1 0).toNat), (CellP.get (l.drop (2 + (l.getD 1 0).toNat))).1⟩
/-- is it one? -/
def good (l : List UInt8) : Bool := decide ((l.getD 1 0).toNat ≤ 16) && ((CellP.get (l.drop (2 + (l.getD 1 0).toNat))).2.2 == 0 && (right (seem l) && (bytes (seem l) == l)))
/-- the item of which bytes are, and the error's number -/
def get (l : List UInt8) : Item × Int := if l = zeros 64 then (none, 0) else if good l = true then (seem l, 0) else (none, 12)

theorem text_of (s : ByteArray) : text s.data.toList = s := by
  obtain ⟨⟨l⟩⟩ := s
  rfl
theorem bytearray_ext {a b : ByteArray} (h : a.toList = b.toList) : a = b := by
  have h2 : a.data.toList = b.data.toList := by
    rw [ByteArray.toList_eq, ByteArray.toList_eq] at h
    exact h
  rw [← text_of a, ← text_of b, h2]
theorem cell_same {c d : Cell} (h : CellP.same c d = true) : c = d := by
  obtain ⟨k, l, lo, hi, v⟩ := c
  obtain ⟨k', l', lo', hi', v'⟩ := d
  simp [CellP.same] at h
  obtain ⟨rfl, rfl, rfl, rfl, rfl⟩ := h
  rfl
theorem same_eq {x y : Item} (h : same x y = true) : x = y := by
  obtain ⟨s, k, c⟩ := x
  obtain ⟨s', k', c'⟩ := y
  unfold same at h
  simp only [Bool.and_eq_true, beq_iff_eq] at h
  obtain ⟨rfl, h2, h3⟩ := h
  obtain rfl := bytearray_ext h2
  obtain rfl := cell_same h3
  rfl
theorem same_self (x : Item) : same x x = true := by simp [same, CellP.same]
theorem right_none (x : Item) (h0 : x.state = 0) (hr : right x = true) : x = none := by
  unfold right at hr
  rw [if_pos h0] at hr
  exact same_eq hr
/-- numbers that may be -/
def In (x : Item) : Prop := In64 x.state ∧ In64 x.cell.kind ∧ In64 x.cell.lo ∧ In64 x.cell.hi ∧ In64 x.cell.val
theorem bytes_full (x : Item) (h0 : x.state ≠ 0) (hr : right x = true) : bytes x = UInt8.ofNat x.state.toNat :: UInt8.ofNat x.key.size :: (x.key.data.toList ++ (CellP.bytes x.cell ++ zeros (64 - (body x).length))) := by
  unfold bytes
  rw [if_pos ⟨h0, hr⟩]
  simp [body]
theorem seem_bytes (x : Item) (h0 : x.state ≠ 0) (hr : right x = true) (hi : In64 x.cell.lo ∧ In64 x.cell.hi ∧ In64 x.cell.val) :
    seem (bytes x) = x ∧ ((bytes x).getD 1 0).toNat = x.key.size ∧ (CellP.get ((bytes x).drop (2 + x.key.size))).2.2 = 0 := by
  have hk := right_key x h0 hr
  have h12 := right_state x h0 hr
  have hc := right_cell x h0 hr
  have hl : x.key.data.toList.length = x.key.size := Array.length_toList
  have hb := bytes_full x h0 hr
  have hn : (UInt8.ofNat x.key.size).toNat = x.key.size := by simp; omega
  have h1 : ((bytes x).getD 1 0).toNat = x.key.size := by rw [hb]; exact hn
  have hd : (bytes x).drop (2 + x.key.size) = CellP.bytes x.cell ++ zeros (64 - (body x).length) := by
    rw [hb, Nat.add_comm 2, List.drop_succ_cons, List.drop_succ_cons, ← hl, List.drop_left]
  have hg := CellP.get_bytes x.cell (zeros (64 - (body x).length)) hc hi
  refine ⟨?_, h1, by rw [hd, hg]⟩
  unfold seem
  rw [h1, hd, hg]
  have h2 : ((bytes x).drop 2).take x.key.size = x.key.data.toList := by
    rw [hb, List.drop_succ_cons, List.drop_succ_cons, List.drop_zero, ← hl, List.take_left]
  rw [h2, text_of]
  have h3 : (((bytes x).getD 0 0).toNat : Int) = x.state := by
    rw [hb]
    rcases h12 with e | e <;> rw [e] <;> rfl
  rw [h3]
theorem zeros_ne (x : Item) (h0 : x.state ≠ 0) (hr : right x = true) : bytes x ≠ zeros 64 := by
  intro h
  have hb := bytes_full x h0 hr
  rw [h] at hb
  have h1 := congrArg (fun l => l.getD 0 0) hb
  rcases right_state x h0 hr with e | e
  · rw [e] at h1
    have h2 : (0 : UInt8) = UInt8.ofNat (Int.toNat 1) := h1
    exact absurd h2 (by decide)
  · rw [e] at h1
    have h2 : (0 : UInt8) = UInt8.ofNat (Int.toNat 2) := h1
    exact absurd h2 (by decide)
theorem get_zeros : get (zeros 64) = (none, 0) := by unfold get; rw [if_pos rfl]
/-- an item that may be is got out of its bytes -/
theorem get_bytes (x : Item) (hr : right x = true) (hi : In x) : get (bytes x) = (x, 0) := by
  by_cases h0 : x.state = 0
  · have hx := right_none x h0 hr
    have hb : bytes x = zeros 64 := by
      unfold bytes
      rw [if_neg (by simp [h0])]
    rw [hb, get_zeros, hx]
  · obtain ⟨h1, h2, h3⟩ := seem_bytes x h0 hr hi.2.2
    have hk := right_key x h0 hr
    have hg : good (bytes x) = true := by
      unfold good
      rw [h1, h2, h3, hr]
      simp [hk]
    unfold get
    rw [if_neg (zeros_ne x h0 hr), if_pos hg, h1]
end Go.Proofs.Ytiokcemlfdonnaa.SlotP
end
section
namespace Go.Proofs.Ytiokcemlfdonnaa
open Go.ChangeShapes Go.WideShapes Go.ChangeAt Go.RowKit
set_option linter.unusedVariables false
set_option maxRecDepth 100000
def recV (x : RecX) (A : Option Addr) (n c : Nat) (A2 : Option Addr) (n2 c2 : Nat) : List Value := [.int .i64 x.kind, .int .i64 x.txn, .int .i64 x.prev, .int .i64 x.next, .slice A n c, .int .i64 x.undo.act, .string x.undo.key, .int .i64 x.undo.item.state, .string x.undo.item.key, .int .i64 x.undo.item.cell.kind, .slice A2 n2 c2, .int .i64 x.undo.item.cell.lo, .int .i64 x.undo.item.cell.hi, .int .i64 x.undo.item.cell.val, .int .i64 x.undo.n]
/-- the numbers of a record fit the words they lie in -/
def RecIn (x : RecX) : Prop := (x.undo.key.size ≤ maxLen ∧ x.undo.item.key.size ≤ maxLen) ∧ SlotP.In x.undo.item ∧ In64 x.undo.act ∧ In64 x.undo.n ∧ In64 x.kind ∧ In64 x.txn ∧ In64 x.prev ∧ In64 x.next
def RecE : El RecX where
  size := 15
  pos := by decide
  rel w B vs x := ∃ A n c A2 n2 c2, vs = recV x A n c A2 n2 c2 ∧ Elems PatchE w B A n c x.patches ∧ Bytes w B A2 n2 c2 x.undo.item.cell.data ∧ RecIn x
  len := by rintro w B vs p ⟨A, n, c, A2, n2, c2, rfl, _⟩; rfl
  one := by rintro w B vs p ⟨A, n, c, A2, n2, c2, rfl, _⟩ v hv; simp only [recV, List.mem_cons, List.not_mem_nil, or_false] at hv; rcases hv with rfl | rfl | rfl | rfl | rfl | rfl | rfl | rfl | rfl | rfl | rfl | rfl | rfl | rfl | rfl <;> rfl
  sub := by rintro w w' B vs p hs ⟨A, n, c, A2, n2, c2, e, h, h2, r⟩; exact ⟨A, n, c, A2, n2, c2, e, h.sub hs, h2.sub hs, r⟩
  more := by rintro w B B' vs p hB ⟨A, n, c, A2, n2, c2, e, h, h2, r⟩; exact ⟨A, n, c, A2, n2, c2, e, h.more hB, h2.more hB, r⟩
/-- a record of a slice: its cells -/
theorem rec_at {wr w : World} {B n c k : Nat} {A : Option Addr} {l : List RecX} (h : ElemsIn RecE wr w B A n c l) (hk : k < n) : ∃ b o x A1 n1 c1 A2 n2 c2, A = some ⟨b, o, none⟩ ∧ b < B ∧ l[k]? = some x ∧ Elems PatchE wr B A1 n1 c1 x.patches ∧ Bytes wr B A2 n2 c2 x.undo.item.cell.data ∧ RecIn x ∧
    ∀ j v, (recV x A1 n1 c1 A2 n2 c2)[j]? = some v → w.cell? ⟨b, o + k * 15 + j, none⟩ = some v := by
  have hl : k < l.length := by rw [h.len]; exact hk
  obtain ⟨b, o, vs, e, hb, ⟨A1, n1, c1, A2, n2, c2, rfl, hy, hy2, h1⟩, hc⟩ := h.at_ hk
  exact ⟨b, o, _, A1, n1, c1, A2, n2, c2, e, hb, List.getElem?_eq_getElem hl, hy, hy2, h1, hc⟩
def RRecs (w : World) (B : Nat) (v : Value) (l : List RecX) : Prop := ∃ A n c, v = .slice A n c ∧ Elems RecE w B A n c l
section
variable {H : Type} {enc : TypeId × Value → H} {P : Program} {w : World}
theorem bool_of {t : TypeId} (ht : P.underlying t = some .bool) {fuel : Nat} {cs : List Value} {x : DataW H × List MemPlace} (h : DataW.trod enc P w 0 (fun _ => true) true fuel t cs = some x) : ∃ b, cs = [.bool b] := by
  obtain ⟨b, e, _⟩ := DataW.trod_bool ht h
  exact ⟨b, e⟩
end
section
variable {H : Type} {enc : TypeId × Value → H} {W : World} {base : Nat} {v : Value} {d : DataW H} {p : List MemPlace}
theorem cells_run {n0 : Nat} {l : List Value} {y0 : DataW H × List MemPlace} (hf : DataW.trod enc Try.prog W 0 (fun _ => true) true n0 100 l = some y0) : ∃ x, RunE.rel W W.heap.size l x := by
  obtain ⟨hl, n, hg⟩ := field_of Try.underlying100 hf
  have hl' : l.length = 2 := hl.trans (by kernel_rfl)
  match l, hl' with
  | [c0, c1], _ =>
    obtain ⟨y0, h0⟩ := hg 0 3 0 1 rfl (by kernel_rfl)
    have h0' : DataW.trod enc Try.prog W 0 (fun _ => true) true n 3 [c0] = some y0 := h0
    obtain ⟨z0, e0, _, q0⟩ := DataW.trod_int Try.underlying3 h0'
    obtain ⟨y1, h1⟩ := hg 1 23 1 1 rfl (by kernel_rfl)
    have h1' : DataW.trod enc Try.prog W 0 (fun _ => true) true n 23 [c1] = some y1 := h1
    obtain ⟨A1, n1, k1, z1, e1, q1⟩ := bytes_of Try.underlying23 Try.underlying5 (by kernel_rfl) h1'
    simp only [List.cons.injEq, and_true] at e0 e1
    subst e0 e1
    exact ⟨⟨z0, z1⟩, A1, n1, k1, rfl, q1, in64 q0⟩
theorem cells_patch {n0 : Nat} {l : List Value} {y0 : DataW H × List MemPlace} (hf : DataW.trod enc Try.prog W 0 (fun _ => true) true n0 63 l = some y0) : ∃ x, PatchE.rel W W.heap.size l x := by
  obtain ⟨hl, n, hg⟩ := field_of Try.underlying63 hf
  have hl' : l.length = 3 := hl.trans (by kernel_rfl)
  match l, hl' with
  | [c0, c1, c2], _ =>
    obtain ⟨y0, h0⟩ := hg 0 3 0 1 rfl (by kernel_rfl)
    have h0' : DataW.trod enc Try.prog W 0 (fun _ => true) true n 3 [c0] = some y0 := h0
    obtain ⟨z0, e0, _, q0⟩ := DataW.trod_int Try.underlying3 h0'
    obtain ⟨y1, h1⟩ := hg 1 4 1 1 rfl (by kernel_rfl)
    have h1' : DataW.trod enc Try.prog W 0 (fun _ => true) true n 4 [c1] = some y1 := h1
    obtain ⟨z1, e1⟩ := bool_of Try.underlying4 h1'
    obtain ⟨y2, h2⟩ := hg 2 61 2 1 rfl (by kernel_rfl)
    have h2' : DataW.trod enc Try.prog W 0 (fun _ => true) true n 61 [c2] = some y2 := h2
    obtain ⟨A2, n2, k2, z2, e2, q2⟩ := elems_of RunE Try.underlying61 (by kernel_rfl) (fun _ _ _ hq => cells_run hq) h2'
    simp only [List.cons.injEq, and_true] at e0 e1 e2
    subst e0 e1 e2
    exact ⟨⟨z0, z1, z2⟩, A2, n2, k2, rfl, q2, in64 q0⟩
theorem cells_rec {n0 : Nat} {l : List Value} {y0 : DataW H × List MemPlace} (hf : DataW.trod enc Try.prog W 0 (fun _ => true) true n0 31 l = some y0) : ∃ x, RecE.rel W W.heap.size l x := by
  obtain ⟨hl, n, hg⟩ := field_of Try.underlying31 hf
  have hl' : l.length = 15 := hl.trans (by kernel_rfl)
  match l, hl' with
  | [c0, c1, c2, c3, c4, c5, c6, c7, c8, c9, c10, c11, c12, c13, c14], _ =>
    obtain ⟨y0, h0⟩ := hg 0 3 0 1 rfl (by kernel_rfl)
    have h0' : DataW.trod enc Try.prog W 0 (fun _ => true) true n 3 [c0] = some y0 := h0
    obtain ⟨z0, e0, _, q0⟩ := DataW.trod_int Try.underlying3 h0'
    obtain ⟨y1, h1⟩ := hg 1 3 1 1 rfl (by kernel_rfl)
    have h1' : DataW.trod enc Try.prog W 0 (fun _ => true) true n 3 [c1] = some y1 := h1
    obtain ⟨z1, e1, _, q1⟩ := DataW.trod_int Try.underlying3 h1'
    obtain ⟨y2, h2⟩ := hg 2 3 2 1 rfl (by kernel_rfl)
    have h2' : DataW.trod enc Try.prog W 0 (fun _ => true) true n 3 [c2] = some y2 := h2
    obtain ⟨z2, e2, _, q2⟩ := DataW.trod_int Try.underlying3 h2'
    obtain ⟨y3, h3⟩ := hg 3 3 3 1 rfl (by kernel_rfl)
    have h3' : DataW.trod enc Try.prog W 0 (fun _ => true) true n 3 [c3] = some y3 := h3
    obtain ⟨z3, e3, _, q3⟩ := DataW.trod_int Try.underlying3 h3'
    obtain ⟨y4, h4⟩ := hg 4 22 4 1 rfl (by kernel_rfl)
    have h4' : DataW.trod enc Try.prog W 0 (fun _ => true) true n 22 [c4] = some y4 := h4
    obtain ⟨A4, n4, k4, z4, e4, q4⟩ := elems_of PatchE Try.underlying22 (by kernel_rfl) (fun _ _ _ hq => cells_patch hq) h4'
    obtain ⟨w5, g5⟩ := hg 5 29 5 10 rfl (by kernel_rfl)
    have g5' : DataW.trod enc Try.prog W 0 (fun _ => true) true n 29 [c5, c6, c7, c8, c9, c10, c11, c12, c13, c14] = some w5 := g5
    obtain ⟨_, m5, hg5⟩ := field_of Try.underlying29 g5'
    obtain ⟨y5, h5⟩ := hg5 0 3 0 1 rfl (by kernel_rfl)
    have h5' : DataW.trod enc Try.prog W 0 (fun _ => true) true m5 3 [c5] = some y5 := h5
    obtain ⟨z5, e5, _, q5⟩ := DataW.trod_int Try.underlying3 h5'
    obtain ⟨y6, h6⟩ := hg5 1 9 1 1 rfl (by kernel_rfl)
    have h6' : DataW.trod enc Try.prog W 0 (fun _ => true) true m5 9 [c6] = some y6 := h6
    obtain ⟨z6, e6, _, q6⟩ := DataW.trod_string Try.underlying9 h6'
    obtain ⟨w7, g7⟩ := hg5 2 27 2 7 rfl (by kernel_rfl)
    have g7' : DataW.trod enc Try.prog W 0 (fun _ => true) true m5 27 [c7, c8, c9, c10, c11, c12, c13] = some w7 := g7
    obtain ⟨_, m7, hg7⟩ := field_of Try.underlying27 g7'
    obtain ⟨y7, h7⟩ := hg7 0 3 0 1 rfl (by kernel_rfl)
    have h7' : DataW.trod enc Try.prog W 0 (fun _ => true) true m7 3 [c7] = some y7 := h7
    obtain ⟨z7, e7, _, q7⟩ := DataW.trod_int Try.underlying3 h7'
    obtain ⟨y8, h8⟩ := hg7 1 9 1 1 rfl (by kernel_rfl)
    have h8' : DataW.trod enc Try.prog W 0 (fun _ => true) true m7 9 [c8] = some y8 := h8
    obtain ⟨z8, e8, _, q8⟩ := DataW.trod_string Try.underlying9 h8'
    obtain ⟨w9, g9⟩ := hg7 2 25 2 5 rfl (by kernel_rfl)
    have g9' : DataW.trod enc Try.prog W 0 (fun _ => true) true m7 25 [c9, c10, c11, c12, c13] = some w9 := g9
    obtain ⟨_, m9, hg9⟩ := field_of Try.underlying25 g9'
    obtain ⟨y9, h9⟩ := hg9 0 3 0 1 rfl (by kernel_rfl)
    have h9' : DataW.trod enc Try.prog W 0 (fun _ => true) true m9 3 [c9] = some y9 := h9
    obtain ⟨z9, e9, _, q9⟩ := DataW.trod_int Try.underlying3 h9'
    obtain ⟨y10, h10⟩ := hg9 1 23 1 1 rfl (by kernel_rfl)
    have h10' : DataW.trod enc Try.prog W 0 (fun _ => true) true m9 23 [c10] = some y10 := h10
    obtain ⟨A10, n10, k10, z10, e10, q10⟩ := bytes_of Try.underlying23 Try.underlying5 (by kernel_rfl) h10'
    obtain ⟨y11, h11⟩ := hg9 2 3 2 1 rfl (by kernel_rfl)
    have h11' : DataW.trod enc Try.prog W 0 (fun _ => true) true m9 3 [c11] = some y11 := h11
    obtain ⟨z11, e11, _, q11⟩ := DataW.trod_int Try.underlying3 h11'
    obtain ⟨y12, h12⟩ := hg9 3 3 3 1 rfl (by kernel_rfl)
    have h12' : DataW.trod enc Try.prog W 0 (fun _ => true) true m9 3 [c12] = some y12 := h12
    obtain ⟨z12, e12, _, q12⟩ := DataW.trod_int Try.underlying3 h12'
    obtain ⟨y13, h13⟩ := hg9 4 3 4 1 rfl (by kernel_rfl)
    have h13' : DataW.trod enc Try.prog W 0 (fun _ => true) true m9 3 [c13] = some y13 := h13
    obtain ⟨z13, e13, _, q13⟩ := DataW.trod_int Try.underlying3 h13'
    obtain ⟨y14, h14⟩ := hg5 3 3 9 1 rfl (by kernel_rfl)
    have h14' : DataW.trod enc Try.prog W 0 (fun _ => true) true m5 3 [c14] = some y14 := h14
    obtain ⟨z14, e14, _, q14⟩ := DataW.trod_int Try.underlying3 h14'
    simp only [List.cons.injEq, and_true] at e0 e1 e2 e3 e4 e5 e6 e7 e8 e9 e10 e11 e12 e13 e14
    subst e0 e1 e2 e3 e4 e5 e6 e7 e8 e9 e10 e11 e12 e13 e14
    exact ⟨⟨z0, z1, z2, z3, z4, ⟨z5, z6, ⟨z7, z8, ⟨z9, z10, z11, z12, z13⟩⟩, z14⟩⟩, A4, n4, k4, A10, n10, k10, rfl, q4, q10, ⟨q6, q8⟩, ⟨in64 q7, in64 q9, in64 q11, in64 q12, in64 q13⟩, in64 q5, in64 q14, in64 q0, in64 q1, in64 q2, in64 q3⟩
theorem open_recs (hv : Value.okWide Try.prog W .any base 43 v) (h : DataW.Trod enc Try.prog W 0 (fun _ => true) true 43 v d p) : ∃ l, RRecs W W.heap.size v l := by
  obtain ⟨a, len, cap, rfl⟩ := okWide_slice Try.underlying43 hv
  obtain ⟨fuel, hf⟩ := h
  obtain ⟨A, n, c, l, e, hb⟩ := elems_of RecE Try.underlying43 (by kernel_rfl) (fun _ _ _ hq => cells_rec hq) hf
  refine ⟨l, A, n, c, ?_, hb⟩
  simpa [Value.cells] using e
end
end Go.Proofs.Ytiokcemlfdonnaa
end
section
namespace Go.Proofs.Ytiokcemlfdonnaa
open Go.RowKit
set_option linter.unusedVariables false
section
variable {α : Type} {E : El α} {T : TypeId} {w w' : World} {base n c : Nat} {A : Option Addr} {l : List α}
end
end Go.Proofs.Ytiokcemlfdonnaa
end
