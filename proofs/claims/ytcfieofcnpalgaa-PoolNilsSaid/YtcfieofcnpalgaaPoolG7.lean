/-
  Parts of the proof of PoolNils.
-/
import Derived.Test.YtcfieofcnpalgaaPoolG6
import Derived.Test.YtcfieofcnpalgaaPoolG0
import Derived.Laws.StructEq
import Derived.Test.YtcfieofcnpalgaaPoolG5
import Derived.Test.YtcfieofcnpalgaaPoolG2
import Derived.Lib.Overlaps
section
namespace Go.Proofs.Ytcfieofcnpalgaa.DevW
open Go.RowKit Go.Maps
set_option linter.unusedVariables false
set_option linter.unusedSimpArgs false
variable {d sb mb : Nat} {bp bs : List Nat} {gb : Option Nat} {A : Option Addr} {n c nm : Nat} {es : List (Int × SlV)} {X : DevX}
attribute [local go_sem ↓] ldPage_fold stPage_fold bdPage_fold alPage_fold alJob_fold bdJob_fold stJob_fold
set_option maxRecDepth 100000 in
set_option maxHeartbeats 1000000 in
theorem Write_any (no : Int) (p : List UInt8) (hp : p.length = 512) (w : World) (hD : Dev w d bs X) (hs : DevP.Small X) :
    Calls Try.prog 22 #[.pointer (some ⟨d, 0, none⟩), .int .i64 no, .agg (rowV p)] w (Told w d bs (DevP.op X (decide (0 ≤ no) && decide (no < (X.safe.length : Nat))) (DevP.wrote X no.toNat p)) (.int .i64 (DevP.err X (decide (0 ≤ no) && decide (no < (X.safe.length : Nat)))))) := by
  have hmf : ∀ (fn : Fn) (first cap : Array Value) (w : World), (Instr.makeFunc fn first cap).run Try.prog w = .ok (.func fn first cap) w := fun _ _ _ _ => rfl
  have hld := run_ld (P := Try.prog) arrPage (Str.new w (rowV p) 24) hp
  have hal := job_al
  have hbd := fun W => job_bdP d no p hp W
  have hsz0 : (w.alloc (.cells (rowV p) 24)).heap.size = w.heap.size + 1 := by simp
  have hst := job_st (d := d) (n := no) (l := p) (A := none) (m := 0) (c := 0) (Str.new (w.alloc (.cells (rowV p) 24)) jobZ 71) hp
  rw [hsz0] at hst
  obtain ⟨W1, hW1⟩ : ∃ W, ((w.alloc (.cells (rowV p) 24)).alloc (.cells jobZ 71)).setRow (w.heap.size + 1) (jobC d no p (.slice none 0 0)) = W := ⟨_, rfl⟩
  rw [hW1] at hst
  have hJ1 : Str W1 (w.heap.size + 1) (jobC d no p (.slice none 0 0)) := by rw [← hW1, ← hsz0]; exact (Str.new _ _ _).setRow
  have hb1 : Below w.heap.size w W1 := by rw [← hW1]; exact below_setRow (balloc (balloc (bsame _) _) _) (by omega) _
  have hD1 := hD.below hb1
  have hj : w.heap.size + 1 ∉ bs := fun hm => by have := hD.lt _ hm; omega
  have HJ1 := Lib.hid hJ1
  have HB1 := Lib.hid hb1
  have HD1 := Lib.hid hD1
  have HJN := Lib.hid hj
  clear hW1 hJ1 hb1 hD1 hj hsz0
  obtain ⟨fits, hfits⟩ : ∃ f, (decide (0 ≤ no) && decide (no < (X.safe.length : Nat))) = f := ⟨_, rfl⟩
  rw [hfits]
  have HFI := Lib.hid hfits
  clear hfits
  go_enter Try.func22, Try.ntmps22
  go_wp2_with fail
  refine (has_any no W1 HD1.out).mono ?_
  rintro e W2 ⟨rfl, hb2⟩
  rw [HFI.out]
  have hd2 := HD1.out.below hb2
  have hJ2 := HJ1.out.next hb2
  have hjl := hJ2.lt
  have hb3 := bstep HB1.out hb2
  clear hst hbd hal hld hb2
  go_wp2_with fail
  refine (do_any 42 #[.pointer (some ⟨w.heap.size + 1, 0, none⟩)] (fun _ => True) [] fits W2 (DevP.wrote X no.toNat p) hd2 hs.1 (by simp) (fun _ _ _ _ => trivial) rfl rfl rfl (fun _ => rfl) (fun hf W hb => ?_)).mono ?_
  · subst hf
    have hf := HFI.out
    simp only [Bool.and_eq_true, decide_eq_true_eq] at hf
    obtain ⟨k, rfl⟩ : ∃ k : Nat, no = (k : Int) := ⟨no.toNat, by omega⟩
    have hk : k < X.safe.length := by omega
    refine (write_act (w.heap.size + 1) k p (.slice none 0 0) W (hJ2.next hb) hp (hd2.below hb) hs HJN.out hk).mono ?_
    exact fun e w' h => h
  · rintro e w1 h
    have HT := Lib.hid (h.told hb3 (by simp))
    obtain ⟨rfl, -⟩ := h
    go_wp2
    go_ret
    exact HT.out
end Go.Proofs.Ytcfieofcnpalgaa.DevW
end
section
namespace Go.Proofs.Ytcfieofcnpalgaa.NumP

def nstep (n : Nat) (c : UInt8) : Nat := n * 256 + c.toNat
/-- the number of bytes -/
def num (l : List UInt8) : Nat := l.foldl nstep 0
/-- a number of 64 bits without a sign, as one with a sign -/
def toI (u : Nat) : Int := if u < 9223372036854775808 then (u : Int) else (u : Int) - 18446744073709551616
/-- are there width bytes from at on? -/
def there (l : List UInt8) (at_ width : Nat) : Bool := decide (at_ + width ≤ l.length)
/-- their number, or 0 -/
def val (l : List UInt8) (at_ width : Nat) : Int := if at_ + width ≤ l.length then toI (num ((l.drop at_).take width)) else 0

theorem num_snoc (l : List UInt8) (c : UInt8) : num (l ++ [c]) = num l * 256 + c.toNat := by simp [num, nstep]
theorem fold_lt (l : List UInt8) (n : Nat) : l.foldl nstep n < (n + 1) * 256 ^ l.length := by
  induction l generalizing n with
  | nil => simp
  | cons c l ih =>
    have h1 := ih (nstep n c)
    have hc := c.toNat_lt
    have h2 : (nstep n c + 1) * 256 ^ l.length ≤ ((n + 1) * 256) * 256 ^ l.length := Nat.mul_le_mul_right _ (by unfold nstep; omega)
    have h3 : (n + 1) * 256 ^ (l.length + 1) = ((n + 1) * 256) * 256 ^ l.length := by rw [Nat.pow_succ, Nat.mul_assoc, Nat.mul_comm (256 ^ l.length)]
    show l.foldl nstep (nstep n c) < (n + 1) * 256 ^ (l.length + 1)
    rw [h3]
    omega
theorem num_lt (l : List UInt8) : num l < 256 ^ l.length := by
  have := fold_lt l 0
  simpa [num] using this
theorem num_lt8 (l : List UInt8) (h : l.length ≤ 8) : num l < 18446744073709551616 := by
  have h1 := num_lt l
  have h2 : 256 ^ l.length ≤ 256 ^ 8 := Nat.pow_le_pow_right (by decide) h
  have h3 : (256 : Nat) ^ 8 = 18446744073709551616 := by decide
  omega
theorem num_lt7 (l : List UInt8) (h : l.length ≤ 7) : num l < 72057594037927936 := by
  have h1 := num_lt l
  have h2 : 256 ^ l.length ≤ 256 ^ 7 := Nat.pow_le_pow_right (by decide) h
  have h3 : (256 : Nat) ^ 7 = 72057594037927936 := by decide
  omega
theorem toI_in (u : Nat) (h : u < 18446744073709551616) : In64 (toI u) := by
  unfold toI In64
  split <;> omega
theorem toI_small (u : Nat) (h : u < 9223372036854775808) : toI u = (u : Int) := by simp [toI, h]
theorem part_toNat (width : Nat) (m : Int) (k : Nat) : (BeP.part width m k).toNat = BeP.u64 m / 256 ^ (width - 1 - k) % 256 := by
  unfold BeP.part
  have : (2 : Nat) ^ (8 * (width - 1 - k)) = 256 ^ (width - 1 - k) := by rw [Nat.pow_mul]
  rw [this]
  simp
theorem num_parts_take (width : Nat) (m : Int) (k : Nat) (h : k ≤ width) : num ((BeP.parts width m).take k) = BeP.u64 m / 256 ^ (width - k) % 256 ^ k := by
  induction k with
  | zero => simp [num, Nat.mod_one]
  | succ k ih =>
    rw [BeP.parts_take width m k (by omega), num_snoc, ih (by omega), part_toNat]
    generalize BeP.u64 m = u
    have e1 : width - k = (width - 1 - k) + 1 := by omega
    have e2 : width - (k + 1) = width - 1 - k := by omega
    rw [e1, e2, Nat.pow_succ 256 (width - 1 - k), ← Nat.div_div_eq_div_mul]
    generalize u / 256 ^ (width - 1 - k) = q
    rw [Nat.pow_succ, Nat.mul_comm (256 ^ k) 256, Nat.mod_mul]
    omega
theorem num_parts (width : Nat) (m : Int) : num (BeP.parts width m) = BeP.u64 m % 256 ^ width := by
  have := num_parts_take width m width (Nat.le_refl _)
  rw [List.take_of_length_le (by rw [BeP.parts_length]; exact Nat.le_refl _)] at this
  simpa using this
theorem val_one (pre post : List UInt8) (c : UInt8) : val (pre ++ c :: post) pre.length 1 = (c.toNat : Int) := by
  unfold val
  rw [if_pos (by simp), List.drop_left]
  have := c.toNat_lt
  simp [num, nstep, toI]
  omega
end Go.Proofs.Ytcfieofcnpalgaa.NumP
end
section
namespace Go.Proofs.Ytcfieofcnpalgaa.CellP

/-- the second byte, as a number -/
def len1 (l : List UInt8) : Nat := (l.getD 1 0).toNat
/-- the cell with which bytes begin, how many bytes it takes, the error's number -/
def get (l : List UInt8) : Cell × Int × Int :=
  if l.length < 1 then (none, 0, 13)
  else if NumP.val l 0 1 = 1 then
    (if l.length < 2 ∨ l.length < 2 + len1 l then (none, 0, 13) else if 32 < len1 l then (none, 0, 12) else (⟨1, (l.drop 2).take (len1 l), 0, 0, 0⟩, 2 + (len1 l : Int), 0))
  else if NumP.val l 0 1 = 2 then
    (if l.length < 25 then (none, 0, 13) else if NumP.val l 1 8 ≤ NumP.val l 17 8 ∧ NumP.val l 17 8 ≤ NumP.val l 9 8 then (⟨2, [], NumP.val l 1 8, NumP.val l 9 8, NumP.val l 17 8⟩, 25, 0) else (none, 0, 12))
  else (none, 0, 12)

theorem len1_val (l : List UInt8) (h : 2 ≤ l.length) : NumP.val l 1 1 = (len1 l : Int) := by
  match l, h with
  | a :: b :: r, _ => exact NumP.val_one [a] r b
theorem len1_lt (l : List UInt8) : len1 l < 256 := (l.getD 1 0).toNat_lt
theorem val_in (l : List UInt8) (a width : Nat) (h : width ≤ 8) : In64 (NumP.val l a width) := by
  unfold NumP.val
  split
  · exact NumP.toI_in _ (NumP.num_lt8 _ (by simp; omega))
  · unfold In64; omega
theorem get_short (l : List UInt8) (h : l.length < 1) : get l = (none, 0, 13) := by simp only [get]; rw [if_pos h]
theorem get_rec_short (l : List UInt8) (h : ¬ l.length < 1) (hk : NumP.val l 0 1 = 1) (h2 : l.length < 2 ∨ l.length < 2 + len1 l) : get l = (none, 0, 13) := by
  simp only [get]; rw [if_neg h, if_pos hk, if_pos h2]
theorem get_rec_form (l : List UInt8) (h : ¬ l.length < 1) (hk : NumP.val l 0 1 = 1) (h2 : ¬ (l.length < 2 ∨ l.length < 2 + len1 l)) (h3 : 32 < len1 l) : get l = (none, 0, 12) := by
  simp only [get]; rw [if_neg h, if_pos hk, if_neg h2, if_pos h3]
theorem get_rec (l : List UInt8) (h : ¬ l.length < 1) (hk : NumP.val l 0 1 = 1) (h2 : ¬ (l.length < 2 ∨ l.length < 2 + len1 l)) (h3 : ¬ 32 < len1 l) : get l = (⟨1, (l.drop 2).take (len1 l), 0, 0, 0⟩, 2 + (len1 l : Int), 0) := by
  simp only [get]; rw [if_neg h, if_pos hk, if_neg h2, if_neg h3]
theorem get_cnt_short (l : List UInt8) (h : ¬ l.length < 1) (hk : NumP.val l 0 1 = 2) (h2 : l.length < 25) : get l = (none, 0, 13) := by
  simp only [get]; rw [if_neg h, if_neg (by omega), if_pos hk, if_pos h2]
theorem get_cnt_form (l : List UInt8) (h : ¬ l.length < 1) (hk : NumP.val l 0 1 = 2) (h2 : ¬ l.length < 25) (h3 : ¬ (NumP.val l 1 8 ≤ NumP.val l 17 8 ∧ NumP.val l 17 8 ≤ NumP.val l 9 8)) : get l = (none, 0, 12) := by
  simp only [get]; rw [if_neg h, if_neg (by omega), if_pos hk, if_neg h2, if_neg h3]
theorem get_cnt (l : List UInt8) (h : ¬ l.length < 1) (hk : NumP.val l 0 1 = 2) (h2 : ¬ l.length < 25) (h3 : NumP.val l 1 8 ≤ NumP.val l 17 8 ∧ NumP.val l 17 8 ≤ NumP.val l 9 8) :
    get l = (⟨2, [], NumP.val l 1 8, NumP.val l 9 8, NumP.val l 17 8⟩, 25, 0) := by
  simp only [get]; rw [if_neg h, if_neg (by omega), if_pos hk, if_neg h2, if_pos h3]
theorem get_other (l : List UInt8) (h : ¬ l.length < 1) (hk : NumP.val l 0 1 ≠ 1) (hk2 : NumP.val l 0 1 ≠ 2) : get l = (none, 0, 12) := by
  simp only [get]; rw [if_neg h, if_neg hk, if_neg hk2]

theorem right_rec (d : List UInt8) (h : d.length ≤ 32) : right ⟨1, d, 0, 0, 0⟩ = true := by simp [right, h]
theorem right_rec_no (d : List UInt8) (h : ¬ d.length ≤ 32) : right ⟨1, d, 0, 0, 0⟩ = false := by simp [right, h]
theorem right_cnt (lo hi v : Int) (h : lo ≤ v ∧ v ≤ hi) : right ⟨2, [], lo, hi, v⟩ = true := by simp [right, h]
theorem right_cnt_no (lo hi v : Int) (h : ¬ (lo ≤ v ∧ v ≤ hi)) : right ⟨2, [], lo, hi, v⟩ = false := by
  simp [right]
  omega
theorem right_other (k : Int) (d : List UInt8) (lo hi v : Int) (h1 : k ≠ 1) (h2 : k ≠ 2) : right ⟨k, d, lo, hi, v⟩ = false := by simp [right, h1, h2]
end Go.Proofs.Ytcfieofcnpalgaa.CellP
end
section
namespace Go.Proofs.Ytcfieofcnpalgaa.SlotP

/-- bytes as a text -/
def text (l : List UInt8) : ByteArray := ⟨l.toArray⟩
/-- the item that bytes seem to be -/
def seem (l : List UInt8) : Item := ⟨((l.getD 0 0).toNat : Int), text ((l.drop 2).take (l.getD 1 0).toNat), (CellP.get (l.drop (2 + (l.getD 1 0).toNat))).1⟩
/-- is it one? -/
def good (l : List UInt8) : Bool := decide ((l.getD 1 0).toNat ≤ 16) && ((CellP.get (l.drop (2 + (l.getD 1 0).toNat))).2.2 == 0 && (right (seem l) && (bytes (seem l) == l)))
/-- the item of which bytes are, and the error's number -/
def get (l : List UInt8) : Item × Int := if l = zeros 64 then (none, 0) else if good l = true then (seem l, 0) else (none, 12)

/-- numbers that may be -/
def In (x : Item) : Prop := In64 x.state ∧ In64 x.cell.kind ∧ In64 x.cell.lo ∧ In64 x.cell.hi ∧ In64 x.cell.val
theorem get_zeros : get (zeros 64) = (none, 0) := by unfold get; rw [if_pos rfl]
end Go.Proofs.Ytcfieofcnpalgaa.SlotP
end
section
namespace Go.Proofs.Ytcfieofcnpalgaa.CrcP

/-- what a bit's step makes of a sum -/
def bit (v : Nat) : Nat := if v % 2 = 1 then v / 2 ^^^ 2197175160 else v / 2
def bits : Nat → Nat → Nat
  | 0, v => v
  | k + 1, v => bits k (bit v)
/-- eight steps -/
def step8 (v : Nat) : Nat := bits 8 v
/-- a byte's round -/
def round (v : Nat) (c : UInt8) : Nat := step8 (v ^^^ c.toNat)
def more (sum : Nat) (l : List UInt8) : Nat := 4294967295 - l.foldl round (4294967295 - sum)
/-- the sum of bytes -/
def sum (l : List UInt8) : Nat := more 0 l

theorem bit_lt (v : Nat) (h : v < 4294967296) : bit v < 4294967296 := by
  unfold bit
  split
  · have : v / 2 ^^^ 2197175160 < 2 ^ 32 := Nat.xor_lt_two_pow (by omega) (by omega)
    omega
  · omega
theorem bits_lt (k v : Nat) (h : v < 4294967296) : bits k v < 4294967296 := by
  induction k generalizing v with
  | zero => exact h
  | succ k ih => exact ih _ (bit_lt v h)
theorem step8_lt (v : Nat) (h : v < 4294967296) : step8 v < 4294967296 := bits_lt 8 v h
theorem xor_byte_lt (v : Nat) (h : v < 4294967296) (c : UInt8) : v ^^^ c.toNat < 4294967296 := by
  have hc := c.toNat_lt
  have : v ^^^ c.toNat < 2 ^ 32 := Nat.xor_lt_two_pow (by omega) (by omega)
  omega
theorem round_lt (v : Nat) (h : v < 4294967296) (c : UInt8) : round v c < 4294967296 := step8_lt _ (xor_byte_lt v h c)
theorem fold_lt (l : List UInt8) (v : Nat) (h : v < 4294967296) : l.foldl round v < 4294967296 := by
  induction l generalizing v with
  | nil => exact h
  | cons c l ih => exact ih _ (round_lt v h c)

theorem xor_div2 (a b : Nat) : (a ^^^ b) / 2 = a / 2 ^^^ b / 2 := by
  have := Nat.shiftRight_xor_distrib (a := a) (b := b) (i := 1)
  simpa [Nat.shiftRight_eq_div_pow] using this
theorem xor_mod2 (a b : Nat) : (a ^^^ b) % 2 = (a + b) % 2 := by
  have h : (a ^^^ b) % 2 = a % 2 ^^^ b % 2 := by
    have := Nat.xor_mod_two_pow (a := a) (b := b) (n := 1)
    simpa using this
  rw [h]
  have ha : a % 2 = 0 ∨ a % 2 = 1 := by omega
  have hb : b % 2 = 0 ∨ b % 2 = 1 := by omega
  rcases ha with ha | ha <;> rcases hb with hb | hb <;> rw [ha, hb] <;> simp <;> omega
/-- a step is linear -/
theorem bit_xor (a b : Nat) : bit (a ^^^ b) = bit a ^^^ bit b := by
  unfold bit
  rw [xor_div2, xor_mod2]
  generalize a / 2 = x
  generalize b / 2 = y
  have ha : a % 2 = 0 ∨ a % 2 = 1 := by omega
  have hb : b % 2 = 0 ∨ b % 2 = 1 := by omega
  rcases ha with ha | ha <;> rcases hb with hb | hb
  · rw [if_neg (by omega), if_neg (by omega), if_neg (by omega)]
  · rw [if_pos (by omega), if_neg (by omega), if_pos (by omega), Nat.xor_assoc]
  · rw [if_pos (by omega), if_pos (by omega), if_neg (by omega), Nat.xor_assoc, Nat.xor_assoc, Nat.xor_comm y]
  · rw [if_neg (by omega), if_pos (by omega), if_pos (by omega), Nat.xor_assoc, Nat.xor_comm 2197175160, Nat.xor_assoc, Nat.xor_self, Nat.xor_zero]
theorem bits_xor (k a b : Nat) : bits k (a ^^^ b) = bits k a ^^^ bits k b := by
  induction k generalizing a b with
  | zero => rfl
  | succ k ih => show bits k (bit (a ^^^ b)) = _; rw [bit_xor, ih]; rfl
theorem step8_xor (a b : Nat) : step8 (a ^^^ b) = step8 a ^^^ step8 b := bits_xor 8 a b
theorem bit_double (v : Nat) : bit (2 * v) = v := by
  unfold bit
  rw [if_neg (by omega)]
  omega
theorem step8_shift (v : Nat) : step8 (256 * v) = v := by
  show bit (bit (bit (bit (bit (bit (bit (bit (256 * v)))))))) = v
  rw [show 256 * v = 2 * (2 * (2 * (2 * (2 * (2 * (2 * (2 * v))))))) by omega, bit_double, bit_double, bit_double, bit_double, bit_double, bit_double, bit_double, bit_double]
theorem split_low (v : Nat) : v = 256 * (v / 256) ^^^ v % 256 := by
  have h : 2 ^ 8 * (v / 2 ^ 8) + v % 2 ^ 8 = 2 ^ 8 * (v / 2 ^ 8) ^^^ v % 2 ^ 8 := by
    apply Nat.eq_of_testBit_eq
    intro i
    rw [Nat.testBit_two_pow_mul_add _ (Nat.mod_lt _ (by decide)), Nat.testBit_xor, Nat.testBit_two_pow_mul]
    by_cases hi : i < 8
    · have h8 : ¬ 8 ≤ i := by omega
      simp [hi, h8]
    · have h0 : (v % 2 ^ 8).testBit i = false := Nat.testBit_lt_two_pow (Nat.lt_of_lt_of_le (Nat.mod_lt _ (by decide)) (Nat.pow_le_pow_right (by decide) (by omega)))
      simp [hi, h0]
      omega
  have h2 := Nat.div_add_mod v (2 ^ 8)
  have h3 : (2 : Nat) ^ 8 = 256 := by decide
  rw [h3] at h h2
  omega
/-- a round by a table -/
theorem round_table (v : Nat) (c : UInt8) : round v c = v / 256 ^^^ step8 (v % 256 ^^^ c.toNat) := by
  unfold round
  have hv := split_low v
  conv => lhs; rw [hv, Nat.xor_assoc, step8_xor, step8_shift]
theorem sum_lt (l : List UInt8) : sum l < 4294967296 := by
  unfold sum more
  omega
end Go.Proofs.Ytcfieofcnpalgaa.CrcP
end
section
namespace Go.Proofs.Ytcfieofcnpalgaa.PageP

/-- a slot of a page, and the error's number -/
def slot (l : List UInt8) (i : Int) : Item × Int := if i < 0 ∨ 7 ≤ i then (SlotP.none, 2) else SlotP.get ((l.drop (32 + i.toNat * 64)).take 64)
/-- a page with its sum -/
def sealed (l : List UInt8) : List UInt8 := SlotP.over l 0 (BeP.parts 4 ((CrcP.sum (l.drop 4) : Nat) : Int))
theorem sealed_length (l : List UInt8) (hl : l.length = 512) : (sealed l).length = 512 := by
  unfold sealed
  rw [SlotP.over_length _ _ _ (by rw [BeP.parts_length]; omega)]
  exact hl
/-- all these are 0 -/
def allz (l : List UInt8) : Bool := l.all fun c => c == 0
theorem allz_succ (l : List UInt8) (k : Nat) (h : k < l.length) : allz (l.take (k + 1)) = (allz (l.take k) && (l[k] == 0)) := by
  unfold allz
  rw [List.take_succ_eq_append_getElem h, List.all_append]
  simp
theorem allz_no (l : List UInt8) (k : Nat) (h : k < l.length) (h0 : l[k] ≠ 0) : allz l = false := by
  unfold allz
  rw [List.all_eq_false]
  exact ⟨l[k], List.getElem_mem h, by simpa using h0⟩
/-- the first k slots are some -/
def slotsOk (l : List UInt8) : Nat → Bool
  | 0 => true
  | k + 1 => slotsOk l k && ((slot l (k : Int)).2 == 0)
theorem slotsOk_succ (l : List UInt8) (k : Nat) : slotsOk l (k + 1) = (slotsOk l k && ((slot l (k : Int)).2 == 0)) := rfl
def right (l : List UInt8) (no : Int) : Bool :=
  (NumP.val l 0 4 == ((CrcP.sum (l.drop 4) : Nat) : Int)) && ((NumP.val l 12 2 == no) && (allz ((l.drop 24).take 8) && (allz (l.drop 480) && slotsOk l 7)))
theorem right_eq (l : List UInt8) (no : Int) : right l no = ((NumP.val l 0 4 == ((CrcP.sum (l.drop 4) : Nat) : Int)) && ((NumP.val l 12 2 == no) && (allz ((l.drop 24).take 8) && (allz (l.drop 480) && slotsOk l 7)))) := rfl
def code (b : Bool) : Int := if b then 0 else 14
theorem slotsOk_bad (l : List UInt8) (k : Nat) (h : (slot l (k : Int)).2 ≠ 0) : ∀ n, k < n → slotsOk l n = false
  | 0, hn => by omega
  | n + 1, hn => by
    unfold slotsOk
    by_cases hk : k = n
    · subst hk
      rw [beq_eq_false_iff_ne.2 h]
      simp
    · rw [slotsOk_bad l k h n (by omega)]
      rfl
theorem right_bad (l : List UInt8) (no : Int) (k : Nat) (hk : k < 7) (h : (slot l (k : Int)).2 ≠ 0) : right l no = false := by
  unfold right
  rw [slotsOk_bad l k h 7 hk]
  simp
theorem sealed_eq (l : List UInt8) : sealed l = BeP.parts 4 ((CrcP.sum (l.drop 4) : Nat) : Int) ++ l.drop 4 := by
  unfold sealed SlotP.over
  rw [BeP.parts_length]
  rfl
end Go.Proofs.Ytcfieofcnpalgaa.PageP
end
section
namespace Go.Proofs.Ytcfieofcnpalgaa
set_option linter.unusedVariables false
/-- a page in memory -/
structure Fr where
  no : Int
  x : List UInt8
  dirty : Bool
  pins : Int
/-- a pool: its device, how far its log was forced, how many frames there may be, those that have a page -/
structure PoolX where
  D : DevX
  far : Int
  n : Int
  fs : List Fr
namespace PoolP
def lsn (x : List UInt8) : Int := NumP.val x 4 8
def find (fs : List Fr) (no : Int) : Option Nat := fs.findIdx? (fun f => f.no == no)
def use (fs : List Fr) (i : Nat) (f : Fr) : List Fr := fs.eraseIdx i ++ [f]
def fits (X : DevX) (no : Int) : Bool := decide (0 ≤ no) && decide (no < (X.safe.length : Nat))
def force (far n : Int) : Int := if far < n then n else far
/-- a page is written -/
def write (s : PoolX) (f : Fr) : PoolX × Int :=
  ({ s with far := force s.far (lsn f.x), D := DevP.op s.D (fits s.D f.no) (DevP.wrote s.D f.no.toNat (PageP.sealed f.x)) }, DevP.err s.D (fits s.D f.no))
def writeAt (s : PoolX) (i : Nat) (f : Fr) : PoolX × Int :=
  if (write s f).2 = 0 then ({ (write s f).1 with fs := s.fs.set i { f with dirty := false } }, 0) else write s f
def victim (fs : List Fr) : Option Nat := fs.findIdx? (fun f => !decide (0 < f.pins))
/-- a frame is made free -/
def free (s : PoolX) : PoolX × Int :=
  if (s.fs.length : Int) < s.n then (s, 0) else
  match victim s.fs with
  | none => (s, 9)
  | some i => match s.fs[i]? with
    | none => (s, 9)
    | some f => if f.dirty then (if (writeAt s i f).2 = 0 then ({ (writeAt s i f).1 with fs := s.fs.eraseIdx i }, 0) else writeAt s i f) else ({ s with fs := s.fs.eraseIdx i }, 0)
end PoolP
end Go.Proofs.Ytcfieofcnpalgaa
end
section
namespace Go.Proofs.Ytcfieofcnpalgaa
open Go.RowKit
set_option linter.unusedVariables false
theorem cutA_zero (b o c s : Nat) : cutA (some ⟨b, o, none⟩) 0 c s = some ⟨b, o, none⟩ := by
  unfold cutA
  split
  · rfl
  · simp [add_none]
theorem cutA_pos {b o k c s : Nat} (h : c ≠ k) : cutA (some ⟨b, o, none⟩) k c s = some ⟨b, o + k * s, none⟩ := by
  unfold cutA
  rw [if_neg h]
  simp [add_none]
theorem cutA_some (b o k c s : Nat) : ∃ o', cutA (some ⟨b, o, none⟩) k c s = some ⟨b, o', none⟩ := by
  by_cases h : c = k
  · exact ⟨o, by unfold cutA; rw [if_pos h]⟩
  · exact ⟨_, cutA_pos h⟩
def clSem (ts : Array TypeId) (ty : TypeId) (args : Array Value) : Sem Value := Builtin.clear_ ts ty args
theorem cl_fold (ts : Array TypeId) (ty : TypeId) (args : Array Value) : Builtin.clear_ ts ty args = clSem ts ty args := rfl
section
variable {α : Type} {E : El α} {T : TypeId} {w w' : World} {base n c : Nat} {A : Option Addr} {l : List α}
theorem OwnE.del {P : Program} (t ty : TypeId) (i : TypeInfo) (ht : P.underlying t = some (.slice T)) (hi : P.info? T = some i) (hs : i.size = E.size) (h : OwnE E T w base A n c l) (k : Nat) (hk : k < n) :
    ∃ g w1, A = some ⟨g, 0, none⟩ ∧ base ≤ g ∧ g < w.heap.size ∧ (appSem #[t, t] ty #[.slice (cutA A 0 c E.size) k c, .slice (cutA A (k + 1) c E.size) (n - (k + 1)) (c - (k + 1))]).run P w = .ok (.slice A (n - 1) c) w1 ∧ OwnE E T w1 base A (n - 1) c (l.eraseIdx k) ∧ w.grownBy w1 (some g) ∧ w1.heap.size = w.heap.size := by
  have hlen := h.len
  have hcap := h.elemsIn.cap
  obtain ⟨g, cur, vs, rfl, hg, hh, hnc, hm, hc, hx, hr, hvl⟩ := h.row (by omega)
  have hgl := (Array.getElem?_eq_some_iff.1 hh).1
  have hsz : 0 < E.size := E.pos
  have hall := hr.all
  have hnl : (vs.drop (k + 1)).flatten.length = (n - (k + 1)) * E.size := by rw [(hr.drop (k + 1)).flat (fun _ _ => E.len)]; simp [hlen]
  have hmul : k * E.size + (n - (k + 1)) * E.size = (n - 1) * E.size := by rw [← Nat.add_mul]; congr 1; omega
  have hle1 : (n - 1) * E.size ≤ c * E.size := Nat.mul_le_mul_right _ (by omega)
  have hkn : k * E.size ≤ n * E.size := Nat.mul_le_mul_right _ (by omega)
  obtain ⟨o', ho'⟩ := cutA_some g 0 (k + 1) c E.size
  have hsrc : ∀ j u, (vs.drop (k + 1)).flatten[j]? = some u → w.cell? ((⟨g, o', none⟩ : Addr).add j) = some u := by
    intro j u hu
    have hpos : 0 < (n - (k + 1)) * E.size := by rw [← hnl]; exact Nat.lt_of_le_of_lt (Nat.zero_le _) (List.getElem?_eq_some_iff.1 hu).1
    have hne : c ≠ k + 1 := by
      rintro rfl
      have : n - (k + 1) = 0 := by omega
      rw [this] at hpos; simp at hpos
    rw [cutA_pos hne] at ho'
    injection ho' with ho'
    injection ho' with _ ho' _
    rw [add_none, ← ho', Nat.zero_add]
    rw [flat_drop vs hall, List.getElem?_drop, ← hx, List.getElem?_take] at hu
    split at hu
    · simp only [World.cell?, hh]
      simpa using hu
    · cases hu
  have hrun := run_append_room (P := P) w t ty T i ht hi g k c cur hh ⟨g, o', none⟩ (n - (k + 1)) (c - (k + 1)) (vs.drop (k + 1)).flatten (by rw [hs]; exact hnl) hsrc (fun u hu => Rel2.one (hr.drop (k + 1)) u hu) (by omega) (by rw [hs, hnl, hmul, hc]; exact hle1)
  rw [hs, hnl, hmul, show k + (n - (k + 1)) = n - 1 by omega] at hrun
  refine ⟨g, _, rfl, hg, hgl, by rw [cutA_zero, ho']; exact hrun, ?_, grown_setRow w g _, sz_setRow _ _ _⟩
  have hrel : Rel2 (E.rel (hide w g) w.heap.size) (vs.eraseIdx k) (l.eraseIdx k) := by
    rw [List.eraseIdx_eq_take_drop_succ, List.eraseIdx_eq_take_drop_succ]
    exact Rel2.append (hr.drop (k + 1)) (hr.take k)
  have htk : (vs.take k).flatten = cur.toList.take (k * E.size) := by rw [flat_take vs hall, ← hx, List.take_take, Nat.min_eq_left hkn]
  have hcl : cur.toList.length = c * E.size := by simpa using hc
  refine OwnE.mk' (vs := vs.eraseIdx k) hg (setRow_heap w g _ _ T _ hh) (by omega) hm ?_ ?_ (hrel.imp fun _ _ hq => by rw [sz_setRow]; exact E.sub (hide_setRow _ _ _ _) hq) (by rw [List.length_eraseIdx_of_lt (by omega), hlen])
  · simp only [List.length_append, List.length_take, List.length_drop, hnl, hcl]
    omega
  · rw [List.eraseIdx_eq_take_drop_succ, List.flatten_append, htk, List.take_append_of_le_length (by simp only [List.length_append, List.length_take, hnl, hcl]; omega), List.take_of_length_le (by simp only [List.length_append, List.length_take, hnl, hcl]; omega)]
/-- cells behind the row's length are wiped -/
theorem OwnE.wipe {P : Program} (t ty : TypeId) (i : TypeInfo) (z : Value) (ht : P.underlying t = some (.slice T)) (hi : P.info? T = some i) (hz : i.zero = some z) (hzs : z.cells.size = E.size) (hz1 : ∀ v ∈ z.cells.toList, v.oneCell' = true) (h : OwnE E T w base A n c l) (hn : n < c) (q : Nat) (hq : q = 1) :
    ∃ g w1, A = some ⟨g, 0, none⟩ ∧ (clSem #[t] ty #[.slice (cutA A n c E.size) q (c - n)]).run P w = .ok (.tuple #[]) w1 ∧ OwnE E T w1 base A n c l ∧ w.grownBy w1 (some g) ∧ w1.heap.size = w.heap.size := by
  subst hq
  have hlen := h.len
  obtain ⟨g, cur, vs, rfl, hg, hh, hnc, hm, hc, hx, hr, hvl⟩ := h.row (by omega)
  have hsz : 0 < E.size := E.pos
  have hzc : (Builtin.zeroCells z.cells 1).toList.length = E.size := by simp [Builtin.zeroCells, hzs]
  have hzo : ∀ v ∈ (Builtin.zeroCells z.cells 1).toList, v.oneCell' = true := by
    intro v hv
    simp only [Builtin.zeroCells, Array.toList_map, List.mem_map, Array.mem_toList_iff] at hv
    obtain ⟨j, hj, rfl⟩ := hv
    have hj2 : j < 1 * z.cells.size := by simpa using hj
    rw [getElem!_pos z.cells (j % z.cells.size) (Nat.mod_lt _ (by omega))]
    exact hz1 _ (by rw [Array.mem_toList_iff]; exact Array.getElem_mem _)
  have hle : n * E.size + E.size ≤ c * E.size := by rw [← Nat.succ_mul]; exact Nat.mul_le_mul_right _ hn
  have hst := run_storeCells_at P g (n * E.size) T (Builtin.zeroCells z.cells 1).toList 0 cur w hh (by rw [hc, hzc]; omega) hzo
  simp only [Nat.add_zero] at hst
  refine ⟨g, _, rfl, ?_, ?_, grown_setRow w g (cur.toList.take (n * E.size) ++ (Builtin.zeroCells z.cells 1).toList ++ cur.toList.drop (n * E.size + (Builtin.zeroCells z.cells 1).toList.length)).toArray, sz_setRow _ _ _⟩
  · rw [cutA_pos (by omega), Nat.zero_add]
    simp [clSem, Builtin.clear_, run_underlying ht, zeroValue, typeInfo, hi, hz, hst]
  · have hcl : cur.toList.length = c * E.size := by simpa using hc
    refine OwnE.mk' (vs := vs) hg (setRow_heap w g _ _ T _ hh) hnc hm ?_ ?_ (hr.imp fun _ _ hq => by rw [sz_setRow]; exact E.sub (hide_setRow _ _ _ _) hq) hlen
    · simp only [List.length_append, List.length_take, List.length_drop, hzc, hcl]
      omega
    · rw [List.append_assoc, List.take_append_of_le_length (by simp only [List.length_take, hcl]; omega), List.take_take, Nat.min_self, hx]
end
end Go.Proofs.Ytcfieofcnpalgaa
end
section
namespace Go.Proofs.Ytcfieofcnpalgaa
open Go.RowKit
set_option linter.unusedVariables false
theorem run_copy_k {P : Program} {w : World} (dT sT ty elem : TypeId) (size : Nat) (hu : P.underlying dT = some (.slice elem)) (hsz : (P.info? elem).map (·.size) = some size)
    {g off dLen dCap : Nat} {cur : Array Value} {t : TypeId} (hg : w.heap[g]? = some (.cells cur t (0, 0))) {a : Addr} {sLen sCap : Nat} {cs : List Value} (hn : cs.length = Nat.min sLen dLen * size)
    (hsrc : ∀ j v, cs[j]? = some v → w.cell? (a.add j) = some v) (hfit : off + cs.length ≤ cur.size) (h1 : ∀ v ∈ cs, v.oneCell' = true) :
    (cpSem #[dT, sT] ty #[.slice (some ⟨g, off, none⟩) dLen dCap, .slice (some a) sLen sCap]).run P w = .ok (.int .i64 (Nat.min sLen dLen : Nat)) (w.setRow g (overV cur.toList off cs).toArray) := by
  have hl := run_loadCells_list (P := P) w a cs hsrc
  have hst := run_storeCells_at P g off t cs 0 cur w hg (by simpa using hfit) h1
  simp only [Nat.add_zero] at hst
  have hov : cur.toList.take off ++ cs ++ cur.toList.drop (off + cs.length) = overV cur.toList off cs := by simp [overV]
  rw [hov] at hst
  cases hq : P.info? elem with
  | none => simp [hq] at hsz
  | some i =>
    have hi : i.size = size := by simpa [hq] using hsz
    simp [cpSem, Builtin.copy_, run_underlying hu, Builtin.lenOf, Builtin.firstCells, sizeOf, typeInfo, hq, hi, ← hn, hl, hst, goInt]
theorem over_mid (p m q s : List Value) (h : m.length = s.length) : overV (p ++ (m ++ q)) p.length s = p ++ (s ++ q) := by
  have := overV_shift p (m ++ q) s 0
  rw [Nat.add_zero] at this
  rw [this]
  unfold overV
  rw [List.take_zero, List.nil_append, Nat.zero_add, ← h, List.drop_left]
section
variable {α : Type} {E : El α} {T : TypeId} {w : World} {base n c : Nat} {A : Option Addr} {l : List α}
theorem OwnE.ins {P : Program} (t tn ty ti : TypeId) (i : TypeInfo) (z : Value) (bytes : Nat) (ht : P.underlying t = some (.slice T)) (htn : P.underlying tn = some (.int .i64)) (hi : P.info? T = some i) (hz : i.zero = some z) (hs : i.size = E.size) (hby : i.bytes = bytes) (hzs : z.cells.size = E.size)
    (h : OwnE E T w base A n c l) (k : Nat) (hk : k < n) (hc : c = n) (hn : n ≤ 100000) (hb8 : bytes ≤ 1000) {b o cv : Nat} {x : α} (hv : ElemsIn E (hid A w) w w.heap.size (some ⟨b, o, none⟩) 1 cv [x]) :
    ∃ cap wA wB wC, n + 1 ≤ cap ∧ cap ≤ maxLen ∧ (appSem #[t, tn] ty #[.slice (cutA A 0 c E.size) k c, .int .i64 ((n + 1 - k : Nat) : Int)]).run P w = .ok (.slice (some ⟨w.heap.size, 0, none⟩) (n + 1) cap) wA ∧
      (cpSem #[t, t] ti #[.slice (cutA (some ⟨w.heap.size, 0, none⟩) k cap E.size) (n + 1 - k) (cap - k), .slice (some ⟨b, o, none⟩) 1 cv]).run P wA = .ok (.int .i64 1) wB ∧
      (cpSem #[t, t] ti #[.slice (cutA (some ⟨w.heap.size, 0, none⟩) (k + 1) cap E.size) (n - k) (cap - (k + 1)), .slice (cutA A k c E.size) (n - k) (c - k)]).run P wB.drew = .ok (.int .i64 ((n - k : Nat) : Int)) wC ∧
      OwnE E T wC w.heap.size (some ⟨w.heap.size, 0, none⟩) (n + 1) cap (l.take k ++ x :: l.drop k) ∧ Below w.heap.size w wC ∧ wC.heap.size = w.heap.size + 1 := by
  subst hc
  have hlen := h.len
  obtain ⟨g, cur, vs, rfl, hg, hh, hnc, hm, hcs, hx, hr, hvl⟩ := h.row (by omega)
  have hgl := (Array.getElem?_eq_some_iff.1 hh).1
  have hall := hr.all
  have hsz : 0 < E.size := E.pos
  obtain ⟨vv, hrv, hlv, -, -, hxv⟩ := hv
  obtain ⟨b', o', e, hbl, hcv⟩ := hxv (by omega)
  cases e
  have hvv : vv.flatten.length = E.size := by rw [hrv.flat (fun _ _ => E.len)]; simp
  have hcell : ∀ m j u, (vs.drop m).flatten[j]? = some u → w.cell? ⟨g, m * E.size + j, none⟩ = some u := by
    intro m j u hu
    rw [flat_drop vs hall, List.getElem?_drop, ← hx, List.getElem?_take] at hu
    split at hu
    · simp only [World.cell?, hh]
      simpa using hu
    · cases hu
  have hol : (vs.take k).flatten.length = k * E.size := by rw [(hr.take k).flat (fun _ _ => E.len), List.length_take, hlen, Nat.min_eq_left (by omega)]
  have hdl : (vs.drop k).flatten.length = (c - k) * E.size := by rw [(hr.drop k).flat (fun _ _ => E.len)]; simp [hlen]
  have hold := run_firstCells_some (P := P) w.drew i.size k ⟨g, 0, none⟩ k c (vs.take k).flatten (by rw [hs]; exact hol) (by
    intro j u hu
    rw [add_none, Nat.zero_add]
    show w.cell? _ = _
    have := hcell 0 j u (by
      rw [List.drop_zero]
      rw [flat_take vs hall, List.getElem?_take] at hu
      split at hu
      · exact hu
      · cases hu)
    rwa [Nat.zero_mul, Nat.zero_add] at this)
  have happ := Lib.run_append_grow_zeros (P := P) w t tn ty T i z .i64 .i64 ht htn hi hz (some ⟨g, 0, none⟩) k c (vs.take k).flatten hold (c + 1 - k) (by omega) (by omega) (by omega) (by omega) (by rw [hby]; exact Nat.le_trans (Nat.mul_le_mul (show c + 1 - k ≤ 100001 by omega) hb8) (by decide)) (growslice_fits (by omega) (by rw [hby]; exact Nat.le_trans (Nat.mul_le_mul (show k + (c + 1 - k) ≤ 100001 by omega) hb8) (by decide)))
  rw [show k + (c + 1 - k) = c + 1 by omega] at happ
  have hge := grownCap_ge w (c + 1) c T
  have hle := grownCap_le_maxLen w (c + 1) c T (by unfold maxLen; omega)
  generalize grownCap w (c + 1) c T = cap at happ hge hle
  generalize hZ : Builtin.zeroCells z.cells (c + 1 - k) ++ Builtin.zeroCells z.cells (cap - (c + 1)) = Z at happ
  rw [Array.append_assoc, hZ] at happ
  have hZl : Z.toList.length = (cap - k) * E.size := by
    rw [← hZ]
    simp only [Array.toList_append, List.length_append, Array.length_toList, size_zeroCells, hzs]
    rw [← Nat.add_mul]; congr 1; omega
  obtain ⟨zl, hzl⟩ : ∃ zl, Z.toList = zl := ⟨_, rfl⟩
  rw [hzl] at hZl
  have hrow : (vs.take k).flatten.toArray ++ Z = ((vs.take k).flatten ++ zl).toArray := by rw [← hzl]; simp
  rw [hrow] at happ
  clear hrow hZ hzl
  -- the second part of the new row
  have hm1 : (cap - k) * E.size = E.size + ((c - k) * E.size + (cap - (c + 1)) * E.size) := by
    rw [show cap - k = 1 + ((c - k) + (cap - (c + 1))) by omega, Nat.add_mul, Nat.add_mul, Nat.one_mul]
  obtain ⟨z1, z2, z3, rfl, hz1, hz2, hz3⟩ : ∃ z1 z2 z3 : List Value, zl = z1 ++ (z2 ++ z3) ∧ z1.length = E.size ∧ z2.length = (c - k) * E.size ∧ z3.length = (cap - (c + 1)) * E.size :=
    ⟨zl.take E.size, (zl.drop E.size).take ((c - k) * E.size), (zl.drop E.size).drop ((c - k) * E.size), by rw [List.take_append_drop, List.take_append_drop], by simp; omega, by simp; omega, by simp; omega⟩
  have hkc : k * E.size + (cap - k) * E.size = cap * E.size := by rw [← Nat.add_mul]; congr 1; omega
  have hA : (w.drew.alloc (.cells ((vs.take k).flatten ++ (z1 ++ (z2 ++ z3))).toArray T)).heap[w.heap.size]? = some (.cells ((vs.take k).flatten ++ (z1 ++ (z2 ++ z3))).toArray T (0, 0)) := heap_alloc_new w.drew _
  generalize hwA : w.drew.alloc (.cells ((vs.take k).flatten ++ (z1 ++ (z2 ++ z3))).toArray T) = wA at happ hA
  have hbA : Below w.heap.size w wA := by rw [← hwA]; exact ((bsame w).drew).alloc (by simp) _
  have hzA : wA.heap.size = w.heap.size + 1 := by rw [← hwA]; simp
  have hcpB := run_copy_k (P := P) (w := wA) t t ti T E.size ht (by rw [hi]; simp [hs]) (g := w.heap.size) (off := k * E.size) (dLen := c + 1 - k) (dCap := cap - k) hA (a := ⟨b, o, none⟩) (sLen := 1) (sCap := cv) (cs := vv.flatten) (by rw [hvv, show Nat.min 1 (c + 1 - k) = 1 from Nat.min_eq_left (by omega), Nat.one_mul])
    (by intro j u hu; rw [add_none]; exact (hbA.cell (p := ⟨b, o + j, none⟩) hbl).trans (hcv j u hu)) (by simp only [List.size_toArray, List.length_append, hol, hz1, hvv]; omega) (Rel2.one hrv)
  rw [show Nat.min 1 (c + 1 - k) = 1 from Nat.min_eq_left (by omega)] at hcpB
  have eB : overV ((vs.take k).flatten ++ (z1 ++ (z2 ++ z3))) (k * E.size) vv.flatten = ((vs.take k).flatten ++ vv.flatten) ++ (z2 ++ z3) := by
    have := over_mid (vs.take k).flatten z1 (z2 ++ z3) vv.flatten (by rw [hz1, hvv])
    rw [hol] at this
    rw [this, List.append_assoc]
  rw [show (((vs.take k).flatten ++ (z1 ++ (z2 ++ z3))).toArray).toList = (vs.take k).flatten ++ (z1 ++ (z2 ++ z3)) from by simp, eB] at hcpB
  have hB := setRow_heap wA w.heap.size _ (((vs.take k).flatten ++ vv.flatten) ++ (z2 ++ z3)).toArray T _ hA
  have hbB : Below w.heap.size w (wA.setRow w.heap.size (((vs.take k).flatten ++ vv.flatten) ++ (z2 ++ z3)).toArray) := below_setRow hbA (Nat.le_refl _) _
  have hzB : (wA.setRow w.heap.size (((vs.take k).flatten ++ vv.flatten) ++ (z2 ++ z3)).toArray).heap.size = w.heap.size + 1 := (sz_setRow _ _ _).trans hzA
  generalize wA.setRow w.heap.size (((vs.take k).flatten ++ vv.flatten) ++ (z2 ++ z3)).toArray = wB at hcpB hB hbB hzB
  have hlp : ((vs.take k).flatten ++ vv.flatten).length = (k + 1) * E.size := by rw [List.length_append, hol, hvv, Nat.add_mul, Nat.one_mul]
  have hcpC := run_copy_k (P := P) (w := wB.drew) t t ti T E.size ht (by rw [hi]; simp [hs]) (g := w.heap.size) (off := (k + 1) * E.size) (dLen := c - k) (dCap := cap - (k + 1)) (cur := (((vs.take k).flatten ++ vv.flatten) ++ (z2 ++ z3)).toArray) hB (a := ⟨g, k * E.size, none⟩) (sLen := c - k) (sCap := c - k) (cs := (vs.drop k).flatten) (by rw [hdl, show Nat.min (c - k) (c - k) = c - k from Nat.min_self _])
    (by intro j u hu; rw [add_none]; exact (hbB.cell (p := ⟨g, k * E.size + j, none⟩) hgl).trans (hcell k j u hu)) (by
      have : (k + 1) * E.size + (c - k) * E.size ≤ (k + 1) * E.size + ((c - k) * E.size + z3.length) := by omega
      simp only [List.size_toArray, List.length_append, hz2, hdl] at *
      omega) (Rel2.one (hr.drop k))
  rw [show Nat.min (c - k) (c - k) = c - k from Nat.min_self _] at hcpC
  have eC : overV (((vs.take k).flatten ++ vv.flatten) ++ (z2 ++ z3)) ((k + 1) * E.size) (vs.drop k).flatten = ((vs.take k).flatten ++ vv.flatten) ++ ((vs.drop k).flatten ++ z3) := by
    have := over_mid ((vs.take k).flatten ++ vv.flatten) z2 z3 (vs.drop k).flatten (by rw [hz2, hdl])
    rw [hlp] at this
    exact this
  rw [show ((((vs.take k).flatten ++ vv.flatten) ++ (z2 ++ z3)).toArray).toList = ((vs.take k).flatten ++ vv.flatten) ++ (z2 ++ z3) from by simp, eC] at hcpC
  refine ⟨cap, wA, wB, _, hge, hle, by rw [cutA_zero]; exact happ, by rw [cutA_pos (by omega), Nat.zero_add]; exact hcpB, by rw [cutA_pos (by omega), cutA_pos (by omega), Nat.zero_add, Nat.zero_add]; exact hcpC, ?_, below_setRow (hbB.drew) (Nat.le_refl _) _, by rw [sz_setRow]; exact hzB⟩
  have hsubC : Sub w.heap.size (hide w g) (hide (wB.drew.setRow w.heap.size (((vs.take k).flatten ++ vv.flatten) ++ ((vs.drop k).flatten ++ z3)).toArray) w.heap.size) :=
    (sub_hide _ w g).trans ((sub_below (below_setRow (hbB.drew) (Nat.le_refl _) _)).trans (sub_hide_lt _ (Nat.le_refl _)))
  have hup : w.heap.size ≤ (wB.drew.setRow w.heap.size (((vs.take k).flatten ++ vv.flatten) ++ ((vs.drop k).flatten ++ z3)).toArray).heap.size := by rw [sz_setRow]; show _ ≤ wB.heap.size; omega
  have hrl : Rel2 (E.rel (hide w g) w.heap.size) (vs.take k ++ (vv ++ vs.drop k)) (l.take k ++ x :: l.drop k) := Rel2.append (Rel2.append (hr.drop k) hrv) (hr.take k)
  have hcl : (c + 1) * E.size = (k + 1) * E.size + (c - k) * E.size := by rw [← Nat.add_mul]; congr 1; omega
  have hcap2 : cap * E.size = (c + 1) * E.size + (cap - (c + 1)) * E.size := by rw [← Nat.add_mul]; congr 1; omega
  refine OwnE.mk' (vs := vs.take k ++ (vv ++ vs.drop k)) (Nat.le_refl _) (setRow_heap wB.drew w.heap.size _ _ T _ hB) hge hle ?_ ?_ (hrl.imp fun _ _ hq => E.more hup (E.sub hsubC hq)) (by simp [hlen]; omega)
  · rw [List.length_append, hlp, List.length_append, hdl, hz3, hcap2, hcl]; omega
  · rw [← List.append_assoc, List.take_append_of_le_length (by rw [List.length_append, hlp, hdl, hcl]; exact Nat.le_refl _), List.take_of_length_le (by rw [List.length_append, hlp, hdl, hcl]; exact Nat.le_refl _)]
    simp [List.append_assoc]
end
end Go.Proofs.Ytcfieofcnpalgaa
end
section
namespace Go.Proofs.Ytcfieofcnpalgaa
open Go.RowKit
set_option linter.unusedVariables false
section
variable {α : Type} {E : El α} {T : TypeId} {w : World} {base n c : Nat} {A : Option Addr} {l : List α}
end
end Go.Proofs.Ytcfieofcnpalgaa
end
section
namespace Go.Proofs.Ytcfieofcnpalgaa
open Go.RowKit
set_option linter.unusedVariables false
theorem own_grown {w w' : World} {base : Nat} {e : TypeId} {size n g : Nat} {A : Option Addr} {c : Nat} {xs : List Value} (h : w.ownsRow base e size (.slice A n c) n xs) (hg : w.grownBy w' (some g)) (hne : ∀ a, A = some a → a.block ≠ g) : w'.ownsRow base e size (.slice A n c) n xs := by
  obtain ⟨h1, h2⟩ := h
  refine ⟨h1, ?_⟩
  rcases h2 with h2 | ⟨g', cap, cur, hv, hb, hh, r⟩
  · exact .inl h2
  · cases hv
    exact .inr ⟨g', c, cur, rfl, hb, (hg.block g' (Array.getElem?_eq_some_iff.1 hh).1 (by intro e2; injection e2 with e2; exact hne _ rfl e2)).trans hh, r⟩
section
variable {α : Type} {E : El α} {T : TypeId} {w w' : World} {base n c g : Nat} {A : Option Addr} {l : List α} {cs : Array Value}
end
theorem Str.grownO {w w' : World} {b : Nat} {cs : Array Value} {ob : Option Nat} (h : Str w b cs) (hg : w.grownBy w' ob) (hne : ob ≠ some b) : Str w' b cs := by
  have hl := h.lt
  obtain ⟨t, h⟩ := h
  exact ⟨t, (hg.block b hl (fun e => hne e.symm)).trans h⟩
end Go.Proofs.Ytcfieofcnpalgaa
end
