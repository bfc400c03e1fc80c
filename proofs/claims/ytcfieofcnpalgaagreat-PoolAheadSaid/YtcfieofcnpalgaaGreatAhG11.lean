/-
  Parts of the proof of PoolAhead.
-/
import Derived.Test.YtcfieofcnpalgaaGreatAhG10
import Derived.Test.YtcfieofcnpalgaaGreatAhG2
import Derived.Test.YtcfieofcnpalgaaGreatAhG9
import Derived.Test.YtcfieofcnpalgaaGreatAhG4
import Derived.RegionTactic
import Derived.Laws.Pointers
import Derived.LaidEqlPtr
section
namespace Go.Proofs.YtcfieofcnpalgaaGreat.CrcP

/-- what a bit's step makes of a sum -/
def bit (v : Nat) : Nat := if v % 2 = 1 then v / 2 ^^^ 2197175160 else v / 2
def bits : Nat → Nat → Nat
  | 0, v => v
  | k + 1, v => bits k (bit v)
/-- eight steps -/
def step8 (v : Nat) : Nat := bits 8 v
/-- a byte's round -/
def round (v : Nat) (c : UInt8) : Nat := step8 (v ^^^ c.toNat)
def more (sum : Nat) (l : List UInt8) : Nat := 4294967295 - l.foldl round (4294967295 - sum)
/-- the sum of bytes -/
def sum (l : List UInt8) : Nat := more 0 l

theorem bit_lt (v : Nat) (h : v < 4294967296) : bit v < 4294967296 := by
  unfold bit
  split
  · have : v / 2 ^^^ 2197175160 < 2 ^ 32 := Nat.xor_lt_two_pow (by omega) (by omega)
    omega
  · omega
theorem bits_lt (k v : Nat) (h : v < 4294967296) : bits k v < 4294967296 := by
  induction k generalizing v with
  | zero => exact h
  | succ k ih => exact ih _ (bit_lt v h)
theorem step8_lt (v : Nat) (h : v < 4294967296) : step8 v < 4294967296 := bits_lt 8 v h
theorem xor_byte_lt (v : Nat) (h : v < 4294967296) (c : UInt8) : v ^^^ c.toNat < 4294967296 := by
  have hc := c.toNat_lt
  have : v ^^^ c.toNat < 2 ^ 32 := Nat.xor_lt_two_pow (by omega) (by omega)
  omega
theorem round_lt (v : Nat) (h : v < 4294967296) (c : UInt8) : round v c < 4294967296 := step8_lt _ (xor_byte_lt v h c)
theorem fold_lt (l : List UInt8) (v : Nat) (h : v < 4294967296) : l.foldl round v < 4294967296 := by
  induction l generalizing v with
  | nil => exact h
  | cons c l ih => exact ih _ (round_lt v h c)

theorem xor_div2 (a b : Nat) : (a ^^^ b) / 2 = a / 2 ^^^ b / 2 := by
  have := Nat.shiftRight_xor_distrib (a := a) (b := b) (i := 1)
  simpa [Nat.shiftRight_eq_div_pow] using this
theorem xor_mod2 (a b : Nat) : (a ^^^ b) % 2 = (a + b) % 2 := by
  have h : (a ^^^ b) % 2 = a % 2 ^^^ b % 2 := by
    have := Nat.xor_mod_two_pow (a := a) (b := b) (n := 1)
    simpa using this
  rw [h]
  have ha : a % 2 = 0 ∨ a % 2 = 1 := by omega
  have hb : b % 2 = 0 ∨ b % 2 = 1 := by omega
  rcases ha with ha | ha <;> rcases hb with hb | hb <;> rw [ha, hb] <;> simp <;> omega
/-- a step is linear -/
theorem bit_xor (a b : Nat) : bit (a ^^^ b) = bit a ^^^ bit b := by
  unfold bit
  rw [xor_div2, xor_mod2]
  generalize a / 2 = x
  generalize b / 2 = y
  have ha : a % 2 = 0 ∨ a % 2 = 1 := by omega
  have hb : b % 2 = 0 ∨ b % 2 = 1 := by omega
  rcases ha with ha | ha <;> rcases hb with hb | hb
  · rw [if_neg (by omega), if_neg (by omega), if_neg (by omega)]
  · rw [if_pos (by omega), if_neg (by omega), if_pos (by omega), Nat.xor_assoc]
  · rw [if_pos (by omega), if_pos (by omega), if_neg (by omega), Nat.xor_assoc, Nat.xor_assoc, Nat.xor_comm y]
  · rw [if_neg (by omega), if_pos (by omega), if_pos (by omega), Nat.xor_assoc, Nat.xor_comm 2197175160, Nat.xor_assoc, Nat.xor_self, Nat.xor_zero]
theorem bits_xor (k a b : Nat) : bits k (a ^^^ b) = bits k a ^^^ bits k b := by
  induction k generalizing a b with
  | zero => rfl
  | succ k ih => show bits k (bit (a ^^^ b)) = _; rw [bit_xor, ih]; rfl
theorem step8_xor (a b : Nat) : step8 (a ^^^ b) = step8 a ^^^ step8 b := bits_xor 8 a b
theorem bit_double (v : Nat) : bit (2 * v) = v := by
  unfold bit
  rw [if_neg (by omega)]
  omega
theorem step8_shift (v : Nat) : step8 (256 * v) = v := by
  show bit (bit (bit (bit (bit (bit (bit (bit (256 * v)))))))) = v
  rw [show 256 * v = 2 * (2 * (2 * (2 * (2 * (2 * (2 * (2 * v))))))) by omega, bit_double, bit_double, bit_double, bit_double, bit_double, bit_double, bit_double, bit_double]
theorem split_low (v : Nat) : v = 256 * (v / 256) ^^^ v % 256 := by
  have h : 2 ^ 8 * (v / 2 ^ 8) + v % 2 ^ 8 = 2 ^ 8 * (v / 2 ^ 8) ^^^ v % 2 ^ 8 := by
    apply Nat.eq_of_testBit_eq
    intro i
    rw [Nat.testBit_two_pow_mul_add _ (Nat.mod_lt _ (by decide)), Nat.testBit_xor, Nat.testBit_two_pow_mul]
    by_cases hi : i < 8
    · have h8 : ¬ 8 ≤ i := by omega
      simp [hi, h8]
    · have h0 : (v % 2 ^ 8).testBit i = false := Nat.testBit_lt_two_pow (Nat.lt_of_lt_of_le (Nat.mod_lt _ (by decide)) (Nat.pow_le_pow_right (by decide) (by omega)))
      simp [hi, h0]
      omega
  have h2 := Nat.div_add_mod v (2 ^ 8)
  have h3 : (2 : Nat) ^ 8 = 256 := by decide
  rw [h3] at h h2
  omega
/-- a round by a table -/
theorem round_table (v : Nat) (c : UInt8) : round v c = v / 256 ^^^ step8 (v % 256 ^^^ c.toNat) := by
  unfold round
  have hv := split_low v
  conv => lhs; rw [hv, Nat.xor_assoc, step8_xor, step8_shift]
theorem sum_lt (l : List UInt8) : sum l < 4294967296 := by
  unfold sum more
  omega
end Go.Proofs.YtcfieofcnpalgaaGreat.CrcP
end
section
namespace Go.Proofs.YtcfieofcnpalgaaGreat.PageP

/-- a slot of a page, and the error's number -/
def slot (l : List UInt8) (i : Int) : Item × Int := if i < 0 ∨ 7 ≤ i then (SlotP.none, 2) else SlotP.get ((l.drop (32 + i.toNat * 64)).take 64)
/-- a page with its sum -/
def sealed (l : List UInt8) : List UInt8 := SlotP.over l 0 (BeP.parts 4 ((CrcP.sum (l.drop 4) : Nat) : Int))
theorem sealed_length (l : List UInt8) (hl : l.length = 512) : (sealed l).length = 512 := by
  unfold sealed
  rw [SlotP.over_length _ _ _ (by rw [BeP.parts_length]; omega)]
  exact hl
/-- all these are 0 -/
def allz (l : List UInt8) : Bool := l.all fun c => c == 0
theorem allz_succ (l : List UInt8) (k : Nat) (h : k < l.length) : allz (l.take (k + 1)) = (allz (l.take k) && (l[k] == 0)) := by
  unfold allz
  rw [List.take_succ_eq_append_getElem h, List.all_append]
  simp
theorem allz_no (l : List UInt8) (k : Nat) (h : k < l.length) (h0 : l[k] ≠ 0) : allz l = false := by
  unfold allz
  rw [List.all_eq_false]
  exact ⟨l[k], List.getElem_mem h, by simpa using h0⟩
/-- the first k slots are some -/
def slotsOk (l : List UInt8) : Nat → Bool
  | 0 => true
  | k + 1 => slotsOk l k && ((slot l (k : Int)).2 == 0)
theorem slotsOk_succ (l : List UInt8) (k : Nat) : slotsOk l (k + 1) = (slotsOk l k && ((slot l (k : Int)).2 == 0)) := rfl
def right (l : List UInt8) (no : Int) : Bool :=
  (NumP.val l 0 4 == ((CrcP.sum (l.drop 4) : Nat) : Int)) && ((NumP.val l 12 2 == no) && (allz ((l.drop 24).take 8) && (allz (l.drop 480) && slotsOk l 7)))
theorem right_eq (l : List UInt8) (no : Int) : right l no = ((NumP.val l 0 4 == ((CrcP.sum (l.drop 4) : Nat) : Int)) && ((NumP.val l 12 2 == no) && (allz ((l.drop 24).take 8) && (allz (l.drop 480) && slotsOk l 7)))) := rfl
def code (b : Bool) : Int := if b then 0 else 14
theorem slotsOk_bad (l : List UInt8) (k : Nat) (h : (slot l (k : Int)).2 ≠ 0) : ∀ n, k < n → slotsOk l n = false
  | 0, hn => by omega
  | n + 1, hn => by
    unfold slotsOk
    by_cases hk : k = n
    · subst hk
      rw [beq_eq_false_iff_ne.2 h]
      simp
    · rw [slotsOk_bad l k h n (by omega)]
      rfl
theorem right_bad (l : List UInt8) (no : Int) (k : Nat) (hk : k < 7) (h : (slot l (k : Int)).2 ≠ 0) : right l no = false := by
  unfold right
  rw [slotsOk_bad l k h 7 hk]
  simp
theorem sealed_eq (l : List UInt8) : sealed l = BeP.parts 4 ((CrcP.sum (l.drop 4) : Nat) : Int) ++ l.drop 4 := by
  unfold sealed SlotP.over
  rw [BeP.parts_length]
  rfl
end Go.Proofs.YtcfieofcnpalgaaGreat.PageP
end
section
namespace Go.Proofs.YtcfieofcnpalgaaGreat
set_option linter.unusedVariables false
/-- a page in memory -/
structure Fr where
  no : Int
  x : List UInt8
  dirty : Bool
  pins : Int
/-- a pool: its device, how far its log was forced, how many frames there may be, those that have a page -/
structure PoolX where
  D : DevX
  far : Int
  n : Int
  fs : List Fr
namespace PoolP
def lsn (x : List UInt8) : Int := NumP.val x 4 8
def find (fs : List Fr) (no : Int) : Option Nat := fs.findIdx? (fun f => f.no == no)
def use (fs : List Fr) (i : Nat) (f : Fr) : List Fr := fs.eraseIdx i ++ [f]
def fits (X : DevX) (no : Int) : Bool := decide (0 ≤ no) && decide (no < (X.safe.length : Nat))
def force (far n : Int) : Int := if far < n then n else far
/-- a page is written -/
def write (s : PoolX) (f : Fr) : PoolX × Int :=
  ({ s with far := force s.far (lsn f.x), D := DevP.op s.D (fits s.D f.no) (DevP.wrote s.D f.no.toNat (PageP.sealed f.x)) }, DevP.err s.D (fits s.D f.no))
def writeAt (s : PoolX) (i : Nat) (f : Fr) : PoolX × Int :=
  if (write s f).2 = 0 then ({ (write s f).1 with fs := s.fs.set i { f with dirty := false } }, 0) else write s f
def victim (fs : List Fr) : Option Nat := fs.findIdx? (fun f => !decide (0 < f.pins))
/-- a frame is made free -/
def free (s : PoolX) : PoolX × Int :=
  if (s.fs.length : Int) < s.n then (s, 0) else
  match victim s.fs with
  | none => (s, 9)
  | some i => match s.fs[i]? with
    | none => (s, 9)
    | some f => if f.dirty then (if (writeAt s i f).2 = 0 then ({ (writeAt s i f).1 with fs := s.fs.eraseIdx i }, 0) else writeAt s i f) else ({ s with fs := s.fs.eraseIdx i }, 0)
end PoolP
end Go.Proofs.YtcfieofcnpalgaaGreat
end
section
namespace Go.Proofs.YtcfieofcnpalgaaGreat
set_option linter.unusedVariables false
namespace PoolP
def read (s : PoolX) (no : Int) : PoolX := { s with D := DevP.op s.D (fits s.D no) s.D }
def got (s : PoolX) (no : Int) : List UInt8 := DevP.read s.D no (fits s.D no)
/-- behind a frame's being made free: the page is read -/
def fetch (s : PoolX) (no : Int) : PoolX × (List UInt8 × Int) :=
  if ¬ DevP.err s.D (fits s.D no) = 0 then (read s no, (SlotP.zeros 512, DevP.err s.D (fits s.D no)))
  else if PageP.right (got s no) no then ({ read s no with fs := s.fs ++ [⟨no, got s no, false, 0⟩] }, (got s no, 0))
  else (read s no, (SlotP.zeros 512, 14))
def get (s : PoolX) (no : Int) : PoolX × (List UInt8 × Int) :=
  match find s.fs no with
  | some i => match s.fs[i]? with
    | some f => ({ s with fs := use s.fs i f }, (f.x, 0))
    | none => (s, (SlotP.zeros 512, 4))
  | none => if (free s).2 = 0 then fetch (free s).1 no else ((free s).1, (SlotP.zeros 512, (free s).2))
theorem find_some {fs : List Fr} {no : Int} {i : Nat} (h : find fs no = some i) : ∃ f, fs[i]? = some f ∧ f.no = no := by
  unfold find at h
  rw [List.findIdx?_eq_some_iff_getElem] at h
  obtain ⟨h1, h2, -⟩ := h
  exact ⟨_, List.getElem?_eq_getElem h1, by simpa using h2⟩
theorem get_some {s : PoolX} {no : Int} {i : Nat} {f : Fr} (h : find s.fs no = some i) (hf : s.fs[i]? = some f) : get s no = ({ s with fs := use s.fs i f }, (f.x, 0)) := by
  unfold get; rw [h]; simp only [hf]
theorem get_none {s : PoolX} {no : Int} (h : find s.fs no = none) : get s no = if (free s).2 = 0 then fetch (free s).1 no else ((free s).1, (SlotP.zeros 512, (free s).2)) := by
  unfold get; rw [h]
end PoolP
end Go.Proofs.YtcfieofcnpalgaaGreat
end
section
namespace Go.Proofs.YtcfieofcnpalgaaGreat
set_option linter.unusedVariables false
namespace PoolP
def set (s : PoolX) (no : Int) (x : List UInt8) : PoolX × Int := match find s.fs no with
  | none => (s, 5)
  | some i => match s.fs[i]? with
    | none => (s, 5)
    | some f => if NumP.val x 12 2 = no then ({ s with fs := s.fs.eraseIdx i ++ [{ f with x := x, dirty := true }] }, 0) else (s, 1)
def pin (s : PoolX) (no : Int) : PoolX × Int := match find s.fs no with
  | none => (s, 5)
  | some i => match s.fs[i]? with
    | none => (s, 5)
    | some f => ({ s with fs := s.fs.set i { f with pins := f.pins + 1 } }, 0)
def unpin (s : PoolX) (no : Int) : PoolX × Bool := match find s.fs no with
  | none => (s, false)
  | some i => match s.fs[i]? with
    | none => (s, false)
    | some f => if f.pins = 0 then (s, false) else ({ s with fs := s.fs.set i { f with pins := f.pins - 1 } }, true)
def blank (no : Int) : List UInt8 := SlotP.over (SlotP.zeros 512) 12 (BeP.parts 2 no)
def fresh (s : PoolX) (no : Int) : PoolX × Int := match find s.fs no with
  | some i => match s.fs[i]? with
    | none => (s, 5)
    | some f => ({ s with fs := s.fs.eraseIdx i ++ [{ f with x := blank no, dirty := true }] }, 0)
  | none => if no < 0 ∨ (s.D.safe.length : Int) ≤ no then (s, 2) else
    if (free s).2 = 0 then ({ (free s).1 with fs := (free s).1.fs ++ [⟨no, blank no, true, 0⟩] }, 0) else free s
section
variable {s : PoolX} {no : Int} {x : List UInt8} {i : Nat} {f : Fr}
theorem set_none (h : find s.fs no = none) : set s no x = (s, 5) := by unfold set; rw [h]
theorem set_some (h : find s.fs no = some i) (hf : s.fs[i]? = some f) : set s no x = if NumP.val x 12 2 = no then ({ s with fs := s.fs.eraseIdx i ++ [{ f with x := x, dirty := true }] }, 0) else (s, 1) := by unfold set; rw [h]; simp only [hf]
theorem pin_none (h : find s.fs no = none) : pin s no = (s, 5) := by unfold pin; rw [h]
theorem pin_some (h : find s.fs no = some i) (hf : s.fs[i]? = some f) : pin s no = ({ s with fs := s.fs.set i { f with pins := f.pins + 1 } }, 0) := by unfold pin; rw [h]; simp only [hf]
theorem unpin_none (h : find s.fs no = none) : unpin s no = (s, false) := by unfold unpin; rw [h]
theorem unpin_some (h : find s.fs no = some i) (hf : s.fs[i]? = some f) : unpin s no = if f.pins = 0 then (s, false) else ({ s with fs := s.fs.set i { f with pins := f.pins - 1 } }, true) := by unfold unpin; rw [h]; simp only [hf]
theorem fresh_some (h : find s.fs no = some i) (hf : s.fs[i]? = some f) : fresh s no = ({ s with fs := s.fs.eraseIdx i ++ [{ f with x := blank no, dirty := true }] }, 0) := by unfold fresh; rw [h]; simp only [hf]
theorem fresh_none (h : find s.fs no = none) : fresh s no = if no < 0 ∨ (s.D.safe.length : Int) ≤ no then (s, 2) else
    if (free s).2 = 0 then ({ (free s).1 with fs := (free s).1.fs ++ [⟨no, blank no, true, 0⟩] }, 0) else free s := by unfold fresh; rw [h]
end
end PoolP
end Go.Proofs.YtcfieofcnpalgaaGreat
end
section
namespace Go.Proofs.YtcfieofcnpalgaaGreat
set_option linter.unusedVariables false
namespace PageN
/-- a page: its sum, its LSN, its number, its note -/
def mk (s : List UInt8) (a no v : Int) : List UInt8 := s ++ (BeP.parts 8 a ++ (BeP.parts 2 no ++ (SlotP.zeros 2 ++ (BeP.parts 8 v ++ SlotP.zeros 488))))
theorem zeros_len (n : Nat) : (SlotP.zeros n).length = n := List.length_replicate
theorem mk_len {s : List UInt8} {a no v : Int} (hs : s.length = 4) : (mk s a no v).length = 512 := by
  unfold mk
  simp only [List.length_append, BeP.parts_length, zeros_len, hs]
theorem zeros_add (a b : Nat) : SlotP.zeros (a + b) = SlotP.zeros a ++ SlotP.zeros b := by simp [SlotP.zeros, List.replicate_append_replicate]
theorem parts0 : BeP.parts 8 0 = SlotP.zeros 8 := by decide +kernel
theorem blank_mk (no : Int) : PoolP.blank no = mk (SlotP.zeros 4) 0 no 0 := by
  unfold PoolP.blank mk
  rw [parts0, show SlotP.zeros 512 = SlotP.zeros 12 ++ SlotP.zeros 500 from zeros_add 12 500, SlotP.over_append _ _ _ _ (zeros_len 12), BeP.parts_length, SlotP.zeros_drop, show SlotP.zeros 12 = SlotP.zeros 4 ++ SlotP.zeros 8 from zeros_add 4 8, show SlotP.zeros (500 - 2) = SlotP.zeros 2 ++ (SlotP.zeros 8 ++ SlotP.zeros 488) from by rw [← zeros_add, ← zeros_add], List.append_assoc]
theorem note_mk {s : List UInt8} {a no v x : Int} (hs : s.length = 4) : SlotP.over (mk s a no v) 16 (BeP.parts 8 x) = mk s a no x := by
  unfold mk
  rw [show s ++ (BeP.parts 8 a ++ (BeP.parts 2 no ++ (SlotP.zeros 2 ++ (BeP.parts 8 v ++ SlotP.zeros 488)))) = (s ++ (BeP.parts 8 a ++ (BeP.parts 2 no ++ SlotP.zeros 2))) ++ (BeP.parts 8 v ++ SlotP.zeros 488) from by simp only [List.append_assoc], SlotP.over_append _ _ _ 16 (by simp only [List.length_append, BeP.parts_length, zeros_len, hs]), List.drop_left' (by rw [BeP.parts_length, BeP.parts_length])]
  simp only [List.append_assoc]
theorem lsn_mk {s : List UInt8} {a no v x : Int} (hs : s.length = 4) : SlotP.over (mk s a no v) 4 (BeP.parts 8 x) = mk s x no v := by
  unfold mk
  rw [SlotP.over_append _ _ _ 4 hs, List.drop_left' (by rw [BeP.parts_length, BeP.parts_length])]
theorem sealed_mk {s : List UInt8} {a no v : Int} (hs : s.length = 4) : PageP.sealed (mk s a no v) = mk (BeP.parts 4 ((CrcP.sum ((mk s a no v).drop 4) : Nat) : Int)) a no v := by
  rw [PageP.sealed_eq]
  congr 1
  unfold mk
  rw [List.drop_left' hs]
theorem val_parts {pre post : List UInt8} {k : Nat} {m : Int} (h0 : 0 ≤ m) (h1 : m < (256 ^ k : Nat)) (hk : k ≤ 7) : NumP.val (pre ++ (BeP.parts k m ++ post)) pre.length k = m := by
  have hl := BeP.parts_length k m
  have hp : 256 ^ k ≤ 256 ^ 7 := Nat.pow_le_pow_right (by omega) hk
  have h7 : 256 ^ 7 = 72057594037927936 := by decide
  have hu : BeP.u64 m = m.toNat := by unfold BeP.u64; omega
  unfold NumP.val
  rw [if_pos (by simp only [List.length_append, hl]; omega), List.drop_left, List.take_append_of_le_length (by omega), List.take_of_length_le (by omega), NumP.num_parts, hu, Nat.mod_eq_of_lt (by omega), NumP.toI_small _ (by omega)]
  omega
section
variable {s : List UInt8} {a no v : Int}
theorem mk_lsn (hs : s.length = 4) (ha : In64 a) : NumP.val (mk s a no v) 4 8 = a := by
  unfold mk
  have h := NumP.val_parts8 s (BeP.parts 2 no ++ (SlotP.zeros 2 ++ (BeP.parts 8 v ++ SlotP.zeros 488))) a ha
  rwa [hs] at h
theorem mk_no (hs : s.length = 4) (h0 : 0 ≤ no) (h1 : no < 65536) : NumP.val (mk s a no v) 12 2 = no := by
  unfold mk
  have h := val_parts (pre := s ++ BeP.parts 8 a) (post := SlotP.zeros 2 ++ (BeP.parts 8 v ++ SlotP.zeros 488)) (k := 2) h0 h1 (by omega)
  rw [List.length_append, hs, BeP.parts_length, List.append_assoc] at h
  exact h
theorem mk_note (hs : s.length = 4) (hv : In64 v) : NumP.val (mk s a no v) 16 8 = v := by
  unfold mk
  have h := NumP.val_parts8 (s ++ (BeP.parts 8 a ++ (BeP.parts 2 no ++ SlotP.zeros 2))) (SlotP.zeros 488) v hv
  simp only [List.length_append, hs, BeP.parts_length, zeros_len, List.append_assoc] at h
  exact h
theorem mk_drop (hs : s.length = 4) : (mk s a no v).drop 24 = SlotP.zeros 488 := by
  unfold mk
  rw [show s ++ (BeP.parts 8 a ++ (BeP.parts 2 no ++ (SlotP.zeros 2 ++ (BeP.parts 8 v ++ SlotP.zeros 488)))) = (s ++ (BeP.parts 8 a ++ (BeP.parts 2 no ++ (SlotP.zeros 2 ++ BeP.parts 8 v)))) ++ SlotP.zeros 488 from by simp only [List.append_assoc], List.drop_left' (by simp only [List.length_append, BeP.parts_length, zeros_len, hs])]
theorem zeros_all (n : Nat) : PageP.allz (SlotP.zeros n) = true := by
  unfold PageP.allz SlotP.zeros
  rw [List.all_eq_true]
  intro x hx
  rw [(List.mem_replicate.1 hx).2]
  rfl
theorem zeros_take (n m : Nat) (h : m ≤ n) : (SlotP.zeros n).take m = SlotP.zeros m := by
  unfold SlotP.zeros
  rw [List.take_replicate, Nat.min_eq_left h]
theorem slots_zero {l : List UInt8} (hl : l.drop 24 = SlotP.zeros 488) : ∀ k : Nat, k ≤ 7 → PageP.slotsOk l k = true
  | 0, _ => rfl
  | k + 1, h => by
    rw [PageP.slotsOk_succ, slots_zero hl k (by omega), Bool.true_and]
    unfold PageP.slot
    rw [if_neg (by omega), show 32 + (k : Int).toNat * 64 = 24 + (8 + k * 64) by simp; omega, ← List.drop_drop, hl, SlotP.zeros_drop, zeros_take _ _ (by omega), SlotP.get_zeros]
    rfl
theorem right_of {l : List UInt8} (hs : NumP.val l 0 4 = ((CrcP.sum (l.drop 4) : Nat) : Int)) (hn : NumP.val l 12 2 = no) (hl : l.drop 24 = SlotP.zeros 488) : PageP.right l no = true := by
  rw [PageP.right_eq, hs, hn, hl, slots_zero hl 7 (by omega), zeros_take _ _ (by omega), zeros_all, show l.drop 480 = SlotP.zeros 32 from by rw [show (480 : Nat) = 24 + 456 from rfl, ← List.drop_drop, hl, SlotP.zeros_drop], zeros_all]
  simp
theorem sealed_right (hs : s.length = 4) (h0 : 0 ≤ no) (h1 : no < 65536) : PageP.right (PageP.sealed (mk s a no v)) no = true := by
  have hk : (BeP.parts 4 ((CrcP.sum ((mk s a no v).drop 4) : Nat) : Int)).length = 4 := BeP.parts_length 4 _
  have hlt := CrcP.sum_lt ((mk s a no v).drop 4)
  refine right_of ?_ ?_ ?_
  · rw [PageP.sealed_eq, List.drop_left' hk]
    have h := val_parts (pre := []) (post := (mk s a no v).drop 4) (k := 4) (m := ((CrcP.sum ((mk s a no v).drop 4) : Nat) : Int)) (by omega) (by omega) (by omega)
    exact h
  · rw [sealed_mk hs]; exact mk_no hk h0 h1
  · rw [sealed_mk hs]; exact mk_drop hk
end
end PageN
end Go.Proofs.YtcfieofcnpalgaaGreat
end
section
namespace Go.Proofs.YtcfieofcnpalgaaGreat
open Go.RowKit
set_option linter.unusedVariables false
set_option linter.unusedSimpArgs false
/-- a pointer to a block -/
def PtrE : El Nat where
  size := 1
  pos := by decide
  rel w B vs x := vs = [.pointer (some ⟨x, 0, none⟩)]
  len := by rintro w B vs p rfl; rfl
  one := by rintro w B vs p rfl v hv; simp only [List.mem_singleton] at hv; subst hv; rfl
  sub := by rintro w w' B vs p hs h; exact h
  more := by rintro w B B' vs p hB h; exact h
theorem ptrE_pure : PtrE.Pure := fun _ _ _ _ _ _ h => h
theorem ptr_at {wr w : World} {B n c k : Nat} {A : Option Addr} {l : List Nat} (h : ElemsIn PtrE wr w B A n c l) (hk : k < n) : ∃ b o x, A = some ⟨b, o, none⟩ ∧ b < B ∧ l[k]? = some x ∧ w.cell? ⟨b, o + k, none⟩ = some (.pointer (some ⟨x, 0, none⟩)) := by
  have hl : k < l.length := by rw [h.len]; exact hk
  obtain ⟨b, o, vs, e, hb, rfl, hc⟩ := h.at_ hk
  exact ⟨b, o, _, e, hb, List.getElem?_eq_getElem hl, by simpa [PtrE] using hc 0 _ rfl⟩
theorem PtrE.lit {w wr : World} {b x : Nat} (hs : Str w b #[.pointer (some ⟨x, 0, none⟩)]) : ElemsIn PtrE wr w w.heap.size (some ⟨b, 0, none⟩) 1 1 [x] :=
  ⟨[[.pointer (some ⟨x, 0, none⟩)]], ⟨rfl, trivial⟩, rfl, Nat.le_refl _, by unfold maxLen; omega, fun _ => ⟨b, 0, rfl, hs.lt, fun j v hv => by
    have hj : j = 0 := by have := (List.getElem?_eq_some_iff.1 hv).1; simp at this; omega
    subst hj
    simp at hv
    subst hv
    exact hs.cell 0⟩⟩
namespace PoolW
def place (L : List Nat) (g : Nat) : Int := match L.findIdx? (fun x => x == g) with
  | some i => (i : Int)
  | none => -1
theorem infoPF : (Tryz.prog.info? 73).map (fun i => (i.zero, i.size, i.bytes)) = some (some (.pointer none), 1, 8) := by kernel_rfl
def frZ : Array Value := (([Value.int .i64 0] : List Value) ++ zerosV 512 ++ [Value.bool false, Value.int .i64 0]).toArray
theorem infoFr : (Tryz.prog.info? 77).map (fun i => (i.zero, i.size)) = some (some (.agg frZ), 515) := by kernel_rfl
theorem eql_ptr {w : World} {x y : Nat} {cx cy : Array Value} (hx : Str w x cx) (hy : Str w y cy) : (binOp .eql 73 (.pointer (some ⟨x, 0, none⟩)) (.pointer (some ⟨y, 0, none⟩))).run Tryz.prog w = .ok (.bool (x == y)) w := by
  obtain ⟨j, hj, hz⟩ : ∃ j, Tryz.prog.info? 77 = some j ∧ j.size = 515 := by
    have := infoFr
    cases hq : Tryz.prog.info? 77 with
    | none => simp [hq] at this
    | some i => simp [hq] at this; exact ⟨i, rfl, this.2⟩
  by_cases e : x = y
  · subst e
    rw [run_eql_ptr_same w ⟨x, 0, none⟩ Tryz.underlying73 hj]
    simp
  · obtain ⟨tx, h1⟩ := hx
    obtain ⟨ty, h2⟩ := hy
    rw [run_eql_ptr_other w Tryz.underlying73 hj (by omega) (by intro h; injection h with h; exact e h) h1 h2]
    simpa using e
def frC (f : Fr) : Array Value := (([.int .i64 f.no] : List Value) ++ f.x.map byteV ++ ([.bool f.dirty, .int .i64 f.pins] : List Value)).toArray
theorem frC_size {f : Fr} (h : f.x.length = 512) : (frC f).size = 515 := by simp [frC, h]
structure FrOk (f : Fr) : Prop where
  x : f.x.length = 512
  no : In64 f.no
  p0 : 0 ≤ f.pins
  p1 : f.pins ≤ 1000000000
theorem frC_no (f : Fr) : (frC f)[0]? = some (.int .i64 f.no) := by simp [frC]
theorem frC_x {f : Fr} (h : f.x.length = 512) {j : Nat} (hj : j < 512) : (frC f)[1 + j]? = f.x[j]?.map byteV := by
  unfold frC
  rw [List.getElem?_toArray, List.append_assoc, List.getElem?_append_right (by simp), List.getElem?_append_left (by simp [h]; omega)]
  simp
theorem frC_dirty {f : Fr} (h : f.x.length = 512) : (frC f)[513]? = some (.bool f.dirty) := by
  unfold frC
  rw [List.getElem?_toArray, List.getElem?_append_right (by simp [h])]
  simp [h]
theorem frC_pins {f : Fr} (h : f.x.length = 512) : (frC f)[514]? = some (.int .i64 f.pins) := by
  unfold frC
  rw [List.getElem?_toArray, List.getElem?_append_right (by simp [h])]
  simp [h]
/-- frames, each in a block of its own -/
structure Frs (w : World) (L : List Nat) (F : List Fr) : Prop where
  len : L.length = F.length
  str : ∀ (i : Nat) b f, L[i]? = some b → F[i]? = some f → Str w b (frC f)
  ok : ∀ f ∈ F, FrOk f
section
variable {w w' : World} {L : List Nat} {F : List Fr} {b : Nat} {f : Fr}
theorem Frs.at_ (h : Frs w L F) (hb : ∀ b ∈ L, w'.heap[b]? = w.heap[b]?) : Frs w' L F :=
  ⟨h.len, fun i b f h1 h2 => by obtain ⟨t, ht⟩ := h.str i b f h1 h2; exact ⟨t, (hb b (List.mem_of_getElem? h1)).trans ht⟩, h.ok⟩
theorem Frs.lt (h : Frs w L F) : ∀ b ∈ L, b < w.heap.size := fun b hb => by
  obtain ⟨i, hi⟩ := List.getElem?_of_mem hb
  have hl := (List.getElem?_eq_some_iff.1 hi).1
  exact (h.str i b _ hi (List.getElem?_eq_getElem (by rw [← h.len]; exact hl))).lt
theorem Frs.next (h : Frs w L F) (hb : Below w.heap.size w w') : Frs w' L F := h.at_ fun b hm => hb.block b (h.lt b hm)
theorem Frs.get (h : Frs w L F) {i : Nat} (hi : F[i]? = some f) : ∃ b, L[i]? = some b ∧ Str w b (frC f) ∧ FrOk f := by
  have hl : i < L.length := by rw [h.len]; exact (List.getElem?_eq_some_iff.1 hi).1
  exact ⟨_, List.getElem?_eq_getElem hl, h.str i _ _ (List.getElem?_eq_getElem hl) hi, h.ok f (List.mem_of_getElem? hi)⟩
theorem Frs.erase (h : Frs w L F) (k : Nat) : Frs w (L.eraseIdx k) (F.eraseIdx k) := by
  refine ⟨?_, fun i b f h1 h2 => ?_, fun f hf => h.ok f (List.mem_of_mem_eraseIdx hf)⟩
  · rw [List.length_eraseIdx, List.length_eraseIdx, h.len]
  · rw [List.getElem?_eraseIdx] at h1 h2
    split at h1
    · rename_i hlt; rw [if_pos hlt] at h2; exact h.str i b f h1 h2
    · rename_i hlt; rw [if_neg hlt] at h2; exact h.str (i + 1) b f h1 h2
theorem Frs.snoc (h : Frs w L F) (hs : Str w b (frC f)) (ho : FrOk f) : Frs w (L ++ [b]) (F ++ [f]) := by
  refine ⟨by simp [h.len], fun i b' f' h1 h2 => ?_, fun f' hf => ?_⟩
  · rcases Nat.lt_trichotomy i L.length with hlt | rfl | hgt
    · rw [List.getElem?_append_left hlt] at h1
      rw [List.getElem?_append_left (by rw [← h.len]; exact hlt)] at h2
      exact h.str i b' f' h1 h2
    · rw [List.getElem?_append_right (Nat.le_refl _), Nat.sub_self] at h1
      rw [h.len, List.getElem?_append_right (Nat.le_refl _), Nat.sub_self] at h2
      simp at h1 h2
      subst h1 h2
      exact hs
    · rw [List.getElem?_eq_none (by simp; omega)] at h1
      cases h1
  · rcases List.mem_append.1 hf with h1 | h1
    · exact h.ok f' h1
    · rw [List.mem_singleton.1 h1]; exact ho
/-- one frame is another -/
theorem Frs.set {i : Nat} (h : Frs w L F) (hi : L[i]? = some b) (hd : L.Nodup) (hg : w.grownBy w' (some b)) (hs : Str w' b (frC f)) (ho : FrOk f) : Frs w' L (F.set i f) := by
  refine ⟨by simp [h.len], fun j b' f' h1 h2 => ?_, fun f' hf => ?_⟩
  · by_cases e : i = j
    · subst e
      rw [hi] at h1
      cases h1
      rw [List.getElem?_set_self (by have := (List.getElem?_eq_some_iff.1 hi).1; rw [← h.len]; exact this)] at h2
      cases h2
      exact hs
    · rw [List.getElem?_set_ne e] at h2
      have hne : b' ≠ b := fun e2 => by
        subst e2
        obtain ⟨h3, h4⟩ := List.getElem?_eq_some_iff.1 hi
        obtain ⟨h5, h6⟩ := List.getElem?_eq_some_iff.1 h1
        exact e ((List.getElem_inj hd).1 (h4.trans h6.symm))
      exact (h.str j b' f' h1 h2).grownO hg (fun e2 => by injection e2 with e2; exact hne e2.symm)
  · rcases List.mem_or_eq_of_mem_set hf with h1 | h1
    · exact h.ok f' h1
    · rw [h1]; exact ho
end
/-- a pool's box -/
def poolC (d lg : Nat) (n : Int) (A : Option Addr) (m c : Nat) : Array Value := #[.pointer (some ⟨d, 0, none⟩), .iface 32 (.pointer (some ⟨lg, 0, none⟩)), .int .i64 n, .slice A m c]
/-- a pool's frames in memory -/
structure In (w : World) (p d lg : Nat) (n : Int) (A : Option Addr) (m c : Nat) (L : List Nat) (F : List Fr) : Prop where
  box : Str w p (poolC d lg n A m c)
  row : OwnE PtrE 73 w 0 A m c L
  frs : Frs w L F
  nd : (p :: ((A.map (·.block)).toList ++ L)).Nodup
  m100 : m ≤ 100
section
variable {w w' : World} {p d lg m c : Nat} {n : Int} {A : Option Addr} {L : List Nat} {F : List Fr}
theorem row_lt (h : OwnE PtrE 73 w 0 A m c L) : ∀ b ∈ (A.map (·.block)).toList, b < w.heap.size := fun b hb => by
  obtain ⟨a, e, h2⟩ := Option.map_eq_some_iff.1 (Option.mem_toList.1 hb)
  obtain ⟨vs, h1, -⟩ := h
  rcases h1.2 with ⟨e1, -⟩ | ⟨g, cap, cur, e1, -, hh, -⟩
  · cases e1; cases e
  · cases e1; cases e; rw [← h2]; exact (Array.getElem?_eq_some_iff.1 hh).1
theorem row_at (h : OwnE PtrE 73 w 0 A m c L) (hb : ∀ b ∈ (A.map (·.block)).toList, w'.heap[b]? = w.heap[b]?) : OwnE PtrE 73 w' 0 A m c L := by
  obtain ⟨vs, ⟨h0, h1⟩, h2⟩ := h
  refine ⟨vs, ⟨h0, ?_⟩, h2.imp fun _ _ hr => hr⟩
  rcases h1 with e | ⟨g, cap, cur, e, hg2, hh, r⟩
  · exact .inl e
  · cases e
    exact .inr ⟨g, c, cur, rfl, hg2, (hb g (by simp)).trans hh, r⟩
theorem In.at_ (h : In w p d lg n A m c L F) (hb : ∀ b ∈ p :: ((A.map (·.block)).toList ++ L), w'.heap[b]? = w.heap[b]?) : In w' p d lg n A m c L F := by
  refine ⟨?_, row_at h.row fun b hm => hb b (by simp only [List.mem_cons, List.mem_append]; exact .inr (.inl hm)), h.frs.at_ fun b hm => hb b (by simp only [List.mem_cons, List.mem_append]; exact .inr (.inr hm)), h.nd, h.m100⟩
  obtain ⟨t, ht⟩ := h.box
  exact ⟨t, (hb p (by simp)).trans ht⟩
theorem In.lt (h : In w p d lg n A m c L F) : ∀ b ∈ p :: ((A.map (·.block)).toList ++ L), b < w.heap.size := by
  intro b hb
  simp only [List.mem_cons, List.mem_append] at hb
  rcases hb with rfl | hb | hb
  · exact h.box.lt
  · exact row_lt h.row b hb
  · exact h.frs.lt b hb
theorem In.next (h : In w p d lg n A m c L F) (hb : Below w.heap.size w w') : In w' p d lg n A m c L F := h.at_ fun b hm => hb.block b (h.lt b hm)
end
set_option maxRecDepth 100000 in
set_option maxHeartbeats 1000000 in
theorem find_any (p d lg m c : Nat) (n : Int) (A : Option Addr) (L : List Nat) (F : List Fr) (no : Int) (w : World) (h : In w p d lg n A m c L F) :
    Calls Tryz.prog 32 #[.pointer (some ⟨p, 0, none⟩), .int .i64 no] w fun e w' => e = .returned (.pointer ((PoolP.find F no).bind fun i => L[i]?.map fun b => ⟨b, 0, none⟩)) ∧ w = w' := by
  have g0 := str4 (show Str w p #[.pointer (some ⟨d, 0, none⟩), .iface 32 (.pointer (some ⟨lg, 0, none⟩)), .int .i64 n, .slice A m c] from h.box)
  have hlp := h.box.lt
  have hm100 := h.m100
  have hlen := h.row.len
  have H := Lib.hid h
  clear h
  go_enter Tryz.func32, Tryz.ntmps32
  go_wp2
  go_loopw [12] (fun iv wr => ∃ k : Nat, k ≤ m ∧ iv = .int .i64 (k : Int) ∧ wr = w ∧ Hid (∀ (j : Nat) f, j < k → F[j]? = some f → ¬ f.no = no)) (fun iv _ => m - (intOf iv).toNat)
  case atStart => exact ⟨0, Nat.zero_le _, rfl, rfl, Lib.hid (fun j f hj => absurd hj (by omega))⟩
  case round =>
    obtain ⟨k, hk, rfl, rfl, HN⟩ := hrel
    by_cases hlt : k < m
    · have hd : decide ((k : Int) < (m : Int)) = true := by simp; omega
      obtain ⟨b, o, x, rfl, hb, hx, q0⟩ := ptr_at H.out.row.elems hlt
      obtain ⟨f, hf⟩ : ∃ f, F[k]? = some f := ⟨_, List.getElem?_eq_getElem (by rw [← H.out.frs.len, hlen]; exact hlt)⟩
      have hsx := H.out.frs.str k x f hx hf
      have q1 : wr.cell? ⟨x, 0, none⟩ = some (.int .i64 f.no) := by rw [hsx.cell 0]; exact frC_no f
      have HF := Lib.hid (And.intro hf hx)
      clear hf hx hsx
      by_cases he : f.no = no
      · have hfi : PoolP.find F no = some k := by
          unfold PoolP.find
          rw [List.findIdx?_eq_some_iff_getElem]
          obtain ⟨h1, h2⟩ := List.getElem?_eq_some_iff.1 HF.out.1
          exact ⟨h1, by rw [h2]; simpa using he, fun j hj => by
            have := HN.out j _ hj (List.getElem?_eq_getElem (by omega))
            simpa using this⟩
        have HFI := Lib.hid hfi
        have heq : (f.no == no) = true := by simpa using he
        clear hfi he
        go_wp2
        go_ret
        refine ⟨?_, by trivial⟩
        rw [HFI.out]
        simp only [Option.bind_some, HF.out.2, Option.map_some]
        rfl
      · have heq : (f.no == no) = false := by simpa using he
        have HN2 : Hid (∀ (j : Nat) f, j < k + 1 → F[j]? = some f → ¬ f.no = no) := Lib.hid fun j f' hj hf' => by
          by_cases e : j = k
          · subst e; rw [HF.out.1] at hf'; cases hf'; exact he
          · exact HN.out j f' (by omega) hf'
        clear he
        go_wp2
        go_roundw
        case rel => exact ⟨k + 1, by omega, by go_num, by trivial, HN2⟩
        case measure => simp [intOf]; omega
    · have hd : decide ((k : Int) < (m : Int)) = false := by simp; omega
      have hfi : PoolP.find F no = none := by
        unfold PoolP.find
        rw [List.findIdx?_eq_none_iff]
        intro f hf
        obtain ⟨j, hj⟩ := List.getElem?_of_mem hf
        have hjl := (List.getElem?_eq_some_iff.1 hj).1
        have := HN.out j f (by have := H.out.frs.len; omega) hj
        simpa using this
      have HFI := Lib.hid hfi
      clear hfi
      go_wp2
      go_ret
      exact ⟨by rw [HFI.out]; rfl, by trivial⟩
set_option maxRecDepth 100000 in
set_option maxHeartbeats 1000000 in
theorem index_any (m c g : Nat) (A : Option Addr) (L : List Nat) (w : World) (h : OwnE PtrE 73 w 0 A m c L) (hm : m ≤ 100) {cg : Array Value} (hg : Str w g cg) (hS : ∀ x ∈ L, ∃ cs, Str w x cs) :
    Calls Tryz.prog 53 #[.slice A m c, .pointer (some ⟨g, 0, none⟩)] w fun e w' => e = .returned (.int .i64 (place L g)) ∧ w = w' := by
  have hlen := h.len
  have H := Lib.hid h
  have HS := Lib.hid hS
  have HG := Lib.hid hg
  clear h hS hg
  go_enter Tryz.func53, Tryz.ntmps53
  go_wp2
  go_loopw [8] (fun iv wr => ∃ k : Nat, k ≤ m ∧ iv = .int .i64 (k : Int) ∧ wr = w ∧ Hid (∀ j : Nat, j < k → L[j]? ≠ some g)) (fun iv _ => m - (intOf iv).toNat)
  case atStart => exact ⟨0, Nat.zero_le _, rfl, rfl, Lib.hid (fun j hj => absurd hj (by omega))⟩
  case round =>
    obtain ⟨k, hk, rfl, rfl, HN⟩ := hrel
    by_cases hlt : k < m
    · have hd : decide ((k : Int) < (m : Int)) = true := by simp; omega
      obtain ⟨b, o, x, rfl, hb, hx, q0⟩ := ptr_at H.out.elems hlt
      have HX := Lib.hid hx
      obtain ⟨cx, hsx⟩ := HS.out x (List.mem_of_getElem? hx)
      have hq := eql_ptr HG.out hsx
      clear hx hsx
      by_cases he : g = x
      · subst he
        rw [beq_self_eq_true] at hq
        have hr : place L g = (k : Int) := by
          unfold place
          rw [List.findIdx?_eq_some_iff_getElem.2]
          obtain ⟨h1, h2⟩ := List.getElem?_eq_some_iff.1 HX.out
          exact ⟨h1, by rw [h2]; simp, fun j hj => by
            have := HN.out j hj
            rw [List.getElem?_eq_getElem (by omega)] at this
            simpa using this⟩
        have HR := Lib.hid hr
        clear hr
        go_wp2
        go_ret
        exact ⟨by rw [HR.out]; rfl, by trivial⟩
      · have HN2 : Hid (∀ j : Nat, j < k + 1 → L[j]? ≠ some g) := Lib.hid fun j hj h1 => by
          by_cases e : j = k
          · subst e; rw [HX.out] at h1; cases h1; exact he rfl
          · exact HN.out j (by omega) h1
        rw [show (g == x) = false by simpa using he] at hq
        go_wp2
        go_roundw
        case rel => exact ⟨k + 1, by omega, by go_num, by trivial, HN2⟩
        case measure => simp [intOf]; omega
    · have hd : decide ((k : Int) < (m : Int)) = false := by simp; omega
      have hr : place L g = -1 := by
        unfold place
        rw [List.findIdx?_eq_none_iff.2]
        intro x hx
        obtain ⟨j, hj⟩ := List.getElem?_of_mem hx
        have := HN.out j (by have := (List.getElem?_eq_some_iff.1 hj).1; omega)
        rw [hj] at this
        simpa using this
      have HR := Lib.hid hr
      clear hr
      go_wp2
      go_ret
      exact ⟨by rw [HR.out]; rfl, by trivial⟩
end PoolW
end Go.Proofs.YtcfieofcnpalgaaGreat
end
