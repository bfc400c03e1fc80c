/-
  Plain words on keys: which bytes may be a key, the hash of bytes, the bucket. No program in sight.
-/
import Derived.Laws.BitsAllLaws
namespace Go.Proofs.Ytldgdgfplgdipaa.KeyP

/-- a byte that a key may have -/
def okB (c : UInt8) : Bool := decide (33 ≤ c.toNat) && decide (c.toNat ≤ 126)
def right (l : List UInt8) : Bool := l.all okB && (decide (0 < l.length) && decide (l.length ≤ 16))
/-- the error's number: 0, or 1 -/
def code (b : Bool) : Int := if b then 0 else 1
def hstep (h : Nat) (c : UInt8) : Nat := ((h ^^^ c.toNat) * 16777619) % 4294967296
def hash (l : List UInt8) : Nat := l.foldl hstep 2166136261
def bucket (l : List UInt8) (n : Int) : Int := if n < 1 then 0 else (hash l : Int) % n

theorem foldl_lt (l : List UInt8) (h : Nat) (hh : h < 4294967296) : l.foldl hstep h < 4294967296 := by
  induction l generalizing h with
  | nil => exact hh
  | cons c l ih => exact ih _ (Nat.mod_lt _ (by decide))
theorem hash_lt (l : List UInt8) : hash l < 4294967296 := foldl_lt l _ (by decide)
theorem getAt (s : ByteArray) (k : Nat) (_h : k < s.size) (h' : k < s.data.toList.length) : s.data.toList[k] = s[k] := rfl
theorem foldl_take {β : Type} (f : β → UInt8 → β) (b : β) (s : ByteArray) (k : Nat) (h : k < s.size) : (s.data.toList.take (k + 1)).foldl f b = f ((s.data.toList.take k).foldl f b) s[k] := by
  rw [List.take_succ_eq_append_getElem (by simpa using h), getAt s k h]
  simp only [List.foldl_append, List.foldl_cons, List.foldl_nil]
theorem hash_take (s : ByteArray) (k : Nat) (h : k < s.size) : hash (s.data.toList.take (k + 1)) = hstep (hash (s.data.toList.take k)) s[k] := by
  unfold hash
  exact foldl_take hstep _ s k h
theorem hash_all (s : ByteArray) (k : Nat) (h : ¬ k < s.size) : hash (s.data.toList.take k) = hash s.data.toList := by
  rw [List.take_of_length_le (by simp; exact Nat.le_of_not_lt h)]

/-- one round of the 32 bit hash, as the walk spells it -/
theorem round32 (h : Nat) (hh : h < 4294967296) (c : UInt8) :
    bits .xor .u32 (h : Int) ((c.toNat : Int) % 4294967296) * 16777619 % 4294967296 = (hstep h c : Int) := by
  have hc : c.toNat < 256 := c.toNat_lt
  have e : ((c.toNat : Int) % 4294967296) = (c.toNat : Int) := by omega
  rw [e, u32_xor_nat h c.toNat hh (by omega)]
  unfold hstep
  omega
/-- one round of the 64 bit hash -/
theorem round64 (h : Nat) (hh : h < 4294967296) (c : UInt8) :
    (IntKind.u64.wrap (bits .xor .u64 (h : Int) (IntKind.u64.wrap (c.toNat : Int)) * 16777619)).tmod 4294967296 = (hstep h c : Int) := by
  have hc : c.toNat < 256 := c.toNat_lt
  have hx : h ^^^ c.toNat < 2 ^ 32 := Nat.xor_lt_two_pow (by omega) (by omega)
  have e : IntKind.u64.wrap (c.toNat : Int) = (c.toNat : Int) := by
    simp only [IntKind.wrap, IntKind.bits, IntKind.signed]
    simp
    omega
  rw [e, u64_xor_nat h c.toNat (by omega) (by omega)]
  have e2 : IntKind.u64.wrap (((h ^^^ c.toNat : Nat) : Int) * 16777619) = ((h ^^^ c.toNat : Nat) : Int) * 16777619 := by
    simp only [IntKind.wrap, IntKind.bits, IntKind.signed]
    simp
    omega
  rw [e2, Int.tmod_eq_emod_of_nonneg (by omega)]
  unfold hstep
  omega

theorem all_take (s : ByteArray) (k : Nat) (h : k < s.size) : (s.data.toList.take (k + 1)).all okB = ((s.data.toList.take k).all okB && okB s[k]) := by
  rw [List.take_succ_eq_append_getElem (by simpa using h)]
  simp only [List.all_append, List.all_cons, List.all_nil, Bool.and_true]
  rfl
theorem all_of_take (s : ByteArray) (k : Nat) (h : ¬ k < s.size) (ha : (s.data.toList.take k).all okB = true) : s.data.toList.all okB = true := by
  rw [List.take_of_length_le (by simp; exact Nat.le_of_not_lt h)] at ha
  exact ha
theorem right_eq (s : ByteArray) (h1 : s.data.toList.all okB = true) (h2 : 0 < s.size) : right s.data.toList = decide ((s.size : Int) ≤ 16) := by
  have e : s.data.toList.length = s.size := by simp
  have e2 : decide ((s.size : Int) ≤ 16) = decide (s.size ≤ 16) := by rw [decide_eq_decide]; omega
  rw [e2]
  simp [right, h1, h2]
theorem right_of (s : ByteArray) (h1 : s.data.toList.all okB = true) (h2 : 0 < s.size) (h3 : s.size ≤ 16) : right s.data.toList = true := by
  have e : s.data.toList.length = s.size := by simp
  simp only [right, h1, e, Bool.true_and, Bool.and_eq_true, decide_eq_true_eq]
  exact ⟨h2, h3⟩
theorem not_right_len (s : ByteArray) (h : ¬ (0 < s.size ∧ s.size ≤ 16)) : right s.data.toList = false := by
  have e : s.data.toList.length = s.size := by simp
  unfold right
  rw [e]
  by_cases h0 : 0 < s.size <;> by_cases h1 : s.size ≤ 16 <;> simp_all
theorem not_right_at (s : ByteArray) (k : Nat) (h : k < s.size) (hc : okB s[k] = false) : right s.data.toList = false := by
  have hm : s[k] ∈ s.data.toList := by
    have : s[k] = s.data.toList[k]'(by simpa using h) := rfl
    rw [this]
    exact List.getElem_mem _
  have : s.data.toList.all okB = false := by
    rw [List.all_eq_false]
    exact ⟨_, hm, by simp [hc]⟩
  simp [right, this]
theorem okB_true (c : UInt8) (h1 : 33 ≤ c.toNat) (h2 : c.toNat ≤ 126) : okB c = true := by simp [okB, h1, h2]
theorem okB_lo (c : UInt8) (h1 : c.toNat < 33) : okB c = false := by
  have : ¬ 33 ≤ c.toNat := by omega
  simp [okB, this]
theorem okB_hi (c : UInt8) (h1 : 126 < c.toNat) : okB c = false := by
  have : ¬ c.toNat ≤ 126 := by omega
  simp [okB, this]
theorem tmod_hash (l : List UInt8) (n : Int) : (hash l : Int).tmod n = (hash l : Int) % n := Int.tmod_eq_emod_of_nonneg (by omega)
theorem hash_a : hash [97] = 3826002220 := by decide +kernel
theorem hash_append (a b : List UInt8) : hash (a ++ b) = b.foldl hstep (hash a) := by simp [hash, List.foldl_append]
theorem bucket_one (l : List UInt8) : bucket l 1 = 0 := by simp [bucket]
theorem code_true : code true = 0 := rfl
theorem code_false : code false = 1 := rfl
theorem bucket_lo (l : List UInt8) (n : Int) (h : n < 1) : bucket l n = 0 := by simp [bucket, h]
theorem bucket_hi (l : List UInt8) (n : Int) (h : ¬ n < 1) : bucket l n = (hash l : Int) % n := by simp [bucket, h]
end Go.Proofs.Ytldgdgfplgdipaa.KeyP
