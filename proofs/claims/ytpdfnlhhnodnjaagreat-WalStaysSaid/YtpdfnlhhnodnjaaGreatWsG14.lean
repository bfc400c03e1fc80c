/-
  Parts of the proof of WalStays.
-/
import Derived.Test.YtpdfnlhhnodnjaaGreatWsG13
import Derived.Test.YtpdfnlhhnodnjaaGreatWsG11
import Derived.Test.YtpdfnlhhnodnjaaGreatWsG2
section
namespace Go.Proofs.YtpdfnlhhnodnjaaGreat.UndoP
theorem slot_same_none (x : Item) (h : SlotP.same x SlotP.none = true) : x = SlotP.none := by
  obtain ⟨s, k, kind, data, lo, hi, val⟩ := x
  simp only [SlotP.same, SlotP.none, CellP.same, CellP.none, Bool.and_eq_true, beq_iff_eq] at h
  obtain ⟨h1, h2, h3, h4, h5, h6, h7⟩ := h
  have hk := key_inj h2
  subst h1 hk h3 h4 h5 h6 h7
  rfl
theorem same_none (u : Undo) (h : same u none = true) : u = none := by
  obtain ⟨a, k, it, n⟩ := u
  simp only [same, none, Bool.and_eq_true, beq_iff_eq] at h
  obtain ⟨h1, h2, h3, h4⟩ := h
  have hk := key_inj h2
  have hi := slot_same_none it h4
  subst h1 hk h3 hi
  rfl
theorem ofNat_size (k : ByteArray) (h : k.size ≤ 16) : (UInt8.ofNat k.size).toNat = k.size := by
  simp
  omega
theorem get_bytes (u : Undo) (hr : right u = true) (hn : In64 u.n) (hi : SlotP.In u.item) : get (bytes u) = (u, ((bytes u).length : Int), 0) := by
  by_cases h0 : u.act = 0
  · have hu : u = none := same_none u (by unfold right at hr; rw [if_pos h0] at hr; exact hr)
    have e : bytes none = [0] := by unfold bytes; rw [if_pos (by decide +kernel)]; rfl
    rw [hu, e]
    rfl
  have hk := right_key u h0 hr
  have hks := KeyP.right_size u.key hk
  have hon := ofNat_size u.key hks
  have hkl : u.key.data.toList.length = u.key.size := by simp
  have htx : SlotP.text u.key.data.toList = u.key := SlotP.text_of u.key
  have hb : bytes u = UInt8.ofNat u.act.toNat :: UInt8.ofNat u.key.size :: (u.key.data.toList ++ (if u.act = 1 then SlotP.bytes u.item else BeP.parts 8 u.n)) := by
    unfold bytes
    rw [if_pos hr, if_neg h0]
    rfl
  by_cases h1 : u.act = 1
  · have hr1 := hr
    unfold right at hr1
    rw [if_neg h0, if_pos h1] at hr1
    simp only [Bool.and_eq_true, beq_iff_eq] at hr1
    obtain ⟨-, -, hsr, -, hn0⟩ := hr1
    have hx : (UInt8.ofNat u.act.toNat).toNat = 1 := by rw [h1]; rfl
    have hlen : (bytes u).length = 2 + u.key.size + 64 := by
      rw [hb, if_pos h1]
      simp only [List.length_cons, List.length_append, hkl, SlotP.bytes_length]
      omega
    have hg := SlotP.get_bytes u.item hsr hi
    have ed : ((bytes u).drop (2 + u.key.size)).take 64 = SlotP.bytes u.item := by
      rw [hb, if_pos h1, show 2 + u.key.size = u.key.size + 1 + 1 by omega, List.drop_succ_cons, List.drop_succ_cons, ← hkl, List.drop_left, List.take_of_length_le (by rw [SlotP.bytes_length]; omega)]
    have ek : ((bytes u).drop 2).take u.key.size = u.key.data.toList := by
      rw [hb, List.drop_succ_cons, List.drop_succ_cons, List.drop_zero, ← hkl, List.take_left]
    have g0 : (bytes u).getD 0 0 = UInt8.ofNat u.act.toNat := by rw [hb]; rfl
    have g1 : (bytes u).getD 1 0 = UInt8.ofNat u.key.size := by rw [hb]; rfl
    have hs : seem 1 (bytes u) = u := by
      unfold seem
      rw [g1, hon, ek, ed, hg, htx, if_pos rfl, if_pos rfl]
      obtain ⟨a, k, it, n⟩ := u
      dsimp only at *
      subst h1 hn0
      rfl
    have he : err 1 (bytes u) = 0 := by
      unfold err
      rw [g1, hon, ed, hg, if_pos rfl]
    unfold get
    rw [g0, g1, hx, hon, if_neg (by omega), if_neg (by omega), if_neg (by omega), if_neg (by unfold size; rw [if_pos rfl]; omega), he, hs, if_pos ⟨rfl, hr⟩, hlen]
    rfl
  · have h23 : u.act = 2 ∨ u.act = 3 := by
      unfold right at hr
      rw [if_neg h0, if_neg h1] at hr
      split at hr
      · assumption
      · cases hr
    have hr1 := hr
    unfold right at hr1
    rw [if_neg h0, if_neg h1, if_pos h23] at hr1
    simp only [Bool.and_eq_true] at hr1
    have hit := slot_same_none u.item hr1.2.2
    have hx : ((UInt8.ofNat u.act.toNat).toNat : Int) = u.act := by rcases h23 with e | e <;> rw [e] <;> rfl
    have hlen : (bytes u).length = 2 + u.key.size + 8 := by
      rw [hb, if_neg h1]
      simp only [List.length_cons, List.length_append, hkl, BeP.parts_length]
      omega
    have ek : ((bytes u).drop 2).take u.key.size = u.key.data.toList := by
      rw [hb, List.drop_succ_cons, List.drop_succ_cons, List.drop_zero, ← hkl, List.take_left]
    have g0 : (bytes u).getD 0 0 = UInt8.ofNat u.act.toNat := by rw [hb]; rfl
    have g1 : (bytes u).getD 1 0 = UInt8.ofNat u.key.size := by rw [hb]; rfl
    have ev : NumP.val (bytes u) (2 + u.key.size) 8 = u.n := by
      have := NumP.val_parts8 (UInt8.ofNat u.act.toNat :: UInt8.ofNat u.key.size :: u.key.data.toList) [] u.n hn
      rw [show (UInt8.ofNat u.act.toNat :: UInt8.ofNat u.key.size :: u.key.data.toList).length = 2 + u.key.size by simp only [List.length_cons, hkl]; omega] at this
      rw [hb, if_neg h1]
      simpa using this
    obtain ⟨x, hxe⟩ : ∃ x, (UInt8.ofNat u.act.toNat).toNat = x := ⟨_, rfl⟩
    rw [hxe] at hx
    have hx1 : ¬ x = 1 := by omega
    have hs : seem x (bytes u) = u := by
      unfold seem
      rw [g1, hon, ek, htx, if_neg hx1, if_neg hx1, ev]
      obtain ⟨a, k, it, n⟩ := u
      dsimp only at *
      subst hx hit
      rfl
    have he : err x (bytes u) = 0 := by
      unfold err
      rw [if_neg hx1]
    unfold get
    rw [g0, g1, hxe, hon, if_neg (by omega), if_neg (by omega), if_neg (by omega), if_neg (by unfold size; rw [if_neg hx1]; omega), he, hs, if_pos ⟨rfl, hr⟩, hlen]
    unfold size
    rw [if_neg hx1]
theorem bytes_le (u : Undo) : (bytes u).length ≤ 100 := by
  unfold bytes
  split
  · rename_i hr
    split
    · simp
    · rename_i h0
      have hks := KeyP.right_size u.key (right_key u h0 hr)
      have hkl : u.key.data.toList.length = u.key.size := by simp
      split
      · simp only [List.length_append, List.length_cons, List.length_nil, hkl, SlotP.bytes_length]; omega
      · simp only [List.length_append, List.length_cons, List.length_nil, hkl, BeP.parts_length]; omega
  · simp
end Go.Proofs.YtpdfnlhhnodnjaaGreat.UndoP
end
section
namespace Go.Proofs.YtpdfnlhhnodnjaaGreat.CrcP

/-- the table when all multiples of step are there -/
def headf (step : Nat) (i : Nat) : Nat := if i % step = 0 then step8 i else 0
/-- the table when the odd multiples of step below a are there, too -/
def tabf (step a : Nat) (i : Nat) : Nat := if i % (2 * step) = 0 then step8 i else if i % step = 0 ∧ i < a then step8 i else 0
theorem tabf_start (step : Nat) (i : Nat) : tabf step 0 i = headf (2 * step) i := by
  unfold tabf headf
  split
  · rfl
  · rw [if_neg (by omega)]
theorem headf_zero (i : Nat) (h : i < 256) : headf 256 i = 0 := by
  unfold headf
  by_cases h0 : i = 0
  · subst h0; decide
  · rw [if_neg (by omega)]
theorem headf_one (i : Nat) : headf 1 i = step8 i := by
  unfold headf
  rw [if_pos (by omega)]
theorem tabf_end128 (i : Nat) (h : i < 256) : tabf 128 256 i = headf 128 i := by
  unfold tabf headf
  by_cases h1 : i % (2 * 128) = 0
  · rw [if_pos h1, if_pos (by omega)]
  · rw [if_neg h1]
    by_cases h2 : i % 128 = 0
    · rw [if_pos ⟨h2, h⟩, if_pos h2]
    · rw [if_neg (by omega), if_neg h2]
theorem tabf_next128 (a i : Nat) (h : a % (2 * 128) = 0) : (if i = a + 128 then step8 (a + 128) else tabf 128 a i) = tabf 128 (a + 2 * 128) i := by
  unfold tabf
  by_cases h1 : i = a + 128
  · subst h1
    rw [if_pos rfl, if_neg (by omega), if_pos (by omega)]
  · rw [if_neg h1]
    by_cases h2 : i % (2 * 128) = 0
    · rw [if_pos h2, if_pos h2]
    · rw [if_neg h2, if_neg h2]
      by_cases h3 : i % 128 = 0 ∧ i < a
      · rw [if_pos h3, if_pos (by omega)]
      · rw [if_neg h3, if_neg (by omega)]
theorem tabf_at128 (a : Nat) (h : a % (2 * 128) = 0) : tabf 128 a a = step8 a := by
  unfold tabf
  rw [if_pos h]
theorem step8_at128 (a : Nat) (h : a % (2 * 128) = 0) : step8 a ^^^ 2197175160 = step8 (a + 128) := by
  have hx : a + 128 = a ^^^ 128 := by
    have h2 : (2 : Nat) ^ 8 = 2 * 128 := by decide
    obtain ⟨q, rfl⟩ : ∃ q, a = 2 ^ 8 * q := ⟨a / (2 * 128), by rw [h2]; omega⟩
    apply Nat.eq_of_testBit_eq
    intro i
    rw [Nat.testBit_two_pow_mul_add _ (by decide), Nat.testBit_xor, Nat.testBit_two_pow_mul]
    by_cases hi : i < 8
    · have h8 : ¬ 8 ≤ i := by omega
      simp [hi, h8]
    · have h0 : Nat.testBit 128 i = false := Nat.testBit_lt_two_pow (Nat.lt_of_lt_of_le (by decide : 128 < 2 ^ 8) (Nat.pow_le_pow_right (by decide) (by omega)))
      have h8 : 8 ≤ i := by omega
      simp [hi, h0, h8]
  rw [hx, step8_xor, show step8 128 = 2197175160 by decide +kernel]
theorem tabf_end64 (i : Nat) (h : i < 256) : tabf 64 256 i = headf 64 i := by
  unfold tabf headf
  by_cases h1 : i % (2 * 64) = 0
  · rw [if_pos h1, if_pos (by omega)]
  · rw [if_neg h1]
    by_cases h2 : i % 64 = 0
    · rw [if_pos ⟨h2, h⟩, if_pos h2]
    · rw [if_neg (by omega), if_neg h2]
theorem tabf_next64 (a i : Nat) (h : a % (2 * 64) = 0) : (if i = a + 64 then step8 (a + 64) else tabf 64 a i) = tabf 64 (a + 2 * 64) i := by
  unfold tabf
  by_cases h1 : i = a + 64
  · subst h1
    rw [if_pos rfl, if_neg (by omega), if_pos (by omega)]
  · rw [if_neg h1]
    by_cases h2 : i % (2 * 64) = 0
    · rw [if_pos h2, if_pos h2]
    · rw [if_neg h2, if_neg h2]
      by_cases h3 : i % 64 = 0 ∧ i < a
      · rw [if_pos h3, if_pos (by omega)]
      · rw [if_neg h3, if_neg (by omega)]
theorem tabf_at64 (a : Nat) (h : a % (2 * 64) = 0) : tabf 64 a a = step8 a := by
  unfold tabf
  rw [if_pos h]
theorem step8_at64 (a : Nat) (h : a % (2 * 64) = 0) : step8 a ^^^ 1098587580 = step8 (a + 64) := by
  have hx : a + 64 = a ^^^ 64 := by
    have h2 : (2 : Nat) ^ 7 = 2 * 64 := by decide
    obtain ⟨q, rfl⟩ : ∃ q, a = 2 ^ 7 * q := ⟨a / (2 * 64), by rw [h2]; omega⟩
    apply Nat.eq_of_testBit_eq
    intro i
    rw [Nat.testBit_two_pow_mul_add _ (by decide), Nat.testBit_xor, Nat.testBit_two_pow_mul]
    by_cases hi : i < 7
    · have h8 : ¬ 7 ≤ i := by omega
      simp [hi, h8]
    · have h0 : Nat.testBit 64 i = false := Nat.testBit_lt_two_pow (Nat.lt_of_lt_of_le (by decide : 64 < 2 ^ 7) (Nat.pow_le_pow_right (by decide) (by omega)))
      have h8 : 7 ≤ i := by omega
      simp [hi, h0, h8]
  rw [hx, step8_xor, show step8 64 = 1098587580 by decide +kernel]
theorem tabf_end32 (i : Nat) (h : i < 256) : tabf 32 256 i = headf 32 i := by
  unfold tabf headf
  by_cases h1 : i % (2 * 32) = 0
  · rw [if_pos h1, if_pos (by omega)]
  · rw [if_neg h1]
    by_cases h2 : i % 32 = 0
    · rw [if_pos ⟨h2, h⟩, if_pos h2]
    · rw [if_neg (by omega), if_neg h2]
theorem tabf_next32 (a i : Nat) (h : a % (2 * 32) = 0) : (if i = a + 32 then step8 (a + 32) else tabf 32 a i) = tabf 32 (a + 2 * 32) i := by
  unfold tabf
  by_cases h1 : i = a + 32
  · subst h1
    rw [if_pos rfl, if_neg (by omega), if_pos (by omega)]
  · rw [if_neg h1]
    by_cases h2 : i % (2 * 32) = 0
    · rw [if_pos h2, if_pos h2]
    · rw [if_neg h2, if_neg h2]
      by_cases h3 : i % 32 = 0 ∧ i < a
      · rw [if_pos h3, if_pos (by omega)]
      · rw [if_neg h3, if_neg (by omega)]
theorem tabf_at32 (a : Nat) (h : a % (2 * 32) = 0) : tabf 32 a a = step8 a := by
  unfold tabf
  rw [if_pos h]
theorem step8_at32 (a : Nat) (h : a % (2 * 32) = 0) : step8 a ^^^ 549293790 = step8 (a + 32) := by
  have hx : a + 32 = a ^^^ 32 := by
    have h2 : (2 : Nat) ^ 6 = 2 * 32 := by decide
    obtain ⟨q, rfl⟩ : ∃ q, a = 2 ^ 6 * q := ⟨a / (2 * 32), by rw [h2]; omega⟩
    apply Nat.eq_of_testBit_eq
    intro i
    rw [Nat.testBit_two_pow_mul_add _ (by decide), Nat.testBit_xor, Nat.testBit_two_pow_mul]
    by_cases hi : i < 6
    · have h8 : ¬ 6 ≤ i := by omega
      simp [hi, h8]
    · have h0 : Nat.testBit 32 i = false := Nat.testBit_lt_two_pow (Nat.lt_of_lt_of_le (by decide : 32 < 2 ^ 6) (Nat.pow_le_pow_right (by decide) (by omega)))
      have h8 : 6 ≤ i := by omega
      simp [hi, h0, h8]
  rw [hx, step8_xor, show step8 32 = 549293790 by decide +kernel]
theorem tabf_end16 (i : Nat) (h : i < 256) : tabf 16 256 i = headf 16 i := by
  unfold tabf headf
  by_cases h1 : i % (2 * 16) = 0
  · rw [if_pos h1, if_pos (by omega)]
  · rw [if_neg h1]
    by_cases h2 : i % 16 = 0
    · rw [if_pos ⟨h2, h⟩, if_pos h2]
    · rw [if_neg (by omega), if_neg h2]
theorem tabf_next16 (a i : Nat) (h : a % (2 * 16) = 0) : (if i = a + 16 then step8 (a + 16) else tabf 16 a i) = tabf 16 (a + 2 * 16) i := by
  unfold tabf
  by_cases h1 : i = a + 16
  · subst h1
    rw [if_pos rfl, if_neg (by omega), if_pos (by omega)]
  · rw [if_neg h1]
    by_cases h2 : i % (2 * 16) = 0
    · rw [if_pos h2, if_pos h2]
    · rw [if_neg h2, if_neg h2]
      by_cases h3 : i % 16 = 0 ∧ i < a
      · rw [if_pos h3, if_pos (by omega)]
      · rw [if_neg h3, if_neg (by omega)]
theorem tabf_at16 (a : Nat) (h : a % (2 * 16) = 0) : tabf 16 a a = step8 a := by
  unfold tabf
  rw [if_pos h]
theorem step8_at16 (a : Nat) (h : a % (2 * 16) = 0) : step8 a ^^^ 274646895 = step8 (a + 16) := by
  have hx : a + 16 = a ^^^ 16 := by
    have h2 : (2 : Nat) ^ 5 = 2 * 16 := by decide
    obtain ⟨q, rfl⟩ : ∃ q, a = 2 ^ 5 * q := ⟨a / (2 * 16), by rw [h2]; omega⟩
    apply Nat.eq_of_testBit_eq
    intro i
    rw [Nat.testBit_two_pow_mul_add _ (by decide), Nat.testBit_xor, Nat.testBit_two_pow_mul]
    by_cases hi : i < 5
    · have h8 : ¬ 5 ≤ i := by omega
      simp [hi, h8]
    · have h0 : Nat.testBit 16 i = false := Nat.testBit_lt_two_pow (Nat.lt_of_lt_of_le (by decide : 16 < 2 ^ 5) (Nat.pow_le_pow_right (by decide) (by omega)))
      have h8 : 5 ≤ i := by omega
      simp [hi, h0, h8]
  rw [hx, step8_xor, show step8 16 = 274646895 by decide +kernel]
theorem tabf_end8 (i : Nat) (h : i < 256) : tabf 8 256 i = headf 8 i := by
  unfold tabf headf
  by_cases h1 : i % (2 * 8) = 0
  · rw [if_pos h1, if_pos (by omega)]
  · rw [if_neg h1]
    by_cases h2 : i % 8 = 0
    · rw [if_pos ⟨h2, h⟩, if_pos h2]
    · rw [if_neg (by omega), if_neg h2]
theorem tabf_next8 (a i : Nat) (h : a % (2 * 8) = 0) : (if i = a + 8 then step8 (a + 8) else tabf 8 a i) = tabf 8 (a + 2 * 8) i := by
  unfold tabf
  by_cases h1 : i = a + 8
  · subst h1
    rw [if_pos rfl, if_neg (by omega), if_pos (by omega)]
  · rw [if_neg h1]
    by_cases h2 : i % (2 * 8) = 0
    · rw [if_pos h2, if_pos h2]
    · rw [if_neg h2, if_neg h2]
      by_cases h3 : i % 8 = 0 ∧ i < a
      · rw [if_pos h3, if_pos (by omega)]
      · rw [if_neg h3, if_neg (by omega)]
theorem tabf_at8 (a : Nat) (h : a % (2 * 8) = 0) : tabf 8 a a = step8 a := by
  unfold tabf
  rw [if_pos h]
theorem step8_at8 (a : Nat) (h : a % (2 * 8) = 0) : step8 a ^^^ 2329499855 = step8 (a + 8) := by
  have hx : a + 8 = a ^^^ 8 := by
    have h2 : (2 : Nat) ^ 4 = 2 * 8 := by decide
    obtain ⟨q, rfl⟩ : ∃ q, a = 2 ^ 4 * q := ⟨a / (2 * 8), by rw [h2]; omega⟩
    apply Nat.eq_of_testBit_eq
    intro i
    rw [Nat.testBit_two_pow_mul_add _ (by decide), Nat.testBit_xor, Nat.testBit_two_pow_mul]
    by_cases hi : i < 4
    · have h8 : ¬ 4 ≤ i := by omega
      simp [hi, h8]
    · have h0 : Nat.testBit 8 i = false := Nat.testBit_lt_two_pow (Nat.lt_of_lt_of_le (by decide : 8 < 2 ^ 4) (Nat.pow_le_pow_right (by decide) (by omega)))
      have h8 : 4 ≤ i := by omega
      simp [hi, h0, h8]
  rw [hx, step8_xor, show step8 8 = 2329499855 by decide +kernel]
theorem tabf_end4 (i : Nat) (h : i < 256) : tabf 4 256 i = headf 4 i := by
  unfold tabf headf
  by_cases h1 : i % (2 * 4) = 0
  · rw [if_pos h1, if_pos (by omega)]
  · rw [if_neg h1]
    by_cases h2 : i % 4 = 0
    · rw [if_pos ⟨h2, h⟩, if_pos h2]
    · rw [if_neg (by omega), if_neg h2]
theorem tabf_next4 (a i : Nat) (h : a % (2 * 4) = 0) : (if i = a + 4 then step8 (a + 4) else tabf 4 a i) = tabf 4 (a + 2 * 4) i := by
  unfold tabf
  by_cases h1 : i = a + 4
  · subst h1
    rw [if_pos rfl, if_neg (by omega), if_pos (by omega)]
  · rw [if_neg h1]
    by_cases h2 : i % (2 * 4) = 0
    · rw [if_pos h2, if_pos h2]
    · rw [if_neg h2, if_neg h2]
      by_cases h3 : i % 4 = 0 ∧ i < a
      · rw [if_pos h3, if_pos (by omega)]
      · rw [if_neg h3, if_neg (by omega)]
theorem tabf_at4 (a : Nat) (h : a % (2 * 4) = 0) : tabf 4 a a = step8 a := by
  unfold tabf
  rw [if_pos h]
theorem step8_at4 (a : Nat) (h : a % (2 * 4) = 0) : step8 a ^^^ 3348797215 = step8 (a + 4) := by
  have hx : a + 4 = a ^^^ 4 := by
    have h2 : (2 : Nat) ^ 3 = 2 * 4 := by decide
    obtain ⟨q, rfl⟩ : ∃ q, a = 2 ^ 3 * q := ⟨a / (2 * 4), by rw [h2]; omega⟩
    apply Nat.eq_of_testBit_eq
    intro i
    rw [Nat.testBit_two_pow_mul_add _ (by decide), Nat.testBit_xor, Nat.testBit_two_pow_mul]
    by_cases hi : i < 3
    · have h8 : ¬ 3 ≤ i := by omega
      simp [hi, h8]
    · have h0 : Nat.testBit 4 i = false := Nat.testBit_lt_two_pow (Nat.lt_of_lt_of_le (by decide : 4 < 2 ^ 3) (Nat.pow_le_pow_right (by decide) (by omega)))
      have h8 : 3 ≤ i := by omega
      simp [hi, h0, h8]
  rw [hx, step8_xor, show step8 4 = 3348797215 by decide +kernel]
theorem tabf_end2 (i : Nat) (h : i < 256) : tabf 2 256 i = headf 2 i := by
  unfold tabf headf
  by_cases h1 : i % (2 * 2) = 0
  · rw [if_pos h1, if_pos (by omega)]
  · rw [if_neg h1]
    by_cases h2 : i % 2 = 0
    · rw [if_pos ⟨h2, h⟩, if_pos h2]
    · rw [if_neg (by omega), if_neg h2]
theorem tabf_next2 (a i : Nat) (h : a % (2 * 2) = 0) : (if i = a + 2 then step8 (a + 2) else tabf 2 a i) = tabf 2 (a + 2 * 2) i := by
  unfold tabf
  by_cases h1 : i = a + 2
  · subst h1
    rw [if_pos rfl, if_neg (by omega), if_pos (by omega)]
  · rw [if_neg h1]
    by_cases h2 : i % (2 * 2) = 0
    · rw [if_pos h2, if_pos h2]
    · rw [if_neg h2, if_neg h2]
      by_cases h3 : i % 2 = 0 ∧ i < a
      · rw [if_pos h3, if_pos (by omega)]
      · rw [if_neg h3, if_neg (by omega)]
theorem tabf_at2 (a : Nat) (h : a % (2 * 2) = 0) : tabf 2 a a = step8 a := by
  unfold tabf
  rw [if_pos h]
theorem step8_at2 (a : Nat) (h : a % (2 * 2) = 0) : step8 a ^^^ 3778769143 = step8 (a + 2) := by
  have hx : a + 2 = a ^^^ 2 := by
    have h2 : (2 : Nat) ^ 2 = 2 * 2 := by decide
    obtain ⟨q, rfl⟩ : ∃ q, a = 2 ^ 2 * q := ⟨a / (2 * 2), by rw [h2]; omega⟩
    apply Nat.eq_of_testBit_eq
    intro i
    rw [Nat.testBit_two_pow_mul_add _ (by decide), Nat.testBit_xor, Nat.testBit_two_pow_mul]
    by_cases hi : i < 2
    · have h8 : ¬ 2 ≤ i := by omega
      simp [hi, h8]
    · have h0 : Nat.testBit 2 i = false := Nat.testBit_lt_two_pow (Nat.lt_of_lt_of_le (by decide : 2 < 2 ^ 2) (Nat.pow_le_pow_right (by decide) (by omega)))
      have h8 : 2 ≤ i := by omega
      simp [hi, h0, h8]
  rw [hx, step8_xor, show step8 2 = 3778769143 by decide +kernel]
theorem tabf_end1 (i : Nat) (h : i < 256) : tabf 1 256 i = headf 1 i := by
  unfold tabf headf
  by_cases h1 : i % (2 * 1) = 0
  · rw [if_pos h1, if_pos (by omega)]
  · rw [if_neg h1]
    by_cases h2 : i % 1 = 0
    · rw [if_pos ⟨h2, h⟩, if_pos h2]
    · rw [if_neg (by omega), if_neg h2]
theorem tabf_next1 (a i : Nat) (h : a % (2 * 1) = 0) : (if i = a + 1 then step8 (a + 1) else tabf 1 a i) = tabf 1 (a + 2 * 1) i := by
  unfold tabf
  by_cases h1 : i = a + 1
  · subst h1
    rw [if_pos rfl, if_neg (by omega), if_pos (by omega)]
  · rw [if_neg h1]
    by_cases h2 : i % (2 * 1) = 0
    · rw [if_pos h2, if_pos h2]
    · rw [if_neg h2, if_neg h2]
      by_cases h3 : i % 1 = 0 ∧ i < a
      · rw [if_pos h3, if_pos (by omega)]
      · rw [if_neg h3, if_neg (by omega)]
theorem tabf_at1 (a : Nat) (h : a % (2 * 1) = 0) : tabf 1 a a = step8 a := by
  unfold tabf
  rw [if_pos h]
theorem step8_at1 (a : Nat) (h : a % (2 * 1) = 0) : step8 a ^^^ 4067132163 = step8 (a + 1) := by
  have hx : a + 1 = a ^^^ 1 := by
    have h2 : (2 : Nat) ^ 1 = 2 * 1 := by decide
    obtain ⟨q, rfl⟩ : ∃ q, a = 2 ^ 1 * q := ⟨a / (2 * 1), by rw [h2]; omega⟩
    apply Nat.eq_of_testBit_eq
    intro i
    rw [Nat.testBit_two_pow_mul_add _ (by decide), Nat.testBit_xor, Nat.testBit_two_pow_mul]
    by_cases hi : i < 1
    · have h8 : ¬ 1 ≤ i := by omega
      simp [hi, h8]
    · have h0 : Nat.testBit 1 i = false := Nat.testBit_lt_two_pow (Nat.lt_of_lt_of_le (by decide : 1 < 2 ^ 1) (Nat.pow_le_pow_right (by decide) (by omega)))
      have h8 : 1 ≤ i := by omega
      simp [hi, h0, h8]
  rw [hx, step8_xor, show step8 1 = 4067132163 by decide +kernel]
end Go.Proofs.YtpdfnlhhnodnjaaGreat.CrcP
end
