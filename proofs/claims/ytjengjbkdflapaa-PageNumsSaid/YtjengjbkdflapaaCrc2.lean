/-
  The walks of package crc: the sum of bytes.
-/
import Derived.Test.YtjengjbkdflapaaCrc
import Derived.Test.YtjengjbkdflapaaCut
import Derived.Test.YtjengjbkdflapaaApp
import Derived.Test.YtjengjbkdflapaaRefBytes
namespace Go.Proofs.Ytjengjbkdflapaa.CrcW
open Go.RowKit
attribute [local go_sem ↓] alT_fold ldT_fold stT_fold app_fold cut_fold

def st (u : Nat) (l : List UInt8) (k : Nat) : Nat := (l.take k).foldl CrcP.round (4294967295 - u)
theorem st_zero (u : Nat) (l : List UInt8) : st u l 0 = 4294967295 - u := rfl
theorem st_lt (u : Nat) (l : List UInt8) (k : Nat) : st u l k < 4294967296 := CrcP.fold_lt _ _ (by omega)
theorem st_succ (u : Nat) (l : List UInt8) (k : Nat) (h : k < l.length) : st u l (k + 1) = CrcP.round (st u l k) l[k] := by
  unfold st
  rw [List.take_succ_eq_append_getElem h, List.foldl_append]
  rfl
theorem st_all (u : Nat) (l : List UInt8) (k : Nat) (h : l.length ≤ k) : CrcP.more u l = 4294967295 - st u l k := by
  unfold st CrcP.more
  rw [List.take_of_length_le h]
theorem xor_ones (v : Nat) (h : v < 4294967296) : 4294967295 ^^^ v = 4294967295 - v := by
  have e := congrArg BitVec.toNat (BitVec.allOnes_xor (x := BitVec.ofNat 32 v))
  rw [BitVec.toNat_xor, BitVec.toNat_allOnes, BitVec.toNat_not, BitVec.toNat_ofNat, Nat.mod_eq_of_lt (by omega)] at e
  have h2 : (2 : Nat) ^ 32 = 4294967296 := by decide
  rw [h2] at e
  exact e
theorem not32 (v : Nat) (h : v < 4294967296) : bits .xor .u32 IntKind.u32.max (v : Int) = ((4294967295 - v : Nat) : Int) := by
  have e : IntKind.u32.max = ((4294967295 : Nat) : Int) := by decide
  rw [e, u32_xor_nat 4294967295 v (by omega) h, xor_ones v h]
theorem idx_lt (v : Nat) (c : UInt8) : v % 256 ^^^ c.toNat < 256 := by
  have hc := c.toNat_lt
  have : v % 256 ^^^ c.toNat < 2 ^ 8 := Nat.xor_lt_two_pow (by omega) (by omega)
  omega

set_option maxRecDepth 100000 in
set_option maxHeartbeats 1000000 in
theorem more_any (u : Nat) (hu : u < 4294967296) (A : Option Addr) (n c B : Nat) (l : List UInt8) (w : World) (h : Bytes w B A n c l) (hB : B ≤ w.heap.size) :
    Calls Try.prog 131 #[.int .u32 (u : Int), .slice A n c] w fun e w' => e = .returned (.int .u32 ((CrcP.more u l : Nat) : Int)) ∧ Below w.heap.size w w' := by
  have hn := Nat.le_trans h.2.1 h.2.2.1
  unfold maxLen at hn
  have hln := h.len
  have H := Lib.hid h
  have HLN := Lib.hid hln
  have hal := fun W => run_alT W
  clear h hln
  go_enter Try.func131, Try.ntmps131
  go_wp2_with fail
  refine (table_any _).mono ?_
  rintro e W1 ⟨rfl, hb1⟩
  have hst := run_stT (f := CrcP.step8) (Str.new W1 (rowU fun _ => 0) 150)
  obtain ⟨W2, hW2⟩ : ∃ W2, (W1.alloc (.cells (rowU fun _ => 0) 150)).setRow W1.heap.size (rowU CrcP.step8) = W2 := ⟨_, rfl⟩
  have hS : Str W2 W1.heap.size (rowU CrcP.step8) := by rw [← hW2]; exact (Str.new W1 _ _).setRow
  have hB2 : Below w.heap.size w W2 := by rw [← hW2]; exact below_setRow (balloc hb1 _) hb1.size _
  rw [hW2] at hst
  have HS := Lib.hid hS
  have HB := Lib.hid hB2
  have HY := Lib.hid (H.out.below (hB2.mono hB))
  have hnot : bits .xor .u32 IntKind.u32.max (u : Int) = ((st u l 0 : Nat) : Int) := not32 u hu
  clear hS hB2 hW2 hb1
  go_wp2_with fail
  clear hnot hst hal
  go_loop [6, 14] (fun s i => ∃ k : Nat, k ≤ n ∧ i = .int .i64 (k : Int) ∧ s = .int .u32 ((st u l k : Nat) : Int)) (fun _ i => n - (intOf i).toNat)
  case atStart => exact ⟨0, Nat.zero_le _, rfl, rfl⟩
  case round =>
    obtain ⟨k, hk, rfl, rfl⟩ := hrel
    by_cases hlt : k < n
    · have hkl : k < l.length := by rw [HLN.out]; exact hlt
      obtain ⟨b, o, rfl, hbB, hcell⟩ := HY.out.at_ hlt
      unfold byteV at hcell
      have HN := Lib.hid (st_succ u l k hkl)
      have hv := st_lt u l k
      generalize hc : l[k] = cb at *
      generalize hsv : st u l k = v at *
      have HSV := Lib.hid hsv
      clear hsv hc hkl
      have hcl := cb.toNat_lt
      have hj := idx_lt v cb
      have hx8 : bits .xor .u8 ((v : Int) % 256) (cb.toNat : Int) = ((v % 256 ^^^ cb.toNat : Nat) : Int) := by
        have := u8_xor_nat (v % 256) cb.toNat (by omega) (by omega)
        rwa [show ((v % 256 : Nat) : Int) = (v : Int) % 256 by omega] at this
      have hx32 : bits .xor .u32 ((v : Int) / 256) ((CrcP.step8 (v % 256 ^^^ cb.toNat) : Nat) : Int) = ((st u l (k + 1) : Nat) : Int) := by
        rw [HN.out, CrcP.round_table]
        have := u32_xor_nat (v / 256) (CrcP.step8 (v % 256 ^^^ cb.toNat)) (by omega) (CrcP.step8_lt _ (by omega))
        rwa [show ((v / 256 : Nat) : Int) = (v : Int) / 256 by omega] at this
      generalize hjj : v % 256 ^^^ cb.toNat = jx at *
      clear hjj
      have hct : W2.cell? ⟨W1.heap.size, jx, none⟩ = some (.int .u32 ((CrcP.step8 jx : Nat) : Int)) := by rw [HS.out.cell, rowU_get _ _ hj]
      have hj' : (jx : Int) < 256 := by omega
      go_wp2
      go_round
      case rel => exact ⟨k + 1, by omega, by go_num, rfl⟩
      case measure => simp [intOf]; omega
    · have HF := Lib.hid (st_all u l k (by rw [HLN.out]; omega))
      have hnot : bits .xor .u32 IntKind.u32.max ((st u l k : Nat) : Int) = ((CrcP.more u l : Nat) : Int) := by rw [not32 _ (st_lt u l k), HF.out]
      go_wp2
      go_ret
      exact ⟨rfl, HB.out⟩

set_option maxHeartbeats 400000 in
theorem sum_any (A : Option Addr) (n c B : Nat) (l : List UInt8) (w : World) (h : Bytes w B A n c l) (hB : B ≤ w.heap.size) :
    Calls Try.prog 120 #[.slice A n c] w fun e w' => e = .returned (.int .u32 ((CrcP.sum l : Nat) : Int)) ∧ Below w.heap.size w w' := by
  have H := Lib.hid h
  clear h
  go_enter Try.func120, Try.ntmps120
  go_wp2_with fail
  refine (more_any 0 (by omega) A n c B l _ H.out hB).mono ?_
  rintro e w1 ⟨rfl, hb⟩
  go_wp2_with fail
  go_ret
  exact ⟨rfl, hb⟩

theorem bit_any (v : Nat) (hv : v < 4294967296) (w : World) : Calls Try.prog 132 #[.int .u32 (v : Int)] w fun e w' => e = .returned (.int .u32 ((CrcP.bit v : Nat) : Int)) ∧ w = w' := by
  by_cases h : v % 2 = 1
  · have hb : CrcP.bit v = v / 2 ^^^ 2197175160 := by unfold CrcP.bit; rw [if_pos h]
    have HB := Lib.hid hb
    have hx : bits .xor .u32 ((v : Int) / 2) 2197175160 = ((v / 2 ^^^ 2197175160 : Nat) : Int) := by
      have := u32_xor_nat (v / 2) 2197175160 (by omega) (by omega)
      rwa [show ((v / 2 : Nat) : Int) = (v : Int) / 2 by omega] at this
    have h1 : ((v : Int) % 2 == 1) = true := by rw [beq_iff_eq]; omega
    have h0 : (0 : Int) ≤ (v : Int) := by omega
    clear hb h
    go_enter Try.func132, Try.ntmps132
    go_wp2
    go_ret
    rw [HB.out]
    exact ⟨rfl, rfl⟩
  · have hb : CrcP.bit v = v / 2 := by unfold CrcP.bit; rw [if_neg h]
    have HB := Lib.hid hb
    have h1 : ((v : Int) % 2 == 1) = false := by rw [beq_eq_false_iff_ne]; omega
    have h0 : (0 : Int) ≤ (v : Int) := by omega
    clear hb h
    go_enter Try.func132, Try.ntmps132
    go_wp2
    go_ret
    rw [HB.out]
    exact ⟨rfl, rfl⟩
end Go.Proofs.Ytjengjbkdflapaa.CrcW
