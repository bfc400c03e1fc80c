/-
  The walks of slices.Grow (of nil) and slices.Concat, of bytes.
-/
import Derived.Test.YtcagflakmokoiaaApp
import Derived.Test.YtcagflakmokoiaaBox
import Derived.Lib.AppendZerosOnto
namespace Go.Proofs.Ytcagflakmokoiaa
theorem litBytes (w : World) (l : List UInt8) (C : Array Value) (hC : C = (l.map byteV).toArray) (t : TypeId) (fr : Nat × Nat) (hl : l.length ≤ maxLen) : Bytes (w.alloc (.cells C t fr)) (w.heap.size + 1) (some ⟨w.heap.size, 0, none⟩) l.length l.length l := by
  refine ⟨rfl, Nat.le_refl _, hl, fun _ => ⟨w.heap.size, 0, rfl, by omega, fun j u hu => ?_⟩⟩
  rw [World.cell?_alloc_mark, hC]
  simp [hu]
end Go.Proofs.Ytcagflakmokoiaa
namespace Go.Proofs.Ytcagflakmokoiaa.ConcatW
open Go.RowKit

abbrev Part := Option Addr × Nat × Nat × List UInt8
def partV (p : Part) : Value := .slice p.1 p.2.1 p.2.2.1
def total (ps : List Part) : Nat := (ps.map fun p => p.2.1).sum
def all (ps : List Part) : List UInt8 := ps.flatMap fun p => p.2.2.2
theorem total_succ (ps : List Part) (k : Nat) (h : k < ps.length) : total (ps.take (k + 1)) = total (ps.take k) + (ps[k]).2.1 := by
  unfold total
  rw [List.take_succ_eq_append_getElem h]
  simp only [List.map_append, List.map_cons, List.map_nil, List.sum_append, List.sum_cons, List.sum_nil, Nat.add_zero]
theorem all_succ (ps : List Part) (k : Nat) (h : k < ps.length) : all (ps.take (k + 1)) = all (ps.take k) ++ (ps[k]).2.2.2 := by
  unfold all
  rw [List.take_succ_eq_append_getElem h]
  simp only [List.flatMap_append, List.flatMap_cons, List.flatMap_nil, List.append_nil]
theorem total_le (ps : List Part) (k : Nat) : total (ps.take k) ≤ total ps := by
  conv => rhs; rw [← List.take_append_drop k ps]
  unfold total
  simp only [List.map_append, List.sum_append]
  omega
section
attribute [local go_sem ↓] app_fold
set_option maxRecDepth 100000 in
set_option maxHeartbeats 400000 in
theorem grow_any (k : Nat) (hk : k ≤ 1099511627776) (w : World) : Calls Try.prog 141 #[.slice none 0 0, .int .i64 (k : Int)] w fun e w' => ∃ A c, e = .returned (.slice A 0 c) ∧ Own w' w.heap.size A 0 c [] ∧ Below w.heap.size w w' := by
  by_cases h0 : k = 0
  · subst h0
    go_enter Try.func141, Try.ntmps141
    go_wp2
    go_ret
    exact ⟨none, 0, rfl, Own.none_ _ _, bsame w⟩
  · obtain ⟨i0, hi, hz0, hz1, hz2⟩ := info_parts Be.infoU8
    have happ : (appSem #[22, 3] 22 #[.slice none 0 0, .int .i64 (k : Int)]).run Try.prog w = .ok (.slice (some ⟨w.heap.size, 0, none⟩) k (grownCap w k 0 5)) (w.drew.alloc (.cells (Builtin.zeroCells (Value.int .u8 0).cells k ++ Builtin.zeroCells (Value.int .u8 0).cells (grownCap w k 0 5 - k)) 5)) := by
      unfold appSem
      have h := Lib.run_append_grow_zeros w 22 3 22 5 i0 _ .i64 .i64 Try.underlying22 Try.underlying3 hi hz0 none 0 0 [] (by exact run_firstCells_none w.drew i0.size 0 0 0) k (by omega) (by rw [hz1]; omega) (by omega) (by omega) (by rw [hz2]; omega) (by rw [Nat.zero_add]; exact growslice_fits (by omega) (by rw [hz2]; omega))
      simpa using h
    have hpos : (0 : Int) < (k : Int) := by omega
    go_enter Try.func141, Try.ntmps141
    go_wp2
    have hge := grownCap_ge w k 0 5
    have hle := grownCap_le_maxLen w k 0 5 (by unfold maxLen; omega)
    go_ret
    refine ⟨some ⟨w.heap.size, 0, none⟩, _, rfl, ⟨rfl, .inr ⟨_, _, _, rfl, Nat.le_refl _, heap_alloc_new w _, Nat.zero_le _, hle, ?_, by simp⟩⟩, bdrewN (balloc (bsame w) _) 1⟩
    rw [Array.size_append, size_zeroCells, size_zeroCells]
    simp
    omega

set_option maxRecDepth 100000 in
set_option maxHeartbeats 1000000 in
theorem concat_any (ps : List Part) (b : Nat) (w : World) (hS : Str w b (ps.map partV).toArray) (hY : ∀ p ∈ ps, Bytes w w.heap.size p.1 p.2.1 p.2.2.1 p.2.2.2) (hs : total ps ≤ 1099511627776) (hk : ps.length ≤ 100) :
    Calls Try.prog 110 #[.slice (some ⟨b, 0, none⟩) ps.length ps.length] w (GivesBytes w (all ps)) := by
  have HS := Lib.hid hS
  have HY := Lib.hid hY
  have hlt := hS.lt
  have hcell : ∀ k (h : k < ps.length), w.cell? ⟨b, k, none⟩ = some (.slice (ps[k]).1 (ps[k]).2.1 (ps[k]).2.2.1) := fun k h => by
    rw [hS.cell]
    simp [h, partV]
  have HC := Lib.hid hcell
  clear hS hY hcell
  obtain ⟨m, hm⟩ : ∃ m, ps.length = m := ⟨_, rfl⟩
  rw [hm] at hk ⊢
  have HM := Lib.hid hm
  clear hm
  go_enter Try.func110, Try.ntmps110
  go_wp2
  go_loopw [3, 11] (fun s i wr => ∃ k : Nat, k ≤ m ∧ i = .int .i64 (k : Int) ∧ s = .int .i64 (total (ps.take k) : Int) ∧ w = wr) (fun _ i _ => m - (intOf i).toNat)
  case atStart => exact ⟨0, Nat.zero_le _, rfl, rfl, rfl⟩
  case round =>
    obtain ⟨k, hkm, rfl, rfl, rfl⟩ := hrel
    by_cases hlt2 : k < m
    · have hx := HC.out k (by have := HM.out; omega)
      have HT := Lib.hid (total_succ ps k (by have := HM.out; omega))
      have hle := total_le ps (k + 1)
      rw [HT.out] at hle
      generalize hp : ps[k]'(by have := HM.out; omega) = p at *
      generalize total (ps.take k) = tk at *
      obtain ⟨A, n, c, l⟩ := p
      dsimp only at *
      go_wp2
      go_roundw
      case rel => exact ⟨k + 1, by omega, by go_num, by rw [HT.out]; simp, by simp⟩
      case measure => simp [intOf]; omega
    · have hkm' : m = k := by omega
      subst hkm'
      have ht : total (ps.take m) = total ps := by rw [List.take_of_length_le (by have := HM.out; omega)]
      rw [ht]
      go_wp2_with (go_at_call 141; refine (grow_any _ hs _).mono ?_; rintro e w1 ⟨A1, c1, rfl, hO1, hb1⟩)
      have HO1 := Lib.hid hO1
      have HB1 := Lib.hid hb1
      clear hO1 hb1 ht hkm hlt2
      go_loopw [6, 27] (fun s i wr => ∃ (k : Nat) (A : Option Addr) (n c : Nat), k ≤ m ∧ i = .int .i64 (k : Int) ∧ s = .slice A n c ∧ n = total (ps.take k) ∧ Own wr w.heap.size A n c (all (ps.take k)) ∧ Below w.heap.size w wr) (fun _ i _ => m - (intOf i).toNat)
      case atStart => exact ⟨0, A1, 0, c1, Nat.zero_le _, rfl, rfl, rfl, HO1.out, HB1.out⟩
      case round =>
        obtain ⟨k, A, n, c, hkm, rfl, rfl, hn, hO, hB⟩ := hrel
        by_cases hlt2 : k < m
        · have hkl : k < ps.length := by have := HM.out; omega
          have hy := (HY.out _ (List.getElem_mem hkl)).below (hB.mono (Nat.le_refl _))
          have hx : wr.cell? ⟨b, k, none⟩ = some (.slice (ps[k]).1 (ps[k]).2.1 (ps[k]).2.2.1) := (hB.cell (p := ⟨b, k, none⟩) hlt).trans (HC.out k hkl)
          have ht := total_succ ps k hkl
          have hle := total_le ps (k + 1)
          rw [ht, ← hn] at hle
          rw [← hn] at ht
          have HT := Lib.hid ht
          have HAL := Lib.hid (all_succ ps k hkl)
          generalize hp : ps[k] = p at *
          obtain ⟨A2, n2, c2, l2⟩ := p
          dsimp only at *
          obtain ⟨A3, c3, w3, happ3, hO3, hb3⟩ := hO.app hy (by omega) hB.size
          have HO3 := Lib.hid hO3
          have HB3 := Lib.hid (hB.trans hb3)
          have hws := hB.size
          have hltr : b < wr.heap.size := by omega
          clear hn ht hO hB hy hO3 hb3 hp hle
          go_wp2
          go_roundw
          case rel => exact ⟨k + 1, A3, n + n2, c3, by omega, by go_num, rfl, HT.out.symm, by rw [HAL.out]; exact HO3.out, HB3.out⟩
          case measure => simp [intOf]; omega
        · have hkm' : m = k := by omega
          subst hkm'
          rw [List.take_of_length_le (by have := HM.out; omega)] at hO
          have HO := Lib.hid hO
          have HB := Lib.hid hB
          clear hn hO hB
          go_wp2
          go_ret
          exact ⟨A, n, c, rfl, HO.out.bytes, HB.out⟩
end
end Go.Proofs.Ytcagflakmokoiaa.ConcatW
