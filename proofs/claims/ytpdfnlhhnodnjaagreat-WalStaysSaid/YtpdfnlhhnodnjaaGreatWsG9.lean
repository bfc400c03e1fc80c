/-
  Parts of the proof of WalStays.
-/
import Derived.Test.YtpdfnlhhnodnjaaGreatWsG4
import Derived.Test.YtpdfnlhhnodnjaaGreatWsG1
import Derived.Lib.AppendZerosOnto
import Derived.Lib.AppendStr
import Derived.Deep.RegionWith
section
namespace Go.Proofs.YtpdfnlhhnodnjaaGreat
end Go.Proofs.YtpdfnlhhnodnjaaGreat
namespace Go.Proofs.YtpdfnlhhnodnjaaGreat.ConcatW
open Go.RowKit

abbrev Part := Option Addr × Nat × Nat × List UInt8
def partV (p : Part) : Value := .slice p.1 p.2.1 p.2.2.1
def total (ps : List Part) : Nat := (ps.map fun p => p.2.1).sum
def all (ps : List Part) : List UInt8 := ps.flatMap fun p => p.2.2.2
theorem total_succ (ps : List Part) (k : Nat) (h : k < ps.length) : total (ps.take (k + 1)) = total (ps.take k) + (ps[k]).2.1 := by
  unfold total
  rw [List.take_succ_eq_append_getElem h]
  simp only [List.map_append, List.map_cons, List.map_nil, List.sum_append, List.sum_cons, List.sum_nil, Nat.add_zero]
theorem all_succ (ps : List Part) (k : Nat) (h : k < ps.length) : all (ps.take (k + 1)) = all (ps.take k) ++ (ps[k]).2.2.2 := by
  unfold all
  rw [List.take_succ_eq_append_getElem h]
  simp only [List.flatMap_append, List.flatMap_cons, List.flatMap_nil, List.append_nil]
theorem total_le (ps : List Part) (k : Nat) : total (ps.take k) ≤ total ps := by
  conv => rhs; rw [← List.take_append_drop k ps]
  unfold total
  simp only [List.map_append, List.sum_append]
  omega
section
attribute [local go_sem ↓] app_fold
set_option maxRecDepth 100000 in
set_option maxHeartbeats 400000 in
theorem grow_any (k : Nat) (hk : k ≤ 1099511627776) (w : World) : Calls Tryz.prog 96 #[.slice none 0 0, .int .i64 (k : Int)] w fun e w' => ∃ A c, e = .returned (.slice A 0 c) ∧ Own w' w.heap.size A 0 c [] ∧ Below w.heap.size w w' := by
  by_cases h0 : k = 0
  · subst h0
    go_enter Tryz.func96, Tryz.ntmps96
    go_wp2
    go_ret
    exact ⟨none, 0, rfl, Own.none_ _ _, bsame w⟩
  · obtain ⟨i0, hi, hz0, hz1, hz2⟩ := info_parts Be.infoU8
    have happ : (appSem #[32, 3] 32 #[.slice none 0 0, .int .i64 (k : Int)]).run Tryz.prog w = .ok (.slice (some ⟨w.heap.size, 0, none⟩) k (grownCap w k 0 5)) (w.drew.alloc (.cells (Builtin.zeroCells (Value.int .u8 0).cells k ++ Builtin.zeroCells (Value.int .u8 0).cells (grownCap w k 0 5 - k)) 5)) := by
      unfold appSem
      have h := Lib.run_append_grow_zeros w 32 3 32 5 i0 _ .i64 .i64 Tryz.underlying32 Tryz.underlying3 hi hz0 none 0 0 [] (by exact run_firstCells_none w.drew i0.size 0 0 0) k (by omega) (by rw [hz1]; omega) (by omega) (by omega) (by rw [hz2]; omega) (by rw [Nat.zero_add]; exact growslice_fits (by omega) (by rw [hz2]; omega))
      simpa using h
    have hpos : (0 : Int) < (k : Int) := by omega
    go_enter Tryz.func96, Tryz.ntmps96
    go_wp2
    have hge := grownCap_ge w k 0 5
    have hle := grownCap_le_maxLen w k 0 5 (by unfold maxLen; omega)
    go_ret
    refine ⟨some ⟨w.heap.size, 0, none⟩, _, rfl, ⟨rfl, .inr ⟨_, _, _, rfl, Nat.le_refl _, heap_alloc_new w _, Nat.zero_le _, hle, ?_, by simp⟩⟩, bdrewN (balloc (bsame w) _) 1⟩
    rw [Array.size_append, size_zeroCells, size_zeroCells]
    simp
    omega

set_option maxRecDepth 100000 in
set_option maxHeartbeats 1000000 in
theorem concat_any (ps : List Part) (b : Nat) (w : World) (hS : Str w b (ps.map partV).toArray) (hY : ∀ p ∈ ps, Bytes w w.heap.size p.1 p.2.1 p.2.2.1 p.2.2.2) (hs : total ps ≤ 1099511627776) (hk : ps.length ≤ 100) :
    Calls Tryz.prog 67 #[.slice (some ⟨b, 0, none⟩) ps.length ps.length] w (GivesBytes w (all ps)) := by
  have HS := Lib.hid hS
  have HY := Lib.hid hY
  have hlt := hS.lt
  have hcell : ∀ k (h : k < ps.length), w.cell? ⟨b, k, none⟩ = some (.slice (ps[k]).1 (ps[k]).2.1 (ps[k]).2.2.1) := fun k h => by
    rw [hS.cell]
    simp [h, partV]
  have HC := Lib.hid hcell
  clear hS hY hcell
  obtain ⟨m, hm⟩ : ∃ m, ps.length = m := ⟨_, rfl⟩
  rw [hm] at hk ⊢
  have HM := Lib.hid hm
  clear hm
  go_enter Tryz.func67, Tryz.ntmps67
  go_wp2
  go_loopw [3, 11] (fun s i wr => ∃ k : Nat, k ≤ m ∧ i = .int .i64 (k : Int) ∧ s = .int .i64 (total (ps.take k) : Int) ∧ w = wr) (fun _ i _ => m - (intOf i).toNat)
  case atStart => exact ⟨0, Nat.zero_le _, rfl, rfl, rfl⟩
  case round =>
    obtain ⟨k, hkm, rfl, rfl, rfl⟩ := hrel
    by_cases hlt2 : k < m
    · have hx := HC.out k (by have := HM.out; omega)
      have HT := Lib.hid (total_succ ps k (by have := HM.out; omega))
      have hle := total_le ps (k + 1)
      rw [HT.out] at hle
      generalize hp : ps[k]'(by have := HM.out; omega) = p at *
      generalize total (ps.take k) = tk at *
      obtain ⟨A, n, c, l⟩ := p
      dsimp only at *
      go_wp2
      go_roundw
      case rel => exact ⟨k + 1, by omega, by go_num, by rw [HT.out]; simp, by simp⟩
      case measure => simp [intOf]; omega
    · have hkm' : m = k := by omega
      subst hkm'
      have ht : total (ps.take m) = total ps := by rw [List.take_of_length_le (by have := HM.out; omega)]
      rw [ht]
      go_wp2_with (go_at_call 96; refine (grow_any _ hs _).mono ?_; rintro e w1 ⟨A1, c1, rfl, hO1, hb1⟩)
      have HO1 := Lib.hid hO1
      have HB1 := Lib.hid hb1
      clear hO1 hb1 ht hkm hlt2
      go_loopw [6, 27] (fun s i wr => ∃ (k : Nat) (A : Option Addr) (n c : Nat), k ≤ m ∧ i = .int .i64 (k : Int) ∧ s = .slice A n c ∧ n = total (ps.take k) ∧ Own wr w.heap.size A n c (all (ps.take k)) ∧ Below w.heap.size w wr) (fun _ i _ => m - (intOf i).toNat)
      case atStart => exact ⟨0, A1, 0, c1, Nat.zero_le _, rfl, rfl, rfl, HO1.out, HB1.out⟩
      case round =>
        obtain ⟨k, A, n, c, hkm, rfl, rfl, hn, hO, hB⟩ := hrel
        by_cases hlt2 : k < m
        · have hkl : k < ps.length := by have := HM.out; omega
          have hy := (HY.out _ (List.getElem_mem hkl)).below (hB.mono (Nat.le_refl _))
          have hx : wr.cell? ⟨b, k, none⟩ = some (.slice (ps[k]).1 (ps[k]).2.1 (ps[k]).2.2.1) := (hB.cell (p := ⟨b, k, none⟩) hlt).trans (HC.out k hkl)
          have ht := total_succ ps k hkl
          have hle := total_le ps (k + 1)
          rw [ht, ← hn] at hle
          rw [← hn] at ht
          have HT := Lib.hid ht
          have HAL := Lib.hid (all_succ ps k hkl)
          generalize hp : ps[k] = p at *
          obtain ⟨A2, n2, c2, l2⟩ := p
          dsimp only at *
          obtain ⟨A3, c3, w3, happ3, hO3, hb3⟩ := hO.app hy (by omega) hB.size
          have HO3 := Lib.hid hO3
          have HB3 := Lib.hid (hB.trans hb3)
          have hws := hB.size
          have hltr : b < wr.heap.size := by omega
          clear hn ht hO hB hy hO3 hb3 hp hle
          go_wp2
          go_roundw
          case rel => exact ⟨k + 1, A3, n + n2, c3, by omega, by go_num, rfl, HT.out.symm, by rw [HAL.out]; exact HO3.out, HB3.out⟩
          case measure => simp [intOf]; omega
        · have hkm' : m = k := by omega
          subst hkm'
          rw [List.take_of_length_le (by have := HM.out; omega)] at hO
          have HO := Lib.hid hO
          have HB := Lib.hid hB
          clear hn hO hB
          go_wp2
          go_ret
          exact ⟨A, n, c, rfl, HO.out.bytes, HB.out⟩
end
end Go.Proofs.YtpdfnlhhnodnjaaGreat.ConcatW
end
section
namespace Go.Proofs.YtpdfnlhhnodnjaaGreat
open Go.RowKit

theorem Own.appStr {w : World} {base n c : Nat} {A : Option Addr} {l : List UInt8} (h : Own w base A n c l) (s : ByteArray) (hn : n + s.size ≤ 140737488355328) (hb : base ≤ w.heap.size) :
    ∃ A' c' w', (appSem #[32, 9] 32 #[.slice A n c, .string s]).run Tryz.prog w = .ok (.slice A' (n + s.size) c') w' ∧ Own w' base A' (n + s.size) c' (l ++ s.data.toList) ∧ Below base w w' := by
  obtain ⟨i0, hi, hz0, hz1, hz2⟩ := info_parts Be.infoU8
  obtain ⟨v', w', happ, hown, hgrow, _⟩ := Lib.run_append_own_string (P := Tryz.prog) w base 32 9 32 5 i0 Tryz.underlying32 Tryz.underlying9 hi hz0 hz1 hz2 (.slice A n c) n (l.map byteV) h s (by unfold maxLen; omega) hn hb
  obtain ⟨A', c', rfl⟩ := own_slice hown
  have hm : (l ++ s.data.toList).map byteV = l.map byteV ++ Lib.strCells s := by rw [List.map_append]; rfl
  refine ⟨A', c', w', happ, ?_, (Below.refl _ w).grown hgrow hb (own_block h)⟩
  unfold Own
  rw [hm]
  exact hown
end Go.Proofs.YtpdfnlhhnodnjaaGreat
end
section
namespace Go.Proofs.YtpdfnlhhnodnjaaGreat.CellPut
open Go.RowKit
attribute [local go_sem ↓] app_fold

/-- a slice in a box, which owns its bytes -/
def Out (w : World) (base B : Nat) (l : List UInt8) : Prop := ∃ v, Boxed w B 32 v ∧ w.ownsRow base 5 1 v l.length (l.map byteV) ∧ base ≤ B
def Added (w : World) (base B : Nat) (l : List UInt8) (e : Ending) (w' : World) : Prop := e = .returned (.tuple #[]) ∧ Out w' base B l ∧ Below base w w'

set_option maxHeartbeats 1000000 in
theorem add_any (base B width : Nat) (m : Int) (l : List UInt8) (w : World) (h : Out w base B l) (hw1 : 1 ≤ width) (hw8 : width ≤ 8) (hn : l.length + 8 ≤ 140737488355328) :
    Calls Tryz.prog 112 #[.int .i64 (width : Int), .int .i64 m, .pointer (some ⟨B, 0, none⟩)] w (Added w base B (l ++ BeP.parts width m)) := by
  obtain ⟨v, hbox, hown, hbase⟩ := h
  obtain ⟨i0, hi, hz0, hz1, hz2⟩ := info_parts Be.infoU8
  have hc := hbox.cell
  have hlt := hbox.lt
  have HBOX := Lib.hid hbox
  have HOWN := Lib.hid hown
  clear hbox hown
  have hpl := BeP.parts_length width m
  have HPL := Lib.hid hpl
  clear hpl
  go_enter Tryz.func112, Tryz.ntmps112
  go_wp2
  go_region_with ((go_at_call 40; refine (Be.put_wide none 0 0 0 [] width m _ (Bytes.none_ _ _) (Nat.zero_le _) hw1 hw8 (by omega)).mono ?_; rintro e w1 ⟨A1, n1, c1, rfl, hby, hb⟩; have hn1 : n1 = width := hby.len.symm.trans (by simp [HPL.out]); have hbs := hb.size; obtain ⟨v', w2, happ, hown2, hgrow2⟩ := run_append_bytes (P := Tryz.prog) w1 base 32 32 5 i0 _ Tryz.underlying32 hi hz0 hz1 hz2 rfl v l.length (l.map byteV) (own_next HOWN.out.drew hb) w1.heap.size A1 n1 c1 _ hby (by omega) (by simp at hbs; omega); obtain ⟨g', cap', hv', -, -⟩ := hown2.form (by omega); have hb1 : Boxed w1 B 32 v := (hb.block B hlt).trans HBOX.out; have hb2 : Boxed w2 B 32 v := hb1.kept hgrow2 (hb1.not_row (by decide) (own_next HOWN.out.drew hb)); have hc1 := hb1.cell; have hc2 := hb2.cell; have hf2 := hb2.frozen; subst hv'; have HBY := Lib.hid hby; have HB := Lib.hid hb; have HO2 := Lib.hid hown2; have HG2 := Lib.hid hgrow2; have HN1 := Lib.hid hn1; clear hby hb hown2 hgrow2 hn1))
  all_goals go_end0
  all_goals
    have h3 : base ≤ w.heap.size := by omega
    have hbw : Below base w w1 := (Below.refl base w).drew.trans (HB.out.mono (by simpa using h3))
    refine ⟨rfl, ⟨_, hb2.set _, ?_, hbase⟩, (hbw.grown HG2.out (by simp at hbs; omega) (fun k e => ?_)).setCell hbase _⟩
    · have hl1 := HN1.out
      have hl2 := HPL.out
      have hx : (l ++ BeP.parts width m).length = l.length + n1 := by simp; omega
      have hxs : (l ++ BeP.parts width m).map byteV = l.map byteV ++ ([] ++ BeP.parts width m).map byteV := by simp
      rw [hx, hxs]
      exact HO2.out.kept (grownBy_setCell' w2 B _) (.inr (hb2.not_row (by decide) HO2.out).symm)
    · rcases HOWN.out.2 with ⟨rfl, _⟩ | ⟨g, cap, cur, rfl, hg, _⟩
      · simp [Value.ownBlock] at e
      · obtain rfl : g = k := by simpa [Value.ownBlock] using e
        exact hg

theorem bytes_rec (c : Cell) (hr : CellP.right c = true) (hk : c.kind = 1) : CellP.bytes c = BeP.parts 1 c.kind ++ (BeP.parts 1 (c.data.length : Int) ++ c.data) := by
  have h32 : c.data.length ≤ 32 := by
    unfold CellP.right at hr
    rw [if_pos hk] at hr
    simp at hr
    exact hr.1
  unfold CellP.bytes
  rw [if_pos hr, if_pos hk, hk]
  have e1 : BeP.parts 1 1 = [1] := by decide
  have e2 : BeP.parts 1 (c.data.length : Int) = [UInt8.ofNat c.data.length] := by
    have : BeP.u64 (c.data.length : Int) = c.data.length := by unfold BeP.u64; omega
    simp [BeP.parts, BeP.part, this]
  rw [e1, e2]
  rfl
theorem bytes_cnt (c : Cell) (hr : CellP.right c = true) (hk : c.kind = 2) : CellP.bytes c = BeP.parts 1 c.kind ++ (BeP.parts 8 c.lo ++ (BeP.parts 8 c.hi ++ BeP.parts 8 c.val)) := by
  unfold CellP.bytes
  rw [if_pos hr, if_neg (by omega), hk]
  have e1 : BeP.parts 1 2 = [2] := by decide
  rw [e1]

set_option maxHeartbeats 1000000 in
theorem put_any (A A' : Option Addr) (n c n' cap' B B' : Nat) (l : List UInt8) (x : Cell) (w : World) (h : Bytes w B A n c l) (hB : B ≤ w.heap.size) (h' : Bytes w B' A' n' cap' x.data) (hB' : B' ≤ w.heap.size) (hn : n ≤ 100000000000000) :
    Calls Tryz.prog 97 #[.slice A n c, .agg #[.int .i64 x.kind, .slice A' n' cap', .int .i64 x.lo, .int .i64 x.hi, .int .i64 x.val]] w (GivesBytes w (l ++ CellP.bytes x)) := by
  obtain ⟨i0, hi, hz0, hz1, hz2⟩ := info_parts Be.infoU8
  have hln := h.len
  have hlx := h'.len
  have hmx := Nat.le_trans h'.2.1 h'.2.2.1
  have HLN := Lib.hid hln
  have hmk : ∀ W : World, (Instr.makeSlice 32 (.int .i64 0) (.int .i64 ((n : Int) + 2 + 32))).run Tryz.prog W = .ok (.slice (some ⟨W.heap.size, 0, none⟩) 0 (n + 34)) (W.alloc (.cells (zerosV (n + 34)).toArray 5)) := fun W => by
    have := Be.run_make_b 0 (n + 34) (by omega) (by omega) W
    have e : ((n + 34 : Nat) : Int) = (n : Int) + 2 + 32 := by omega
    rw [e] at this
    exact this
  obtain ⟨kind, data, lo, hi', val⟩ := x
  dsimp only at *
  -- the world behind make, and the append of b
  obtain ⟨W1, hW1⟩ : ∃ W1, w.alloc (.cells #[.int .i64 kind, .slice A' n' cap', .int .i64 lo, .int .i64 hi', .int .i64 val] 34) = W1 := ⟨_, rfl⟩
  have hz1' : W1.heap.size = w.heap.size + 1 := by rw [← hW1]; simp
  have hown0 : (W1.alloc (.cells (zerosV (n + 34)).toArray 5)).ownsRow (w.heap.size + 1) 5 1 (.slice (some ⟨W1.heap.size, 0, none⟩) 0 (n + 34)) 0 [] :=
    ⟨rfl, .inr ⟨_, _, _, rfl, by omega, heap_alloc_new W1 _, by omega, by unfold maxLen; omega, by simp [zerosV_length], by simp⟩⟩
  have hbyW : Bytes (W1.alloc (.cells (zerosV (n + 34)).toArray 5)) B A n c l := by
    rw [← hW1]
    exact (h.alloc hB _).alloc (by simp; omega) _
  obtain ⟨v', w3, happ, hown3, hgrow3⟩ := run_append_bytes (P := Tryz.prog) (W1.alloc (.cells (zerosV (n + 34)).toArray 5)) (w.heap.size + 1) 32 32 5 i0 _ Tryz.underlying32 hi hz0 hz1 hz2 rfl _ 0 [] hown0 B A n c l hbyW (by omega) (by simp; omega)
  simp only [Nat.zero_add, List.nil_append] at hown3
  obtain ⟨A3, c3, rfl⟩ := own_slice hown3
  have hb3 : Below (w.heap.size + 1) W1 w3 := ((Below.refl _ W1).alloc (by omega) _).grown hgrow3 (by simp; omega) (own_block hown0)
  have HO3 := Lib.hid hown3
  have HB3 := Lib.hid hb3
  rw [hz1'] at happ
  clear hown3 hb3 hgrow3 hown0 hbyW hz1'
  subst hW1
  have HLX := Lib.hid hlx
  have H' := Lib.hid h'
  clear hln hlx h h'
  have hs3 := HB3.out.size
  simp only [World.size_alloc] at hs3
  have k0 := HB3.out.cell (p := ⟨w.heap.size, 0, none⟩) (by simp)
  have k1 := HB3.out.cell (p := ⟨w.heap.size, 1, none⟩) (by simp)
  have k2 := HB3.out.cell (p := ⟨w.heap.size, 2, none⟩) (by simp)
  have k3 := HB3.out.cell (p := ⟨w.heap.size, 3, none⟩) (by simp)
  have k4 := HB3.out.cell (p := ⟨w.heap.size, 4, none⟩) (by simp)
  simp at k0 k1 k2 k3 k4
  have hs3' : w.heap.size < w3.heap.size := by omega
  have bO := Boxed.new w3 32 (.slice A3 n c3)
  have HBO := Lib.hid bO
  clear bO hs3
  cases hr : CellP.right ⟨kind, data, lo, hi', val⟩
  · have hc1 : CellP.code false = 1 := rfl
    go_enter Tryz.func97, Tryz.ntmps97
    go_wp2_with (go_at_call 110; refine (CellW.check_any A' n' cap' ⟨kind, data, lo, hi', val⟩ _ HLX.out hmx).mono ?_; rintro e w4 ⟨rfl, hb4⟩; rw [hr]; obtain ⟨hq4, hf4⟩ := bcell hb4)
    go_ret
    have hl : l ++ CellP.bytes ⟨kind, data, lo, hi', val⟩ = l := by simp [CellP.bytes, hr]
    rw [hl]
    have hbW : Below w.heap.size w w4 := (balloc (bsame w) _).trans ((HB3.out.mono (by omega)).trans (((Below.refl _ w3).alloc (by omega) _).trans (hb4.mono (by simp; omega))))
    obtain ⟨A9, n9, c9, e9, hby9⟩ := Bytes.of_own (own_next (HO3.out.alloc _) hb4)
    cases e9
    exact ⟨A3, n, c3, rfl, hby9, hbW⟩
  · have hc0 : CellP.code true = 0 := rfl
    have hb34 : Below w.heap.size w (w3.alloc (.cells #[.slice A3 n c3] 32)) := (balloc (bsame w) _).trans ((HB3.out.mono (by omega)).trans ((Below.refl _ w3).alloc (by omega) _))
    have HB34 := Lib.hid hb34
    clear hb34
    go_enter Tryz.func97, Tryz.ntmps97
    go_wp2_with (go_at_call 110; refine (CellW.check_any A' n' cap' ⟨kind, data, lo, hi', val⟩ _ HLX.out hmx).mono ?_; rintro e w4 ⟨rfl, hb4⟩; rw [hr]; obtain ⟨hq4, hf4⟩ := bcell hb4)
    have hO4 : Out w4 (w.heap.size + 1) w3.heap.size l := by
      refine ⟨_, (hb4.block _ (by simp)).trans HBO.out, ?_, by omega⟩
      rw [HLN.out]
      exact own_next (HO3.out.alloc _) hb4
    have hs4 := hb4.size
    simp only [World.size_alloc] at hs4
    have hB4 : Below w.heap.size w w4 := HB34.out.trans (hb4.mono (by simp; omega))
    have HB4 := Lib.hid hB4
    clear hB4
    refine (add_any (w.heap.size + 1) w3.heap.size 1 kind l w4 hO4 (by omega) (by omega) (by rw [HLN.out]; omega)).mono ?_
    rintro e w5 ⟨rfl, hO5, hb5⟩
    have hq5 := fun o => hb5.cell (p := ⟨w.heap.size, o, none⟩) (by simp)
    have HB5 := Lib.hid (HB4.out.trans (hb5.mono (by omega)))
    have HO5 := Lib.hid hO5
    have hs5 := hb5.size
    clear hO4 hO5 hb5
    have hp1 := BeP.parts_length 1 kind
    by_cases hk : kind = 1
    · have HBY := Lib.hid (bytes_rec ⟨kind, data, lo, hi', val⟩ hr hk)
      have hkb : (kind == 1) = true := by simpa using hk
      have h32 : n' ≤ 32 := by
        have := HLX.out
        unfold CellP.right at hr
        rw [if_pos hk] at hr
        simp at hr
        omega
      clear hk
      go_wp2_with fail
      have HLX' := HLX.out
      refine (add_any (w.heap.size + 1) w3.heap.size 1 (n' : Int) (l ++ BeP.parts 1 kind) w5 HO5.out (by omega) (by omega) (by simp [hp1, HLN.out]; omega)).mono ?_
      rintro e w6 ⟨rfl, hO6, hb6⟩
      have hq6 := fun o => hb6.cell (p := ⟨w.heap.size, o, none⟩) (by simp)
      have HB6 := Lib.hid (HB5.out.trans (hb6.mono (by omega)))
      have hs6 := hb6.size
      have hp2 := BeP.parts_length 1 (n' : Int)
      obtain ⟨v6, hbx6, hown6, -⟩ := hO6
      have hc6 := hbx6.cell
      obtain ⟨v7, w7, happ7, hown7, hgrow7⟩ := run_append_bytes (P := Tryz.prog) w6 (w.heap.size + 1) 32 32 5 i0 _ Tryz.underlying32 hi hz0 hz1 hz2 rfl v6 _ _ hown6 B' A' n' cap' data (H'.out.below (HB6.out.mono hB')) (by simp [hp1, hp2, HLN.out]; omega) (by omega)
      have hfin : Below w.heap.size w w7 := HB6.out.grown hgrow7 (by omega) (fun k e => by have := own_block hown6 k e; omega)
      obtain ⟨A9, n9, c9, rfl, hby9⟩ := Bytes.of_own (l := (l ++ BeP.parts 1 kind ++ BeP.parts 1 (n' : Int)) ++ data) (by simpa using hown7)
      have HF := Lib.hid hfin
      have HY := Lib.hid hby9
      clear hfin hby9 hown7 hgrow7 hbx6 hown6 hb6 hp1 hp2
      go_wp2_with fail
      go_ret
      rw [HBY.out]
      refine ⟨A9, n9, c9, rfl, ?_, HF.out⟩
      have := HY.out
      rw [← HLX'] at this
      simpa using this
    · have hk2 : kind = 2 := by
        unfold CellP.right at hr
        rw [if_neg hk] at hr
        simp at hr
        exact hr.1
      have HBY := Lib.hid (bytes_cnt ⟨kind, data, lo, hi', val⟩ hr hk2)
      have hkb : (kind == 1) = false := by simpa using hk
      clear hk hk2
      have hp2 := BeP.parts_length 8 lo
      have hp3 := BeP.parts_length 8 hi'
      go_wp2_with fail
      refine (add_any (w.heap.size + 1) w3.heap.size 8 lo (l ++ BeP.parts 1 kind) w5 HO5.out (by omega) (by omega) (by simp [hp1, HLN.out]; omega)).mono ?_
      rintro e w6 ⟨rfl, hO6, hb6⟩
      have hq6 := fun o => hb6.cell (p := ⟨w.heap.size, o, none⟩) (by simp)
      have HB6 := Lib.hid (HB5.out.trans (hb6.mono (by omega)))
      have HO6 := Lib.hid hO6
      have hs6 := hb6.size
      clear hO6 hb6
      go_wp2_with fail
      refine (add_any (w.heap.size + 1) w3.heap.size 8 hi' (l ++ BeP.parts 1 kind ++ BeP.parts 8 lo) w6 HO6.out (by omega) (by omega) (by simp [hp1, hp2, HLN.out]; omega)).mono ?_
      rintro e w7 ⟨rfl, hO7, hb7⟩
      have hq7 := fun o => hb7.cell (p := ⟨w.heap.size, o, none⟩) (by simp)
      have HB7 := Lib.hid (HB6.out.trans (hb7.mono (by omega)))
      have HO7 := Lib.hid hO7
      have hs7 := hb7.size
      clear hO7 hb7
      go_wp2_with fail
      refine (add_any (w.heap.size + 1) w3.heap.size 8 val (l ++ BeP.parts 1 kind ++ BeP.parts 8 lo ++ BeP.parts 8 hi') w7 HO7.out (by omega) (by omega) (by simp [hp1, hp2, hp3, HLN.out]; omega)).mono ?_
      rintro e w8 ⟨rfl, hO8, hb8⟩
      have HB8 := Lib.hid (HB7.out.trans (hb8.mono (by omega)))
      obtain ⟨v8, hbx8, hown8, -⟩ := hO8
      have hc8 := hbx8.cell
      obtain ⟨A9, n9, c9, rfl, hby9⟩ := Bytes.of_own hown8
      have HY := Lib.hid hby9
      clear hby9 hbx8 hown8 hb8 hp1 hp2 hp3
      go_wp2_with fail
      go_ret
      rw [HBY.out]
      refine ⟨A9, n9, c9, rfl, ?_, HB8.out⟩
      have := HY.out
      simpa using this
end Go.Proofs.YtpdfnlhhnodnjaaGreat.CellPut
end
section
namespace Go.Proofs.YtpdfnlhhnodnjaaGreat
open Go.RowKit
set_option maxRecDepth 100000

theorem arr64 : ArrT Tryz.prog 118 64 := ⟨⟨5, Tryz.underlying118, Tryz.underlying5, Be.sizeU8⟩, by kernel_rfl, by kernel_rfl⟩
theorem al64_fold : Instr.alloc 118 true (.tuple #[]) = alSem 118 := rfl
theorem bd64_fold (ps : Array (Nat × Value)) : Instr.build 118 ps = bdSem 118 ps := rfl
theorem ld64_fold (v : Value) : Instr.loadAt 118 v = ldSem 118 v := rfl
theorem st64_fold (a v : Value) : Instr.storeAt 118 a v = stSem 118 a v := rfl
theorem arrPage : ArrT Tryz.prog 75 512 := ⟨⟨5, Tryz.underlying75, Tryz.underlying5, Be.sizeU8⟩, by kernel_rfl, by kernel_rfl⟩
theorem alPage_fold : Instr.alloc 75 true (.tuple #[]) = alSem 75 := rfl
theorem bdPage_fold (ps : Array (Nat × Value)) : Instr.build 75 ps = bdSem 75 ps := rfl
theorem ldPage_fold (v : Value) : Instr.loadAt 75 v = ldSem 75 v := rfl
theorem stPage_fold (a v : Value) : Instr.storeAt 75 a v = stSem 75 a v := rfl
theorem sl64_fold (x : Value) (lo hi mx : Option Value) : Instr.sliceAt 118 x lo hi mx = slSem 118 x lo hi mx := rfl
end Go.Proofs.YtpdfnlhhnodnjaaGreat
end
