/-
  Parts of the proof of PoolNils.
-/
import Derived.Test.YtcfieofcnpalgaaProg
import Derived.Test.YtcfieofcnpalgaaPoolG8
import Derived.Test.YtcfieofcnpalgaaPoolG1
import Derived.Test.YtcfieofcnpalgaaPoolG0
import Derived.Deep.RegionWith
section
namespace Go.Proofs.Ytcfieofcnpalgaa.CellW
open Go.RowKit

theorem code_of (b : Bool) (n : Int) (h : n = CellP.code b) : Ending.returned (.int .i64 n) = Ending.returned (.int .i64 (CellP.code b)) := by rw [h]

set_option maxHeartbeats 1000000 in
theorem check_any (A : Option Addr) (n cap : Nat) (c : Cell) (w : World) (hl : c.data.length = n) (hn : n ≤ maxLen) :
    Calls Try.prog 81 #[.agg #[.int .i64 c.kind, .slice A n cap, .int .i64 c.lo, .int .i64 c.hi, .int .i64 c.val]] w fun e w' => e = .returned (.int .i64 (CellP.code (CellP.right c))) ∧ Below w.heap.size w w' := by
  obtain ⟨kind, data, lo, hi, val⟩ := c
  dsimp only at *
  subst hl
  unfold maxLen at hn
  by_cases hk : kind = 1
  · subst hk
    by_cases h1 : lo = 0
    · subst h1
      by_cases h2 : hi = 0
      · subst h2
        by_cases h3 : val = 0
        · subst h3
          by_cases h4 : data.length ≤ 32
          · have HR : Hid (0 = CellP.code (CellP.right ⟨1, data, 0, 0, 0⟩)) := Lib.hid (by simp [CellP.right, CellP.code, h4])
            go_enter Try.func81, Try.ntmps81
            go_wp2
            go_ret
            exact ⟨code_of _ _ HR.out, balloc (bsame _) _⟩
          · have HR : Hid (1 = CellP.code (CellP.right ⟨1, data, 0, 0, 0⟩)) := Lib.hid (by simp [CellP.right, CellP.code, h4])
            go_enter Try.func81, Try.ntmps81
            go_wp2
            go_ret
            exact ⟨code_of _ _ HR.out, balloc (bsame _) _⟩
        · have hb : (val != 0) = true := by simpa using h3
          have HR : Hid (1 = CellP.code (CellP.right ⟨1, data, 0, 0, val⟩)) := Lib.hid (by simp [CellP.right, CellP.code, h3])
          go_enter Try.func81, Try.ntmps81
          go_wp2
          go_ret
          exact ⟨code_of _ _ HR.out, balloc (bsame _) _⟩
      · have hb : (hi != 0) = true := by simpa using h2
        have HR : Hid (1 = CellP.code (CellP.right ⟨1, data, 0, hi, val⟩)) := Lib.hid (by simp [CellP.right, CellP.code, h2])
        go_enter Try.func81, Try.ntmps81
        go_wp2
        go_ret
        exact ⟨code_of _ _ HR.out, balloc (bsame _) _⟩
    · have hb : (lo != 0) = true := by simpa using h1
      have HR : Hid (1 = CellP.code (CellP.right ⟨1, data, lo, hi, val⟩)) := Lib.hid (by simp [CellP.right, CellP.code, h1])
      go_enter Try.func81, Try.ntmps81
      go_wp2
      go_ret
      exact ⟨code_of _ _ HR.out, balloc (bsame _) _⟩
  by_cases hk2 : kind = 2
  · subst hk2
    by_cases h1 : 0 < data.length
    · have hz : data.length ≠ 0 := by omega
      have HR : Hid (1 = CellP.code (CellP.right ⟨2, data, lo, hi, val⟩)) := Lib.hid (by simp [CellP.right, CellP.code]; intro h; simp [h] at h1)
      clear hz
      go_enter Try.func81, Try.ntmps81
      go_wp2
      go_ret
      exact ⟨code_of _ _ HR.out, balloc (bsame _) _⟩
    · have h1' : data = [] := List.eq_nil_of_length_eq_zero (by omega)
      subst h1'
      clear h1
      by_cases h2 : val < lo
      · have HR : Hid (1 = CellP.code (CellP.right ⟨2, [], lo, hi, val⟩)) := Lib.hid (by simp [CellP.right, CellP.code]; omega)
        go_enter Try.func81, Try.ntmps81
        go_wp2
        go_ret
        exact ⟨code_of _ _ HR.out, balloc (bsame _) _⟩
      · by_cases h3 : hi < val
        · have HR : Hid (1 = CellP.code (CellP.right ⟨2, [], lo, hi, val⟩)) := Lib.hid (by simp [CellP.right, CellP.code]; omega)
          go_enter Try.func81, Try.ntmps81
          go_wp2
          go_ret
          exact ⟨code_of _ _ HR.out, balloc (bsame _) _⟩
        · have HR : Hid (0 = CellP.code (CellP.right ⟨2, [], lo, hi, val⟩)) := Lib.hid (by
            have e1 : lo ≤ val := by omega
            have e2 : val ≤ hi := by omega
            simp [CellP.right, CellP.code, e1, e2])
          go_enter Try.func81, Try.ntmps81
          go_wp2
          go_ret
          exact ⟨code_of _ _ HR.out, balloc (bsame _) _⟩
  · have HR : Hid (1 = CellP.code (CellP.right ⟨kind, data, lo, hi, val⟩)) := Lib.hid (by simp [CellP.right, CellP.code, hk, hk2])
    have hb1 : (kind == 1) = false := by simpa using hk
    have hb2 : (kind == 2) = false := by simpa using hk2
    go_enter Try.func81, Try.ntmps81
    go_wp2
    go_ret
    exact ⟨code_of _ _ HR.out, balloc (bsame _) _⟩

set_option maxHeartbeats 1000000 in
theorem same_any (A A' : Option Addr) (n cap n' cap' B B' : Nat) (c d : Cell) (w : World) (h : Bytes w B A n cap c.data) (h' : Bytes w B' A' n' cap' d.data) (hB : B ≤ w.heap.size) (hB' : B' ≤ w.heap.size) :
    Calls Try.prog 86 #[.agg #[.int .i64 c.kind, .slice A n cap, .int .i64 c.lo, .int .i64 c.hi, .int .i64 c.val], .agg #[.int .i64 d.kind, .slice A' n' cap', .int .i64 d.lo, .int .i64 d.hi, .int .i64 d.val]] w
      fun e w' => e = .returned (.bool (CellP.same c d)) ∧ Below w.heap.size w w' := by
  obtain ⟨kind, data, lo, hi, val⟩ := c
  obtain ⟨kind', data', lo', hi', val'⟩ := d
  dsimp only at *
  have H := Lib.hid h
  have H' := Lib.hid h'
  clear h h'
  go_enter Try.func86, Try.ntmps86
  go_wp2_with (go_at_call 89; refine (Same.equal_any _ _ _ _ _ _ _ _ _ _ _ ((H.out.alloc hB _).alloc (by simp; omega) _) ((H'.out.alloc hB' _).alloc (by simp; omega) _)).mono ?_; rintro e w' ⟨rfl, rfl⟩)
  all_goals go_ret
  all_goals refine ⟨congrArg (fun b => Ending.returned (.bool b)) ?_, balloc (balloc (bsame _) _) _⟩
  all_goals simp_all [CellP.same]

end Go.Proofs.Ytcfieofcnpalgaa.CellW
end
section
namespace Go.Proofs.Ytcfieofcnpalgaa.CellF
open Go.RowKit

theorem same (A A' : Option Addr) (n cap n' cap' B B' : Nat) (k lo hi v k' lo' hi' v' : Int) (d d' : List UInt8) (w : World) (h : Bytes w B A n cap d) (h' : Bytes w B' A' n' cap' d') (hB : B ≤ w.heap.size) (hB' : B' ≤ w.heap.size) :
    Calls Try.prog 86 #[.agg #[.int .i64 k, .slice A n cap, .int .i64 lo, .int .i64 hi, .int .i64 v], .agg #[.int .i64 k', .slice A' n' cap', .int .i64 lo', .int .i64 hi', .int .i64 v']] w
      fun e w' => e = .returned (.bool (CellP.same ⟨k, d, lo, hi, v⟩ ⟨k', d', lo', hi', v'⟩)) ∧ Below w.heap.size w w' :=
  CellW.same_any A A' n cap n' cap' B B' ⟨k, d, lo, hi, v⟩ ⟨k', d', lo', hi', v'⟩ w h h' hB hB'
end Go.Proofs.Ytcfieofcnpalgaa.CellF
end
section
namespace Go.Proofs.Ytcfieofcnpalgaa.Key
open Go.RowKit

set_option maxHeartbeats 400000 in
theorem seen_any (c : Int) (w : World) :
    Calls Try.prog 87 #[.int .i32 c] w fun e w' => e = .returned (.bool (decide (33 ≤ c) && decide (c ≤ 126))) ∧ w = w' := by
  go_enter Try.func87, Try.ntmps87
  go_wp2
  all_goals go_ret
  all_goals simp_all
  all_goals omega

set_option maxHeartbeats 400000 in
theorem check_any (s : ByteArray) (w : World) (hs : s.size ≤ maxLen) :
    Calls Try.prog 83 #[.string s] w fun e w' => e = .returned (.int .i64 (KeyP.code (KeyP.right s.data.toList))) ∧ Below w.heap.size w w' := by
  unfold maxLen at hs
  by_cases h0 : s.size < 1
  · go_enter Try.func83, Try.ntmps83
    go_wp2
    go_ret
    rw [KeyP.not_right_len s (by omega)]
    exact ⟨rfl, Below.refl _ _⟩
  by_cases h1 : 16 < s.size
  · go_enter Try.func83, Try.ntmps83
    go_wp2
    go_ret
    rw [KeyP.not_right_len s (by omega)]
    exact ⟨rfl, Below.refl _ _⟩
  go_enter Try.func83, Try.ntmps83
  go_wp2
  go_loopw [2] (fun n w' => ∃ (pos : Nat), w' = w.iter s pos ∧ n = .int .i64 0 ∧ pos ≤ s.size ∧ (s.data.toList.take pos).all KeyP.okB = true) (fun _ w' => s.size - w'.iterPos w.heap.size)
  case atStart => exact ⟨0, rfl, rfl, Nat.zero_le _, rfl⟩
  case round =>
    obtain ⟨pos, rfl, rfl, hp, ha⟩ := hrel
    have HA := Lib.hid ha
    clear ha
    by_cases hlt : pos < s.size
    · by_cases hascii : s[pos].toNat < 128
      · have hnx : ∀ ty, (Instr.next (.pointer (some ⟨w.heap.size, 0, none⟩)) true ty).run Try.prog (w.iter s pos) = _ := fun ty => run_next_ascii w s pos ty hlt hascii
        go_wp2_with (go_at_call 87; refine (seen_any _ _).mono ?_; rintro e w' ⟨rfl, rfl⟩)
        · go_ret
          have h : (!decide (33 ≤ (s[pos].toNat : Int))) = true ∨ (!decide ((s[pos].toNat : Int) ≤ 126)) = true := by assumption
          rw [KeyP.not_right_at s pos hlt (by rcases h with h | h; exact KeyP.okB_lo _ (by simp at h; omega); exact KeyP.okB_hi _ (by simp at h; omega))]
          exact ⟨rfl, (Below.refl _ _).alloc (Nat.le_refl _) _⟩
        · have h : (!decide (33 ≤ (s[pos].toNat : Int))) = false ∧ (!decide ((s[pos].toNat : Int) ≤ 126)) = false := by assumption
          have hok : KeyP.okB s[pos] = true := KeyP.okB_true _ (by simp at h; omega) (by simp at h; omega)
          go_roundw
          case rel => exact ⟨pos + 1, rfl, rfl, by omega, by rw [KeyP.all_take s pos hlt, HA.out, hok]; rfl⟩
          case measure => simp; omega
      · have hnx : ∀ ty, (Instr.next (.pointer (some ⟨w.heap.size, 0, none⟩)) true ty).run Try.prog (w.iter s pos) = _ := fun ty => run_next_any w s pos ty hlt
        have hd := (decode_high s pos hlt (by omega)).1
        go_wp2_with (go_at_call 87; refine (seen_any _ _).mono ?_; rintro e w' ⟨rfl, rfl⟩)
        · go_ret
          rw [KeyP.not_right_at s pos hlt (KeyP.okB_hi _ (by omega))]
          exact ⟨rfl, (Below.refl _ _).alloc (Nat.le_refl _) _⟩
        · have h : (!decide (33 ≤ ((Utf8.decode s pos).1 : Int))) = false ∧ (!decide (((Utf8.decode s pos).1 : Int) ≤ 126)) = false := by assumption
          simp at h
          omega
    · have hnx : ∀ ty, (Instr.next (.pointer (some ⟨w.heap.size, 0, none⟩)) true ty).run Try.prog (w.iter s pos) = _ := fun ty => run_next_end w s pos ty hlt
      go_wp2
      go_ret
      rw [KeyP.right_of s (KeyP.all_of_take s pos hlt HA.out) (by omega) (by omega)]
      exact ⟨rfl, (Below.refl _ _).alloc (Nat.le_refl _) _⟩

end Go.Proofs.Ytcfieofcnpalgaa.Key
end
section
namespace Go.Proofs.Ytcfieofcnpalgaa.SlotW
open Go.RowKit

/-- an item as a value -/
abbrev itemV (A : Option Addr) (n cap : Nat) (x : Item) : Value := .agg #[.int .i64 x.state, .string x.key, .int .i64 x.cell.kind, .slice A n cap, .int .i64 x.cell.lo, .int .i64 x.cell.hi, .int .i64 x.cell.val]

set_option maxHeartbeats 1000000 in
theorem same_any (A A' : Option Addr) (n cap n' cap' B B' : Nat) (x y : Item) (w : World) (h : Bytes w B A n cap x.cell.data) (h' : Bytes w B' A' n' cap' y.cell.data) (hB : B ≤ w.heap.size) (hB' : B' ≤ w.heap.size) :
    Calls Try.prog 82 #[itemV A n cap x, itemV A' n' cap' y] w fun e w' => e = .returned (.bool (SlotP.same x y)) ∧ Below w.heap.size w w' := by
  obtain ⟨s, k, kind, data, lo, hi, val⟩ := x
  obtain ⟨s', k', kind', data', lo', hi', val'⟩ := y
  dsimp only at *
  have H := Lib.hid h
  have H' := Lib.hid h'
  clear h h'
  go_enter Try.func82, Try.ntmps82
  go_wp2_with (go_at_call 86; refine (CellF.same _ _ _ _ _ _ _ _ _ _ _ _ _ _ _ _ _ _ _ ((H.out.alloc hB _).alloc (by simp; omega) _) ((H'.out.alloc hB' _).alloc (by simp; omega) _) (by simp; omega) (by simp; omega)).mono ?_; rintro e w' ⟨rfl, hb⟩)
  all_goals go_ret
  all_goals refine ⟨congrArg (fun b => Ending.returned (.bool b)) ?_, by first | exact bstep (balloc (balloc (bsame _) _) _) hb | exact balloc (balloc (bsame _) _) _⟩
  all_goals simp_all [SlotP.same]

/-- against the empty slot -/
theorem empty_bytes (w : World) : Bytes w 0 none 0 0 (SlotP.none).cell.data := Bytes.none_ _ _

end Go.Proofs.Ytcfieofcnpalgaa.SlotW
end
section
namespace Go.Proofs.Ytcfieofcnpalgaa.SlotW
open Go.RowKit

theorem code_true : CellP.code true = 0 := rfl
theorem code_false : CellP.code false = 1 := rfl

set_option maxHeartbeats 1000000 in
theorem check_any (A : Option Addr) (n cap B : Nat) (x : Item) (w : World) (h : Bytes w B A n cap x.cell.data) (hB : B ≤ w.heap.size) (hk : x.key.size ≤ maxLen) :
    Calls Try.prog 71 #[itemV A n cap x] w fun e w' => e = .returned (.int .i64 (CellP.code (SlotP.right x))) ∧ Below w.heap.size w w' := by
  have HS := Lib.hid (fun W (hW : Bytes W B A n cap x.cell.data) (hB : B ≤ W.heap.size) => same_any A none n cap 0 0 B 0 x SlotP.none W hW (empty_bytes W) hB (Nat.zero_le _))
  have HC := Lib.hid (fun W => CellW.check_any A n cap x.cell W h.len (Nat.le_trans h.2.1 h.2.2.1))
  have HK := Lib.hid (fun W => Key.check_any x.key W hk)
  have H := Lib.hid h
  clear h
  obtain ⟨s, k, kind, data, lo, hi, val⟩ := x
  dsimp only at *
  by_cases hs : s = 0
  · subst hs
    cases hr : SlotP.same ⟨0, k, kind, data, lo, hi, val⟩ SlotP.none
    all_goals
      have HRS := Lib.hid hr
      have HR := Lib.hid (show SlotP.right ⟨0, k, kind, data, lo, hi, val⟩ = _ from (by simp [SlotP.right] : _ = SlotP.same ⟨0, k, kind, data, lo, hi, val⟩ SlotP.none).trans hr)
      clear hr
      rw [HR.out]
      go_enter Try.func71, Try.ntmps71
      go_wp2_with fail
      refine (HS.out _ (H.out.alloc hB _) (by simp; omega)).mono ?_
      rintro e w1 ⟨rfl, hb⟩
      rw [HRS.out]
      go_wp2_with fail
      go_ret
      exact ⟨rfl, bstep (balloc (bsame _) _) hb⟩
  · have hs0 : (s == 0) = false := by simpa using hs
    by_cases h12 : s = 1 ∨ s = 2
    · cases hkr : KeyP.right k.data.toList
      · have HR : Hid (SlotP.right ⟨s, k, kind, data, lo, hi, val⟩ = false) := Lib.hid (by simp [SlotP.right, hs, hkr])
        rw [HR.out]
        have HKR := Lib.hid hkr
        clear hkr
        have hkf : KeyP.code false = 1 := rfl
        rcases h12 with rfl | rfl
        all_goals
          go_enter Try.func71, Try.ntmps71
          go_wp2_with (go_at_call 83; refine (HK.out _).mono ?_; rintro e w1 ⟨rfl, hb⟩; rw [HKR.out]; obtain ⟨hc1, hf1⟩ := bcell hb; have hsz : w.heap.size < w1.heap.size := (by have := hb.size; simp at this; omega))
          go_ret
          exact ⟨rfl, bstep (balloc (bsame _) _) hb⟩
      · have HR : Hid (SlotP.right ⟨s, k, kind, data, lo, hi, val⟩ = CellP.right ⟨kind, data, lo, hi, val⟩) := Lib.hid (by rcases h12 with rfl | rfl <;> simp [SlotP.right, hkr])
        rw [HR.out]
        have HKR := Lib.hid hkr
        clear hkr
        have hkt : KeyP.code true = 0 := rfl
        cases hcr : CellP.right ⟨kind, data, lo, hi, val⟩
        all_goals
          have HCR := Lib.hid hcr
          clear hcr
          have hc0 := code_true
          have hc1 := code_false
          rcases h12 with rfl | rfl
          all_goals
            go_enter Try.func71, Try.ntmps71
            go_wp2_with (first
              | (go_at_call 83; refine (HK.out _).mono ?_; rintro e w1 ⟨rfl, hb⟩; rw [HKR.out]; obtain ⟨hcc, hff⟩ := bcell hb; have hsz : w.heap.size < w1.heap.size := (by have := hb.size; simp at this; omega))
              | (go_at_call 81; refine (HC.out _).mono ?_; rintro e w2 ⟨rfl, hb2⟩; rw [HCR.out]))
            go_ret
            exact ⟨rfl, bstep (bstep (balloc (bsame _) _) hb) hb2⟩
    · have h1 : (s == 1) = false := by simp; omega
      have h2 : (s == 2) = false := by simp; omega
      have HR : Hid (SlotP.right ⟨s, k, kind, data, lo, hi, val⟩ = false) := Lib.hid (by simp [SlotP.right, hs]; omega)
      rw [HR.out]
      clear h12
      go_enter Try.func71, Try.ntmps71
      go_wp2
      go_ret
      exact ⟨rfl, balloc (bsame _) _⟩

end Go.Proofs.Ytcfieofcnpalgaa.SlotW
end
section
namespace Go.Proofs.Ytcfieofcnpalgaa.CellPut
open Go.RowKit
attribute [local go_sem ↓] app_fold

/-- a slice in a box, which owns its bytes -/
def Out (w : World) (base B : Nat) (l : List UInt8) : Prop := ∃ v, Boxed w B 57 v ∧ w.ownsRow base 5 1 v l.length (l.map byteV) ∧ base ≤ B
def Added (w : World) (base B : Nat) (l : List UInt8) (e : Ending) (w' : World) : Prop := e = .returned (.tuple #[]) ∧ Out w' base B l ∧ Below base w w'

set_option maxHeartbeats 1000000 in
theorem add_any (base B width : Nat) (m : Int) (l : List UInt8) (w : World) (h : Out w base B l) (hw1 : 1 ≤ width) (hw8 : width ≤ 8) (hn : l.length + 8 ≤ 140737488355328) :
    Calls Try.prog 88 #[.int .i64 (width : Int), .int .i64 m, .pointer (some ⟨B, 0, none⟩)] w (Added w base B (l ++ BeP.parts width m)) := by
  obtain ⟨v, hbox, hown, hbase⟩ := h
  obtain ⟨i0, hi, hz0, hz1, hz2⟩ := info_parts Be.infoU8
  have hc := hbox.cell
  have hlt := hbox.lt
  have HBOX := Lib.hid hbox
  have HOWN := Lib.hid hown
  clear hbox hown
  have hpl := BeP.parts_length width m
  have HPL := Lib.hid hpl
  clear hpl
  go_enter Try.func88, Try.ntmps88
  go_wp2
  go_region_with ((go_at_call 43; refine (Be.put_wide none 0 0 0 [] width m _ (Bytes.none_ _ _) (Nat.zero_le _) hw1 hw8 (by omega)).mono ?_; rintro e w1 ⟨A1, n1, c1, rfl, hby, hb⟩; have hn1 : n1 = width := hby.len.symm.trans (by simp [HPL.out]); have hbs := hb.size; obtain ⟨v', w2, happ, hown2, hgrow2⟩ := run_append_bytes (P := Try.prog) w1 base 57 57 5 i0 _ Try.underlying57 hi hz0 hz1 hz2 rfl v l.length (l.map byteV) (own_next HOWN.out.drew hb) w1.heap.size A1 n1 c1 _ hby (by omega) (by simp at hbs; omega); obtain ⟨g', cap', hv', -, -⟩ := hown2.form (by omega); have hb1 : Boxed w1 B 57 v := (hb.block B hlt).trans HBOX.out; have hb2 : Boxed w2 B 57 v := hb1.kept hgrow2 (hb1.not_row (by decide) (own_next HOWN.out.drew hb)); have hc1 := hb1.cell; have hc2 := hb2.cell; have hf2 := hb2.frozen; subst hv'; have HBY := Lib.hid hby; have HB := Lib.hid hb; have HO2 := Lib.hid hown2; have HG2 := Lib.hid hgrow2; have HN1 := Lib.hid hn1; clear hby hb hown2 hgrow2 hn1))
  all_goals go_end0
  all_goals
    have h3 : base ≤ w.heap.size := by omega
    have hbw : Below base w w1 := (Below.refl base w).drew.trans (HB.out.mono (by simpa using h3))
    refine ⟨rfl, ⟨_, hb2.set _, ?_, hbase⟩, (hbw.grown HG2.out (by simp at hbs; omega) (fun k e => ?_)).setCell hbase _⟩
    · have hl1 := HN1.out
      have hl2 := HPL.out
      have hx : (l ++ BeP.parts width m).length = l.length + n1 := by simp; omega
      have hxs : (l ++ BeP.parts width m).map byteV = l.map byteV ++ ([] ++ BeP.parts width m).map byteV := by simp
      rw [hx, hxs]
      exact HO2.out.kept (grownBy_setCell' w2 B _) (.inr (hb2.not_row (by decide) HO2.out).symm)
    · rcases HOWN.out.2 with ⟨rfl, _⟩ | ⟨g, cap, cur, rfl, hg, _⟩
      · simp [Value.ownBlock] at e
      · obtain rfl : g = k := by simpa [Value.ownBlock] using e
        exact hg

theorem bytes_rec (c : Cell) (hr : CellP.right c = true) (hk : c.kind = 1) : CellP.bytes c = BeP.parts 1 c.kind ++ (BeP.parts 1 (c.data.length : Int) ++ c.data) := by
  have h32 : c.data.length ≤ 32 := by
    unfold CellP.right at hr
    rw [if_pos hk] at hr
    simp at hr
    exact hr.1
  unfold CellP.bytes
  rw [if_pos hr, if_pos hk, hk]
  have e1 : BeP.parts 1 1 = [1] := by decide
  have e2 : BeP.parts 1 (c.data.length : Int) = [UInt8.ofNat c.data.length] := by
    have : BeP.u64 (c.data.length : Int) = c.data.length := by unfold BeP.u64; omega
    simp [BeP.parts, BeP.part, this]
  rw [e1, e2]
  rfl
theorem bytes_cnt (c : Cell) (hr : CellP.right c = true) (hk : c.kind = 2) : CellP.bytes c = BeP.parts 1 c.kind ++ (BeP.parts 8 c.lo ++ (BeP.parts 8 c.hi ++ BeP.parts 8 c.val)) := by
  unfold CellP.bytes
  rw [if_pos hr, if_neg (by omega), hk]
  have e1 : BeP.parts 1 2 = [2] := by decide
  rw [e1]

set_option maxHeartbeats 1000000 in
theorem put_any (A A' : Option Addr) (n c n' cap' B B' : Nat) (l : List UInt8) (x : Cell) (w : World) (h : Bytes w B A n c l) (hB : B ≤ w.heap.size) (h' : Bytes w B' A' n' cap' x.data) (hB' : B' ≤ w.heap.size) (hn : n ≤ 100000000000000) :
    Calls Try.prog 84 #[.slice A n c, .agg #[.int .i64 x.kind, .slice A' n' cap', .int .i64 x.lo, .int .i64 x.hi, .int .i64 x.val]] w (GivesBytes w (l ++ CellP.bytes x)) := by
  obtain ⟨i0, hi, hz0, hz1, hz2⟩ := info_parts Be.infoU8
  have hln := h.len
  have hlx := h'.len
  have hmx := Nat.le_trans h'.2.1 h'.2.2.1
  have HLN := Lib.hid hln
  have hmk : ∀ W : World, (Instr.makeSlice 57 (.int .i64 0) (.int .i64 ((n : Int) + 2 + 32))).run Try.prog W = .ok (.slice (some ⟨W.heap.size, 0, none⟩) 0 (n + 34)) (W.alloc (.cells (zerosV (n + 34)).toArray 5)) := fun W => by
    have := Be.run_make_b 0 (n + 34) (by omega) (by omega) W
    have e : ((n + 34 : Nat) : Int) = (n : Int) + 2 + 32 := by omega
    rw [e] at this
    exact this
  obtain ⟨kind, data, lo, hi', val⟩ := x
  dsimp only at *
  -- the world behind make, and the append of b
  obtain ⟨W1, hW1⟩ : ∃ W1, w.alloc (.cells #[.int .i64 kind, .slice A' n' cap', .int .i64 lo, .int .i64 hi', .int .i64 val] 76) = W1 := ⟨_, rfl⟩
  have hz1' : W1.heap.size = w.heap.size + 1 := by rw [← hW1]; simp
  have hown0 : (W1.alloc (.cells (zerosV (n + 34)).toArray 5)).ownsRow (w.heap.size + 1) 5 1 (.slice (some ⟨W1.heap.size, 0, none⟩) 0 (n + 34)) 0 [] :=
    ⟨rfl, .inr ⟨_, _, _, rfl, by omega, heap_alloc_new W1 _, by omega, by unfold maxLen; omega, by simp [zerosV_length], by simp⟩⟩
  have hbyW : Bytes (W1.alloc (.cells (zerosV (n + 34)).toArray 5)) B A n c l := by
    rw [← hW1]
    exact (h.alloc hB _).alloc (by simp; omega) _
  obtain ⟨v', w3, happ, hown3, hgrow3⟩ := run_append_bytes (P := Try.prog) (W1.alloc (.cells (zerosV (n + 34)).toArray 5)) (w.heap.size + 1) 57 57 5 i0 _ Try.underlying57 hi hz0 hz1 hz2 rfl _ 0 [] hown0 B A n c l hbyW (by omega) (by simp; omega)
  simp only [Nat.zero_add, List.nil_append] at hown3
  obtain ⟨A3, c3, rfl⟩ := own_slice hown3
  have hb3 : Below (w.heap.size + 1) W1 w3 := ((Below.refl _ W1).alloc (by omega) _).grown hgrow3 (by simp; omega) (own_block hown0)
  have HO3 := Lib.hid hown3
  have HB3 := Lib.hid hb3
  rw [hz1'] at happ
  clear hown3 hb3 hgrow3 hown0 hbyW hz1'
  subst hW1
  have HLX := Lib.hid hlx
  have H' := Lib.hid h'
  clear hln hlx h h'
  have hs3 := HB3.out.size
  simp only [World.size_alloc] at hs3
  have k0 := HB3.out.cell (p := ⟨w.heap.size, 0, none⟩) (by simp)
  have k1 := HB3.out.cell (p := ⟨w.heap.size, 1, none⟩) (by simp)
  have k2 := HB3.out.cell (p := ⟨w.heap.size, 2, none⟩) (by simp)
  have k3 := HB3.out.cell (p := ⟨w.heap.size, 3, none⟩) (by simp)
  have k4 := HB3.out.cell (p := ⟨w.heap.size, 4, none⟩) (by simp)
  simp at k0 k1 k2 k3 k4
  have hs3' : w.heap.size < w3.heap.size := by omega
  have bO := Boxed.new w3 57 (.slice A3 n c3)
  have HBO := Lib.hid bO
  clear bO hs3
  cases hr : CellP.right ⟨kind, data, lo, hi', val⟩
  · have hc1 : CellP.code false = 1 := rfl
    go_enter Try.func84, Try.ntmps84
    go_wp2_with (go_at_call 81; refine (CellW.check_any A' n' cap' ⟨kind, data, lo, hi', val⟩ _ HLX.out hmx).mono ?_; rintro e w4 ⟨rfl, hb4⟩; rw [hr]; obtain ⟨hq4, hf4⟩ := bcell hb4)
    go_ret
    have hl : l ++ CellP.bytes ⟨kind, data, lo, hi', val⟩ = l := by simp [CellP.bytes, hr]
    rw [hl]
    have hbW : Below w.heap.size w w4 := (balloc (bsame w) _).trans ((HB3.out.mono (by omega)).trans (((Below.refl _ w3).alloc (by omega) _).trans (hb4.mono (by simp; omega))))
    obtain ⟨A9, n9, c9, e9, hby9⟩ := Bytes.of_own (own_next (HO3.out.alloc _) hb4)
    cases e9
    exact ⟨A3, n, c3, rfl, hby9, hbW⟩
  · have hc0 : CellP.code true = 0 := rfl
    have hb34 : Below w.heap.size w (w3.alloc (.cells #[.slice A3 n c3] 57)) := (balloc (bsame w) _).trans ((HB3.out.mono (by omega)).trans ((Below.refl _ w3).alloc (by omega) _))
    have HB34 := Lib.hid hb34
    clear hb34
    go_enter Try.func84, Try.ntmps84
    go_wp2_with (go_at_call 81; refine (CellW.check_any A' n' cap' ⟨kind, data, lo, hi', val⟩ _ HLX.out hmx).mono ?_; rintro e w4 ⟨rfl, hb4⟩; rw [hr]; obtain ⟨hq4, hf4⟩ := bcell hb4)
    have hO4 : Out w4 (w.heap.size + 1) w3.heap.size l := by
      refine ⟨_, (hb4.block _ (by simp)).trans HBO.out, ?_, by omega⟩
      rw [HLN.out]
      exact own_next (HO3.out.alloc _) hb4
    have hs4 := hb4.size
    simp only [World.size_alloc] at hs4
    have hB4 : Below w.heap.size w w4 := HB34.out.trans (hb4.mono (by simp; omega))
    have HB4 := Lib.hid hB4
    clear hB4
    refine (add_any (w.heap.size + 1) w3.heap.size 1 kind l w4 hO4 (by omega) (by omega) (by rw [HLN.out]; omega)).mono ?_
    rintro e w5 ⟨rfl, hO5, hb5⟩
    have hq5 := fun o => hb5.cell (p := ⟨w.heap.size, o, none⟩) (by simp)
    have HB5 := Lib.hid (HB4.out.trans (hb5.mono (by omega)))
    have HO5 := Lib.hid hO5
    have hs5 := hb5.size
    clear hO4 hO5 hb5
    have hp1 := BeP.parts_length 1 kind
    by_cases hk : kind = 1
    · have HBY := Lib.hid (bytes_rec ⟨kind, data, lo, hi', val⟩ hr hk)
      have hkb : (kind == 1) = true := by simpa using hk
      have h32 : n' ≤ 32 := by
        have := HLX.out
        unfold CellP.right at hr
        rw [if_pos hk] at hr
        simp at hr
        omega
      clear hk
      go_wp2_with fail
      have HLX' := HLX.out
      refine (add_any (w.heap.size + 1) w3.heap.size 1 (n' : Int) (l ++ BeP.parts 1 kind) w5 HO5.out (by omega) (by omega) (by simp [hp1, HLN.out]; omega)).mono ?_
      rintro e w6 ⟨rfl, hO6, hb6⟩
      have hq6 := fun o => hb6.cell (p := ⟨w.heap.size, o, none⟩) (by simp)
      have HB6 := Lib.hid (HB5.out.trans (hb6.mono (by omega)))
      have hs6 := hb6.size
      have hp2 := BeP.parts_length 1 (n' : Int)
      obtain ⟨v6, hbx6, hown6, -⟩ := hO6
      have hc6 := hbx6.cell
      obtain ⟨v7, w7, happ7, hown7, hgrow7⟩ := run_append_bytes (P := Try.prog) w6 (w.heap.size + 1) 57 57 5 i0 _ Try.underlying57 hi hz0 hz1 hz2 rfl v6 _ _ hown6 B' A' n' cap' data (H'.out.below (HB6.out.mono hB')) (by simp [hp1, hp2, HLN.out]; omega) (by omega)
      have hfin : Below w.heap.size w w7 := HB6.out.grown hgrow7 (by omega) (fun k e => by have := own_block hown6 k e; omega)
      obtain ⟨A9, n9, c9, rfl, hby9⟩ := Bytes.of_own (l := (l ++ BeP.parts 1 kind ++ BeP.parts 1 (n' : Int)) ++ data) (by simpa using hown7)
      have HF := Lib.hid hfin
      have HY := Lib.hid hby9
      clear hfin hby9 hown7 hgrow7 hbx6 hown6 hb6 hp1 hp2
      go_wp2_with fail
      go_ret
      rw [HBY.out]
      refine ⟨A9, n9, c9, rfl, ?_, HF.out⟩
      have := HY.out
      rw [← HLX'] at this
      simpa using this
    · have hk2 : kind = 2 := by
        unfold CellP.right at hr
        rw [if_neg hk] at hr
        simp at hr
        exact hr.1
      have HBY := Lib.hid (bytes_cnt ⟨kind, data, lo, hi', val⟩ hr hk2)
      have hkb : (kind == 1) = false := by simpa using hk
      clear hk hk2
      have hp2 := BeP.parts_length 8 lo
      have hp3 := BeP.parts_length 8 hi'
      go_wp2_with fail
      refine (add_any (w.heap.size + 1) w3.heap.size 8 lo (l ++ BeP.parts 1 kind) w5 HO5.out (by omega) (by omega) (by simp [hp1, HLN.out]; omega)).mono ?_
      rintro e w6 ⟨rfl, hO6, hb6⟩
      have hq6 := fun o => hb6.cell (p := ⟨w.heap.size, o, none⟩) (by simp)
      have HB6 := Lib.hid (HB5.out.trans (hb6.mono (by omega)))
      have HO6 := Lib.hid hO6
      have hs6 := hb6.size
      clear hO6 hb6
      go_wp2_with fail
      refine (add_any (w.heap.size + 1) w3.heap.size 8 hi' (l ++ BeP.parts 1 kind ++ BeP.parts 8 lo) w6 HO6.out (by omega) (by omega) (by simp [hp1, hp2, HLN.out]; omega)).mono ?_
      rintro e w7 ⟨rfl, hO7, hb7⟩
      have hq7 := fun o => hb7.cell (p := ⟨w.heap.size, o, none⟩) (by simp)
      have HB7 := Lib.hid (HB6.out.trans (hb7.mono (by omega)))
      have HO7 := Lib.hid hO7
      have hs7 := hb7.size
      clear hO7 hb7
      go_wp2_with fail
      refine (add_any (w.heap.size + 1) w3.heap.size 8 val (l ++ BeP.parts 1 kind ++ BeP.parts 8 lo ++ BeP.parts 8 hi') w7 HO7.out (by omega) (by omega) (by simp [hp1, hp2, hp3, HLN.out]; omega)).mono ?_
      rintro e w8 ⟨rfl, hO8, hb8⟩
      have HB8 := Lib.hid (HB7.out.trans (hb8.mono (by omega)))
      obtain ⟨v8, hbx8, hown8, -⟩ := hO8
      have hc8 := hbx8.cell
      obtain ⟨A9, n9, c9, rfl, hby9⟩ := Bytes.of_own hown8
      have HY := Lib.hid hby9
      clear hby9 hbx8 hown8 hb8 hp1 hp2 hp3
      go_wp2_with fail
      go_ret
      rw [HBY.out]
      refine ⟨A9, n9, c9, rfl, ?_, HB8.out⟩
      have := HY.out
      simpa using this
end Go.Proofs.Ytcfieofcnpalgaa.CellPut
end
