/-
  Texts of one claim, joined: Got, SlotGet, RefCellGet, RefCellBytes, AppStr, RefSlotBytes, RefSlotGet, RefPage.
-/
import Derived.Test.YtldgdgfplgdipaaMem
import Derived.Test.YtldgdgfplgdipaaSlotPut
import Derived.Test.YtldgdgfplgdipaaPSlotGet
import Derived.Test.YtldgdgfplgdipaaCellGet
import Derived.Test.YtldgdgfplgdipaaRegS
import Derived.Test.YtldgdgfplgdipaaBox
import Derived.Test.YtldgdgfplgdipaaProg
import Derived.Test.YtldgdgfplgdipaaCell
import Derived.Test.YtldgdgfplgdipaaRefBytes
import Derived.Test.YtldgdgfplgdipaaApp
import Derived.Lib.AppendStr
import Derived.Test.YtldgdgfplgdipaaSlotC
import Derived.Test.YtldgdgfplgdipaaPPage
namespace Go.Proofs.Ytldgdgfplgdipaa.SlotGet
open Go.RowKit
/-- the call hands back this item, and this error's number -/
def GotItem (w : World) (r : Item × Int) (e : Ending) (w' : World) : Prop := ∃ A n cap, e = .returned (.tuple #[.agg #[.int .i64 r.1.state, .string r.1.key, .int .i64 r.1.cell.kind, .slice A n cap, .int .i64 r.1.cell.lo, .int .i64 r.1.cell.hi, .int .i64 r.1.cell.val], .int .i64 r.2]) ∧
  Bytes w' w'.heap.size A n cap r.1.cell.data ∧ Below w.heap.size w w'
end Go.Proofs.Ytldgdgfplgdipaa.SlotGet
namespace Go.Proofs.Ytldgdgfplgdipaa.SlotGet
open Go.RowKit

theorem row_at (l : List UInt8) (i : Nat) (h : i < l.length) : (rowV l)[i]? = some (.int .u8 ((l.getD i 0).toNat : Int)) := by
  rw [rowV_get, List.getElem?_eq_getElem h]
  simp [byteV, List.getD, List.getElem?_eq_getElem h]
theorem get_big (l : List UInt8) (h : l ≠ SlotP.zeros 64) (hb : SlotP.good l = false) : SlotP.get l = (SlotP.none, 12) := by
  unfold SlotP.get
  rw [if_neg h, if_neg (by rw [hb]; simp)]
theorem got_none (w : World) (k : Int) (w' : World) (h : Below w.heap.size w w') : GotItem w (SlotP.none, k) (.returned (.tuple #[.agg #[.int .i64 0, .string ⟨#[]⟩, .int .i64 0, .slice none 0 0, .int .i64 0, .int .i64 0, .int .i64 0], .int .i64 k])) w' := ⟨none, 0, 0, rfl, Bytes.none_ _ _, h⟩

end Go.Proofs.Ytldgdgfplgdipaa.SlotGet
namespace Go.Proofs.Ytldgdgfplgdipaa.RefCellGet
open Go.RowKit
attribute [local go_sem ↓] app_fold cut_fold

theorem got_none (w : World) (k : Int) (w' : World) (h : Below w.heap.size w w') : CellGet.GotCell w (CellP.none, 0, k) (.returned (.tuple #[.agg #[.int .i64 0, .slice none 0 0, .int .i64 0, .int .i64 0, .int .i64 0], .int .i64 0, .int .i64 k])) w' := ⟨none, 0, 0, rfl, Bytes.none_ _ _, h⟩

end Go.Proofs.Ytldgdgfplgdipaa.RefCellGet
namespace Go.Proofs.Ytldgdgfplgdipaa.RefCellBytes
open Go.RowKit
attribute [local go_sem ↓] app_fold

theorem bytes_rec (c : Cell) (hr : CellP.right c = true) (hk : c.kind = 1) : CellP.bytes c = [1] ++ ([UInt8.ofNat c.data.length] ++ c.data) := by
  unfold CellP.bytes
  rw [if_pos hr, if_pos hk]
  rfl
theorem bytes_cnt (c : Cell) (hr : CellP.right c = true) (hk : c.kind = 2) : CellP.bytes c = [2] ++ (BeP.parts 8 c.lo ++ (BeP.parts 8 c.hi ++ BeP.parts 8 c.val)) := by
  unfold CellP.bytes
  rw [if_pos hr, if_neg (by omega)]
end Go.Proofs.Ytldgdgfplgdipaa.RefCellBytes
namespace Go.Proofs.Ytldgdgfplgdipaa
open Go.RowKit

theorem Own.appStr {w : World} {base n c : Nat} {A : Option Addr} {l : List UInt8} (h : Own w base A n c l) (s : ByteArray) (hn : n + s.size ≤ 140737488355328) (hb : base ≤ w.heap.size) :
    ∃ A' c' w', (appSem #[22, 9] 22 #[.slice A n c, .string s]).run Try.prog w = .ok (.slice A' (n + s.size) c') w' ∧ Own w' base A' (n + s.size) c' (l ++ s.data.toList) ∧ Below base w w' := by
  obtain ⟨i0, hi, hz0, hz1, hz2⟩ := info_parts Be.infoU8
  obtain ⟨v', w', happ, hown, hgrow, _⟩ := Lib.run_append_own_string (P := Try.prog) w base 22 9 22 5 i0 Try.underlying22 Try.underlying9 hi hz0 hz1 hz2 (.slice A n c) n (l.map byteV) h s (by unfold maxLen; omega) hn hb
  obtain ⟨A', c', rfl⟩ := own_slice hown
  have hm : (l ++ s.data.toList).map byteV = l.map byteV ++ Lib.strCells s := by rw [List.map_append]; rfl
  refine ⟨A', c', w', happ, ?_, (Below.refl _ w).grown hgrow hb (own_block h)⟩
  unfold Own
  rw [hm]
  exact hown
end Go.Proofs.Ytldgdgfplgdipaa
namespace Go.Proofs.Ytldgdgfplgdipaa.RefSlotBytes
open Go.RowKit
attribute [local go_sem ↓] app_fold

def lenV (v : Value) : Nat := match v with | .slice _ n _ => n | _ => 0
/-- what holds at a round's head -/
def Rel (w : World) (base : Nat) (l : List UInt8) (b : Value) (wr : World) : Prop :=
  ∃ (A : Option Addr) (k c : Nat), b = .slice A k c ∧ l.length ≤ k ∧ k ≤ 64 ∧ Own wr base A k c (l ++ SlotP.zeros (k - l.length)) ∧ Below w.heap.size w wr ∧ base ≤ wr.heap.size
/-- two bytes that the call has just laid -/
theorem lit2 (w : World) (a b : UInt8) : Bytes (w.alloc (.cells #[.int .u8 (a.toNat : Int), .int .u8 (b.toNat : Int)] 5)) (w.heap.size + 1) (some ⟨w.heap.size, 0, none⟩) 2 2 [a, b] :=
  ⟨rfl, Nat.le_refl _, by decide, fun _ => ⟨w.heap.size, 0, rfl, by omega, fun j u hu => by
    rw [World.cell?_alloc_mark]
    have hj : j < 2 := by
      have := (List.getElem?_eq_some_iff.1 hu).1
      simpa using this
    match j, hj with
    | 0, _ => simp at hu; subst hu; rfl
    | 1, _ => simp at hu; subst hu; rfl⟩⟩
theorem zeros_snoc (l : List UInt8) (k : Nat) (h : l.length ≤ k) : (l ++ SlotP.zeros (k - l.length)) ++ [0] = l ++ SlotP.zeros (k + 1 - l.length) := by
  rw [List.append_assoc, show k + 1 - l.length = (k - l.length) + 1 by omega]
  unfold SlotP.zeros
  rw [List.replicate_succ']

end Go.Proofs.Ytldgdgfplgdipaa.RefSlotBytes
namespace Go.Proofs.Ytldgdgfplgdipaa.RefSlotGet
open Go.RowKit
attribute [local go_sem ↓] app_fold cut_fold

theorem bytes_none : SlotP.bytes SlotP.none = SlotP.zeros 64 := rfl
theorem bad_zero (l : List UInt8) (h : l ≠ SlotP.zeros 64) (h0 : (l.getD 0 0).toNat = 0) : SlotP.good l = false := by
  have hb : SlotP.bytes (SlotP.seem l) = SlotP.zeros 64 := by
    unfold SlotP.bytes
    rw [if_neg]
    intro hh
    exact hh.1 (by unfold SlotP.seem; rw [h0]; rfl)
  unfold SlotP.good
  rw [hb]
  have : (SlotP.zeros 64 == l) = false := by simpa using fun e => h e.symm
  rw [this]
  simp
theorem val0 (l : List UInt8) (h : l.length = 64) : NumP.val l 0 1 = ((l.getD 0 0).toNat : Int) := by
  match l, h with
  | a :: r, _ => exact NumP.val_one [] r a
theorem val1 (l : List UInt8) (h : l.length = 64) : NumP.val l 1 1 = ((l.getD 1 0).toNat : Int) := by
  match l, h with
  | a :: b :: r, _ => exact NumP.val_one [a] r b

end Go.Proofs.Ytldgdgfplgdipaa.RefSlotGet
namespace Go.Proofs.Ytldgdgfplgdipaa.RefPage
open Go.RowKit
attribute [local go_sem ↓] app_fold cut_fold

set_option maxRecDepth 100000 in
set_option maxHeartbeats 1000000 in
theorem put_any (A : Option Addr) (n c B : Nat) (l : List UInt8) (a : Nat) (A2 : Option Addr) (m c2 B2 : Nat) (s : List UInt8) (w : World) (h : Bytes w B A n c l) (hB : B ≤ w.heap.size) (h2 : Bytes w B2 A2 m c2 s) (hB2 : B2 ≤ w.heap.size) (ha : a + m ≤ n) (hn : n ≤ 1000000000) :
    Calls Try.prog 44 #[.slice A n c, .int .i64 (a : Int), .slice A2 m c2] w (GivesBytes w (SlotP.over l a s)) := by
  have hcm := h.2.2.1
  have hnc := h.2.1
  unfold maxLen at hcm
  have hl := h.len
  have hl2 := h2.len
  obtain ⟨A3, c3, w3, happ3, hO3, hb3⟩ := (Own.empty w w.heap.size (Nat.le_refl _)).app ((h.cut 0 a c (by omega) (by omega) (by omega) (Nat.le_refl _)).alloc hB _) (by omega) (by simp)
  simp only [Nat.sub_zero, Nat.zero_add, List.nil_append, List.drop_zero] at happ3 hO3
  have hB3 : Below w.heap.size w w3 := ((Below.refl _ w).alloc (Nat.le_refl _) _).trans hb3
  obtain ⟨A4, c4, w4, happ4, hO4, hb4⟩ := hO3.app (h2.below (hB3.mono hB2)) (by omega) hB3.size
  have hB4 : Below w.heap.size w w4 := hB3.trans hb4
  obtain ⟨A5, c5, w5, happ5, hO5, hb5⟩ := hO4.app ((h.cut (a + m) n c (by omega) (by omega) (by omega) (Nat.le_refl _)).below (hB4.mono hB)) (by omega) hB4.size
  have hB5 : Below w.heap.size w w5 := hB4.trans hb5
  have hres : (l.take a ++ s) ++ (l.drop (a + m)).take (n - (a + m)) = SlotP.over l a s := by
    have e : (l.drop (a + m)).take (n - (a + m)) = l.drop (a + m) := List.take_of_length_le (by rw [List.length_drop]; omega)
    unfold SlotP.over
    rw [List.append_assoc, e, hl2]
  rw [hres] at hO5
  have HO := Lib.hid hO5
  have HB := Lib.hid hB5
  have hb1 : (a : Int) + (m : Int) ≤ (n : Int) := by omega
  have hb2 : (0 : Int) ≤ (a : Int) + (m : Int) := by omega
  have hb6 : ((a : Int) + (m : Int)).toNat = a + m := by omega
  have hb7 : (a : Int) ≤ (c : Int) := by omega
  clear hO3 hb3 hO4 hb4 hO5 hb5 hB3 hB4 hB5 hres h h2 hl hl2
  go_enter Try.func44, Try.ntmps44
  go_wp2
  go_ret
  exact ⟨A5, n, c5, rfl, (by have := HO.out.bytes; rwa [show a + m + (n - (a + m)) = n by omega] at this), HB.out⟩

theorem zeros_snoc (k : Nat) : SlotP.zeros k ++ [0] = SlotP.zeros (k + 1) := by
  unfold SlotP.zeros
  rw [List.replicate_succ']
set_option maxRecDepth 100000 in
set_option maxHeartbeats 1000000 in
theorem zeros_any (n : Nat) (hn : n ≤ 100000) (w : World) : Calls Try.prog 47 #[.int .i64 (n : Int)] w (GivesBytes w (SlotP.zeros n)) := by
  go_enter Try.func47, Try.ntmps47
  go_wp2
  go_loopw [3, 4] (fun b i wr => ∃ (k : Nat) (A : Option Addr) (c : Nat), k ≤ n ∧ i = .int .i64 (k : Int) ∧ b = .slice A k c ∧ Own wr w.heap.size A k c (SlotP.zeros k) ∧ Below w.heap.size w wr) (fun _ i _ => n - (intOf i).toNat)
  case atStart => exact ⟨0, none, 0, Nat.zero_le _, rfl, rfl, Own.none_ _ _, bsame w⟩
  case round =>
    obtain ⟨k, A9, c9, hk, rfl, rfl, hO, hB⟩ := hrel
    have HO := Lib.hid hO
    have HB := Lib.hid hB
    have hbs := hB.size
    clear hO hB
    by_cases hlt : k < n
    · obtain ⟨A8, c8, w8, happ, hO8, hb8⟩ := (HO.out.alloc (.cells #[.int .u8 ((0 : UInt8).toNat : Int)] 5)).app (Own.one wr 0 (by omega) 0).bytes (by omega) (by simp; omega)
      have h0 : ((0 : UInt8).toNat : Int) = 0 := rfl
      simp only [h0] at happ
      have HO8 := Lib.hid hO8
      have HB8 := Lib.hid (HB.out.trans (((Below.refl _ wr).alloc (by omega) (.cells #[.int .u8 ((0 : UInt8).toNat : Int)] 5)).trans hb8))
      clear hO8 hb8 h0
      go_wp2
      go_roundw
      case rel =>
        refine ⟨k + 1, A8, c8, by omega, by go_num, rfl, ?_, HB8.out⟩
        have := HO8.out
        rwa [zeros_snoc] at this
      case measure => simp [intOf]; omega
    · go_wp2
      go_ret
      have hk : k = n := by omega
      subst hk
      exact ⟨A9, k, c9, rfl, HO.out.bytes, HB.out⟩

set_option maxRecDepth 100000 in
set_option maxHeartbeats 1000000 in
theorem new_any (m : Int) (w : World) : Calls Try.prog 26 #[.int .i64 m] w (GivesBytes w (SlotP.over (SlotP.zeros 512) 12 (BeP.parts 2 m))) := by
  go_enter Try.func26, Try.ntmps26
  go_wp2_with fail
  refine (zeros_any 512 (by omega) _).mono ?_
  rintro e w1 ⟨A1, n1, c1, rfl, hy1, hb1⟩
  have hn1 : n1 = 512 := by rw [← hy1.len]; simp [SlotP.zeros]
  subst hn1
  have HY1 := Lib.hid hy1
  have HB1 := Lib.hid hb1
  clear hy1 hb1
  go_wp2_with fail
  refine (RefBytes.bytes_any 2 m _ (by omega)).mono ?_
  rintro e w2 ⟨A2, n2, c2, rfl, hy2, hb2⟩
  have hn2 : n2 = 2 := by rw [← hy2.len, BeP.parts_length]
  subst hn2
  have HY2 := Lib.hid hy2
  have HY1' := Lib.hid (HY1.out.next hb2)
  have HB2 := Lib.hid (bstep HB1.out hb2)
  clear hy2 hb2
  go_wp2_with fail
  refine (put_any A1 512 c1 _ _ 12 A2 2 c2 _ _ _ HY1'.out (Nat.le_refl _) HY2.out (Nat.le_refl _) (by omega) (by omega)).mono ?_
  rintro e w3 ⟨A3, n3, c3, rfl, hy3, hb3⟩
  have HY3 := Lib.hid hy3
  have HB3 := Lib.hid (bstep HB2.out hb3)
  clear hy3 hb3
  go_wp2_with fail
  go_ret
  exact ⟨A3, n3, c3, rfl, HY3.out, HB3.out⟩

end Go.Proofs.Ytldgdgfplgdipaa.RefPage
