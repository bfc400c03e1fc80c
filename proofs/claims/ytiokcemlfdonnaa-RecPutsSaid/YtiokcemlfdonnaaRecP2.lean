/-
  Texts of one claim, joined: Held, Str, Runs, PCell, PKey, PSlot, Arr, Box.
-/
import Derived.Test.YtiokcemlfdonnaaRecP0
import Derived.Deep.RegionHeld3
import Derived.Deep.Heap
import Derived.Test.YtiokcemlfdonnaaRecP1
import Derived.Laws.BitsAllLaws
import Derived.Test.YtiokcemlfdonnaaProg
import Derived.Deep.WholeRow
import Derived.Laws.StructEq
import Derived.ChangeKeysEq
import Derived.Laws.CopyOwn
import Derived.Lib.BufferWrite
namespace Go.Proofs.Ytiokcemlfdonnaa
open Go.RowKit

section
variable {W w' w1 : World}
theorem held_draw (W : World) : (∀ b o, b < W.heap.size → W.drew.cell? ⟨b, o, none⟩ = W.cell? ⟨b, o, none⟩) ∧ Below W.heap.size W W.drew := ⟨fun _ _ _ => rfl, (Below.refl _ _).drew⟩
theorem held_call (h : (∀ b o, b < W.heap.size → w'.cell? ⟨b, o, none⟩ = W.cell? ⟨b, o, none⟩) ∧ Below W.heap.size W w') (hb : Below w'.heap.size w' w1) :
    (∀ b o, b < W.heap.size → w1.cell? ⟨b, o, none⟩ = W.cell? ⟨b, o, none⟩) ∧ Below W.heap.size W w1 := by
  have hB := h.2.trans (hb.mono h.2.size)
  exact ⟨fun b o hb' => hB.cell (p := ⟨b, o, none⟩) hb', hB⟩
theorem held_alloc (h : (∀ b o, b < W.heap.size → w'.cell? ⟨b, o, none⟩ = W.cell? ⟨b, o, none⟩) ∧ Below W.heap.size W w') (o : Obj) :
    (∀ b o', b < W.heap.size → (w'.alloc o).cell? ⟨b, o', none⟩ = W.cell? ⟨b, o', none⟩) ∧ Below W.heap.size W (w'.alloc o) := by
  have hB := h.2.alloc h.2.size o
  exact ⟨fun b o hb' => hB.cell (p := ⟨b, o, none⟩) hb', hB⟩
theorem held_size (h : (∀ b o, b < W.heap.size → w'.cell? ⟨b, o, none⟩ = W.cell? ⟨b, o, none⟩) ∧ Below W.heap.size W w') : W.heap.size ≤ w'.heap.size := h.2.size
theorem Bytes.held {A : Option Addr} {n c : Nat} {l : List UInt8} (h : Bytes W W.heap.size A n c l) (hs : (∀ b o, b < W.heap.size → w'.cell? ⟨b, o, none⟩ = W.cell? ⟨b, o, none⟩) ∧ Below W.heap.size W w') : Bytes w' W.heap.size A n c l := h.below hs.2
end

/-- block b is just these cells -/
def Str (w : World) (b : Nat) (cs : Array Value) : Prop := ∃ t, w.heap[b]? = some (.cells cs t (0, 0))
section
variable {w w' : World} {b : Nat} {cs : Array Value}
theorem Str.lt (h : Str w b cs) : b < w.heap.size := by
  obtain ⟨t, h⟩ := h
  exact (Array.getElem?_eq_some_iff.1 h).1
theorem Str.new (w : World) (cs : Array Value) (t : TypeId) : Str (w.alloc (.cells cs t)) w.heap.size cs := ⟨t, heap_alloc_new w _⟩
theorem Str.alloc (h : Str w b cs) (o : Obj) : Str (w.alloc o) b cs := by
  have hl := h.lt
  obtain ⟨t, h⟩ := h
  exact ⟨t, (Below.heap_alloc w o b hl).trans h⟩
theorem Str.next (h : Str w b cs) (hb : Below w.heap.size w w') : Str w' b cs := by
  have hl := h.lt
  obtain ⟨t, h⟩ := h
  exact ⟨t, (hb.block b hl).trans h⟩
theorem Str.below {B : Nat} (h : Str w b cs) (hb : Below B w w') (hB : b < B) : Str w' b cs := by
  obtain ⟨t, h⟩ := h
  exact ⟨t, (hb.block b hB).trans h⟩
theorem Str.cell (h : Str w b cs) (i : Nat) : w.cell? ⟨b, i, none⟩ = cs[i]? := by
  obtain ⟨t, h⟩ := h
  exact cell_of_row w b i cs t (0, 0) h
theorem Str.frozen (h : Str w b cs) (i : Nat) : w.frozen? ⟨b, i, none⟩ = false := by
  obtain ⟨t, h⟩ := h
  simp [World.frozen?, h]
theorem Str.drewN (h : Str w b cs) (n : Nat) : Str (w.drewN n) b cs := h
theorem str5 {c0 c1 c2 c3 c4 : Value} (h : Str w b #[c0, c1, c2, c3, c4]) :
    w.cell? ⟨b, 0, none⟩ = some c0 ∧ w.cell? ⟨b, 1, none⟩ = some c1 ∧ w.cell? ⟨b, 2, none⟩ = some c2 ∧ w.cell? ⟨b, 3, none⟩ = some c3 ∧ w.cell? ⟨b, 4, none⟩ = some c4 := ⟨h.cell 0, h.cell 1, h.cell 2, h.cell 3, h.cell 4⟩
theorem str6 {c0 c1 c2 c3 c4 c5 : Value} (h : Str w b #[c0, c1, c2, c3, c4, c5]) :
    w.cell? ⟨b, 0, none⟩ = some c0 ∧ w.cell? ⟨b, 1, none⟩ = some c1 ∧ w.cell? ⟨b, 2, none⟩ = some c2 ∧ w.cell? ⟨b, 3, none⟩ = some c3 ∧ w.cell? ⟨b, 4, none⟩ = some c4 ∧ w.cell? ⟨b, 5, none⟩ = some c5 := ⟨h.cell 0, h.cell 1, h.cell 2, h.cell 3, h.cell 4, h.cell 5⟩
theorem str7 {c0 c1 c2 c3 c4 c5 c6 : Value} (h : Str w b #[c0, c1, c2, c3, c4, c5, c6]) :
    w.cell? ⟨b, 0, none⟩ = some c0 ∧ w.cell? ⟨b, 1, none⟩ = some c1 ∧ w.cell? ⟨b, 2, none⟩ = some c2 ∧ w.cell? ⟨b, 3, none⟩ = some c3 ∧ w.cell? ⟨b, 4, none⟩ = some c4 ∧ w.cell? ⟨b, 5, none⟩ = some c5 ∧ w.cell? ⟨b, 6, none⟩ = some c6 := ⟨h.cell 0, h.cell 1, h.cell 2, h.cell 3, h.cell 4, h.cell 5, h.cell 6⟩
end
theorem new1 {w W : World} {c0 : Array Value} {t0 : TypeId} (h : w.alloc (.cells c0 t0) = W) : Hid (Str W (w.heap.size) c0) ∧ Hid (Below w.heap.size w W) ∧ w.heap.size ≤ W.heap.size ∧ W.heap.size = w.heap.size + 1 := by
  subst h
  exact ⟨Lib.hid (by have := Str.new (w) c0 t0; simpa using this), Lib.hid (balloc (bsame w) _), (balloc (bsame w) _).size, by simp⟩
theorem new2 {w W : World} {c0 c1 : Array Value} {t0 t1 : TypeId} (h : (w.alloc (.cells c0 t0)).alloc (.cells c1 t1) = W) : Hid (Str W (w.heap.size) c0) ∧ Hid (Str W (w.heap.size + 1) c1) ∧ Hid (Below w.heap.size w W) ∧ w.heap.size ≤ W.heap.size ∧ W.heap.size = w.heap.size + 1 + 1 := by
  subst h
  exact ⟨Lib.hid (by have := (Str.new (w) c0 t0).alloc (.cells c1 t1); simpa using this), Lib.hid (by have := Str.new ((w).alloc (.cells c0 t0)) c1 t1; simpa using this), Lib.hid (balloc (balloc (bsame w) _) _), (balloc (balloc (bsame w) _) _).size, by simp⟩
theorem new3 {w W : World} {c0 c1 c2 : Array Value} {t0 t1 t2 : TypeId} (h : ((w.alloc (.cells c0 t0)).alloc (.cells c1 t1)).alloc (.cells c2 t2) = W) : Hid (Str W (w.heap.size) c0) ∧ Hid (Str W (w.heap.size + 1) c1) ∧ Hid (Str W (w.heap.size + 1 + 1) c2) ∧ Hid (Below w.heap.size w W) ∧ w.heap.size ≤ W.heap.size ∧ W.heap.size = w.heap.size + 1 + 1 + 1 := by
  subst h
  exact ⟨Lib.hid (by have := ((Str.new (w) c0 t0).alloc (.cells c1 t1)).alloc (.cells c2 t2); simpa using this), Lib.hid (by have := (Str.new ((w).alloc (.cells c0 t0)) c1 t1).alloc (.cells c2 t2); simpa using this), Lib.hid (by have := Str.new (((w).alloc (.cells c0 t0)).alloc (.cells c1 t1)) c2 t2; simpa using this), Lib.hid (balloc (balloc (balloc (bsame w) _) _) _), (balloc (balloc (balloc (bsame w) _) _) _).size, by simp⟩
theorem new4 {w W : World} {c0 c1 c2 c3 : Array Value} {t0 t1 t2 t3 : TypeId} (h : (((w.alloc (.cells c0 t0)).alloc (.cells c1 t1)).alloc (.cells c2 t2)).alloc (.cells c3 t3) = W) : Hid (Str W (w.heap.size) c0) ∧ Hid (Str W (w.heap.size + 1) c1) ∧ Hid (Str W (w.heap.size + 1 + 1) c2) ∧ Hid (Str W (w.heap.size + 1 + 1 + 1) c3) ∧ Hid (Below w.heap.size w W) ∧ w.heap.size ≤ W.heap.size ∧ W.heap.size = w.heap.size + 1 + 1 + 1 + 1 := by
  subst h
  exact ⟨Lib.hid (by have := (((Str.new (w) c0 t0).alloc (.cells c1 t1)).alloc (.cells c2 t2)).alloc (.cells c3 t3); simpa using this), Lib.hid (by have := ((Str.new ((w).alloc (.cells c0 t0)) c1 t1).alloc (.cells c2 t2)).alloc (.cells c3 t3); simpa using this), Lib.hid (by have := (Str.new (((w).alloc (.cells c0 t0)).alloc (.cells c1 t1)) c2 t2).alloc (.cells c3 t3); simpa using this), Lib.hid (by have := Str.new ((((w).alloc (.cells c0 t0)).alloc (.cells c1 t1)).alloc (.cells c2 t2)) c3 t3; simpa using this), Lib.hid (balloc (balloc (balloc (balloc (bsame w) _) _) _) _), (balloc (balloc (balloc (balloc (bsame w) _) _) _) _).size, by simp⟩
theorem new5 {w W : World} {c0 c1 c2 c3 c4 : Array Value} {t0 t1 t2 t3 t4 : TypeId} (h : ((((w.alloc (.cells c0 t0)).alloc (.cells c1 t1)).alloc (.cells c2 t2)).alloc (.cells c3 t3)).alloc (.cells c4 t4) = W) : Hid (Str W (w.heap.size) c0) ∧ Hid (Str W (w.heap.size + 1) c1) ∧ Hid (Str W (w.heap.size + 1 + 1) c2) ∧ Hid (Str W (w.heap.size + 1 + 1 + 1) c3) ∧ Hid (Str W (w.heap.size + 1 + 1 + 1 + 1) c4) ∧ Hid (Below w.heap.size w W) ∧ w.heap.size ≤ W.heap.size ∧ W.heap.size = w.heap.size + 1 + 1 + 1 + 1 + 1 := by
  subst h
  exact ⟨Lib.hid (by have := ((((Str.new (w) c0 t0).alloc (.cells c1 t1)).alloc (.cells c2 t2)).alloc (.cells c3 t3)).alloc (.cells c4 t4); simpa using this), Lib.hid (by have := (((Str.new ((w).alloc (.cells c0 t0)) c1 t1).alloc (.cells c2 t2)).alloc (.cells c3 t3)).alloc (.cells c4 t4); simpa using this), Lib.hid (by have := ((Str.new (((w).alloc (.cells c0 t0)).alloc (.cells c1 t1)) c2 t2).alloc (.cells c3 t3)).alloc (.cells c4 t4); simpa using this), Lib.hid (by have := (Str.new ((((w).alloc (.cells c0 t0)).alloc (.cells c1 t1)).alloc (.cells c2 t2)) c3 t3).alloc (.cells c4 t4); simpa using this), Lib.hid (by have := Str.new (((((w).alloc (.cells c0 t0)).alloc (.cells c1 t1)).alloc (.cells c2 t2)).alloc (.cells c3 t3)) c4 t4; simpa using this), Lib.hid (balloc (balloc (balloc (balloc (balloc (bsame w) _) _) _) _) _), (balloc (balloc (balloc (balloc (balloc (bsame w) _) _) _) _) _).size, by simp⟩
theorem sEq {W W1 : World} {b : Nat} {cs : Array Value} (e : W = W1) (h : Str W b cs) : Hid (Str W1 b cs) := by
  subst e
  exact Lib.hid h
end Go.Proofs.Ytiokcemlfdonnaa
namespace Go.Proofs.Ytiokcemlfdonnaa
open Go.RowKit

theorem Str.set {w : World} {b : Nat} {cs : Array Value} (h : Str w b cs) (i : Nat) (v : Value) : Str (w.setCell ⟨b, i, none⟩ v) b (cs.setIfInBounds i v) := by
  obtain ⟨t, h⟩ := h
  refine ⟨t, ?_⟩
  have hl := (Array.getElem?_eq_some_iff.1 h).1
  simp [World.setCell, Array.getElem?_modify, h]
theorem Str.other {w : World} {b b' : Nat} {cs : Array Value} (h : Str w b cs) (i : Nat) (v : Value) (hne : b ≠ b') : Str (w.setCell ⟨b', i, none⟩ v) b cs := by
  obtain ⟨t, h⟩ := h
  exact ⟨t, (Deep.blk_setCell_other w ⟨b', i, none⟩ v b hne).trans h⟩
theorem own_set {w : World} {base : Nat} {e : TypeId} {size n : Nat} {v : Value} {xs : List Value} (h : w.ownsRow base e size v n xs) {b : Nat} (hb : b < base) (i : Nat) (u : Value) : (w.setCell ⟨b, i, none⟩ u).ownsRow base e size v n xs := by
  obtain ⟨h1, h2⟩ := h
  refine ⟨h1, ?_⟩
  rcases h2 with h2 | ⟨g, cap, cur, hv, hg, hh, r⟩
  · exact .inl h2
  · exact .inr ⟨g, cap, cur, hv, hg, (Deep.blk_setCell_other w ⟨b, i, none⟩ u g (by show g ≠ b; omega)).trans hh, r⟩
theorem Bytes.own {w : World} {A : Option Addr} {n c base k : Nat} {l : List UInt8} {e : TypeId} (h : w.ownsRow base e 1 (.slice A n c) k (l.map byteV)) : Bytes w w.heap.size A n c l := by
  obtain ⟨A', n', c', e', h'⟩ := Bytes.of_own h
  cases e'
  exact h'
theorem str1 {w : World} {b : Nat} {c0 : Value} (h : Str w b #[c0]) : w.cell? ⟨b, 0, none⟩ = some c0 := h.cell 0
theorem str2 {w : World} {b : Nat} {c0 c1 : Value} (h : Str w b #[c0, c1]) : w.cell? ⟨b, 0, none⟩ = some c0 ∧ w.cell? ⟨b, 1, none⟩ = some c1 := ⟨h.cell 0, h.cell 1⟩
theorem str3 {w : World} {b : Nat} {c0 c1 c2 : Value} (h : Str w b #[c0, c1, c2]) : w.cell? ⟨b, 0, none⟩ = some c0 ∧ w.cell? ⟨b, 1, none⟩ = some c1 ∧ w.cell? ⟨b, 2, none⟩ = some c2 := ⟨h.cell 0, h.cell 1, h.cell 2⟩
theorem str4 {w : World} {b : Nat} {c0 c1 c2 c3 : Value} (h : Str w b #[c0, c1, c2, c3]) : w.cell? ⟨b, 0, none⟩ = some c0 ∧ w.cell? ⟨b, 1, none⟩ = some c1 ∧ w.cell? ⟨b, 2, none⟩ = some c2 ∧ w.cell? ⟨b, 3, none⟩ = some c3 := ⟨h.cell 0, h.cell 1, h.cell 2, h.cell 3⟩
end Go.Proofs.Ytiokcemlfdonnaa
namespace Go.Proofs.Ytiokcemlfdonnaa
open Go.RowKit
set_option linter.unusedVariables false
def runV (r : RunX) (A : Option Addr) (n c : Nat) : List Value := [.int .i64 r.at_, .slice A n c]
def RunE : El RunX where
  size := 2
  pos := by decide
  rel w B vs r := ∃ A n c, vs = runV r A n c ∧ Bytes w B A n c r.data ∧ In64 r.at_
  len := by rintro w B vs p ⟨A, n, c, rfl, _⟩; rfl
  one := by rintro w B vs p ⟨A, n, c, rfl, _⟩ v hv; simp only [runV, List.mem_cons, List.not_mem_nil, or_false] at hv; rcases hv with rfl | rfl <;> rfl
  sub := by rintro w w' B vs p hs ⟨A, n, c, e, h, r⟩; exact ⟨A, n, c, e, h.sub hs, r⟩
  more := by rintro w B B' vs p hB ⟨A, n, c, e, h, r⟩; exact ⟨A, n, c, e, h.more hB, r⟩
def patchV (x : PatchX) (A : Option Addr) (n c : Nat) : List Value := [.int .i64 x.page, .bool x.fresh, .slice A n c]
def PatchE : El PatchX where
  size := 3
  pos := by decide
  rel w B vs x := ∃ A n c, vs = patchV x A n c ∧ Elems RunE w B A n c x.runs ∧ In64 x.page
  len := by rintro w B vs p ⟨A, n, c, rfl, _⟩; rfl
  one := by rintro w B vs p ⟨A, n, c, rfl, _⟩ v hv; simp only [patchV, List.mem_cons, List.not_mem_nil, or_false] at hv; rcases hv with rfl | rfl | rfl <;> rfl
  sub := by rintro w w' B vs p hs ⟨A, n, c, e, h, r⟩; exact ⟨A, n, c, e, h.sub hs, r⟩
  more := by rintro w B B' vs p hB ⟨A, n, c, e, h, r⟩; exact ⟨A, n, c, e, h.more hB, r⟩
/-- a run in a slice: its cells -/
theorem run_at {wr w : World} {B n c k : Nat} {A : Option Addr} {l : List RunX} (h : ElemsIn RunE wr w B A n c l) (hk : k < n) : ∃ b o r A2 n2 c2, A = some ⟨b, o, none⟩ ∧ b < B ∧ l[k]? = some r ∧ Bytes wr B A2 n2 c2 r.data ∧ In64 r.at_ ∧
    w.cell? ⟨b, o + k * 2, none⟩ = some (.int .i64 r.at_) ∧ w.cell? ⟨b, o + k * 2 + 1, none⟩ = some (.slice A2 n2 c2) := by
  have hl : k < l.length := by rw [h.len]; exact hk
  obtain ⟨b, o, vs, e, hb, ⟨A2, n2, c2, rfl, hy, h1⟩, hc⟩ := h.at_ hk
  exact ⟨b, o, _, A2, n2, c2, e, hb, List.getElem?_eq_getElem hl, hy, h1, hc 0 _ rfl, hc 1 _ rfl⟩
/-- a patch in a slice: its cells -/
theorem patch_at {wr w : World} {B n c k : Nat} {A : Option Addr} {l : List PatchX} (h : ElemsIn PatchE wr w B A n c l) (hk : k < n) : ∃ b o x A2 n2 c2, A = some ⟨b, o, none⟩ ∧ b < B ∧ l[k]? = some x ∧ Elems RunE wr B A2 n2 c2 x.runs ∧ In64 x.page ∧
    w.cell? ⟨b, o + k * 3, none⟩ = some (.int .i64 x.page) ∧ w.cell? ⟨b, o + k * 3 + 1, none⟩ = some (.bool x.fresh) ∧ w.cell? ⟨b, o + k * 3 + 2, none⟩ = some (.slice A2 n2 c2) := by
  have hl : k < l.length := by rw [h.len]; exact hk
  obtain ⟨b, o, vs, e, hb, ⟨A2, n2, c2, rfl, hy, h1⟩, hc⟩ := h.at_ hk
  exact ⟨b, o, _, A2, n2, c2, e, hb, List.getElem?_eq_getElem hl, hy, h1, hc 0 _ rfl, hc 1 _ rfl, hc 2 _ rfl⟩
end Go.Proofs.Ytiokcemlfdonnaa
namespace Go.Proofs.Ytiokcemlfdonnaa.CellP

/-- the empty cell -/
def none : Cell := ⟨0, [], 0, 0, 0⟩
/-- may a cell be? -/
def right (c : Cell) : Bool :=
  if c.kind = 1 then decide (c.data.length ≤ 32) && (c.lo == 0 && (c.hi == 0 && c.val == 0))
  else c.kind == 2 && (c.data.length == 0 && (decide (c.lo ≤ c.val) && decide (c.val ≤ c.hi)))
def same (a b : Cell) : Bool := a.kind == b.kind && (a.data == b.data && (a.lo == b.lo && (a.hi == b.hi && a.val == b.val)))
def code (b : Bool) : Int := if b then 0 else 1
/-- a counter with another value, and the error's number -/
def set (c : Cell) (v : Int) : Cell × Int :=
  if c.kind = 2 ∧ right c = true then (if v < c.lo ∨ c.hi < v then (none, 8) else (⟨2, [], c.lo, c.hi, v⟩, 0)) else (none, 6)
/-- the bytes of a cell that may be -/
def bytes (c : Cell) : List UInt8 :=
  if right c = true then (if c.kind = 1 then [1, UInt8.ofNat c.data.length] ++ c.data else [2] ++ (BeP.parts 8 c.lo ++ (BeP.parts 8 c.hi ++ BeP.parts 8 c.val))) else []
end Go.Proofs.Ytiokcemlfdonnaa.CellP
namespace Go.Proofs.Ytiokcemlfdonnaa.KeyP

/-- a byte that a key may have -/
def okB (c : UInt8) : Bool := decide (33 ≤ c.toNat) && decide (c.toNat ≤ 126)
def right (l : List UInt8) : Bool := l.all okB && (decide (0 < l.length) && decide (l.length ≤ 16))
/-- the error's number: 0, or 1 -/
def code (b : Bool) : Int := if b then 0 else 1
def hstep (h : Nat) (c : UInt8) : Nat := ((h ^^^ c.toNat) * 16777619) % 4294967296
def hash (l : List UInt8) : Nat := l.foldl hstep 2166136261
def bucket (l : List UInt8) (n : Int) : Int := if n < 1 then 0 else (hash l : Int) % n

theorem foldl_lt (l : List UInt8) (h : Nat) (hh : h < 4294967296) : l.foldl hstep h < 4294967296 := by
  induction l generalizing h with
  | nil => exact hh
  | cons c l ih => exact ih _ (Nat.mod_lt _ (by decide))
theorem hash_lt (l : List UInt8) : hash l < 4294967296 := foldl_lt l _ (by decide)
theorem getAt (s : ByteArray) (k : Nat) (_h : k < s.size) (h' : k < s.data.toList.length) : s.data.toList[k] = s[k] := rfl
theorem foldl_take {β : Type} (f : β → UInt8 → β) (b : β) (s : ByteArray) (k : Nat) (h : k < s.size) : (s.data.toList.take (k + 1)).foldl f b = f ((s.data.toList.take k).foldl f b) s[k] := by
  rw [List.take_succ_eq_append_getElem (by simpa using h), getAt s k h]
  simp only [List.foldl_append, List.foldl_cons, List.foldl_nil]
theorem hash_take (s : ByteArray) (k : Nat) (h : k < s.size) : hash (s.data.toList.take (k + 1)) = hstep (hash (s.data.toList.take k)) s[k] := by
  unfold hash
  exact foldl_take hstep _ s k h
theorem hash_all (s : ByteArray) (k : Nat) (h : ¬ k < s.size) : hash (s.data.toList.take k) = hash s.data.toList := by
  rw [List.take_of_length_le (by simp; exact Nat.le_of_not_lt h)]

/-- one round of the 32 bit hash, as the walk spells it -/
theorem round32 (h : Nat) (hh : h < 4294967296) (c : UInt8) :
    bits .xor .u32 (h : Int) ((c.toNat : Int) % 4294967296) * 16777619 % 4294967296 = (hstep h c : Int) := by
  have hc : c.toNat < 256 := c.toNat_lt
  have e : ((c.toNat : Int) % 4294967296) = (c.toNat : Int) := by omega
  rw [e, u32_xor_nat h c.toNat hh (by omega)]
  unfold hstep
  omega
/-- one round of the 64 bit hash -/
theorem round64 (h : Nat) (hh : h < 4294967296) (c : UInt8) :
    (IntKind.u64.wrap (bits .xor .u64 (h : Int) (IntKind.u64.wrap (c.toNat : Int)) * 16777619)).tmod 4294967296 = (hstep h c : Int) := by
  have hc : c.toNat < 256 := c.toNat_lt
  have hx : h ^^^ c.toNat < 2 ^ 32 := Nat.xor_lt_two_pow (by omega) (by omega)
  have e : IntKind.u64.wrap (c.toNat : Int) = (c.toNat : Int) := by
    simp only [IntKind.wrap, IntKind.bits, IntKind.signed]
    simp
    omega
  rw [e, u64_xor_nat h c.toNat (by omega) (by omega)]
  have e2 : IntKind.u64.wrap (((h ^^^ c.toNat : Nat) : Int) * 16777619) = ((h ^^^ c.toNat : Nat) : Int) * 16777619 := by
    simp only [IntKind.wrap, IntKind.bits, IntKind.signed]
    simp
    omega
  rw [e2, Int.tmod_eq_emod_of_nonneg (by omega)]
  unfold hstep
  omega

theorem all_take (s : ByteArray) (k : Nat) (h : k < s.size) : (s.data.toList.take (k + 1)).all okB = ((s.data.toList.take k).all okB && okB s[k]) := by
  rw [List.take_succ_eq_append_getElem (by simpa using h)]
  simp only [List.all_append, List.all_cons, List.all_nil, Bool.and_true]
  rfl
theorem all_of_take (s : ByteArray) (k : Nat) (h : ¬ k < s.size) (ha : (s.data.toList.take k).all okB = true) : s.data.toList.all okB = true := by
  rw [List.take_of_length_le (by simp; exact Nat.le_of_not_lt h)] at ha
  exact ha
theorem right_eq (s : ByteArray) (h1 : s.data.toList.all okB = true) (h2 : 0 < s.size) : right s.data.toList = decide ((s.size : Int) ≤ 16) := by
  have e : s.data.toList.length = s.size := by simp
  have e2 : decide ((s.size : Int) ≤ 16) = decide (s.size ≤ 16) := by rw [decide_eq_decide]; omega
  rw [e2]
  simp [right, h1, h2]
theorem right_of (s : ByteArray) (h1 : s.data.toList.all okB = true) (h2 : 0 < s.size) (h3 : s.size ≤ 16) : right s.data.toList = true := by
  have e : s.data.toList.length = s.size := by simp
  simp only [right, h1, e, Bool.true_and, Bool.and_eq_true, decide_eq_true_eq]
  exact ⟨h2, h3⟩
theorem not_right_len (s : ByteArray) (h : ¬ (0 < s.size ∧ s.size ≤ 16)) : right s.data.toList = false := by
  have e : s.data.toList.length = s.size := by simp
  unfold right
  rw [e]
  by_cases h0 : 0 < s.size <;> by_cases h1 : s.size ≤ 16 <;> simp_all
theorem not_right_at (s : ByteArray) (k : Nat) (h : k < s.size) (hc : okB s[k] = false) : right s.data.toList = false := by
  have hm : s[k] ∈ s.data.toList := by
    have : s[k] = s.data.toList[k]'(by simpa using h) := rfl
    rw [this]
    exact List.getElem_mem _
  have : s.data.toList.all okB = false := by
    rw [List.all_eq_false]
    exact ⟨_, hm, by simp [hc]⟩
  simp [right, this]
theorem okB_true (c : UInt8) (h1 : 33 ≤ c.toNat) (h2 : c.toNat ≤ 126) : okB c = true := by simp [okB, h1, h2]
theorem okB_lo (c : UInt8) (h1 : c.toNat < 33) : okB c = false := by
  have : ¬ 33 ≤ c.toNat := by omega
  simp [okB, this]
theorem okB_hi (c : UInt8) (h1 : 126 < c.toNat) : okB c = false := by
  have : ¬ c.toNat ≤ 126 := by omega
  simp [okB, this]
theorem tmod_hash (l : List UInt8) (n : Int) : (hash l : Int).tmod n = (hash l : Int) % n := Int.tmod_eq_emod_of_nonneg (by omega)
theorem hash_a : hash [97] = 3826002220 := by decide +kernel
theorem hash_append (a b : List UInt8) : hash (a ++ b) = b.foldl hstep (hash a) := by simp [hash, List.foldl_append]
theorem bucket_one (l : List UInt8) : bucket l 1 = 0 := by simp [bucket]
theorem code_true : code true = 0 := rfl
theorem code_false : code false = 1 := rfl
theorem bucket_lo (l : List UInt8) (n : Int) (h : n < 1) : bucket l n = 0 := by simp [bucket, h]
theorem bucket_hi (l : List UInt8) (n : Int) (h : ¬ n < 1) : bucket l n = (hash l : Int) % n := by simp [bucket, h]
end Go.Proofs.Ytiokcemlfdonnaa.KeyP
namespace Go.Proofs.Ytiokcemlfdonnaa.SlotP

/-- the empty slot -/
def none : Item := ⟨0, ByteArray.empty, CellP.none⟩
def same (x y : Item) : Bool := x.state == y.state && (x.key.toList == y.key.toList && CellP.same x.cell y.cell)
/-- may an item be? -/
def right (x : Item) : Bool := if x.state = 0 then same x none else ((x.state == 1 || x.state == 2) && (KeyP.right x.key.data.toList && CellP.right x.cell))
/-- what a slot begins with -/
def body (x : Item) : List UInt8 := [UInt8.ofNat x.state.toNat, UInt8.ofNat x.key.size] ++ (x.key.data.toList ++ CellP.bytes x.cell)
def zeros (n : Nat) : List UInt8 := List.replicate n 0
/-- the bytes of a slot -/
def bytes (x : Item) : List UInt8 := if x.state ≠ 0 ∧ right x = true then body x ++ zeros (64 - (body x).length) else zeros 64

theorem right_key (x : Item) (h0 : x.state ≠ 0) (hr : right x = true) : x.key.size ≤ 16 := by
  unfold right at hr
  rw [if_neg h0] at hr
  simp only [Bool.and_eq_true] at hr
  have := hr.2.1
  unfold KeyP.right at this
  simp at this
  exact this.2.2
theorem right_state (x : Item) (h0 : x.state ≠ 0) (hr : right x = true) : x.state = 1 ∨ x.state = 2 := by
  unfold right at hr
  rw [if_neg h0] at hr
  simp only [Bool.and_eq_true, Bool.or_eq_true, beq_iff_eq] at hr
  exact hr.1
theorem right_cell (x : Item) (h0 : x.state ≠ 0) (hr : right x = true) : CellP.right x.cell = true := by
  unfold right at hr
  rw [if_neg h0] at hr
  simp only [Bool.and_eq_true] at hr
  exact hr.2.2
theorem cell_le (c : Cell) : (CellP.bytes c).length ≤ 34 := by
  unfold CellP.bytes
  cases hr : CellP.right c
  · simp
  · by_cases hk : c.kind = 1
    · unfold CellP.right at hr
      rw [if_pos hk] at hr
      simp at hr
      simp [hk]
      omega
    · simp [hk, BeP.parts_length]
/-- bytes with others from a place on -/
def over (l : List UInt8) (off : Nat) (s : List UInt8) : List UInt8 := l.take off ++ (s ++ l.drop (off + s.length))
theorem over_append (p q s : List UInt8) (n : Nat) (h : p.length = n) : over (p ++ q) n s = p ++ (s ++ q.drop s.length) := by
  subst h
  unfold over
  rw [List.take_left, List.drop_append]
  simp
theorem zeros_drop (n m : Nat) : (zeros n).drop m = zeros (n - m) := by simp [zeros]
theorem over_length (l : List UInt8) (off : Nat) (s : List UInt8) (h : off + s.length ≤ l.length) : (over l off s).length = l.length := by
  simp [over]; omega
theorem over_zero (l s : List UInt8) (h : l.length = s.length) : over l 0 s = s := by
  unfold over
  rw [List.drop_eq_nil_of_le (by omega)]
  simp
/-- as slot.Put lays the bytes -/
theorem put_list (x : Item) (h0 : x.state ≠ 0) (hr : right x = true) :
    over (over (((zeros 64).set 0 (UInt8.ofNat x.state.toNat)).set 1 (UInt8.ofNat x.key.size)) 2 x.key.data.toList) (2 + x.key.size) (CellP.bytes x.cell) = bytes x := by
  have hl : x.key.data.toList.length = x.key.size := Array.length_toList
  have hset : ((zeros 64).set 0 (UInt8.ofNat x.state.toNat)).set 1 (UInt8.ofNat x.key.size) = [UInt8.ofNat x.state.toNat, UInt8.ofNat x.key.size] ++ zeros 62 := rfl
  have h2 : ([UInt8.ofNat x.state.toNat, UInt8.ofNat x.key.size] ++ x.key.data.toList).length = 2 + x.key.size := by
    rw [List.length_append, hl]
    rfl
  unfold bytes
  rw [if_pos ⟨h0, hr⟩, hset, over_append _ _ _ 2 rfl, ← List.append_assoc, over_append _ _ _ _ h2, zeros_drop, zeros_drop, hl]
  unfold body
  simp only [List.append_assoc, List.length_append, hl, List.length_cons, List.length_nil]
  rw [show 62 - x.key.size - (CellP.bytes x.cell).length = 64 - (0 + 1 + 1 + (x.key.size + (CellP.bytes x.cell).length)) by omega]
theorem bytes_length (x : Item) : (bytes x).length = 64 := by
  unfold bytes
  split
  · rename_i h
    have hk := right_key x h.1 h.2
    have hc := cell_le x.cell
    have hl : x.key.data.toList.length = x.key.size := Array.length_toList
    simp only [body, zeros, List.length_append, List.length_replicate, List.length_cons, List.length_nil, hl]
    omega
  · simp [zeros]
end Go.Proofs.Ytiokcemlfdonnaa.SlotP
namespace Go.Proofs.Ytiokcemlfdonnaa
open Go.RowKit

/-- bytes as cells -/
def rowV (l : List UInt8) : Array Value := (l.map byteV).toArray
theorem rowV_size (l : List UInt8) : (rowV l).size = l.length := by simp [rowV]
theorem rowV_get (l : List UInt8) (i : Nat) : (rowV l)[i]? = l[i]?.map byteV := by simp [rowV]
theorem rowV_one (l : List UInt8) : (rowV l).all (·.oneCell') = true := by
  rw [Array.all_eq_true_iff_forall_mem]
  intro v hv
  exact byteV_one l v (by simpa [rowV] using hv)
theorem rowV_zeros (n : Nat) : rowV (SlotP.zeros n) = Array.replicate n (.int .u8 0) := by
  simp [rowV, SlotP.zeros, byteV]
theorem rowV_set (l : List UInt8) (i : Nat) (u : UInt8) : (rowV l).setIfInBounds i (byteV u) = rowV (l.set i u) := by
  simp [rowV, List.map_set]

def alSem (t : TypeId) : Sem Value := Instr.alloc t true (.tuple #[])
def bdSem (t : TypeId) (ps : Array (Nat × Value)) : Sem Value := Instr.build t ps
def ldSem (t : TypeId) (v : Value) : Sem Value := Instr.loadAt t v
def stSem (t : TypeId) (a v : Value) : Sem Unit := Instr.storeAt t a v
/-- a type that is so many bytes -/
structure ArrT (P : Program) (t : TypeId) (n : Nat) : Prop where
  und : ∃ e, P.underlying t = some (.array n e) ∧ P.underlying e = some (.int .u8) ∧ (P.info? e).map (·.size) = some 1
  info : (P.info? t).map (fun i => (i.zero, i.size)) = some (some (.agg (Array.replicate n (.int .u8 0))), n)
  guard : P.eqGuardType P.depth t = false
section
variable {P : Program} {t : TypeId} {n : Nat}
theorem ArrT.size (h : ArrT P t n) : (P.info? t).map (·.size) = some n := by
  have := h.info
  cases hq : P.info? t with
  | none => simp [hq] at this
  | some i =>
    simp [hq] at this
    simp [this.2]
theorem run_al (h : ArrT P t n) (w : World) : (alSem t).run P w = .ok (.pointer (some ⟨w.heap.size, 0, none⟩)) (w.alloc (.cells (rowV (SlotP.zeros n)) t)) := by
  obtain ⟨hz, _⟩ := zero_of_info h.info
  rw [rowV_zeros]
  simp [alSem, Instr.alloc, hz, newVar, newRow, Value.cells]
theorem run_bd (h : ArrT P t n) (w : World) : (bdSem t #[]).run P w = .ok (.agg (rowV (SlotP.zeros n))) w := by
  obtain ⟨hz, _⟩ := zero_of_info h.info
  obtain ⟨e, he, _, he1⟩ := h.und
  rw [rowV_zeros]
  cases hq : P.info? e with
  | none => simp [hq] at he1
  | some i => simp [bdSem, Instr.build, hz, run_underlying he, sizeOf, typeInfo, hq, Instr.fill, Value.cells]
theorem run_ld (h : ArrT P t n) {w : World} {b : Nat} {l : List UInt8} (hs : Str w b (rowV l)) (hl : l.length = n) : (ldSem t (.pointer (some ⟨b, 0, none⟩))).run P w = .ok (.agg (rowV l)) w := by
  obtain ⟨t', hg⟩ := hs
  obtain ⟨e, he, _⟩ := h.und
  simp only [ldSem, Instr.loadAt, Instr.sureAddr, Sem.run_bind, Sem.run_pure, Result.andThen_ok]
  exact run_loadVar_row w b t' t (rowV l) (0, 0) _ hg he rfl (by rw [h.size, rowV_size, hl])
theorem run_st (h : ArrT P t n) {w : World} {b : Nat} {cs : Array Value} {l : List UInt8} (hs : Str w b cs) (hc : cs.size = n) (hl : l.length = n) : (stSem t (.pointer (some ⟨b, 0, none⟩)) (.agg (rowV l))).run P w = .ok () (w.setRow b (rowV l)) := by
  obtain ⟨t', hg⟩ := hs
  simp only [stSem, Instr.storeAt, Instr.sureAddr, Sem.run_bind, Sem.run_pure, Result.andThen_ok]
  exact run_storeVar_row w b t' t cs (rowV l) hg (by rw [h.size, rowV_size, hl]) (by rw [rowV_size, hc, hl]) (rowV_one l)
theorem Str.setRow {w : World} {b : Nat} {cs cs' : Array Value} (h : Str w b cs) : Str (w.setRow b cs') b cs' := by
  obtain ⟨t', hg⟩ := h
  exact ⟨t', by simp [World.setRow, Array.getElem?_modify, hg]⟩
theorem Str.setRow_other {w : World} {b b' : Nat} {cs cs' : Array Value} (h : Str w b cs) (hne : b ≠ b') : Str (w.setRow b' cs') b cs := by
  obtain ⟨t', hg⟩ := h
  exact ⟨t', by simp [World.setRow, Array.getElem?_modify, hg, Ne.symm hne]⟩
theorem byteV_inj {a b : UInt8} : byteV a = byteV b ↔ a = b := by
  constructor
  · intro h
    simp [byteV] at h
    exact UInt8.toNat.inj (by omega)
  · rintro rfl; rfl
theorem run_eqItems (e : TypeId) (d : Nat) (he : P.underlying e = some (.int .u8)) (hc : P.cellsOf e = 1) (l l' : List UInt8) (w : World) (hl : l'.length = l.length) :
    ∀ is : List Nat, (∀ j ∈ is, j < l.length) → (Op.eqItems (d + 1) e (P.cellsOf e) (rowV l) (rowV l') is).run P w = .ok (is.all fun j => l[j]? == l'[j]?) w := by
  intro is
  induction is with
  | nil => intro _; simp [Op.eqItems]
  | cons j is ih =>
    intro hj
    have hlt : j < l.length := hj j (by simp)
    have hlt' : j < l'.length := by omega
    have hag : (isAgg e).run P w = .ok false w := by simp [isAgg, run_underlying he]
    have h1 : (part e (rowV l) j).run P w = .ok (byteV l[j]) w := by simp [part, hag, rowV_get, hlt]
    have h2 : (part e (rowV l') j).run P w = .ok (byteV l'[j]) w := by simp [part, hag, rowV_get, hlt']
    have h3 : (Op.equalIn (d + 1) e (byteV l[j]) (byteV l'[j])).run P w = .ok (((l[j].toNat : Int)) == (l'[j].toNat : Int)) w := run_equalIn_int w d e .u8 .u8 _ _ he
    have h4 : ((l[j].toNat : Int) == (l'[j].toNat : Int)) = (l[j]? == l'[j]?) := by
      rw [List.getElem?_eq_getElem hlt, List.getElem?_eq_getElem hlt', Bool.eq_iff_iff]
      simp only [beq_iff_eq, Option.some.injEq]
      constructor
      · intro h; exact UInt8.toNat.inj (by omega)
      · intro h; rw [h]
    have hr := ih fun k hk => hj k (by simp [hk])
    rw [hc] at hr ⊢
    simp only [Op.eqItems, Sem.run_bind, Nat.mul_one, h1, h2, h3, Result.andThen_ok, h4, List.all_cons]
    cases hb : (l[j]? == l'[j]?) with
    | false => simp
    | true => simpa using hr
theorem all_eq (l l' : List UInt8) (hl : l'.length = l.length) : ((List.range l.length).all fun j => l[j]? == l'[j]?) = (l == l') := by
  rw [Bool.eq_iff_iff]
  simp only [List.all_eq_true, List.mem_range, beq_iff_eq]
  constructor
  · intro h
    refine List.ext_getElem? fun j => ?_
    by_cases hj : j < l.length
    · exact h j hj
    · rw [List.getElem?_eq_none (by omega), List.getElem?_eq_none (by omega)]
  · rintro rfl j _; rfl
theorem run_arr_eq (h : ArrT P t n) (l l' : List UInt8) (hl : l.length = n) (hl' : l'.length = n) (w : World) : (Op.equalIn 10000 t (.agg (rowV l)) (.agg (rowV l'))).run P w = .ok (l == l') w := by
  obtain ⟨e, hu, he, hi⟩ := h.und
  cases hq : P.info? e with
  | none => simp [hq] at hi
  | some i =>
    have hc : P.cellsOf e = 1 := by simpa [Program.cellsOf, hq] using hi
    have := run_equalIn_array w 9999 (rowV l) (rowV l') hu hq
    rw [this, run_eqItems e 9998 he hc l l' w (by omega) _ (by simp; omega), ← all_eq l l' (by omega), hl]

def slSem (t : TypeId) (x : Value) (lo hi mx : Option Value) : Sem Value := Instr.sliceAt t x lo hi mx
/-- the address of a part of an array -/
theorem run_sl (h : ArrT P t n) (b lo hi : Nat) (h1 : lo ≤ hi) (h2 : hi ≤ n) (hlt : lo < n) (w : World) :
    (slSem t (.pointer (some ⟨b, 0, none⟩)) (some (.int .i64 (lo : Int))) (some (.int .i64 (hi : Int))) none).run P w = .ok (.slice (some ⟨b, lo, none⟩) (hi - lo) (n - lo)) w := by
  obtain ⟨e, hu, _, hi1⟩ := h.und
  cases hq : P.info? e with
  | none => simp [hq] at hi1
  | some i =>
    have hs : i.size = 1 := by simpa [hq] using hi1
    have a1 : (0 : Int) ≤ (hi : Int) ∧ (hi : Int) ≤ (n : Int) := by omega
    have a2 : (0 : Int) ≤ (lo : Int) ∧ (lo : Int) ≤ (hi : Int) := by omega
    simp [slSem, Instr.sliceAt, run_underlying hu, Instr.sureAddr, Instr.sliceBounds, Instr.sliceBound, asIntOf, a1, a2, sizeOf, typeInfo, hq, hs, add_none, h1, h2]
    omega
theorem run_sl_from (h : ArrT P t n) (b lo : Nat) (hlt : lo < n) (w : World) :
    (slSem t (.pointer (some ⟨b, 0, none⟩)) (some (.int .i64 (lo : Int))) none none).run P w = .ok (.slice (some ⟨b, lo, none⟩) (n - lo) (n - lo)) w := by
  obtain ⟨e, hu, _, hi1⟩ := h.und
  cases hq : P.info? e with
  | none => simp [hq] at hi1
  | some i =>
    have hs : i.size = 1 := by simpa [hq] using hi1
    simp [slSem, Instr.sliceAt, run_underlying hu, Instr.sureAddr, Instr.sliceBounds, Instr.sliceBound, asIntOf, sizeOf, typeInfo, hq, hs, add_none, (by omega : lo ≤ n)]
    omega
theorem run_sl_to (h : ArrT P t n) (b hi : Nat) (h2 : hi ≤ n) (w : World) :
    (slSem t (.pointer (some ⟨b, 0, none⟩)) none (some (.int .i64 (hi : Int))) none).run P w = .ok (.slice (some ⟨b, 0, none⟩) hi n) w := by
  obtain ⟨e, hu, _, hi1⟩ := h.und
  cases hq : P.info? e with
  | none => simp [hq] at hi1
  | some i =>
    simp [slSem, Instr.sliceAt, run_underlying hu, Instr.sureAddr, Instr.sliceBounds, Instr.sliceBound, asIntOf, sizeOf, typeInfo, hq, add_none, h2]
theorem run_sl_all (h : ArrT P t n) (b : Nat) (w : World) :
    (slSem t (.pointer (some ⟨b, 0, none⟩)) none none none).run P w = .ok (.slice (some ⟨b, 0, none⟩) n n) w := by
  obtain ⟨e, hu, _, hi1⟩ := h.und
  cases hq : P.info? e with
  | none => simp [hq] at hi1
  | some i =>
    simp [slSem, Instr.sliceAt, run_underlying hu, Instr.sureAddr, Instr.sliceBounds, sizeOf, typeInfo, hq, add_none]
/-- a part of a row reads as bytes -/
theorem Str.part {w : World} {b : Nat} {l : List UInt8} (h : Str w b (rowV l)) (lo m c : Nat) (h1 : lo + m ≤ l.length) (h2 : m ≤ c) (h3 : c ≤ maxLen) : Bytes w w.heap.size (some ⟨b, lo, none⟩) m c ((l.drop lo).take m) := by
  refine ⟨by simp; omega, h2, h3, fun _ => ⟨b, lo, rfl, h.lt, fun j u hu => ?_⟩⟩
  rw [h.cell, rowV_get]
  rw [List.getElem?_take] at hu
  split at hu
  · rw [List.getElem?_drop] at hu
    rw [hu]
    rfl
  · cases hu
theorem Str.grown {w w1 : World} {b g : Nat} {cs : Array Value} (h : Str w b cs) (hg : w.grownBy w1 (some g)) (hne : b ≠ g) : Str w1 b cs := by
  have hl := h.lt
  obtain ⟨t', h⟩ := h
  exact ⟨t', (hg.block b hl (by intro e; exact hne (by injection e))).trans h⟩
theorem below_grown {g : Nat} {a w w1 : World} (h : Below a.heap.size a w) (hg : w.grownBy w1 (some g)) (hB : a.heap.size ≤ g) : Below a.heap.size a w1 :=
  ⟨hg.os.trans h.os, hg.tape.trans h.tape, hg.output.trans h.output, Nat.le_trans h.size hg.size, fun i hi => (hg.block i (Nat.lt_of_lt_of_le hi h.size) (by intro e; injection e with e; omega)).trans (h.block i hi)⟩
theorem results_arr {fn : Func} {p : Tmp} (hA : ArrT P t n) (hr : fn.results = #[.cell p t]) (tmps : Array Value) {w : World} {g : Nat} {l : List UInt8} (hs : Str w g (rowV l)) (hl : l.length = n)
    (hp : tmps.getD p undef = .pointer (some ⟨g, 0, none⟩)) : (results fn tmps).run P w = .ok (.agg (rowV l)) w := by
  obtain ⟨t', hg⟩ := hs
  obtain ⟨e, he, _⟩ := hA.und
  exact results_cell_row hr tmps w g t' (rowV l) (0, 0) _ hp hg he rfl (by rw [hA.size, rowV_size, hl])
end
end Go.Proofs.Ytiokcemlfdonnaa
namespace Go.Proofs.Ytiokcemlfdonnaa
open Go.RowKit

/-- no byte among these -/
def notU8 (cs : Array Value) : Bool := cs.toList.all fun v => match v with | .int .u8 _ => false | _ => true
theorem grown_set {w w1 : World} {g : Nat} (h : w.grownBy w1 (some g)) (i : Nat) (v : Value) : w.grownBy (w1.setCell ⟨g, i, none⟩ v) (some g) := h.trans (Lib.grownBy_setCell w1 g i v)
theorem grown_refl (w : World) (g : Nat) : w.grownBy w (some g) := World.grownBy.refl w _
/-- bytes do not lie in a box without bytes -/
theorem Bytes.grown {w w1 : World} {B n c g : Nat} {A : Option Addr} {l : List UInt8} {cs : Array Value} (h : Bytes w B A n c l) (hB : B ≤ w.heap.size) (hs : Str w g cs) (hn : notU8 cs = true) (hg : w.grownBy w1 (some g)) : Bytes w1 B A n c l := by
  obtain ⟨h1, h2, h3, h4⟩ := h
  refine ⟨h1, h2, h3, fun hpos => ?_⟩
  obtain ⟨b, o, e, hb, hc⟩ := h4 hpos
  refine ⟨b, o, e, hb, fun j u hu => ?_⟩
  have hne : b ≠ g := by
    intro hbg
    subst hbg
    have h0 : l[0]? = some (l[0]'(by omega)) := List.getElem?_eq_getElem _
    have hx := hc 0 _ h0
    rw [hs.cell] at hx
    have hm : byteV (l[0]'(by omega)) ∈ cs.toList := by
      rw [Array.mem_toList_iff]
      exact Array.mem_of_getElem? hx
    have := List.all_eq_true.1 hn _ hm
    simp [byteV] at this
  have := hc j u hu
  rw [← this]
  exact World.cell?_of_block (a := ⟨b, o + j, none⟩) (hg.block b (by omega) (by intro e2; injection e2 with e2; exact hne e2))
end Go.Proofs.Ytiokcemlfdonnaa
