/-
  Parts of the proof of WalStays.
-/
import Derived.Test.YtpdfnlhhnodnjaaGreatWsG7
import Derived.Test.YtpdfnlhhnodnjaaGreatWsG1
import Derived.Test.YtpdfnlhhnodnjaaGreatWsG3
import Derived.Laws.IdiomCopy
import Derived.Test.YtpdfnlhhnodnjaaGreatWsG6
import Derived.Test.YtpdfnlhhnodnjaaGreatWsG4
import Derived.Deep.RegionWith
section
namespace Go.Proofs.YtpdfnlhhnodnjaaGreat
open Go.RowKit
set_option linter.unusedVariables false
/-- whatever byte is read there is read here -/
def SubU (B : Nat) (w w' : World) : Prop := ∀ (p : Addr) (u : UInt8), p.block < B → w.cell? p = some (byteV u) → w'.cell? p = some (byteV u)
theorem Bytes.subU {w w' : World} {B n c : Nat} {A : Option Addr} {l : List UInt8} (h : Bytes w B A n c l) (hs : SubU B w w') : Bytes w' B A n c l :=
  ⟨h.1, h.2.1, h.2.2.1, fun hn => by
    obtain ⟨b, o, e, hb, hc⟩ := h.2.2.2 hn
    exact ⟨b, o, e, hb, fun j u hu => hs _ _ hb (hc j u hu)⟩⟩
/-- an element's words hang on bytes alone -/
def El.Byt {α : Type} (E : El α) : Prop := ∀ {w w' : World} {B : Nat} {vs : List Value} {x : α}, SubU B w w' → E.rel w B vs x → E.rel w' B vs x
theorem notU8_cell {w : World} {g : Nat} {cs : Array Value} (hs : Str w g cs) (hn : notU8 cs = true) (i : Nat) (u : UInt8) : w.cell? ⟨g, i, none⟩ ≠ some (byteV u) := by
  intro h
  rw [hs.cell] at h
  have hm : byteV u ∈ cs.toList := by rw [Array.mem_toList_iff]; exact Array.mem_of_getElem? h
  have := List.all_eq_true.1 hn _ hm
  simp [byteV] at this
theorem subU_grown {w w' : World} {g : Nat} {cs : Array Value} (A : Option Addr) (hs : Str w g cs) (hn : notU8 cs = true) (hg : w.grownBy w' (some g)) : SubU w.heap.size (hid A w) (hid A w') := by
  have key : ∀ (p : Addr) (u : UInt8), p.block < w.heap.size → w.cell? p = some (byteV u) → w'.cell? p = some (byteV u) := fun p u hp hv => by
    by_cases e : p.block = g
    · subst e
      obtain ⟨b, o, s⟩ := p
      have h0 : s = none := World.cell?_spot (w := w) (a := ⟨b, o, s⟩) hv
      subst h0
      exact absurd hv (notU8_cell hs hn o u)
    · exact (World.cell?_of_block (a := p) (hg.block p.block hp (by intro e2; injection e2 with e2; exact e e2))).trans hv
  cases A with
  | none => exact key
  | some a =>
    intro p u hp hv
    by_cases e : p.block = a.block
    · have : (hide w a.block).cell? p = none := by rw [← e]; exact hide_none w p
      change (hide w a.block).cell? p = _ at hv
      rw [this] at hv; cases hv
    · change (hide w a.block).cell? p = _ at hv
      rw [hide_other w a.block p e] at hv
      show (hide w' a.block).cell? p = _
      rw [hide_other w' a.block p e]
      exact key p u hp hv
theorem own_grown {w w' : World} {base : Nat} {e : TypeId} {size n g : Nat} {A : Option Addr} {c : Nat} {xs : List Value} (h : w.ownsRow base e size (.slice A n c) n xs) (hg : w.grownBy w' (some g)) (hne : ∀ a, A = some a → a.block ≠ g) : w'.ownsRow base e size (.slice A n c) n xs := by
  obtain ⟨h1, h2⟩ := h
  refine ⟨h1, ?_⟩
  rcases h2 with h2 | ⟨g', cap, cur, hv, hb, hh, r⟩
  · exact .inl h2
  · cases hv
    exact .inr ⟨g', c, cur, rfl, hb, (hg.block g' (Array.getElem?_eq_some_iff.1 hh).1 (by intro e2; injection e2 with e2; exact hne _ rfl e2)).trans hh, r⟩
section
variable {α : Type} {E : El α} {T : TypeId} {w w' : World} {base n c g : Nat} {A : Option Addr} {l : List α} {cs : Array Value}
/-- a block without bytes is written: the row stands -/
theorem OwnE.grownU (hE : E.Byt) (h : OwnE E T w base A n c l) (hs : Str w g cs) (hn : notU8 cs = true) (hg : w.grownBy w' (some g)) (hne : ∀ a, A = some a → a.block ≠ g) : OwnE E T w' base A n c l := by
  obtain ⟨vs, h1, h2⟩ := h
  exact ⟨vs, own_grown h1 hg hne, h2.imp fun _ _ hr => E.more hg.size (hE (subU_grown A hs hn hg) hr)⟩
end
theorem Str.grownO {w w' : World} {b : Nat} {cs : Array Value} {ob : Option Nat} (h : Str w b cs) (hg : w.grownBy w' ob) (hne : ob ≠ some b) : Str w' b cs := by
  have hl := h.lt
  obtain ⟨t, h⟩ := h
  exact ⟨t, (hg.block b hl (fun e => hne e.symm)).trans h⟩
theorem grown_below {w w' : World} (h : Below w.heap.size w w') (ob : Option Nat) : w.grownBy w' ob := ⟨h.os, h.tape, h.output, h.size, fun k hk _ => h.block k hk⟩
theorem below_grownO {base : Nat} {w a b : World} {ob : Option Nat} (h : Below base w a) (hg : a.grownBy b ob) (hb : base ≤ a.heap.size) (hge : ∀ k, ob = some k → base ≤ k) : Below base w b := h.grown hg hb hge
end Go.Proofs.YtpdfnlhhnodnjaaGreat
end
section
namespace Go.Proofs.YtpdfnlhhnodnjaaGreat
open Go.RowKit
set_option linter.unusedVariables false
theorem OwnE.write1 {P : Program} {α : Type} {E : El α} {T : TypeId} {w : World} {base n c : Nat} {A : Option Addr} {l : List α} (h : OwnE E T w base A n c l) {j i : Nat} {v : Value} {x : α} (hj : j < n) (hi : i < E.size) (h1 : v.oneCell' = true) (hrel : ∀ g vs, A = some ⟨g, 0, none⟩ → (∀ y, l[j]? = some y → E.rel (hide w g) w.heap.size vs y) → E.rel (hide w g) w.heap.size (overV vs i [v]) x) :
    ∃ g, A = some ⟨g, 0, none⟩ ∧ base ≤ g ∧ g < w.heap.size ∧ (w.cell? ⟨g, j * E.size + i, none⟩).isSome = true ∧ w.frozen? ⟨g, j * E.size + i, none⟩ = false ∧ OwnE E T (w.setCell ⟨g, j * E.size + i, none⟩ v) base A n c (l.set j x) := by
  have hcap := h.elemsIn.cap
  obtain ⟨g, cur, vs, rfl, hg, hh, hnc, hm, hc, hx, hr, hvl⟩ := h.row (by omega)
  have hjs : j * E.size + E.size ≤ n * E.size := by rw [← Nat.succ_mul]; exact Nat.mul_le_mul_right _ hj
  have hns : n * E.size ≤ c * E.size := Nat.mul_le_mul_right _ hnc
  have hk : j * E.size + i < cur.size := by omega
  have hcell : (w.cell? ⟨g, j * E.size + i, none⟩).isSome = true := by
    rw [cell_of_row w g _ cur T (0, 0) hh, Array.getElem?_eq_getElem hk]; rfl
  have hfr : w.frozen? ⟨g, j * E.size + i, none⟩ = false := by
    unfold World.frozen?
    simp [hh]
  obtain ⟨g', w1, e, -, hgl, hrun, hO, -, -⟩ := OwnE.write (P := P) h (j := j) (i := i) (s := [v]) (x := x) hj (by simp; omega) (fun u hu => by simp only [List.mem_cons, List.not_mem_nil, or_false] at hu; rw [hu]; exact h1) hrel
  cases e
  have hrun2 := run_storeCells_cells (P := P) g (j * E.size + i) [v] 0 w (fun q hq => by
    have : q = 0 := by simpa using hq
    subst this; exact hcell) (fun q hq => by
    have : q = 0 := by simpa using hq
    subst this; exact hfr) (fun u hu => by simp only [List.mem_cons, List.not_mem_nil, or_false] at hu; rw [hu]; exact h1)
  rw [hrun2] at hrun
  have e2 : w.setCells g (j * E.size + i + 0) [v] = w1 := by injection hrun
  rw [← e2] at hO
  exact ⟨g, rfl, hg, hgl, hcell, hfr, hO⟩
theorem runE_byt : El.Byt RunE := by
  rintro w w' B vs x hs ⟨A, n, c, e, h, r⟩
  exact ⟨A, n, c, e, h.subU hs, r⟩
end Go.Proofs.YtpdfnlhhnodnjaaGreat
end
section
namespace Go.Proofs.YtpdfnlhhnodnjaaGreat
open Go.RowKit
set_option linter.unusedVariables false
set_option linter.unusedSectionVars false
/-- all blocks below are empty -/
def above (base : Nat) (w : World) : World := hideL w (List.range base)
theorem above_out (base : Nat) (w : World) (p : Addr) (h : base ≤ p.block) : (above base w).cell? p = w.cell? p := hideL_out w p _ (by rw [List.mem_range]; omega)
theorem above_in (base : Nat) (w : World) (p : Addr) (h : p.block < base) : (above base w).cell? p = none := hideL_in w p _ (by rw [List.mem_range]; exact h)
section
variable {B base base' : Nat} {w w' : World}
theorem sub_above (B base : Nat) (w : World) : Sub B (above base w) w := sub_hideL B w _
theorem above_sub (h : Sub B w w') : Sub B (above base w) (above base w') := fun p v hp hv => by
  by_cases hb : p.block < base
  · rw [above_in base w p hb] at hv; cases hv
  · rw [above_out base w p (by omega)] at hv
    rw [above_out base w' p (by omega)]
    exact h p v hp hv
theorem above_subU (h : SubU B w w') : SubU B (above base w) (above base w') := fun p u hp hv => by
  by_cases hb : p.block < base
  · rw [above_in base w p hb] at hv; cases hv
  · rw [above_out base w p (by omega)] at hv
    rw [above_out base w' p (by omega)]
    exact h p u hp hv
theorem above_less (h : base' ≤ base) : Sub B (above base w) (above base' w) := fun p v hp hv => by
  by_cases hb : p.block < base
  · rw [above_in base w p hb] at hv; cases hv
  · rw [above_out base w p (by omega)] at hv
    rw [above_out base' w p (by omega)]
    exact hv
theorem above_hid {A : Option Addr} (h : ∀ a, A = some a → a.block < base) : Sub B (above base w) (hid A w) := fun p v hp hv => by
  by_cases hb : p.block < base
  · rw [above_in base w p hb] at hv; cases hv
  · rw [above_out base w p (by omega)] at hv
    cases A with
    | none => exact hv
    | some a =>
      show (hide w a.block).cell? p = _
      rw [hide_other w a.block p (by have := h a rfl; omega)]
      exact hv
/-- nothing at or above has turned -/
theorem above_keep (h : ∀ k, k < B → base ≤ k → w'.heap[k]? = w.heap[k]?) : Sub B (above base w) (above base w') := fun p v hp hv => by
  by_cases hb : p.block < base
  · rw [above_in base w p hb] at hv; cases hv
  · rw [above_out base w p (by omega)] at hv
    rw [above_out base w' p (by omega), World.cell?_of_block (h p.block hp (by omega))]
    exact hv
theorem OwnS.above {gb : Option Nat} {A : Option Addr} {n c : Nat} {l : List UInt8} (h : OwnS w gb A n c l) (hg : ∀ g, gb = some g → base ≤ g) : Bytes (above base w) w.heap.size A n c l := by
  obtain ⟨h1, h2, h3, (⟨h4, -⟩ | ⟨g, o, cur, T, e, hA, hh, hs, hc⟩)⟩ := h
  · exact ⟨h1, h2, h3, fun hn => absurd hn (by omega)⟩
  · exact ⟨h1, h2, h3, fun _ => ⟨g, o, hA, (Array.getElem?_eq_some_iff.1 hh).1, fun j u hu => by
      rw [above_out base w _ (hg g e), cell_of_row w g (o + j) cur T (0, 0) hh]; exact hc j u hu⟩⟩
end
/-- bytes that lie where nothing was before -/
def GivesNew (w : World) (l : List UInt8) (e : Ending) (w' : World) : Prop := ∃ A n c, e = .returned (.slice A n c) ∧ Bytes (above w.heap.size w') w'.heap.size A n c l ∧ Below w.heap.size w w'
theorem GivesNew.bytes {w w' : World} {l : List UInt8} {e : Ending} (h : GivesNew w l e w') : GivesBytes w l e w' := by
  obtain ⟨A, n, c, h1, h2, h3⟩ := h
  exact ⟨A, n, c, h1, h2.sub (sub_above _ _ _), h3⟩
theorem own_above {w : World} {base n c : Nat} {T : TypeId} {A : Option Addr} {l : List UInt8} (h : w.ownsRow base T 1 (.slice A n c) n (l.map byteV)) : Bytes (above base w) w.heap.size A n c l := by
  obtain ⟨gb, h1, h2⟩ := OwnS.of_own h
  exact h1.above h2
theorem OwnE.blt {α : Type} {E : El α} {T : TypeId} {w : World} {base n c : Nat} {A : Option Addr} {l : List α} (h : OwnE E T w base A n c l) : ∀ a, A = some a → a.block < w.heap.size := by
  intro a e
  obtain ⟨vs, h1, -⟩ := h
  rcases h1.2 with ⟨e1, -⟩ | ⟨g, cap, cur, e1, -, hh, -⟩
  · cases e1; cases e
  · cases e1; cases e; exact (Array.getElem?_eq_some_iff.1 hh).1
/-- a run, and whether its bytes lie at or above -/
def RunF (base : Nat) : El (RunX × Bool) where
  size := 2
  pos := by decide
  rel w B vs r := ∃ A n c, vs = runV r.1 A n c ∧ Bytes w B A n c r.1.data ∧ In64 r.1.at_ ∧ (r.2 = true → Bytes (above base w) B A n c r.1.data)
  len := by rintro w B vs p ⟨A, n, c, rfl, _⟩; rfl
  one := by rintro w B vs p ⟨A, n, c, rfl, _⟩ v hv; simp only [runV, List.mem_cons, List.not_mem_nil, or_false] at hv; rcases hv with rfl | rfl <;> rfl
  sub := by rintro w w' B vs p hs ⟨A, n, c, e, h, r, q⟩; exact ⟨A, n, c, e, h.sub hs, r, fun hq => (q hq).sub (above_sub hs)⟩
  more := by rintro w B B' vs p hB ⟨A, n, c, e, h, r, q⟩; exact ⟨A, n, c, e, h.more hB, r, fun hq => (q hq).more hB⟩
theorem runF_byt (base : Nat) : El.Byt (RunF base) := by
  rintro w w' B vs x hs ⟨A, n, c, e, h, r, q⟩
  exact ⟨A, n, c, e, h.subU hs, r, fun hq => (q hq).subU (above_subU hs)⟩
/-- the first k are marked -/
def marks (l : List RunX) (k : Nat) : List (RunX × Bool) := l.zipIdx.map fun p => (p.1, decide (p.2 < k))
theorem marks_get (l : List RunX) (k j : Nat) : (marks l k)[j]? = (l[j]?).map fun r => (r, decide (j < k)) := by
  unfold marks
  rw [List.getElem?_map, List.getElem?_zipIdx]
  cases l[j]? <;> simp
theorem marks_length (l : List RunX) (k : Nat) : (marks l k).length = l.length := by simp [marks]
theorem marks_set (l : List RunX) (k : Nat) (r : RunX) (h : l[k]? = some r) : (marks l k).set k (r, true) = marks l (k + 1) := by
  refine List.ext_getElem? fun j => ?_
  have hk := (List.getElem?_eq_some_iff.1 h).1
  by_cases e : j = k
  · subst e
    rw [List.getElem?_set_self (by rw [marks_length]; exact hk), marks_get, h]
    simp
  · rw [List.getElem?_set_ne (fun e2 => e e2.symm), marks_get, marks_get]
    cases l[j]? with
    | none => rfl
    | some q =>
      have : decide (j < k) = decide (j < k + 1) := by
        by_cases h1 : j < k
        · simp [h1]; omega
        · simp [h1]; omega
      simp [this]
theorem Rel2.of {α : Type} {R : List Value → α → Prop} : ∀ {vs : List (List Value)} {xs : List α}, vs.length = xs.length → (∀ (j : Nat) v x, vs[j]? = some v → xs[j]? = some x → R v x) → Rel2 R vs xs
  | [], [], _, _ => trivial
  | v :: vs, x :: xs, hl, h => ⟨h 0 v x rfl rfl, Rel2.of (by simpa using hl) fun j v x hv hx => h (j + 1) v x (by simpa using hv) (by simpa using hx)⟩
  | [], _ :: _, hl, _ => by simp at hl
  | _ :: _, [], hl, _ => by simp at hl
/-- unmarked -/
theorem OwnE.marks0 {T : TypeId} {w : World} {base n c : Nat} {A : Option Addr} {l : List RunX} (b0 : Nat) (h : OwnE RunE T w base A n c l) : OwnE (RunF b0) T w base A n c (marks l 0) := by
  obtain ⟨vs, h1, h2⟩ := h
  refine ⟨vs, h1, Rel2.of (by rw [marks_length]; exact h2.length) fun j v x hv hx => ?_⟩
  rw [marks_get] at hx
  cases hl : l[j]? with
  | none => rw [hl] at hx; cases hx
  | some r =>
    rw [hl] at hx
    cases hx
    obtain ⟨u, hu, A2, n2, c2, e, hy, hi⟩ := h2.get hl
    rw [hv] at hu
    cases hu
    exact ⟨A2, n2, c2, e, hy, hi, fun hq => by simp at hq⟩
/-- all marked: the runs lie at or above -/
theorem OwnE.marked {T : TypeId} {w : World} {base n c : Nat} {A : Option Addr} {l : List RunX} (h : OwnE (RunF base) T w base A n c (marks l l.length)) : Elems RunE (above base w) w.heap.size A n c l := by
  have hl := h.len
  rw [marks_length] at hl
  have hge := h.ge
  obtain ⟨vs, hr, h3, h4, h5, h6⟩ := h.elemsIn
  refine ⟨vs, Rel2.of (by rw [hr.length, marks_length]) fun j v x hv hx => ?_, hl, h4, h5, fun hn => ?_⟩
  · have hm : (marks l l.length)[j]? = some (x, true) := by
      rw [marks_get, hx]
      have := (List.getElem?_eq_some_iff.1 hx).1
      simp [this]
    obtain ⟨u, hu, A2, n2, c2, e, hy, hi, hq⟩ := hr.get hm
    rw [hv] at hu
    cases hu
    exact ⟨A2, n2, c2, e, (hq rfl).sub (above_sub (sub_hid _ A w)), hi⟩
  · obtain ⟨b, o, e, hb, hc⟩ := h6 hn
    exact ⟨b, o, e, hb, fun j v hv => by rw [above_out base w _ (by show base ≤ b; have := hge _ e; exact this)]; exact hc j v hv⟩
end Go.Proofs.YtpdfnlhhnodnjaaGreat
end
section
namespace Go.Proofs.YtpdfnlhhnodnjaaGreat
open Go.RowKit
theorem Reg.KeepB.grownO {N : Nat} {b0 : List Nat} {a b c : World} {ob : Option Nat} (h : Reg.KeepB N b0 a b) (k : b.grownBy c ob) (hN : N ≤ b.heap.size) (hg : ∀ g, ob = some g → N ≤ g ∨ g ∈ b0) : Reg.KeepB N b0 a c :=
  ⟨k.os.trans h.os, k.tape.trans h.tape, k.output.trans h.output, Nat.le_trans h.size k.size, fun i hi hb => (k.block i (Nat.lt_of_lt_of_le hi hN) (fun e => by
    rcases hg i e.symm with h1 | h1
    · omega
    · exact hb h1)).trans (h.block i hi hb)⟩
namespace PatchW
set_option linter.unusedVariables false
set_option linter.unusedSimpArgs false
attribute [local go_sem ↓] app_fold
/-- a slice of bytes in a box, which owns them -/
def Out (w : World) (B : Nat) (g : Option Nat) (l : List UInt8) : Prop := ∃ A n c, Str w B #[.slice A n c] ∧ OwnS w g A n c l ∧ g ≠ some B
def Added (w : World) (B : Nat) (g : Option Nat) (l : List UInt8) (e : Ending) (w' : World) : Prop := e = .returned (.tuple #[]) ∧ ∃ g', Out w' B g' l ∧ Reg.KeepB w.heap.size (B :: g.toList) w w' ∧ (g' = g ∨ ∃ b, g' = some b ∧ w.heap.size ≤ b)
theorem Out.next {w w' : World} {B : Nat} {g : Option Nat} {l : List UInt8} (h : Out w B g l) (hb : Below w.heap.size w w') : Out w' B g l := by
  obtain ⟨A, n, c, h1, h2, h3⟩ := h
  exact ⟨A, n, c, h1.next hb, h2.next hb, h3⟩
theorem Out.lt {w : World} {B : Nat} {g : Option Nat} {l : List UInt8} (h : Out w B g l) : B < w.heap.size ∧ ∀ b, g = some b → b < w.heap.size := by
  obtain ⟨A, n, c, h1, h2, h3⟩ := h
  exact ⟨h1.lt, h2.lt⟩
/-- a slice is stored into the box -/
theorem out_set {w w2 : World} {B : Nat} {g g' : Option Nat} {A A' : Option Addr} {n c n' c' : Nat} {l' : List UInt8} (hB : B < w.heap.size) (hgB : g ≠ some B) (hk : Reg.KeepB w.heap.size (B :: g.toList) w w2) (hS : Str w2 B #[.slice A n c]) (hO : OwnS w2 g' A' n' c' l') (hg : g' = g ∨ ∃ b, g' = some b ∧ w.heap.size ≤ b) :
    Out (w2.setCell ⟨B, 0, none⟩ (.slice A' n' c')) B g' l' ∧ Reg.KeepB w.heap.size (B :: g.toList) w (w2.setCell ⟨B, 0, none⟩ (.slice A' n' c')) := by
  have hne : g' ≠ some B := by
    rcases hg with rfl | ⟨b, rfl, hb⟩
    · exact hgB
    · intro e; cases e; omega
  have hgs : w2.grownBy (w2.setCell ⟨B, 0, none⟩ (.slice A' n' c')) (some B) := grownBy_setCell' w2 B _
  refine ⟨⟨A', n', c', ?_, hO.grown hgs hne, hne⟩, hk.grown hgs hk.size (.inr (List.mem_cons_self ..))⟩
  have := hS.set 0 (.slice A' n' c')
  simpa using this
set_option maxHeartbeats 1000000 in
theorem add_any (B width : Nat) (g : Option Nat) (m : Int) (l : List UInt8) (w : World) (h : Out w B g l) (hw1 : 1 ≤ width) (hw8 : width ≤ 8) (hn : l.length + 8 ≤ 140737488355328) :
    Calls Tryz.prog 66 #[.int .i64 (width : Int), .int .i64 m, .pointer (some ⟨B, 0, none⟩)] w (Added w B g (l ++ BeP.parts width m)) := by
  obtain ⟨A, n, c, hS, hO, hne⟩ := h
  have hc := str1 hS
  have hlt := hS.lt
  have hln := hO.len
  have HS := Lib.hid hS
  have HOWN := Lib.hid hO
  have HNE := Lib.hid hne
  clear hS hO hne
  have hpl := BeP.parts_length width m
  have HPL := Lib.hid hpl
  clear hpl
  go_enter Tryz.func66, Tryz.ntmps66
  go_wp2
  go_region_with ((go_at_call 40; refine (Be.put_wide none 0 0 0 [] width m _ (Bytes.none_ _ _) (Nat.zero_le _) hw1 hw8 (by omega)).mono ?_; rintro e w1 ⟨A1, n1, c1, rfl, hby, hb⟩; have hn1 : n1 = width := hby.len.symm.trans (by simp [HPL.out]); have hbs := hb.size; obtain ⟨A', c', w2, gb', happ, hown2, hgrow2, hgb⟩ := ((HOWN.out.at_ (w' := w.drew) (fun _ _ => rfl)).next hb).app (P := Tryz.prog) 32 32 5 Tryz.underlying32 Be.infoU8 hby (by omega); have hb1 : Str w1 B #[.slice A n c] := Str.next (w := w.drew) HS.out hb; have hb2 : Str w2 B #[.slice A n c] := hb1.grownO hgrow2 HNE.out; have hc1 := str1 hb1; have hc2 := str1 hb2; have hf2 := hb2.frozen 0; have HBY := Lib.hid hby; have HB := Lib.hid hb; have HO2 := Lib.hid hown2; have HG2 := Lib.hid hgrow2; have HN1 := Lib.hid hn1; have HGB := Lib.hid hgb; have HB2 := Lib.hid hb2; clear hby hb hown2 hgrow2 hn1 hgb hb1 hb2))
  all_goals go_end0
  all_goals
    have hbw : Below w.heap.size w w1 := (Below.refl _ w).drew.trans HB.out
    have hkw : Reg.KeepB w.heap.size (B :: g.toList) w w2 := (Reg.KeepB.of hbw).grownO HG2.out hbw.size (fun k e => .inr (by rw [e]; simp))
    have hl1 := HN1.out
    have hgg : gb' = g ∨ ∃ b, gb' = some b ∧ w.heap.size ≤ b := HGB.out.imp id (fun e => ⟨_, e, hbw.size⟩)
    obtain ⟨q1, q2⟩ := out_set hlt HNE.out hkw HB2.out HO2.out hgg
    exact ⟨rfl, gb', by simpa using q1, q2, hgg⟩
/-- what the rounds of Put keep -/
structure PK (w wr : World) (B : Nat) (g : Option Nat) (cs : Array Value) (l : List UInt8) : Prop where
  out : Out wr B g l
  bel : Below w.heap.size w wr
  box : Str wr w.heap.size cs
  lo : w.heap.size < B
  glo : ∀ b, g = some b → w.heap.size < b
theorem PK.next {w wr wr' : World} {B : Nat} {g : Option Nat} {cs : Array Value} {l : List UInt8} (h : PK w wr B g cs l) (hb : Below wr.heap.size wr wr') : PK w wr' B g cs l :=
  ⟨h.out.next hb, bstep h.bel hb, h.box.next hb, h.lo, h.glo⟩
theorem PK.turn {w wr wr' : World} {B : Nat} {g g' : Option Nat} {cs : Array Value} {l l' : List UInt8} (h : PK w wr B g cs l) (ho : Out wr' B g' l') (hk : Reg.KeepB wr.heap.size (B :: g.toList) wr wr') (hg : g' = g ∨ ∃ b, g' = some b ∧ wr.heap.size ≤ b) : PK w wr' B g' cs l' := by
  have hlt := h.box.lt
  refine ⟨ho, h.bel.trans (hk.below h.bel.size (fun b hb => ?_)), h.box.keepB hk (fun hb => ?_), h.lo, fun b e => ?_⟩
  · simp only [List.mem_cons, Option.mem_toList] at hb
    rcases hb with rfl | hb
    · exact Nat.le_of_lt h.lo
    · exact Nat.le_of_lt (h.glo b hb)
  · simp only [List.mem_cons, Option.mem_toList] at hb
    rcases hb with hb | hb
    · have := h.lo; omega
    · have := h.glo _ hb; omega
  · rcases hg with rfl | ⟨b', rfl, hb⟩
    · exact h.glo b e
    · cases e; omega
theorem flag_true : PatchP.flag true = 1 := rfl
theorem flag_false : PatchP.flag false = 0 := rfl
set_option maxRecDepth 100000 in
set_option maxHeartbeats 4000000 in
theorem put_new (A : Option Addr) (n c B0 : Nat) (l : List UInt8) (x : PatchX) (A2 : Option Addr) (n2 c2 B2 : Nat) (w : World) (h : Bytes w B0 A n c l) (hB0 : B0 ≤ w.heap.size) (hE : Elems RunE w B2 A2 n2 c2 x.runs) (hB2 : B2 ≤ w.heap.size) (hi : In64 x.page) (hn : n ≤ 100000000000000) :
    Calls Tryz.prog 41 #[.slice A n c, .agg #[.int .i64 x.page, .bool x.fresh, .slice A2 n2 c2]] w (GivesNew w (l ++ PatchP.bytes x)) := by
  have HE := Lib.hid hE
  have hlen := hE.len
  have hcap := hE.cap
  have hcm := hcap.2
  unfold maxLen at hcm
  have hln := h.len
  have HI := Lib.hid hi
  clear hE
  have HBX : Hid (PatchP.bytes x = if PatchP.right x = true then PatchP.body x else []) := Lib.hid rfl
  have HRT : Hid (PatchP.right x = true → x.runs.length ≤ 500 ∧ (∀ (k : Nat) r, x.runs[k]? = some r → 12 ≤ r.at_ ∧ r.at_ ≤ 511 ∧ 1 ≤ r.data.length ∧ r.data.length ≤ 500) ∧ ∀ k, (PatchP.runsB (x.runs.take k)).length ≤ 252000) := Lib.hid (fun h => by
    have hR := (PatchP.right_iff x).1 h
    exact ⟨hR.2.2.1, fun k r hr => PatchP.in_runs hR hr, fun k => PatchP.runs_le hR k⟩)
  have HBO : Hid (PatchP.body x = BeP.parts 2 x.page ++ (BeP.parts 1 (PatchP.flag x.fresh) ++ BeP.parts 2 (x.runs.length : Nat)) ++ PatchP.runsB x.runs) := Lib.hid rfl
  have hchk := fun W (h1 : Elems RunE W B2 A2 n2 c2 x.runs) (h2 : B2 ≤ W.heap.size) => check_any x A2 n2 c2 B2 W h1 h2 hi
  have HC := Lib.hid hchk
  clear hchk hi
  obtain ⟨p, fr, rs⟩ := x
  dsimp only at *
  obtain ⟨W0, hW0⟩ : ∃ W, w.alloc (.cells #[.int .i64 p, .bool fr, .slice A2 n2 c2] 68) = W := ⟨_, rfl⟩
  obtain ⟨HS0, HB0, hw0, hz0⟩ := new1 hW0
  obtain ⟨A3, c3, W1, g3, happ, hO1, hg1, hgb1⟩ := (OwnS.none_ W0).app (P := Tryz.prog) 32 32 5 Tryz.underlying32 Be.infoU8 (h.below (HB0.out.mono hB0)) (by omega)
  rw [Nat.zero_add] at happ hO1
  rw [List.nil_append] at hO1
  have hb1 : Below W0.heap.size W0 W1 := (Below.refl _ W0).grown hg1 (Nat.le_refl _) (fun k e => by cases e)
  obtain ⟨W2, hW2⟩ : ∃ W, W1.alloc (.cells #[.slice A3 n c3] 32) = W := ⟨_, rfl⟩
  obtain ⟨HS2, HB2, hw2, hz2⟩ := new1 hW2
  have hs1 := hb1.size
  have HK : Hid (PK w W2 W1.heap.size g3 #[.int .i64 p, .bool fr, .slice A2 n2 c2] l) := Lib.hid ⟨⟨A3, n, c3, HS2.out, hO1.next HB2.out, fun e => by have := hO1.lt _ e; omega⟩, bstep (bstep HB0.out hb1) HB2.out, (HS0.out.next hb1).next HB2.out, by omega, fun b e => by
    rcases hgb1 with e1 | e1
    · rw [e1] at e; cases e
    · rw [e1] at e; cases e; omega⟩
  have hBo := HK.out.out.lt.1
  have hBlo := HK.out.lo
  have g0 := str3 HK.out.box
  have hl0 := HK.out.box.lt
  clear hO1 hg1 hgb1 hb1 HS2 HB2 hz2 HS0 HB0 hs1 hw2 hz0 h
  go_enter Tryz.func41, Tryz.ntmps41
  go_wp2_with fail
  refine (HC.out W2 (HE.out.below (HK.out.bel.mono hB2)) (by have := HK.out.bel.size; omega)).mono ?_
  rintro e W3 ⟨rfl, hb3⟩
  replace HK := Lib.hid (HK.out.next hb3)
  clear hb3 g0 hl0 hBo
  have g0 := str3 HK.out.box
  have hl0 := HK.out.box.lt
  cases hr : PatchP.right ⟨p, fr, rs⟩ with
  | false =>
    have hfin : l ++ PatchP.bytes ⟨p, fr, rs⟩ = l := by rw [HBX.out, hr, if_neg (by decide), List.append_nil]
    have HFIN := Lib.hid hfin
    obtain ⟨A4, n4, c4, hS4, hO4, hne4⟩ := HK.out.out
    have g4 := str1 hS4
    have hl4 := hS4.lt
    have HO4 := Lib.hid hO4
    have hcode : code false = 1 := rfl
    rw [hcode]
    clear hS4 hO4 hne4 hfin hr
    go_wp2
    go_ret
    exact ⟨A4, n4, c4, rfl, by rw [HFIN.out]; exact HO4.out.above (fun b e => Nat.le_of_lt (HK.out.glo b e)), HK.out.bel⟩
  | true =>
    have hcode : code true = 0 := rfl
    rw [hcode]
    have hl500 := (HRT.out hr).1
    have HIN := Lib.hid (HRT.out hr).2.1
    have HRS := Lib.hid (HRT.out hr).2.2
    have hfin : l ++ PatchP.bytes ⟨p, fr, rs⟩ = l ++ BeP.parts 2 p ++ BeP.parts 1 (PatchP.flag fr) ++ BeP.parts 2 (n2 : Int) ++ PatchP.runsB rs := by
      rw [HBX.out, hr, if_pos rfl, HBO.out, hlen]; simp
    have HFIN := Lib.hid hfin
    have HL := Lib.hid (And.intro hln hlen)
    clear hfin hr hln HRT HBX HBO
    go_wp2_with fail
    refine (add_any W1.heap.size 2 _ p l W3 HK.out.out (by omega) (by omega) (by rw [HL.out.1]; omega)).mono ?_
    rintro e W4 ⟨rfl, g4, ho4, hk4, hg4⟩
    replace HK := Lib.hid (HK.out.turn ho4 hk4 hg4)
    clear ho4 hk4 hg4 g0 hl0
    have g0 := str3 HK.out.box
    have hl0 := HK.out.box.lt
    have hflag : ∀ W, Calls Tryz.prog 66 #[.int .i64 1, .int .i64 (PatchP.flag fr), .pointer (some ⟨W1.heap.size, 0, none⟩)] W = Calls Tryz.prog 66 #[.int .i64 ((1 : Nat) : Int), .int .i64 (PatchP.flag fr), .pointer (some ⟨W1.heap.size, 0, none⟩)] W := fun _ => rfl
    have HADD := Lib.hid (add_any W1.heap.size 1 _ (PatchP.flag fr) (l ++ BeP.parts 2 p) W4 HK.out.out (by omega) (by omega) (by rw [List.length_append, BeP.parts_length, HL.out.1]; omega))
    clear hflag
    have key : ∀ W5 g5, Hid (PK w W5 W1.heap.size g5 #[.int .i64 p, .bool fr, .slice A2 n2 c2] (l ++ BeP.parts 2 p ++ BeP.parts 1 (PatchP.flag fr))) → True := fun _ _ _ => trivial
    clear key
    cases fr with
    | true =>
      rw [flag_true] at HADD HFIN
      go_wp2_with fail
      refine HADD.out.mono ?_
      rintro e W5 ⟨rfl, g5, ho5, hk5, hg5⟩
      replace HK := Lib.hid (HK.out.turn ho5 hk5 hg5)
      clear ho5 hk5 hg5 g0 hl0 HADD
      have g0 := str3 HK.out.box
      have hl0 := HK.out.box.lt
      go_wp2_with fail
      refine (add_any W1.heap.size 2 _ (n2 : Int) (l ++ BeP.parts 2 p ++ BeP.parts 1 1) W5 HK.out.out (by omega) (by omega) (by simp only [List.length_append, BeP.parts_length, HL.out.1]; omega)).mono ?_
      rintro e W6 ⟨rfl, g6, ho6, hk6, hg6⟩
      replace HK := Lib.hid (HK.out.turn ho6 hk6 hg6)
      clear ho6 hk6 hg6 g0 hl0
      have g0 := str3 HK.out.box
      have hl0 := HK.out.box.lt
      obtain ⟨L0, hL0⟩ : ∃ L, l ++ BeP.parts 2 p ++ BeP.parts 1 1 ++ BeP.parts 2 (n2 : Int) = L := ⟨_, rfl⟩
      have hL0l : L0.length = n + 5 := by rw [← hL0]; simp only [List.length_append, BeP.parts_length, HL.out.1]
      rw [hL0] at HK HFIN
      clear hL0
      go_wp2
      go_loopw [34] (fun iv wr => ∃ (k : Nat) (gk : Option Nat), k ≤ n2 ∧ iv = .int .i64 (k : Int) ∧ Hid (PK w wr W1.heap.size gk #[.int .i64 p, .bool true, .slice A2 n2 c2] (L0 ++ PatchP.runsB (rs.take k)))) (fun iv _ => n2 - (intOf iv).toNat)
      case atStart => exact ⟨0, g6, Nat.zero_le _, rfl, Lib.hid (by simpa [PatchP.runsB] using HK.out)⟩
      case round =>
        obtain ⟨k, gk, hk, rfl, HQ⟩ := hrel
        clear HK g0 hl0
        have g0 := str3 HQ.out.box
        have hl0 := HQ.out.box.lt
        have hwr := HQ.out.bel.size
        have hko := HQ.out.out.lt
        by_cases hlt : k < n2
        · have hd : decide ((k : Int) < (n2 : Int)) = true := by simp; omega
          obtain ⟨b, o, r, A4, n4, c4, rfl, hb, hr, hy, hir, q0, q1⟩ := run_at HE.out hlt
          have hrin := HIN.out k r hr
          have hyl := hy.len
          replace q0 := (HQ.out.bel.cell (p := ⟨b, o + k * 2, none⟩) (by show b < _; omega)).trans q0
          replace q1 := (HQ.out.bel.cell (p := ⟨b, o + k * 2 + 1, none⟩) (by show b < _; omega)).trans q1
          have hsn : L0 ++ PatchP.runsB (rs.take (k + 1)) = L0 ++ PatchP.runsB (rs.take k) ++ BeP.parts 2 r.at_ ++ BeP.parts 2 (n4 : Int) ++ r.data := by
            rw [PatchP.runsB_snoc _ _ _ hr]
            simp only [PatchP.runB, hyl, List.append_assoc]
          have HSN := Lib.hid hsn
          have hrk := HRS.out k
          obtain ⟨rp, rd⟩ := r
          dsimp only at *
          obtain ⟨Lk, hLk⟩ : ∃ L, L0 ++ PatchP.runsB (rs.take k) = L := ⟨_, rfl⟩
          have hLkl : Lk.length ≤ n + 5 + 252000 := by rw [← hLk, List.length_append, hL0l]; omega
          rw [hLk] at HQ HSN
          obtain ⟨W7, hW7⟩ : ∃ W, wr.alloc (.cells #[.int .i64 rp, .slice A4 n4 c4] 90) = W := ⟨_, rfl⟩
          obtain ⟨HS7, HB7, hw7, hz7⟩ := new1 hW7
          have HQ7 := Lib.hid (HQ.out.next HB7.out)
          have HY0 := Lib.hid hy
          have g7 := str2 HS7.out
          have hl7 := HS7.out.lt
          have hb0 : wr.heap.size ∉ W1.heap.size :: gk.toList := by
            simp only [List.mem_cons, Option.mem_toList, not_or]
            exact ⟨by omega, fun e => by have := hko.2 _ e; omega⟩
          have HB0 := Lib.hid hb0
          clear hsn hy hr HB7 hz7 HQ g0 hl0 hLk hrk hb0
          go_wp2_with fail
          clear q0 q1
          refine (add_any W1.heap.size 2 _ rp Lk W7 HQ7.out.out (by omega) (by omega) (by omega)).mono ?_
          rintro e W8 ⟨rfl, g8, ho8, hk8, hg8⟩
          have HQ8 := Lib.hid (HQ7.out.turn ho8 hk8 hg8)
          have HS8 := Lib.hid (HS7.out.keepB hk8 HB0.out)
          have hb8 : wr.heap.size ∉ W1.heap.size :: g8.toList := by
            have h0 := HB0.out
            simp only [List.mem_cons, Option.mem_toList, not_or] at h0 ⊢
            refine ⟨h0.1, fun e => ?_⟩
            rcases hg8 with rfl | ⟨b', rfl, hb'⟩
            · exact h0.2 e
            · cases e; omega
          have HB8 := Lib.hid hb8
          have HY8 := Lib.hid (hk8.size)
          clear ho8 hk8 hg8 hb8 g7 hl7 HS7
          have g8' := str2 HS8.out
          have hl8 := HS8.out.lt
          go_wp2_with fail
          refine (add_any W1.heap.size 2 _ (n4 : Int) (Lk ++ BeP.parts 2 rp) W8 HQ8.out.out (by omega) (by omega) (by simp only [List.length_append, BeP.parts_length]; omega)).mono ?_
          rintro e W9 ⟨rfl, g9, ho9, hk9, hg9⟩
          have HQ9 := Lib.hid (HQ8.out.turn ho9 hk9 hg9)
          have HS9 := Lib.hid (HS8.out.keepB hk9 HB8.out)
          clear ho9 hk9 hg9 g8' hl8 HS8
          have g9' := str2 HS9.out
          have hl9 := HS9.out.lt
          obtain ⟨A5, n5, c5, hS5, hO5, hne5⟩ := HQ9.out.out
          have hY5 : Bytes W9 B2 A4 n4 c4 rd := HY0.out.below (HQ9.out.bel.mono hB2)
          have hn5 : n5 = Lk.length + 4 := by rw [← hO5.len]; simp only [List.length_append, BeP.parts_length]
          subst hn5
          obtain ⟨A6, c6, W10, g10, happ10, hO10, hg10, hgb10⟩ := hO5.app (P := Tryz.prog) 32 32 5 Tryz.underlying32 Be.infoU8 hY5 (by omega)
          have hS10 := hS5.grownO hg10 hne5
          have hlt9 := hS5.lt
          have hkw : Reg.KeepB W9.heap.size (W1.heap.size :: g9.toList) W9 W10 := (Reg.KeepB.of (bsame W9)).grownO hg10 (Nat.le_refl _) (fun k e => .inr (by rw [e]; simp))
          have hgg : g10 = g9 ∨ ∃ b, g10 = some b ∧ W9.heap.size ≤ b := hgb10.imp id (fun e => ⟨_, e, Nat.le_refl _⟩)
          obtain ⟨ho11, hk11⟩ := out_set hlt9 hne5 hkw hS10 hO10 hgg
          have HQ11 := Lib.hid (HQ9.out.turn ho11 hk11 hgg)
          rw [← HSN.out] at HQ11
          have g5' := str1 hS5
          have g10' := str1 hS10
          have hf10 := hS10.frozen 0
          have hl10 := hS10.lt
          clear hS5 hO5 hne5 hY5 hO10 hg10 hgb10 hS10 hkw hgg ho11 hk11 HQ8 HQ9 HQ7
          go_wp2
          go_roundw
          case rel => exact ⟨k + 1, g10, by omega, by go_num, HQ11⟩
          case measure => simp [intOf]; omega
        · have hd : decide ((k : Int) < (n2 : Int)) = false := by simp; omega
          have hkn : k = n2 := by omega
          subst hkn
          have htk : rs.take k = rs := List.take_of_length_le (by rw [HL.out.2]; exact Nat.le_refl _)
          rw [htk, ← HFIN.out] at HQ
          obtain ⟨A4, n4, c4, hS4, hO4, hne4⟩ := HQ.out.out
          have g4' := str1 hS4
          have hl4 := hS4.lt
          have HO4 := Lib.hid hO4
          clear hS4 hO4 hne4 htk
          go_wp2
          go_ret
          exact ⟨A4, n4, c4, rfl, HO4.out.above (fun b e => Nat.le_of_lt (HQ.out.glo b e)), HQ.out.bel⟩
    | false =>
      rw [flag_false] at HADD HFIN
      go_wp2_with fail
      refine HADD.out.mono ?_
      rintro e W5 ⟨rfl, g5, ho5, hk5, hg5⟩
      replace HK := Lib.hid (HK.out.turn ho5 hk5 hg5)
      clear ho5 hk5 hg5 g0 hl0 HADD
      have g0 := str3 HK.out.box
      have hl0 := HK.out.box.lt
      go_wp2_with fail
      refine (add_any W1.heap.size 2 _ (n2 : Int) (l ++ BeP.parts 2 p ++ BeP.parts 1 0) W5 HK.out.out (by omega) (by omega) (by simp only [List.length_append, BeP.parts_length, HL.out.1]; omega)).mono ?_
      rintro e W6 ⟨rfl, g6, ho6, hk6, hg6⟩
      replace HK := Lib.hid (HK.out.turn ho6 hk6 hg6)
      clear ho6 hk6 hg6 g0 hl0
      have g0 := str3 HK.out.box
      have hl0 := HK.out.box.lt
      obtain ⟨L0, hL0⟩ : ∃ L, l ++ BeP.parts 2 p ++ BeP.parts 1 0 ++ BeP.parts 2 (n2 : Int) = L := ⟨_, rfl⟩
      have hL0l : L0.length = n + 5 := by rw [← hL0]; simp only [List.length_append, BeP.parts_length, HL.out.1]
      rw [hL0] at HK HFIN
      clear hL0
      go_wp2
      go_loopw [34] (fun iv wr => ∃ (k : Nat) (gk : Option Nat), k ≤ n2 ∧ iv = .int .i64 (k : Int) ∧ Hid (PK w wr W1.heap.size gk #[.int .i64 p, .bool false, .slice A2 n2 c2] (L0 ++ PatchP.runsB (rs.take k)))) (fun iv _ => n2 - (intOf iv).toNat)
      case atStart => exact ⟨0, g6, Nat.zero_le _, rfl, Lib.hid (by simpa [PatchP.runsB] using HK.out)⟩
      case round =>
        obtain ⟨k, gk, hk, rfl, HQ⟩ := hrel
        clear HK g0 hl0
        have g0 := str3 HQ.out.box
        have hl0 := HQ.out.box.lt
        have hwr := HQ.out.bel.size
        have hko := HQ.out.out.lt
        by_cases hlt : k < n2
        · have hd : decide ((k : Int) < (n2 : Int)) = true := by simp; omega
          obtain ⟨b, o, r, A4, n4, c4, rfl, hb, hr, hy, hir, q0, q1⟩ := run_at HE.out hlt
          have hrin := HIN.out k r hr
          have hyl := hy.len
          replace q0 := (HQ.out.bel.cell (p := ⟨b, o + k * 2, none⟩) (by show b < _; omega)).trans q0
          replace q1 := (HQ.out.bel.cell (p := ⟨b, o + k * 2 + 1, none⟩) (by show b < _; omega)).trans q1
          have hsn : L0 ++ PatchP.runsB (rs.take (k + 1)) = L0 ++ PatchP.runsB (rs.take k) ++ BeP.parts 2 r.at_ ++ BeP.parts 2 (n4 : Int) ++ r.data := by
            rw [PatchP.runsB_snoc _ _ _ hr]
            simp only [PatchP.runB, hyl, List.append_assoc]
          have HSN := Lib.hid hsn
          have hrk := HRS.out k
          obtain ⟨rp, rd⟩ := r
          dsimp only at *
          obtain ⟨Lk, hLk⟩ : ∃ L, L0 ++ PatchP.runsB (rs.take k) = L := ⟨_, rfl⟩
          have hLkl : Lk.length ≤ n + 5 + 252000 := by rw [← hLk, List.length_append, hL0l]; omega
          rw [hLk] at HQ HSN
          obtain ⟨W7, hW7⟩ : ∃ W, wr.alloc (.cells #[.int .i64 rp, .slice A4 n4 c4] 90) = W := ⟨_, rfl⟩
          obtain ⟨HS7, HB7, hw7, hz7⟩ := new1 hW7
          have HQ7 := Lib.hid (HQ.out.next HB7.out)
          have HY0 := Lib.hid hy
          have g7 := str2 HS7.out
          have hl7 := HS7.out.lt
          have hb0 : wr.heap.size ∉ W1.heap.size :: gk.toList := by
            simp only [List.mem_cons, Option.mem_toList, not_or]
            exact ⟨by omega, fun e => by have := hko.2 _ e; omega⟩
          have HB0 := Lib.hid hb0
          clear hsn hy hr HB7 hz7 HQ g0 hl0 hLk hrk hb0
          go_wp2_with fail
          clear q0 q1
          refine (add_any W1.heap.size 2 _ rp Lk W7 HQ7.out.out (by omega) (by omega) (by omega)).mono ?_
          rintro e W8 ⟨rfl, g8, ho8, hk8, hg8⟩
          have HQ8 := Lib.hid (HQ7.out.turn ho8 hk8 hg8)
          have HS8 := Lib.hid (HS7.out.keepB hk8 HB0.out)
          have hb8 : wr.heap.size ∉ W1.heap.size :: g8.toList := by
            have h0 := HB0.out
            simp only [List.mem_cons, Option.mem_toList, not_or] at h0 ⊢
            refine ⟨h0.1, fun e => ?_⟩
            rcases hg8 with rfl | ⟨b', rfl, hb'⟩
            · exact h0.2 e
            · cases e; omega
          have HB8 := Lib.hid hb8
          have HY8 := Lib.hid (hk8.size)
          clear ho8 hk8 hg8 hb8 g7 hl7 HS7
          have g8' := str2 HS8.out
          have hl8 := HS8.out.lt
          go_wp2_with fail
          refine (add_any W1.heap.size 2 _ (n4 : Int) (Lk ++ BeP.parts 2 rp) W8 HQ8.out.out (by omega) (by omega) (by simp only [List.length_append, BeP.parts_length]; omega)).mono ?_
          rintro e W9 ⟨rfl, g9, ho9, hk9, hg9⟩
          have HQ9 := Lib.hid (HQ8.out.turn ho9 hk9 hg9)
          have HS9 := Lib.hid (HS8.out.keepB hk9 HB8.out)
          clear ho9 hk9 hg9 g8' hl8 HS8
          have g9' := str2 HS9.out
          have hl9 := HS9.out.lt
          obtain ⟨A5, n5, c5, hS5, hO5, hne5⟩ := HQ9.out.out
          have hY5 : Bytes W9 B2 A4 n4 c4 rd := HY0.out.below (HQ9.out.bel.mono hB2)
          have hn5 : n5 = Lk.length + 4 := by rw [← hO5.len]; simp only [List.length_append, BeP.parts_length]
          subst hn5
          obtain ⟨A6, c6, W10, g10, happ10, hO10, hg10, hgb10⟩ := hO5.app (P := Tryz.prog) 32 32 5 Tryz.underlying32 Be.infoU8 hY5 (by omega)
          have hS10 := hS5.grownO hg10 hne5
          have hlt9 := hS5.lt
          have hkw : Reg.KeepB W9.heap.size (W1.heap.size :: g9.toList) W9 W10 := (Reg.KeepB.of (bsame W9)).grownO hg10 (Nat.le_refl _) (fun k e => .inr (by rw [e]; simp))
          have hgg : g10 = g9 ∨ ∃ b, g10 = some b ∧ W9.heap.size ≤ b := hgb10.imp id (fun e => ⟨_, e, Nat.le_refl _⟩)
          obtain ⟨ho11, hk11⟩ := out_set hlt9 hne5 hkw hS10 hO10 hgg
          have HQ11 := Lib.hid (HQ9.out.turn ho11 hk11 hgg)
          rw [← HSN.out] at HQ11
          have g5' := str1 hS5
          have g10' := str1 hS10
          have hf10 := hS10.frozen 0
          have hl10 := hS10.lt
          clear hS5 hO5 hne5 hY5 hO10 hg10 hgb10 hS10 hkw hgg ho11 hk11 HQ8 HQ9 HQ7
          go_wp2
          go_roundw
          case rel => exact ⟨k + 1, g10, by omega, by go_num, HQ11⟩
          case measure => simp [intOf]; omega
        · have hd : decide ((k : Int) < (n2 : Int)) = false := by simp; omega
          have hkn : k = n2 := by omega
          subst hkn
          have htk : rs.take k = rs := List.take_of_length_le (by rw [HL.out.2]; exact Nat.le_refl _)
          rw [htk, ← HFIN.out] at HQ
          obtain ⟨A4, n4, c4, hS4, hO4, hne4⟩ := HQ.out.out
          have g4' := str1 hS4
          have hl4 := hS4.lt
          have HO4 := Lib.hid hO4
          clear hS4 hO4 hne4 htk
          go_wp2
          go_ret
          exact ⟨A4, n4, c4, rfl, HO4.out.above (fun b e => Nat.le_of_lt (HQ.out.glo b e)), HQ.out.bel⟩
theorem put_any (A : Option Addr) (n c B0 : Nat) (l : List UInt8) (x : PatchX) (A2 : Option Addr) (n2 c2 B2 : Nat) (w : World) (h : Bytes w B0 A n c l) (hB0 : B0 ≤ w.heap.size) (hE : Elems RunE w B2 A2 n2 c2 x.runs) (hB2 : B2 ≤ w.heap.size) (hi : In64 x.page) (hn : n ≤ 100000000000000) :
    Calls Tryz.prog 41 #[.slice A n c, .agg #[.int .i64 x.page, .bool x.fresh, .slice A2 n2 c2]] w (GivesBytes w (l ++ PatchP.bytes x)) :=
  (put_new A n c B0 l x A2 n2 c2 B2 w h hB0 hE hB2 hi hn).mono fun e w' h => h.bytes
end PatchW
end Go.Proofs.YtpdfnlhhnodnjaaGreat
end
