/-
  Rows of structs whose words hang on bytes alone: kept where a block without bytes is written. No program in sight.
-/
import Derived.Test.YtldgdgfplgdipaaElem5
import Derived.Test.YtldgdgfplgdipaaBox
namespace Go.Proofs.Ytldgdgfplgdipaa
open Go.RowKit
set_option linter.unusedVariables false
/-- whatever byte is read there is read here -/
def SubU (B : Nat) (w w' : World) : Prop := ∀ (p : Addr) (u : UInt8), p.block < B → w.cell? p = some (byteV u) → w'.cell? p = some (byteV u)
theorem Bytes.subU {w w' : World} {B n c : Nat} {A : Option Addr} {l : List UInt8} (h : Bytes w B A n c l) (hs : SubU B w w') : Bytes w' B A n c l :=
  ⟨h.1, h.2.1, h.2.2.1, fun hn => by
    obtain ⟨b, o, e, hb, hc⟩ := h.2.2.2 hn
    exact ⟨b, o, e, hb, fun j u hu => hs _ _ hb (hc j u hu)⟩⟩
/-- an element's words hang on bytes alone -/
def El.Byt {α : Type} (E : El α) : Prop := ∀ {w w' : World} {B : Nat} {vs : List Value} {x : α}, SubU B w w' → E.rel w B vs x → E.rel w' B vs x
theorem notU8_cell {w : World} {g : Nat} {cs : Array Value} (hs : Str w g cs) (hn : notU8 cs = true) (i : Nat) (u : UInt8) : w.cell? ⟨g, i, none⟩ ≠ some (byteV u) := by
  intro h
  rw [hs.cell] at h
  have hm : byteV u ∈ cs.toList := by rw [Array.mem_toList_iff]; exact Array.mem_of_getElem? h
  have := List.all_eq_true.1 hn _ hm
  simp [byteV] at this
theorem subU_grown {w w' : World} {g : Nat} {cs : Array Value} (A : Option Addr) (hs : Str w g cs) (hn : notU8 cs = true) (hg : w.grownBy w' (some g)) : SubU w.heap.size (hid A w) (hid A w') := by
  have key : ∀ (p : Addr) (u : UInt8), p.block < w.heap.size → w.cell? p = some (byteV u) → w'.cell? p = some (byteV u) := fun p u hp hv => by
    by_cases e : p.block = g
    · subst e
      obtain ⟨b, o, s⟩ := p
      have h0 : s = none := World.cell?_spot (w := w) (a := ⟨b, o, s⟩) hv
      subst h0
      exact absurd hv (notU8_cell hs hn o u)
    · exact (World.cell?_of_block (a := p) (hg.block p.block hp (by intro e2; injection e2 with e2; exact e e2))).trans hv
  cases A with
  | none => exact key
  | some a =>
    intro p u hp hv
    by_cases e : p.block = a.block
    · have : (hide w a.block).cell? p = none := by rw [← e]; exact hide_none w p
      change (hide w a.block).cell? p = _ at hv
      rw [this] at hv; cases hv
    · change (hide w a.block).cell? p = _ at hv
      rw [hide_other w a.block p e] at hv
      show (hide w' a.block).cell? p = _
      rw [hide_other w' a.block p e]
      exact key p u hp hv
theorem own_grown {w w' : World} {base : Nat} {e : TypeId} {size n g : Nat} {A : Option Addr} {c : Nat} {xs : List Value} (h : w.ownsRow base e size (.slice A n c) n xs) (hg : w.grownBy w' (some g)) (hne : ∀ a, A = some a → a.block ≠ g) : w'.ownsRow base e size (.slice A n c) n xs := by
  obtain ⟨h1, h2⟩ := h
  refine ⟨h1, ?_⟩
  rcases h2 with h2 | ⟨g', cap, cur, hv, hb, hh, r⟩
  · exact .inl h2
  · cases hv
    exact .inr ⟨g', c, cur, rfl, hb, (hg.block g' (Array.getElem?_eq_some_iff.1 hh).1 (by intro e2; injection e2 with e2; exact hne _ rfl e2)).trans hh, r⟩
section
variable {α : Type} {E : El α} {T : TypeId} {w w' : World} {base n c g : Nat} {A : Option Addr} {l : List α} {cs : Array Value}
/-- a block without bytes is written: the row stands -/
theorem OwnE.grownU (hE : E.Byt) (h : OwnE E T w base A n c l) (hs : Str w g cs) (hn : notU8 cs = true) (hg : w.grownBy w' (some g)) (hne : ∀ a, A = some a → a.block ≠ g) : OwnE E T w' base A n c l := by
  obtain ⟨vs, h1, h2⟩ := h
  exact ⟨vs, own_grown h1 hg hne, h2.imp fun _ _ hr => E.more hg.size (hE (subU_grown A hs hn hg) hr)⟩
/-- a slice that lies elsewhere stands, too -/
theorem Elems.grownU (hE : E.Byt) (h : Elems E w w.heap.size A n c l) (hs : Str w g cs) (hn : notU8 cs = true) (hg : w.grownBy w' (some g)) (hne : ∀ a, A = some a → a.block ≠ g) : Elems E w' w'.heap.size A n c l := by
  obtain ⟨vs, hr, hl, hc, hm, hx⟩ := h
  refine ⟨vs, hr.imp fun _ _ hq => E.more hg.size (hE (subU_grown none hs hn hg) hq), hl, hc, hm, fun hp => ?_⟩
  obtain ⟨b, o, e, hb, hcell⟩ := hx hp
  exact ⟨b, o, e, Nat.lt_of_lt_of_le hb hg.size, fun j v hv => (World.cell?_of_block (a := ⟨b, o + j, none⟩) (hg.block b hb (by intro e2; injection e2 with e2; exact hne _ e e2))).trans (hcell j v hv)⟩
end
theorem Str.grownO {w w' : World} {b : Nat} {cs : Array Value} {ob : Option Nat} (h : Str w b cs) (hg : w.grownBy w' ob) (hne : ob ≠ some b) : Str w' b cs := by
  have hl := h.lt
  obtain ⟨t, h⟩ := h
  exact ⟨t, (hg.block b hl (fun e => hne e.symm)).trans h⟩
theorem grown_below {w w' : World} (h : Below w.heap.size w w') (ob : Option Nat) : w.grownBy w' ob := ⟨h.os, h.tape, h.output, h.size, fun k hk _ => h.block k hk⟩
theorem below_grownO {base : Nat} {w a b : World} {ob : Option Nat} (h : Below base w a) (hg : a.grownBy b ob) (hb : base ≤ a.heap.size) (hge : ∀ k, ob = some k → base ≤ k) : Below base w b := h.grown hg hb hge
end Go.Proofs.Ytldgdgfplgdipaa
