/-
  Stores into a box, while bytes lie elsewhere. No program in sight.
-/
import Derived.Test.YtldgdgfplgdipaaArr
import Derived.Lib.BufferWrite
namespace Go.Proofs.Ytldgdgfplgdipaa
open Go.RowKit

/-- no byte among these -/
def notU8 (cs : Array Value) : Bool := cs.toList.all fun v => match v with | .int .u8 _ => false | _ => true
theorem grown_set {w w1 : World} {g : Nat} (h : w.grownBy w1 (some g)) (i : Nat) (v : Value) : w.grownBy (w1.setCell ⟨g, i, none⟩ v) (some g) := h.trans (Lib.grownBy_setCell w1 g i v)
theorem grown_refl (w : World) (g : Nat) : w.grownBy w (some g) := World.grownBy.refl w _
/-- bytes do not lie in a box without bytes -/
theorem Bytes.grown {w w1 : World} {B n c g : Nat} {A : Option Addr} {l : List UInt8} {cs : Array Value} (h : Bytes w B A n c l) (hB : B ≤ w.heap.size) (hs : Str w g cs) (hn : notU8 cs = true) (hg : w.grownBy w1 (some g)) : Bytes w1 B A n c l := by
  obtain ⟨h1, h2, h3, h4⟩ := h
  refine ⟨h1, h2, h3, fun hpos => ?_⟩
  obtain ⟨b, o, e, hb, hc⟩ := h4 hpos
  refine ⟨b, o, e, hb, fun j u hu => ?_⟩
  have hne : b ≠ g := by
    intro hbg
    subst hbg
    have h0 : l[0]? = some (l[0]'(by omega)) := List.getElem?_eq_getElem _
    have hx := hc 0 _ h0
    rw [hs.cell] at hx
    have hm : byteV (l[0]'(by omega)) ∈ cs.toList := by
      rw [Array.mem_toList_iff]
      exact Array.mem_of_getElem? hx
    have := List.all_eq_true.1 hn _ hm
    simp [byteV] at this
  have := hc j u hu
  rw [← this]
  exact World.cell?_of_block (a := ⟨b, o + j, none⟩) (hg.block b (by omega) (by intro e2; injection e2 with e2; exact hne e2))
end Go.Proofs.Ytldgdgfplgdipaa
