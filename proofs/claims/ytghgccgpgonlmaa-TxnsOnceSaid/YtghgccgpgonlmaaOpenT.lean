/-
  Slices of bools, and of steps of a script, as values and as arguments.
-/
import Derived.Test.YtghgccgpgonlmaaOpenE
namespace Go.Proofs.Ytghgccgpgonlmaa
open Go.ChangeShapes Go.WideShapes Go.ChangeAt Go.RowKit
set_option linter.unusedVariables false
set_option maxRecDepth 100000
def BoolE : El Bool where
  size := 1
  pos := by decide
  rel w B vs x := vs = [.bool x]
  len := by rintro w B vs p rfl; rfl
  one := by rintro w B vs p rfl v hv; simp only [List.mem_singleton] at hv; subst hv; rfl
  sub := by rintro w w' B vs p hs h; exact h
  more := by rintro w B B' vs p hB h; exact h
theorem bool_at {wr w : World} {B n c k : Nat} {A : Option Addr} {l : List Bool} (h : ElemsIn BoolE wr w B A n c l) (hk : k < n) : ∃ b o x, A = some ⟨b, o, none⟩ ∧ b < B ∧ l[k]? = some x ∧ w.cell? ⟨b, o + k, none⟩ = some (.bool x) := by
  have hl : k < l.length := by rw [h.len]; exact hk
  obtain ⟨b, o, vs, e, hb, rfl, hc⟩ := h.at_ hk
  refine ⟨b, o, _, e, hb, List.getElem?_eq_getElem hl, ?_⟩
  have := hc 0 _ rfl
  rwa [show o + k * BoolE.size + 0 = o + k from by show o + k * 1 + 0 = _; omega] at this
def RBools (w : World) (B : Nat) (v : Value) (l : List Bool) : Prop := ∃ A n c, v = .slice A n c ∧ Elems BoolE w B A n c l
section
variable {H : Type} {enc : TypeId × Value → H} {W : World} {base : Nat} {v : Value} {d : DataW H} {p : List MemPlace}
theorem open_bools (hv : Value.okWide Try.prog W .any base 96 v) (h : DataW.Trod enc Try.prog W 0 (fun _ => true) true 96 v d p) : ∃ l, RBools W W.heap.size v l := by
  obtain ⟨a, len, cap, rfl⟩ := okWide_slice Try.underlying96 hv
  obtain ⟨fuel, hf⟩ := h
  obtain ⟨A, n, c, l, e, hb⟩ := elems_of BoolE Try.underlying96 (by kernel_rfl) (fun n cs y hy => by
    obtain ⟨b, e, _⟩ := DataW.trod_bool Try.underlying4 hy
    exact ⟨b, e⟩) hf
  refine ⟨l, A, n, c, ?_, hb⟩
  simpa [Value.cells] using e
end
end Go.Proofs.Ytghgccgpgonlmaa
