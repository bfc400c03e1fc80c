/-
  Steps of a script of transactions, as arguments.
-/
import Derived.Test.YtbcpepjedhafbaaOpenE
namespace Go.Proofs.Ytbcpepjedhafbaa
open Go.ChangeShapes Go.WideShapes Go.ChangeAt Go.RowKit
set_option linter.unusedVariables false
set_option maxRecDepth 100000
structure StepX where
  act : Int
  id : Int
  first : Int
  last : Int
  keep : Int
def stV (x : StepX) : List Value := [.int .i64 x.act, .int .i64 x.id, .int .i64 x.first, .int .i64 x.last, .int .i64 x.keep]
def StepE : El StepX where
  size := 5
  pos := by decide
  rel w B vs x := vs = stV x ∧ In64 x.act ∧ In64 x.id ∧ In64 x.first ∧ In64 x.last ∧ In64 x.keep
  len := by rintro w B vs p ⟨rfl, _⟩; rfl
  one := by rintro w B vs p ⟨rfl, _⟩ v hv; simp only [stV, List.mem_cons, List.not_mem_nil, or_false] at hv; rcases hv with rfl | rfl | rfl | rfl | rfl <;> rfl
  sub := by rintro w w' B vs p hs h; exact h
  more := by rintro w B B' vs p hB h; exact h
theorem step_at {wr w : World} {B n c k : Nat} {A : Option Addr} {l : List StepX} (h : ElemsIn StepE wr w B A n c l) (hk : k < n) : ∃ b o x, A = some ⟨b, o, none⟩ ∧ b < B ∧ l[k]? = some x ∧ (In64 x.act ∧ In64 x.id ∧ In64 x.first ∧ In64 x.last ∧ In64 x.keep) ∧ w.cell? ⟨b, o + k * 5, none⟩ = some (.int .i64 x.act) ∧ w.cell? ⟨b, o + k * 5 + 1, none⟩ = some (.int .i64 x.id) ∧ w.cell? ⟨b, o + k * 5 + 2, none⟩ = some (.int .i64 x.first) ∧ w.cell? ⟨b, o + k * 5 + 3, none⟩ = some (.int .i64 x.last) ∧ w.cell? ⟨b, o + k * 5 + 4, none⟩ = some (.int .i64 x.keep) := by
  have hl : k < l.length := by rw [h.len]; exact hk
  obtain ⟨b, o, vs, e, hb, ⟨rfl, hin⟩, hc⟩ := h.at_ hk
  exact ⟨b, o, _, e, hb, List.getElem?_eq_getElem hl, hin, hc 0 _ rfl, hc 1 _ rfl, hc 2 _ rfl, hc 3 _ rfl, hc 4 _ rfl⟩
def RSteps (w : World) (B : Nat) (v : Value) (l : List StepX) : Prop := ∃ A n c, v = .slice A n c ∧ Elems StepE w B A n c l
section
variable {H : Type} {enc : TypeId × Value → H} {W : World} {base : Nat} {v : Value} {d : DataW H} {p : List MemPlace}
theorem cells_step {n0 : Nat} {l : List Value} {y0 : DataW H × List MemPlace} (hf : DataW.trod enc Try.prog W 0 (fun _ => true) true n0 31 l = some y0) : ∃ x, StepE.rel W W.heap.size l x := by
  obtain ⟨hl, n, hg⟩ := field_of Try.underlying31 hf
  have hl' : l.length = 5 := hl.trans (by kernel_rfl)
  match l, hl' with
  | [c0, c1, c2, c3, c4], _ =>
    obtain ⟨y0, h0⟩ := hg 0 3 0 1 rfl (by kernel_rfl)
    have h0' : DataW.trod enc Try.prog W 0 (fun _ => true) true n 3 [c0] = some y0 := h0
    obtain ⟨z0, e0, _, q0⟩ := DataW.trod_int Try.underlying3 h0'
    obtain ⟨y1, h1⟩ := hg 1 3 1 1 rfl (by kernel_rfl)
    have h1' : DataW.trod enc Try.prog W 0 (fun _ => true) true n 3 [c1] = some y1 := h1
    obtain ⟨z1, e1, _, q1⟩ := DataW.trod_int Try.underlying3 h1'
    obtain ⟨y2, h2⟩ := hg 2 3 2 1 rfl (by kernel_rfl)
    have h2' : DataW.trod enc Try.prog W 0 (fun _ => true) true n 3 [c2] = some y2 := h2
    obtain ⟨z2, e2, _, q2⟩ := DataW.trod_int Try.underlying3 h2'
    obtain ⟨y3, h3⟩ := hg 3 3 3 1 rfl (by kernel_rfl)
    have h3' : DataW.trod enc Try.prog W 0 (fun _ => true) true n 3 [c3] = some y3 := h3
    obtain ⟨z3, e3, _, q3⟩ := DataW.trod_int Try.underlying3 h3'
    obtain ⟨y4, h4⟩ := hg 4 3 4 1 rfl (by kernel_rfl)
    have h4' : DataW.trod enc Try.prog W 0 (fun _ => true) true n 3 [c4] = some y4 := h4
    obtain ⟨z4, e4, _, q4⟩ := DataW.trod_int Try.underlying3 h4'
    simp only [List.cons.injEq, and_true] at e0 e1 e2 e3 e4
    subst e0 e1 e2 e3 e4
    exact ⟨⟨z0, z1, z2, z3, z4⟩, rfl, in64 q0, in64 q1, in64 q2, in64 q3, in64 q4⟩
theorem open_steps (hv : Value.okWide Try.prog W .any base 22 v) (h : DataW.Trod enc Try.prog W 0 (fun _ => true) true 22 v d p) : ∃ l, RSteps W W.heap.size v l := by
  obtain ⟨a, len, cap, rfl⟩ := okWide_slice Try.underlying22 hv
  obtain ⟨fuel, hf⟩ := h
  obtain ⟨A, n, c, l, e, hb⟩ := elems_of StepE Try.underlying22 (by kernel_rfl) (fun _ _ _ hq => cells_step hq) hf
  refine ⟨l, A, n, c, ?_, hb⟩
  simpa [Value.cells] using e
end
end Go.Proofs.Ytbcpepjedhafbaa
