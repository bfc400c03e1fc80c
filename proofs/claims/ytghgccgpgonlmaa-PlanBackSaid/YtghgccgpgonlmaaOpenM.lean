/-
  Pairs, operations, answers as arguments.
-/
import Derived.Test.YtghgccgpgonlmaaOpenE
import Derived.Test.YtghgccgpgonlmaaModelD
namespace Go.Proofs.Ytghgccgpgonlmaa
open Go.ChangeShapes Go.WideShapes Go.ChangeAt Go.RowKit
set_option linter.unusedVariables false
set_option maxRecDepth 100000
/-- an operation's cells -/
def opV (x : OpX) (A : Option Addr) (n c : Nat) : List Value := [.int .i64 x.act, .string x.key, .slice A n c, .int .i64 x.lo, .int .i64 x.hi, .int .i64 x.n]
/-- how an operation lies in memory -/
def OpE : El OpX where
  size := 6
  pos := by decide
  rel w B vs x := ∃ A n c, vs = opV x A n c ∧ Bytes w B A n c x.data ∧ x.key.size ≤ maxLen ∧ In64 x.act ∧ In64 x.lo ∧ In64 x.hi ∧ In64 x.n
  len := by rintro w B vs p ⟨A, n, c, rfl, _⟩; rfl
  one := by
    rintro w B vs p ⟨A, n, c, rfl, _⟩ v hv
    simp only [opV, List.mem_cons, List.not_mem_nil, or_false] at hv
    rcases hv with rfl | rfl | rfl | rfl | rfl | rfl <;> rfl
  sub := by rintro w w' B vs p hs ⟨A, n, c, e, h, r⟩; exact ⟨A, n, c, e, h.sub hs, r⟩
  more := by rintro w B B' vs p hB ⟨A, n, c, e, h, r⟩; exact ⟨A, n, c, e, h.more hB, r⟩
abbrev OpsL (w : World) (B : Nat) (A : Option Addr) (n c : Nat) (l : List OpX) : Prop := Elems OpE w B A n c l
/-- an operation of a slice: its cells -/
theorem op_at {wr w : World} {B n c k : Nat} {A : Option Addr} {l : List OpX} (h : ElemsIn OpE wr w B A n c l) (hk : k < n) : ∃ b o p Ap np cp, A = some ⟨b, o, none⟩ ∧ b < B ∧ l[k]? = some p ∧ Bytes wr B Ap np cp p.data ∧ p.key.size ≤ maxLen ∧ In64 p.act ∧ In64 p.lo ∧ In64 p.hi ∧ In64 p.n ∧
    w.cell? ⟨b, o + k * 6, none⟩ = some (.int .i64 p.act) ∧ w.cell? ⟨b, o + k * 6 + 1, none⟩ = some (.string p.key) ∧ w.cell? ⟨b, o + k * 6 + 2, none⟩ = some (.slice Ap np cp) ∧ w.cell? ⟨b, o + k * 6 + 3, none⟩ = some (.int .i64 p.lo) ∧ w.cell? ⟨b, o + k * 6 + 4, none⟩ = some (.int .i64 p.hi) ∧ w.cell? ⟨b, o + k * 6 + 5, none⟩ = some (.int .i64 p.n) := by
  have hl : k < l.length := by rw [h.len]; exact hk
  obtain ⟨b, o, vs, e, hb, ⟨Ap, np, cp, rfl, hy, h1, h2, h3, h4, h5⟩, hc⟩ := h.at_ hk
  exact ⟨b, o, _, Ap, np, cp, e, hb, List.getElem?_eq_getElem hl, hy, h1, h2, h3, h4, h5, hc 0 _ rfl, hc 1 _ rfl, hc 2 _ rfl, hc 3 _ rfl, hc 4 _ rfl, hc 5 _ rfl⟩
/-- an answer as a value -/
def RAns (w : World) (B : Nat) (v : Value) (a : Answer) : Prop := ∃ A n c, v = .agg (ansV A n c a) ∧ Bytes w B A n c a.cell.data ∧ In64 a.err ∧ In64 a.cell.kind ∧ In64 a.cell.lo ∧ In64 a.cell.hi ∧ In64 a.cell.val
def RPairs (w : World) (B : Nat) (v : Value) (l : List Pair) : Prop := ∃ A n c, v = .slice A n c ∧ Pairs w B A n c l
def ROps (w : World) (B : Nat) (v : Value) (l : List OpX) : Prop := ∃ A n c, v = .slice A n c ∧ OpsL w B A n c l
section
variable {H : Type} {enc : TypeId × Value → H} {W : World} {base : Nat} {v : Value} {d : DataW H} {p : List MemPlace}
theorem cells_pair {n0 : Nat} {l : List Value} {y0 : DataW H × List MemPlace} (hf : DataW.trod enc Try.prog W 0 (fun _ => true) true n0 103 l = some y0) : ∃ x, PairE.rel W W.heap.size l x := by
  obtain ⟨hl, n, hg⟩ := field_of Try.underlying103 hf
  have hl' : l.length = 6 := hl.trans (by kernel_rfl)
  match l, hl' with
  | [c0, c1, c2, c3, c4, c5], _ =>
    obtain ⟨y0, h0⟩ := hg 0 9 0 1 rfl (by kernel_rfl)
    have h0' : DataW.trod enc Try.prog W 0 (fun _ => true) true n 9 [c0] = some y0 := h0
    obtain ⟨z0, e0, _, q0⟩ := DataW.trod_string Try.underlying9 h0'
    obtain ⟨w1, g1⟩ := hg 1 37 1 5 rfl (by kernel_rfl)
    have g1' : DataW.trod enc Try.prog W 0 (fun _ => true) true n 37 [c1, c2, c3, c4, c5] = some w1 := g1
    obtain ⟨_, m1, hg1⟩ := field_of Try.underlying37 g1'
    obtain ⟨y1, h1⟩ := hg1 0 3 0 1 rfl (by kernel_rfl)
    have h1' : DataW.trod enc Try.prog W 0 (fun _ => true) true m1 3 [c1] = some y1 := h1
    obtain ⟨z1, e1, _, q1⟩ := DataW.trod_int Try.underlying3 h1'
    obtain ⟨y2, h2⟩ := hg1 1 22 1 1 rfl (by kernel_rfl)
    have h2' : DataW.trod enc Try.prog W 0 (fun _ => true) true m1 22 [c2] = some y2 := h2
    obtain ⟨A2, n2, k2, z2, e2, q2⟩ := bytes_of Try.underlying22 Try.underlying5 (by kernel_rfl) h2'
    obtain ⟨y3, h3⟩ := hg1 2 3 2 1 rfl (by kernel_rfl)
    have h3' : DataW.trod enc Try.prog W 0 (fun _ => true) true m1 3 [c3] = some y3 := h3
    obtain ⟨z3, e3, _, q3⟩ := DataW.trod_int Try.underlying3 h3'
    obtain ⟨y4, h4⟩ := hg1 3 3 3 1 rfl (by kernel_rfl)
    have h4' : DataW.trod enc Try.prog W 0 (fun _ => true) true m1 3 [c4] = some y4 := h4
    obtain ⟨z4, e4, _, q4⟩ := DataW.trod_int Try.underlying3 h4'
    obtain ⟨y5, h5⟩ := hg1 4 3 4 1 rfl (by kernel_rfl)
    have h5' : DataW.trod enc Try.prog W 0 (fun _ => true) true m1 3 [c5] = some y5 := h5
    obtain ⟨z5, e5, _, q5⟩ := DataW.trod_int Try.underlying3 h5'
    simp only [List.cons.injEq, and_true] at e0 e1 e2 e3 e4 e5
    subst e0 e1 e2 e3 e4 e5
    exact ⟨⟨z0, ⟨z1, z2, z3, z4, z5⟩⟩, A2, n2, k2, rfl, q2, q0, in64 q1, in64 q3, in64 q4, in64 q5⟩
theorem cells_op {n0 : Nat} {l : List Value} {y0 : DataW H × List MemPlace} (hf : DataW.trod enc Try.prog W 0 (fun _ => true) true n0 24 l = some y0) : ∃ x, OpE.rel W W.heap.size l x := by
  obtain ⟨hl, n, hg⟩ := field_of Try.underlying24 hf
  have hl' : l.length = 6 := hl.trans (by kernel_rfl)
  match l, hl' with
  | [c0, c1, c2, c3, c4, c5], _ =>
    obtain ⟨y0, h0⟩ := hg 0 3 0 1 rfl (by kernel_rfl)
    have h0' : DataW.trod enc Try.prog W 0 (fun _ => true) true n 3 [c0] = some y0 := h0
    obtain ⟨z0, e0, _, q0⟩ := DataW.trod_int Try.underlying3 h0'
    obtain ⟨y1, h1⟩ := hg 1 9 1 1 rfl (by kernel_rfl)
    have h1' : DataW.trod enc Try.prog W 0 (fun _ => true) true n 9 [c1] = some y1 := h1
    obtain ⟨z1, e1, _, q1⟩ := DataW.trod_string Try.underlying9 h1'
    obtain ⟨y2, h2⟩ := hg 2 22 2 1 rfl (by kernel_rfl)
    have h2' : DataW.trod enc Try.prog W 0 (fun _ => true) true n 22 [c2] = some y2 := h2
    obtain ⟨A2, n2, k2, z2, e2, q2⟩ := bytes_of Try.underlying22 Try.underlying5 (by kernel_rfl) h2'
    obtain ⟨y3, h3⟩ := hg 3 3 3 1 rfl (by kernel_rfl)
    have h3' : DataW.trod enc Try.prog W 0 (fun _ => true) true n 3 [c3] = some y3 := h3
    obtain ⟨z3, e3, _, q3⟩ := DataW.trod_int Try.underlying3 h3'
    obtain ⟨y4, h4⟩ := hg 4 3 4 1 rfl (by kernel_rfl)
    have h4' : DataW.trod enc Try.prog W 0 (fun _ => true) true n 3 [c4] = some y4 := h4
    obtain ⟨z4, e4, _, q4⟩ := DataW.trod_int Try.underlying3 h4'
    obtain ⟨y5, h5⟩ := hg 5 3 5 1 rfl (by kernel_rfl)
    have h5' : DataW.trod enc Try.prog W 0 (fun _ => true) true n 3 [c5] = some y5 := h5
    obtain ⟨z5, e5, _, q5⟩ := DataW.trod_int Try.underlying3 h5'
    simp only [List.cons.injEq, and_true] at e0 e1 e2 e3 e4 e5
    subst e0 e1 e2 e3 e4 e5
    exact ⟨⟨z0, z1, z2, z3, z4, z5⟩, A2, n2, k2, rfl, q2, q1, in64 q0, in64 q3, in64 q4, in64 q5⟩
theorem open_answer (hv : Value.okWide Try.prog W .any base 39 v) (h : DataW.Trod enc Try.prog W 0 (fun _ => true) true 39 v d p) : ∃ x, RAns W W.heap.size v x := by
  obtain ⟨cs, rfl, hsz⟩ := okWide_struct Try.underlying39 hv
  obtain ⟨l⟩ := cs
  obtain ⟨fuel, hf⟩ := h
  obtain ⟨hl, n, hg⟩ := field_of Try.underlying39 hf
  have hl' : l.length = 6 := hl.trans (by kernel_rfl)
  match l, hl' with
  | [c0, c1, c2, c3, c4, c5], _ =>
    obtain ⟨y0, h0⟩ := hg 0 29 0 1 rfl (by kernel_rfl)
    have h0' : DataW.trod enc Try.prog W 0 (fun _ => true) true n 29 [c0] = some y0 := h0
    obtain ⟨z0, e0, _, q0⟩ := DataW.trod_int Try.underlying29 h0'
    obtain ⟨w1, g1⟩ := hg 1 37 1 5 rfl (by kernel_rfl)
    have g1' : DataW.trod enc Try.prog W 0 (fun _ => true) true n 37 [c1, c2, c3, c4, c5] = some w1 := g1
    obtain ⟨_, m1, hg1⟩ := field_of Try.underlying37 g1'
    obtain ⟨y1, h1⟩ := hg1 0 3 0 1 rfl (by kernel_rfl)
    have h1' : DataW.trod enc Try.prog W 0 (fun _ => true) true m1 3 [c1] = some y1 := h1
    obtain ⟨z1, e1, _, q1⟩ := DataW.trod_int Try.underlying3 h1'
    obtain ⟨y2, h2⟩ := hg1 1 22 1 1 rfl (by kernel_rfl)
    have h2' : DataW.trod enc Try.prog W 0 (fun _ => true) true m1 22 [c2] = some y2 := h2
    obtain ⟨A2, n2, k2, z2, e2, q2⟩ := bytes_of Try.underlying22 Try.underlying5 (by kernel_rfl) h2'
    obtain ⟨y3, h3⟩ := hg1 2 3 2 1 rfl (by kernel_rfl)
    have h3' : DataW.trod enc Try.prog W 0 (fun _ => true) true m1 3 [c3] = some y3 := h3
    obtain ⟨z3, e3, _, q3⟩ := DataW.trod_int Try.underlying3 h3'
    obtain ⟨y4, h4⟩ := hg1 3 3 3 1 rfl (by kernel_rfl)
    have h4' : DataW.trod enc Try.prog W 0 (fun _ => true) true m1 3 [c4] = some y4 := h4
    obtain ⟨z4, e4, _, q4⟩ := DataW.trod_int Try.underlying3 h4'
    obtain ⟨y5, h5⟩ := hg1 4 3 4 1 rfl (by kernel_rfl)
    have h5' : DataW.trod enc Try.prog W 0 (fun _ => true) true m1 3 [c5] = some y5 := h5
    obtain ⟨z5, e5, _, q5⟩ := DataW.trod_int Try.underlying3 h5'
    simp only [List.cons.injEq, and_true] at e0 e1 e2 e3 e4 e5
    subst e0 e1 e2 e3 e4 e5
    exact ⟨⟨z0, ⟨z1, z2, z3, z4, z5⟩⟩, A2, n2, k2, rfl, q2, in64 q0, in64 q1, in64 q3, in64 q4, in64 q5⟩
theorem open_pairs (hv : Value.okWide Try.prog W .any base 34 v) (h : DataW.Trod enc Try.prog W 0 (fun _ => true) true 34 v d p) : ∃ l, RPairs W W.heap.size v l := by
  obtain ⟨a, len, cap, rfl⟩ := okWide_slice Try.underlying34 hv
  obtain ⟨fuel, hf⟩ := h
  obtain ⟨A, n, c, l, e, hb⟩ := elems_of PairE Try.underlying34 (by kernel_rfl) (fun _ _ _ hq => cells_pair hq) hf
  refine ⟨l, A, n, c, ?_, hb⟩
  simpa [Value.cells] using e
theorem open_ops (hv : Value.okWide Try.prog W .any base 26 v) (h : DataW.Trod enc Try.prog W 0 (fun _ => true) true 26 v d p) : ∃ l, ROps W W.heap.size v l := by
  obtain ⟨a, len, cap, rfl⟩ := okWide_slice Try.underlying26 hv
  obtain ⟨fuel, hf⟩ := h
  obtain ⟨A, n, c, l, e, hb⟩ := elems_of OpE Try.underlying26 (by kernel_rfl) (fun _ _ _ hq => cells_op hq) hf
  refine ⟨l, A, n, c, ?_, hb⟩
  simpa [Value.cells] using e
end
end Go.Proofs.Ytghgccgpgonlmaa
