/-
  What an argument of more types is, once it is read: items, undos, arrays of bytes.
-/
import Derived.Test.YtcagflakmokoiaaOpen2
import Derived.Test.YtcagflakmokoiaaArr
import Derived.Test.YtcagflakmokoiaaPSlotGet
namespace Go.Proofs.Ytcagflakmokoiaa
open Go.ChangeShapes Go.WideShapes Go.ChangeAt Go.RowKit
set_option linter.unusedVariables false
set_option maxRecDepth 100000

/-- an item as a value -/
def RItem (w : World) (B : Nat) (v : Value) (x : Item) : Prop :=
  ∃ A n cap, v = .agg #[.int .i64 x.state, .string x.key, .int .i64 x.cell.kind, .slice A n cap, .int .i64 x.cell.lo, .int .i64 x.cell.hi, .int .i64 x.cell.val] ∧ Bytes w B A n cap x.cell.data ∧ x.key.size ≤ maxLen ∧ SlotP.In x
/-- an undo as a value -/
def RUndo (w : World) (B : Nat) (v : Value) (u : Undo) : Prop :=
  ∃ A n cap, v = .agg #[.int .i64 u.act, .string u.key, .int .i64 u.item.state, .string u.item.key, .int .i64 u.item.cell.kind, .slice A n cap, .int .i64 u.item.cell.lo, .int .i64 u.item.cell.hi, .int .i64 u.item.cell.val, .int .i64 u.n] ∧
    Bytes w B A n cap u.item.cell.data ∧ u.key.size ≤ maxLen ∧ u.item.key.size ≤ maxLen ∧ SlotP.In u.item ∧ In64 u.act ∧ In64 u.n
def RArr (n : Nat) (v : Value) (l : List UInt8) : Prop := v = .agg (rowV l) ∧ l.length = n
section
variable {H : Type} {enc : TypeId × Value → H} {P : Program} {w : World}
def byteOfV (v : Value) : UInt8 := match v with | .int _ z => UInt8.ofNat z.toNat | _ => 0
theorem arr_of {fuel n : Nat} {t e : TypeId} {cs : List Value} {x : DataW H × List MemPlace} (ht : P.underlying t = some (.array n e)) (he : P.underlying e = some (.int .u8)) (hce : P.cellsOf e = 1) (hct : P.cellsOf t = n)
    (h : DataW.trod enc P w 0 (fun _ => true) true fuel t cs = some x) : ∃ l, RArr n (.agg ⟨cs⟩) l := by
  obtain ⟨xs, m, _, _, hl, hx, hf⟩ := DataW.trod_array ht h
  rw [hct] at hl
  refine ⟨cs.map byteOfV, ?_, by simpa using hl⟩
  have : cs = (cs.map byteOfV).map byteV := by
    refine List.ext_getElem? fun i => ?_
    by_cases hi : i < cs.length
    · have h1 := hf i (by omega)
      rw [hce, Nat.mul_one, List.getElem?_eq_getElem (by omega)] at h1
      have h2 : (cs.drop i).take 1 = [cs[i]] := by rw [List.drop_eq_getElem_cons hi]; rfl
      rw [h2] at h1
      obtain ⟨z, e1, _, q⟩ := DataW.trod_int he h1
      have e2 : cs[i] = .int .u8 z := by simpa using e1
      rw [List.getElem?_map, List.getElem?_map, List.getElem?_eq_getElem hi, e2]
      simp only [Option.map_some, byteOfV, byteV, u8_of q]
    · rw [List.getElem?_eq_none (by omega), List.getElem?_eq_none (by simp; omega)]
  show Value.agg ⟨cs⟩ = .agg (rowV _)
  unfold rowV
  rw [← this]
end
section
variable {H : Type} {enc : TypeId × Value → H} {W : World} {base : Nat} {v : Value} {d : DataW H} {p : List MemPlace}
theorem open_item (hv : Value.okWide Try.prog W .any base 27 v) (h : DataW.Trod enc Try.prog W 0 (fun _ => true) true 27 v d p) : ∃ x, RItem W W.heap.size v x := by
  obtain ⟨cs, rfl, hsz⟩ := okWide_struct Try.underlying27 hv
  obtain ⟨l⟩ := cs
  obtain ⟨fuel, hf⟩ := h
  obtain ⟨hl, n, hg⟩ := field_of Try.underlying27 hf
  have hl' : l.length = 7 := hl.trans (by kernel_rfl)
  match l, hl' with
  | [c0, c1, c2, c3, c4, c5, c6], _ =>
    obtain ⟨y0, h0⟩ := hg 0 3 0 1 rfl (by kernel_rfl)
    have h0' : DataW.trod enc Try.prog W 0 (fun _ => true) true n 3 [c0] = some y0 := h0
    obtain ⟨z0, e0, _, q0⟩ := DataW.trod_int Try.underlying3 h0'
    obtain ⟨y1, h1⟩ := hg 1 9 1 1 rfl (by kernel_rfl)
    have h1' : DataW.trod enc Try.prog W 0 (fun _ => true) true n 9 [c1] = some y1 := h1
    obtain ⟨z1, e1, _, q1⟩ := DataW.trod_string Try.underlying9 h1'
    obtain ⟨w2, g2⟩ := hg 2 25 2 5 rfl (by kernel_rfl)
    have g2' : DataW.trod enc Try.prog W 0 (fun _ => true) true n 25 [c2, c3, c4, c5, c6] = some w2 := g2
    obtain ⟨_, m2, hg2⟩ := field_of Try.underlying25 g2'
    obtain ⟨y2, h2⟩ := hg2 0 3 0 1 rfl (by kernel_rfl)
    have h2' : DataW.trod enc Try.prog W 0 (fun _ => true) true m2 3 [c2] = some y2 := h2
    obtain ⟨z2, e2, _, q2⟩ := DataW.trod_int Try.underlying3 h2'
    obtain ⟨y3, h3⟩ := hg2 1 22 1 1 rfl (by kernel_rfl)
    have h3' : DataW.trod enc Try.prog W 0 (fun _ => true) true m2 22 [c3] = some y3 := h3
    obtain ⟨A3, n3, k3, z3, e3, q3⟩ := bytes_of Try.underlying22 Try.underlying5 (by kernel_rfl) h3'
    obtain ⟨y4, h4⟩ := hg2 2 3 2 1 rfl (by kernel_rfl)
    have h4' : DataW.trod enc Try.prog W 0 (fun _ => true) true m2 3 [c4] = some y4 := h4
    obtain ⟨z4, e4, _, q4⟩ := DataW.trod_int Try.underlying3 h4'
    obtain ⟨y5, h5⟩ := hg2 3 3 3 1 rfl (by kernel_rfl)
    have h5' : DataW.trod enc Try.prog W 0 (fun _ => true) true m2 3 [c5] = some y5 := h5
    obtain ⟨z5, e5, _, q5⟩ := DataW.trod_int Try.underlying3 h5'
    obtain ⟨y6, h6⟩ := hg2 4 3 4 1 rfl (by kernel_rfl)
    have h6' : DataW.trod enc Try.prog W 0 (fun _ => true) true m2 3 [c6] = some y6 := h6
    obtain ⟨z6, e6, _, q6⟩ := DataW.trod_int Try.underlying3 h6'
    simp only [List.cons.injEq, and_true] at e0 e1 e2 e3 e4 e5 e6
    subst e0 e1 e2 e3 e4 e5 e6
    exact ⟨⟨z0, z1, ⟨z2, z3, z4, z5, z6⟩⟩, A3, n3, k3, rfl, q3, q1, in64 q0, in64 q2, in64 q4, in64 q5, in64 q6⟩
theorem open_undo (hv : Value.okWide Try.prog W .any base 29 v) (h : DataW.Trod enc Try.prog W 0 (fun _ => true) true 29 v d p) : ∃ x, RUndo W W.heap.size v x := by
  obtain ⟨cs, rfl, hsz⟩ := okWide_struct Try.underlying29 hv
  obtain ⟨l⟩ := cs
  obtain ⟨fuel, hf⟩ := h
  obtain ⟨hl, n, hg⟩ := field_of Try.underlying29 hf
  have hl' : l.length = 10 := hl.trans (by kernel_rfl)
  match l, hl' with
  | [c0, c1, c2, c3, c4, c5, c6, c7, c8, c9], _ =>
    obtain ⟨y0, h0⟩ := hg 0 3 0 1 rfl (by kernel_rfl)
    have h0' : DataW.trod enc Try.prog W 0 (fun _ => true) true n 3 [c0] = some y0 := h0
    obtain ⟨z0, e0, _, q0⟩ := DataW.trod_int Try.underlying3 h0'
    obtain ⟨y1, h1⟩ := hg 1 9 1 1 rfl (by kernel_rfl)
    have h1' : DataW.trod enc Try.prog W 0 (fun _ => true) true n 9 [c1] = some y1 := h1
    obtain ⟨z1, e1, _, q1⟩ := DataW.trod_string Try.underlying9 h1'
    obtain ⟨w2, g2⟩ := hg 2 27 2 7 rfl (by kernel_rfl)
    have g2' : DataW.trod enc Try.prog W 0 (fun _ => true) true n 27 [c2, c3, c4, c5, c6, c7, c8] = some w2 := g2
    obtain ⟨_, m2, hg2⟩ := field_of Try.underlying27 g2'
    obtain ⟨y2, h2⟩ := hg2 0 3 0 1 rfl (by kernel_rfl)
    have h2' : DataW.trod enc Try.prog W 0 (fun _ => true) true m2 3 [c2] = some y2 := h2
    obtain ⟨z2, e2, _, q2⟩ := DataW.trod_int Try.underlying3 h2'
    obtain ⟨y3, h3⟩ := hg2 1 9 1 1 rfl (by kernel_rfl)
    have h3' : DataW.trod enc Try.prog W 0 (fun _ => true) true m2 9 [c3] = some y3 := h3
    obtain ⟨z3, e3, _, q3⟩ := DataW.trod_string Try.underlying9 h3'
    obtain ⟨w4, g4⟩ := hg2 2 25 2 5 rfl (by kernel_rfl)
    have g4' : DataW.trod enc Try.prog W 0 (fun _ => true) true m2 25 [c4, c5, c6, c7, c8] = some w4 := g4
    obtain ⟨_, m4, hg4⟩ := field_of Try.underlying25 g4'
    obtain ⟨y4, h4⟩ := hg4 0 3 0 1 rfl (by kernel_rfl)
    have h4' : DataW.trod enc Try.prog W 0 (fun _ => true) true m4 3 [c4] = some y4 := h4
    obtain ⟨z4, e4, _, q4⟩ := DataW.trod_int Try.underlying3 h4'
    obtain ⟨y5, h5⟩ := hg4 1 22 1 1 rfl (by kernel_rfl)
    have h5' : DataW.trod enc Try.prog W 0 (fun _ => true) true m4 22 [c5] = some y5 := h5
    obtain ⟨A5, n5, k5, z5, e5, q5⟩ := bytes_of Try.underlying22 Try.underlying5 (by kernel_rfl) h5'
    obtain ⟨y6, h6⟩ := hg4 2 3 2 1 rfl (by kernel_rfl)
    have h6' : DataW.trod enc Try.prog W 0 (fun _ => true) true m4 3 [c6] = some y6 := h6
    obtain ⟨z6, e6, _, q6⟩ := DataW.trod_int Try.underlying3 h6'
    obtain ⟨y7, h7⟩ := hg4 3 3 3 1 rfl (by kernel_rfl)
    have h7' : DataW.trod enc Try.prog W 0 (fun _ => true) true m4 3 [c7] = some y7 := h7
    obtain ⟨z7, e7, _, q7⟩ := DataW.trod_int Try.underlying3 h7'
    obtain ⟨y8, h8⟩ := hg4 4 3 4 1 rfl (by kernel_rfl)
    have h8' : DataW.trod enc Try.prog W 0 (fun _ => true) true m4 3 [c8] = some y8 := h8
    obtain ⟨z8, e8, _, q8⟩ := DataW.trod_int Try.underlying3 h8'
    obtain ⟨y9, h9⟩ := hg 3 3 9 1 rfl (by kernel_rfl)
    have h9' : DataW.trod enc Try.prog W 0 (fun _ => true) true n 3 [c9] = some y9 := h9
    obtain ⟨z9, e9, _, q9⟩ := DataW.trod_int Try.underlying3 h9'
    simp only [List.cons.injEq, and_true] at e0 e1 e2 e3 e4 e5 e6 e7 e8 e9
    subst e0 e1 e2 e3 e4 e5 e6 e7 e8 e9
    exact ⟨⟨z0, z1, ⟨z2, z3, ⟨z4, z5, z6, z7, z8⟩⟩, z9⟩, A5, n5, k5, rfl, q5, q1, q3, ⟨in64 q2, in64 q4, in64 q6, in64 q7, in64 q8⟩, in64 q0, in64 q9⟩
theorem open_a64 (hv : Value.okWide Try.prog W .any base 117 v) (h : DataW.Trod enc Try.prog W 0 (fun _ => true) true 117 v d p) : ∃ l, RArr 64 v l := by
  have hv' := hv
  simp only [Value.okWide, Try.underlying117] at hv'
  obtain ⟨cs, rfl, hsz, _⟩ := hv'
  obtain ⟨l⟩ := cs
  obtain ⟨fuel, hf⟩ := h
  exact arr_of Try.underlying117 Try.underlying5 (by kernel_rfl) (by kernel_rfl) hf
end
end Go.Proofs.Ytcagflakmokoiaa
