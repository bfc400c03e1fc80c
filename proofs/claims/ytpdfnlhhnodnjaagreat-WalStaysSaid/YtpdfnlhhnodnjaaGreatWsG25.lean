/-
  Parts of the proof of WalStays.
-/
import Derived.Test.YtpdfnlhhnodnjaaGreatWsG24
import Derived.Test.YtpdfnlhhnodnjaaGreatWsG3
import Derived.Test.YtpdfnlhhnodnjaaGreatWsG13
import Derived.Test.YtpdfnlhhnodnjaaGreatWsG4
import Derived.RangeFuncNested
import Derived.RangeFuncBox
import Derived.RangeFuncLeaves
import Derived.RangeFuncWrites
import Derived.OwnWalkIn
import Derived.TacticsInMore
import Derived.LoopNIn
import Derived.LoopIn
import Derived.Test.YtpdfnlhhnodnjaaGreatWsG9
import Derived.Test.YtpdfnlhhnodnjaaGreatWsG7
import Derived.Test.YtpdfnlhhnodnjaaGreatWsG6
import Derived.Deep.MidRow
section
namespace Go.Proofs.YtpdfnlhhnodnjaaGreat
open Go.ChangeShapes Go.WideShapes Go.ChangeAt Go.RowKit
set_option linter.unusedVariables false
set_option maxRecDepth 100000
def recV (x : RecX) (A : Option Addr) (n c : Nat) (A2 : Option Addr) (n2 c2 : Nat) : List Value := [.int .i64 x.kind, .int .i64 x.txn, .int .i64 x.prev, .int .i64 x.next, .slice A n c, .int .i64 x.undo.act, .string x.undo.key, .int .i64 x.undo.item.state, .string x.undo.item.key, .int .i64 x.undo.item.cell.kind, .slice A2 n2 c2, .int .i64 x.undo.item.cell.lo, .int .i64 x.undo.item.cell.hi, .int .i64 x.undo.item.cell.val, .int .i64 x.undo.n]
/-- the numbers of a record fit the words they lie in -/
def RecIn (x : RecX) : Prop := (x.undo.key.size ≤ maxLen ∧ x.undo.item.key.size ≤ maxLen) ∧ SlotP.In x.undo.item ∧ In64 x.undo.act ∧ In64 x.undo.n ∧ In64 x.kind ∧ In64 x.txn ∧ In64 x.prev ∧ In64 x.next
def RecE : El RecX where
  size := 15
  pos := by decide
  rel w B vs x := ∃ A n c A2 n2 c2, vs = recV x A n c A2 n2 c2 ∧ Elems PatchE w B A n c x.patches ∧ Bytes w B A2 n2 c2 x.undo.item.cell.data ∧ RecIn x
  len := by rintro w B vs p ⟨A, n, c, A2, n2, c2, rfl, _⟩; rfl
  one := by rintro w B vs p ⟨A, n, c, A2, n2, c2, rfl, _⟩ v hv; simp only [recV, List.mem_cons, List.not_mem_nil, or_false] at hv; rcases hv with rfl | rfl | rfl | rfl | rfl | rfl | rfl | rfl | rfl | rfl | rfl | rfl | rfl | rfl | rfl <;> rfl
  sub := by rintro w w' B vs p hs ⟨A, n, c, A2, n2, c2, e, h, h2, r⟩; exact ⟨A, n, c, A2, n2, c2, e, h.sub hs, h2.sub hs, r⟩
  more := by rintro w B B' vs p hB ⟨A, n, c, A2, n2, c2, e, h, h2, r⟩; exact ⟨A, n, c, A2, n2, c2, e, h.more hB, h2.more hB, r⟩
/-- a record of a slice: its cells -/
theorem rec_at {wr w : World} {B n c k : Nat} {A : Option Addr} {l : List RecX} (h : ElemsIn RecE wr w B A n c l) (hk : k < n) : ∃ b o x A1 n1 c1 A2 n2 c2, A = some ⟨b, o, none⟩ ∧ b < B ∧ l[k]? = some x ∧ Elems PatchE wr B A1 n1 c1 x.patches ∧ Bytes wr B A2 n2 c2 x.undo.item.cell.data ∧ RecIn x ∧
    ∀ j v, (recV x A1 n1 c1 A2 n2 c2)[j]? = some v → w.cell? ⟨b, o + k * 15 + j, none⟩ = some v := by
  have hl : k < l.length := by rw [h.len]; exact hk
  obtain ⟨b, o, vs, e, hb, ⟨A1, n1, c1, A2, n2, c2, rfl, hy, hy2, h1⟩, hc⟩ := h.at_ hk
  exact ⟨b, o, _, A1, n1, c1, A2, n2, c2, e, hb, List.getElem?_eq_getElem hl, hy, hy2, h1, hc⟩
def RRecs (w : World) (B : Nat) (v : Value) (l : List RecX) : Prop := ∃ A n c, v = .slice A n c ∧ Elems RecE w B A n c l
section
variable {H : Type} {enc : TypeId × Value → H} {P : Program} {w : World}
theorem bool_of {t : TypeId} (ht : P.underlying t = some .bool) {fuel : Nat} {cs : List Value} {x : DataW H × List MemPlace} (h : DataW.trod enc P w 0 (fun _ => true) true fuel t cs = some x) : ∃ b, cs = [.bool b] := by
  obtain ⟨b, e, _⟩ := DataW.trod_bool ht h
  exact ⟨b, e⟩
end
section
variable {H : Type} {enc : TypeId × Value → H} {W : World} {base : Nat} {v : Value} {d : DataW H} {p : List MemPlace}
theorem cells_run {n0 : Nat} {l : List Value} {y0 : DataW H × List MemPlace} (hf : DataW.trod enc Tryz.prog W 0 (fun _ => true) true n0 90 l = some y0) : ∃ x, RunE.rel W W.heap.size l x := by
  obtain ⟨hl, n, hg⟩ := field_of Tryz.underlying90 hf
  have hl' : l.length = 2 := hl.trans (by kernel_rfl)
  match l, hl' with
  | [c0, c1], _ =>
    obtain ⟨y0, h0⟩ := hg 0 3 0 1 rfl (by kernel_rfl)
    have h0' : DataW.trod enc Tryz.prog W 0 (fun _ => true) true n 3 [c0] = some y0 := h0
    obtain ⟨z0, e0, _, q0⟩ := DataW.trod_int Tryz.underlying3 h0'
    obtain ⟨y1, h1⟩ := hg 1 32 1 1 rfl (by kernel_rfl)
    have h1' : DataW.trod enc Tryz.prog W 0 (fun _ => true) true n 32 [c1] = some y1 := h1
    obtain ⟨A1, n1, k1, z1, e1, q1⟩ := bytes_of Tryz.underlying32 Tryz.underlying5 (by kernel_rfl) h1'
    simp only [List.cons.injEq, and_true] at e0 e1
    subst e0 e1
    exact ⟨⟨z0, z1⟩, A1, n1, k1, rfl, q1, in64 q0⟩
theorem cells_patch {n0 : Nat} {l : List Value} {y0 : DataW H × List MemPlace} (hf : DataW.trod enc Tryz.prog W 0 (fun _ => true) true n0 68 l = some y0) : ∃ x, PatchE.rel W W.heap.size l x := by
  obtain ⟨hl, n, hg⟩ := field_of Tryz.underlying68 hf
  have hl' : l.length = 3 := hl.trans (by kernel_rfl)
  match l, hl' with
  | [c0, c1, c2], _ =>
    obtain ⟨y0, h0⟩ := hg 0 3 0 1 rfl (by kernel_rfl)
    have h0' : DataW.trod enc Tryz.prog W 0 (fun _ => true) true n 3 [c0] = some y0 := h0
    obtain ⟨z0, e0, _, q0⟩ := DataW.trod_int Tryz.underlying3 h0'
    obtain ⟨y1, h1⟩ := hg 1 4 1 1 rfl (by kernel_rfl)
    have h1' : DataW.trod enc Tryz.prog W 0 (fun _ => true) true n 4 [c1] = some y1 := h1
    obtain ⟨z1, e1⟩ := bool_of Tryz.underlying4 h1'
    obtain ⟨y2, h2⟩ := hg 2 66 2 1 rfl (by kernel_rfl)
    have h2' : DataW.trod enc Tryz.prog W 0 (fun _ => true) true n 66 [c2] = some y2 := h2
    obtain ⟨A2, n2, k2, z2, e2, q2⟩ := elems_of RunE Tryz.underlying66 (by kernel_rfl) (fun _ _ _ hq => cells_run hq) h2'
    simp only [List.cons.injEq, and_true] at e0 e1 e2
    subst e0 e1 e2
    exact ⟨⟨z0, z1, z2⟩, A2, n2, k2, rfl, q2, in64 q0⟩
theorem cells_rec {n0 : Nat} {l : List Value} {y0 : DataW H × List MemPlace} (hf : DataW.trod enc Tryz.prog W 0 (fun _ => true) true n0 40 l = some y0) : ∃ x, RecE.rel W W.heap.size l x := by
  obtain ⟨hl, n, hg⟩ := field_of Tryz.underlying40 hf
  have hl' : l.length = 15 := hl.trans (by kernel_rfl)
  match l, hl' with
  | [c0, c1, c2, c3, c4, c5, c6, c7, c8, c9, c10, c11, c12, c13, c14], _ =>
    obtain ⟨y0, h0⟩ := hg 0 3 0 1 rfl (by kernel_rfl)
    have h0' : DataW.trod enc Tryz.prog W 0 (fun _ => true) true n 3 [c0] = some y0 := h0
    obtain ⟨z0, e0, _, q0⟩ := DataW.trod_int Tryz.underlying3 h0'
    obtain ⟨y1, h1⟩ := hg 1 3 1 1 rfl (by kernel_rfl)
    have h1' : DataW.trod enc Tryz.prog W 0 (fun _ => true) true n 3 [c1] = some y1 := h1
    obtain ⟨z1, e1, _, q1⟩ := DataW.trod_int Tryz.underlying3 h1'
    obtain ⟨y2, h2⟩ := hg 2 3 2 1 rfl (by kernel_rfl)
    have h2' : DataW.trod enc Tryz.prog W 0 (fun _ => true) true n 3 [c2] = some y2 := h2
    obtain ⟨z2, e2, _, q2⟩ := DataW.trod_int Tryz.underlying3 h2'
    obtain ⟨y3, h3⟩ := hg 3 3 3 1 rfl (by kernel_rfl)
    have h3' : DataW.trod enc Tryz.prog W 0 (fun _ => true) true n 3 [c3] = some y3 := h3
    obtain ⟨z3, e3, _, q3⟩ := DataW.trod_int Tryz.underlying3 h3'
    obtain ⟨y4, h4⟩ := hg 4 31 4 1 rfl (by kernel_rfl)
    have h4' : DataW.trod enc Tryz.prog W 0 (fun _ => true) true n 31 [c4] = some y4 := h4
    obtain ⟨A4, n4, k4, z4, e4, q4⟩ := elems_of PatchE Tryz.underlying31 (by kernel_rfl) (fun _ _ _ hq => cells_patch hq) h4'
    obtain ⟨w5, g5⟩ := hg 5 38 5 10 rfl (by kernel_rfl)
    have g5' : DataW.trod enc Tryz.prog W 0 (fun _ => true) true n 38 [c5, c6, c7, c8, c9, c10, c11, c12, c13, c14] = some w5 := g5
    obtain ⟨_, m5, hg5⟩ := field_of Tryz.underlying38 g5'
    obtain ⟨y5, h5⟩ := hg5 0 3 0 1 rfl (by kernel_rfl)
    have h5' : DataW.trod enc Tryz.prog W 0 (fun _ => true) true m5 3 [c5] = some y5 := h5
    obtain ⟨z5, e5, _, q5⟩ := DataW.trod_int Tryz.underlying3 h5'
    obtain ⟨y6, h6⟩ := hg5 1 9 1 1 rfl (by kernel_rfl)
    have h6' : DataW.trod enc Tryz.prog W 0 (fun _ => true) true m5 9 [c6] = some y6 := h6
    obtain ⟨z6, e6, _, q6⟩ := DataW.trod_string Tryz.underlying9 h6'
    obtain ⟨w7, g7⟩ := hg5 2 36 2 7 rfl (by kernel_rfl)
    have g7' : DataW.trod enc Tryz.prog W 0 (fun _ => true) true m5 36 [c7, c8, c9, c10, c11, c12, c13] = some w7 := g7
    obtain ⟨_, m7, hg7⟩ := field_of Tryz.underlying36 g7'
    obtain ⟨y7, h7⟩ := hg7 0 3 0 1 rfl (by kernel_rfl)
    have h7' : DataW.trod enc Tryz.prog W 0 (fun _ => true) true m7 3 [c7] = some y7 := h7
    obtain ⟨z7, e7, _, q7⟩ := DataW.trod_int Tryz.underlying3 h7'
    obtain ⟨y8, h8⟩ := hg7 1 9 1 1 rfl (by kernel_rfl)
    have h8' : DataW.trod enc Tryz.prog W 0 (fun _ => true) true m7 9 [c8] = some y8 := h8
    obtain ⟨z8, e8, _, q8⟩ := DataW.trod_string Tryz.underlying9 h8'
    obtain ⟨w9, g9⟩ := hg7 2 34 2 5 rfl (by kernel_rfl)
    have g9' : DataW.trod enc Tryz.prog W 0 (fun _ => true) true m7 34 [c9, c10, c11, c12, c13] = some w9 := g9
    obtain ⟨_, m9, hg9⟩ := field_of Tryz.underlying34 g9'
    obtain ⟨y9, h9⟩ := hg9 0 3 0 1 rfl (by kernel_rfl)
    have h9' : DataW.trod enc Tryz.prog W 0 (fun _ => true) true m9 3 [c9] = some y9 := h9
    obtain ⟨z9, e9, _, q9⟩ := DataW.trod_int Tryz.underlying3 h9'
    obtain ⟨y10, h10⟩ := hg9 1 32 1 1 rfl (by kernel_rfl)
    have h10' : DataW.trod enc Tryz.prog W 0 (fun _ => true) true m9 32 [c10] = some y10 := h10
    obtain ⟨A10, n10, k10, z10, e10, q10⟩ := bytes_of Tryz.underlying32 Tryz.underlying5 (by kernel_rfl) h10'
    obtain ⟨y11, h11⟩ := hg9 2 3 2 1 rfl (by kernel_rfl)
    have h11' : DataW.trod enc Tryz.prog W 0 (fun _ => true) true m9 3 [c11] = some y11 := h11
    obtain ⟨z11, e11, _, q11⟩ := DataW.trod_int Tryz.underlying3 h11'
    obtain ⟨y12, h12⟩ := hg9 3 3 3 1 rfl (by kernel_rfl)
    have h12' : DataW.trod enc Tryz.prog W 0 (fun _ => true) true m9 3 [c12] = some y12 := h12
    obtain ⟨z12, e12, _, q12⟩ := DataW.trod_int Tryz.underlying3 h12'
    obtain ⟨y13, h13⟩ := hg9 4 3 4 1 rfl (by kernel_rfl)
    have h13' : DataW.trod enc Tryz.prog W 0 (fun _ => true) true m9 3 [c13] = some y13 := h13
    obtain ⟨z13, e13, _, q13⟩ := DataW.trod_int Tryz.underlying3 h13'
    obtain ⟨y14, h14⟩ := hg5 3 3 9 1 rfl (by kernel_rfl)
    have h14' : DataW.trod enc Tryz.prog W 0 (fun _ => true) true m5 3 [c14] = some y14 := h14
    obtain ⟨z14, e14, _, q14⟩ := DataW.trod_int Tryz.underlying3 h14'
    simp only [List.cons.injEq, and_true] at e0 e1 e2 e3 e4 e5 e6 e7 e8 e9 e10 e11 e12 e13 e14
    subst e0 e1 e2 e3 e4 e5 e6 e7 e8 e9 e10 e11 e12 e13 e14
    exact ⟨⟨z0, z1, z2, z3, z4, ⟨z5, z6, ⟨z7, z8, ⟨z9, z10, z11, z12, z13⟩⟩, z14⟩⟩, A4, n4, k4, A10, n10, k10, rfl, q4, q10, ⟨q6, q8⟩, ⟨in64 q7, in64 q9, in64 q11, in64 q12, in64 q13⟩, in64 q5, in64 q14, in64 q0, in64 q1, in64 q2, in64 q3⟩
theorem open_recs (hv : Value.okWide Tryz.prog W .any base 22 v) (h : DataW.Trod enc Tryz.prog W 0 (fun _ => true) true 22 v d p) : ∃ l, RRecs W W.heap.size v l := by
  obtain ⟨a, len, cap, rfl⟩ := okWide_slice Tryz.underlying22 hv
  obtain ⟨fuel, hf⟩ := h
  obtain ⟨A, n, c, l, e, hb⟩ := elems_of RecE Tryz.underlying22 (by kernel_rfl) (fun _ _ _ hq => cells_rec hq) hf
  refine ⟨l, A, n, c, ?_, hb⟩
  simpa [Value.cells] using e
end
end Go.Proofs.YtpdfnlhhnodnjaaGreat
end
section
namespace Go.Proofs.YtpdfnlhhnodnjaaGreat.WalW
open Go.RowKit RecW
set_option linter.unusedVariables false
set_option linter.unusedSimpArgs false
set_option maxRecDepth 100000 in
set_option maxHeartbeats 1000000 in
theorem records_any (A : Option Addr) (n c : Nat) (w : World) : Calls Tryz.prog 16 #[.slice A n c] w fun e w' => e = .returned (.func (.func 33) #[] #[.pointer (some ⟨w.heap.size, 0, none⟩)]) ∧ w.alloc (.cells #[.slice A n c] 32) = w' := by
  go_enter Tryz.func16, Tryz.ntmps16
  go_wp2
  go_ret
  exact ⟨rfl, rfl⟩
end Go.Proofs.YtpdfnlhhnodnjaaGreat.WalW
end
section
namespace Go.Proofs.YtpdfnlhhnodnjaaGreat.WalW
open Go.RowKit RecW
set_option linter.unusedVariables false
set_option linter.unusedSimpArgs false
attribute [local go_sem] Oper.semAt_some
attribute [local go_sem ↓] cut_fold
/-- what a round must keep: the iterator's box, its bytes -/
def KpR (g : Nat) (gs : List Nat) (W W' : World) : Prop := W'.heap[g]? = W.heap[g]? ∧ ∀ b ∈ gs, W'.heap[b]? = W.heap[b]?
theorem KpR.trans {g : Nat} {gs : List Nat} {a b c : World} (h : KpR g gs a b) (k : KpR g gs b c) : KpR g gs a c := ⟨k.1.trans h.1, fun d e => (k.2 d e).trans (h.2 d e)⟩
theorem Str.kp {w w' : World} {b : Nat} {cs : Array Value} (h : Str w b cs) (k : w'.heap[b]? = w.heap[b]?) : Str w' b cs := by
  obtain ⟨t, h⟩ := h
  exact ⟨t, k.trans h⟩
theorem Bytes.kp {w w' : World} {n c : Nat} {A : Option Addr} {l : List UInt8} (h : Bytes w w.heap.size A n c l) (k : 0 < n → ∀ b o, A = some ⟨b, o, none⟩ → b < w.heap.size → w'.heap[b]? = w.heap[b]?) : Bytes w' w'.heap.size A n c l := by
  obtain ⟨h1, h2, h3, h4⟩ := h
  refine ⟨h1, h2, h3, fun hn => ?_⟩
  obtain ⟨b, o, e, hb, hc⟩ := h4 hn
  have hk := k hn b o e hb
  refine ⟨b, o, e, ?_, fun j u hu => (World.cell?_of_block (a := ⟨b, o + j, none⟩) hk).trans (hc j u hu)⟩
  rw [Array.getElem?_eq_getElem hb] at hk
  exact (Array.getElem?_eq_some_iff.1 hk).1
/-- bytes whose block is new -/
theorem Bytes.high {w : World} {B N n c : Nat} {A : Option Addr} {l : List UInt8} (h : Bytes w B A n c l) (hA : ∀ a, A = some a → N ≤ a.block) : Bytes (above N w) B A n c l := by
  obtain ⟨h1, h2, h3, h4⟩ := h
  refine ⟨h1, h2, h3, fun hn => ?_⟩
  obtain ⟨b, o, e, hb, hc⟩ := h4 hn
  exact ⟨b, o, e, hb, fun j u hu => (above_out N w ⟨b, o + j, none⟩ (show N ≤ b from hA ⟨b, o, none⟩ e)).trans (hc j u hu)⟩
/-- what is told of a record that is handed out -/
def EyR (K : List RecX) (j : Nat) (pre : List (Int × Array Value)) (x : Int × Array Value) (W0 W1 : World) : Prop := ∃ y, K[pre.length]? = some y ∧ pre.length < j ∧ x.1 = ((RecP.bytes y).length : Nat) ∧ W0.heap.size ≤ W1.heap.size ∧ RecE.rel (above W0.heap.size W1) W1.heap.size x.2.toList y
/-- how long a slice in a box is -/
def lenAt (g : Nat) (w : World) : Nat := match w.cell? ⟨g, 0, none⟩ with
  | some (.slice _ n _) => n
  | _ => 0
theorem lenAt_of {g n c : Nat} {A : Option Addr} {w : World} (h : Str w g #[.slice A n c]) : lenAt g w = n := by
  unfold lenAt
  rw [h.cell 0]
  rfl
/-- what the iterator's rounds keep -/
structure RI (K : List RecX) (cut g0 : Nat) (gs : List Nat) (J : List (Int × Array Value) → World → Prop) (wr : World) (k : Nat) (pre : List (Int × Array Value)) (Ak : Option Addr) (nk ck : Nat) : Prop where
  len : pre.length = k
  box : Str wr g0 #[.slice Ak nk ck]
  by_ : Bytes wr wr.heap.size Ak nk ck (RowsP.rest K cut k)
  in_ : 0 < nk → ∀ a, Ak = some a → a.block ∈ gs
  ne : ∀ b ∈ gs, b ≠ g0
  inv : J pre wr
set_option maxRecDepth 100000 in
set_option maxHeartbeats 4000000 in
theorem records1_in (n0 : Nat) (hn0 : 1 ≤ n0) (ly g0 n c : Nat) (A : Option Addr) (gs : List Nat) (K : List RecX) (cut j : Nat) (J : List (Int × Array Value) → World → Prop) (hj : RowsP.Whole K cut j) (hK : ∀ x ∈ K, RecP.fits x = true ∧ RecIn x)
    (hY : ∀ pre x W0 W1, J pre W0 → W0.grownBy W1 (some g0) → EyR K j pre x W0 W1 → YieldAt Fence.wide (n0 - 1) Tryz.prog ly #[.int .i64 x.1, .agg x.2] W1 fun e W' => e = .returned (.bool true) ∧ J (pre ++ [x]) W' ∧ KpR g0 gs W1 W')
    (hD : ∀ pre B C, J pre B → B.grownBy C (some g0) → J pre C) (W : World) (hb : Str W g0 #[.slice A n c]) (hy : Bytes W W.heap.size A n c ((RowsP.allB K).take cut)) (hA : 0 < n → ∀ a, A = some a → a.block ∈ gs) (hg : ∀ b ∈ gs, b ≠ g0) (h0 : J [] W) :
    CallsIn Fence.wide n0 Tryz.prog 33 #[.func (.yield ly) #[] #[], .pointer (some ⟨g0, 0, none⟩)] W fun e W' => (∃ v, e = .returned v) ∧ ∃ xs, xs.length = j ∧ J xs W' := by
  have HY := Lib.hid hY
  have HD := Lib.hid hD
  have HJ := Lib.hid hj
  have HK := Lib.hid hK
  have H0 : Hid (RI K cut g0 gs J W 0 [] A n c) := Lib.hid ⟨rfl, hb, by rw [RowsP.rest_zero]; exact hy, hA, hg, h0⟩
  clear hY hD hj hK hb hy h0 hA hg
  refine callsIn_of_wp Tryz.func33 rfl trivial ?_ rfl
  simp only [Tryz.ntmps33, List.size_toArray, List.length_cons, List.length_nil, Nat.reduceAdd, Nat.reduceSub, Array.replicate_succ, Array.replicate_zero, List.push_toArray, List.append_toArray, List.nil_append, List.cons_append]
  gi_wp2
  gi_loopw [5] (fun _ wr => ∃ (k : Nat) (pre : List (Int × Array Value)) (Ak : Option Addr) (nk ck : Nat), k ≤ j ∧ Hid (RI K cut g0 gs J wr k pre Ak nk ck)) (fun _ wr => lenAt g0 wr)
  case atStart => exact ⟨0, [], A, n, c, Nat.zero_le _, H0⟩
  case round =>
    obtain ⟨k, pre, Ak, nk, ck, hk, HR⟩ := hrel
    clear H0
    have hbx := HR.out.box.cell 0
    have hbl := HR.out.box.lt
    by_cases hlt : k < j
    · obtain ⟨y, hy⟩ : ∃ y, K[k]? = some y := ⟨_, List.getElem?_eq_getElem (Nat.lt_of_lt_of_le hlt HJ.out.1)⟩
      obtain ⟨hF, hIn⟩ := HK.out y (List.mem_of_getElem? hy)
      have HYK := Lib.hid hy
      obtain ⟨post, hp1, hp2⟩ := RowsP.rest_whole HJ.out hlt hy
      have hby := HR.out.by_
      rw [hp1] at hby
      have HBY := Lib.hid hby
      have HP2 := Lib.hid hp2
      have hbl2 := (RowsP.fits_small hF)
      obtain ⟨kd, tx, pv, nx, l0, ⟨pact, puk, ⟨pst, pk, ⟨pkd, pda, plo, phi, pva⟩⟩, pun⟩⟩ := y
      have HF := Lib.hid hF
      have HIN := Lib.hid hIn
      have hln := hby.len
      have hnc := hby.2.1
      have hcm := hby.2.2.1
      unfold maxLen at hcm
      rw [List.length_append] at hln
      obtain ⟨R, hR⟩ : ∃ R, l0.length = R := ⟨_, rfl⟩
      obtain ⟨sz, hsz⟩ : ∃ s, (RecP.bytes ⟨kd, tx, pv, nx, l0, ⟨pact, puk, ⟨pst, pk, ⟨pkd, pda, plo, phi, pva⟩⟩, pun⟩⟩).length = s := ⟨_, rfl⟩
      have HSZ := Lib.hid hsz
      rw [hsz] at hbl2 hln
      have hcut := hby.cut sz nk ck (by omega) (Nat.le_refl _) (by omega) (Nat.le_refl _)
      rw [List.drop_left' hsz, List.take_of_length_le (by omega)] at hcut
      have HCUT := Lib.hid hcut
      have hszn : (sz : Int) ≤ (nk : Int) := by omega
      have hnkc : (nk : Int) ≤ (ck : Int) := by omega
      have HRL := Lib.hid hR
      clear hy hp1 hp2 hby hF hIn hsz hcut hR
      gi_wp2_with fail
      refine ⟨trivial, ?_⟩
      refine (callsIn_wide.2 (get_high kd tx pv nx l0 pact puk pst pk pkd pda plo phi pva pun post Ak nk ck wr.heap.size wr HF.out HIN.out.2.2.2.1 HIN.out.2.1 HIN.out.1.2 HIN.out.1.1 HBY.out (Nat.le_refl _))).mono ?_
      rintro e W3 ⟨A2, c2, Ap, np, cp, rfl, hE3, ⟨hy3, hn3⟩, hb3⟩
      rw [HRL.out] at hE3 ⊢
      rw [HSZ.out]
      have hw3 := hb3.size
      have HX3 : Hid (Elems PatchE (above wr.heap.size W3) W3.heap.size A2 R c2 l0 ∧ Bytes (above wr.heap.size W3) W3.heap.size Ap np cp pda ∧ Below wr.heap.size wr W3) := Lib.hid ⟨hE3, Bytes.high hy3 hn3, hb3⟩
      clear hE3 hy3 hn3 hb3
      obtain ⟨W4, hW4⟩ : ∃ W, W3.alloc (.cells #[.int .i64 0, .int .i64 0, .int .i64 0, .int .i64 0, .slice none 0 0, .int .i64 0, .string ⟨#[]⟩, .int .i64 0, .string ⟨#[]⟩, .int .i64 0, .slice none 0 0, .int .i64 0, .int .i64 0, .int .i64 0, .int .i64 0] 40) = W := ⟨_, rfl⟩
      obtain ⟨HS4, HB4, hw4, hz4⟩ := new1 hW4
      have hl4 := HS4.out.lt
      have g4 := str15 HS4.out
      have gf := fun j => HS4.out.frozen j
      obtain ⟨W8, hW8⟩ : ∃ W, (((((((((((((((W4).setCell ⟨W3.heap.size, 0, none⟩ (.int .i64 kd)).setCell ⟨W3.heap.size, 1, none⟩ (.int .i64 tx)).setCell ⟨W3.heap.size, 2, none⟩ (.int .i64 pv)).setCell ⟨W3.heap.size, 3, none⟩ (.int .i64 nx)).setCell ⟨W3.heap.size, 4, none⟩ (.slice A2 R c2)).setCell ⟨W3.heap.size, 5, none⟩ (.int .i64 pact)).setCell ⟨W3.heap.size, 6, none⟩ (.string puk)).setCell ⟨W3.heap.size, 7, none⟩ (.int .i64 pst)).setCell ⟨W3.heap.size, 8, none⟩ (.string pk)).setCell ⟨W3.heap.size, 9, none⟩ (.int .i64 pkd)).setCell ⟨W3.heap.size, 10, none⟩ (.slice Ap np cp)).setCell ⟨W3.heap.size, 11, none⟩ (.int .i64 plo)).setCell ⟨W3.heap.size, 12, none⟩ (.int .i64 phi)).setCell ⟨W3.heap.size, 13, none⟩ (.int .i64 pva)).setCell ⟨W3.heap.size, 14, none⟩ (.int .i64 pun) = W := ⟨_, rfl⟩
      have hg8 : W4.grownBy W8 (some W3.heap.size) := by rw [← hW8]; exact grown_set (grown_set (grown_set (grown_set (grown_set (grown_set (grown_set (grown_set (grown_set (grown_set (grown_set (grown_set (grown_set (grown_set (grown_set (grown_refl W4 _) 0 _) 1 _) 2 _) 3 _) 4 _) 5 _) 6 _) 7 _) 8 _) 9 _) 10 _) 11 _) 12 _) 13 _) 14 _
      have hS8 : Str W8 W3.heap.size #[.int .i64 kd, .int .i64 tx, .int .i64 pv, .int .i64 nx, .slice A2 R c2, .int .i64 pact, .string puk, .int .i64 pst, .string pk, .int .i64 pkd, .slice Ap np cp, .int .i64 plo, .int .i64 phi, .int .i64 pva, .int .i64 pun] := by
        have := (((((((((((((((HS4.out).set 0 (.int .i64 kd)).set 1 (.int .i64 tx)).set 2 (.int .i64 pv)).set 3 (.int .i64 nx)).set 4 (.slice A2 R c2)).set 5 (.int .i64 pact)).set 6 (.string puk)).set 7 (.int .i64 pst)).set 8 (.string pk)).set 9 (.int .i64 pkd)).set 10 (.slice Ap np cp)).set 11 (.int .i64 plo)).set 12 (.int .i64 phi)).set 13 (.int .i64 pva)).set 14 (.int .i64 pun)
        rw [← hW8]; simpa using this
      have hb8 : Below W3.heap.size W3 W8 := below_grown HB4.out hg8 (Nat.le_refl _)
      have hb08 := bstep HX3.out.2.2 hb8
      have hgr : wr.grownBy W8 (some g0) := grown_below hb08 _
      have HX8 : Hid (EyR K j pre ((sz : Int), #[.int .i64 kd, .int .i64 tx, .int .i64 pv, .int .i64 nx, .slice A2 R c2, .int .i64 pact, .string puk, .int .i64 pst, .string pk, .int .i64 pkd, .slice Ap np cp, .int .i64 plo, .int .i64 phi, .int .i64 pva, .int .i64 pun]) wr W8) := Lib.hid ⟨_, by rw [HR.out.len]; exact HYK.out, by rw [HR.out.len]; exact hlt, by rw [HSZ.out], hb08.size, A2, R, c2, Ap, np, cp, rfl, (HX3.out.1.sub (above_sub (sub_below hb8))).more hb8.size, (HX3.out.2.1.sub (above_sub (sub_below hb8))).more hb8.size, HIN.out⟩
      have g8 := str15 hS8
      have hl8 := hS8.lt
      have HB8 := Lib.hid hb08
      obtain ⟨fn, tmps, assign, body, hy1, hR⟩ := HY.out pre ((sz : Int), #[.int .i64 kd, .int .i64 tx, .int .i64 pv, .int .i64 nx, .slice A2 R c2, .int .i64 pact, .string puk, .int .i64 pst, .string pk, .int .i64 pkd, .slice Ap np cp, .int .i64 plo, .int .i64 phi, .int .i64 pva, .int .i64 pun]) wr W8 HR.out.inv hgr HX8.out
      have HRR := Lib.hid hR
      have HBX : Hid (Str W8 g0 #[.slice Ak nk ck] ∧ Bytes W8 W8.heap.size (cutA Ak sz ck 1) (nk - sz) (ck - sz) post) := Lib.hid ⟨HR.out.box.next hb08, (HCUT.out.below hb08).more hb08.size⟩
      clear hR hgr hb08 hb8 hS8 hg8 hz4 HX3 hbx hbl
      gi_wp2_with fail
      clear hy1 g4 gf g8 hl8 hl4
      refine HRR.out.mono ?_
      rintro e W9 ⟨rfl, hJ9, hk9⟩
      have hcI : 0 < nk - sz → ∀ a, cutA Ak sz ck 1 = some a → a.block ∈ gs := fun hpos a e => by
        unfold cutA at e
        split at e
        · exact HR.out.in_ (by omega) a e
        · cases hAk : Ak with
          | none => rw [hAk] at e; cases e
          | some a1 =>
            rw [hAk] at e
            simp only [Option.map_some, Option.some.injEq] at e
            have e1 := HR.out.in_ (by omega) a1 hAk
            have e2 : a.block = a1.block := by
              rw [← e]
              unfold Addr.add
              split <;> rfl
            rw [e2]; exact e1
      have hbox9 := Str.kp HBX.out.1 hk9.1
      have hby9 := Bytes.kp (w' := W9) HBX.out.2 (fun hpos b o e hb => hk9.2 b (hcI hpos _ e))
      have hg10 : W9.grownBy (W9.setCell ⟨g0, 0, none⟩ (.slice (cutA Ak sz ck 1) (nk - sz) (ck - sz))) (some g0) := grown_set (grown_refl W9 _) 0 _
      have HR10 : Hid (RI K cut g0 gs J (W9.setCell ⟨g0, 0, none⟩ (.slice (cutA Ak sz ck 1) (nk - sz) (ck - sz))) (k + 1) (pre ++ [((sz : Int), #[.int .i64 kd, .int .i64 tx, .int .i64 pv, .int .i64 nx, .slice A2 R c2, .int .i64 pact, .string puk, .int .i64 pst, .string pk, .int .i64 pkd, .slice Ap np cp, .int .i64 plo, .int .i64 phi, .int .i64 pva, .int .i64 pun])]) (cutA Ak sz ck 1) (nk - sz) (ck - sz)) := Lib.hid ⟨by rw [List.length_append, HR.out.len]; rfl, by have := hbox9.set 0 (.slice (cutA Ak sz ck 1) (nk - sz) (ck - sz)); simpa using this, by
        rw [HP2.out]
        exact Bytes.kp hby9 (fun hpos b o e hb => hg10.block _ hb (fun e2 => by injection e2 with e2; exact HR.out.ne b (hcI hpos _ e) e2)), hcI, HR.out.ne, HD.out _ _ _ hJ9 hg10⟩
      have hbc := hbox9.cell 0
      have hbf := hbox9.frozen 0
      have hbl := hbox9.lt
      have hsn : ((sz : Nat) : Int).toNat = sz := rfl
      have HLN : Hid (lenAt g0 (W9.setCell ⟨g0, 0, none⟩ (.slice (cutA Ak sz ck 1) (nk - sz) (ck - sz))) < lenAt g0 wr) := Lib.hid (by rw [lenAt_of HR10.out.box, lenAt_of HR.out.box]; omega)
      clear hbox9 hby9 hg10 hJ9 hk9 hcI HRR HBX HCUT
      gi_wp2_with fail
      go_roundw
      case rel => exact ⟨k + 1, _, _, _, _, by omega, HR10⟩
      case measure => exact HLN.out
    · have hkj : k = j := by omega
      subst hkj
      have hl := RowsP.rest_last HJ.out
      have hby := HR.out.by_
      rw [hby.len] at hl
      have HBY := Lib.hid hby
      have HL := Lib.hid hl
      clear hl hby
      gi_wp2_with fail
      refine ⟨trivial, ?_⟩
      refine (callsIn_wide.2 (get_short _ Ak nk ck wr.heap.size wr HBY.out (Nat.le_refl _) HL.out)).mono ?_
      rintro e W3 ⟨rfl, hb3⟩
      have HB3 := Lib.hid hb3
      clear hb3
      obtain ⟨W4, hW4⟩ : ∃ W, W3.alloc (.cells #[.int .i64 0, .int .i64 0, .int .i64 0, .int .i64 0, .slice none 0 0, .int .i64 0, .string ⟨#[]⟩, .int .i64 0, .string ⟨#[]⟩, .int .i64 0, .slice none 0 0, .int .i64 0, .int .i64 0, .int .i64 0, .int .i64 0] 40) = W := ⟨_, rfl⟩
      obtain ⟨HS4, HB4, hw4, hz4⟩ := new1 hW4
      have hl4 := HS4.out.lt
      have g4 := str15 HS4.out
      have gf := fun j => HS4.out.frozen j
      obtain ⟨W8, hW8⟩ : ∃ W, (((((((((((((((W4).setCell ⟨W3.heap.size, 0, none⟩ (.int .i64 0)).setCell ⟨W3.heap.size, 1, none⟩ (.int .i64 0)).setCell ⟨W3.heap.size, 2, none⟩ (.int .i64 0)).setCell ⟨W3.heap.size, 3, none⟩ (.int .i64 0)).setCell ⟨W3.heap.size, 4, none⟩ (.slice none 0 0)).setCell ⟨W3.heap.size, 5, none⟩ (.int .i64 0)).setCell ⟨W3.heap.size, 6, none⟩ (.string ⟨#[]⟩)).setCell ⟨W3.heap.size, 7, none⟩ (.int .i64 0)).setCell ⟨W3.heap.size, 8, none⟩ (.string ⟨#[]⟩)).setCell ⟨W3.heap.size, 9, none⟩ (.int .i64 0)).setCell ⟨W3.heap.size, 10, none⟩ (.slice none 0 0)).setCell ⟨W3.heap.size, 11, none⟩ (.int .i64 0)).setCell ⟨W3.heap.size, 12, none⟩ (.int .i64 0)).setCell ⟨W3.heap.size, 13, none⟩ (.int .i64 0)).setCell ⟨W3.heap.size, 14, none⟩ (.int .i64 0) = W := ⟨_, rfl⟩
      have hg8 : W4.grownBy W8 (some W3.heap.size) := by rw [← hW8]; exact grown_set (grown_set (grown_set (grown_set (grown_set (grown_set (grown_set (grown_set (grown_set (grown_set (grown_set (grown_set (grown_set (grown_set (grown_set (grown_refl W4 _) 0 _) 1 _) 2 _) 3 _) 4 _) 5 _) 6 _) 7 _) 8 _) 9 _) 10 _) 11 _) 12 _) 13 _) 14 _
      have HJ8 : Hid (J pre W8) := Lib.hid (HD.out _ _ _ HR.out.inv (grown_below (bstep HB3.out (below_grown HB4.out hg8 (Nat.le_refl _))) _))
      clear hg8 hz4
      gi_wp2_with fail
      refine ⟨(fun _ e => by cases e), ?_⟩
      gi_wp2_with fail
      refine bodyPost_ret (results_none rfl _ _ _) rfl ?_
      exact ⟨⟨_, rfl⟩, pre, HR.out.len, HJ8.out⟩
theorem records_seqT (n0 : Nat) (hn0 : 1 ≤ n0) (g0 n c : Nat) (A : Option Addr) (gs : List Nat) (K : List RecX) (cut j : Nat) (hj : RowsP.Whole K cut j) (hK : ∀ x ∈ K, RecP.fits x = true ∧ RecIn x) (w : World) (hb : Str w g0 #[.slice A n c]) (hy : Bytes w w.heap.size A n c ((RowsP.allB K).take cut)) (hA : 0 < n → ∀ a, A = some a → a.block ∈ gs) (hg : ∀ b ∈ gs, b ≠ g0) :
    SeqT Fence.wide n0 Tryz.prog 33 #[.pointer (some ⟨g0, 0, none⟩)] (fun x : Int × Array Value => #[.int .i64 x.1, .agg x.2]) (fun B C => B.grownBy C (some g0)) (EyR K j) (KpR g0 gs) (fun xs => xs.length = j) w := by
  intro ly J W hW hD hY h0
  rw [show #[Value.func (.yield ly) #[] #[]] ++ #[Value.pointer (some ⟨g0, 0, none⟩)] = #[Value.func (.yield ly) #[] #[], Value.pointer (some ⟨g0, 0, none⟩)] from rfl]
  exact records1_in n0 hn0 ly g0 n c A gs K cut j J hj hK hY hD W (hb.next hW) (hy.next hW) hA hg h0
end Go.Proofs.YtpdfnlhhnodnjaaGreat.WalW
end
section
namespace Go.Proofs.YtpdfnlhhnodnjaaGreat
open Go.RowKit
set_option linter.unusedVariables false
/-- a page in a row -/
def PageE : El (List UInt8) where
  size := 512
  pos := by decide
  rel w B vs x := vs = x.map byteV ∧ x.length = 512
  len := by rintro w B vs p ⟨rfl, h⟩; simpa using h
  one := by rintro w B vs p ⟨rfl, _⟩ v hv; exact byteV_one p v hv
  sub := by rintro w w' B vs p hs h; exact h
  more := by rintro w B B' vs p hB h; exact h
/-- a row of pages in block g -/
abbrev Pgs (T : TypeId) (w : World) (g n c : Nat) (ps : List (List UInt8)) : Prop := OwnE PageE T w 0 (some ⟨g, 0, none⟩) n c ps
theorem pageE_rel {w w' : World} {B B' : Nat} {vs : List (List Value)} {ps : List (List UInt8)} (h : Rel2 (PageE.rel w B) vs ps) : Rel2 (PageE.rel w' B') vs ps := h.imp fun _ _ hq => hq
section
variable {T : TypeId} {w w' : World} {g n c k : Nat} {ps : List (List UInt8)} {p : List UInt8}
theorem Pgs.blk (h : Pgs T w g n c ps) : ∃ cur vs, w.heap[g]? = some (.cells cur T (0, 0)) ∧ n ≤ c ∧ c ≤ maxLen ∧ cur.size = c * 512 ∧ cur.toList.take (n * 512) = vs.flatten ∧ Rel2 (PageE.rel w 0) vs ps := by
  obtain ⟨vs, h1, h2⟩ := h
  rcases h1.2 with ⟨e, h0⟩ | ⟨g', cap, cur, e, hg, hh, hnc, hm, hc, hx⟩
  · cases e
  · cases e
    exact ⟨cur, vs, hh, hnc, hm, hc, hx, pageE_rel h2⟩
theorem Pgs.lt (h : Pgs T w g n c ps) : g < w.heap.size := by
  obtain ⟨cur, vs, hh, -⟩ := h.blk
  exact (Array.getElem?_eq_some_iff.1 hh).1
theorem Pgs.le (h : Pgs T w g n c ps) : n ≤ c := by
  obtain ⟨cur, vs, hh, hn, -⟩ := h.blk
  exact hn
theorem Pgs.at_ (h : Pgs T w g n c ps) (hb : w'.heap[g]? = w.heap[g]?) : Pgs T w' g n c ps := by
  obtain ⟨vs, h1, h2⟩ := h
  refine ⟨vs, ⟨h1.1, ?_⟩, pageE_rel h2⟩
  rcases h1.2 with ⟨e, h0⟩ | ⟨g', cap, cur, e, hg, hh, r⟩
  · cases e
  · cases e
    exact .inr ⟨g, c, cur, rfl, hg, hb.trans hh, r⟩
theorem Pgs.wide (h : Pgs T w g n c ps) : ∀ p ∈ ps, p.length = 512 := by
  obtain ⟨cur, vs, -, -, -, -, -, hr⟩ := h.blk
  intro p hp
  obtain ⟨k, hk, rfl⟩ := List.getElem_of_mem hp
  obtain ⟨v, -, hv⟩ := hr.get (List.getElem?_eq_getElem hk)
  exact hv.2
theorem Pgs.range (h : Pgs T w g n c ps) (hk : ps[k]? = some p) : w.rangeAt g (k * 512) (p.map byteV) := by
  obtain ⟨cur, vs, hh, hnc, hm, hc, hx, hr⟩ := h.blk
  have hl := h.len
  have hkl : k < ps.length := (List.getElem?_eq_some_iff.1 hk).1
  obtain ⟨v, hv, rfl, hpl⟩ := hr.get hk
  intro j u hu
  have hj : j < 512 := by have := (List.getElem?_eq_some_iff.1 hu).1; simpa [hpl] using this
  have h1 := flat_at (size := 512) vs (fun y hy => by obtain ⟨q, hq⟩ := hr.mem hy; exact PageE.len hq) k _ j u hv hu
  rw [cell_of_row w g _ cur T (0, 0) hh, ← Array.getElem?_toList]
  rw [← hx, List.getElem?_take_of_lt (by have : (k + 1) * 512 ≤ n * 512 := Nat.mul_le_mul_right _ (by omega); omega)] at h1
  exact h1
theorem Pgs.store (h : Pgs T w g n c ps) (hk : k < n) (hp : p.length = 512) :
    ∃ w1, (stSem 75 (.pointer (some ⟨g, k * 512, none⟩)) (.agg (rowV p))).run Tryz.prog w = .ok () w1 ∧ Pgs T w1 g n c (ps.set k p) ∧ w.grownBy w1 (some g) ∧ w1.heap.size = w.heap.size := by
  obtain ⟨g', w1, e, -, -, hr, hO, hg, hz⟩ := OwnE.write (P := Tryz.prog) h (j := k) (i := 0) (s := p.map byteV) (x := p) hk (by show 0 + _ ≤ 512; simp [hp]) (byteV_one p) (fun g vs _ hq => by
    have hl : k < ps.length := by rw [h.len]; exact hk
    obtain ⟨rfl, h2⟩ := hq _ (List.getElem?_eq_getElem hl)
    refine ⟨?_, hp⟩
    unfold overV
    simp [h2, hp])
  cases e
  refine ⟨w1, ?_, hO, hg, hz⟩
  have hsz : (Tryz.prog.info? 75).map (·.size) = some 512 := arrPage.size
  cases hq : Tryz.prog.info? 75 with
  | none => simp [hq] at hsz
  | some i =>
    have hs : i.size = 512 := by simpa [hq] using hsz
    have hr' : (storeCells ⟨g, k * 512, none⟩ (p.map byteV)).run Tryz.prog w = .ok () w1 := by simpa [PageE] using hr
    simp [stSem, Instr.storeAt, Instr.sureAddr, storeVar, sizeOf, typeInfo, hq, Value.cells, hs, rowV, hp, hr']
end
/-! ### a box that holds a page in its middle -/
def jobC (d : Nat) (n : Int) (l : List UInt8) (s : Value) : Array Value := (([Value.pointer (some ⟨d, 0, none⟩), Value.int .i64 n] : List Value) ++ l.map byteV ++ [s]).toArray
section
variable {w w' : World} {j d : Nat} {n : Int} {l p : List UInt8} {s : Value}
theorem jobC_size (hl : l.length = 512) : (jobC d n l s).size = 515 := by simp [jobC, hl]
theorem jobC_0 : (jobC d n l s)[0]? = some (.pointer (some ⟨d, 0, none⟩)) := by simp [jobC]
theorem jobC_1 : (jobC d n l s)[1]? = some (.int .i64 n) := by simp [jobC]
theorem jobC_s (hl : l.length = 512) : (jobC d n l s)[514]? = some s := by
  unfold jobC
  rw [List.getElem?_toArray, List.getElem?_append_right (by simp [hl])]
  simp [hl]
theorem job3 (h : Str w j (jobC d n l s)) (hl : l.length = 512) : w.cell? ⟨j, 0, none⟩ = some (.pointer (some ⟨d, 0, none⟩)) ∧ w.cell? ⟨j, 1, none⟩ = some (.int .i64 n) ∧ w.cell? ⟨j, 514, none⟩ = some s :=
  ⟨(h.cell 0).trans jobC_0, (h.cell 1).trans jobC_1, (h.cell 514).trans (jobC_s hl)⟩
end
end Go.Proofs.YtpdfnlhhnodnjaaGreat
end
