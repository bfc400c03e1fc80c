/-
  Parts of the proof of PlanGrows.
-/
import Derived.Test.YtpklclnehlgcpaaGreatPlanG0
import Derived.Test.YtpklclnehlgcpaaGreatPlanG13
import Derived.Test.YtpklclnehlgcpaaGreatPlanG9
import Derived.Test.YtpklclnehlgcpaaGreatPlanG19
import Derived.Test.YtpklclnehlgcpaaGreatPlanG4
import Derived.Test.YtpklclnehlgcpaaGreatPlanG11
import Derived.Test.YtpklclnehlgcpaaGreatPlanG21
section
namespace Go.Proofs.YtpklclnehlgcpaaGreat
set_option linter.unusedVariables false
/-- a record -/
structure RecX where
  kind : Int
  txn : Int
  prev : Int
  next : Int
  patches : List PatchX
  undo : Undo
namespace RecP
def May (n least : Int) : Prop := least ≤ n ∧ n ≤ 281474976710656
def Nums (x : RecX) : Prop := (1 ≤ x.kind ∧ x.kind ≤ 4) ∧ May x.txn 1 ∧ May x.prev 0 ∧ May x.next 0
def Rest (x : RecX) : Prop := (x.kind ≠ 2 → x.next = 0) ∧ (x.kind ≠ 1 → x.undo.act = 0) ∧ (3 ≤ x.kind → x.patches.length = 0)
def Pats (l : List PatchX) (k : Nat) : Prop := ∀ i p, i < k → l[i]? = some p → PatchP.Right p
def Right (x : RecX) : Prop := Nums x ∧ x.patches.length ≤ 4 ∧ UndoP.right x.undo = true ∧ Pats x.patches x.patches.length ∧ Rest x
noncomputable def right (x : RecX) : Bool := @decide (Right x) (Classical.propDecidable _)
theorem right_iff (x : RecX) : right x = true ↔ Right x := by unfold right; simp
theorem right_no (x : RecX) (h : ¬ Right x) : right x = false := by unfold right; simpa using h
theorem right_yes (x : RecX) (h : Right x) : right x = true := (right_iff x).2 h
noncomputable def samePats (a b : List PatchX) : Bool := @decide (a = b) (Classical.propDecidable _)
noncomputable def same (a b : RecX) : Bool := (a.kind == b.kind) && ((a.txn == b.txn) && ((a.prev == b.prev) && ((a.next == b.next) && (samePats a.patches b.patches && UndoP.same a.undo b.undo))))
theorem take_same {l m : List PatchX} {k : Nat} {r q : PatchX} (h : l.take k = m.take k) (hr : l[k]? = some r) (hq : m[k]? = some q) (h1 : PatchP.same r q = true) : l.take (k + 1) = m.take (k + 1) := by
  obtain ⟨i1, e1⟩ := List.getElem?_eq_some_iff.1 hr
  obtain ⟨i2, e2⟩ := List.getElem?_eq_some_iff.1 hq
  rw [List.take_succ_eq_append_getElem i1, List.take_succ_eq_append_getElem i2, h, e1, e2]
  unfold PatchP.same at h1
  simp only [decide_eq_true_eq] at h1
  rw [h1]
/-- the bytes -/
noncomputable def patsB (l : List PatchX) : List UInt8 := l.flatMap PatchP.bytes
noncomputable def inner (x : RecX) : List UInt8 := BeP.parts 1 x.kind ++ (BeP.parts 8 x.txn ++ (BeP.parts 8 x.prev ++ (BeP.parts 8 x.next ++ (BeP.parts 1 (x.patches.length : Nat) ++ (patsB x.patches ++ UndoP.bytes x.undo)))))
noncomputable def body (x : RecX) : List UInt8 := BeP.parts 4 ((CrcP.sum (inner x) : Nat) : Int) ++ inner x
noncomputable def fits (x : RecX) : Bool := right x && decide ((body x).length ≤ 65535)
noncomputable def bytes (x : RecX) : List UInt8 := if fits x then BeP.parts 2 ((body x).length : Nat) ++ body x else []
theorem bytes_length (x : RecX) (h : fits x = true) : (bytes x).length = 2 + (body x).length := by
  unfold bytes
  rw [if_pos h, List.length_append, BeP.parts_length]
end RecP
end Go.Proofs.YtpklclnehlgcpaaGreat
end
section
namespace Go.Proofs.YtpklclnehlgcpaaGreat
open Go.ChangeShapes Go.WideShapes Go.ChangeAt Go.RowKit
set_option linter.unusedVariables false
set_option maxRecDepth 100000
section
variable {H : Type} {enc : TypeId × Value → H} {P : Program} {w : World}
theorem bool_of {t : TypeId} (ht : P.underlying t = some .bool) {fuel : Nat} {cs : List Value} {x : DataW H × List MemPlace} (h : DataW.trod enc P w 0 (fun _ => true) true fuel t cs = some x) : ∃ b, cs = [.bool b] := by
  obtain ⟨b, e, _⟩ := DataW.trod_bool ht h
  exact ⟨b, e⟩
end
section
variable {H : Type} {enc : TypeId × Value → H} {W : World} {base : Nat} {v : Value} {d : DataW H} {p : List MemPlace}
theorem cells_run {n0 : Nat} {l : List Value} {y0 : DataW H × List MemPlace} (hf : DataW.trod enc Tryz.prog W 0 (fun _ => true) true n0 79 l = some y0) : ∃ x, RunE.rel W W.heap.size l x := by
  obtain ⟨hl, n, hg⟩ := field_of Tryz.underlying79 hf
  have hl' : l.length = 2 := hl.trans (by kernel_rfl)
  match l, hl' with
  | [c0, c1], _ =>
    obtain ⟨y0, h0⟩ := hg 0 3 0 1 rfl (by kernel_rfl)
    have h0' : DataW.trod enc Tryz.prog W 0 (fun _ => true) true n 3 [c0] = some y0 := h0
    obtain ⟨z0, e0, _, q0⟩ := DataW.trod_int Tryz.underlying3 h0'
    obtain ⟨y1, h1⟩ := hg 1 23 1 1 rfl (by kernel_rfl)
    have h1' : DataW.trod enc Tryz.prog W 0 (fun _ => true) true n 23 [c1] = some y1 := h1
    obtain ⟨A1, n1, k1, z1, e1, q1⟩ := bytes_of Tryz.underlying23 Tryz.underlying5 (by kernel_rfl) h1'
    simp only [List.cons.injEq, and_true] at e0 e1
    subst e0 e1
    exact ⟨⟨z0, z1⟩, A1, n1, k1, rfl, q1, in64 q0⟩
end
end Go.Proofs.YtpklclnehlgcpaaGreat
end
section
namespace Go.Proofs.YtpklclnehlgcpaaGreat
open Go.ChangeShapes Go.WideShapes Go.ChangeAt Go.RowKit
set_option linter.unusedVariables false
set_option maxRecDepth 100000
def RPatch (w : World) (B : Nat) (v : Value) (x : PatchX) : Prop := ∃ A n c, v = .agg ⟨patchV x A n c⟩ ∧ Elems RunE w B A n c x.runs ∧ In64 x.page
def RU16 (w : World) (v : Value) (n : Int) : Prop := v = .int .u16 n ∧ 0 ≤ n ∧ n ≤ 65535
section
variable {H : Type} {enc : TypeId × Value → H} {W : World} {base : Nat} {v : Value} {d : DataW H} {p : List MemPlace}
theorem open_u16 (hv : Value.okWide Tryz.prog W .any base 50 v) (h : DataW.Trod enc Tryz.prog W 0 (fun _ => true) true 50 v d p) : ∃ n, RU16 W v n := by
  obtain ⟨n, rfl, _, _, hs⟩ := open_int Tryz.underlying50 hv h
  have hx : 0 ≤ n ∧ n ≤ 65535 := by simpa [Lit.wf, IntKind.min, IntKind.max, IntKind.signed, IntKind.bits] using hs
  exact ⟨n, rfl, hx⟩
theorem open_patch (hv : Value.okWide Tryz.prog W .any base 33 v) (h : DataW.Trod enc Tryz.prog W 0 (fun _ => true) true 33 v d p) : ∃ x, RPatch W W.heap.size v x := by
  obtain ⟨cs, rfl, hsz⟩ := okWide_struct Tryz.underlying33 hv
  obtain ⟨l⟩ := cs
  obtain ⟨fuel, hf⟩ := h
  obtain ⟨hl, n, hg⟩ := field_of Tryz.underlying33 hf
  have hl' : l.length = 3 := hl.trans (by kernel_rfl)
  match l, hl' with
  | [c0, c1, c2], _ =>
    obtain ⟨y0, h0⟩ := hg 0 3 0 1 rfl (by kernel_rfl)
    have h0' : DataW.trod enc Tryz.prog W 0 (fun _ => true) true n 3 [c0] = some y0 := h0
    obtain ⟨z0, e0, _, q0⟩ := DataW.trod_int Tryz.underlying3 h0'
    obtain ⟨y1, h1⟩ := hg 1 4 1 1 rfl (by kernel_rfl)
    have h1' : DataW.trod enc Tryz.prog W 0 (fun _ => true) true n 4 [c1] = some y1 := h1
    obtain ⟨z1, e1⟩ := bool_of Tryz.underlying4 h1'
    obtain ⟨y2, h2⟩ := hg 2 31 2 1 rfl (by kernel_rfl)
    have h2' : DataW.trod enc Tryz.prog W 0 (fun _ => true) true n 31 [c2] = some y2 := h2
    obtain ⟨A2, n2, k2, z2, e2, q2⟩ := elems_of RunE Tryz.underlying31 (by kernel_rfl) (fun _ _ _ hq => cells_run hq) h2'
    simp only [List.cons.injEq, and_true] at e0 e1 e2
    subst e0 e1 e2
    exact ⟨⟨z0, z1, z2⟩, A2, n2, k2, rfl, q2, in64 q0⟩
end
end Go.Proofs.YtpklclnehlgcpaaGreat
end
section
namespace Go.Proofs.YtpklclnehlgcpaaGreat
open Go.RowKit
set_option linter.unusedVariables false
set_option linter.unusedSimpArgs false
namespace planGrows
open PlanW
attribute [local go_sem ↓] alPage_fold ldPage_fold stPage_fold bdPage_fold slPage_fold ld512_fold sl512_fold
end planGrows
namespace Reg
/-- bytes and a number -/
def biM (x : List UInt8 × Int) : SP ext := ⟨fun v w => ∃ A n c, v = .tuple #[.slice A n c, .int .i64 x.2] ∧ Bytes w w.heap.size A n c x.1, fun _ w w' hb ⟨A, n, c, e, h⟩ => ⟨A, n, c, e, (h.below hb).more (Below.size hb)⟩⟩
end Reg
namespace planGrows
open PlanW
attribute [local go_sem ↓] alPage_fold ldPage_fold stPage_fold bdPage_fold slPage_fold ld512_fold sl512_fold
theorem same_self (x : PatchX) : PatchP.same x x = true := by simp [PatchP.same]
set_option maxRecDepth 100000 in
set_option maxHeartbeats 4000000 in
theorem big (m last : List UInt8) (hm : m.length = 512) (hl : last.length = 512) (no : Int) (h0 : 0 ≤ no) (h1 : no ≤ 65535) (A : Option Addr) (n cap : Nat) (s : Int) (k : ByteArray) (kind : Int) (data : List UInt8) (lo hi val : Int) (pg : Int) (fr : Bool) (runs : List RunX) (Ar : Option Addr) (nr cr : Nat) (w : World) (hA : Bytes w w.heap.size A n cap data) (hka : k.size ≤ maxLen) (hE : Elems RunE w w.heap.size Ar nr cr runs) (hb : bigI ⟨s, k, ⟨kind, data, lo, hi, val⟩⟩ = true) :
    Calls Tryz.prog 4 #[.agg (rowV m), .agg (rowV last), .int .u16 no, .agg #[.int .i64 s, .string k, .int .i64 kind, .slice A n cap, .int .i64 lo, .int .i64 hi, .int .i64 val], .agg #[.int .i64 pg, .bool fr, .slice Ar nr cr]] w fun e w' => e = .returned (.bool true) ∧ Below w.heap.size w w' := by
  have HM := Lib.hid hm
  have HL := Lib.hid hl
  have HA := Lib.hid hA
  have HKA := Lib.hid hka
  have HE := Lib.hid hE
  have hn := Nat.le_trans hA.2.1 hA.2.2.1
  have hbig := fun W => big_any A n cap ⟨s, k, ⟨kind, data, lo, hi, val⟩⟩ W hka hA.len hn
  dsimp only [PlanW.itV] at hbig
  rw [hb] at hbig
  clear hA hka hE hm hl hb
  go_enter Tryz.func4, Tryz.ntmps4
  go_wp2_with fail
  generalize hW0 : ((((w).alloc (.cells (rowV m) 22)).alloc (.cells (rowV last) 22)).alloc (.cells #[.int .i64 s, .string k, .int .i64 kind, .slice A n cap, .int .i64 lo, .int .i64 hi, .int .i64 val] 27)).alloc (.cells #[.int .i64 pg, .bool fr, .slice Ar nr cr] 33) = W0
  have HS0_0 : Hid (Str W0 (w.heap.size) (rowV m)) := Lib.hid (by rw [← hW0]; have := (((Str.new (w) (rowV m) 22).alloc (.cells (rowV last) 22)).alloc (.cells #[.int .i64 s, .string k, .int .i64 kind, .slice A n cap, .int .i64 lo, .int .i64 hi, .int .i64 val] 27)).alloc (.cells #[.int .i64 pg, .bool fr, .slice Ar nr cr] 33); simpa using this)
  have HS1_0 : Hid (Str W0 (w.heap.size + 1) (rowV last)) := Lib.hid (by rw [← hW0]; have := ((Str.new ((w).alloc (.cells (rowV m) 22)) (rowV last) 22).alloc (.cells #[.int .i64 s, .string k, .int .i64 kind, .slice A n cap, .int .i64 lo, .int .i64 hi, .int .i64 val] 27)).alloc (.cells #[.int .i64 pg, .bool fr, .slice Ar nr cr] 33); simpa using this)
  have HS2_0 : Hid (Str W0 (w.heap.size + 1 + 1) #[.int .i64 s, .string k, .int .i64 kind, .slice A n cap, .int .i64 lo, .int .i64 hi, .int .i64 val]) := Lib.hid (by rw [← hW0]; have := (Str.new (((w).alloc (.cells (rowV m) 22)).alloc (.cells (rowV last) 22)) #[.int .i64 s, .string k, .int .i64 kind, .slice A n cap, .int .i64 lo, .int .i64 hi, .int .i64 val] 27).alloc (.cells #[.int .i64 pg, .bool fr, .slice Ar nr cr] 33); simpa using this)
  have HS3_0 : Hid (Str W0 (w.heap.size + 1 + 1 + 1) #[.int .i64 pg, .bool fr, .slice Ar nr cr]) := Lib.hid (by rw [← hW0]; have := Str.new ((((w).alloc (.cells (rowV m) 22)).alloc (.cells (rowV last) 22)).alloc (.cells #[.int .i64 s, .string k, .int .i64 kind, .slice A n cap, .int .i64 lo, .int .i64 hi, .int .i64 val] 27)) #[.int .i64 pg, .bool fr, .slice Ar nr cr] 33; simpa using this)
  have HB_0 : Hid (Below w.heap.size w W0) := Lib.hid (by rw [← hW0]; exact balloc (balloc (balloc (balloc (bsame w) _) _) _) _)
  have hw_0 := HB_0.out.size
  clear hW0
  have hl0_0 := HS0_0.out.lt
  have hl1_0 := HS1_0.out.lt
  obtain ⟨f2_0_0, f2_0_1, f2_0_2, f2_0_3, f2_0_4, f2_0_5, f2_0_6⟩ := str7 HS2_0.out
  have hl2_0 := HS2_0.out.lt
  obtain ⟨f3_0_0, f3_0_1, f3_0_2⟩ := str3 HS3_0.out
  have hl3_0 := HS3_0.out.lt
  refine (hbig _).mono ?_
  rintro e W1 ⟨rfl, hb1⟩
  have HS0_1 := Lib.hid (HS0_0.out.next hb1)
  have HS1_1 := Lib.hid (HS1_0.out.next hb1)
  have HS2_1 := Lib.hid (HS2_0.out.next hb1)
  have HS3_1 := Lib.hid (HS3_0.out.next hb1)
  have HB_1 := Lib.hid (bstep HB_0.out hb1)
  have hw_1 := HB_1.out.size
  have hws_1 := (hb1).size
  clear HS0_0 HS1_0 f2_0_0 f2_0_1 f2_0_2 f2_0_3 f2_0_4 f2_0_5 f2_0_6 HS2_0 f3_0_0 f3_0_1 f3_0_2 HS3_0
  clear hb1
  have hl0_1 := HS0_1.out.lt
  have hl1_1 := HS1_1.out.lt
  obtain ⟨f2_1_0, f2_1_1, f2_1_2, f2_1_3, f2_1_4, f2_1_5, f2_1_6⟩ := str7 HS2_1.out
  have hl2_1 := HS2_1.out.lt
  obtain ⟨f3_1_0, f3_1_1, f3_1_2⟩ := str3 HS3_1.out
  have hl3_1 := HS3_1.out.lt
  clear hbig
  go_wp2_with fail
  refine (live_any _).mono ?_
  rintro e W2 ⟨rfl, hb2⟩
  have HS0_2 := Lib.hid (HS0_1.out.next hb2)
  have HS1_2 := Lib.hid (HS1_1.out.next hb2)
  have HS2_2 := Lib.hid (HS2_1.out.next hb2)
  have HS3_2 := Lib.hid (HS3_1.out.next hb2)
  have HB_2 := Lib.hid (bstep HB_1.out hb2)
  have hw_2 := HB_2.out.size
  have hws_2 := (hb2).size
  clear HS0_1 HS1_1 f2_1_0 f2_1_1 f2_1_2 f2_1_3 f2_1_4 f2_1_5 f2_1_6 HS2_1 f3_1_0 f3_1_1 f3_1_2 HS3_1
  clear hb2
  have hl0_2 := HS0_2.out.lt
  have hl1_2 := HS1_2.out.lt
  obtain ⟨f2_2_0, f2_2_1, f2_2_2, f2_2_3, f2_2_4, f2_2_5, f2_2_6⟩ := str7 HS2_2.out
  have hl2_2 := HS2_2.out.lt
  obtain ⟨f3_2_0, f3_2_1, f3_2_2⟩ := str3 HS3_2.out
  have hl3_2 := HS3_2.out.lt
  go_wp2_with fail
  go_ret
  exact ⟨rfl, HB_2.out⟩
set_option maxRecDepth 100000 in
set_option maxHeartbeats 4000000 in
theorem rest (m last : List UInt8) (hm : m.length = 512) (hl : last.length = 512) (no : Int) (h0 : 0 ≤ no) (h1 : no ≤ 65535) (A : Option Addr) (n cap : Nat) (s : Int) (k : ByteArray) (kind : Int) (data : List UInt8) (lo hi val : Int) (pg : Int) (fr : Bool) (runs : List RunX) (Ar : Option Addr) (nr cr : Nat) (w : World) (hA : Bytes w w.heap.size A n cap data) (hka : k.size ≤ maxLen) (hE : Elems RunE w w.heap.size Ar nr cr runs) (hb : bigI ⟨s, k, ⟨kind, data, lo, hi, val⟩⟩ = false) :
    Calls Tryz.prog 4 #[.agg (rowV m), .agg (rowV last), .int .u16 no, .agg #[.int .i64 s, .string k, .int .i64 kind, .slice A n cap, .int .i64 lo, .int .i64 hi, .int .i64 val], .agg #[.int .i64 pg, .bool fr, .slice Ar nr cr]] w fun e w' => e = .returned (.bool true) ∧ Below w.heap.size w w' := by
  have HM := Lib.hid hm
  have HL := Lib.hid hl
  have HA := Lib.hid hA
  have HKA := Lib.hid hka
  have HE := Lib.hid hE
  have hn := Nat.le_trans hA.2.1 hA.2.2.1
  have hbig := fun W => big_any A n cap ⟨s, k, ⟨kind, data, lo, hi, val⟩⟩ W hka hA.len hn
  dsimp only [PlanW.itV] at hbig
  rw [hb] at hbig
  clear hA hka hE hm hl hb
  go_enter Tryz.func4, Tryz.ntmps4
  go_wp2_with fail
  generalize hW0 : ((((w).alloc (.cells (rowV m) 22)).alloc (.cells (rowV last) 22)).alloc (.cells #[.int .i64 s, .string k, .int .i64 kind, .slice A n cap, .int .i64 lo, .int .i64 hi, .int .i64 val] 27)).alloc (.cells #[.int .i64 pg, .bool fr, .slice Ar nr cr] 33) = W0
  have HS0_0 : Hid (Str W0 (w.heap.size) (rowV m)) := Lib.hid (by rw [← hW0]; have := (((Str.new (w) (rowV m) 22).alloc (.cells (rowV last) 22)).alloc (.cells #[.int .i64 s, .string k, .int .i64 kind, .slice A n cap, .int .i64 lo, .int .i64 hi, .int .i64 val] 27)).alloc (.cells #[.int .i64 pg, .bool fr, .slice Ar nr cr] 33); simpa using this)
  have HS1_0 : Hid (Str W0 (w.heap.size + 1) (rowV last)) := Lib.hid (by rw [← hW0]; have := ((Str.new ((w).alloc (.cells (rowV m) 22)) (rowV last) 22).alloc (.cells #[.int .i64 s, .string k, .int .i64 kind, .slice A n cap, .int .i64 lo, .int .i64 hi, .int .i64 val] 27)).alloc (.cells #[.int .i64 pg, .bool fr, .slice Ar nr cr] 33); simpa using this)
  have HS2_0 : Hid (Str W0 (w.heap.size + 1 + 1) #[.int .i64 s, .string k, .int .i64 kind, .slice A n cap, .int .i64 lo, .int .i64 hi, .int .i64 val]) := Lib.hid (by rw [← hW0]; have := (Str.new (((w).alloc (.cells (rowV m) 22)).alloc (.cells (rowV last) 22)) #[.int .i64 s, .string k, .int .i64 kind, .slice A n cap, .int .i64 lo, .int .i64 hi, .int .i64 val] 27).alloc (.cells #[.int .i64 pg, .bool fr, .slice Ar nr cr] 33); simpa using this)
  have HS3_0 : Hid (Str W0 (w.heap.size + 1 + 1 + 1) #[.int .i64 pg, .bool fr, .slice Ar nr cr]) := Lib.hid (by rw [← hW0]; have := Str.new ((((w).alloc (.cells (rowV m) 22)).alloc (.cells (rowV last) 22)).alloc (.cells #[.int .i64 s, .string k, .int .i64 kind, .slice A n cap, .int .i64 lo, .int .i64 hi, .int .i64 val] 27)) #[.int .i64 pg, .bool fr, .slice Ar nr cr] 33; simpa using this)
  have HB_0 : Hid (Below w.heap.size w W0) := Lib.hid (by rw [← hW0]; exact balloc (balloc (balloc (balloc (bsame w) _) _) _) _)
  have hw_0 := HB_0.out.size
  clear hW0
  have hl0_0 := HS0_0.out.lt
  have hl1_0 := HS1_0.out.lt
  obtain ⟨f2_0_0, f2_0_1, f2_0_2, f2_0_3, f2_0_4, f2_0_5, f2_0_6⟩ := str7 HS2_0.out
  have hl2_0 := HS2_0.out.lt
  obtain ⟨f3_0_0, f3_0_1, f3_0_2⟩ := str3 HS3_0.out
  have hl3_0 := HS3_0.out.lt
  refine (hbig _).mono ?_
  rintro e W1 ⟨rfl, hb1⟩
  have HS0_1 := Lib.hid (HS0_0.out.next hb1)
  have HS1_1 := Lib.hid (HS1_0.out.next hb1)
  have HS2_1 := Lib.hid (HS2_0.out.next hb1)
  have HS3_1 := Lib.hid (HS3_0.out.next hb1)
  have HB_1 := Lib.hid (bstep HB_0.out hb1)
  have hw_1 := HB_1.out.size
  have hws_1 := (hb1).size
  clear HS0_0 HS1_0 f2_0_0 f2_0_1 f2_0_2 f2_0_3 f2_0_4 f2_0_5 f2_0_6 HS2_0 f3_0_0 f3_0_1 f3_0_2 HS3_0
  clear hb1
  have hl0_1 := HS0_1.out.lt
  have hl1_1 := HS1_1.out.lt
  obtain ⟨f2_1_0, f2_1_1, f2_1_2, f2_1_3, f2_1_4, f2_1_5, f2_1_6⟩ := str7 HS2_1.out
  have hl2_1 := HS2_1.out.lt
  obtain ⟨f3_1_0, f3_1_1, f3_1_2⟩ := str3 HS3_1.out
  have hl3_1 := HS3_1.out.lt
  clear hbig
  go_wp2_with fail
  refine (RefPatch.much_any Ar nr cr w.heap.size runs _ (HE.out.below HB_1.out)).mono ?_
  rintro e w1 ⟨mu, rfl, hmu, rfl⟩
  clear hmu
  cases mu with
  | true =>
    go_wp2_with fail
    refine (live_any _).mono ?_
    rintro e W2 ⟨rfl, hb2⟩
    have HS0_2 := Lib.hid (HS0_1.out.next hb2)
    have HS1_2 := Lib.hid (HS1_1.out.next hb2)
    have HS2_2 := Lib.hid (HS2_1.out.next hb2)
    have HS3_2 := Lib.hid (HS3_1.out.next hb2)
    have HB_2 := Lib.hid (bstep HB_1.out hb2)
    have hw_2 := HB_2.out.size
    have hws_2 := (hb2).size
    clear HS0_1 HS1_1 f2_1_0 f2_1_1 f2_1_2 f2_1_3 f2_1_4 f2_1_5 f2_1_6 HS2_1 f3_1_0 f3_1_1 f3_1_2 HS3_1
    clear hb2
    have hl0_2 := HS0_2.out.lt
    have hl1_2 := HS1_2.out.lt
    obtain ⟨f2_2_0, f2_2_1, f2_2_2, f2_2_3, f2_2_4, f2_2_5, f2_2_6⟩ := str7 HS2_2.out
    have hl2_2 := HS2_2.out.lt
    obtain ⟨f3_2_0, f3_2_1, f3_2_2⟩ := str3 HS3_2.out
    have hl3_2 := HS3_2.out.lt
    go_wp2_with fail
    go_ret
    exact ⟨rfl, HB_2.out⟩
  | false =>
    have hld0 := run_ld (P := Tryz.prog) arr512 HS0_1.out HM.out
    have hld1 := run_ld (P := Tryz.prog) arr512 HS1_1.out HL.out
    have hcv : IntKind.i64.wrap no = no := IntWalk.i64_in _ (by omega)
    go_wp2_with fail
    refine (Grow_any m last HM.out HL.out no h0 h1 A n cap w.heap.size ⟨s, k, ⟨kind, data, lo, hi, val⟩⟩ _ (HA.out.below HB_1.out) HB_1.out.size HKA.out).mono ?_
    rintro e W2 ⟨A1, c1, rfl, hE1, hb2⟩
    clear hld0 hld1
    have HS0_2 := Lib.hid (HS0_1.out.next hb2)
    have HS1_2 := Lib.hid (HS1_1.out.next hb2)
    have HS2_2 := Lib.hid (HS2_1.out.next hb2)
    have HS3_2 := Lib.hid (HS3_1.out.next hb2)
    have HB_2 := Lib.hid (bstep HB_1.out hb2)
    have hw_2 := HB_2.out.size
    have hws_2 := (hb2).size
    clear HS0_1 HS1_1 f2_1_0 f2_1_1 f2_1_2 f2_1_3 f2_1_4 f2_1_5 f2_1_6 HS2_1 f3_1_0 f3_1_1 f3_1_2 HS3_1
    clear hb2
    have hl0_2 := HS0_2.out.lt
    have hl1_2 := HS1_2.out.lt
    obtain ⟨f2_2_0, f2_2_1, f2_2_2, f2_2_3, f2_2_4, f2_2_5, f2_2_6⟩ := str7 HS2_2.out
    have hl2_2 := HS2_2.out.lt
    obtain ⟨f3_2_0, f3_2_1, f3_2_2⟩ := str3 HS3_2.out
    have hl3_2 := HS3_2.out.lt
    have HYl_2 := Lib.hid (hE1)
    clear hE1
    go_wp2_with fail
    have hsl0 := fun W => run_sl_all (P := Tryz.prog) arr512 w.heap.size W
    have hsl1 := fun W => run_sl_all (P := Tryz.prog) arr512 (w.heap.size + 1) W
    refine Reg.wp_region_vals (R := ext) (W := W2) [Reg.eqv (.slice (some ⟨w.heap.size, 0, none⟩) 512 512), Reg.eqv (.slice (some ⟨w.heap.size + 1, 0, none⟩) 512 512), Reg.eqv (.int .u16 no), Reg.eqv (.int .i64 no), Reg.eqv (.agg #[.int .i64 s, .string k, .int .i64 kind, .slice A n cap, .int .i64 lo, .int .i64 hi, .int .i64 val]), Reg.patsM (PlanP.grow m last no ⟨s, k, ⟨kind, data, lo, hi, val⟩⟩) 3, Reg.patsM (PlanP.grow m last no ⟨s, k, ⟨kind, data, lo, hi, val⟩⟩) 3] 85 [[(5, none)], [(6, none)], [(2, none)], [(34, some 2)], [(8, none)], [(32, some 0), (33, some 1), (35, some 3), (36, some 4)], [(37, some 5)]] rfl (by kernel_rfl) (by kernel_rfl) (by kernel_rfl) ?_ [some 32, some 33, some 34, some 35, some 36, some 37, some 12] (by kernel_rfl) ?_
    · refine ⟨?_, ?_, ?_, ?_, ?_, ?_, ?_, trivial⟩
      · intro ax wx hx hs
        obtain ⟨e5, -⟩ := hs
        have g5 := Reg.ev (v := .pointer (some ⟨w.heap.size, 0, none⟩)) e5
        exact Reg.obl_free rfl (Reg.wp_eqv (Option.some_ne_none _) (by go_simp) rfl)
      · intro ax wx hx hs
        obtain ⟨e6, -⟩ := hs
        have g6 := Reg.ev (v := .pointer (some ⟨w.heap.size + 1, 0, none⟩)) e6
        exact Reg.obl_free rfl (Reg.wp_eqv (Option.some_ne_none _) (by go_simp) rfl)
      · intro ax wx hx hs
        obtain ⟨e2, -⟩ := hs
        have g2 := Reg.ev (v := .int .u16 no) e2
        exact Reg.obl_free rfl (Reg.wp_eqv (Option.some_ne_none _) (by go_simp) rfl)
      · intro ax wx hx hs
        obtain ⟨e34, -⟩ := hs
        have g34 := Reg.ev (v := .int .u16 no) e34
        exact Reg.obl_free rfl (Reg.wp_eqv (Option.some_ne_none _) (by go_simp) rfl)
      · intro ax wx hx hs
        obtain ⟨e8, -⟩ := hs
        have g8 := Reg.ev (v := .pointer (some ⟨w.heap.size + 1 + 1, 0, none⟩)) e8
        have li := str7 (HS2_2.out.next hx)
        exact Reg.obl_free rfl (Reg.wp_eqv (Option.some_ne_none _) (by go_simp) rfl)
      · intro ax wx hx hs
        obtain ⟨e32, e33, e35, e36, -⟩ := hs
        have g32 := Reg.ev (v := .slice (some ⟨w.heap.size, 0, none⟩) 512 512) e32
        have g33 := Reg.ev (v := .slice (some ⟨w.heap.size + 1, 0, none⟩) 512 512) e33
        have g35 := Reg.ev (v := .int .i64 no) e35
        have g36 := Reg.ev (v := .agg #[.int .i64 s, .string k, .int .i64 kind, .slice A n cap, .int .i64 lo, .int .i64 hi, .int .i64 val]) e36
        refine Reg.obl_free rfl ?_
        have hx' : Below W2.heap.size W2 wx := hx
        have hwx := hx'.size
        have hpt0 := (HS0_2.out.next hx').part 0 512 512 (by rw [HM.out]; omega) (by omega) (by unfold maxLen; omega)
        rw [List.drop_zero, List.take_of_length_le (by rw [HM.out]; omega)] at hpt0
        have hpt1 := (HS1_2.out.next hx').part 0 512 512 (by rw [HL.out]; omega) (by omega) (by unfold maxLen; omega)
        rw [List.drop_zero, List.take_of_length_le (by rw [HL.out]; omega)] at hpt1
        go_simp
        refine (refGrow_any m last HM.out HL.out no h0 h1 _ _ _ _ _ _ A n cap w.heap.size ⟨s, k, ⟨kind, data, lo, hi, val⟩⟩ wx hpt0 (Nat.le_refl _) hpt1 (Nat.le_refl _) (HA.out.below (bstep HB_2.out hx')) (bstep HB_2.out hx').size HKA.out).mono ?_
        rintro e wy ⟨A2, c2, rfl, hE2, hby⟩
        exact Reg.done (Option.some_ne_none _) ⟨A2, c2, rfl, hE2⟩ hby
      · intro ax wx hx hs
        obtain ⟨e37, -⟩ := hs
        refine Reg.obl_free rfl ?_
        exact Reg.wp_same (Option.some_ne_none _) (by go_simp) e37
    · intro W3 hwf
      simp only [Reg.Fin]
      rintro _ rfl _ rfl _ rfl _ rfl _ rfl v37 h37 v12 h12
      go_simp
      obtain ⟨A2, c2, rfl, hE2⟩ := h12
      have hwf' : Below W2.heap.size W2 W3 := hwf
      have HS0_3 := Lib.hid (HS0_2.out.next hwf')
      have HS1_3 := Lib.hid (HS1_2.out.next hwf')
      have HS2_3 := Lib.hid (HS2_2.out.next hwf')
      have HS3_3 := Lib.hid (HS3_2.out.next hwf')
      have HB_3 := Lib.hid (bstep HB_2.out hwf')
      have hw_3 := HB_3.out.size
      have hws_3 := (hwf').size
      have HYl_3 := Lib.hid (HYl_2.out.next hwf')
      clear HYl_2
      clear HS0_2 HS1_2 f2_2_0 f2_2_1 f2_2_2 f2_2_3 f2_2_4 f2_2_5 f2_2_6 HS2_2 f3_2_0 f3_2_1 f3_2_2 HS3_2
      have hl0_3 := HS0_3.out.lt
      have hl1_3 := HS1_3.out.lt
      obtain ⟨f2_3_0, f2_3_1, f2_3_2, f2_3_3, f2_3_4, f2_3_5, f2_3_6⟩ := str7 HS2_3.out
      have hl2_3 := HS2_3.out.lt
      obtain ⟨f3_3_0, f3_3_1, f3_3_2⟩ := str3 HS3_3.out
      have hl3_3 := HS3_3.out.lt
      have HYr_3 := Lib.hid (hE2)
      clear hE2 hwf hwf' h37
      obtain ⟨G, hG⟩ : ∃ G, (PlanP.grow m last no ⟨s, k, ⟨kind, data, lo, hi, val⟩⟩) = G := ⟨_, rfl⟩
      rw [hG] at HYl_3 HYr_3
      clear hG hsl0 hcv
      go_wp2_with fail
      go_loopw [13] (fun iv wr => ∃ q : Nat, q ≤ 3 ∧ iv = .int .i64 (q : Int) ∧ Hid (Below W3.heap.size W3 wr)) (fun iv _ => 3 - (intOf iv).toNat)
      case atStart => exact ⟨0, by omega, rfl, Lib.hid (bsame W3)⟩
      case round =>
        obtain ⟨q, hq, rfl, HB⟩ := hrel
        have hwr := HB.out.size
        by_cases hlt : q < 3
        · have hd : decide ((q : Int) < 3) = true := by simp; omega
          obtain ⟨b, o, x, A3, n3, c3, rfl, hbB, hx0, hE3, hi3, q0, q1, q2⟩ := patch_at HYl_3.out hlt
          obtain ⟨b', o', x', A4, n4, c4, rfl, hbB', hx0', hE4, hi4, q3, q4, q5⟩ := patch_at HYr_3.out hlt
          rw [hx0] at hx0'
          cases hx0'
          have HQ : Hid ((W3.cell? ⟨b, o + q * 3, none⟩ = some (.int .i64 x.page) ∧ W3.cell? ⟨b, o + q * 3 + 1, none⟩ = some (.bool x.fresh) ∧ W3.cell? ⟨b, o + q * 3 + 2, none⟩ = some (.slice A3 n3 c3)) ∧ W3.cell? ⟨b', o' + q * 3, none⟩ = some (.int .i64 x.page) ∧ W3.cell? ⟨b', o' + q * 3 + 1, none⟩ = some (.bool x.fresh) ∧ W3.cell? ⟨b', o' + q * 3 + 2, none⟩ = some (.slice A4 n4 c4)) := Lib.hid ⟨⟨q0, q1, q2⟩, q3, q4, q5⟩
          have HE3 := Lib.hid hE3
          have HE4 := Lib.hid hE4
          clear q0 q1 q2 q3 q4 q5 hE3 hE4 hx0 hi3 hi4
          go_wp2_with fail
          refine Reg.wp_region_vals (R := ext) (W := wr) [Reg.eqv (.slice (some ⟨b, o, none⟩) 3 c1), Reg.eqv (.int .i64 3), Reg.eqv (.slice (some ⟨b', o', none⟩) 3 c2), Reg.eqv (.int .i64 3), Reg.eqv (.bool false), Reg.eqv (.bool false), Reg.eqv (.slice (some ⟨b, o, none⟩) 3 c1), Reg.eqv (.int .i64 (q : Int)), Reg.eqv (.pointer (some ⟨b, o + q * 3, none⟩)), Reg.eqv (.agg #[.int .i64 x.page, .bool x.fresh, .slice A3 n3 c3]), Reg.eqv (.slice (some ⟨b', o', none⟩) 3 c2), Reg.eqv (.int .i64 (q : Int)), Reg.eqv (.pointer (some ⟨b', o' + q * 3, none⟩)), Reg.eqv (.agg #[.int .i64 x.page, .bool x.fresh, .slice A4 n4 c4]), Reg.eqv (.bool true), Reg.eqv (.bool false), Reg.eqv (.bool false)] 85 [[(11, none)], [(44, some 0)], [(12, none)], [(46, some 2)], [(45, some 1), (47, some 3)], [(48, some 4)], [(11, none), (49, some 5)], [(13, none), (49, some 5)], [(50, some 6), (51, some 7), (49, some 5)], [(52, some 8), (49, some 5)], [(12, none), (49, some 5)], [(13, none), (49, some 5)], [(54, some 10), (55, some 11), (49, some 5)], [(56, some 12), (49, some 5)], [(53, some 9), (57, some 13), (49, some 5)], [(58, some 14), (49, some 5)], [(49, some 5), (59, some 15)]] rfl (by kernel_rfl) (by kernel_rfl) (by kernel_rfl) ?_ [some 44, some 45, some 46, some 47, some 48, some 49, some 50, some 51, some 52, some 53, some 54, some 55, some 56, some 57, some 58, some 59, some 60] (by kernel_rfl) ?_
          · refine ⟨?_, ?_, ?_, ?_, ?_, ?_, ?_, ?_, ?_, ?_, ?_, ?_, ?_, ?_, ?_, ?_, ?_, trivial⟩
            · intro ax wx hx hs
              obtain ⟨e11, -⟩ := hs
              have g11 := Reg.ev (v := .slice (some ⟨b, o, none⟩) 3 c1) e11
              exact Reg.obl_free rfl (Reg.wp_eqv (Option.some_ne_none _) (by go_simp) rfl)
            · intro ax wx hx hs
              obtain ⟨e44, -⟩ := hs
              have g44 := Reg.ev (v := .slice (some ⟨b, o, none⟩) 3 c1) e44
              exact Reg.obl_free rfl (Reg.wp_eqv (Option.some_ne_none _) (by go_simp) rfl)
            · intro ax wx hx hs
              obtain ⟨e12, -⟩ := hs
              have g12 := Reg.ev (v := .slice (some ⟨b', o', none⟩) 3 c2) e12
              exact Reg.obl_free rfl (Reg.wp_eqv (Option.some_ne_none _) (by go_simp) rfl)
            · intro ax wx hx hs
              obtain ⟨e46, -⟩ := hs
              have g46 := Reg.ev (v := .slice (some ⟨b', o', none⟩) 3 c2) e46
              exact Reg.obl_free rfl (Reg.wp_eqv (Option.some_ne_none _) (by go_simp) rfl)
            · intro ax wx hx hs
              obtain ⟨e45, e47, -⟩ := hs
              have g45 := Reg.ev (v := .int .i64 3) e45
              have g47 := Reg.ev (v := .int .i64 3) e47
              exact Reg.obl_free rfl (Reg.wp_eqv (Option.some_ne_none _) (by go_simp) rfl)
            · intro ax wx hx hs
              obtain ⟨e48, -⟩ := hs
              have g48 := Reg.ev (v := .bool false) e48
              exact Reg.obl_free rfl (Reg.wp_eqv (Option.some_ne_none _) (by go_simp) rfl)
            · intro ax wx hx hs
              obtain ⟨e11, e49, -⟩ := hs
              have g11 := Reg.ev (v := .slice (some ⟨b, o, none⟩) 3 c1) e11
              have g49 := Reg.ev (v := .bool false) e49
              exact Reg.obl_want rfl rfl e49 (Reg.wp_eqv (Option.some_ne_none _) (by go_simp) rfl)
            · intro ax wx hx hs
              obtain ⟨e13, e49, -⟩ := hs
              have g13 := Reg.ev (v := .int .i64 (q : Int)) e13
              have g49 := Reg.ev (v := .bool false) e49
              exact Reg.obl_want rfl rfl e49 (Reg.wp_eqv (Option.some_ne_none _) (by go_simp) rfl)
            · intro ax wx hx hs
              obtain ⟨e50, e51, e49, -⟩ := hs
              have g50 := Reg.ev (v := .slice (some ⟨b, o, none⟩) 3 c1) e50
              have g51 := Reg.ev (v := .int .i64 (q : Int)) e51
              have g49 := Reg.ev (v := .bool false) e49
              refine Reg.obl_want rfl rfl e49 ?_
              exact Reg.wp_eqv (Option.some_ne_none _) (by go_simp; first | done | (intro hq; omega)) rfl
            · intro ax wx hx hs
              obtain ⟨e52, e49, -⟩ := hs
              have g52 := Reg.ev (v := .pointer (some ⟨b, o + q * 3, none⟩)) e52
              have g49 := Reg.ev (v := .bool false) e49
              have hx3 : Below W3.heap.size W3 wx := HB.out.trans (hx.mono hwr)
              have q0 := (hx3.cell (p := ⟨b, o + q * 3, none⟩) hbB).trans HQ.out.1.1
              have q1 := (hx3.cell (p := ⟨b, o + q * 3 + 1, none⟩) hbB).trans HQ.out.1.2.1
              have q2 := (hx3.cell (p := ⟨b, o + q * 3 + 2, none⟩) hbB).trans HQ.out.1.2.2
              have q3 := (hx3.cell (p := ⟨b', o' + q * 3, none⟩) hbB').trans HQ.out.2.1
              have q4 := (hx3.cell (p := ⟨b', o' + q * 3 + 1, none⟩) hbB').trans HQ.out.2.2.1
              have q5 := (hx3.cell (p := ⟨b', o' + q * 3 + 2, none⟩) hbB').trans HQ.out.2.2.2
              exact Reg.obl_want rfl rfl e49 (Reg.wp_eqv (Option.some_ne_none _) (by go_simp) rfl)
            · intro ax wx hx hs
              obtain ⟨e12, e49, -⟩ := hs
              have g12 := Reg.ev (v := .slice (some ⟨b', o', none⟩) 3 c2) e12
              have g49 := Reg.ev (v := .bool false) e49
              exact Reg.obl_want rfl rfl e49 (Reg.wp_eqv (Option.some_ne_none _) (by go_simp) rfl)
            · intro ax wx hx hs
              obtain ⟨e13, e49, -⟩ := hs
              have g13 := Reg.ev (v := .int .i64 (q : Int)) e13
              have g49 := Reg.ev (v := .bool false) e49
              exact Reg.obl_want rfl rfl e49 (Reg.wp_eqv (Option.some_ne_none _) (by go_simp) rfl)
            · intro ax wx hx hs
              obtain ⟨e54, e55, e49, -⟩ := hs
              have g54 := Reg.ev (v := .slice (some ⟨b', o', none⟩) 3 c2) e54
              have g55 := Reg.ev (v := .int .i64 (q : Int)) e55
              have g49 := Reg.ev (v := .bool false) e49
              refine Reg.obl_want rfl rfl e49 ?_
              exact Reg.wp_eqv (Option.some_ne_none _) (by go_simp; first | done | (intro hq; omega)) rfl
            · intro ax wx hx hs
              obtain ⟨e56, e49, -⟩ := hs
              have g56 := Reg.ev (v := .pointer (some ⟨b', o' + q * 3, none⟩)) e56
              have g49 := Reg.ev (v := .bool false) e49
              have hx3 : Below W3.heap.size W3 wx := HB.out.trans (hx.mono hwr)
              have q0 := (hx3.cell (p := ⟨b, o + q * 3, none⟩) hbB).trans HQ.out.1.1
              have q1 := (hx3.cell (p := ⟨b, o + q * 3 + 1, none⟩) hbB).trans HQ.out.1.2.1
              have q2 := (hx3.cell (p := ⟨b, o + q * 3 + 2, none⟩) hbB).trans HQ.out.1.2.2
              have q3 := (hx3.cell (p := ⟨b', o' + q * 3, none⟩) hbB').trans HQ.out.2.1
              have q4 := (hx3.cell (p := ⟨b', o' + q * 3 + 1, none⟩) hbB').trans HQ.out.2.2.1
              have q5 := (hx3.cell (p := ⟨b', o' + q * 3 + 2, none⟩) hbB').trans HQ.out.2.2.2
              exact Reg.obl_want rfl rfl e49 (Reg.wp_eqv (Option.some_ne_none _) (by go_simp) rfl)
            · intro ax wx hx hs
              obtain ⟨e53, e57, e49, -⟩ := hs
              have g53 := Reg.ev (v := .agg #[.int .i64 x.page, .bool x.fresh, .slice A3 n3 c3]) e53
              have g57 := Reg.ev (v := .agg #[.int .i64 x.page, .bool x.fresh, .slice A4 n4 c4]) e57
              have g49 := Reg.ev (v := .bool false) e49
              refine Reg.obl_want rfl rfl e49 ?_
              have hx' : Below W3.heap.size W3 wx := HB.out.trans (hx.mono hwr)
              have hwx := hx'.size
              go_simp
              refine (RefPatch.same_any x x A3 A4 n3 c3 n4 c4 W3.heap.size W3.heap.size wx (HE3.out.below hx') hwx (HE4.out.below hx') hwx).mono ?_
              rintro e wy ⟨rfl, hby⟩
              rw [same_self]
              exact Reg.done (Option.some_ne_none _) rfl hby
            · intro ax wx hx hs
              obtain ⟨e58, e49, -⟩ := hs
              have g58 := Reg.ev (v := .bool true) e58
              have g49 := Reg.ev (v := .bool false) e49
              exact Reg.obl_want rfl rfl e49 (Reg.wp_eqv (Option.some_ne_none _) (by go_simp) rfl)
            · intro ax wx hx hs
              obtain ⟨e49, e59, -⟩ := hs
              have g49 := Reg.ev (v := .bool false) e49
              have g59 := Reg.ev (v := .bool false) e59
              exact Reg.obl_free rfl (Reg.wp_eqv (Option.some_ne_none _) (by go_simp) rfl)
          · intro W4 hwf
            simp only [Reg.Fin]
            rintro _ rfl _ rfl _ rfl _ rfl _ rfl _ rfl _ rfl _ rfl _ rfl _ rfl _ rfl _ rfl _ rfl _ rfl _ rfl _ rfl _ rfl
            go_simp
            have hwf' : Below wr.heap.size wr W4 := hwf
            have HB4 := Lib.hid (bstep HB.out hwf')
            clear hwf hwf'
            go_wp2
            go_roundw
            case rel => exact ⟨q + 1, by omega, by go_num, HB4⟩
            case measure => simp [intOf]; omega
        · have hd : decide ((q : Int) < 3) = false := by simp; omega
          have hb4 := HB.out
          have HS0_4 := Lib.hid (HS0_3.out.next hb4)
          have HS1_4 := Lib.hid (HS1_3.out.next hb4)
          have HS2_4 := Lib.hid (HS2_3.out.next hb4)
          have HS3_4 := Lib.hid (HS3_3.out.next hb4)
          have HB_4 := Lib.hid (bstep HB_3.out hb4)
          have hw_4 := HB_4.out.size
          clear hb4
          have lP := str3 HS3_4.out
          have lPl := HS3_4.out.lt
          have hld1 := run_ld (P := Tryz.prog) arr512 HS1_4.out HL.out
          have hlt0 := HS0_4.out.lt
          go_wp2_with fail
          refine (Apply_any last HL.out ⟨pg, fr, runs⟩ Ar nr cr w.heap.size wr (HE.out.below HB_4.out) HB_4.out.size).mono ?_
          rintro e W5 ⟨rfl, hb5⟩
          clear hld1 lP
          obtain ⟨RA, hRA⟩ : ∃ r, PlanP.apply last ⟨pg, fr, runs⟩ = r := ⟨_, rfl⟩
          have HRL : Hid (RA.1.length = 512) := Lib.hid (by rw [← hRA]; unfold PlanP.apply; exact DiffP.apply_len (by split; exact PlanP.fresh_len _ _; exact HL.out) _)
          have HRA := Lib.hid hRA
          rw [hRA]
          clear hRA
          obtain ⟨rl, rc⟩ := RA
          dsimp only at *
          have HS0_5 := Lib.hid (HS0_4.out.next hb5)
          have HS1_5 := Lib.hid (HS1_4.out.next hb5)
          have HS2_5 := Lib.hid (HS2_4.out.next hb5)
          have HS3_5 := Lib.hid (HS3_4.out.next hb5)
          have HB_5 := Lib.hid (bstep HB_4.out hb5)
          have hw_5 := HB_5.out.size
          have hws_5 := hb5.size
          clear hb5
          have hl0_5 := HS0_5.out.lt
          have hl1_5 := HS1_5.out.lt
          obtain ⟨f2_5_0, f2_5_1, f2_5_2, f2_5_3, f2_5_4, f2_5_5, f2_5_6⟩ := str7 HS2_5.out
          have hl2_5 := HS2_5.out.lt
          obtain ⟨f3_5_0, f3_5_1, f3_5_2⟩ := str3 HS3_5.out
          have hl3_5 := HS3_5.out.lt
          have hal := fun W => run_al (P := Tryz.prog) arrPage W
          have hst5 := run_st (P := Tryz.prog) arrPage (Str.new W5 (rowV (SlotP.zeros 512)) 30) (by rw [rowV_size]; exact SlotPut.zeros_len 512) (HRL.out)
          obtain ⟨W6, hW6⟩ : ∃ W, (W5.alloc (.cells (rowV (SlotP.zeros 512)) 30)).setRow W5.heap.size (rowV rl) = W := ⟨_, rfl⟩
          rw [hW6] at hst5
          have HS0_6 : Hid (Str W6 (w.heap.size) (rowV m)) := Lib.hid (by rw [← hW6]; exact (HS0_5.out.alloc _).setRow_other (by omega))
          have HS1_6 : Hid (Str W6 (w.heap.size + 1) (rowV last)) := Lib.hid (by rw [← hW6]; exact (HS1_5.out.alloc _).setRow_other (by omega))
          have HS2_6 : Hid (Str W6 (w.heap.size + 1 + 1) #[.int .i64 s, .string k, .int .i64 kind, .slice A n cap, .int .i64 lo, .int .i64 hi, .int .i64 val]) := Lib.hid (by rw [← hW6]; exact (HS2_5.out.alloc _).setRow_other (by omega))
          have HS3_6 : Hid (Str W6 (w.heap.size + 1 + 1 + 1) #[.int .i64 pg, .bool fr, .slice Ar nr cr]) := Lib.hid (by rw [← hW6]; exact (HS3_5.out.alloc _).setRow_other (by omega))
          have HS4_6 : Hid (Str W6 (W5.heap.size) (rowV rl)) := Lib.hid (by rw [← hW6]; exact (Str.new W5 (rowV (SlotP.zeros 512)) 30).setRow)
          have hba6 : Below W5.heap.size W5 W6 := by rw [← hW6]; exact below_setRow (balloc (bsame _) _) (Nat.le_refl _) _
          have HB_6 := Lib.hid (bstep HB_5.out hba6)
          have hw_6 := HB_6.out.size
          have hws_6 := hba6.size
          clear hW6 hba6
          clear HS0_5 HS1_5 f2_5_0 f2_5_1 f2_5_2 f2_5_3 f2_5_4 f2_5_5 f2_5_6 HS2_5 f3_5_0 f3_5_1 f3_5_2 HS3_5
          have hl0_6 := HS0_6.out.lt
          have hl1_6 := HS1_6.out.lt
          obtain ⟨f2_6_0, f2_6_1, f2_6_2, f2_6_3, f2_6_4, f2_6_5, f2_6_6⟩ := str7 HS2_6.out
          have hl2_6 := HS2_6.out.lt
          obtain ⟨f3_6_0, f3_6_1, f3_6_2⟩ := str3 HS3_6.out
          have hl3_6 := HS3_6.out.lt
          have hl4_6 := HS4_6.out.lt
          go_wp2_with fail
          clear hal hst5
          refine Reg.wp_region_vals (R := ext) (W := W6) [Reg.eqv (.slice (some ⟨w.heap.size + 1, 0, none⟩) 512 512), Reg.eqv (.agg #[.int .i64 pg, .bool fr, .slice Ar nr cr]), Reg.biM (rl, rc), Reg.biM (rl, rc), Reg.bytes rl, Reg.eqv (.int .i64 rc), Reg.bytes rl, Reg.eqv (.int .i64 rc)] 85 [[(6, none)], [(9, none)], [(68, some 0), (69, some 1)], [(70, some 2)], [(67, some 3)], [(67, some 3)], [(71, some 4)], [(72, some 5)]] rfl (by kernel_rfl) (by kernel_rfl) (by kernel_rfl) ?_ [some 68, some 69, some 70, some 67, some 71, some 72, some 16, some 17] (by kernel_rfl) ?_
          · refine ⟨?_, ?_, ?_, ?_, ?_, ?_, ?_, ?_, trivial⟩
            · intro ax wx hx hs
              obtain ⟨e6, -⟩ := hs
              have g6 := Reg.ev (v := .pointer (some ⟨w.heap.size + 1, 0, none⟩)) e6
              exact Reg.obl_free rfl (Reg.wp_eqv (Option.some_ne_none _) (by go_simp) rfl)
            · intro ax wx hx hs
              obtain ⟨e9, -⟩ := hs
              have g9 := Reg.ev (v := .pointer (some ⟨w.heap.size + 1 + 1 + 1, 0, none⟩)) e9
              have li := str3 (HS3_6.out.next hx)
              exact Reg.obl_free rfl (Reg.wp_eqv (Option.some_ne_none _) (by go_simp) rfl)
            · intro ax wx hx hs
              obtain ⟨e68, e69, -⟩ := hs
              have g68 := Reg.ev (v := .slice (some ⟨w.heap.size + 1, 0, none⟩) 512 512) e68
              have g69 := Reg.ev (v := .agg #[.int .i64 pg, .bool fr, .slice Ar nr cr]) e69
              refine Reg.obl_free rfl ?_
              have hx' : Below W6.heap.size W6 wx := hx
              have hwx := hx'.size
              have hpt1 := (HS1_6.out.next hx').part 0 512 512 (by rw [HL.out]; omega) (by omega) (by unfold maxLen; omega)
              rw [List.drop_zero, List.take_of_length_le (by rw [HL.out]; omega)] at hpt1
              go_simp
              refine (refApply_any last HL.out _ _ ⟨pg, fr, runs⟩ Ar nr cr w.heap.size wx hpt1 (HE.out.below (bstep HB_6.out hx')) (bstep HB_6.out hx').size).mono ?_
              rintro e wy ⟨A7, n7, c7, rfl, hy7, hby⟩
              rw [HRA.out] at hy7 ⊢
              exact Reg.done (Option.some_ne_none _) ⟨A7, n7, c7, rfl, hy7⟩ hby
            · intro ax wx hx hs
              obtain ⟨e70, -⟩ := hs
              refine Reg.obl_free rfl ?_
              exact Reg.wp_same (Option.some_ne_none _) (by go_simp) e70
            · intro ax wx hx hs
              obtain ⟨e67, -⟩ := hs
              refine Reg.obl_free rfl ?_
              obtain ⟨A7, n7, c7, e67, hy7⟩ := e67
              have g67 := Reg.ev e67
              exact Reg.wp_same (Option.some_ne_none _) (by go_simp) ⟨A7, n7, c7, rfl, hy7⟩
            · intro ax wx hx hs
              obtain ⟨e67, -⟩ := hs
              refine Reg.obl_free rfl ?_
              obtain ⟨A7, n7, c7, e67, hy7⟩ := e67
              have g67 := Reg.ev e67
              exact Reg.wp_eqv (Option.some_ne_none _) (by go_simp) rfl
            · intro ax wx hx hs
              obtain ⟨e71, -⟩ := hs
              refine Reg.obl_free rfl ?_
              exact Reg.wp_same (Option.some_ne_none _) (by go_simp) e71
            · intro ax wx hx hs
              obtain ⟨e72, -⟩ := hs
              have g72 := Reg.ev (v := .int .i64 rc) e72
              exact Reg.obl_free rfl (Reg.wp_eqv (Option.some_ne_none _) (by go_simp) rfl)
          · intro W7 hwf
            simp only [Reg.Fin]
            rintro _ rfl _ rfl v70 h70 v67 h67 v71 h71 _ rfl v16 h16 _ rfl
            go_simp
            obtain ⟨A7, n7, c7, rfl, hy7⟩ := h16
            have hwf' : Below W6.heap.size W6 W7 := hwf
            have HS0_7 := Lib.hid (HS0_6.out.next hwf')
            have HS1_7 := Lib.hid (HS1_6.out.next hwf')
            have HS2_7 := Lib.hid (HS2_6.out.next hwf')
            have HS3_7 := Lib.hid (HS3_6.out.next hwf')
            have HS4_7 := Lib.hid (HS4_6.out.next hwf')
            have HB_7 := Lib.hid (bstep HB_6.out hwf')
            have hw_7 := HB_7.out.size
            have hws_7 := (hwf').size
            clear HS0_6 HS1_6 f2_6_0 f2_6_1 f2_6_2 f2_6_3 f2_6_4 f2_6_5 f2_6_6 HS2_6 f3_6_0 f3_6_1 f3_6_2 HS3_6 HS4_6
            have hl0_7 := HS0_7.out.lt
            have hl1_7 := HS1_7.out.lt
            obtain ⟨f2_7_0, f2_7_1, f2_7_2, f2_7_3, f2_7_4, f2_7_5, f2_7_6⟩ := str7 HS2_7.out
            have hl2_7 := HS2_7.out.lt
            obtain ⟨f3_7_0, f3_7_1, f3_7_2⟩ := str3 HS3_7.out
            have hl3_7 := HS3_7.out.lt
            have hl4_7 := HS4_7.out.lt
            clear hwf hwf'
            have HY7 := Lib.hid hy7
            clear hy7
            have hpt := HS4_7.out.part 0 512 512 (by rw [HRL.out]; omega) (by omega) (by unfold maxLen; omega)
            rw [List.drop_zero, List.take_of_length_le (by rw [HRL.out]; omega)] at hpt
            have HPT := Lib.hid hpt
            clear hpt
            have hsl2 := fun W => run_sl_all (P := Tryz.prog) arrPage W5.heap.size W
            go_wp2_with fail
            refine (Same.same_any _ _ _ _ _ _ _ _ rl rl W7 HPT.out HY7.out).mono ?_
            rintro e w' ⟨rfl, rfl⟩
            rw [beq_self_eq_true]
            clear hsl2
            go_wp2_with fail
            refine (code_any rc _).mono ?_
            rintro e w' ⟨rfl, rfl⟩
            have hrc : (rc == rc) = true := beq_self_eq_true rc
            go_wp2_with fail
            refine (live_any _).mono ?_
            rintro e W8 ⟨rfl, hb8⟩
            have HS0_8 := Lib.hid (HS0_7.out.next hb8)
            have HS1_8 := Lib.hid (HS1_7.out.next hb8)
            have HS2_8 := Lib.hid (HS2_7.out.next hb8)
            have HS3_8 := Lib.hid (HS3_7.out.next hb8)
            have HS4_8 := Lib.hid (HS4_7.out.next hb8)
            have HB_8 := Lib.hid (bstep HB_7.out hb8)
            have hw_8 := HB_8.out.size
            have hws_8 := (hb8).size
            clear HS0_7 HS1_7 f2_7_0 f2_7_1 f2_7_2 f2_7_3 f2_7_4 f2_7_5 f2_7_6 HS2_7 f3_7_0 f3_7_1 f3_7_2 HS3_7 HS4_7
            clear hb8
            have hl0_8 := HS0_8.out.lt
            have hl1_8 := HS1_8.out.lt
            obtain ⟨f2_8_0, f2_8_1, f2_8_2, f2_8_3, f2_8_4, f2_8_5, f2_8_6⟩ := str7 HS2_8.out
            have hl2_8 := HS2_8.out.lt
            obtain ⟨f3_8_0, f3_8_1, f3_8_2⟩ := str3 HS3_8.out
            have hl3_8 := HS3_8.out.lt
            have hl4_8 := HS4_8.out.lt
            go_wp2
            go_ret
            exact ⟨rfl, HB_8.out⟩
theorem walk (v0 v1 v2 v3 v4 : Value) (m last : List UInt8) (no : Int) (a3 : Item) (a4 : PatchX) (w : World) (g0 : RArr 512 v0 m) (g1 : RArr 512 v1 last) (g2 : RU16 w v2 no) (g3 : RItem w w.heap.size v3 a3) (g4 : RPatch w w.heap.size v4 a4) :
    Calls Tryz.prog 4 #[v0, v1, v2, v3, v4] w fun e w' => e = .returned (.bool true) ∧ Below w.heap.size w w' := by
  obtain ⟨rfl, hm⟩ := g0
  obtain ⟨rfl, hl⟩ := g1
  obtain ⟨rfl, h0, h1⟩ := g2
  obtain ⟨A, n, cap, rfl, hA, hka, -⟩ := g3
  obtain ⟨Ar, nr, cr, rfl, hE, -⟩ := g4
  obtain ⟨s, k, ⟨kind, data, lo, hi, val⟩⟩ := a3
  obtain ⟨pg, fr, runs⟩ := a4
  dsimp only at *
  cases hb : bigI ⟨s, k, ⟨kind, data, lo, hi, val⟩⟩ with
  | true => exact big m last hm hl no h0 h1 A n cap s k kind data lo hi val pg fr runs Ar nr cr w hA hka hE hb
  | false => exact rest m last hm hl no h0 h1 A n cap s k kind data lo hi val pg fr runs Ar nr cr w hA hka hE hb
end planGrows
end Go.Proofs.YtpklclnehlgcpaaGreat
end
