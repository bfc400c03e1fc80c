/-
  Texts of one claim, joined: Law16, OpenDV, Law16Nil.
-/
import Derived.Test.YtldgdgfplgdipaaDevGC
import Derived.Test.YtldgdgfplgdipaaDevGB
import Derived.Test.YtldgdgfplgdipaaPage
import Derived.Test.YtldgdgfplgdipaaSame
import Derived.Test.YtldgdgfplgdipaaOpenE
namespace Go.Proofs.Ytldgdgfplgdipaa.Law16
open Go.RowKit Go.Maps DevW
set_option linter.unusedVariables false
set_option linter.unusedSimpArgs false
attribute [local go_sem ↓] ldPage_fold stPage_fold bdPage_fold alPage_fold
theorem code_any (e : Int) (w : World) : Calls Try.prog 17 #[.int .i64 e] w fun r w' => r = .returned (.int .i64 e) ∧ w = w' := by
  go_enter Try.func17, Try.ntmps17
  go_wp2
  go_ret
  exact ⟨rfl, rfl⟩
/-- a page that a number tells -/
def _root_.Go.Proofs.Ytldgdgfplgdipaa.DevP.page (no v : Int) : List UInt8 := if v = 0 then SlotP.zeros 512 else SlotP.over (SlotP.over (SlotP.zeros 512) 12 (BeP.parts 2 no)) 16 (BeP.parts 8 v)
theorem page_len (no v : Int) : (DevP.page no v).length = 512 := by
  have hz : (SlotP.zeros 512).length = 512 := List.length_replicate
  have h1 : (SlotP.over (SlotP.zeros 512) 12 (BeP.parts 2 no)).length = 512 := by rw [SlotP.over_length _ _ _ (by rw [BeP.parts_length, hz]; omega), hz]
  unfold DevP.page
  split
  · exact hz
  · rw [SlotP.over_length _ _ _ (by rw [BeP.parts_length, h1]; omega), h1]
set_option maxRecDepth 100000 in
set_option maxHeartbeats 1000000 in
theorem of_any (no v : Int) (w : World) : Calls Try.prog 15 #[.int .i64 no, .int .i64 v] w fun e w' => e = .returned (.agg (rowV (DevP.page no v))) ∧ Below w.heap.size w w' := by
  have hz : (SlotP.zeros 512).length = 512 := List.length_replicate
  have hal := fun W => run_al (P := Try.prog) arrPage W
  have hbd := fun W => run_bd (P := Try.prog) arrPage W
  have HPL := Lib.hid (page_len no v)
  by_cases h0 : v = 0
  · have hd : (v == 0) = true := by simpa using h0
    have hS := Str.new w (rowV (SlotP.zeros 512)) 30
    have hst := run_st (P := Try.prog) arrPage hS (by rw [rowV_size]; exact hz) hz
    have HS := Lib.hid (hS.setRow (cs' := rowV (SlotP.zeros 512)))
    have HB := Lib.hid (below_setRow (balloc (bsame w) (.cells (rowV (SlotP.zeros 512)) 30)) (Nat.le_refl _) (rowV (SlotP.zeros 512)))
    have HP : Hid (DevP.page no v = SlotP.zeros 512) := Lib.hid (by unfold DevP.page; rw [if_pos h0])
    clear hS h0
    go_enter Try.func15, Try.ntmps15
    go_wp2_with fail
    rw [HP.out]
    exact bodyPost_ret (v := .agg (rowV (SlotP.zeros 512))) (results_arr arrPage Try.results15 _ HS.out hz rfl) rfl ⟨rfl, HB.out⟩
  · have hd : (v == 0) = false := by simpa using h0
    have HP : Hid (DevP.page no v = SlotP.over (SlotP.over (SlotP.zeros 512) 12 (BeP.parts 2 no)) 16 (BeP.parts 8 v)) := Lib.hid (by unfold DevP.page; rw [if_neg h0])
    have h1 : (SlotP.over (SlotP.zeros 512) 12 (BeP.parts 2 no)).length = 512 := by rw [SlotP.over_length _ _ _ (by rw [BeP.parts_length, hz]; omega), hz]
    clear h0
    go_enter Try.func15, Try.ntmps15
    go_wp2_with fail
    generalize hW0 : w.alloc (.cells (rowV (SlotP.zeros 512)) 30) = W0
    have HS0 : Hid (Str W0 w.heap.size (rowV (SlotP.zeros 512))) := Lib.hid (by rw [← hW0]; exact Str.new _ _ _)
    have HB0 : Hid (Below w.heap.size w W0) := Lib.hid (by rw [← hW0]; exact balloc (bsame w) _)
    clear hW0
    refine (PageW.new_any no W0).mono ?_
    rintro e W1 ⟨rfl, hb1⟩
    have hb01 := bstep HB0.out hb1
    have HS1 := Lib.hid (HS0.out.next hb1)
    clear hb1
    go_wp2_with fail
    refine (PageW.withNote_any _ h1 v W1).mono ?_
    rintro e W2 ⟨rfl, hb2⟩
    rw [← HP.out]
    have hS2 := HS1.out.next hb2
    have hst := run_st (P := Try.prog) arrPage hS2 (by rw [rowV_size]; exact hz) HPL.out
    have HS := Lib.hid (hS2.setRow (cs' := rowV (DevP.page no v)))
    have HB := Lib.hid (below_setRow (bstep hb01 hb2) (Nat.le_refl _) (rowV (DevP.page no v)))
    have hlt := hS2.lt
    clear hS2 hb2 hb01
    go_wp2_with fail
    exact bodyPost_ret (v := .agg (rowV (DevP.page no v))) (results_arr arrPage Try.results15 _ HS.out HPL.out rfl) rfl ⟨rfl, HB.out⟩
theorem lit_bytes {w : World} {b : Nat} {l : List UInt8} (h : Str w b (rowV l)) (hl : l.length ≤ maxLen) : Bytes w w.heap.size (some ⟨b, 0, none⟩) l.length l.length l := by
  have := h.part 0 l.length l.length (by omega) (Nat.le_refl _) hl
  rw [List.drop_zero, List.take_of_length_le (Nat.le_refl _)] at this
  exact this
set_option maxRecDepth 100000 in
set_option maxHeartbeats 2000000 in
theorem live_any (w : World) : Calls Try.prog 12 #[] w fun e w' => e = .returned (.bool true) ∧ Below w.heap.size w w' := by
  go_enter Try.func12, Try.ntmps12
  go_wp2_with fail
  refine (new_any 1 w).mono ?_
  rintro e W1 ⟨d, bs1, rfl, hD1, hn1, hb1⟩
  have HD1 : Hid (Dev W1 d bs1 (DevP.new 1)) := Lib.hid hD1
  have HB1 := Lib.hid hb1
  have HN1 := Lib.hid hn1
  clear hD1 hb1 hn1
  go_wp2_with fail
  generalize hW2 : W1.alloc (.cells #[.int .u8 1, .int .u8 2, .int .u8 3] 5) = W2
  have hb2 : Below W1.heap.size W1 W2 := by rw [← hW2]; exact balloc (bsame _) _
  have hS2 : Str W2 W1.heap.size (rowV [1, 2, 3]) := by rw [← hW2]; exact Str.new W1 (rowV [1, 2, 3]) _
  have HD2 := Lib.hid (HD1.out.below hb2)
  have HB2 := Lib.hid (bstep HB1.out hb2)
  have hY2 := lit_bytes hS2 (by unfold maxLen; decide)
  have hA2 : ∀ a, (some (⟨W1.heap.size, 0, none⟩ : Addr)) = some a → a.block ∉ bs1 := fun a e hm => by
    cases e
    have : W1.heap.size < W1.heap.size := HD1.out.lt _ hm
    omega
  clear hW2 hb2 hS2
  refine (Append_any _ 3 3 W2.heap.size [1, 2, 3] W2 HD2.out ⟨by decide, by decide, by decide⟩ hY2 (Nat.le_refl _) (fun _ => hA2) (by omega)).mono ?_
  rintro e W3 ⟨rfl, bs3, hD3, hn3, hk3⟩
  have HD3 : Hid (Dev W3 d bs3 (DevP.done { DevP.new 1 with log := [1, 2, 3] })) := Lib.hid hD3
  have HN3 : Hid (∀ b ∈ bs3, w.heap.size ≤ b) := Lib.hid (fun b hb => by
    rcases hn3 b hb with h | h
    · exact HN1.out b h
    · have := HB2.out.size; omega)
  have HB3 : Hid (Below w.heap.size w W3) := Lib.hid (HB2.out.trans (hk3.below HB2.out.size (fun b hb => HN1.out b hb)))
  clear hD3 hn3 hk3 hA2 hY2
  go_wp2_with fail
  refine (Flush_any W3 HD3.out ⟨by decide, by decide, by decide⟩).mono ?_
  rintro e W4 ⟨rfl, bs4, hD4, hn4, hk4⟩
  have HD4 : Hid (Dev W4 d bs4 (DevP.done { DevP.done { DevP.new 1 with log := [1, 2, 3] } with sure := 3 })) := Lib.hid hD4
  have HN4 : Hid (∀ b ∈ bs4, w.heap.size ≤ b) := Lib.hid (fun b hb => by
    rcases hn4 b hb with h | h
    · exact HN3.out b h
    · have := HB3.out.size; omega)
  have HB4 : Hid (Below w.heap.size w W4) := Lib.hid (HB3.out.trans (hk4.below HB3.out.size (fun b hb => HN3.out b hb)))
  clear hD4 hn4 hk4
  go_wp2_with fail
  generalize hW5 : W4.alloc (.cells #[.int .u8 4, .int .u8 5] 5) = W5
  have hb5 : Below W4.heap.size W4 W5 := by rw [← hW5]; exact balloc (bsame _) _
  have hS5 : Str W5 W4.heap.size (rowV [4, 5]) := by rw [← hW5]; exact Str.new W4 (rowV [4, 5]) _
  have HD5 := Lib.hid (HD4.out.below hb5)
  have HB5 := Lib.hid (bstep HB4.out hb5)
  have hY5 := lit_bytes hS5 (by unfold maxLen; decide)
  have hA5 : ∀ a, (some (⟨W4.heap.size, 0, none⟩ : Addr)) = some a → a.block ∉ bs4 := fun a e hm => by
    cases e
    have : W4.heap.size < W4.heap.size := HD4.out.lt _ hm
    omega
  clear hW5 hb5 hS5
  refine (Append_any _ 2 2 W5.heap.size [4, 5] W5 HD5.out ⟨by decide, by decide, by decide⟩ hY5 (Nat.le_refl _) (fun _ => hA5) (by omega)).mono ?_
  rintro e W6 ⟨rfl, bs6, hD6, hn6, hk6⟩
  have HD6 : Hid (Dev W6 d bs6 (DevP.done { DevP.done { DevP.done { DevP.new 1 with log := [1, 2, 3] } with sure := 3 } with log := [1, 2, 3, 4, 5] })) := Lib.hid hD6
  have HN6 : Hid (∀ b ∈ bs6, w.heap.size ≤ b) := Lib.hid (fun b hb => by
    rcases hn6 b hb with h | h
    · exact HN4.out b h
    · have := HB5.out.size; omega)
  have HB6 : Hid (Below w.heap.size w W6) := Lib.hid (HB5.out.trans (hk6.below HB5.out.size (fun b hb => HN4.out b hb)))
  clear hD6 hn6 hk6 hA5 hY5
  go_wp2_with fail
  refine (Crash_any 1 (by unfold In64; omega) W6 HD6.out ⟨by decide, by decide, by decide⟩).mono ?_
  rintro e W7 ⟨rfl, bs7, hD7, hn7, hk7⟩
  obtain ⟨X7, hX7⟩ : ∃ X, DevP.crashed (DevP.done { DevP.done { DevP.done { DevP.new 1 with log := [1, 2, 3] } with sure := 3 } with log := [1, 2, 3, 4, 5] }) 1 = X := ⟨_, rfl⟩
  have hl7 : X7.log = [1, 2, 3, 4] := by rw [← hX7]; rfl
  have hh7 : X7.head = 0 := by rw [← hX7]; rfl
  have hs7 : DevP.Small X7 := by rw [← hX7]; exact ⟨by decide, by decide, by decide⟩
  have hd7' : Dev W7 d bs7 X7 := by rw [← hX7]; exact hD7
  have HD7 := Lib.hid hd7'
  have HL7 := Lib.hid hl7
  have HH7 := Lib.hid hh7
  have HS7 := Lib.hid hs7
  have HB7 : Hid (Below w.heap.size w W7) := Lib.hid (HB6.out.trans (hk7.below HB6.out.size (fun b hb => HN6.out b hb)))
  clear hX7 hl7 hh7 hs7 hd7' hD7 hn7 hk7
  go_wp2_with fail
  refine (end_any W7 HD7.out HS7.out).mono ?_
  rintro e W8 ⟨rfl, hb8⟩
  rw [HL7.out, HH7.out]
  have HD8 := Lib.hid (HD7.out.below hb8)
  have HB8 := Lib.hid (bstep HB7.out hb8)
  clear hb8
  go_wp2_with fail
  refine (Log_any W8 HD8.out HS7.out).mono ?_
  rintro e W9 ⟨A9, n9, c9, gb9, rfl, hO9, -, hb9⟩
  rw [HL7.out] at hO9
  have hn9 := hO9.len
  have HY9 := Lib.hid hO9.bytes
  have HB9 := Lib.hid (bstep HB8.out hb9)
  clear hO9 hb9
  go_wp2_with fail
  generalize hW10 : W9.alloc (.cells #[.int .u8 1, .int .u8 2, .int .u8 3, .int .u8 4] 5) = W10
  have hb10 : Below W9.heap.size W9 W10 := by rw [← hW10]; exact balloc (bsame _) _
  have hS10 : Str W10 W9.heap.size (rowV [1, 2, 3, 4]) := by rw [← hW10]; exact Str.new W9 (rowV [1, 2, 3, 4]) _
  have hY10 := lit_bytes hS10 (by unfold maxLen; decide)
  have HB10 := Lib.hid (bstep HB9.out hb10)
  have hY9 := HY9.out.next hb10
  clear hW10 hb10 hS10
  refine (Same.same_any _ _ _ _ _ _ _ _ _ _ W10 hY9 hY10).mono ?_
  rintro e W11 ⟨rfl, rfl⟩
  go_wp2
  go_ret
  exact ⟨rfl, HB10.out⟩
end Go.Proofs.Ytldgdgfplgdipaa.Law16
namespace Go.Proofs.Ytldgdgfplgdipaa
open Go.ChangeShapes Go.WideShapes Go.ChangeAt Go.RowKit
set_option linter.unusedVariables false
set_option maxRecDepth 100000
/-- a step of a device: what is done, its numbers, its bytes, how many pages' fates it has, what stays of the log -/
structure StepD where
  act : Int
  no : Int
  v : Int
  b : List UInt8
  many : Nat
  log : Int
def sdV (x : StepD) (A : Option Addr) (n c : Nat) (P : Option Addr) (pc : Nat) : List Value := [.int .i64 x.act, .int .i64 x.no, .int .i64 x.v, .slice A n c, .slice P x.many pc, .int .i64 x.log]
def StepDE : El StepD where
  size := 6
  pos := by decide
  rel w B vs x := ∃ A n c P pc, vs = sdV x A n c P pc ∧ Bytes w B A n c x.b ∧ In64 x.act ∧ In64 x.no ∧ In64 x.v ∧ In64 x.log ∧ x.many ≤ pc ∧ pc ≤ maxLen
  len := by rintro w B vs p ⟨A, n, c, P, pc, rfl, _⟩; rfl
  one := by rintro w B vs p ⟨A, n, c, P, pc, rfl, _⟩ v hv; simp only [sdV, List.mem_cons, List.not_mem_nil, or_false] at hv; rcases hv with rfl | rfl | rfl | rfl | rfl | rfl <;> rfl
  sub := by rintro w w' B vs p hs ⟨A, n, c, P, pc, e, h, r⟩; exact ⟨A, n, c, P, pc, e, h.sub hs, r⟩
  more := by rintro w B B' vs p hB ⟨A, n, c, P, pc, e, h, r⟩; exact ⟨A, n, c, P, pc, e, h.more hB, r⟩
/-- a step in a slice: its cells -/
theorem stepd_at {wr w : World} {B n c k : Nat} {A : Option Addr} {l : List StepD} (h : ElemsIn StepDE wr w B A n c l) (hk : k < n) : ∃ b o x A2 n2 c2 P pc, A = some ⟨b, o, none⟩ ∧ b < B ∧ l[k]? = some x ∧ Bytes wr B A2 n2 c2 x.b ∧ (In64 x.act ∧ In64 x.no ∧ In64 x.v ∧ In64 x.log) ∧ (x.many ≤ pc ∧ pc ≤ maxLen) ∧
    w.cell? ⟨b, o + k * 6, none⟩ = some (.int .i64 x.act) ∧ w.cell? ⟨b, o + k * 6 + 1, none⟩ = some (.int .i64 x.no) ∧ w.cell? ⟨b, o + k * 6 + 2, none⟩ = some (.int .i64 x.v) ∧ w.cell? ⟨b, o + k * 6 + 3, none⟩ = some (.slice A2 n2 c2) ∧ w.cell? ⟨b, o + k * 6 + 4, none⟩ = some (.slice P x.many pc) ∧ w.cell? ⟨b, o + k * 6 + 5, none⟩ = some (.int .i64 x.log) := by
  have hl : k < l.length := by rw [h.len]; exact hk
  obtain ⟨b, o, vs, e, hb, ⟨A2, n2, c2, P, pc, rfl, hy, h1, h2, h3, h4, h5, h6⟩, hc⟩ := h.at_ hk
  exact ⟨b, o, _, A2, n2, c2, P, pc, e, hb, List.getElem?_eq_getElem hl, hy, ⟨h1, h2, h3, h4⟩, ⟨h5, h6⟩, hc 0 _ rfl, hc 1 _ rfl, hc 2 _ rfl, hc 3 _ rfl, hc 4 _ rfl, hc 5 _ rfl⟩
def RStepD (w : World) (B : Nat) (v : Value) (x : StepD) : Prop := ∃ A n c P pc, v = .agg #[.int .i64 x.act, .int .i64 x.no, .int .i64 x.v, .slice A n c, .slice P x.many pc, .int .i64 x.log] ∧ Bytes w B A n c x.b ∧ In64 x.act ∧ In64 x.no ∧ In64 x.v ∧ In64 x.log ∧ x.many ≤ pc ∧ pc ≤ maxLen
def RStepsD (w : World) (B : Nat) (v : Value) (l : List StepD) : Prop := ∃ A n c, v = .slice A n c ∧ Elems StepDE w B A n c l
section
variable {H : Type} {enc : TypeId × Value → H} {P : Program} {w : World}
theorem slice_of {fuel : Nat} {t e : TypeId} {cs : List Value} {x : DataW H × List MemPlace} (ht : P.underlying t = some (.slice e)) (h : DataW.trod enc P w 0 (fun _ => true) true fuel t cs = some x) : ∃ A n c, cs = [.slice A n c] ∧ (n ≤ c ∧ c ≤ maxLen) := by
  rcases Go.Deep.open_slice ht h with ⟨hcs, _⟩ | ⟨a, len, cap, m, n, D, Pl, hcs, _, hl, hm, _⟩
  · exact ⟨none, 0, 0, hcs, Nat.le_refl _, by unfold maxLen; omega⟩
  · exact ⟨some a, len, cap, hcs, hl, hm⟩
end
section
variable {H : Type} {enc : TypeId × Value → H} {W : World} {base : Nat} {v : Value} {d : DataW H} {p : List MemPlace}
theorem open_stepd (hv : Value.okWide Try.prog W .any base 27 v) (h : DataW.Trod enc Try.prog W 0 (fun _ => true) true 27 v d p) : ∃ x, RStepD W W.heap.size v x := by
  obtain ⟨cs, rfl, hsz⟩ := okWide_struct Try.underlying27 hv
  obtain ⟨l⟩ := cs
  obtain ⟨fuel, hf⟩ := h
  obtain ⟨hl, n, hg⟩ := field_of Try.underlying27 hf
  have hl' : l.length = 6 := hl.trans (by kernel_rfl)
  match l, hl' with
  | [c0, c1, c2, c3, c4, c5], _ =>
    obtain ⟨y0, h0⟩ := hg 0 3 0 1 rfl (by kernel_rfl)
    have h0' : DataW.trod enc Try.prog W 0 (fun _ => true) true n 3 [c0] = some y0 := h0
    obtain ⟨z0, e0, _, q0⟩ := DataW.trod_int Try.underlying3 h0'
    obtain ⟨y1, h1⟩ := hg 1 3 1 1 rfl (by kernel_rfl)
    have h1' : DataW.trod enc Try.prog W 0 (fun _ => true) true n 3 [c1] = some y1 := h1
    obtain ⟨z1, e1, _, q1⟩ := DataW.trod_int Try.underlying3 h1'
    obtain ⟨y2, h2⟩ := hg 2 3 2 1 rfl (by kernel_rfl)
    have h2' : DataW.trod enc Try.prog W 0 (fun _ => true) true n 3 [c2] = some y2 := h2
    obtain ⟨z2, e2, _, q2⟩ := DataW.trod_int Try.underlying3 h2'
    obtain ⟨y3, h3⟩ := hg 3 22 3 1 rfl (by kernel_rfl)
    have h3' : DataW.trod enc Try.prog W 0 (fun _ => true) true n 22 [c3] = some y3 := h3
    obtain ⟨A3, n3, k3, z3, e3, q3⟩ := bytes_of Try.underlying22 Try.underlying5 (by kernel_rfl) h3'
    obtain ⟨w4, g4⟩ := hg 4 25 4 2 rfl (by kernel_rfl)
    have g4' : DataW.trod enc Try.prog W 0 (fun _ => true) true n 25 [c4, c5] = some w4 := g4
    obtain ⟨_, m4, hg4⟩ := field_of Try.underlying25 g4'
    obtain ⟨y4, h4⟩ := hg4 0 23 0 1 rfl (by kernel_rfl)
    have h4' : DataW.trod enc Try.prog W 0 (fun _ => true) true m4 23 [c4] = some y4 := h4
    obtain ⟨A4, n4, k4, e4, q4⟩ := slice_of Try.underlying23 h4'
    obtain ⟨y5, h5⟩ := hg4 1 3 1 1 rfl (by kernel_rfl)
    have h5' : DataW.trod enc Try.prog W 0 (fun _ => true) true m4 3 [c5] = some y5 := h5
    obtain ⟨z5, e5, _, q5⟩ := DataW.trod_int Try.underlying3 h5'
    simp only [List.cons.injEq, and_true] at e0 e1 e2 e3 e4 e5
    subst e0 e1 e2 e3 e4 e5
    exact ⟨⟨z0, z1, z2, z3, n4, z5⟩, A3, n3, k3, A4, k4, rfl, q3, in64 q0, in64 q1, in64 q2, in64 q5, q4.1, q4.2⟩
theorem cells_stepd {n0 : Nat} {l : List Value} {y0 : DataW H × List MemPlace} (hf : DataW.trod enc Try.prog W 0 (fun _ => true) true n0 27 l = some y0) : ∃ x, StepDE.rel W W.heap.size l x := by
  obtain ⟨hl, n, hg⟩ := field_of Try.underlying27 hf
  have hl' : l.length = 6 := hl.trans (by kernel_rfl)
  match l, hl' with
  | [c0, c1, c2, c3, c4, c5], _ =>
    obtain ⟨y0, h0⟩ := hg 0 3 0 1 rfl (by kernel_rfl)
    have h0' : DataW.trod enc Try.prog W 0 (fun _ => true) true n 3 [c0] = some y0 := h0
    obtain ⟨z0, e0, _, q0⟩ := DataW.trod_int Try.underlying3 h0'
    obtain ⟨y1, h1⟩ := hg 1 3 1 1 rfl (by kernel_rfl)
    have h1' : DataW.trod enc Try.prog W 0 (fun _ => true) true n 3 [c1] = some y1 := h1
    obtain ⟨z1, e1, _, q1⟩ := DataW.trod_int Try.underlying3 h1'
    obtain ⟨y2, h2⟩ := hg 2 3 2 1 rfl (by kernel_rfl)
    have h2' : DataW.trod enc Try.prog W 0 (fun _ => true) true n 3 [c2] = some y2 := h2
    obtain ⟨z2, e2, _, q2⟩ := DataW.trod_int Try.underlying3 h2'
    obtain ⟨y3, h3⟩ := hg 3 22 3 1 rfl (by kernel_rfl)
    have h3' : DataW.trod enc Try.prog W 0 (fun _ => true) true n 22 [c3] = some y3 := h3
    obtain ⟨A3, n3, k3, z3, e3, q3⟩ := bytes_of Try.underlying22 Try.underlying5 (by kernel_rfl) h3'
    obtain ⟨w4, g4⟩ := hg 4 25 4 2 rfl (by kernel_rfl)
    have g4' : DataW.trod enc Try.prog W 0 (fun _ => true) true n 25 [c4, c5] = some w4 := g4
    obtain ⟨_, m4, hg4⟩ := field_of Try.underlying25 g4'
    obtain ⟨y4, h4⟩ := hg4 0 23 0 1 rfl (by kernel_rfl)
    have h4' : DataW.trod enc Try.prog W 0 (fun _ => true) true m4 23 [c4] = some y4 := h4
    obtain ⟨A4, n4, k4, e4, q4⟩ := slice_of Try.underlying23 h4'
    obtain ⟨y5, h5⟩ := hg4 1 3 1 1 rfl (by kernel_rfl)
    have h5' : DataW.trod enc Try.prog W 0 (fun _ => true) true m4 3 [c5] = some y5 := h5
    obtain ⟨z5, e5, _, q5⟩ := DataW.trod_int Try.underlying3 h5'
    simp only [List.cons.injEq, and_true] at e0 e1 e2 e3 e4 e5
    subst e0 e1 e2 e3 e4 e5
    exact ⟨⟨z0, z1, z2, z3, n4, z5⟩, A3, n3, k3, A4, k4, rfl, q3, in64 q0, in64 q1, in64 q2, in64 q5, q4.1, q4.2⟩
theorem open_stepsd (hv : Value.okWide Try.prog W .any base 37 v) (h : DataW.Trod enc Try.prog W 0 (fun _ => true) true 37 v d p) : ∃ l, RStepsD W W.heap.size v l := by
  obtain ⟨a, len, cap, rfl⟩ := okWide_slice Try.underlying37 hv
  obtain ⟨fuel, hf⟩ := h
  obtain ⟨A, n, c, l, e, hb⟩ := elems_of StepDE Try.underlying37 (by kernel_rfl) (fun _ _ _ hq => cells_stepd hq) hf
  refine ⟨l, A, n, c, ?_, hb⟩
  simpa [Value.cells] using e
end
end Go.Proofs.Ytldgdgfplgdipaa
namespace Go.Proofs.Ytldgdgfplgdipaa.Law16
open Go.RowKit Go.Maps DevW
set_option linter.unusedVariables false
set_option linter.unusedSimpArgs false
attribute [local go_sem ↓] ldPage_fold stPage_fold bdPage_fold alPage_fold
/-- a page's box, stored into once -/
def StS (b : Nat) (p q : List UInt8) : Reg.LS := fun k _ _ w => match k with
  | 0 => Str w b (rowV p)
  | _ => Str w b (rowV q)
theorem StS.put {b : Nat} {p q : List UInt8} {b1 : Bool} {a : Act} {w w' : World} {dst : Option Tmp} {v : Value} (k : Nat) (h : StS b p q k b1 a w) (hb : Below w.heap.size w w') : StS b p q k b1 (a.put dst v) w' := by
  match k, h with
  | 0, h => exact Str.next h hb
  | _ + 1, h => exact Str.next h hb
/-- the device, and what an operation tells -/
structure Tel where
  N : Nat
  d : Nat
  bs : List Nat
  X : DevX
  X1 : DevX
  e : Int
  t : Tmp
  u : Tmp
def Tel.Now (I : Tel) (w : World) : Prop := ∃ bs', Dev w I.d bs' I.X1 ∧ ∀ b ∈ bs', b ∈ I.bs ∨ I.N ≤ b
def Tel.S (I : Tel) : Reg.LS := fun k _ a w => match k with
  | 0 => Dev w I.d I.bs I.X
  | 1 => a.eval (.tmp I.t) = .int .i64 I.e ∧ I.Now w
  | _ => a.eval (.tmp I.u) = .int .i64 I.e ∧ I.Now w
theorem Tel.Now.next {I : Tel} {w w' : World} (h : I.Now w) (hb : Below w.heap.size w w') : I.Now w' := by
  obtain ⟨bs', h1, h2⟩ := h
  exact ⟨bs', h1.below hb, h2⟩
theorem Tel.put {I : Tel} {b1 : Bool} {a : Act} {w w' : World} {dst : Option Tmp} {v : Value} (hd : dst ≠ some I.t ∧ dst ≠ some I.u) (k : Nat) (h : I.S k b1 a w) (hb : Below w.heap.size w w') : I.S k b1 (a.put dst v) w' := by
  match k, h with
  | 0, h => exact Dev.below h hb
  | 1, h => exact ⟨by rw [Reg.eval_ne hd.1]; exact h.1, h.2.next hb⟩
  | _ + 2, h => exact ⟨by rw [Reg.eval_ne hd.2]; exact h.1, h.2.next hb⟩
abbrev fitsL (X : DevX) (no : Int) : Bool := decide (X.head ≤ no) && decide (no ≤ X.head + (X.log.length : Nat))
/-- the device behind a step, and the error -/
def _root_.Go.Proofs.Ytldgdgfplgdipaa.DevP.go (X : DevX) (act no v : Int) (b : List UInt8) : DevX × Int :=
  if act = 0 then (DevP.op X (fitsN X no) X, DevP.err X (fitsN X no))
  else if act = 1 then (DevP.op X (fitsN X no) (DevP.wrote X no.toNat (DevP.page no v)), DevP.err X (fitsN X no))
  else if act = 2 then (DevP.op X true (DevP.synced X), DevP.err X true)
  else if act = 3 then (DevP.op X true { X with log := X.log ++ b }, DevP.err X true)
  else if act = 4 then (DevP.op X true { X with sure := X.head + (X.log.length : Nat) }, DevP.err X true)
  else if act = 5 then (DevP.op X (fitsL X no) { X with log := X.log.take (no - X.head).toNat, sure := min X.sure no }, DevP.err X (fitsL X no))
  else if act = 6 then (DevP.op X (fitsL X no) (DevP.freed X no), DevP.err X (fitsL X no))
  else (X, 0)
/-- the error of a step, of a device that is nil -/
def _root_.Go.Proofs.Ytldgdgfplgdipaa.DevP.nilErr (act : Int) : Int := if 0 ≤ act ∧ act ≤ 6 then 4 else 0
/-- the call has told a page and an error, and only made memory -/
def TellsNil (w : World) (e : Int) (r : Ending) (w' : World) : Prop := r = .returned (.tuple #[.agg (rowV (SlotP.zeros 512)), .int .i64 e]) ∧ Below w.heap.size w w'
def Tells (w : World) (d : Nat) (bs : List Nat) (X : DevX) (e : Int) (r : Ending) (w' : World) : Prop := ∃ q : List UInt8, q.length = 512 ∧ DevW.Told w d bs X (.tuple #[.agg (rowV q), .int .i64 e]) r w'
set_option maxRecDepth 100000 in
set_option maxHeartbeats 1000000 in
theorem do_nil_0 (no v : Int) (A : Option Addr) (n c : Nat) (P : Option Addr) (m pc : Nat) (lg : Int) (w : World) :
    Calls Try.prog 6 #[.pointer none, .agg #[.int .i64 0, .int .i64 no, .int .i64 v, .slice A n c, .slice P m pc, .int .i64 lg]] w (TellsNil w 4) := by
  have hz : (SlotP.zeros 512).length = 512 := List.length_replicate
  have hal := fun W => run_al (P := Try.prog) arrPage W
  have hbd := fun W => run_bd (P := Try.prog) arrPage W
  obtain ⟨W0, hW0⟩ : ∃ W, ((w.alloc (.cells #[.int .i64 0, .int .i64 no, .int .i64 v, .slice A n c, .slice P m pc, .int .i64 lg] 27)).alloc (.cells (rowV (SlotP.zeros 512)) 30)).alloc (.cells (rowV (SlotP.zeros 512)) 30) = W := ⟨_, rfl⟩
  obtain ⟨HS0, HS1, HS2, HB0, hw0, hz0⟩ := new3 hW0
  have f0 := str6 HS0.out
  have hl0 := HS0.out.lt
  have hl1 := HS1.out.lt
  have hl2 := HS2.out.lt
  clear hz0
  go_enter Try.func6, Try.ntmps6
  go_wp2_with fail
  have HS1_0 := HS1
  have HS2_0 := HS2
  clear HS1 HS2
  refine (Read_nil no _).mono ?_
  rintro r W1 ⟨rfl, hb1⟩
  have HS1_1 := Lib.hid (HS1_0.out.next hb1)
  have HS2_1 := Lib.hid (HS2_0.out.next hb1)
  have HB1 := Lib.hid (bstep HB0.out hb1)
  have f1 := str6 (HS0.out.next hb1)
  have hla := (HS0.out.next hb1).lt
  clear f0 hb1
  have hlb := HS1_1.out.lt
  have hlc := HS2_1.out.lt
  have hst := run_st (P := Try.prog) arrPage HS2_1.out (by rw [rowV_size]; exact hz) hz
  have hg := grown_setRow W1 (w.heap.size + 1 + 1) (rowV (SlotP.zeros 512))
  obtain ⟨W2, hW2⟩ : ∃ W, W1.setRow (w.heap.size + 1 + 1) (rowV (SlotP.zeros 512)) = W := ⟨_, rfl⟩
  rw [hW2] at hst hg
  have HS1_2 := Lib.hid (HS1_1.out.grown hg (by omega))
  have HS2_2 : Hid (Str W2 (w.heap.size + 1 + 1) (rowV (SlotP.zeros 512))) := Lib.hid (by rw [← hW2]; exact HS2_1.out.setRow)
  have HB2 := Lib.hid (below_grown HB1.out hg (by omega))
  clear hg hW2 f1
  go_wp2_with fail
  refine Reg.wp_region_box (R := (Reg.extB W2.heap.size [w.heap.size + 1])) (W := W2) (Reg.LineJ (Reg.Line.mk [3] 5 (StS (w.heap.size + 1) (SlotP.zeros 512) (SlotP.zeros 512)))) [Reg.eqv (.agg (rowV (SlotP.zeros 512))), Reg.eqv (.int .i64 4), Reg.eqv (.int .i64 4), Reg.any, Reg.eqv (.int .i64 4)] 78 [[(6, none)], [(7, none)], [(76, some 1)], [(4, none), (75, some 0)], [(77, some 2)]] rfl (by kernel_rfl) (by kernel_rfl) (fun _ h => Reg.line_zero (l := (Reg.Line.mk [3] 5 (StS (w.heap.size + 1) (SlotP.zeros 512) (SlotP.zeros 512)))) HS1_2.out h) (by kernel_rfl) ?_ [some 75, some 76, some 77, none, some 5] (by kernel_rfl) ?_
  · refine ⟨?_, ?_, ?_, ?_, ?_, trivial⟩
    · refine Reg.oblL_ord (l := (Reg.Line.mk [3] 5 (StS (w.heap.size + 1) (SlotP.zeros 512) (SlotP.zeros 512)))) (by show 0 ∉ [3] ∧ 0 ≠ 5; decide) (Reg.extB_next rfl) (fun k1 b1 a1 w1 v1 w2 h1 h2 => StS.put (b1 := b1) (a := a1) (dst := (some 75)) (v := v1) k1 h1 h2) ?_
      intro ax wx hx hs
      obtain ⟨e6, -⟩ := hs
      have g6 := Reg.ev (v := .pointer (some ⟨w.heap.size + 1 + 1, 0, none⟩)) e6
      refine Reg.obl_freeL rfl ?_
      have hld := run_ld (P := Try.prog) arrPage (Reg.KeepB.str hx HS2_2.out (HS2_2.out.lt) (by simp)) hz
      exact Reg.wp_eqvB (Option.some_ne_none _) (by go_simp) rfl
    · refine Reg.oblL_ord (l := (Reg.Line.mk [3] 5 (StS (w.heap.size + 1) (SlotP.zeros 512) (SlotP.zeros 512)))) (by show 1 ∉ [3] ∧ 1 ≠ 5; decide) (Reg.extB_next rfl) (fun k1 b1 a1 w1 v1 w2 h1 h2 => StS.put (b1 := b1) (a := a1) (dst := (some 76)) (v := v1) k1 h1 h2) ?_
      intro ax wx hx hs
      obtain ⟨e7, -⟩ := hs
      have g7 := Reg.ev (v := .int .i64 4) e7
      exact Reg.obl_freeL rfl (Reg.wp_eqvB (Option.some_ne_none _) (by go_simp) rfl)
    · refine Reg.oblL_ord (l := (Reg.Line.mk [3] 5 (StS (w.heap.size + 1) (SlotP.zeros 512) (SlotP.zeros 512)))) (by show 2 ∉ [3] ∧ 2 ≠ 5; decide) (Reg.extB_next rfl) (fun k1 b1 a1 w1 v1 w2 h1 h2 => StS.put (b1 := b1) (a := a1) (dst := (some 77)) (v := v1) k1 h1 h2) ?_
      intro ax wx hx hs
      obtain ⟨e76, -⟩ := hs
      have g76 := Reg.ev (v := .int .i64 4) e76
      refine Reg.obl_freeL rfl ?_
      go_simp
      refine (code_any (4) wx).mono ?_
      rintro r wy ⟨rfl, rfl⟩
      exact Reg.doneB (Option.some_ne_none _) rfl (bsame _)
    · refine Reg.oblL_line (l := (Reg.Line.mk [3] 5 (StS (w.heap.size + 1) (SlotP.zeros 512) (SlotP.zeros 512)))) (k := 0) rfl rfl (by show List.Nodup [3]; decide) (by show 3 ≠ 5; decide) (by show 3 < 5; decide) (.inl rfl) ?_
      intro b ax wx hx hs has hwb hS
      obtain ⟨e4, e75, -⟩ := hs
      have g4 := Reg.ev (v := .pointer (some ⟨w.heap.size + 1, 0, none⟩)) e4
      have g75 := Reg.ev (v := .agg (rowV (SlotP.zeros 512))) e75
      have hxs : W2.heap.size ≤ wx.heap.size := Reg.KeepB.size hx
      have hst := run_st (P := Try.prog) arrPage (show Str wx (w.heap.size + 1) (rowV (SlotP.zeros 512)) from hS) (by rw [rowV_size]; exact hz) hz
      have k3 := (show Str wx (w.heap.size + 1) (rowV (SlotP.zeros 512)) from hS).setRow (cs' := rowV (SlotP.zeros 512))
      refine Oper.wp_mono (K := fun a1 w1 => a1 = ax ∧ w1 = wx.setRow (w.heap.size + 1) (rowV (SlotP.zeros 512))) ?_ ?_
      · rintro a1 w1 ⟨rfl, rfl⟩
        exact ⟨⟨undef, rfl, fun _ => rfl, trivial, Reg.KeepB.grown (Reg.KeepB.of (Below.refl _ wx)) (grown_setRow wx _ _) hxs (.inr (by simp))⟩, k3⟩
      · clear has k3 hS
        go_simp
    · refine Reg.oblL_ord (l := (Reg.Line.mk [3] 5 (StS (w.heap.size + 1) (SlotP.zeros 512) (SlotP.zeros 512)))) (by show 4 ∉ [3] ∧ 4 ≠ 5; decide) (Reg.extB_next rfl) (fun k1 b1 a1 w1 v1 w2 h1 h2 => StS.put (b1 := b1) (a := a1) (dst := (some 5)) (v := v1) k1 h1 h2) ?_
      intro ax wx hx hs
      obtain ⟨e77, -⟩ := hs
      have g77 := Reg.ev (v := .int .i64 4) e77
      exact Reg.obl_freeL rfl (Reg.wp_eqvB (Option.some_ne_none _) (by go_simp) rfl)
  · intro Wf listed hwf hall
    simp only [Reg.Fin]
    rintro _ rfl _ rfl _ rfl vn3 hn3 _ rfl
    intro hJ
    obtain ⟨bL, hbL, hSL⟩ := Reg.line_end (l := (Reg.Line.mk [3] 5 (StS (w.heap.size + 1) (SlotP.zeros 512) (SlotP.zeros 512)))) (n := 5) hall (by show ∀ c ∈ [3], c < 5; decide) hJ
    clear hJ hall hbL
    go_simp
    have hSf : Str Wf (w.heap.size + 1) (rowV (SlotP.zeros 512)) := hSL
    have hkf : Reg.KeepB W2.heap.size [w.heap.size + 1] W2 Wf := hwf
    have hBf : Below w.heap.size w Wf := HB2.out.trans (hkf.below HB2.out.size (by simp))
    have HSF := Lib.hid hSf
    have HBF := Lib.hid hBf
    clear hSf hkf hwf hSL hBf
    go_wp2_with fail
    exact bodyPost_ret (v := .tuple #[.agg (rowV (SlotP.zeros 512)), .int .i64 4]) (results_page Try.results6 _ HSF.out hz rfl) rfl ⟨rfl, HBF.out⟩
set_option maxRecDepth 100000 in
set_option maxHeartbeats 1000000 in
theorem do_nil_1 (no v : Int) (A : Option Addr) (n c : Nat) (P : Option Addr) (m pc : Nat) (lg : Int) (w : World) :
    Calls Try.prog 6 #[.pointer none, .agg #[.int .i64 1, .int .i64 no, .int .i64 v, .slice A n c, .slice P m pc, .int .i64 lg]] w (TellsNil w 4) := by
  have hz : (SlotP.zeros 512).length = 512 := List.length_replicate
  have hal := fun W => run_al (P := Try.prog) arrPage W
  have hbd := fun W => run_bd (P := Try.prog) arrPage W
  obtain ⟨W0, hW0⟩ : ∃ W, ((w.alloc (.cells #[.int .i64 1, .int .i64 no, .int .i64 v, .slice A n c, .slice P m pc, .int .i64 lg] 27)).alloc (.cells (rowV (SlotP.zeros 512)) 30)).alloc (.cells (rowV (SlotP.zeros 512)) 30) = W := ⟨_, rfl⟩
  obtain ⟨HS0, HS1, HS2, HB0, hw0, hz0⟩ := new3 hW0
  have f0 := str6 HS0.out
  have hl0 := HS0.out.lt
  have hl1 := HS1.out.lt
  have hl2 := HS2.out.lt
  clear hz0
  go_enter Try.func6, Try.ntmps6
  go_wp2_with fail
  have HS1_0 := HS1
  have HS2_0 := HS2
  clear HS1 HS2
  refine Reg.wp_region_vals (R := ext) (W := W0) [Reg.eqv (.pointer none), Reg.eqv (.pointer (some ⟨w.heap.size, 1, none⟩)), Reg.eqv (.int .i64 no), Reg.eqv (.pointer (some ⟨w.heap.size, 1, none⟩)), Reg.eqv (.int .i64 no), Reg.eqv (.pointer (some ⟨w.heap.size, 2, none⟩)), Reg.eqv (.int .i64 v), Reg.eqv (.agg (rowV (DevP.page no v))), Reg.eqv (.int .i64 4), Reg.eqv (.int .i64 4)] 78 [[(0, none)], [(3, none)], [(22, some 1)], [(3, none)], [(24, some 3)], [(3, none)], [(26, some 5)], [(25, some 4), (27, some 6)], [(21, some 0), (23, some 2), (28, some 7)], [(29, some 8)]] rfl (by kernel_rfl) (by kernel_rfl) (by kernel_rfl) ?_ [some 21, some 22, some 23, some 24, some 25, some 26, some 27, some 28, some 29, some 7] (by kernel_rfl) ?_
  · refine ⟨?_, ?_, ?_, ?_, ?_, ?_, ?_, ?_, ?_, ?_, trivial⟩
    · intro ax wx hx hs
      obtain ⟨e0, -⟩ := hs
      have g0 := Reg.ev (v := .pointer none) e0
      exact Reg.obl_free rfl (Reg.wp_eqv (Option.some_ne_none _) (by go_simp) rfl)
    · intro ax wx hx hs
      obtain ⟨e3, -⟩ := hs
      have g3 := Reg.ev (v := .pointer (some ⟨w.heap.size, 0, none⟩)) e3
      exact Reg.obl_free rfl (Reg.wp_eqv (Option.some_ne_none _) (by go_simp) rfl)
    · intro ax wx hx hs
      obtain ⟨e22, -⟩ := hs
      have g22 := Reg.ev (v := .pointer (some ⟨w.heap.size, 1, none⟩)) e22
      have l0 := str6 (HS0.out.next hx)
      exact Reg.obl_free rfl (Reg.wp_eqv (Option.some_ne_none _) (by go_simp) rfl)
    · intro ax wx hx hs
      obtain ⟨e3, -⟩ := hs
      have g3 := Reg.ev (v := .pointer (some ⟨w.heap.size, 0, none⟩)) e3
      exact Reg.obl_free rfl (Reg.wp_eqv (Option.some_ne_none _) (by go_simp) rfl)
    · intro ax wx hx hs
      obtain ⟨e24, -⟩ := hs
      have g24 := Reg.ev (v := .pointer (some ⟨w.heap.size, 1, none⟩)) e24
      have l0 := str6 (HS0.out.next hx)
      exact Reg.obl_free rfl (Reg.wp_eqv (Option.some_ne_none _) (by go_simp) rfl)
    · intro ax wx hx hs
      obtain ⟨e3, -⟩ := hs
      have g3 := Reg.ev (v := .pointer (some ⟨w.heap.size, 0, none⟩)) e3
      exact Reg.obl_free rfl (Reg.wp_eqv (Option.some_ne_none _) (by go_simp) rfl)
    · intro ax wx hx hs
      obtain ⟨e26, -⟩ := hs
      have g26 := Reg.ev (v := .pointer (some ⟨w.heap.size, 2, none⟩)) e26
      have l0 := str6 (HS0.out.next hx)
      exact Reg.obl_free rfl (Reg.wp_eqv (Option.some_ne_none _) (by go_simp) rfl)
    · intro ax wx hx hs
      obtain ⟨e25, e27, -⟩ := hs
      have g25 := Reg.ev (v := .int .i64 no) e25
      have g27 := Reg.ev (v := .int .i64 v) e27
      refine Reg.obl_free rfl ?_
      go_simp
      refine (of_any no v wx).mono ?_
      rintro r wy ⟨rfl, hby⟩
      exact Reg.done (Option.some_ne_none _) rfl hby
    · intro ax wx hx hs
      obtain ⟨e21, e23, e28, -⟩ := hs
      have g21 := Reg.ev (v := .pointer none) e21
      have g23 := Reg.ev (v := .int .i64 no) e23
      have g28 := Reg.ev (v := .agg (rowV (DevP.page no v))) e28
      refine Reg.obl_free rfl ?_
      go_simp
      refine (Write_nil no _ wx).mono ?_
      rintro r wy ⟨rfl, hby⟩
      exact Reg.done (Option.some_ne_none _) rfl hby
    · intro ax wx hx hs
      obtain ⟨e29, -⟩ := hs
      have g29 := Reg.ev (v := .int .i64 4) e29
      exact Reg.obl_free rfl (Reg.wp_eqv (Option.some_ne_none _) (by go_simp) rfl)
  · intro W1 hwf
    simp only [Reg.Fin]
    rintro _ rfl _ rfl _ rfl _ rfl _ rfl _ rfl _ rfl _ rfl _ rfl _ rfl
    go_simp
    have hb1 : Below W0.heap.size W0 W1 := hwf
    have HS1_1 := Lib.hid (HS1_0.out.next hb1)
    have HS2_1 := Lib.hid (HS2_0.out.next hb1)
    have HB1 := Lib.hid (bstep HB0.out hb1)
    clear hb1 hwf f0
    have hlb := HS1_1.out.lt
    have hlc := HS2_1.out.lt
    go_wp2_with fail
    refine Reg.wp_region_box (R := (Reg.extB W1.heap.size [w.heap.size + 1])) (W := W1) (Reg.LineJ (Reg.Line.mk [3] 5 (StS (w.heap.size + 1) (SlotP.zeros 512) (SlotP.zeros 512)))) [Reg.eqv (.agg (rowV (SlotP.zeros 512))), Reg.eqv (.int .i64 4), Reg.eqv (.int .i64 4), Reg.any, Reg.eqv (.int .i64 4)] 78 [[(6, none)], [(7, none)], [(76, some 1)], [(4, none), (75, some 0)], [(77, some 2)]] rfl (by kernel_rfl) (by kernel_rfl) (fun _ h => Reg.line_zero (l := (Reg.Line.mk [3] 5 (StS (w.heap.size + 1) (SlotP.zeros 512) (SlotP.zeros 512)))) HS1_1.out h) (by kernel_rfl) ?_ [some 75, some 76, some 77, none, some 5] (by kernel_rfl) ?_
    · refine ⟨?_, ?_, ?_, ?_, ?_, trivial⟩
      · refine Reg.oblL_ord (l := (Reg.Line.mk [3] 5 (StS (w.heap.size + 1) (SlotP.zeros 512) (SlotP.zeros 512)))) (by show 0 ∉ [3] ∧ 0 ≠ 5; decide) (Reg.extB_next rfl) (fun k1 b1 a1 w1 v1 w2 h1 h2 => StS.put (b1 := b1) (a := a1) (dst := (some 75)) (v := v1) k1 h1 h2) ?_
        intro ax wx hx hs
        obtain ⟨e6, -⟩ := hs
        have g6 := Reg.ev (v := .pointer (some ⟨w.heap.size + 1 + 1, 0, none⟩)) e6
        refine Reg.obl_freeL rfl ?_
        have hld := run_ld (P := Try.prog) arrPage (Reg.KeepB.str hx HS2_1.out (HS2_1.out.lt) (by simp)) hz
        exact Reg.wp_eqvB (Option.some_ne_none _) (by go_simp) rfl
      · refine Reg.oblL_ord (l := (Reg.Line.mk [3] 5 (StS (w.heap.size + 1) (SlotP.zeros 512) (SlotP.zeros 512)))) (by show 1 ∉ [3] ∧ 1 ≠ 5; decide) (Reg.extB_next rfl) (fun k1 b1 a1 w1 v1 w2 h1 h2 => StS.put (b1 := b1) (a := a1) (dst := (some 76)) (v := v1) k1 h1 h2) ?_
        intro ax wx hx hs
        obtain ⟨e7, -⟩ := hs
        have g7 := Reg.ev (v := .int .i64 4) e7
        exact Reg.obl_freeL rfl (Reg.wp_eqvB (Option.some_ne_none _) (by go_simp) rfl)
      · refine Reg.oblL_ord (l := (Reg.Line.mk [3] 5 (StS (w.heap.size + 1) (SlotP.zeros 512) (SlotP.zeros 512)))) (by show 2 ∉ [3] ∧ 2 ≠ 5; decide) (Reg.extB_next rfl) (fun k1 b1 a1 w1 v1 w2 h1 h2 => StS.put (b1 := b1) (a := a1) (dst := (some 77)) (v := v1) k1 h1 h2) ?_
        intro ax wx hx hs
        obtain ⟨e76, -⟩ := hs
        have g76 := Reg.ev (v := .int .i64 4) e76
        refine Reg.obl_freeL rfl ?_
        go_simp
        refine (code_any (4) wx).mono ?_
        rintro r wy ⟨rfl, rfl⟩
        exact Reg.doneB (Option.some_ne_none _) rfl (bsame _)
      · refine Reg.oblL_line (l := (Reg.Line.mk [3] 5 (StS (w.heap.size + 1) (SlotP.zeros 512) (SlotP.zeros 512)))) (k := 0) rfl rfl (by show List.Nodup [3]; decide) (by show 3 ≠ 5; decide) (by show 3 < 5; decide) (.inl rfl) ?_
        intro b ax wx hx hs has hwb hS
        obtain ⟨e4, e75, -⟩ := hs
        have g4 := Reg.ev (v := .pointer (some ⟨w.heap.size + 1, 0, none⟩)) e4
        have g75 := Reg.ev (v := .agg (rowV (SlotP.zeros 512))) e75
        have hxs : W1.heap.size ≤ wx.heap.size := Reg.KeepB.size hx
        have hst := run_st (P := Try.prog) arrPage (show Str wx (w.heap.size + 1) (rowV (SlotP.zeros 512)) from hS) (by rw [rowV_size]; exact hz) hz
        have k3 := (show Str wx (w.heap.size + 1) (rowV (SlotP.zeros 512)) from hS).setRow (cs' := rowV (SlotP.zeros 512))
        refine Oper.wp_mono (K := fun a1 w1 => a1 = ax ∧ w1 = wx.setRow (w.heap.size + 1) (rowV (SlotP.zeros 512))) ?_ ?_
        · rintro a1 w1 ⟨rfl, rfl⟩
          exact ⟨⟨undef, rfl, fun _ => rfl, trivial, Reg.KeepB.grown (Reg.KeepB.of (Below.refl _ wx)) (grown_setRow wx _ _) hxs (.inr (by simp))⟩, k3⟩
        · clear has k3 hS
          go_simp
      · refine Reg.oblL_ord (l := (Reg.Line.mk [3] 5 (StS (w.heap.size + 1) (SlotP.zeros 512) (SlotP.zeros 512)))) (by show 4 ∉ [3] ∧ 4 ≠ 5; decide) (Reg.extB_next rfl) (fun k1 b1 a1 w1 v1 w2 h1 h2 => StS.put (b1 := b1) (a := a1) (dst := (some 5)) (v := v1) k1 h1 h2) ?_
        intro ax wx hx hs
        obtain ⟨e77, -⟩ := hs
        have g77 := Reg.ev (v := .int .i64 4) e77
        exact Reg.obl_freeL rfl (Reg.wp_eqvB (Option.some_ne_none _) (by go_simp) rfl)
    · intro Wf listed hwf hall
      simp only [Reg.Fin]
      rintro _ rfl _ rfl _ rfl vn3 hn3 _ rfl
      intro hJ
      obtain ⟨bL, hbL, hSL⟩ := Reg.line_end (l := (Reg.Line.mk [3] 5 (StS (w.heap.size + 1) (SlotP.zeros 512) (SlotP.zeros 512)))) (n := 5) hall (by show ∀ c ∈ [3], c < 5; decide) hJ
      clear hJ hall hbL
      go_simp
      have hSf : Str Wf (w.heap.size + 1) (rowV (SlotP.zeros 512)) := hSL
      have hkf : Reg.KeepB W1.heap.size [w.heap.size + 1] W1 Wf := hwf
      have hBf : Below w.heap.size w Wf := HB1.out.trans (hkf.below HB1.out.size (by simp))
      have HSF := Lib.hid hSf
      have HBF := Lib.hid hBf
      clear hSf hkf hwf hSL hBf
      go_wp2_with fail
      exact bodyPost_ret (v := .tuple #[.agg (rowV (SlotP.zeros 512)), .int .i64 4]) (results_page Try.results6 _ HSF.out hz rfl) rfl ⟨rfl, HBF.out⟩
set_option maxRecDepth 100000 in
set_option maxHeartbeats 1000000 in
theorem do_nil_2 (no v : Int) (A : Option Addr) (n c : Nat) (P : Option Addr) (m pc : Nat) (lg : Int) (w : World) :
    Calls Try.prog 6 #[.pointer none, .agg #[.int .i64 2, .int .i64 no, .int .i64 v, .slice A n c, .slice P m pc, .int .i64 lg]] w (TellsNil w 4) := by
  have hz : (SlotP.zeros 512).length = 512 := List.length_replicate
  have hal := fun W => run_al (P := Try.prog) arrPage W
  have hbd := fun W => run_bd (P := Try.prog) arrPage W
  obtain ⟨W0, hW0⟩ : ∃ W, ((w.alloc (.cells #[.int .i64 2, .int .i64 no, .int .i64 v, .slice A n c, .slice P m pc, .int .i64 lg] 27)).alloc (.cells (rowV (SlotP.zeros 512)) 30)).alloc (.cells (rowV (SlotP.zeros 512)) 30) = W := ⟨_, rfl⟩
  obtain ⟨HS0, HS1, HS2, HB0, hw0, hz0⟩ := new3 hW0
  have f0 := str6 HS0.out
  have hl0 := HS0.out.lt
  have hl1 := HS1.out.lt
  have hl2 := HS2.out.lt
  clear hz0
  go_enter Try.func6, Try.ntmps6
  go_wp2_with fail
  have HS1_0 := HS1
  have HS2_0 := HS2
  clear HS1 HS2
  refine (Sync_nil _).mono ?_
  rintro r W1 ⟨rfl, hb1⟩
  have HS1_1 := Lib.hid (HS1_0.out.next hb1)
  have HS2_1 := Lib.hid (HS2_0.out.next hb1)
  have HB1 := Lib.hid (bstep HB0.out hb1)
  have f1 := str6 (HS0.out.next hb1)
  have hla := (HS0.out.next hb1).lt
  clear f0 hb1
  have hlb := HS1_1.out.lt
  have hlc := HS2_1.out.lt
  go_wp2_with fail
  refine Reg.wp_region_box (R := (Reg.extB W1.heap.size [w.heap.size + 1])) (W := W1) (Reg.LineJ (Reg.Line.mk [3] 5 (StS (w.heap.size + 1) (SlotP.zeros 512) (SlotP.zeros 512)))) [Reg.eqv (.agg (rowV (SlotP.zeros 512))), Reg.eqv (.int .i64 4), Reg.eqv (.int .i64 4), Reg.any, Reg.eqv (.int .i64 4)] 78 [[(6, none)], [(7, none)], [(76, some 1)], [(4, none), (75, some 0)], [(77, some 2)]] rfl (by kernel_rfl) (by kernel_rfl) (fun _ h => Reg.line_zero (l := (Reg.Line.mk [3] 5 (StS (w.heap.size + 1) (SlotP.zeros 512) (SlotP.zeros 512)))) HS1_1.out h) (by kernel_rfl) ?_ [some 75, some 76, some 77, none, some 5] (by kernel_rfl) ?_
  · refine ⟨?_, ?_, ?_, ?_, ?_, trivial⟩
    · refine Reg.oblL_ord (l := (Reg.Line.mk [3] 5 (StS (w.heap.size + 1) (SlotP.zeros 512) (SlotP.zeros 512)))) (by show 0 ∉ [3] ∧ 0 ≠ 5; decide) (Reg.extB_next rfl) (fun k1 b1 a1 w1 v1 w2 h1 h2 => StS.put (b1 := b1) (a := a1) (dst := (some 75)) (v := v1) k1 h1 h2) ?_
      intro ax wx hx hs
      obtain ⟨e6, -⟩ := hs
      have g6 := Reg.ev (v := .pointer (some ⟨w.heap.size + 1 + 1, 0, none⟩)) e6
      refine Reg.obl_freeL rfl ?_
      have hld := run_ld (P := Try.prog) arrPage (Reg.KeepB.str hx HS2_1.out (HS2_1.out.lt) (by simp)) hz
      exact Reg.wp_eqvB (Option.some_ne_none _) (by go_simp) rfl
    · refine Reg.oblL_ord (l := (Reg.Line.mk [3] 5 (StS (w.heap.size + 1) (SlotP.zeros 512) (SlotP.zeros 512)))) (by show 1 ∉ [3] ∧ 1 ≠ 5; decide) (Reg.extB_next rfl) (fun k1 b1 a1 w1 v1 w2 h1 h2 => StS.put (b1 := b1) (a := a1) (dst := (some 76)) (v := v1) k1 h1 h2) ?_
      intro ax wx hx hs
      obtain ⟨e7, -⟩ := hs
      have g7 := Reg.ev (v := .int .i64 4) e7
      exact Reg.obl_freeL rfl (Reg.wp_eqvB (Option.some_ne_none _) (by go_simp) rfl)
    · refine Reg.oblL_ord (l := (Reg.Line.mk [3] 5 (StS (w.heap.size + 1) (SlotP.zeros 512) (SlotP.zeros 512)))) (by show 2 ∉ [3] ∧ 2 ≠ 5; decide) (Reg.extB_next rfl) (fun k1 b1 a1 w1 v1 w2 h1 h2 => StS.put (b1 := b1) (a := a1) (dst := (some 77)) (v := v1) k1 h1 h2) ?_
      intro ax wx hx hs
      obtain ⟨e76, -⟩ := hs
      have g76 := Reg.ev (v := .int .i64 4) e76
      refine Reg.obl_freeL rfl ?_
      go_simp
      refine (code_any (4) wx).mono ?_
      rintro r wy ⟨rfl, rfl⟩
      exact Reg.doneB (Option.some_ne_none _) rfl (bsame _)
    · refine Reg.oblL_line (l := (Reg.Line.mk [3] 5 (StS (w.heap.size + 1) (SlotP.zeros 512) (SlotP.zeros 512)))) (k := 0) rfl rfl (by show List.Nodup [3]; decide) (by show 3 ≠ 5; decide) (by show 3 < 5; decide) (.inl rfl) ?_
      intro b ax wx hx hs has hwb hS
      obtain ⟨e4, e75, -⟩ := hs
      have g4 := Reg.ev (v := .pointer (some ⟨w.heap.size + 1, 0, none⟩)) e4
      have g75 := Reg.ev (v := .agg (rowV (SlotP.zeros 512))) e75
      have hxs : W1.heap.size ≤ wx.heap.size := Reg.KeepB.size hx
      have hst := run_st (P := Try.prog) arrPage (show Str wx (w.heap.size + 1) (rowV (SlotP.zeros 512)) from hS) (by rw [rowV_size]; exact hz) hz
      have k3 := (show Str wx (w.heap.size + 1) (rowV (SlotP.zeros 512)) from hS).setRow (cs' := rowV (SlotP.zeros 512))
      refine Oper.wp_mono (K := fun a1 w1 => a1 = ax ∧ w1 = wx.setRow (w.heap.size + 1) (rowV (SlotP.zeros 512))) ?_ ?_
      · rintro a1 w1 ⟨rfl, rfl⟩
        exact ⟨⟨undef, rfl, fun _ => rfl, trivial, Reg.KeepB.grown (Reg.KeepB.of (Below.refl _ wx)) (grown_setRow wx _ _) hxs (.inr (by simp))⟩, k3⟩
      · clear has k3 hS
        go_simp
    · refine Reg.oblL_ord (l := (Reg.Line.mk [3] 5 (StS (w.heap.size + 1) (SlotP.zeros 512) (SlotP.zeros 512)))) (by show 4 ∉ [3] ∧ 4 ≠ 5; decide) (Reg.extB_next rfl) (fun k1 b1 a1 w1 v1 w2 h1 h2 => StS.put (b1 := b1) (a := a1) (dst := (some 5)) (v := v1) k1 h1 h2) ?_
      intro ax wx hx hs
      obtain ⟨e77, -⟩ := hs
      have g77 := Reg.ev (v := .int .i64 4) e77
      exact Reg.obl_freeL rfl (Reg.wp_eqvB (Option.some_ne_none _) (by go_simp) rfl)
  · intro Wf listed hwf hall
    simp only [Reg.Fin]
    rintro _ rfl _ rfl _ rfl vn3 hn3 _ rfl
    intro hJ
    obtain ⟨bL, hbL, hSL⟩ := Reg.line_end (l := (Reg.Line.mk [3] 5 (StS (w.heap.size + 1) (SlotP.zeros 512) (SlotP.zeros 512)))) (n := 5) hall (by show ∀ c ∈ [3], c < 5; decide) hJ
    clear hJ hall hbL
    go_simp
    have hSf : Str Wf (w.heap.size + 1) (rowV (SlotP.zeros 512)) := hSL
    have hkf : Reg.KeepB W1.heap.size [w.heap.size + 1] W1 Wf := hwf
    have hBf : Below w.heap.size w Wf := HB1.out.trans (hkf.below HB1.out.size (by simp))
    have HSF := Lib.hid hSf
    have HBF := Lib.hid hBf
    clear hSf hkf hwf hSL hBf
    go_wp2_with fail
    exact bodyPost_ret (v := .tuple #[.agg (rowV (SlotP.zeros 512)), .int .i64 4]) (results_page Try.results6 _ HSF.out hz rfl) rfl ⟨rfl, HBF.out⟩
set_option maxRecDepth 100000 in
set_option maxHeartbeats 1000000 in
theorem do_nil_3 (no v : Int) (A : Option Addr) (n c : Nat) (P : Option Addr) (m pc : Nat) (lg : Int) (w : World) :
    Calls Try.prog 6 #[.pointer none, .agg #[.int .i64 3, .int .i64 no, .int .i64 v, .slice A n c, .slice P m pc, .int .i64 lg]] w (TellsNil w 4) := by
  have hz : (SlotP.zeros 512).length = 512 := List.length_replicate
  have hal := fun W => run_al (P := Try.prog) arrPage W
  have hbd := fun W => run_bd (P := Try.prog) arrPage W
  obtain ⟨W0, hW0⟩ : ∃ W, ((w.alloc (.cells #[.int .i64 3, .int .i64 no, .int .i64 v, .slice A n c, .slice P m pc, .int .i64 lg] 27)).alloc (.cells (rowV (SlotP.zeros 512)) 30)).alloc (.cells (rowV (SlotP.zeros 512)) 30) = W := ⟨_, rfl⟩
  obtain ⟨HS0, HS1, HS2, HB0, hw0, hz0⟩ := new3 hW0
  have f0 := str6 HS0.out
  have hl0 := HS0.out.lt
  have hl1 := HS1.out.lt
  have hl2 := HS2.out.lt
  clear hz0
  go_enter Try.func6, Try.ntmps6
  go_wp2_with fail
  have HS1_0 := HS1
  have HS2_0 := HS2
  clear HS1 HS2
  refine (Append_nil A n c _).mono ?_
  rintro r W1 ⟨rfl, hb1⟩
  have HS1_1 := Lib.hid (HS1_0.out.next hb1)
  have HS2_1 := Lib.hid (HS2_0.out.next hb1)
  have HB1 := Lib.hid (bstep HB0.out hb1)
  have f1 := str6 (HS0.out.next hb1)
  have hla := (HS0.out.next hb1).lt
  clear f0 hb1
  have hlb := HS1_1.out.lt
  have hlc := HS2_1.out.lt
  go_wp2_with fail
  refine Reg.wp_region_box (R := (Reg.extB W1.heap.size [w.heap.size + 1])) (W := W1) (Reg.LineJ (Reg.Line.mk [3] 5 (StS (w.heap.size + 1) (SlotP.zeros 512) (SlotP.zeros 512)))) [Reg.eqv (.agg (rowV (SlotP.zeros 512))), Reg.eqv (.int .i64 4), Reg.eqv (.int .i64 4), Reg.any, Reg.eqv (.int .i64 4)] 78 [[(6, none)], [(7, none)], [(76, some 1)], [(4, none), (75, some 0)], [(77, some 2)]] rfl (by kernel_rfl) (by kernel_rfl) (fun _ h => Reg.line_zero (l := (Reg.Line.mk [3] 5 (StS (w.heap.size + 1) (SlotP.zeros 512) (SlotP.zeros 512)))) HS1_1.out h) (by kernel_rfl) ?_ [some 75, some 76, some 77, none, some 5] (by kernel_rfl) ?_
  · refine ⟨?_, ?_, ?_, ?_, ?_, trivial⟩
    · refine Reg.oblL_ord (l := (Reg.Line.mk [3] 5 (StS (w.heap.size + 1) (SlotP.zeros 512) (SlotP.zeros 512)))) (by show 0 ∉ [3] ∧ 0 ≠ 5; decide) (Reg.extB_next rfl) (fun k1 b1 a1 w1 v1 w2 h1 h2 => StS.put (b1 := b1) (a := a1) (dst := (some 75)) (v := v1) k1 h1 h2) ?_
      intro ax wx hx hs
      obtain ⟨e6, -⟩ := hs
      have g6 := Reg.ev (v := .pointer (some ⟨w.heap.size + 1 + 1, 0, none⟩)) e6
      refine Reg.obl_freeL rfl ?_
      have hld := run_ld (P := Try.prog) arrPage (Reg.KeepB.str hx HS2_1.out (HS2_1.out.lt) (by simp)) hz
      exact Reg.wp_eqvB (Option.some_ne_none _) (by go_simp) rfl
    · refine Reg.oblL_ord (l := (Reg.Line.mk [3] 5 (StS (w.heap.size + 1) (SlotP.zeros 512) (SlotP.zeros 512)))) (by show 1 ∉ [3] ∧ 1 ≠ 5; decide) (Reg.extB_next rfl) (fun k1 b1 a1 w1 v1 w2 h1 h2 => StS.put (b1 := b1) (a := a1) (dst := (some 76)) (v := v1) k1 h1 h2) ?_
      intro ax wx hx hs
      obtain ⟨e7, -⟩ := hs
      have g7 := Reg.ev (v := .int .i64 4) e7
      exact Reg.obl_freeL rfl (Reg.wp_eqvB (Option.some_ne_none _) (by go_simp) rfl)
    · refine Reg.oblL_ord (l := (Reg.Line.mk [3] 5 (StS (w.heap.size + 1) (SlotP.zeros 512) (SlotP.zeros 512)))) (by show 2 ∉ [3] ∧ 2 ≠ 5; decide) (Reg.extB_next rfl) (fun k1 b1 a1 w1 v1 w2 h1 h2 => StS.put (b1 := b1) (a := a1) (dst := (some 77)) (v := v1) k1 h1 h2) ?_
      intro ax wx hx hs
      obtain ⟨e76, -⟩ := hs
      have g76 := Reg.ev (v := .int .i64 4) e76
      refine Reg.obl_freeL rfl ?_
      go_simp
      refine (code_any (4) wx).mono ?_
      rintro r wy ⟨rfl, rfl⟩
      exact Reg.doneB (Option.some_ne_none _) rfl (bsame _)
    · refine Reg.oblL_line (l := (Reg.Line.mk [3] 5 (StS (w.heap.size + 1) (SlotP.zeros 512) (SlotP.zeros 512)))) (k := 0) rfl rfl (by show List.Nodup [3]; decide) (by show 3 ≠ 5; decide) (by show 3 < 5; decide) (.inl rfl) ?_
      intro b ax wx hx hs has hwb hS
      obtain ⟨e4, e75, -⟩ := hs
      have g4 := Reg.ev (v := .pointer (some ⟨w.heap.size + 1, 0, none⟩)) e4
      have g75 := Reg.ev (v := .agg (rowV (SlotP.zeros 512))) e75
      have hxs : W1.heap.size ≤ wx.heap.size := Reg.KeepB.size hx
      have hst := run_st (P := Try.prog) arrPage (show Str wx (w.heap.size + 1) (rowV (SlotP.zeros 512)) from hS) (by rw [rowV_size]; exact hz) hz
      have k3 := (show Str wx (w.heap.size + 1) (rowV (SlotP.zeros 512)) from hS).setRow (cs' := rowV (SlotP.zeros 512))
      refine Oper.wp_mono (K := fun a1 w1 => a1 = ax ∧ w1 = wx.setRow (w.heap.size + 1) (rowV (SlotP.zeros 512))) ?_ ?_
      · rintro a1 w1 ⟨rfl, rfl⟩
        exact ⟨⟨undef, rfl, fun _ => rfl, trivial, Reg.KeepB.grown (Reg.KeepB.of (Below.refl _ wx)) (grown_setRow wx _ _) hxs (.inr (by simp))⟩, k3⟩
      · clear has k3 hS
        go_simp
    · refine Reg.oblL_ord (l := (Reg.Line.mk [3] 5 (StS (w.heap.size + 1) (SlotP.zeros 512) (SlotP.zeros 512)))) (by show 4 ∉ [3] ∧ 4 ≠ 5; decide) (Reg.extB_next rfl) (fun k1 b1 a1 w1 v1 w2 h1 h2 => StS.put (b1 := b1) (a := a1) (dst := (some 5)) (v := v1) k1 h1 h2) ?_
      intro ax wx hx hs
      obtain ⟨e77, -⟩ := hs
      have g77 := Reg.ev (v := .int .i64 4) e77
      exact Reg.obl_freeL rfl (Reg.wp_eqvB (Option.some_ne_none _) (by go_simp) rfl)
  · intro Wf listed hwf hall
    simp only [Reg.Fin]
    rintro _ rfl _ rfl _ rfl vn3 hn3 _ rfl
    intro hJ
    obtain ⟨bL, hbL, hSL⟩ := Reg.line_end (l := (Reg.Line.mk [3] 5 (StS (w.heap.size + 1) (SlotP.zeros 512) (SlotP.zeros 512)))) (n := 5) hall (by show ∀ c ∈ [3], c < 5; decide) hJ
    clear hJ hall hbL
    go_simp
    have hSf : Str Wf (w.heap.size + 1) (rowV (SlotP.zeros 512)) := hSL
    have hkf : Reg.KeepB W1.heap.size [w.heap.size + 1] W1 Wf := hwf
    have hBf : Below w.heap.size w Wf := HB1.out.trans (hkf.below HB1.out.size (by simp))
    have HSF := Lib.hid hSf
    have HBF := Lib.hid hBf
    clear hSf hkf hwf hSL hBf
    go_wp2_with fail
    exact bodyPost_ret (v := .tuple #[.agg (rowV (SlotP.zeros 512)), .int .i64 4]) (results_page Try.results6 _ HSF.out hz rfl) rfl ⟨rfl, HBF.out⟩
set_option maxRecDepth 100000 in
set_option maxHeartbeats 1000000 in
theorem do_nil_4 (no v : Int) (A : Option Addr) (n c : Nat) (P : Option Addr) (m pc : Nat) (lg : Int) (w : World) :
    Calls Try.prog 6 #[.pointer none, .agg #[.int .i64 4, .int .i64 no, .int .i64 v, .slice A n c, .slice P m pc, .int .i64 lg]] w (TellsNil w 4) := by
  have hz : (SlotP.zeros 512).length = 512 := List.length_replicate
  have hal := fun W => run_al (P := Try.prog) arrPage W
  have hbd := fun W => run_bd (P := Try.prog) arrPage W
  obtain ⟨W0, hW0⟩ : ∃ W, ((w.alloc (.cells #[.int .i64 4, .int .i64 no, .int .i64 v, .slice A n c, .slice P m pc, .int .i64 lg] 27)).alloc (.cells (rowV (SlotP.zeros 512)) 30)).alloc (.cells (rowV (SlotP.zeros 512)) 30) = W := ⟨_, rfl⟩
  obtain ⟨HS0, HS1, HS2, HB0, hw0, hz0⟩ := new3 hW0
  have f0 := str6 HS0.out
  have hl0 := HS0.out.lt
  have hl1 := HS1.out.lt
  have hl2 := HS2.out.lt
  clear hz0
  go_enter Try.func6, Try.ntmps6
  go_wp2_with fail
  have HS1_0 := HS1
  have HS2_0 := HS2
  clear HS1 HS2
  refine (Flush_nil _).mono ?_
  rintro r W1 ⟨rfl, hb1⟩
  have HS1_1 := Lib.hid (HS1_0.out.next hb1)
  have HS2_1 := Lib.hid (HS2_0.out.next hb1)
  have HB1 := Lib.hid (bstep HB0.out hb1)
  have f1 := str6 (HS0.out.next hb1)
  have hla := (HS0.out.next hb1).lt
  clear f0 hb1
  have hlb := HS1_1.out.lt
  have hlc := HS2_1.out.lt
  go_wp2_with fail
  refine Reg.wp_region_box (R := (Reg.extB W1.heap.size [w.heap.size + 1])) (W := W1) (Reg.LineJ (Reg.Line.mk [3] 5 (StS (w.heap.size + 1) (SlotP.zeros 512) (SlotP.zeros 512)))) [Reg.eqv (.agg (rowV (SlotP.zeros 512))), Reg.eqv (.int .i64 4), Reg.eqv (.int .i64 4), Reg.any, Reg.eqv (.int .i64 4)] 78 [[(6, none)], [(7, none)], [(76, some 1)], [(4, none), (75, some 0)], [(77, some 2)]] rfl (by kernel_rfl) (by kernel_rfl) (fun _ h => Reg.line_zero (l := (Reg.Line.mk [3] 5 (StS (w.heap.size + 1) (SlotP.zeros 512) (SlotP.zeros 512)))) HS1_1.out h) (by kernel_rfl) ?_ [some 75, some 76, some 77, none, some 5] (by kernel_rfl) ?_
  · refine ⟨?_, ?_, ?_, ?_, ?_, trivial⟩
    · refine Reg.oblL_ord (l := (Reg.Line.mk [3] 5 (StS (w.heap.size + 1) (SlotP.zeros 512) (SlotP.zeros 512)))) (by show 0 ∉ [3] ∧ 0 ≠ 5; decide) (Reg.extB_next rfl) (fun k1 b1 a1 w1 v1 w2 h1 h2 => StS.put (b1 := b1) (a := a1) (dst := (some 75)) (v := v1) k1 h1 h2) ?_
      intro ax wx hx hs
      obtain ⟨e6, -⟩ := hs
      have g6 := Reg.ev (v := .pointer (some ⟨w.heap.size + 1 + 1, 0, none⟩)) e6
      refine Reg.obl_freeL rfl ?_
      have hld := run_ld (P := Try.prog) arrPage (Reg.KeepB.str hx HS2_1.out (HS2_1.out.lt) (by simp)) hz
      exact Reg.wp_eqvB (Option.some_ne_none _) (by go_simp) rfl
    · refine Reg.oblL_ord (l := (Reg.Line.mk [3] 5 (StS (w.heap.size + 1) (SlotP.zeros 512) (SlotP.zeros 512)))) (by show 1 ∉ [3] ∧ 1 ≠ 5; decide) (Reg.extB_next rfl) (fun k1 b1 a1 w1 v1 w2 h1 h2 => StS.put (b1 := b1) (a := a1) (dst := (some 76)) (v := v1) k1 h1 h2) ?_
      intro ax wx hx hs
      obtain ⟨e7, -⟩ := hs
      have g7 := Reg.ev (v := .int .i64 4) e7
      exact Reg.obl_freeL rfl (Reg.wp_eqvB (Option.some_ne_none _) (by go_simp) rfl)
    · refine Reg.oblL_ord (l := (Reg.Line.mk [3] 5 (StS (w.heap.size + 1) (SlotP.zeros 512) (SlotP.zeros 512)))) (by show 2 ∉ [3] ∧ 2 ≠ 5; decide) (Reg.extB_next rfl) (fun k1 b1 a1 w1 v1 w2 h1 h2 => StS.put (b1 := b1) (a := a1) (dst := (some 77)) (v := v1) k1 h1 h2) ?_
      intro ax wx hx hs
      obtain ⟨e76, -⟩ := hs
      have g76 := Reg.ev (v := .int .i64 4) e76
      refine Reg.obl_freeL rfl ?_
      go_simp
      refine (code_any (4) wx).mono ?_
      rintro r wy ⟨rfl, rfl⟩
      exact Reg.doneB (Option.some_ne_none _) rfl (bsame _)
    · refine Reg.oblL_line (l := (Reg.Line.mk [3] 5 (StS (w.heap.size + 1) (SlotP.zeros 512) (SlotP.zeros 512)))) (k := 0) rfl rfl (by show List.Nodup [3]; decide) (by show 3 ≠ 5; decide) (by show 3 < 5; decide) (.inl rfl) ?_
      intro b ax wx hx hs has hwb hS
      obtain ⟨e4, e75, -⟩ := hs
      have g4 := Reg.ev (v := .pointer (some ⟨w.heap.size + 1, 0, none⟩)) e4
      have g75 := Reg.ev (v := .agg (rowV (SlotP.zeros 512))) e75
      have hxs : W1.heap.size ≤ wx.heap.size := Reg.KeepB.size hx
      have hst := run_st (P := Try.prog) arrPage (show Str wx (w.heap.size + 1) (rowV (SlotP.zeros 512)) from hS) (by rw [rowV_size]; exact hz) hz
      have k3 := (show Str wx (w.heap.size + 1) (rowV (SlotP.zeros 512)) from hS).setRow (cs' := rowV (SlotP.zeros 512))
      refine Oper.wp_mono (K := fun a1 w1 => a1 = ax ∧ w1 = wx.setRow (w.heap.size + 1) (rowV (SlotP.zeros 512))) ?_ ?_
      · rintro a1 w1 ⟨rfl, rfl⟩
        exact ⟨⟨undef, rfl, fun _ => rfl, trivial, Reg.KeepB.grown (Reg.KeepB.of (Below.refl _ wx)) (grown_setRow wx _ _) hxs (.inr (by simp))⟩, k3⟩
      · clear has k3 hS
        go_simp
    · refine Reg.oblL_ord (l := (Reg.Line.mk [3] 5 (StS (w.heap.size + 1) (SlotP.zeros 512) (SlotP.zeros 512)))) (by show 4 ∉ [3] ∧ 4 ≠ 5; decide) (Reg.extB_next rfl) (fun k1 b1 a1 w1 v1 w2 h1 h2 => StS.put (b1 := b1) (a := a1) (dst := (some 5)) (v := v1) k1 h1 h2) ?_
      intro ax wx hx hs
      obtain ⟨e77, -⟩ := hs
      have g77 := Reg.ev (v := .int .i64 4) e77
      exact Reg.obl_freeL rfl (Reg.wp_eqvB (Option.some_ne_none _) (by go_simp) rfl)
  · intro Wf listed hwf hall
    simp only [Reg.Fin]
    rintro _ rfl _ rfl _ rfl vn3 hn3 _ rfl
    intro hJ
    obtain ⟨bL, hbL, hSL⟩ := Reg.line_end (l := (Reg.Line.mk [3] 5 (StS (w.heap.size + 1) (SlotP.zeros 512) (SlotP.zeros 512)))) (n := 5) hall (by show ∀ c ∈ [3], c < 5; decide) hJ
    clear hJ hall hbL
    go_simp
    have hSf : Str Wf (w.heap.size + 1) (rowV (SlotP.zeros 512)) := hSL
    have hkf : Reg.KeepB W1.heap.size [w.heap.size + 1] W1 Wf := hwf
    have hBf : Below w.heap.size w Wf := HB1.out.trans (hkf.below HB1.out.size (by simp))
    have HSF := Lib.hid hSf
    have HBF := Lib.hid hBf
    clear hSf hkf hwf hSL hBf
    go_wp2_with fail
    exact bodyPost_ret (v := .tuple #[.agg (rowV (SlotP.zeros 512)), .int .i64 4]) (results_page Try.results6 _ HSF.out hz rfl) rfl ⟨rfl, HBF.out⟩
set_option maxRecDepth 100000 in
set_option maxHeartbeats 1000000 in
theorem do_nil_5 (no v : Int) (A : Option Addr) (n c : Nat) (P : Option Addr) (m pc : Nat) (lg : Int) (w : World) :
    Calls Try.prog 6 #[.pointer none, .agg #[.int .i64 5, .int .i64 no, .int .i64 v, .slice A n c, .slice P m pc, .int .i64 lg]] w (TellsNil w 4) := by
  have hz : (SlotP.zeros 512).length = 512 := List.length_replicate
  have hal := fun W => run_al (P := Try.prog) arrPage W
  have hbd := fun W => run_bd (P := Try.prog) arrPage W
  obtain ⟨W0, hW0⟩ : ∃ W, ((w.alloc (.cells #[.int .i64 5, .int .i64 no, .int .i64 v, .slice A n c, .slice P m pc, .int .i64 lg] 27)).alloc (.cells (rowV (SlotP.zeros 512)) 30)).alloc (.cells (rowV (SlotP.zeros 512)) 30) = W := ⟨_, rfl⟩
  obtain ⟨HS0, HS1, HS2, HB0, hw0, hz0⟩ := new3 hW0
  have f0 := str6 HS0.out
  have hl0 := HS0.out.lt
  have hl1 := HS1.out.lt
  have hl2 := HS2.out.lt
  clear hz0
  go_enter Try.func6, Try.ntmps6
  go_wp2_with fail
  have HS1_0 := HS1
  have HS2_0 := HS2
  clear HS1 HS2
  refine (Cut_nil no _).mono ?_
  rintro r W1 ⟨rfl, hb1⟩
  have HS1_1 := Lib.hid (HS1_0.out.next hb1)
  have HS2_1 := Lib.hid (HS2_0.out.next hb1)
  have HB1 := Lib.hid (bstep HB0.out hb1)
  have f1 := str6 (HS0.out.next hb1)
  have hla := (HS0.out.next hb1).lt
  clear f0 hb1
  have hlb := HS1_1.out.lt
  have hlc := HS2_1.out.lt
  go_wp2_with fail
  refine Reg.wp_region_box (R := (Reg.extB W1.heap.size [w.heap.size + 1])) (W := W1) (Reg.LineJ (Reg.Line.mk [3] 5 (StS (w.heap.size + 1) (SlotP.zeros 512) (SlotP.zeros 512)))) [Reg.eqv (.agg (rowV (SlotP.zeros 512))), Reg.eqv (.int .i64 4), Reg.eqv (.int .i64 4), Reg.any, Reg.eqv (.int .i64 4)] 78 [[(6, none)], [(7, none)], [(76, some 1)], [(4, none), (75, some 0)], [(77, some 2)]] rfl (by kernel_rfl) (by kernel_rfl) (fun _ h => Reg.line_zero (l := (Reg.Line.mk [3] 5 (StS (w.heap.size + 1) (SlotP.zeros 512) (SlotP.zeros 512)))) HS1_1.out h) (by kernel_rfl) ?_ [some 75, some 76, some 77, none, some 5] (by kernel_rfl) ?_
  · refine ⟨?_, ?_, ?_, ?_, ?_, trivial⟩
    · refine Reg.oblL_ord (l := (Reg.Line.mk [3] 5 (StS (w.heap.size + 1) (SlotP.zeros 512) (SlotP.zeros 512)))) (by show 0 ∉ [3] ∧ 0 ≠ 5; decide) (Reg.extB_next rfl) (fun k1 b1 a1 w1 v1 w2 h1 h2 => StS.put (b1 := b1) (a := a1) (dst := (some 75)) (v := v1) k1 h1 h2) ?_
      intro ax wx hx hs
      obtain ⟨e6, -⟩ := hs
      have g6 := Reg.ev (v := .pointer (some ⟨w.heap.size + 1 + 1, 0, none⟩)) e6
      refine Reg.obl_freeL rfl ?_
      have hld := run_ld (P := Try.prog) arrPage (Reg.KeepB.str hx HS2_1.out (HS2_1.out.lt) (by simp)) hz
      exact Reg.wp_eqvB (Option.some_ne_none _) (by go_simp) rfl
    · refine Reg.oblL_ord (l := (Reg.Line.mk [3] 5 (StS (w.heap.size + 1) (SlotP.zeros 512) (SlotP.zeros 512)))) (by show 1 ∉ [3] ∧ 1 ≠ 5; decide) (Reg.extB_next rfl) (fun k1 b1 a1 w1 v1 w2 h1 h2 => StS.put (b1 := b1) (a := a1) (dst := (some 76)) (v := v1) k1 h1 h2) ?_
      intro ax wx hx hs
      obtain ⟨e7, -⟩ := hs
      have g7 := Reg.ev (v := .int .i64 4) e7
      exact Reg.obl_freeL rfl (Reg.wp_eqvB (Option.some_ne_none _) (by go_simp) rfl)
    · refine Reg.oblL_ord (l := (Reg.Line.mk [3] 5 (StS (w.heap.size + 1) (SlotP.zeros 512) (SlotP.zeros 512)))) (by show 2 ∉ [3] ∧ 2 ≠ 5; decide) (Reg.extB_next rfl) (fun k1 b1 a1 w1 v1 w2 h1 h2 => StS.put (b1 := b1) (a := a1) (dst := (some 77)) (v := v1) k1 h1 h2) ?_
      intro ax wx hx hs
      obtain ⟨e76, -⟩ := hs
      have g76 := Reg.ev (v := .int .i64 4) e76
      refine Reg.obl_freeL rfl ?_
      go_simp
      refine (code_any (4) wx).mono ?_
      rintro r wy ⟨rfl, rfl⟩
      exact Reg.doneB (Option.some_ne_none _) rfl (bsame _)
    · refine Reg.oblL_line (l := (Reg.Line.mk [3] 5 (StS (w.heap.size + 1) (SlotP.zeros 512) (SlotP.zeros 512)))) (k := 0) rfl rfl (by show List.Nodup [3]; decide) (by show 3 ≠ 5; decide) (by show 3 < 5; decide) (.inl rfl) ?_
      intro b ax wx hx hs has hwb hS
      obtain ⟨e4, e75, -⟩ := hs
      have g4 := Reg.ev (v := .pointer (some ⟨w.heap.size + 1, 0, none⟩)) e4
      have g75 := Reg.ev (v := .agg (rowV (SlotP.zeros 512))) e75
      have hxs : W1.heap.size ≤ wx.heap.size := Reg.KeepB.size hx
      have hst := run_st (P := Try.prog) arrPage (show Str wx (w.heap.size + 1) (rowV (SlotP.zeros 512)) from hS) (by rw [rowV_size]; exact hz) hz
      have k3 := (show Str wx (w.heap.size + 1) (rowV (SlotP.zeros 512)) from hS).setRow (cs' := rowV (SlotP.zeros 512))
      refine Oper.wp_mono (K := fun a1 w1 => a1 = ax ∧ w1 = wx.setRow (w.heap.size + 1) (rowV (SlotP.zeros 512))) ?_ ?_
      · rintro a1 w1 ⟨rfl, rfl⟩
        exact ⟨⟨undef, rfl, fun _ => rfl, trivial, Reg.KeepB.grown (Reg.KeepB.of (Below.refl _ wx)) (grown_setRow wx _ _) hxs (.inr (by simp))⟩, k3⟩
      · clear has k3 hS
        go_simp
    · refine Reg.oblL_ord (l := (Reg.Line.mk [3] 5 (StS (w.heap.size + 1) (SlotP.zeros 512) (SlotP.zeros 512)))) (by show 4 ∉ [3] ∧ 4 ≠ 5; decide) (Reg.extB_next rfl) (fun k1 b1 a1 w1 v1 w2 h1 h2 => StS.put (b1 := b1) (a := a1) (dst := (some 5)) (v := v1) k1 h1 h2) ?_
      intro ax wx hx hs
      obtain ⟨e77, -⟩ := hs
      have g77 := Reg.ev (v := .int .i64 4) e77
      exact Reg.obl_freeL rfl (Reg.wp_eqvB (Option.some_ne_none _) (by go_simp) rfl)
  · intro Wf listed hwf hall
    simp only [Reg.Fin]
    rintro _ rfl _ rfl _ rfl vn3 hn3 _ rfl
    intro hJ
    obtain ⟨bL, hbL, hSL⟩ := Reg.line_end (l := (Reg.Line.mk [3] 5 (StS (w.heap.size + 1) (SlotP.zeros 512) (SlotP.zeros 512)))) (n := 5) hall (by show ∀ c ∈ [3], c < 5; decide) hJ
    clear hJ hall hbL
    go_simp
    have hSf : Str Wf (w.heap.size + 1) (rowV (SlotP.zeros 512)) := hSL
    have hkf : Reg.KeepB W1.heap.size [w.heap.size + 1] W1 Wf := hwf
    have hBf : Below w.heap.size w Wf := HB1.out.trans (hkf.below HB1.out.size (by simp))
    have HSF := Lib.hid hSf
    have HBF := Lib.hid hBf
    clear hSf hkf hwf hSL hBf
    go_wp2_with fail
    exact bodyPost_ret (v := .tuple #[.agg (rowV (SlotP.zeros 512)), .int .i64 4]) (results_page Try.results6 _ HSF.out hz rfl) rfl ⟨rfl, HBF.out⟩
set_option maxRecDepth 100000 in
set_option maxHeartbeats 1000000 in
theorem do_nil_6 (no v : Int) (A : Option Addr) (n c : Nat) (P : Option Addr) (m pc : Nat) (lg : Int) (w : World) :
    Calls Try.prog 6 #[.pointer none, .agg #[.int .i64 6, .int .i64 no, .int .i64 v, .slice A n c, .slice P m pc, .int .i64 lg]] w (TellsNil w 4) := by
  have hz : (SlotP.zeros 512).length = 512 := List.length_replicate
  have hal := fun W => run_al (P := Try.prog) arrPage W
  have hbd := fun W => run_bd (P := Try.prog) arrPage W
  obtain ⟨W0, hW0⟩ : ∃ W, ((w.alloc (.cells #[.int .i64 6, .int .i64 no, .int .i64 v, .slice A n c, .slice P m pc, .int .i64 lg] 27)).alloc (.cells (rowV (SlotP.zeros 512)) 30)).alloc (.cells (rowV (SlotP.zeros 512)) 30) = W := ⟨_, rfl⟩
  obtain ⟨HS0, HS1, HS2, HB0, hw0, hz0⟩ := new3 hW0
  have f0 := str6 HS0.out
  have hl0 := HS0.out.lt
  have hl1 := HS1.out.lt
  have hl2 := HS2.out.lt
  clear hz0
  go_enter Try.func6, Try.ntmps6
  go_wp2_with fail
  have HS1_0 := HS1
  have HS2_0 := HS2
  clear HS1 HS2
  refine (Free_nil no _).mono ?_
  rintro r W1 ⟨rfl, hb1⟩
  have HS1_1 := Lib.hid (HS1_0.out.next hb1)
  have HS2_1 := Lib.hid (HS2_0.out.next hb1)
  have HB1 := Lib.hid (bstep HB0.out hb1)
  have f1 := str6 (HS0.out.next hb1)
  have hla := (HS0.out.next hb1).lt
  clear f0 hb1
  have hlb := HS1_1.out.lt
  have hlc := HS2_1.out.lt
  go_wp2_with fail
  refine Reg.wp_region_box (R := (Reg.extB W1.heap.size [w.heap.size + 1])) (W := W1) (Reg.LineJ (Reg.Line.mk [3] 5 (StS (w.heap.size + 1) (SlotP.zeros 512) (SlotP.zeros 512)))) [Reg.eqv (.agg (rowV (SlotP.zeros 512))), Reg.eqv (.int .i64 4), Reg.eqv (.int .i64 4), Reg.any, Reg.eqv (.int .i64 4)] 78 [[(6, none)], [(7, none)], [(76, some 1)], [(4, none), (75, some 0)], [(77, some 2)]] rfl (by kernel_rfl) (by kernel_rfl) (fun _ h => Reg.line_zero (l := (Reg.Line.mk [3] 5 (StS (w.heap.size + 1) (SlotP.zeros 512) (SlotP.zeros 512)))) HS1_1.out h) (by kernel_rfl) ?_ [some 75, some 76, some 77, none, some 5] (by kernel_rfl) ?_
  · refine ⟨?_, ?_, ?_, ?_, ?_, trivial⟩
    · refine Reg.oblL_ord (l := (Reg.Line.mk [3] 5 (StS (w.heap.size + 1) (SlotP.zeros 512) (SlotP.zeros 512)))) (by show 0 ∉ [3] ∧ 0 ≠ 5; decide) (Reg.extB_next rfl) (fun k1 b1 a1 w1 v1 w2 h1 h2 => StS.put (b1 := b1) (a := a1) (dst := (some 75)) (v := v1) k1 h1 h2) ?_
      intro ax wx hx hs
      obtain ⟨e6, -⟩ := hs
      have g6 := Reg.ev (v := .pointer (some ⟨w.heap.size + 1 + 1, 0, none⟩)) e6
      refine Reg.obl_freeL rfl ?_
      have hld := run_ld (P := Try.prog) arrPage (Reg.KeepB.str hx HS2_1.out (HS2_1.out.lt) (by simp)) hz
      exact Reg.wp_eqvB (Option.some_ne_none _) (by go_simp) rfl
    · refine Reg.oblL_ord (l := (Reg.Line.mk [3] 5 (StS (w.heap.size + 1) (SlotP.zeros 512) (SlotP.zeros 512)))) (by show 1 ∉ [3] ∧ 1 ≠ 5; decide) (Reg.extB_next rfl) (fun k1 b1 a1 w1 v1 w2 h1 h2 => StS.put (b1 := b1) (a := a1) (dst := (some 76)) (v := v1) k1 h1 h2) ?_
      intro ax wx hx hs
      obtain ⟨e7, -⟩ := hs
      have g7 := Reg.ev (v := .int .i64 4) e7
      exact Reg.obl_freeL rfl (Reg.wp_eqvB (Option.some_ne_none _) (by go_simp) rfl)
    · refine Reg.oblL_ord (l := (Reg.Line.mk [3] 5 (StS (w.heap.size + 1) (SlotP.zeros 512) (SlotP.zeros 512)))) (by show 2 ∉ [3] ∧ 2 ≠ 5; decide) (Reg.extB_next rfl) (fun k1 b1 a1 w1 v1 w2 h1 h2 => StS.put (b1 := b1) (a := a1) (dst := (some 77)) (v := v1) k1 h1 h2) ?_
      intro ax wx hx hs
      obtain ⟨e76, -⟩ := hs
      have g76 := Reg.ev (v := .int .i64 4) e76
      refine Reg.obl_freeL rfl ?_
      go_simp
      refine (code_any (4) wx).mono ?_
      rintro r wy ⟨rfl, rfl⟩
      exact Reg.doneB (Option.some_ne_none _) rfl (bsame _)
    · refine Reg.oblL_line (l := (Reg.Line.mk [3] 5 (StS (w.heap.size + 1) (SlotP.zeros 512) (SlotP.zeros 512)))) (k := 0) rfl rfl (by show List.Nodup [3]; decide) (by show 3 ≠ 5; decide) (by show 3 < 5; decide) (.inl rfl) ?_
      intro b ax wx hx hs has hwb hS
      obtain ⟨e4, e75, -⟩ := hs
      have g4 := Reg.ev (v := .pointer (some ⟨w.heap.size + 1, 0, none⟩)) e4
      have g75 := Reg.ev (v := .agg (rowV (SlotP.zeros 512))) e75
      have hxs : W1.heap.size ≤ wx.heap.size := Reg.KeepB.size hx
      have hst := run_st (P := Try.prog) arrPage (show Str wx (w.heap.size + 1) (rowV (SlotP.zeros 512)) from hS) (by rw [rowV_size]; exact hz) hz
      have k3 := (show Str wx (w.heap.size + 1) (rowV (SlotP.zeros 512)) from hS).setRow (cs' := rowV (SlotP.zeros 512))
      refine Oper.wp_mono (K := fun a1 w1 => a1 = ax ∧ w1 = wx.setRow (w.heap.size + 1) (rowV (SlotP.zeros 512))) ?_ ?_
      · rintro a1 w1 ⟨rfl, rfl⟩
        exact ⟨⟨undef, rfl, fun _ => rfl, trivial, Reg.KeepB.grown (Reg.KeepB.of (Below.refl _ wx)) (grown_setRow wx _ _) hxs (.inr (by simp))⟩, k3⟩
      · clear has k3 hS
        go_simp
    · refine Reg.oblL_ord (l := (Reg.Line.mk [3] 5 (StS (w.heap.size + 1) (SlotP.zeros 512) (SlotP.zeros 512)))) (by show 4 ∉ [3] ∧ 4 ≠ 5; decide) (Reg.extB_next rfl) (fun k1 b1 a1 w1 v1 w2 h1 h2 => StS.put (b1 := b1) (a := a1) (dst := (some 5)) (v := v1) k1 h1 h2) ?_
      intro ax wx hx hs
      obtain ⟨e77, -⟩ := hs
      have g77 := Reg.ev (v := .int .i64 4) e77
      exact Reg.obl_freeL rfl (Reg.wp_eqvB (Option.some_ne_none _) (by go_simp) rfl)
  · intro Wf listed hwf hall
    simp only [Reg.Fin]
    rintro _ rfl _ rfl _ rfl vn3 hn3 _ rfl
    intro hJ
    obtain ⟨bL, hbL, hSL⟩ := Reg.line_end (l := (Reg.Line.mk [3] 5 (StS (w.heap.size + 1) (SlotP.zeros 512) (SlotP.zeros 512)))) (n := 5) hall (by show ∀ c ∈ [3], c < 5; decide) hJ
    clear hJ hall hbL
    go_simp
    have hSf : Str Wf (w.heap.size + 1) (rowV (SlotP.zeros 512)) := hSL
    have hkf : Reg.KeepB W1.heap.size [w.heap.size + 1] W1 Wf := hwf
    have hBf : Below w.heap.size w Wf := HB1.out.trans (hkf.below HB1.out.size (by simp))
    have HSF := Lib.hid hSf
    have HBF := Lib.hid hBf
    clear hSf hkf hwf hSL hBf
    go_wp2_with fail
    exact bodyPost_ret (v := .tuple #[.agg (rowV (SlotP.zeros 512)), .int .i64 4]) (results_page Try.results6 _ HSF.out hz rfl) rfl ⟨rfl, HBF.out⟩
set_option maxRecDepth 100000 in
set_option maxHeartbeats 1000000 in
theorem do_nil_7 (no v : Int) (A : Option Addr) (n c : Nat) (P : Option Addr) (m pc : Nat) (lg : Int) (w : World) :
    Calls Try.prog 6 #[.pointer none, .agg #[.int .i64 7, .int .i64 no, .int .i64 v, .slice A n c, .slice P m pc, .int .i64 lg]] w (TellsNil w 0) := by
  have hz : (SlotP.zeros 512).length = 512 := List.length_replicate
  have hal := fun W => run_al (P := Try.prog) arrPage W
  have hbd := fun W => run_bd (P := Try.prog) arrPage W
  obtain ⟨W0, hW0⟩ : ∃ W, ((w.alloc (.cells #[.int .i64 7, .int .i64 no, .int .i64 v, .slice A n c, .slice P m pc, .int .i64 lg] 27)).alloc (.cells (rowV (SlotP.zeros 512)) 30)).alloc (.cells (rowV (SlotP.zeros 512)) 30) = W := ⟨_, rfl⟩
  obtain ⟨HS0, HS1, HS2, HB0, hw0, hz0⟩ := new3 hW0
  have f0 := str6 HS0.out
  have hl0 := HS0.out.lt
  have hl1 := HS1.out.lt
  have hl2 := HS2.out.lt
  clear hz0
  go_enter Try.func6, Try.ntmps6
  go_wp2_with fail
  have HS1_0 := HS1
  have HS2_0 := HS2
  clear HS1 HS2
  refine (Fuse_nil no _).mono ?_
  rintro r W1 ⟨rfl, hb1⟩
  have HS1_1 := Lib.hid (HS1_0.out.next hb1)
  have HS2_1 := Lib.hid (HS2_0.out.next hb1)
  have HB1 := Lib.hid (bstep HB0.out hb1)
  have f1 := str6 (HS0.out.next hb1)
  have hla := (HS0.out.next hb1).lt
  clear f0 hb1
  have hlb := HS1_1.out.lt
  have hlc := HS2_1.out.lt
  go_wp2_with fail
  refine Reg.wp_region_box (R := (Reg.extB W1.heap.size [w.heap.size + 1])) (W := W1) (Reg.LineJ (Reg.Line.mk [3] 5 (StS (w.heap.size + 1) (SlotP.zeros 512) (SlotP.zeros 512)))) [Reg.eqv (.agg (rowV (SlotP.zeros 512))), Reg.eqv (.int .i64 0), Reg.eqv (.int .i64 0), Reg.any, Reg.eqv (.int .i64 0)] 78 [[(6, none)], [(7, none)], [(76, some 1)], [(4, none), (75, some 0)], [(77, some 2)]] rfl (by kernel_rfl) (by kernel_rfl) (fun _ h => Reg.line_zero (l := (Reg.Line.mk [3] 5 (StS (w.heap.size + 1) (SlotP.zeros 512) (SlotP.zeros 512)))) HS1_1.out h) (by kernel_rfl) ?_ [some 75, some 76, some 77, none, some 5] (by kernel_rfl) ?_
  · refine ⟨?_, ?_, ?_, ?_, ?_, trivial⟩
    · refine Reg.oblL_ord (l := (Reg.Line.mk [3] 5 (StS (w.heap.size + 1) (SlotP.zeros 512) (SlotP.zeros 512)))) (by show 0 ∉ [3] ∧ 0 ≠ 5; decide) (Reg.extB_next rfl) (fun k1 b1 a1 w1 v1 w2 h1 h2 => StS.put (b1 := b1) (a := a1) (dst := (some 75)) (v := v1) k1 h1 h2) ?_
      intro ax wx hx hs
      obtain ⟨e6, -⟩ := hs
      have g6 := Reg.ev (v := .pointer (some ⟨w.heap.size + 1 + 1, 0, none⟩)) e6
      refine Reg.obl_freeL rfl ?_
      have hld := run_ld (P := Try.prog) arrPage (Reg.KeepB.str hx HS2_1.out (HS2_1.out.lt) (by simp)) hz
      exact Reg.wp_eqvB (Option.some_ne_none _) (by go_simp) rfl
    · refine Reg.oblL_ord (l := (Reg.Line.mk [3] 5 (StS (w.heap.size + 1) (SlotP.zeros 512) (SlotP.zeros 512)))) (by show 1 ∉ [3] ∧ 1 ≠ 5; decide) (Reg.extB_next rfl) (fun k1 b1 a1 w1 v1 w2 h1 h2 => StS.put (b1 := b1) (a := a1) (dst := (some 76)) (v := v1) k1 h1 h2) ?_
      intro ax wx hx hs
      obtain ⟨e7, -⟩ := hs
      have g7 := Reg.ev (v := .int .i64 0) e7
      exact Reg.obl_freeL rfl (Reg.wp_eqvB (Option.some_ne_none _) (by go_simp) rfl)
    · refine Reg.oblL_ord (l := (Reg.Line.mk [3] 5 (StS (w.heap.size + 1) (SlotP.zeros 512) (SlotP.zeros 512)))) (by show 2 ∉ [3] ∧ 2 ≠ 5; decide) (Reg.extB_next rfl) (fun k1 b1 a1 w1 v1 w2 h1 h2 => StS.put (b1 := b1) (a := a1) (dst := (some 77)) (v := v1) k1 h1 h2) ?_
      intro ax wx hx hs
      obtain ⟨e76, -⟩ := hs
      have g76 := Reg.ev (v := .int .i64 0) e76
      refine Reg.obl_freeL rfl ?_
      go_simp
      refine (code_any (0) wx).mono ?_
      rintro r wy ⟨rfl, rfl⟩
      exact Reg.doneB (Option.some_ne_none _) rfl (bsame _)
    · refine Reg.oblL_line (l := (Reg.Line.mk [3] 5 (StS (w.heap.size + 1) (SlotP.zeros 512) (SlotP.zeros 512)))) (k := 0) rfl rfl (by show List.Nodup [3]; decide) (by show 3 ≠ 5; decide) (by show 3 < 5; decide) (.inl rfl) ?_
      intro b ax wx hx hs has hwb hS
      obtain ⟨e4, e75, -⟩ := hs
      have g4 := Reg.ev (v := .pointer (some ⟨w.heap.size + 1, 0, none⟩)) e4
      have g75 := Reg.ev (v := .agg (rowV (SlotP.zeros 512))) e75
      have hxs : W1.heap.size ≤ wx.heap.size := Reg.KeepB.size hx
      have hst := run_st (P := Try.prog) arrPage (show Str wx (w.heap.size + 1) (rowV (SlotP.zeros 512)) from hS) (by rw [rowV_size]; exact hz) hz
      have k3 := (show Str wx (w.heap.size + 1) (rowV (SlotP.zeros 512)) from hS).setRow (cs' := rowV (SlotP.zeros 512))
      refine Oper.wp_mono (K := fun a1 w1 => a1 = ax ∧ w1 = wx.setRow (w.heap.size + 1) (rowV (SlotP.zeros 512))) ?_ ?_
      · rintro a1 w1 ⟨rfl, rfl⟩
        exact ⟨⟨undef, rfl, fun _ => rfl, trivial, Reg.KeepB.grown (Reg.KeepB.of (Below.refl _ wx)) (grown_setRow wx _ _) hxs (.inr (by simp))⟩, k3⟩
      · clear has k3 hS
        go_simp
    · refine Reg.oblL_ord (l := (Reg.Line.mk [3] 5 (StS (w.heap.size + 1) (SlotP.zeros 512) (SlotP.zeros 512)))) (by show 4 ∉ [3] ∧ 4 ≠ 5; decide) (Reg.extB_next rfl) (fun k1 b1 a1 w1 v1 w2 h1 h2 => StS.put (b1 := b1) (a := a1) (dst := (some 5)) (v := v1) k1 h1 h2) ?_
      intro ax wx hx hs
      obtain ⟨e77, -⟩ := hs
      have g77 := Reg.ev (v := .int .i64 0) e77
      exact Reg.obl_freeL rfl (Reg.wp_eqvB (Option.some_ne_none _) (by go_simp) rfl)
  · intro Wf listed hwf hall
    simp only [Reg.Fin]
    rintro _ rfl _ rfl _ rfl vn3 hn3 _ rfl
    intro hJ
    obtain ⟨bL, hbL, hSL⟩ := Reg.line_end (l := (Reg.Line.mk [3] 5 (StS (w.heap.size + 1) (SlotP.zeros 512) (SlotP.zeros 512)))) (n := 5) hall (by show ∀ c ∈ [3], c < 5; decide) hJ
    clear hJ hall hbL
    go_simp
    have hSf : Str Wf (w.heap.size + 1) (rowV (SlotP.zeros 512)) := hSL
    have hkf : Reg.KeepB W1.heap.size [w.heap.size + 1] W1 Wf := hwf
    have hBf : Below w.heap.size w Wf := HB1.out.trans (hkf.below HB1.out.size (by simp))
    have HSF := Lib.hid hSf
    have HBF := Lib.hid hBf
    clear hSf hkf hwf hSL hBf
    go_wp2_with fail
    exact bodyPost_ret (v := .tuple #[.agg (rowV (SlotP.zeros 512)), .int .i64 0]) (results_page Try.results6 _ HSF.out hz rfl) rfl ⟨rfl, HBF.out⟩
set_option maxRecDepth 100000 in
set_option maxHeartbeats 1000000 in
theorem do_nil_8 (no v : Int) (A : Option Addr) (n c : Nat) (P : Option Addr) (m pc : Nat) (lg : Int) (w : World) :
    Calls Try.prog 6 #[.pointer none, .agg #[.int .i64 8, .int .i64 no, .int .i64 v, .slice A n c, .slice P m pc, .int .i64 lg]] w (TellsNil w 0) := by
  have hz : (SlotP.zeros 512).length = 512 := List.length_replicate
  have hal := fun W => run_al (P := Try.prog) arrPage W
  have hbd := fun W => run_bd (P := Try.prog) arrPage W
  obtain ⟨W0, hW0⟩ : ∃ W, ((w.alloc (.cells #[.int .i64 8, .int .i64 no, .int .i64 v, .slice A n c, .slice P m pc, .int .i64 lg] 27)).alloc (.cells (rowV (SlotP.zeros 512)) 30)).alloc (.cells (rowV (SlotP.zeros 512)) 30) = W := ⟨_, rfl⟩
  obtain ⟨HS0, HS1, HS2, HB0, hw0, hz0⟩ := new3 hW0
  have f0 := str6 HS0.out
  have hl0 := HS0.out.lt
  have hl1 := HS1.out.lt
  have hl2 := HS2.out.lt
  clear hz0
  go_enter Try.func6, Try.ntmps6
  go_wp2_with fail
  have HS1_0 := HS1
  have HS2_0 := HS2
  clear HS1 HS2
  refine (Crash_nil P m pc lg _).mono ?_
  rintro r W1 ⟨rfl, hb1⟩
  have HS1_1 := Lib.hid (HS1_0.out.next hb1)
  have HS2_1 := Lib.hid (HS2_0.out.next hb1)
  have HB1 := Lib.hid (bstep HB0.out hb1)
  clear f0 hb1
  go_wp2_with fail
  refine Reg.wp_region_box (R := (Reg.extB W1.heap.size [w.heap.size + 1])) (W := W1) (Reg.LineJ (Reg.Line.mk [3] 5 (StS (w.heap.size + 1) (SlotP.zeros 512) (SlotP.zeros 512)))) [Reg.eqv (.agg (rowV (SlotP.zeros 512))), Reg.eqv (.int .i64 0), Reg.eqv (.int .i64 0), Reg.any, Reg.eqv (.int .i64 0)] 78 [[(6, none)], [(7, none)], [(76, some 1)], [(4, none), (75, some 0)], [(77, some 2)]] rfl (by kernel_rfl) (by kernel_rfl) (fun _ h => Reg.line_zero (l := (Reg.Line.mk [3] 5 (StS (w.heap.size + 1) (SlotP.zeros 512) (SlotP.zeros 512)))) HS1_1.out h) (by kernel_rfl) ?_ [some 75, some 76, some 77, none, some 5] (by kernel_rfl) ?_
  · refine ⟨?_, ?_, ?_, ?_, ?_, trivial⟩
    · refine Reg.oblL_ord (l := (Reg.Line.mk [3] 5 (StS (w.heap.size + 1) (SlotP.zeros 512) (SlotP.zeros 512)))) (by show 0 ∉ [3] ∧ 0 ≠ 5; decide) (Reg.extB_next rfl) (fun k1 b1 a1 w1 v1 w2 h1 h2 => StS.put (b1 := b1) (a := a1) (dst := (some 75)) (v := v1) k1 h1 h2) ?_
      intro ax wx hx hs
      obtain ⟨e6, -⟩ := hs
      have g6 := Reg.ev (v := .pointer (some ⟨w.heap.size + 1 + 1, 0, none⟩)) e6
      refine Reg.obl_freeL rfl ?_
      have hld := run_ld (P := Try.prog) arrPage (Reg.KeepB.str hx HS2_1.out (HS2_1.out.lt) (by simp)) hz
      exact Reg.wp_eqvB (Option.some_ne_none _) (by go_simp) rfl
    · refine Reg.oblL_ord (l := (Reg.Line.mk [3] 5 (StS (w.heap.size + 1) (SlotP.zeros 512) (SlotP.zeros 512)))) (by show 1 ∉ [3] ∧ 1 ≠ 5; decide) (Reg.extB_next rfl) (fun k1 b1 a1 w1 v1 w2 h1 h2 => StS.put (b1 := b1) (a := a1) (dst := (some 76)) (v := v1) k1 h1 h2) ?_
      intro ax wx hx hs
      obtain ⟨e7, -⟩ := hs
      have g7 := Reg.ev (v := .int .i64 0) e7
      exact Reg.obl_freeL rfl (Reg.wp_eqvB (Option.some_ne_none _) (by go_simp) rfl)
    · refine Reg.oblL_ord (l := (Reg.Line.mk [3] 5 (StS (w.heap.size + 1) (SlotP.zeros 512) (SlotP.zeros 512)))) (by show 2 ∉ [3] ∧ 2 ≠ 5; decide) (Reg.extB_next rfl) (fun k1 b1 a1 w1 v1 w2 h1 h2 => StS.put (b1 := b1) (a := a1) (dst := (some 77)) (v := v1) k1 h1 h2) ?_
      intro ax wx hx hs
      obtain ⟨e76, -⟩ := hs
      have g76 := Reg.ev (v := .int .i64 0) e76
      refine Reg.obl_freeL rfl ?_
      go_simp
      refine (code_any (0) wx).mono ?_
      rintro r wy ⟨rfl, rfl⟩
      exact Reg.doneB (Option.some_ne_none _) rfl (bsame _)
    · refine Reg.oblL_line (l := (Reg.Line.mk [3] 5 (StS (w.heap.size + 1) (SlotP.zeros 512) (SlotP.zeros 512)))) (k := 0) rfl rfl (by show List.Nodup [3]; decide) (by show 3 ≠ 5; decide) (by show 3 < 5; decide) (.inl rfl) ?_
      intro b ax wx hx hs has hwb hS
      obtain ⟨e4, e75, -⟩ := hs
      have g4 := Reg.ev (v := .pointer (some ⟨w.heap.size + 1, 0, none⟩)) e4
      have g75 := Reg.ev (v := .agg (rowV (SlotP.zeros 512))) e75
      have hxs : W1.heap.size ≤ wx.heap.size := Reg.KeepB.size hx
      have hst := run_st (P := Try.prog) arrPage (show Str wx (w.heap.size + 1) (rowV (SlotP.zeros 512)) from hS) (by rw [rowV_size]; exact hz) hz
      have k3 := (show Str wx (w.heap.size + 1) (rowV (SlotP.zeros 512)) from hS).setRow (cs' := rowV (SlotP.zeros 512))
      refine Oper.wp_mono (K := fun a1 w1 => a1 = ax ∧ w1 = wx.setRow (w.heap.size + 1) (rowV (SlotP.zeros 512))) ?_ ?_
      · rintro a1 w1 ⟨rfl, rfl⟩
        exact ⟨⟨undef, rfl, fun _ => rfl, trivial, Reg.KeepB.grown (Reg.KeepB.of (Below.refl _ wx)) (grown_setRow wx _ _) hxs (.inr (by simp))⟩, k3⟩
      · clear has k3 hS
        go_simp
    · refine Reg.oblL_ord (l := (Reg.Line.mk [3] 5 (StS (w.heap.size + 1) (SlotP.zeros 512) (SlotP.zeros 512)))) (by show 4 ∉ [3] ∧ 4 ≠ 5; decide) (Reg.extB_next rfl) (fun k1 b1 a1 w1 v1 w2 h1 h2 => StS.put (b1 := b1) (a := a1) (dst := (some 5)) (v := v1) k1 h1 h2) ?_
      intro ax wx hx hs
      obtain ⟨e77, -⟩ := hs
      have g77 := Reg.ev (v := .int .i64 0) e77
      exact Reg.obl_freeL rfl (Reg.wp_eqvB (Option.some_ne_none _) (by go_simp) rfl)
  · intro Wf listed hwf hall
    simp only [Reg.Fin]
    rintro _ rfl _ rfl _ rfl vn3 hn3 _ rfl
    intro hJ
    obtain ⟨bL, hbL, hSL⟩ := Reg.line_end (l := (Reg.Line.mk [3] 5 (StS (w.heap.size + 1) (SlotP.zeros 512) (SlotP.zeros 512)))) (n := 5) hall (by show ∀ c ∈ [3], c < 5; decide) hJ
    clear hJ hall hbL
    go_simp
    have hSf : Str Wf (w.heap.size + 1) (rowV (SlotP.zeros 512)) := hSL
    have hkf : Reg.KeepB W1.heap.size [w.heap.size + 1] W1 Wf := hwf
    have hBf : Below w.heap.size w Wf := HB1.out.trans (hkf.below HB1.out.size (by simp))
    have HSF := Lib.hid hSf
    have HBF := Lib.hid hBf
    clear hSf hkf hwf hSL hBf
    go_wp2_with fail
    exact bodyPost_ret (v := .tuple #[.agg (rowV (SlotP.zeros 512)), .int .i64 0]) (results_page Try.results6 _ HSF.out hz rfl) rfl ⟨rfl, HBF.out⟩
set_option maxRecDepth 100000 in
set_option maxHeartbeats 1000000 in
theorem do_nil_x (act : Int) (hx : act < 0 ∨ 8 < act) (no v : Int) (A : Option Addr) (n c : Nat) (P : Option Addr) (m pc : Nat) (lg : Int) (w : World) :
    Calls Try.prog 6 #[.pointer none, .agg #[.int .i64 act, .int .i64 no, .int .i64 v, .slice A n c, .slice P m pc, .int .i64 lg]] w (TellsNil w 0) := by
  have hd0 : (act == 0) = false := by simp; omega
  have hd1 : (act == 1) = false := by simp; omega
  have hd2 : (act == 2) = false := by simp; omega
  have hd3 : (act == 3) = false := by simp; omega
  have hd4 : (act == 4) = false := by simp; omega
  have hd5 : (act == 5) = false := by simp; omega
  have hd6 : (act == 6) = false := by simp; omega
  have hd7 : (act == 7) = false := by simp; omega
  have hd8 : (act == 8) = false := by simp; omega
  clear hx
  have hz : (SlotP.zeros 512).length = 512 := List.length_replicate
  have hal := fun W => run_al (P := Try.prog) arrPage W
  have hbd := fun W => run_bd (P := Try.prog) arrPage W
  obtain ⟨W0, hW0⟩ : ∃ W, ((w.alloc (.cells #[.int .i64 act, .int .i64 no, .int .i64 v, .slice A n c, .slice P m pc, .int .i64 lg] 27)).alloc (.cells (rowV (SlotP.zeros 512)) 30)).alloc (.cells (rowV (SlotP.zeros 512)) 30) = W := ⟨_, rfl⟩
  obtain ⟨HS0, HS1, HS2, HB0, hw0, hz0⟩ := new3 hW0
  have f0 := str6 HS0.out
  have hl0 := HS0.out.lt
  have hl1 := HS1.out.lt
  have hl2 := HS2.out.lt
  clear hz0
  go_enter Try.func6, Try.ntmps6
  go_wp2_with fail
  have HS1_0 := HS1
  have HS2_0 := HS2
  clear HS1 HS2
  go_wp2_with fail
  refine Reg.wp_region_box (R := (Reg.extB W0.heap.size [w.heap.size + 1])) (W := W0) (Reg.LineJ (Reg.Line.mk [3] 5 (StS (w.heap.size + 1) (SlotP.zeros 512) (SlotP.zeros 512)))) [Reg.eqv (.agg (rowV (SlotP.zeros 512))), Reg.eqv (.int .i64 0), Reg.eqv (.int .i64 0), Reg.any, Reg.eqv (.int .i64 0)] 78 [[(6, none)], [(7, none)], [(76, some 1)], [(4, none), (75, some 0)], [(77, some 2)]] rfl (by kernel_rfl) (by kernel_rfl) (fun _ h => Reg.line_zero (l := (Reg.Line.mk [3] 5 (StS (w.heap.size + 1) (SlotP.zeros 512) (SlotP.zeros 512)))) HS1_0.out h) (by kernel_rfl) ?_ [some 75, some 76, some 77, none, some 5] (by kernel_rfl) ?_
  · refine ⟨?_, ?_, ?_, ?_, ?_, trivial⟩
    · refine Reg.oblL_ord (l := (Reg.Line.mk [3] 5 (StS (w.heap.size + 1) (SlotP.zeros 512) (SlotP.zeros 512)))) (by show 0 ∉ [3] ∧ 0 ≠ 5; decide) (Reg.extB_next rfl) (fun k1 b1 a1 w1 v1 w2 h1 h2 => StS.put (b1 := b1) (a := a1) (dst := (some 75)) (v := v1) k1 h1 h2) ?_
      intro ax wx hx hs
      obtain ⟨e6, -⟩ := hs
      have g6 := Reg.ev (v := .pointer (some ⟨w.heap.size + 1 + 1, 0, none⟩)) e6
      refine Reg.obl_freeL rfl ?_
      have hld := run_ld (P := Try.prog) arrPage (Reg.KeepB.str hx HS2_0.out (HS2_0.out.lt) (by simp)) hz
      exact Reg.wp_eqvB (Option.some_ne_none _) (by go_simp) rfl
    · refine Reg.oblL_ord (l := (Reg.Line.mk [3] 5 (StS (w.heap.size + 1) (SlotP.zeros 512) (SlotP.zeros 512)))) (by show 1 ∉ [3] ∧ 1 ≠ 5; decide) (Reg.extB_next rfl) (fun k1 b1 a1 w1 v1 w2 h1 h2 => StS.put (b1 := b1) (a := a1) (dst := (some 76)) (v := v1) k1 h1 h2) ?_
      intro ax wx hx hs
      obtain ⟨e7, -⟩ := hs
      have g7 := Reg.ev (v := .int .i64 0) e7
      exact Reg.obl_freeL rfl (Reg.wp_eqvB (Option.some_ne_none _) (by go_simp) rfl)
    · refine Reg.oblL_ord (l := (Reg.Line.mk [3] 5 (StS (w.heap.size + 1) (SlotP.zeros 512) (SlotP.zeros 512)))) (by show 2 ∉ [3] ∧ 2 ≠ 5; decide) (Reg.extB_next rfl) (fun k1 b1 a1 w1 v1 w2 h1 h2 => StS.put (b1 := b1) (a := a1) (dst := (some 77)) (v := v1) k1 h1 h2) ?_
      intro ax wx hx hs
      obtain ⟨e76, -⟩ := hs
      have g76 := Reg.ev (v := .int .i64 0) e76
      refine Reg.obl_freeL rfl ?_
      go_simp
      refine (code_any (0) wx).mono ?_
      rintro r wy ⟨rfl, rfl⟩
      exact Reg.doneB (Option.some_ne_none _) rfl (bsame _)
    · refine Reg.oblL_line (l := (Reg.Line.mk [3] 5 (StS (w.heap.size + 1) (SlotP.zeros 512) (SlotP.zeros 512)))) (k := 0) rfl rfl (by show List.Nodup [3]; decide) (by show 3 ≠ 5; decide) (by show 3 < 5; decide) (.inl rfl) ?_
      intro b ax wx hx hs has hwb hS
      obtain ⟨e4, e75, -⟩ := hs
      have g4 := Reg.ev (v := .pointer (some ⟨w.heap.size + 1, 0, none⟩)) e4
      have g75 := Reg.ev (v := .agg (rowV (SlotP.zeros 512))) e75
      have hxs : W0.heap.size ≤ wx.heap.size := Reg.KeepB.size hx
      have hst := run_st (P := Try.prog) arrPage (show Str wx (w.heap.size + 1) (rowV (SlotP.zeros 512)) from hS) (by rw [rowV_size]; exact hz) hz
      have k3 := (show Str wx (w.heap.size + 1) (rowV (SlotP.zeros 512)) from hS).setRow (cs' := rowV (SlotP.zeros 512))
      refine Oper.wp_mono (K := fun a1 w1 => a1 = ax ∧ w1 = wx.setRow (w.heap.size + 1) (rowV (SlotP.zeros 512))) ?_ ?_
      · rintro a1 w1 ⟨rfl, rfl⟩
        exact ⟨⟨undef, rfl, fun _ => rfl, trivial, Reg.KeepB.grown (Reg.KeepB.of (Below.refl _ wx)) (grown_setRow wx _ _) hxs (.inr (by simp))⟩, k3⟩
      · clear has k3 hS
        go_simp
    · refine Reg.oblL_ord (l := (Reg.Line.mk [3] 5 (StS (w.heap.size + 1) (SlotP.zeros 512) (SlotP.zeros 512)))) (by show 4 ∉ [3] ∧ 4 ≠ 5; decide) (Reg.extB_next rfl) (fun k1 b1 a1 w1 v1 w2 h1 h2 => StS.put (b1 := b1) (a := a1) (dst := (some 5)) (v := v1) k1 h1 h2) ?_
      intro ax wx hx hs
      obtain ⟨e77, -⟩ := hs
      have g77 := Reg.ev (v := .int .i64 0) e77
      exact Reg.obl_freeL rfl (Reg.wp_eqvB (Option.some_ne_none _) (by go_simp) rfl)
  · intro Wf listed hwf hall
    simp only [Reg.Fin]
    rintro _ rfl _ rfl _ rfl vn3 hn3 _ rfl
    intro hJ
    obtain ⟨bL, hbL, hSL⟩ := Reg.line_end (l := (Reg.Line.mk [3] 5 (StS (w.heap.size + 1) (SlotP.zeros 512) (SlotP.zeros 512)))) (n := 5) hall (by show ∀ c ∈ [3], c < 5; decide) hJ
    clear hJ hall hbL
    go_simp
    have hSf : Str Wf (w.heap.size + 1) (rowV (SlotP.zeros 512)) := hSL
    have hkf : Reg.KeepB W0.heap.size [w.heap.size + 1] W0 Wf := hwf
    have hBf : Below w.heap.size w Wf := HB0.out.trans (hkf.below HB0.out.size (by simp))
    have HSF := Lib.hid hSf
    have HBF := Lib.hid hBf
    clear hSf hkf hwf hSL hBf
    go_wp2_with fail
    exact bodyPost_ret (v := .tuple #[.agg (rowV (SlotP.zeros 512)), .int .i64 0]) (results_page Try.results6 _ HSF.out hz rfl) rfl ⟨rfl, HBF.out⟩
theorem do_nil (act no v : Int) (A : Option Addr) (n c : Nat) (P : Option Addr) (m pc : Nat) (lg : Int) (w : World) :
    Calls Try.prog 6 #[.pointer none, .agg #[.int .i64 act, .int .i64 no, .int .i64 v, .slice A n c, .slice P m pc, .int .i64 lg]] w (TellsNil w (DevP.nilErr act)) := by
  unfold DevP.nilErr
  by_cases h0 : act = 0
  · subst h0
    exact do_nil_0 no v A n c P m pc lg w
  by_cases h1 : act = 1
  · subst h1
    exact do_nil_1 no v A n c P m pc lg w
  by_cases h2 : act = 2
  · subst h2
    exact do_nil_2 no v A n c P m pc lg w
  by_cases h3 : act = 3
  · subst h3
    exact do_nil_3 no v A n c P m pc lg w
  by_cases h4 : act = 4
  · subst h4
    exact do_nil_4 no v A n c P m pc lg w
  by_cases h5 : act = 5
  · subst h5
    exact do_nil_5 no v A n c P m pc lg w
  by_cases h6 : act = 6
  · subst h6
    exact do_nil_6 no v A n c P m pc lg w
  by_cases h7 : act = 7
  · subst h7
    exact do_nil_7 no v A n c P m pc lg w
  by_cases h8 : act = 8
  · subst h8
    exact do_nil_8 no v A n c P m pc lg w
  rw [if_neg (by omega)]
  exact do_nil_x act (by omega) no v A n c P m pc lg w
end Go.Proofs.Ytldgdgfplgdipaa.Law16
