/-
  The small functions of the statements of layer 9: code, live; words on what is asked.
-/
import Derived.Test.YtghgccgpgonlmaaRefModelA
namespace Go.Proofs.Ytghgccgpgonlmaa
open Go.RowKit
set_option linter.unusedVariables false
namespace ModelP
theorem muchS_no {l : List Pair} (h : muchS l = false) : l.length ≤ 60 ∧ ∀ p ∈ l, p.key.size ≤ 300 ∧ p.cell.data.length ≤ 300 := by
  unfold muchS at h
  simp only [Bool.or_eq_false_iff, decide_eq_false_iff_not, List.any_eq_false] at h
  refine ⟨by omega, fun p hp => ?_⟩
  have := h.1 p (by rw [List.take_of_length_le (by omega)]; exact hp)
  unfold muchP at this
  simp at this
  omega
theorem muchL_no {l : List OpX} (h : muchL l = false) : l.length ≤ 60 ∧ ∀ p ∈ l, p.key.size ≤ 300 ∧ p.data.length ≤ 300 := by
  unfold muchL at h
  simp only [Bool.or_eq_false_iff, decide_eq_false_iff_not, List.any_eq_false] at h
  refine ⟨by omega, fun p hp => ?_⟩
  have := h.1 p (by rw [List.take_of_length_le (by omega)]; exact hp)
  unfold muchO at this
  simp at this
  omega
theorem same_self' (x : OpX) : same x x = true := by simp [same]
end ModelP
theorem small_of {l : List Pair} (h : ModelP.muchS l = false) : ModelW.Small l := by
  obtain ⟨h1, h2⟩ := ModelP.muchS_no h
  exact ⟨by omega, fun p hp => by have := (h2 p hp).2; omega⟩
/-- an operation typed out -/
theorem op_lit {w : World} {b n c B : Nat} {A : Option Addr} {x : OpX} (hs : Str w b (opV x A n c).toArray) (hy : Bytes w B A n c x.data) (hB : B ≤ w.heap.size) (hk : x.key.size ≤ maxLen) (hin : In64 x.act ∧ In64 x.lo ∧ In64 x.hi ∧ In64 x.n) : OpsL w w.heap.size (some ⟨b, 0, none⟩) 1 1 [x] := by
  refine ⟨[opV x A n c], ⟨⟨A, n, c, rfl, hy.more hB, hk, hin.1, hin.2.1, hin.2.2.1, hin.2.2.2⟩, trivial⟩, rfl, Nat.le_refl _, by unfold maxLen; omega, fun _ => ⟨b, 0, rfl, hs.lt, fun j v hv => ?_⟩⟩
  rw [List.flatten_singleton] at hv
  rw [hs.cell, Nat.zero_add]
  simpa using hv
namespace Reg
/-- an operation -/
def opS (x : OpX) : SP ext := ⟨fun v w => ∃ A n c, v = .agg (opV x A n c).toArray ∧ Bytes w w.heap.size A n c x.data, fun _ _ _ hb ⟨A, n, c, e, h⟩ => ⟨A, n, c, e, h.next hb⟩⟩
end Reg
end Go.Proofs.Ytghgccgpgonlmaa
namespace Go.Proofs.Ytghgccgpgonlmaa.Live09
open Go.RowKit ModelW
set_option linter.unusedVariables false
theorem code_any (n : Int) (w : World) : Calls Try.prog 14 #[.int .i64 n] w fun e w' => e = .returned (.int .i64 n) ∧ w = w' := by
  go_enter Try.func14, Try.ntmps14
  go_wp2
  go_ret
  exact ⟨rfl, rfl⟩
def x1 : OpX := ⟨2, ⟨#[97]⟩, [], 0, 5, 3⟩
def x2 : OpX := ⟨4, ⟨#[97]⟩, [], 0, 0, 3⟩
def s1 : List Pair := [⟨⟨#[97]⟩, ⟨2, [], 0, 5, 3⟩⟩]
theorem step1 : ModelP.step [] ⟨2, ⟨#[97]⟩, [], 0, 5, 3⟩ = (s1, ⟨0, CellP.none⟩) := by
  rw [step_ok (x := ⟨2, ⟨#[97]⟩, [], 0, 5, 3⟩) (t := none) (th := some ⟨2, [], 0, 5, 3⟩) (told := CellP.none) (by decide +kernel) rfl (by simp [ModelP.rule])]
  rfl
theorem step2 : ModelP.step s1 ⟨4, ⟨#[97]⟩, [], 0, 0, 3⟩ = (s1, ⟨8, CellP.none⟩) :=
  step_err (x := ⟨4, ⟨#[97]⟩, [], 0, 0, 3⟩) (t := some ⟨2, [], 0, 5, 3⟩) (by decide +kernel) (by simp [s1, ModelP.find]) (by simp [ModelP.rule]) (by decide)
set_option maxRecDepth 100000 in
set_option maxHeartbeats 1000000 in
theorem live_any (w : World) : Calls Try.prog 13 #[] w fun e w' => e = .returned (.bool true) ∧ Below w.heap.size w w' := by
  have HS1 := Lib.hid step1
  have HS2 := Lib.hid step2
  have hr1 : ModelP.Rises s1 := List.pairwise_singleton _ _
  have HSM : Hid (Small s1) := Lib.hid ⟨by decide, by intro p hp; simp only [s1, List.mem_cons, List.not_mem_nil, or_false] at hp; subst hp; decide⟩
  have HR1 := Lib.hid hr1
  clear hr1
  go_enter Try.func13, Try.ntmps13
  go_wp2_with fail
  refine (Step_any none 0 0 0 [] 2 ⟨#[97]⟩ [] none 0 0 0 0 5 3 w (Elems.none_ _ _ _) (Nat.zero_le _) List.Pairwise.nil ⟨by decide, by intro p hp; cases hp⟩ (Bytes.none_ _ _) (Nat.zero_le _) (by decide) (by unfold In64; omega) (by unfold In64; omega) (by unfold In64; omega) (by omega)).mono ?_
  rw [HS1.out]
  rintro e W1 ⟨A1, n1, c1, Aa, na, ca, rfl, hP1, hy1, hb1⟩
  have hn1 : n1 = 1 := hP1.len.symm
  subst hn1
  have hna : na = 0 := hy1.len.symm
  subst hna
  have HP1 := Lib.hid hP1
  have HB1 := Lib.hid hb1
  clear hP1 hb1 hy1
  simp only [ansV, CellP.none]
  go_wp2_with fail
  generalize hW2 : W1.alloc (.cells #[.int .i64 0, .int .i64 0, .slice Aa 0 ca, .int .i64 0, .int .i64 0, .int .i64 0] 39) = W2
  have HS_2 : Hid (Str W2 W1.heap.size #[.int .i64 0, .int .i64 0, .slice Aa 0 ca, .int .i64 0, .int .i64 0, .int .i64 0]) := Lib.hid (by rw [← hW2]; exact Str.new W1 _ _)
  have hba : Below W1.heap.size W1 W2 := by rw [← hW2]; exact balloc (bsame _) _
  have HB2 := Lib.hid (bstep HB1.out hba)
  have HP2 := Lib.hid (HP1.out.next hba)
  clear hW2 hba HP1
  obtain ⟨f0, f1, f2, f3, f4, f5⟩ := str6 HS_2.out
  have hfl := HS_2.out.lt
  refine (Step_any A1 1 c1 W2.heap.size s1 4 ⟨#[97]⟩ [] none 0 0 0 0 0 3 _ HP2.out (Nat.le_refl _) HR1.out HSM.out (Bytes.none_ _ _) (Nat.zero_le _) (by decide) (by unfold In64; omega) (by unfold In64; omega) (by unfold In64; omega) (by omega)).mono ?_
  rw [HS2.out]
  rintro e W3 ⟨A3, n3, c3, Ab, nb, cb, rfl, hP3, hy3, hb3⟩
  have hn3 : n3 = 1 := hP3.len.symm
  subst hn3
  have HS_3 := Lib.hid (HS_2.out.next hb3)
  have HB3 := Lib.hid (bstep HB2.out hb3)
  clear hP3 hy3 hb3 f0 f1 f2 f3 f4 f5 hfl HS_2
  obtain ⟨f0, f1, f2, f3, f4, f5⟩ := str6 HS_3.out
  have hfl := HS_3.out.lt
  simp only [ansV, CellP.none]
  go_wp2_with (go_at_call 14; refine (code_any _ _).mono ?_; rintro e w9 ⟨rfl, rfl⟩)
  go_ret
  exact ⟨rfl, balloc HB3.out _⟩
end Go.Proofs.Ytghgccgpgonlmaa.Live09
