/-
  Parts of the proof of PlanGrows.
-/
import Derived.Test.YtpklclnehlgcpaaGreatPlanG19
import Derived.RegionTactic
import Derived.Test.YtpklclnehlgcpaaGreatPlanG20
import Derived.Test.YtpklclnehlgcpaaGreatPlanG7
import Derived.Test.YtpklclnehlgcpaaGreatPlanG12
import Derived.Test.YtpklclnehlgcpaaGreatPlanG0
import Derived.Test.YtpklclnehlgcpaaGreatPlanG1
import Derived.Test.YtpklclnehlgcpaaGreatPlanG9
section
namespace Go.Proofs.YtpklclnehlgcpaaGreat.ModelP
end Go.Proofs.YtpklclnehlgcpaaGreat.ModelP
namespace Go.Proofs.YtpklclnehlgcpaaGreat.ModelW
open Go.RowKit
set_option linter.unusedVariables false
end Go.Proofs.YtpklclnehlgcpaaGreat.ModelW
end
section
namespace Go.Proofs.YtpklclnehlgcpaaGreat.PlanW
open Go.RowKit ModelW
set_option linter.unusedVariables false
set_option linter.unusedSimpArgs false
theorem byteOne {w : World} {b : Nat} {x : UInt8} (hs : Str w b #[byteV x]) : Bytes w w.heap.size (some ⟨b, 0, none⟩) 1 1 [x] :=
  ⟨rfl, Nat.le_refl _, by unfold maxLen; omega, fun _ => ⟨b, 0, rfl, hs.lt, fun j u hu => by
    have hj : j = 0 := by have := (List.getElem?_eq_some_iff.1 hu).1; simp at this; omega
    subst hj
    simp at hu
    subst hu
    exact hs.cell 0⟩⟩
theorem code_any (n : Int) (w : World) : Calls Tryz.prog 11 #[.int .i64 n] w fun e w' => e = .returned (.int .i64 n) ∧ w = w' := by
  go_enter Tryz.func11, Tryz.ntmps11
  go_wp2
  go_ret
  exact ⟨rfl, rfl⟩
/-- more than is asked? -/
def bigI (x : Item) : Bool := decide (300 < x.key.size) || decide (300 < x.cell.data.length)
set_option maxRecDepth 100000 in
set_option maxHeartbeats 1000000 in
theorem big_any (A : Option Addr) (n cap : Nat) (x : Item) (w : World) (hk : x.key.size ≤ maxLen) (hl : x.cell.data.length = n) (hn : n ≤ maxLen) :
    Calls Tryz.prog 5 #[.agg (itV A n cap x)] w fun e w' => e = .returned (.bool (bigI x)) ∧ Below w.heap.size w w' := by
  obtain ⟨s, k, kind, data, lo, hi, val⟩ := x
  dsimp only [itV, bigI] at *
  rw [hl]
  clear hl
  unfold maxLen at hk hn
  by_cases h : 300 < k.size
  · have HE : Hid ((decide (300 < k.size) || decide (300 < n)) = true) := Lib.hid (by simp [h])
    rw [HE.out]
    go_enter Tryz.func5, Tryz.ntmps5
    go_wp2
    go_ret
    exact ⟨rfl, balloc (bsame w) _⟩
  by_cases h2 : 300 < n
  · have HE : Hid ((decide (300 < k.size) || decide (300 < n)) = true) := Lib.hid (by simp [h2])
    rw [HE.out]
    go_enter Tryz.func5, Tryz.ntmps5
    go_wp2
    go_ret
    exact ⟨by simp; omega, balloc (bsame w) _⟩
  · have HE : Hid ((decide (300 < k.size) || decide (300 < n)) = false) := Lib.hid (by simp [h, h2])
    rw [HE.out]
    go_enter Tryz.func5, Tryz.ntmps5
    go_wp2
    go_ret
    exact ⟨by simp; omega, balloc (bsame w) _⟩
theorem live_step : ModelP.step (PlanP.state ⟨1, ⟨#[97]⟩, ⟨1, [7], 0, 0, 0⟩⟩) ⟨3, ⟨#[97]⟩, [], 0, 0, 0⟩ = ([], ⟨0, CellP.none⟩) := by
  have hg : ModelP.good ⟨3, ⟨#[97]⟩, [], 0, 0, 0⟩ = true := by decide +kernel
  have hs : PlanP.state ⟨1, ⟨#[97]⟩, ⟨1, [7], 0, 0, 0⟩⟩ = [⟨⟨#[97]⟩, ⟨1, [7], 0, 0, 0⟩⟩] := rfl
  have hf : ModelP.find [⟨⟨#[97]⟩, ⟨1, [7], 0, 0, 0⟩⟩] ⟨#[97]⟩ = some ⟨1, [7], 0, 0, 0⟩ := by simp [ModelP.find]
  rw [hs]
  unfold ModelP.step
  rw [if_neg (by simp [hg]), hf, if_neg (by simp [ModelP.rule])]
  rfl
theorem live_slot : PlanP.slot ⟨3, ⟨#[97]⟩, [], 0, 0, 0⟩ ⟨1, ⟨#[97]⟩, ⟨1, [7], 0, 0, 0⟩⟩ = (⟨2, ⟨#[97]⟩, ⟨1, [7], 0, 0, 0⟩⟩, ⟨0, CellP.none⟩) := by
  unfold PlanP.slot
  rw [live_step]
  rfl
theorem live_right : SlotP.right ⟨1, ⟨#[97]⟩, ⟨1, [7], 0, 0, 0⟩⟩ = true := by decide +kernel
set_option maxRecDepth 100000 in
set_option maxHeartbeats 1000000 in
theorem live_any (w : World) : Calls Tryz.prog 6 #[] w fun e w' => e = .returned (.bool true) ∧ Below w.heap.size w w' := by
  go_enter Tryz.func6, Tryz.ntmps6
  go_wp2_with fail
  generalize hW0 : ((w).alloc (.cells #[.int .u8 7] 5)).alloc (.cells #[.int .i64 1, .string ⟨#[97]⟩, .int .i64 1, .slice (some ⟨w.heap.size, 0, none⟩) 1 1, .int .i64 0, .int .i64 0, .int .i64 0] 27) = W0
  obtain ⟨HS0_0, HS1_0, HB_0, hw_0, hz0⟩ := new2 hW0
  clear hW0 hz0
  have f0_0 := str1 HS0_0.out
  have hl0_0 := HS0_0.out.lt
  have f1_0 := str7 HS1_0.out
  have hl1_0 := HS1_0.out.lt
  have HYd_0 := Lib.hid (byteOne (x := 7) HS0_0.out)
  refine (slot_any 3 ⟨#[97]⟩ [] 0 0 0 none 0 0 0 1 ⟨#[97]⟩ 1 [7] 0 0 0 (some ⟨w.heap.size, 0, none⟩) 1 1 W0.heap.size _ (Bytes.none_ _ _) (Nat.zero_le _) (by decide) (by unfold In64; omega) (by omega) HYd_0.out (Nat.le_refl _) (by decide) (by unfold In64; omega) (by omega) live_right).mono ?_
  rintro e W1 ⟨A1, n1, c1, A2, n2, c2, rfl, hy1, hy2, hb1⟩
  have HS0_1 := Lib.hid (HS0_0.out.next hb1)
  have HS1_1 := Lib.hid (HS1_0.out.next hb1)
  have HB_1 := Lib.hid (bstep HB_0.out hb1)
  have hw_1 := HB_1.out.size
  have hws_1 := (hb1).size
  have HYd_1 := Lib.hid (HYd_0.out.next hb1)
  clear HYd_0
  clear f0_0 HS0_0 f1_0 HS1_0
  have f0_1 := str1 HS0_1.out
  have hl0_1 := HS0_1.out.lt
  have f1_1 := str7 HS1_1.out
  have hl1_1 := HS1_1.out.lt
  rw [live_slot] at hy1 hy2
  rw [live_slot]
  dsimp only [itV, ansV, CellP.none] at *
  have hn1 : n1 = 1 := hy1.len.symm
  subst hn1
  have HYr_1 := Lib.hid (hy1)
  clear hy1 hy2 hb1
  go_wp2_with fail
  generalize hW2 : W1.alloc (.cells #[.int .i64 2, .string ⟨#[97]⟩, .int .i64 1, .slice A1 1 c1, .int .i64 0, .int .i64 0, .int .i64 0] 27) = W2
  have HS0_2 := sEq hW2 (HS0_1.out.alloc _)
  have HS1_2 := sEq hW2 (HS1_1.out.alloc _)
  have HS2_2 := sEq hW2 (Str.new _ _ _)
  have hba2 : Below W1.heap.size W1 W2 := by rw [← hW2]; exact balloc (bsame _) _
  have HB_2 := Lib.hid (bstep HB_1.out hba2)
  have hw_2 := HB_2.out.size
  have hws_2 := hba2.size
  have HYd_2 := Lib.hid (HYd_1.out.next hba2)
  have HYr_2 := Lib.hid (HYr_1.out.next hba2)
  clear HYd_1 HYr_1
  have hz2 : W2.heap.size = W1.heap.size + 1 := by rw [← hW2]; simp
  clear hW2
  clear f0_1 HS0_1 f1_1 HS1_1
  have f0_2 := str1 HS0_2.out
  have hl0_2 := HS0_2.out.lt
  have f1_2 := str7 HS1_2.out
  have hl1_2 := HS1_2.out.lt
  have f2_2 := str7 HS2_2.out
  have hl2_2 := HS2_2.out.lt
  generalize hW3 : W2.alloc (.cells #[.int .i64 0, .int .i64 0, .slice A2 n2 c2, .int .i64 0, .int .i64 0, .int .i64 0] 58) = W3
  have HS0_3 := sEq hW3 (HS0_2.out.alloc _)
  have HS1_3 := sEq hW3 (HS1_2.out.alloc _)
  have HS2_3 := sEq hW3 (HS2_2.out.alloc _)
  have HS3_3 := sEq hW3 (Str.new _ _ _)
  have hba3 : Below W2.heap.size W2 W3 := by rw [← hW3]; exact balloc (bsame _) _
  have HB_3 := Lib.hid (bstep HB_2.out hba3)
  have hw_3 := HB_3.out.size
  have hws_3 := hba3.size
  have HYd_3 := Lib.hid (HYd_2.out.next hba3)
  have HYr_3 := Lib.hid (HYr_2.out.next hba3)
  clear HYd_2 HYr_2
  clear hW3
  clear f0_2 HS0_2 f1_2 HS1_2 f2_2 HS2_2
  have f0_3 := str1 HS0_3.out
  have hl0_3 := HS0_3.out.lt
  have f1_3 := str7 HS1_3.out
  have hl1_3 := HS1_3.out.lt
  have f2_3 := str7 HS2_3.out
  have hl2_3 := HS2_3.out.lt
  have f3_3 := str6 HS3_3.out
  have hl3_3 := HS3_3.out.lt
  rw [hz2] at HS3_3 hl3_3 f3_3
  refine (code_any 0 _).mono ?_
  rintro e W3_ ⟨rfl, rfl⟩
  go_wp2_with fail
  generalize hW4 : W3.alloc (.cells #[.int .u8 7] 5) = W4
  have hSL : Str W4 W3.heap.size #[byteV 7] := by rw [← hW4]; exact Str.new W3 _ _
  have hba4 : Below W3.heap.size W3 W4 := by rw [← hW4]; exact balloc (bsame _) _
  clear hW4
  have HS0_4 := Lib.hid (HS0_3.out.next hba4)
  have HS1_4 := Lib.hid (HS1_3.out.next hba4)
  have HS2_4 := Lib.hid (HS2_3.out.next hba4)
  have HS3_4 := Lib.hid (HS3_3.out.next hba4)
  have HB_4 := Lib.hid (bstep HB_3.out hba4)
  have hw_4 := HB_4.out.size
  have hws_4 := (hba4).size
  have HYd_4 := Lib.hid (HYd_3.out.next hba4)
  have HYr_4 := Lib.hid (HYr_3.out.next hba4)
  clear HYd_3 HYr_3
  clear f0_3 HS0_3 f1_3 HS1_3 f2_3 HS2_3 f3_3 HS3_3
  have f0_4 := str1 HS0_4.out
  have hl0_4 := HS0_4.out.lt
  have f1_4 := str7 HS1_4.out
  have hl1_4 := HS1_4.out.lt
  have f2_4 := str7 HS2_4.out
  have hl2_4 := HS2_4.out.lt
  have f3_4 := str6 HS3_4.out
  have hl3_4 := HS3_4.out.lt
  have HLB := Lib.hid (byteOne hSL)
  clear hSL
  refine (Same.same_any _ _ _ _ _ _ _ _ [7] [7] _ HYr_4.out HLB.out).mono ?_
  rintro e W4_ ⟨rfl, rfl⟩
  rw [show (([7] : List UInt8) == [7]) = true from rfl]
  go_wp2_with fail
  go_ret
  exact ⟨rfl, HB_4.out⟩
end Go.Proofs.YtpklclnehlgcpaaGreat.PlanW
end
section
namespace Go.Proofs.YtpklclnehlgcpaaGreat.PatchP
theorem sameRuns_len {l m : List RunX} (h : l.length ≠ m.length) : sameRuns l m = false := by
  unfold sameRuns
  simp only [decide_eq_false_iff_not]
  intro e; exact h (by rw [e])
theorem sameRuns_at {l m : List RunX} {k : Nat} {r q : RunX} (hr : l[k]? = some r) (hq : m[k]? = some q) (h : ¬ (r.at_ = q.at_ ∧ r.data = q.data)) : sameRuns l m = false := by
  unfold sameRuns
  simp only [decide_eq_false_iff_not]
  intro e
  rw [e, hq] at hr
  cases hr
  exact h ⟨rfl, rfl⟩
theorem sameRuns_all {l m : List RunX} {k : Nat} (h : l.take k = m.take k) (h1 : l.length = k) (h2 : m.length = k) : sameRuns l m = true := by
  unfold sameRuns
  simp only [decide_eq_true_eq]
  rwa [List.take_of_length_le (by omega), List.take_of_length_le (by omega)] at h
theorem take_same {l m : List RunX} {k : Nat} {r q : RunX} (h : l.take k = m.take k) (hr : l[k]? = some r) (hq : m[k]? = some q) (h1 : r.at_ = q.at_) (h2 : r.data = q.data) : l.take (k + 1) = m.take (k + 1) := by
  obtain ⟨i1, e1⟩ := List.getElem?_eq_some_iff.1 hr
  obtain ⟨i2, e2⟩ := List.getElem?_eq_some_iff.1 hq
  rw [List.take_succ_eq_append_getElem i1, List.take_succ_eq_append_getElem i2, h, e1, e2]
  obtain ⟨ra, rd⟩ := r
  obtain ⟨qa, qd⟩ := q
  cases h1; cases h2; rfl
theorem same_eq (x y : PatchX) : same x y = ((x.page == y.page) && ((x.fresh == y.fresh) && sameRuns x.runs y.runs)) := by
  unfold same sameRuns
  rw [Bool.eq_iff_iff]
  simp only [decide_eq_true_eq, Bool.and_eq_true, beq_iff_eq]
  constructor
  · intro e; subst e; exact ⟨rfl, rfl, rfl⟩
  · obtain ⟨a, b, c⟩ := x
    obtain ⟨d, e, f⟩ := y
    rintro ⟨h1, h2, h3⟩
    cases h1; cases h2; cases h3; rfl
/-- no more than is asked -/
def Asked (l : List RunX) : Prop := l.length ≤ 60 ∧ ∀ r ∈ l, r.data.length ≤ 600
end Go.Proofs.YtpklclnehlgcpaaGreat.PatchP
namespace Go.Proofs.YtpklclnehlgcpaaGreat.RefPatch
open Go.RowKit
set_option linter.unusedVariables false
set_option linter.unusedSimpArgs false
set_option maxRecDepth 100000 in
set_option maxHeartbeats 4000000 in
theorem sameRuns_any (A A' : Option Addr) (n c n' c' B B' : Nat) (l m : List RunX) (w : World) (hE : Elems RunE w B A n c l) (hB : B ≤ w.heap.size) (hE2 : Elems RunE w B' A' n' c' m) (hB2 : B' ≤ w.heap.size) :
    Calls Tryz.prog 27 #[.slice A n c, .slice A' n' c'] w fun e w' => e = .returned (.bool (PatchP.sameRuns l m)) ∧ Below w.heap.size w w' := by
  have HE := Lib.hid hE
  have HE2 := Lib.hid hE2
  have hlen := hE.len
  have hlen2 := hE2.len
  have hcap := hE.cap
  have hcm := hcap.2
  have hcap2 := hE2.cap
  have hcm2 := hcap2.2
  unfold maxLen at hcm hcm2
  clear hE hE2
  by_cases hn : n = n'
  rotate_left
  · have HR := Lib.hid (PatchP.sameRuns_len (l := l) (m := m) (by rw [hlen, hlen2]; exact hn))
    have hd : ((n : Int) != (n' : Int)) = true := by simp; omega
    clear hn
    go_enter Tryz.func27, Tryz.ntmps27
    go_wp2
    go_ret
    exact ⟨by rw [HR.out]; rfl, bsame w⟩
  subst hn
  have hd0 : ((n : Int) != (n : Int)) = false := by simp
  go_enter Tryz.func27, Tryz.ntmps27
  go_wp2
  go_loopw [5] (fun iv wr => ∃ k : Nat, k ≤ n ∧ iv = .int .i64 (k : Int) ∧ Hid (l.take k = m.take k) ∧ Hid (Below w.heap.size w wr)) (fun iv _ => n - (intOf iv).toNat)
  case atStart => exact ⟨0, Nat.zero_le _, rfl, Lib.hid (by simp), Lib.hid (bsame w)⟩
  case round =>
    obtain ⟨k, hk, rfl, HK, HB⟩ := hrel
    have hwr := HB.out.size
    by_cases hlt : k < n
    · have hd : decide ((k : Int) < (n : Int)) = true := by simp; omega
      obtain ⟨b, o, r, A2, n2, c2, rfl, hb, hr, hy, hir, q0, q1⟩ := run_at HE.out hlt
      obtain ⟨b', o', q, A3, n3, c3, rfl, hb', hq, hy', hiq, q2, q3⟩ := run_at HE2.out hlt
      replace q0 := (HB.out.cell (p := ⟨b, o + k * 2, none⟩) (by show b < _; omega)).trans q0
      replace q1 := (HB.out.cell (p := ⟨b, o + k * 2 + 1, none⟩) (by show b < _; omega)).trans q1
      replace q2 := (HB.out.cell (p := ⟨b', o' + k * 2, none⟩) (by show b' < _; omega)).trans q2
      replace q3 := (HB.out.cell (p := ⟨b', o' + k * 2 + 1, none⟩) (by show b' < _; omega)).trans q3
      have HQ := Lib.hid (And.intro (And.intro q0 q1) (And.intro q2 q3))
      have HY := Lib.hid ((hy.below (HB.out.mono hB)).more (Nat.le_trans hB hwr))
      have HY2 := Lib.hid ((hy'.below (HB.out.mono hB2)).more (Nat.le_trans hB2 hwr))
      have hbw : b < wr.heap.size := by omega
      have hbw' : b' < wr.heap.size := by omega
      have hrq := And.intro hr hq
      have HRQ := Lib.hid hrq
      obtain ⟨rp, rd⟩ := r
      obtain ⟨sp, sd⟩ := q
      dsimp only at *
      clear q0 q1 q2 q3 hy hy' hr hq hrq hd
      by_cases ha : rp = sp
      · have hda : (rp != sp) = false := by simpa using ha
        by_cases he : rd = sd
        · have HK2 : Hid (l.take (k + 1) = m.take (k + 1)) := Lib.hid (PatchP.take_same HK.out HRQ.out.1 HRQ.out.2 ha he)
          have HEQ : Hid ((rd == sd) = true) := Lib.hid (by simpa using he)
          clear ha he
          go_wp2_with fail
          refine Reg.wp_region_vals (R := ext) (W := wr) [Reg.eqv (.slice (some ⟨b, o, none⟩) n c), Reg.eqv (.int .i64 (k : Int)), Reg.eqv (.pointer (some ⟨b, o + k * 2, none⟩)), Reg.eqv (.pointer (some ⟨b, o + k * 2, none⟩)), Reg.eqv (.int .i64 rp), Reg.eqv (.slice (some ⟨b', o', none⟩) n c'), Reg.eqv (.int .i64 (k : Int)), Reg.eqv (.pointer (some ⟨b', o' + k * 2, none⟩)), Reg.eqv (.pointer (some ⟨b', o' + k * 2, none⟩)), Reg.eqv (.int .i64 sp), Reg.eqv (.bool false), Reg.eqv (.bool false), Reg.eqv (.slice (some ⟨b, o, none⟩) n c), Reg.eqv (.int .i64 (k : Int)), Reg.eqv (.pointer (some ⟨b, o + k * 2, none⟩)), Reg.eqv (.pointer (some ⟨b, o + k * 2 + 1, none⟩)), Reg.eqv (.slice A2 n2 c2), Reg.eqv (.slice (some ⟨b', o', none⟩) n c'), Reg.eqv (.int .i64 (k : Int)), Reg.eqv (.pointer (some ⟨b', o' + k * 2, none⟩)), Reg.eqv (.pointer (some ⟨b', o' + k * 2 + 1, none⟩)), Reg.eqv (.slice A3 n3 c3), Reg.eqv (.bool true), Reg.eqv (.bool false), Reg.eqv (.bool false)] 42 [[(0, none)], [(5, none)], [(17, some 0), (18, some 1)], [(19, some 2)], [(20, some 3)], [(1, none)], [(5, none)], [(22, some 5), (23, some 6)], [(24, some 7)], [(25, some 8)], [(21, some 4), (26, some 9)], [(27, some 10)], [(0, none), (28, some 11)], [(5, none), (28, some 11)], [(29, some 12), (30, some 13), (28, some 11)], [(31, some 14), (28, some 11)], [(32, some 15), (28, some 11)], [(1, none), (28, some 11)], [(5, none), (28, some 11)], [(34, some 17), (35, some 18), (28, some 11)], [(36, some 19), (28, some 11)], [(37, some 20), (28, some 11)], [(33, some 16), (38, some 21), (28, some 11)], [(39, some 22), (28, some 11)], [(28, some 11), (40, some 23)]] rfl (by kernel_rfl) (by kernel_rfl) (by kernel_rfl) ?_ [some 17, some 18, some 19, some 20, some 21, some 22, some 23, some 24, some 25, some 26, some 27, some 28, some 29, some 30, some 31, some 32, some 33, some 34, some 35, some 36, some 37, some 38, some 39, some 40, some 41] (by kernel_rfl) ?_
          · refine ⟨?_, ?_, ?_, ?_, ?_, ?_, ?_, ?_, ?_, ?_, ?_, ?_, ?_, ?_, ?_, ?_, ?_, ?_, ?_, ?_, ?_, ?_, ?_, ?_, ?_, trivial⟩
            · intro ax wx hx hs
              obtain ⟨e0, -⟩ := hs
              have g0 := Reg.ev (v := .slice (some ⟨b, o, none⟩) n c) e0
              exact Reg.obl_free rfl (Reg.wp_eqv (Option.some_ne_none _) (by go_simp) rfl)
            · intro ax wx hx hs
              obtain ⟨e5, -⟩ := hs
              have g5 := Reg.ev (v := .int .i64 (k : Int)) e5
              exact Reg.obl_free rfl (Reg.wp_eqv (Option.some_ne_none _) (by go_simp) rfl)
            · intro ax wx hx hs
              obtain ⟨e17, e18, -⟩ := hs
              have g17 := Reg.ev (v := .slice (some ⟨b, o, none⟩) n c) e17
              have g18 := Reg.ev (v := .int .i64 (k : Int)) e18
              refine Reg.obl_free rfl ?_
              exact Reg.wp_eqv (Option.some_ne_none _) (by go_simp; first | done | (intro hq; omega)) rfl
            · intro ax wx hx hs
              obtain ⟨e19, -⟩ := hs
              have g19 := Reg.ev (v := .pointer (some ⟨b, o + k * 2, none⟩)) e19
              exact Reg.obl_free rfl (Reg.wp_eqv (Option.some_ne_none _) (by go_simp) rfl)
            · intro ax wx hx hs
              obtain ⟨e20, -⟩ := hs
              have g20 := Reg.ev (v := .pointer (some ⟨b, o + k * 2, none⟩)) e20
              have hx' : Below wr.heap.size wr wx := hx
              have l1 := (hx'.cell (p := ⟨b, o + k * 2, none⟩) hbw).trans HQ.out.1.1
              have l2 := (hx'.cell (p := ⟨b, o + k * 2 + 1, none⟩) hbw).trans HQ.out.1.2
              have l3 := (hx'.cell (p := ⟨b', o' + k * 2, none⟩) hbw').trans HQ.out.2.1
              have l4 := (hx'.cell (p := ⟨b', o' + k * 2 + 1, none⟩) hbw').trans HQ.out.2.2
              exact Reg.obl_free rfl (Reg.wp_eqv (Option.some_ne_none _) (by go_simp) rfl)
            · intro ax wx hx hs
              obtain ⟨e1, -⟩ := hs
              have g1 := Reg.ev (v := .slice (some ⟨b', o', none⟩) n c') e1
              exact Reg.obl_free rfl (Reg.wp_eqv (Option.some_ne_none _) (by go_simp) rfl)
            · intro ax wx hx hs
              obtain ⟨e5, -⟩ := hs
              have g5 := Reg.ev (v := .int .i64 (k : Int)) e5
              exact Reg.obl_free rfl (Reg.wp_eqv (Option.some_ne_none _) (by go_simp) rfl)
            · intro ax wx hx hs
              obtain ⟨e22, e23, -⟩ := hs
              have g22 := Reg.ev (v := .slice (some ⟨b', o', none⟩) n c') e22
              have g23 := Reg.ev (v := .int .i64 (k : Int)) e23
              refine Reg.obl_free rfl ?_
              exact Reg.wp_eqv (Option.some_ne_none _) (by go_simp; first | done | (intro hq; omega)) rfl
            · intro ax wx hx hs
              obtain ⟨e24, -⟩ := hs
              have g24 := Reg.ev (v := .pointer (some ⟨b', o' + k * 2, none⟩)) e24
              exact Reg.obl_free rfl (Reg.wp_eqv (Option.some_ne_none _) (by go_simp) rfl)
            · intro ax wx hx hs
              obtain ⟨e25, -⟩ := hs
              have g25 := Reg.ev (v := .pointer (some ⟨b', o' + k * 2, none⟩)) e25
              have hx' : Below wr.heap.size wr wx := hx
              have l1 := (hx'.cell (p := ⟨b, o + k * 2, none⟩) hbw).trans HQ.out.1.1
              have l2 := (hx'.cell (p := ⟨b, o + k * 2 + 1, none⟩) hbw).trans HQ.out.1.2
              have l3 := (hx'.cell (p := ⟨b', o' + k * 2, none⟩) hbw').trans HQ.out.2.1
              have l4 := (hx'.cell (p := ⟨b', o' + k * 2 + 1, none⟩) hbw').trans HQ.out.2.2
              exact Reg.obl_free rfl (Reg.wp_eqv (Option.some_ne_none _) (by go_simp) rfl)
            · intro ax wx hx hs
              obtain ⟨e21, e26, -⟩ := hs
              have g21 := Reg.ev (v := .int .i64 rp) e21
              have g26 := Reg.ev (v := .int .i64 sp) e26
              exact Reg.obl_free rfl (Reg.wp_eqv (Option.some_ne_none _) (by go_simp) rfl)
            · intro ax wx hx hs
              obtain ⟨e27, -⟩ := hs
              have g27 := Reg.ev (v := .bool false) e27
              exact Reg.obl_free rfl (Reg.wp_eqv (Option.some_ne_none _) (by go_simp) rfl)
            · intro ax wx hx hs
              obtain ⟨e0, e28, -⟩ := hs
              have g0 := Reg.ev (v := .slice (some ⟨b, o, none⟩) n c) e0
              have g28 := Reg.ev (v := .bool false) e28
              exact Reg.obl_want rfl rfl e28 (Reg.wp_eqv (Option.some_ne_none _) (by go_simp) rfl)
            · intro ax wx hx hs
              obtain ⟨e5, e28, -⟩ := hs
              have g5 := Reg.ev (v := .int .i64 (k : Int)) e5
              have g28 := Reg.ev (v := .bool false) e28
              exact Reg.obl_want rfl rfl e28 (Reg.wp_eqv (Option.some_ne_none _) (by go_simp) rfl)
            · intro ax wx hx hs
              obtain ⟨e29, e30, e28, -⟩ := hs
              have g29 := Reg.ev (v := .slice (some ⟨b, o, none⟩) n c) e29
              have g30 := Reg.ev (v := .int .i64 (k : Int)) e30
              have g28 := Reg.ev (v := .bool false) e28
              refine Reg.obl_want rfl rfl e28 ?_
              exact Reg.wp_eqv (Option.some_ne_none _) (by go_simp; first | done | (intro hq; omega)) rfl
            · intro ax wx hx hs
              obtain ⟨e31, e28, -⟩ := hs
              have g31 := Reg.ev (v := .pointer (some ⟨b, o + k * 2, none⟩)) e31
              have g28 := Reg.ev (v := .bool false) e28
              exact Reg.obl_want rfl rfl e28 (Reg.wp_eqv (Option.some_ne_none _) (by go_simp) rfl)
            · intro ax wx hx hs
              obtain ⟨e32, e28, -⟩ := hs
              have g32 := Reg.ev (v := .pointer (some ⟨b, o + k * 2 + 1, none⟩)) e32
              have g28 := Reg.ev (v := .bool false) e28
              have hx' : Below wr.heap.size wr wx := hx
              have l1 := (hx'.cell (p := ⟨b, o + k * 2, none⟩) hbw).trans HQ.out.1.1
              have l2 := (hx'.cell (p := ⟨b, o + k * 2 + 1, none⟩) hbw).trans HQ.out.1.2
              have l3 := (hx'.cell (p := ⟨b', o' + k * 2, none⟩) hbw').trans HQ.out.2.1
              have l4 := (hx'.cell (p := ⟨b', o' + k * 2 + 1, none⟩) hbw').trans HQ.out.2.2
              exact Reg.obl_want rfl rfl e28 (Reg.wp_eqv (Option.some_ne_none _) (by go_simp) rfl)
            · intro ax wx hx hs
              obtain ⟨e1, e28, -⟩ := hs
              have g1 := Reg.ev (v := .slice (some ⟨b', o', none⟩) n c') e1
              have g28 := Reg.ev (v := .bool false) e28
              exact Reg.obl_want rfl rfl e28 (Reg.wp_eqv (Option.some_ne_none _) (by go_simp) rfl)
            · intro ax wx hx hs
              obtain ⟨e5, e28, -⟩ := hs
              have g5 := Reg.ev (v := .int .i64 (k : Int)) e5
              have g28 := Reg.ev (v := .bool false) e28
              exact Reg.obl_want rfl rfl e28 (Reg.wp_eqv (Option.some_ne_none _) (by go_simp) rfl)
            · intro ax wx hx hs
              obtain ⟨e34, e35, e28, -⟩ := hs
              have g34 := Reg.ev (v := .slice (some ⟨b', o', none⟩) n c') e34
              have g35 := Reg.ev (v := .int .i64 (k : Int)) e35
              have g28 := Reg.ev (v := .bool false) e28
              refine Reg.obl_want rfl rfl e28 ?_
              exact Reg.wp_eqv (Option.some_ne_none _) (by go_simp; first | done | (intro hq; omega)) rfl
            · intro ax wx hx hs
              obtain ⟨e36, e28, -⟩ := hs
              have g36 := Reg.ev (v := .pointer (some ⟨b', o' + k * 2, none⟩)) e36
              have g28 := Reg.ev (v := .bool false) e28
              exact Reg.obl_want rfl rfl e28 (Reg.wp_eqv (Option.some_ne_none _) (by go_simp) rfl)
            · intro ax wx hx hs
              obtain ⟨e37, e28, -⟩ := hs
              have g37 := Reg.ev (v := .pointer (some ⟨b', o' + k * 2 + 1, none⟩)) e37
              have g28 := Reg.ev (v := .bool false) e28
              have hx' : Below wr.heap.size wr wx := hx
              have l1 := (hx'.cell (p := ⟨b, o + k * 2, none⟩) hbw).trans HQ.out.1.1
              have l2 := (hx'.cell (p := ⟨b, o + k * 2 + 1, none⟩) hbw).trans HQ.out.1.2
              have l3 := (hx'.cell (p := ⟨b', o' + k * 2, none⟩) hbw').trans HQ.out.2.1
              have l4 := (hx'.cell (p := ⟨b', o' + k * 2 + 1, none⟩) hbw').trans HQ.out.2.2
              exact Reg.obl_want rfl rfl e28 (Reg.wp_eqv (Option.some_ne_none _) (by go_simp) rfl)
            · intro ax wx hx hs
              obtain ⟨e33, e38, e28, -⟩ := hs
              have g33 := Reg.ev (v := .slice A2 n2 c2) e33
              have g38 := Reg.ev (v := .slice A3 n3 c3) e38
              have g28 := Reg.ev (v := .bool false) e28
              refine Reg.obl_want rfl rfl e28 ?_
              have hx' : Below wr.heap.size wr wx := hx
              go_simp
              refine (Same.same_any _ _ _ _ _ _ _ _ rd sd wx (HY.out.next hx') (HY2.out.next hx')).mono ?_
              rintro e wy ⟨rfl, rfl⟩
              rw [HEQ.out]
              exact Reg.done (Option.some_ne_none _) rfl (bsame _)
            · intro ax wx hx hs
              obtain ⟨e39, e28, -⟩ := hs
              have g39 := Reg.ev (v := .bool true) e39
              have g28 := Reg.ev (v := .bool false) e28
              exact Reg.obl_want rfl rfl e28 (Reg.wp_eqv (Option.some_ne_none _) (by go_simp) rfl)
            · intro ax wx hx hs
              obtain ⟨e28, e40, -⟩ := hs
              have g28 := Reg.ev (v := .bool false) e28
              have g40 := Reg.ev (v := .bool false) e40
              exact Reg.obl_free rfl (Reg.wp_eqv (Option.some_ne_none _) (by go_simp) rfl)
          · intro W2 hwf
            simp only [Reg.Fin]
            rintro _ rfl _ rfl _ rfl _ rfl _ rfl _ rfl _ rfl _ rfl _ rfl _ rfl _ rfl _ rfl _ rfl _ rfl _ rfl _ rfl _ rfl _ rfl _ rfl _ rfl _ rfl _ rfl _ rfl _ rfl _ rfl
            go_simp
            have hwf' : Below wr.heap.size wr W2 := hwf
            have HB2 := Lib.hid (bstep HB.out hwf')
            clear hwf hwf'
            go_wp2
            go_roundw
            case rel => exact ⟨k + 1, by omega, by first | rfl | go_num, HK2, HB2⟩
            case measure => simp [intOf]; omega
        · have HRR := Lib.hid (PatchP.sameRuns_at HRQ.out.1 HRQ.out.2 (fun h => he h.2))
          have HEQ : Hid ((rd == sd) = false) := Lib.hid (by simpa using he)
          clear ha he
          go_wp2_with fail
          refine Reg.wp_region_vals (R := ext) (W := wr) [Reg.eqv (.slice (some ⟨b, o, none⟩) n c), Reg.eqv (.int .i64 (k : Int)), Reg.eqv (.pointer (some ⟨b, o + k * 2, none⟩)), Reg.eqv (.pointer (some ⟨b, o + k * 2, none⟩)), Reg.eqv (.int .i64 rp), Reg.eqv (.slice (some ⟨b', o', none⟩) n c'), Reg.eqv (.int .i64 (k : Int)), Reg.eqv (.pointer (some ⟨b', o' + k * 2, none⟩)), Reg.eqv (.pointer (some ⟨b', o' + k * 2, none⟩)), Reg.eqv (.int .i64 sp), Reg.eqv (.bool false), Reg.eqv (.bool false), Reg.eqv (.slice (some ⟨b, o, none⟩) n c), Reg.eqv (.int .i64 (k : Int)), Reg.eqv (.pointer (some ⟨b, o + k * 2, none⟩)), Reg.eqv (.pointer (some ⟨b, o + k * 2 + 1, none⟩)), Reg.eqv (.slice A2 n2 c2), Reg.eqv (.slice (some ⟨b', o', none⟩) n c'), Reg.eqv (.int .i64 (k : Int)), Reg.eqv (.pointer (some ⟨b', o' + k * 2, none⟩)), Reg.eqv (.pointer (some ⟨b', o' + k * 2 + 1, none⟩)), Reg.eqv (.slice A3 n3 c3), Reg.eqv (.bool false), Reg.eqv (.bool true), Reg.eqv (.bool true)] 42 [[(0, none)], [(5, none)], [(17, some 0), (18, some 1)], [(19, some 2)], [(20, some 3)], [(1, none)], [(5, none)], [(22, some 5), (23, some 6)], [(24, some 7)], [(25, some 8)], [(21, some 4), (26, some 9)], [(27, some 10)], [(0, none), (28, some 11)], [(5, none), (28, some 11)], [(29, some 12), (30, some 13), (28, some 11)], [(31, some 14), (28, some 11)], [(32, some 15), (28, some 11)], [(1, none), (28, some 11)], [(5, none), (28, some 11)], [(34, some 17), (35, some 18), (28, some 11)], [(36, some 19), (28, some 11)], [(37, some 20), (28, some 11)], [(33, some 16), (38, some 21), (28, some 11)], [(39, some 22), (28, some 11)], [(28, some 11), (40, some 23)]] rfl (by kernel_rfl) (by kernel_rfl) (by kernel_rfl) ?_ [some 17, some 18, some 19, some 20, some 21, some 22, some 23, some 24, some 25, some 26, some 27, some 28, some 29, some 30, some 31, some 32, some 33, some 34, some 35, some 36, some 37, some 38, some 39, some 40, some 41] (by kernel_rfl) ?_
          · refine ⟨?_, ?_, ?_, ?_, ?_, ?_, ?_, ?_, ?_, ?_, ?_, ?_, ?_, ?_, ?_, ?_, ?_, ?_, ?_, ?_, ?_, ?_, ?_, ?_, ?_, trivial⟩
            · intro ax wx hx hs
              obtain ⟨e0, -⟩ := hs
              have g0 := Reg.ev (v := .slice (some ⟨b, o, none⟩) n c) e0
              exact Reg.obl_free rfl (Reg.wp_eqv (Option.some_ne_none _) (by go_simp) rfl)
            · intro ax wx hx hs
              obtain ⟨e5, -⟩ := hs
              have g5 := Reg.ev (v := .int .i64 (k : Int)) e5
              exact Reg.obl_free rfl (Reg.wp_eqv (Option.some_ne_none _) (by go_simp) rfl)
            · intro ax wx hx hs
              obtain ⟨e17, e18, -⟩ := hs
              have g17 := Reg.ev (v := .slice (some ⟨b, o, none⟩) n c) e17
              have g18 := Reg.ev (v := .int .i64 (k : Int)) e18
              refine Reg.obl_free rfl ?_
              exact Reg.wp_eqv (Option.some_ne_none _) (by go_simp; first | done | (intro hq; omega)) rfl
            · intro ax wx hx hs
              obtain ⟨e19, -⟩ := hs
              have g19 := Reg.ev (v := .pointer (some ⟨b, o + k * 2, none⟩)) e19
              exact Reg.obl_free rfl (Reg.wp_eqv (Option.some_ne_none _) (by go_simp) rfl)
            · intro ax wx hx hs
              obtain ⟨e20, -⟩ := hs
              have g20 := Reg.ev (v := .pointer (some ⟨b, o + k * 2, none⟩)) e20
              have hx' : Below wr.heap.size wr wx := hx
              have l1 := (hx'.cell (p := ⟨b, o + k * 2, none⟩) hbw).trans HQ.out.1.1
              have l2 := (hx'.cell (p := ⟨b, o + k * 2 + 1, none⟩) hbw).trans HQ.out.1.2
              have l3 := (hx'.cell (p := ⟨b', o' + k * 2, none⟩) hbw').trans HQ.out.2.1
              have l4 := (hx'.cell (p := ⟨b', o' + k * 2 + 1, none⟩) hbw').trans HQ.out.2.2
              exact Reg.obl_free rfl (Reg.wp_eqv (Option.some_ne_none _) (by go_simp) rfl)
            · intro ax wx hx hs
              obtain ⟨e1, -⟩ := hs
              have g1 := Reg.ev (v := .slice (some ⟨b', o', none⟩) n c') e1
              exact Reg.obl_free rfl (Reg.wp_eqv (Option.some_ne_none _) (by go_simp) rfl)
            · intro ax wx hx hs
              obtain ⟨e5, -⟩ := hs
              have g5 := Reg.ev (v := .int .i64 (k : Int)) e5
              exact Reg.obl_free rfl (Reg.wp_eqv (Option.some_ne_none _) (by go_simp) rfl)
            · intro ax wx hx hs
              obtain ⟨e22, e23, -⟩ := hs
              have g22 := Reg.ev (v := .slice (some ⟨b', o', none⟩) n c') e22
              have g23 := Reg.ev (v := .int .i64 (k : Int)) e23
              refine Reg.obl_free rfl ?_
              exact Reg.wp_eqv (Option.some_ne_none _) (by go_simp; first | done | (intro hq; omega)) rfl
            · intro ax wx hx hs
              obtain ⟨e24, -⟩ := hs
              have g24 := Reg.ev (v := .pointer (some ⟨b', o' + k * 2, none⟩)) e24
              exact Reg.obl_free rfl (Reg.wp_eqv (Option.some_ne_none _) (by go_simp) rfl)
            · intro ax wx hx hs
              obtain ⟨e25, -⟩ := hs
              have g25 := Reg.ev (v := .pointer (some ⟨b', o' + k * 2, none⟩)) e25
              have hx' : Below wr.heap.size wr wx := hx
              have l1 := (hx'.cell (p := ⟨b, o + k * 2, none⟩) hbw).trans HQ.out.1.1
              have l2 := (hx'.cell (p := ⟨b, o + k * 2 + 1, none⟩) hbw).trans HQ.out.1.2
              have l3 := (hx'.cell (p := ⟨b', o' + k * 2, none⟩) hbw').trans HQ.out.2.1
              have l4 := (hx'.cell (p := ⟨b', o' + k * 2 + 1, none⟩) hbw').trans HQ.out.2.2
              exact Reg.obl_free rfl (Reg.wp_eqv (Option.some_ne_none _) (by go_simp) rfl)
            · intro ax wx hx hs
              obtain ⟨e21, e26, -⟩ := hs
              have g21 := Reg.ev (v := .int .i64 rp) e21
              have g26 := Reg.ev (v := .int .i64 sp) e26
              exact Reg.obl_free rfl (Reg.wp_eqv (Option.some_ne_none _) (by go_simp) rfl)
            · intro ax wx hx hs
              obtain ⟨e27, -⟩ := hs
              have g27 := Reg.ev (v := .bool false) e27
              exact Reg.obl_free rfl (Reg.wp_eqv (Option.some_ne_none _) (by go_simp) rfl)
            · intro ax wx hx hs
              obtain ⟨e0, e28, -⟩ := hs
              have g0 := Reg.ev (v := .slice (some ⟨b, o, none⟩) n c) e0
              have g28 := Reg.ev (v := .bool false) e28
              exact Reg.obl_want rfl rfl e28 (Reg.wp_eqv (Option.some_ne_none _) (by go_simp) rfl)
            · intro ax wx hx hs
              obtain ⟨e5, e28, -⟩ := hs
              have g5 := Reg.ev (v := .int .i64 (k : Int)) e5
              have g28 := Reg.ev (v := .bool false) e28
              exact Reg.obl_want rfl rfl e28 (Reg.wp_eqv (Option.some_ne_none _) (by go_simp) rfl)
            · intro ax wx hx hs
              obtain ⟨e29, e30, e28, -⟩ := hs
              have g29 := Reg.ev (v := .slice (some ⟨b, o, none⟩) n c) e29
              have g30 := Reg.ev (v := .int .i64 (k : Int)) e30
              have g28 := Reg.ev (v := .bool false) e28
              refine Reg.obl_want rfl rfl e28 ?_
              exact Reg.wp_eqv (Option.some_ne_none _) (by go_simp; first | done | (intro hq; omega)) rfl
            · intro ax wx hx hs
              obtain ⟨e31, e28, -⟩ := hs
              have g31 := Reg.ev (v := .pointer (some ⟨b, o + k * 2, none⟩)) e31
              have g28 := Reg.ev (v := .bool false) e28
              exact Reg.obl_want rfl rfl e28 (Reg.wp_eqv (Option.some_ne_none _) (by go_simp) rfl)
            · intro ax wx hx hs
              obtain ⟨e32, e28, -⟩ := hs
              have g32 := Reg.ev (v := .pointer (some ⟨b, o + k * 2 + 1, none⟩)) e32
              have g28 := Reg.ev (v := .bool false) e28
              have hx' : Below wr.heap.size wr wx := hx
              have l1 := (hx'.cell (p := ⟨b, o + k * 2, none⟩) hbw).trans HQ.out.1.1
              have l2 := (hx'.cell (p := ⟨b, o + k * 2 + 1, none⟩) hbw).trans HQ.out.1.2
              have l3 := (hx'.cell (p := ⟨b', o' + k * 2, none⟩) hbw').trans HQ.out.2.1
              have l4 := (hx'.cell (p := ⟨b', o' + k * 2 + 1, none⟩) hbw').trans HQ.out.2.2
              exact Reg.obl_want rfl rfl e28 (Reg.wp_eqv (Option.some_ne_none _) (by go_simp) rfl)
            · intro ax wx hx hs
              obtain ⟨e1, e28, -⟩ := hs
              have g1 := Reg.ev (v := .slice (some ⟨b', o', none⟩) n c') e1
              have g28 := Reg.ev (v := .bool false) e28
              exact Reg.obl_want rfl rfl e28 (Reg.wp_eqv (Option.some_ne_none _) (by go_simp) rfl)
            · intro ax wx hx hs
              obtain ⟨e5, e28, -⟩ := hs
              have g5 := Reg.ev (v := .int .i64 (k : Int)) e5
              have g28 := Reg.ev (v := .bool false) e28
              exact Reg.obl_want rfl rfl e28 (Reg.wp_eqv (Option.some_ne_none _) (by go_simp) rfl)
            · intro ax wx hx hs
              obtain ⟨e34, e35, e28, -⟩ := hs
              have g34 := Reg.ev (v := .slice (some ⟨b', o', none⟩) n c') e34
              have g35 := Reg.ev (v := .int .i64 (k : Int)) e35
              have g28 := Reg.ev (v := .bool false) e28
              refine Reg.obl_want rfl rfl e28 ?_
              exact Reg.wp_eqv (Option.some_ne_none _) (by go_simp; first | done | (intro hq; omega)) rfl
            · intro ax wx hx hs
              obtain ⟨e36, e28, -⟩ := hs
              have g36 := Reg.ev (v := .pointer (some ⟨b', o' + k * 2, none⟩)) e36
              have g28 := Reg.ev (v := .bool false) e28
              exact Reg.obl_want rfl rfl e28 (Reg.wp_eqv (Option.some_ne_none _) (by go_simp) rfl)
            · intro ax wx hx hs
              obtain ⟨e37, e28, -⟩ := hs
              have g37 := Reg.ev (v := .pointer (some ⟨b', o' + k * 2 + 1, none⟩)) e37
              have g28 := Reg.ev (v := .bool false) e28
              have hx' : Below wr.heap.size wr wx := hx
              have l1 := (hx'.cell (p := ⟨b, o + k * 2, none⟩) hbw).trans HQ.out.1.1
              have l2 := (hx'.cell (p := ⟨b, o + k * 2 + 1, none⟩) hbw).trans HQ.out.1.2
              have l3 := (hx'.cell (p := ⟨b', o' + k * 2, none⟩) hbw').trans HQ.out.2.1
              have l4 := (hx'.cell (p := ⟨b', o' + k * 2 + 1, none⟩) hbw').trans HQ.out.2.2
              exact Reg.obl_want rfl rfl e28 (Reg.wp_eqv (Option.some_ne_none _) (by go_simp) rfl)
            · intro ax wx hx hs
              obtain ⟨e33, e38, e28, -⟩ := hs
              have g33 := Reg.ev (v := .slice A2 n2 c2) e33
              have g38 := Reg.ev (v := .slice A3 n3 c3) e38
              have g28 := Reg.ev (v := .bool false) e28
              refine Reg.obl_want rfl rfl e28 ?_
              have hx' : Below wr.heap.size wr wx := hx
              go_simp
              refine (Same.same_any _ _ _ _ _ _ _ _ rd sd wx (HY.out.next hx') (HY2.out.next hx')).mono ?_
              rintro e wy ⟨rfl, rfl⟩
              rw [HEQ.out]
              exact Reg.done (Option.some_ne_none _) rfl (bsame _)
            · intro ax wx hx hs
              obtain ⟨e39, e28, -⟩ := hs
              have g39 := Reg.ev (v := .bool false) e39
              have g28 := Reg.ev (v := .bool false) e28
              exact Reg.obl_want rfl rfl e28 (Reg.wp_eqv (Option.some_ne_none _) (by go_simp) rfl)
            · intro ax wx hx hs
              obtain ⟨e28, e40, -⟩ := hs
              have g28 := Reg.ev (v := .bool false) e28
              have g40 := Reg.ev (v := .bool true) e40
              exact Reg.obl_free rfl (Reg.wp_eqv (Option.some_ne_none _) (by go_simp) rfl)
          · intro W2 hwf
            simp only [Reg.Fin]
            rintro _ rfl _ rfl _ rfl _ rfl _ rfl _ rfl _ rfl _ rfl _ rfl _ rfl _ rfl _ rfl _ rfl _ rfl _ rfl _ rfl _ rfl _ rfl _ rfl _ rfl _ rfl _ rfl _ rfl _ rfl _ rfl
            go_simp
            have hwf' : Below wr.heap.size wr W2 := hwf
            have HB2 := Lib.hid (bstep HB.out hwf')
            clear hwf hwf'
            go_wp2
            go_ret
            exact ⟨by rw [HRR.out]; rfl, HB2.out⟩
      · have hda : (rp != sp) = true := by simpa using ha
        have HRR := Lib.hid (PatchP.sameRuns_at HRQ.out.1 HRQ.out.2 (fun h => ha h.1))
        clear ha
        go_wp2_with fail
        refine Reg.wp_region_vals (R := ext) (W := wr) [Reg.eqv (.slice (some ⟨b, o, none⟩) n c), Reg.eqv (.int .i64 (k : Int)), Reg.eqv (.pointer (some ⟨b, o + k * 2, none⟩)), Reg.eqv (.pointer (some ⟨b, o + k * 2, none⟩)), Reg.eqv (.int .i64 rp), Reg.eqv (.slice (some ⟨b', o', none⟩) n c'), Reg.eqv (.int .i64 (k : Int)), Reg.eqv (.pointer (some ⟨b', o' + k * 2, none⟩)), Reg.eqv (.pointer (some ⟨b', o' + k * 2, none⟩)), Reg.eqv (.int .i64 sp), Reg.eqv (.bool true), Reg.eqv (.bool true), Reg.eqv undef, Reg.eqv undef, Reg.eqv undef, Reg.eqv undef, Reg.eqv undef, Reg.eqv undef, Reg.eqv undef, Reg.eqv undef, Reg.eqv undef, Reg.eqv undef, Reg.eqv undef, Reg.eqv undef, Reg.eqv (.bool true)] 42 [[(0, none)], [(5, none)], [(17, some 0), (18, some 1)], [(19, some 2)], [(20, some 3)], [(1, none)], [(5, none)], [(22, some 5), (23, some 6)], [(24, some 7)], [(25, some 8)], [(21, some 4), (26, some 9)], [(27, some 10)], [(0, none), (28, some 11)], [(5, none), (28, some 11)], [(29, some 12), (30, some 13), (28, some 11)], [(31, some 14), (28, some 11)], [(32, some 15), (28, some 11)], [(1, none), (28, some 11)], [(5, none), (28, some 11)], [(34, some 17), (35, some 18), (28, some 11)], [(36, some 19), (28, some 11)], [(37, some 20), (28, some 11)], [(33, some 16), (38, some 21), (28, some 11)], [(39, some 22), (28, some 11)], [(28, some 11), (40, some 23)]] rfl (by kernel_rfl) (by kernel_rfl) (by kernel_rfl) ?_ [some 17, some 18, some 19, some 20, some 21, some 22, some 23, some 24, some 25, some 26, some 27, some 28, some 29, some 30, some 31, some 32, some 33, some 34, some 35, some 36, some 37, some 38, some 39, some 40, some 41] (by kernel_rfl) ?_
        · refine ⟨?_, ?_, ?_, ?_, ?_, ?_, ?_, ?_, ?_, ?_, ?_, ?_, ?_, ?_, ?_, ?_, ?_, ?_, ?_, ?_, ?_, ?_, ?_, ?_, ?_, trivial⟩
          · intro ax wx hx hs
            obtain ⟨e0, -⟩ := hs
            have g0 := Reg.ev (v := .slice (some ⟨b, o, none⟩) n c) e0
            exact Reg.obl_free rfl (Reg.wp_eqv (Option.some_ne_none _) (by go_simp) rfl)
          · intro ax wx hx hs
            obtain ⟨e5, -⟩ := hs
            have g5 := Reg.ev (v := .int .i64 (k : Int)) e5
            exact Reg.obl_free rfl (Reg.wp_eqv (Option.some_ne_none _) (by go_simp) rfl)
          · intro ax wx hx hs
            obtain ⟨e17, e18, -⟩ := hs
            have g17 := Reg.ev (v := .slice (some ⟨b, o, none⟩) n c) e17
            have g18 := Reg.ev (v := .int .i64 (k : Int)) e18
            refine Reg.obl_free rfl ?_
            exact Reg.wp_eqv (Option.some_ne_none _) (by go_simp; first | done | (intro hq; omega)) rfl
          · intro ax wx hx hs
            obtain ⟨e19, -⟩ := hs
            have g19 := Reg.ev (v := .pointer (some ⟨b, o + k * 2, none⟩)) e19
            exact Reg.obl_free rfl (Reg.wp_eqv (Option.some_ne_none _) (by go_simp) rfl)
          · intro ax wx hx hs
            obtain ⟨e20, -⟩ := hs
            have g20 := Reg.ev (v := .pointer (some ⟨b, o + k * 2, none⟩)) e20
            have hx' : Below wr.heap.size wr wx := hx
            have l1 := (hx'.cell (p := ⟨b, o + k * 2, none⟩) hbw).trans HQ.out.1.1
            have l2 := (hx'.cell (p := ⟨b, o + k * 2 + 1, none⟩) hbw).trans HQ.out.1.2
            have l3 := (hx'.cell (p := ⟨b', o' + k * 2, none⟩) hbw').trans HQ.out.2.1
            have l4 := (hx'.cell (p := ⟨b', o' + k * 2 + 1, none⟩) hbw').trans HQ.out.2.2
            exact Reg.obl_free rfl (Reg.wp_eqv (Option.some_ne_none _) (by go_simp) rfl)
          · intro ax wx hx hs
            obtain ⟨e1, -⟩ := hs
            have g1 := Reg.ev (v := .slice (some ⟨b', o', none⟩) n c') e1
            exact Reg.obl_free rfl (Reg.wp_eqv (Option.some_ne_none _) (by go_simp) rfl)
          · intro ax wx hx hs
            obtain ⟨e5, -⟩ := hs
            have g5 := Reg.ev (v := .int .i64 (k : Int)) e5
            exact Reg.obl_free rfl (Reg.wp_eqv (Option.some_ne_none _) (by go_simp) rfl)
          · intro ax wx hx hs
            obtain ⟨e22, e23, -⟩ := hs
            have g22 := Reg.ev (v := .slice (some ⟨b', o', none⟩) n c') e22
            have g23 := Reg.ev (v := .int .i64 (k : Int)) e23
            refine Reg.obl_free rfl ?_
            exact Reg.wp_eqv (Option.some_ne_none _) (by go_simp; first | done | (intro hq; omega)) rfl
          · intro ax wx hx hs
            obtain ⟨e24, -⟩ := hs
            have g24 := Reg.ev (v := .pointer (some ⟨b', o' + k * 2, none⟩)) e24
            exact Reg.obl_free rfl (Reg.wp_eqv (Option.some_ne_none _) (by go_simp) rfl)
          · intro ax wx hx hs
            obtain ⟨e25, -⟩ := hs
            have g25 := Reg.ev (v := .pointer (some ⟨b', o' + k * 2, none⟩)) e25
            have hx' : Below wr.heap.size wr wx := hx
            have l1 := (hx'.cell (p := ⟨b, o + k * 2, none⟩) hbw).trans HQ.out.1.1
            have l2 := (hx'.cell (p := ⟨b, o + k * 2 + 1, none⟩) hbw).trans HQ.out.1.2
            have l3 := (hx'.cell (p := ⟨b', o' + k * 2, none⟩) hbw').trans HQ.out.2.1
            have l4 := (hx'.cell (p := ⟨b', o' + k * 2 + 1, none⟩) hbw').trans HQ.out.2.2
            exact Reg.obl_free rfl (Reg.wp_eqv (Option.some_ne_none _) (by go_simp) rfl)
          · intro ax wx hx hs
            obtain ⟨e21, e26, -⟩ := hs
            have g21 := Reg.ev (v := .int .i64 rp) e21
            have g26 := Reg.ev (v := .int .i64 sp) e26
            exact Reg.obl_free rfl (Reg.wp_eqv (Option.some_ne_none _) (by go_simp) rfl)
          · intro ax wx hx hs
            obtain ⟨e27, -⟩ := hs
            have g27 := Reg.ev (v := .bool true) e27
            exact Reg.obl_free rfl (Reg.wp_eqv (Option.some_ne_none _) (by go_simp) rfl)
          · intro ax wx hx hs
            obtain ⟨e0, e28, -⟩ := hs
            have g0 := Reg.ev (v := .slice (some ⟨b, o, none⟩) n c) e0
            have g28 := Reg.ev (v := .bool true) e28
            exact Reg.obl_skip rfl rfl e28 rfl rfl
          · intro ax wx hx hs
            obtain ⟨e5, e28, -⟩ := hs
            have g5 := Reg.ev (v := .int .i64 (k : Int)) e5
            have g28 := Reg.ev (v := .bool true) e28
            exact Reg.obl_skip rfl rfl e28 rfl rfl
          · intro ax wx hx hs
            obtain ⟨e29, e30, e28, -⟩ := hs
            have g29 := Reg.ev (v := undef) e29
            have g30 := Reg.ev (v := undef) e30
            have g28 := Reg.ev (v := .bool true) e28
            exact Reg.obl_skip rfl rfl e28 rfl rfl
          · intro ax wx hx hs
            obtain ⟨e31, e28, -⟩ := hs
            have g31 := Reg.ev (v := undef) e31
            have g28 := Reg.ev (v := .bool true) e28
            exact Reg.obl_skip rfl rfl e28 rfl rfl
          · intro ax wx hx hs
            obtain ⟨e32, e28, -⟩ := hs
            have g32 := Reg.ev (v := undef) e32
            have g28 := Reg.ev (v := .bool true) e28
            exact Reg.obl_skip rfl rfl e28 rfl rfl
          · intro ax wx hx hs
            obtain ⟨e1, e28, -⟩ := hs
            have g1 := Reg.ev (v := .slice (some ⟨b', o', none⟩) n c') e1
            have g28 := Reg.ev (v := .bool true) e28
            exact Reg.obl_skip rfl rfl e28 rfl rfl
          · intro ax wx hx hs
            obtain ⟨e5, e28, -⟩ := hs
            have g5 := Reg.ev (v := .int .i64 (k : Int)) e5
            have g28 := Reg.ev (v := .bool true) e28
            exact Reg.obl_skip rfl rfl e28 rfl rfl
          · intro ax wx hx hs
            obtain ⟨e34, e35, e28, -⟩ := hs
            have g34 := Reg.ev (v := undef) e34
            have g35 := Reg.ev (v := undef) e35
            have g28 := Reg.ev (v := .bool true) e28
            exact Reg.obl_skip rfl rfl e28 rfl rfl
          · intro ax wx hx hs
            obtain ⟨e36, e28, -⟩ := hs
            have g36 := Reg.ev (v := undef) e36
            have g28 := Reg.ev (v := .bool true) e28
            exact Reg.obl_skip rfl rfl e28 rfl rfl
          · intro ax wx hx hs
            obtain ⟨e37, e28, -⟩ := hs
            have g37 := Reg.ev (v := undef) e37
            have g28 := Reg.ev (v := .bool true) e28
            exact Reg.obl_skip rfl rfl e28 rfl rfl
          · intro ax wx hx hs
            obtain ⟨e33, e38, e28, -⟩ := hs
            have g33 := Reg.ev (v := undef) e33
            have g38 := Reg.ev (v := undef) e38
            have g28 := Reg.ev (v := .bool true) e28
            exact Reg.obl_skip rfl rfl e28 rfl rfl
          · intro ax wx hx hs
            obtain ⟨e39, e28, -⟩ := hs
            have g39 := Reg.ev (v := undef) e39
            have g28 := Reg.ev (v := .bool true) e28
            exact Reg.obl_skip rfl rfl e28 rfl rfl
          · intro ax wx hx hs
            obtain ⟨e28, e40, -⟩ := hs
            have g28 := Reg.ev (v := .bool true) e28
            have g40 := Reg.ev (v := undef) e40
            exact Reg.obl_free rfl (Reg.wp_eqv (Option.some_ne_none _) (by go_simp) rfl)
        · intro W2 hwf
          simp only [Reg.Fin]
          rintro _ rfl _ rfl _ rfl _ rfl _ rfl _ rfl _ rfl _ rfl _ rfl _ rfl _ rfl _ rfl _ rfl _ rfl _ rfl _ rfl _ rfl _ rfl _ rfl _ rfl _ rfl _ rfl _ rfl _ rfl _ rfl
          go_simp
          have hwf' : Below wr.heap.size wr W2 := hwf
          have HB2 := Lib.hid (bstep HB.out hwf')
          clear hwf hwf'
          go_wp2
          go_ret
          exact ⟨by rw [HRR.out]; rfl, HB2.out⟩
    · have hd : decide ((k : Int) < (n : Int)) = false := by simp; omega
      have hkn : k = n := by omega
      subst hkn
      have HRR := Lib.hid (PatchP.sameRuns_all HK.out hlen hlen2)
      go_wp2
      go_ret
      exact ⟨by rw [HRR.out]; rfl, HB.out⟩
set_option maxRecDepth 100000 in
set_option maxHeartbeats 1000000 in
theorem same_any (x y : PatchX) (A A' : Option Addr) (n c n' c' B B' : Nat) (w : World) (hE : Elems RunE w B A n c x.runs) (hB : B ≤ w.heap.size) (hE2 : Elems RunE w B' A' n' c' y.runs) (hB2 : B' ≤ w.heap.size) :
    Calls Tryz.prog 9 #[.agg #[.int .i64 x.page, .bool x.fresh, .slice A n c], .agg #[.int .i64 y.page, .bool y.fresh, .slice A' n' c']] w fun e w' => e = .returned (.bool (PatchP.same x y)) ∧ Below w.heap.size w w' := by
  have HS : Hid (PatchP.same x y = _) := Lib.hid (PatchP.same_eq x y)
  have HE := Lib.hid hE
  have HE2 := Lib.hid hE2
  have hlen := hE.len
  have hlen2 := hE2.len
  have hcap := hE.cap
  have hcm := hcap.2
  have hcap2 := hE2.cap
  have hcm2 := hcap2.2
  unfold maxLen at hcm hcm2
  clear hE hE2
  obtain ⟨p, fr, l⟩ := x
  obtain ⟨p2, fr2, m⟩ := y
  dsimp only at *
  obtain ⟨W0, hW0⟩ : ∃ W, (w.alloc (.cells #[.int .i64 p, .bool fr, .slice A n c] 33)).alloc (.cells #[.int .i64 p2, .bool fr2, .slice A' n' c'] 33) = W := ⟨_, rfl⟩
  obtain ⟨HS0, HS1, HB0, hw0, hz0⟩ := new2 hW0
  have g0 := str3 HS0.out
  have hl0 := HS0.out.lt
  have g1 := str3 HS1.out
  have hl1 := HS1.out.lt
  clear hz0
  by_cases ha : p = p2
  rotate_left
  · have HF : Hid ((p == p2) = false) := Lib.hid (by simpa using ha)
    have d0 : (p == p2) = false := HF.out
    have d1 : (p != p2) = true := by simpa using ha
    clear ha
    go_enter Tryz.func9, Tryz.ntmps9
    go_wp2
    go_ret
    exact ⟨by rw [HS.out, HF.out]; rfl, HB0.out⟩
  subst ha
  have d0 : (p == p) = true := by simp
  have d1 : (p != p) = false := by simp
  by_cases hf : fr = fr2
  rotate_left
  · have HF : Hid ((fr == fr2) = false) := Lib.hid (by simpa using hf)
    have d2 : (fr == fr2) = false := HF.out
    have d3 : (fr != fr2) = true := by simpa using hf
    clear hf
    go_enter Tryz.func9, Tryz.ntmps9
    go_wp2
    go_ret
    exact ⟨by rw [HS.out, beq_self_eq_true, HF.out]; rfl, HB0.out⟩
  subst hf
  have d2 : (fr == fr) = true := by simp
  have d3 : (fr != fr) = false := by simp
  have HSE : Hid (PatchP.same ⟨p, fr, l⟩ ⟨p, fr, m⟩ = PatchP.sameRuns l m) := Lib.hid (by rw [HS.out, beq_self_eq_true, beq_self_eq_true]; rfl)
  clear HS
  go_enter Tryz.func9, Tryz.ntmps9
  go_wp2_with fail
  refine (sameRuns_any A A' n c n' c' B B' l m W0 (HE.out.below (HB0.out.mono hB)) (by omega) (HE2.out.below (HB0.out.mono hB2)) (by omega)).mono ?_
  rintro e W1 ⟨rfl, hb1⟩
  go_wp2
  go_ret
  exact ⟨by rw [HSE.out]; rfl, bstep HB0.out hb1⟩
set_option maxRecDepth 100000 in
set_option maxHeartbeats 1000000 in
theorem much_any (A : Option Addr) (n c B : Nat) (l : List RunX) (w : World) (hE : Elems RunE w B A n c l) :
    Calls Tryz.prog 15 #[.slice A n c] w fun e w' => ∃ r, e = .returned (.bool r) ∧ (r = false → PatchP.Asked l) ∧ w = w' := by
  have HE := Lib.hid hE
  have hlen := hE.len
  have hcap := hE.cap
  have hcm := hcap.2
  unfold maxLen at hcm
  clear hE
  go_enter Tryz.func15, Tryz.ntmps15
  go_wp2
  go_loopw [3] (fun iv wr => ∃ k : Nat, k ≤ n ∧ k ≤ 100 ∧ iv = .int .i64 (k : Int) ∧ wr = w ∧ Hid (∀ j x, j < k → l[j]? = some x → x.data.length ≤ 600)) (fun iv _ => n - (intOf iv).toNat)
  case atStart => exact ⟨0, Nat.zero_le _, by omega, rfl, rfl, Lib.hid (fun j x h => absurd h (by omega))⟩
  case round =>
    obtain ⟨k, hk, hk1, rfl, hwr, HK⟩ := hrel
    subst hwr
    by_cases hlt : k < n
    · have hd : decide ((k : Int) < (n : Int)) = true := by simpa using hlt
      by_cases h100 : k < 100
      · have hd2 : decide ((k : Int) < 100) = true := by simp; omega
        obtain ⟨b, o, x, A2, n2, c2, rfl, hb, hx, hy, hi, q0, q1⟩ := run_at HE.out hlt
        have hyl := hy.len
        have hki : (0 : Int) ≤ (k : Int) := by omega
        by_cases hB : 600 < n2
        · have hd3 : decide ((600 : Int) < (n2 : Int)) = true := by simp; omega
          clear hy hi hx hyl
          go_wp2
          go_ret
          exact ⟨true, rfl, (fun h => by cases h), rfl⟩
        · have hd3 : decide ((600 : Int) < (n2 : Int)) = false := by simp; omega
          have HN : Hid (∀ j y, j < k + 1 → l[j]? = some y → y.data.length ≤ 600) := Lib.hid (fun j y hj hy => by
            by_cases e : j = k
            · subst e; rw [hx] at hy; cases hy; omega
            · exact HK.out j y (by omega) hy)
          clear hy hi hx hyl
          go_wp2
          go_roundw
          case rel => exact ⟨k + 1, by omega, by omega, by go_num, (by first | rfl | trivial), HN⟩
          case measure => simp [intOf]; omega
      · have hd2 : decide ((k : Int) < 100) = false := by simp; omega
        have hd5 : decide ((60 : Int) < (n : Int)) = true := by simp; omega
        go_wp2
        go_ret
        exact ⟨true, rfl, (fun h => by cases h), rfl⟩
    · have hd : decide ((k : Int) < (n : Int)) = false := by simp; omega
      have HF : Hid (∀ x ∈ l, x.data.length ≤ 600) := Lib.hid (fun x hx => by
        obtain ⟨j, hj, rfl⟩ := List.getElem_of_mem hx
        exact HK.out j _ (by omega) (List.getElem?_eq_getElem hj))
      by_cases h60 : 60 < n
      · have hd5 : decide ((60 : Int) < (n : Int)) = true := by simp; omega
        go_wp2
        go_ret
        exact ⟨true, rfl, (fun h => by cases h), rfl⟩
      · have hd5 : decide ((60 : Int) < (n : Int)) = false := by simp; omega
        have HL := Lib.hid hlen
        go_wp2
        go_ret
        exact ⟨false, rfl, fun _ => ⟨by rw [HL.out]; omega, HF.out⟩, rfl⟩
end Go.Proofs.YtpklclnehlgcpaaGreat.RefPatch
namespace Go.Proofs.YtpklclnehlgcpaaGreat.PatchW
open Go.RowKit
set_option linter.unusedVariables false
set_option linter.unusedSimpArgs false
end Go.Proofs.YtpklclnehlgcpaaGreat.PatchW
end
section
namespace Go.Proofs.YtpklclnehlgcpaaGreat
open Go.ChangeShapes Go.WideShapes Go.ChangeAt Go.RowKit
set_option linter.unusedVariables false
set_option maxRecDepth 100000

section
variable {H : Type} {enc : TypeId × Value → H} {W : World} {base : Nat} {v : Value} {d : DataW H} {p : List MemPlace}
end
end Go.Proofs.YtpklclnehlgcpaaGreat
end
section
namespace Go.Proofs.YtpklclnehlgcpaaGreat
open Go.ChangeShapes Go.WideShapes Go.ChangeAt Go.RowKit
set_option linter.unusedVariables false
set_option maxRecDepth 100000

/-- an item as a value -/
def RItem (w : World) (B : Nat) (v : Value) (x : Item) : Prop :=
  ∃ A n cap, v = .agg #[.int .i64 x.state, .string x.key, .int .i64 x.cell.kind, .slice A n cap, .int .i64 x.cell.lo, .int .i64 x.cell.hi, .int .i64 x.cell.val] ∧ Bytes w B A n cap x.cell.data ∧ x.key.size ≤ maxLen ∧ SlotP.In x
def RArr (n : Nat) (v : Value) (l : List UInt8) : Prop := v = .agg (rowV l) ∧ l.length = n
section
variable {H : Type} {enc : TypeId × Value → H} {P : Program} {w : World}
def byteOfV (v : Value) : UInt8 := match v with | .int _ z => UInt8.ofNat z.toNat | _ => 0
theorem arr_of {fuel n : Nat} {t e : TypeId} {cs : List Value} {x : DataW H × List MemPlace} (ht : P.underlying t = some (.array n e)) (he : P.underlying e = some (.int .u8)) (hce : P.cellsOf e = 1) (hct : P.cellsOf t = n)
    (h : DataW.trod enc P w 0 (fun _ => true) true fuel t cs = some x) : ∃ l, RArr n (.agg ⟨cs⟩) l := by
  obtain ⟨xs, m, _, _, hl, hx, hf⟩ := DataW.trod_array ht h
  rw [hct] at hl
  refine ⟨cs.map byteOfV, ?_, by simpa using hl⟩
  have : cs = (cs.map byteOfV).map byteV := by
    refine List.ext_getElem? fun i => ?_
    by_cases hi : i < cs.length
    · have h1 := hf i (by omega)
      rw [hce, Nat.mul_one, List.getElem?_eq_getElem (by omega)] at h1
      have h2 : (cs.drop i).take 1 = [cs[i]] := by rw [List.drop_eq_getElem_cons hi]; rfl
      rw [h2] at h1
      obtain ⟨z, e1, _, q⟩ := DataW.trod_int he h1
      have e2 : cs[i] = .int .u8 z := by simpa using e1
      rw [List.getElem?_map, List.getElem?_map, List.getElem?_eq_getElem hi, e2]
      simp only [Option.map_some, byteOfV, byteV, u8_of q]
    · rw [List.getElem?_eq_none (by omega), List.getElem?_eq_none (by simp; omega)]
  show Value.agg ⟨cs⟩ = .agg (rowV _)
  unfold rowV
  rw [← this]
end
section
variable {H : Type} {enc : TypeId × Value → H} {W : World} {base : Nat} {v : Value} {d : DataW H} {p : List MemPlace}
theorem open_item (hv : Value.okWide Tryz.prog W .any base 27 v) (h : DataW.Trod enc Tryz.prog W 0 (fun _ => true) true 27 v d p) : ∃ x, RItem W W.heap.size v x := by
  obtain ⟨cs, rfl, hsz⟩ := okWide_struct Tryz.underlying27 hv
  obtain ⟨l⟩ := cs
  obtain ⟨fuel, hf⟩ := h
  obtain ⟨hl, n, hg⟩ := field_of Tryz.underlying27 hf
  have hl' : l.length = 7 := hl.trans (by kernel_rfl)
  match l, hl' with
  | [c0, c1, c2, c3, c4, c5, c6], _ =>
    obtain ⟨y0, h0⟩ := hg 0 3 0 1 rfl (by kernel_rfl)
    have h0' : DataW.trod enc Tryz.prog W 0 (fun _ => true) true n 3 [c0] = some y0 := h0
    obtain ⟨z0, e0, _, q0⟩ := DataW.trod_int Tryz.underlying3 h0'
    obtain ⟨y1, h1⟩ := hg 1 9 1 1 rfl (by kernel_rfl)
    have h1' : DataW.trod enc Tryz.prog W 0 (fun _ => true) true n 9 [c1] = some y1 := h1
    obtain ⟨z1, e1, _, q1⟩ := DataW.trod_string Tryz.underlying9 h1'
    obtain ⟨w2, g2⟩ := hg 2 25 2 5 rfl (by kernel_rfl)
    have g2' : DataW.trod enc Tryz.prog W 0 (fun _ => true) true n 25 [c2, c3, c4, c5, c6] = some w2 := g2
    obtain ⟨_, m2, hg2⟩ := field_of Tryz.underlying25 g2'
    obtain ⟨y2, h2⟩ := hg2 0 3 0 1 rfl (by kernel_rfl)
    have h2' : DataW.trod enc Tryz.prog W 0 (fun _ => true) true m2 3 [c2] = some y2 := h2
    obtain ⟨z2, e2, _, q2⟩ := DataW.trod_int Tryz.underlying3 h2'
    obtain ⟨y3, h3⟩ := hg2 1 23 1 1 rfl (by kernel_rfl)
    have h3' : DataW.trod enc Tryz.prog W 0 (fun _ => true) true m2 23 [c3] = some y3 := h3
    obtain ⟨A3, n3, k3, z3, e3, q3⟩ := bytes_of Tryz.underlying23 Tryz.underlying5 (by kernel_rfl) h3'
    obtain ⟨y4, h4⟩ := hg2 2 3 2 1 rfl (by kernel_rfl)
    have h4' : DataW.trod enc Tryz.prog W 0 (fun _ => true) true m2 3 [c4] = some y4 := h4
    obtain ⟨z4, e4, _, q4⟩ := DataW.trod_int Tryz.underlying3 h4'
    obtain ⟨y5, h5⟩ := hg2 3 3 3 1 rfl (by kernel_rfl)
    have h5' : DataW.trod enc Tryz.prog W 0 (fun _ => true) true m2 3 [c5] = some y5 := h5
    obtain ⟨z5, e5, _, q5⟩ := DataW.trod_int Tryz.underlying3 h5'
    obtain ⟨y6, h6⟩ := hg2 4 3 4 1 rfl (by kernel_rfl)
    have h6' : DataW.trod enc Tryz.prog W 0 (fun _ => true) true m2 3 [c6] = some y6 := h6
    obtain ⟨z6, e6, _, q6⟩ := DataW.trod_int Tryz.underlying3 h6'
    simp only [List.cons.injEq, and_true] at e0 e1 e2 e3 e4 e5 e6
    subst e0 e1 e2 e3 e4 e5 e6
    exact ⟨⟨z0, z1, ⟨z2, z3, z4, z5, z6⟩⟩, A3, n3, k3, rfl, q3, q1, in64 q0, in64 q2, in64 q4, in64 q5, in64 q6⟩
theorem open_a512 (hv : Value.okWide Tryz.prog W .any base 22 v) (h : DataW.Trod enc Tryz.prog W 0 (fun _ => true) true 22 v d p) : ∃ l, RArr 512 v l := by
  have hv' := hv
  simp only [Value.okWide, Tryz.underlying22] at hv'
  obtain ⟨cs, rfl, hsz, _⟩ := hv'
  obtain ⟨l⟩ := cs
  obtain ⟨fuel, hf⟩ := h
  exact arr_of Tryz.underlying22 Tryz.underlying5 (by kernel_rfl) (by kernel_rfl) hf
end
end Go.Proofs.YtpklclnehlgcpaaGreat
end
