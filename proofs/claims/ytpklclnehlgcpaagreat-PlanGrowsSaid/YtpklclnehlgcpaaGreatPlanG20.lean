/-
  Parts of the proof of PlanGrows.
-/
import Derived.Test.YtpklclnehlgcpaaGreatPlanG19
section
namespace Go.Proofs.YtpklclnehlgcpaaGreat.PlanW
open Go.RowKit ModelW
set_option linter.unusedVariables false
set_option linter.unusedSimpArgs false
/-- an item's cells -/
def itV (A : Option Addr) (n c : Nat) (x : Item) : Array Value := #[.int .i64 x.state, .string x.key, .int .i64 x.cell.kind, .slice A n c, .int .i64 x.cell.lo, .int .i64 x.cell.hi, .int .i64 x.cell.val]
/-- the call hands back an item and an answer -/
def GivesPlan (w : World) (r : Item × Answer) (e : Ending) (w' : World) : Prop :=
  ∃ A n c A2 n2 c2, e = .returned (.tuple #[.agg (itV A n c r.1), .agg (ansV A2 n2 c2 r.2)]) ∧ Bytes w' w'.heap.size A n c r.1.cell.data ∧ Bytes w' w'.heap.size A2 n2 c2 r.2.cell.data ∧ Below w.heap.size w w'
theorem str7 {w : World} {b : Nat} {c0 c1 c2 c3 c4 c5 c6 : Value} (h : Str w b #[c0, c1, c2, c3, c4, c5, c6]) :
    w.cell? ⟨b, 0, none⟩ = some c0 ∧ w.cell? ⟨b, 1, none⟩ = some c1 ∧ w.cell? ⟨b, 2, none⟩ = some c2 ∧ w.cell? ⟨b, 3, none⟩ = some c3 ∧ w.cell? ⟨b, 4, none⟩ = some c4 ∧ w.cell? ⟨b, 5, none⟩ = some c5 ∧ w.cell? ⟨b, 6, none⟩ = some c6 :=
  ⟨h.cell 0, h.cell 1, h.cell 2, h.cell 3, h.cell 4, h.cell 5, h.cell 6⟩
theorem state_pairs {w : World} {b B n c : Nat} {A : Option Addr} {x : Item} (h1 : x.state = 1) (hs : Str w b (pairV ⟨x.key, x.cell⟩ A n c).toArray) (hy : Bytes w B A n c x.cell.data) (hB : B ≤ w.heap.size) (hk : x.key.size ≤ maxLen) (hin : In64 x.cell.kind ∧ In64 x.cell.lo ∧ In64 x.cell.hi ∧ In64 x.cell.val) :
    Pairs w w.heap.size (some ⟨b, 0, none⟩) 1 1 (PlanP.state x) := by
  unfold PlanP.state
  rw [if_pos h1]
  exact pairOne (p := ⟨x.key, x.cell⟩) hs ⟨A, n, c, rfl, hy.more hB, hk, hin.1, hin.2.1, hin.2.2.1, hin.2.2.2⟩
theorem state_small {x : Item} (h : x.cell.data.length ≤ 100000) : Small (PlanP.state x) := by
  unfold PlanP.state
  split
  · exact ⟨by simp, fun p hp => by simp only [List.mem_singleton] at hp; subst hp; exact h⟩
  · exact ⟨by simp, fun p hp => by cases hp⟩
theorem slot_err {x : OpX} {now : Item} {r : List Pair × Answer} (hr : ModelP.step (PlanP.state now) x = r) (h : r.2.err ≠ 0) : PlanP.slot x now = (now, r.2) := by
  unfold PlanP.slot; rw [hr, if_pos (.inl h)]
theorem slot_read {x : OpX} {now : Item} {r : List Pair × Answer} (hr : ModelP.step (PlanP.state now) x = r) (h : x.act = 0) : PlanP.slot x now = (now, r.2) := by
  unfold PlanP.slot; rw [hr, if_pos (.inr h)]
theorem slot_drop {x : OpX} {now : Item} {r : List Pair × Answer} (hr : ModelP.step (PlanP.state now) x = r) (h0 : r.2.err = 0) (h : x.act = 3) : PlanP.slot x now = (⟨2, now.key, now.cell⟩, r.2) := by
  unfold PlanP.slot; rw [hr, if_neg (by omega), if_pos h]
theorem slot_set {x : OpX} {now : Item} {r : List Pair × Answer} (hr : ModelP.step (PlanP.state now) x = r) (h0 : r.2.err = 0) (h : x.act = 1 ∨ x.act = 2 ∨ x.act = 4 ∨ x.act = 5) : PlanP.slot x now = (⟨1, x.key, (ModelP.find r.1 x.key).getD CellP.none⟩, r.2) := by
  unfold PlanP.slot; rw [hr, if_neg (by omega), if_neg (by omega)]
theorem act_in {x : OpX} {s : List Pair} {r : List Pair × Answer} (hr : ModelP.step s x = r) (h0 : r.2.err = 0) : x.act = 0 ∨ x.act = 3 ∨ x.act = 1 ∨ x.act = 2 ∨ x.act = 4 ∨ x.act = 5 := by
  have hg : ModelP.good x = true := by
    cases hg : ModelP.good x with
    | true => rfl
    | false => subst hr; unfold ModelP.step at h0; rw [if_pos hg] at h0; cases h0
  unfold ModelP.good at hg
  simp only [Bool.and_eq_true, decide_eq_true_eq] at hg
  omega
theorem find_len {l : List Pair} {k : ByteArray} {c : Cell} (h : ∀ p ∈ l, p.cell.data.length ≤ 100000) (hc : (ModelP.find l k).getD CellP.none = c) : c.data.length ≤ 100000 := by
  subst hc
  induction l with
  | nil => simp [ModelP.find, CellP.none]
  | cons p l ih =>
    unfold ModelP.find
    split
    · exact h p (by simp)
    · exact ih (fun q hq => h q (by simp [hq]))
theorem right_data {c : Cell} (h : CellP.right c = true) : c.data.length ≤ 32 := by
  unfold CellP.right at h
  split at h <;> simp only [Bool.and_eq_true, decide_eq_true_eq, beq_iff_eq] at h <;> omega
theorem find_data {x : OpX} {s : List Pair} {r : List Pair × Answer} (hr : ModelP.step s x = r) (hri : ModelP.Right s) : (∀ p ∈ r.1, p.cell.data.length ≤ 100000) := by
  subst hr
  intro p hp
  have := right_data ((ModelP.step_right hri x).1 p hp).2
  omega
set_option maxRecDepth 100000 in
set_option maxHeartbeats 2000000 in
theorem slot_any (act : Int) (xk : ByteArray) (xdata : List UInt8) (xlo xhi xn : Int) (Ax : Option Addr) (nx cx Bx : Nat) (pst : Int) (pk : ByteArray) (pkd : Int) (pda : List UInt8) (plo phi pva : Int) (Ap : Option Addr) (np cp Bp : Nat) (w : World) (hx : Bytes w Bx Ax nx cx xdata) (hBx : Bx ≤ w.heap.size) (hxk : xk.size ≤ maxLen) (hi : In64 xlo ∧ In64 xhi ∧ In64 xn) (hnx : nx ≤ 100000) (hp : Bytes w Bp Ap np cp pda) (hBp : Bp ≤ w.heap.size) (hpk : pk.size ≤ maxLen) (hj : In64 pkd ∧ In64 plo ∧ In64 phi ∧ In64 pva) (hnp : np ≤ 100000) (hR : SlotP.right ⟨pst, pk, ⟨pkd, pda, plo, phi, pva⟩⟩ = true) :
    Calls Tryz.prog 19 #[.agg #[.int .i64 act, .string xk, .slice Ax nx cx, .int .i64 xlo, .int .i64 xhi, .int .i64 xn], .agg #[.int .i64 pst, .string pk, .int .i64 pkd, .slice Ap np cp, .int .i64 plo, .int .i64 phi, .int .i64 pva]] w (GivesPlan w (PlanP.slot ⟨act, xk, xdata, xlo, xhi, xn⟩ ⟨pst, pk, ⟨pkd, pda, plo, phi, pva⟩⟩)) := by
  have hlx := hx.len
  have hlp := hp.len
  have HX := Lib.hid hx
  have HP := Lib.hid hp
  have HI := Lib.hid hi
  have HJ := Lib.hid hj
  have HRI := Lib.hid (PlanP.state_right hR)
  have HSM := Lib.hid (state_small (x := ⟨pst, pk, ⟨pkd, pda, plo, phi, pva⟩⟩) (by show pda.length ≤ 100000; omega))
  obtain ⟨r, hr⟩ : ∃ r, ModelP.step (PlanP.state ⟨pst, pk, ⟨pkd, pda, plo, phi, pva⟩⟩) ⟨act, xk, xdata, xlo, xhi, xn⟩ = r := ⟨_, rfl⟩
  have HRR := Lib.hid hr
  have HFD := Lib.hid (find_data hr HRI.out)
  have HRL : Hid (r.1.length ≤ 2) := Lib.hid (by have h1 := ModelP.step_length (PlanP.state ⟨pst, pk, ⟨pkd, pda, plo, phi, pva⟩⟩) ⟨act, xk, xdata, xlo, xhi, xn⟩; have h2 := PlanP.state_len ⟨pst, pk, ⟨pkd, pda, plo, phi, pva⟩⟩; rw [hr] at h1; omega)
  clear hx hp hi hj hlx hlp hR
  by_cases hst : pst = 1
  case' pos =>
    have HST := Lib.hid hst
    have hd : (pst == 1) = true := by simpa using hst
    clear hst hr
    go_enter Tryz.func19, Tryz.ntmps19
    go_wp2_with fail
    generalize hW0 : (((((w).alloc (.cells #[.int .i64 act, .string xk, .slice Ax nx cx, .int .i64 xlo, .int .i64 xhi, .int .i64 xn] 62)).alloc (.cells #[.int .i64 pst, .string pk, .int .i64 pkd, .slice Ap np cp, .int .i64 plo, .int .i64 phi, .int .i64 pva] 27)).alloc (.cells #[.int .i64 0, .string ⟨#[]⟩, .int .i64 0, .slice none 0 0, .int .i64 0, .int .i64 0, .int .i64 0] 27)).alloc (.cells #[.int .i64 0, .int .i64 0, .slice none 0 0, .int .i64 0, .int .i64 0, .int .i64 0] 58)).alloc (.cells #[.string pk, .int .i64 pkd, .slice Ap np cp, .int .i64 plo, .int .i64 phi, .int .i64 pva] 85) = W0
    obtain ⟨HS0_0, HS1_0, HS2_0, HS3_0, HS4_0, HB_0, hw_0, hz0⟩ := new5 hW0
    clear hW0 hz0
    have f0_0 := str6 HS0_0.out
    have hl0_0 := HS0_0.out.lt
    have hf0_0 := fun j => HS0_0.out.frozen j
    have f1_0 := str7 HS1_0.out
    have hl1_0 := HS1_0.out.lt
    have hf1_0 := fun j => HS1_0.out.frozen j
    have f2_0 := str7 HS2_0.out
    have hl2_0 := HS2_0.out.lt
    have hf2_0 := fun j => HS2_0.out.frozen j
    have f3_0 := str6 HS3_0.out
    have hl3_0 := HS3_0.out.lt
    have hf3_0 := fun j => HS3_0.out.frozen j
    have f4_0 := str6 HS4_0.out
    have hl4_0 := HS4_0.out.lt
    have HQ := Lib.hid (state_pairs (x := ⟨pst, pk, ⟨pkd, pda, plo, phi, pva⟩⟩) HST.out HS4_0.out (HP.out.below (HB_0.out.mono hBp)) (Nat.le_trans hBp HB_0.out.size) hpk HJ.out)
    clear HS4_0 f4_0 hl4_0 HST hd
  case' neg =>
    have hd : (pst == 1) = false := by simpa using hst
    have HST := Lib.hid hst
    clear hst hr
    go_enter Tryz.func19, Tryz.ntmps19
    go_wp2_with fail
    generalize hW0 : ((((w).alloc (.cells #[.int .i64 act, .string xk, .slice Ax nx cx, .int .i64 xlo, .int .i64 xhi, .int .i64 xn] 62)).alloc (.cells #[.int .i64 pst, .string pk, .int .i64 pkd, .slice Ap np cp, .int .i64 plo, .int .i64 phi, .int .i64 pva] 27)).alloc (.cells #[.int .i64 0, .string ⟨#[]⟩, .int .i64 0, .slice none 0 0, .int .i64 0, .int .i64 0, .int .i64 0] 27)).alloc (.cells #[.int .i64 0, .int .i64 0, .slice none 0 0, .int .i64 0, .int .i64 0, .int .i64 0] 58) = W0
    obtain ⟨HS0_0, HS1_0, HS2_0, HS3_0, HB_0, hw_0, hz0⟩ := new4 hW0
    clear hW0 hz0
    have f0_0 := str6 HS0_0.out
    have hl0_0 := HS0_0.out.lt
    have hf0_0 := fun j => HS0_0.out.frozen j
    have f1_0 := str7 HS1_0.out
    have hl1_0 := HS1_0.out.lt
    have hf1_0 := fun j => HS1_0.out.frozen j
    have f2_0 := str7 HS2_0.out
    have hl2_0 := HS2_0.out.lt
    have hf2_0 := fun j => HS2_0.out.frozen j
    have f3_0 := str6 HS3_0.out
    have hl3_0 := HS3_0.out.lt
    have hf3_0 := fun j => HS3_0.out.frozen j
    have HQ : Hid (Pairs W0 W0.heap.size none 0 0 (PlanP.state ⟨pst, pk, ⟨pkd, pda, plo, phi, pva⟩⟩)) := Lib.hid (by unfold PlanP.state; rw [if_neg HST.out]; exact Elems.none_ _ _ _)
    clear HST hd
  all_goals
    refine (Step_any _ _ _ W0.heap.size (PlanP.state ⟨pst, pk, ⟨pkd, pda, plo, phi, pva⟩⟩) act xk xdata Ax nx cx W0.heap.size xlo xhi xn _ HQ.out (Nat.le_refl _) HRI.out.2 HSM.out ((HX.out.below (HB_0.out.mono hBx)).more (Nat.le_trans hBx HB_0.out.size)) (Nat.le_refl _) hxk HI.out.1 HI.out.2.1 HI.out.2.2 hnx).mono ?_
    rintro e W1 ⟨A1, n1, c1, A2, n2, c2, rfl, hP, hy, hb1⟩
    have HS0_1 := Lib.hid (HS0_0.out.next hb1)
    have HS1_1 := Lib.hid (HS1_0.out.next hb1)
    have HS2_1 := Lib.hid (HS2_0.out.next hb1)
    have HS3_1 := Lib.hid (HS3_0.out.next hb1)
    have HB_1 := Lib.hid (bstep HB_0.out hb1)
    have hw_1 := HB_1.out.size
    have hws_1 := (hb1).size
    clear f0_0 HS0_0 hf0_0 f1_0 HS1_0 hf1_0 f2_0 HS2_0 hf2_0 f3_0 HS3_0 hf3_0
    have f0_1 := str6 HS0_1.out
    have hl0_1 := HS0_1.out.lt
    have hf0_1 := fun j => HS0_1.out.frozen j
    have f1_1 := str7 HS1_1.out
    have hl1_1 := HS1_1.out.lt
    have hf1_1 := fun j => HS1_1.out.frozen j
    have f2_1 := str7 HS2_1.out
    have hl2_1 := HS2_1.out.lt
    have hf2_1 := fun j => HS2_1.out.frozen j
    have f3_1 := str6 HS3_1.out
    have hl3_1 := HS3_1.out.lt
    have hf3_1 := fun j => HS3_1.out.frozen j
    rw [HRR.out] at hP hy
    rw [HRR.out]
    simp only [ansV]
    have HPA := Lib.hid hP
    have hn1 : n1 ≤ 2 := by have h1 := hP.len; have h2 := HRL.out; omega
    have HYa_1 := Lib.hid (hy)
    have HM_1 := Lib.hid (bsame W1)
    clear hP hy hb1 HQ
    go_wp2_with fail
    generalize hW2 : W1.alloc (.cells #[.int .i64 r.2.err, .int .i64 r.2.cell.kind, .slice A2 n2 c2, .int .i64 r.2.cell.lo, .int .i64 r.2.cell.hi, .int .i64 r.2.cell.val] 58) = W2
    have HS0_2 := sEq hW2 (HS0_1.out.alloc _)
    have HS1_2 := sEq hW2 (HS1_1.out.alloc _)
    have HS2_2 := sEq hW2 (HS2_1.out.alloc _)
    have HS3_2 := sEq hW2 (HS3_1.out.alloc _)
    have HS4_2 := sEq hW2 (Str.new _ _ _)
    have hba2 : Below W1.heap.size W1 W2 := by rw [← hW2]; exact balloc (bsame _) _
    have HB_2 := Lib.hid (bstep HB_1.out hba2)
    have hw_2 := HB_2.out.size
    have hws_2 := hba2.size
    have HYa_2 := Lib.hid (HYa_1.out.next hba2)
    clear HYa_1
    have hz2 : W2.heap.size = W1.heap.size + 1 := by rw [← hW2]; simp
    clear hW2
    clear f0_1 HS0_1 hf0_1 f1_1 HS1_1 hf1_1 f2_1 HS2_1 hf2_1 f3_1 HS3_1 hf3_1
    have f0_2 := str6 HS0_2.out
    have hl0_2 := HS0_2.out.lt
    have hf0_2 := fun j => HS0_2.out.frozen j
    have f1_2 := str7 HS1_2.out
    have hl1_2 := HS1_2.out.lt
    have hf1_2 := fun j => HS1_2.out.frozen j
    have f2_2 := str7 HS2_2.out
    have hl2_2 := HS2_2.out.lt
    have hf2_2 := fun j => HS2_2.out.frozen j
    have f3_2 := str6 HS3_2.out
    have hl3_2 := HS3_2.out.lt
    have hf3_2 := fun j => HS3_2.out.frozen j
    have f4_2 := str6 HS4_2.out
    have hl4_2 := HS4_2.out.lt
    have HM_2 := Lib.hid (bstep HM_1.out hba2)
    clear HM_1
    generalize hW3 : W2.alloc (.cells #[.int .i64 pst, .string pk, .int .i64 pkd, .slice Ap np cp, .int .i64 plo, .int .i64 phi, .int .i64 pva] 27) = W3
    have HS0_3 := sEq hW3 (HS0_2.out.alloc _)
    have HS1_3 := sEq hW3 (HS1_2.out.alloc _)
    have HS2_3 := sEq hW3 (HS2_2.out.alloc _)
    have HS3_3 := sEq hW3 (HS3_2.out.alloc _)
    have HS4_3 := sEq hW3 (HS4_2.out.alloc _)
    have HS5_3 := sEq hW3 (Str.new _ _ _)
    have hba3 : Below W2.heap.size W2 W3 := by rw [← hW3]; exact balloc (bsame _) _
    have HB_3 := Lib.hid (bstep HB_2.out hba3)
    have hw_3 := HB_3.out.size
    have hws_3 := hba3.size
    have HYa_3 := Lib.hid (HYa_2.out.next hba3)
    clear HYa_2
    clear hW3
    clear f0_2 HS0_2 hf0_2 f1_2 HS1_2 hf1_2 f2_2 HS2_2 hf2_2 f3_2 HS3_2 hf3_2 f4_2 HS4_2
    have f0_3 := str6 HS0_3.out
    have hl0_3 := HS0_3.out.lt
    have hf0_3 := fun j => HS0_3.out.frozen j
    have f1_3 := str7 HS1_3.out
    have hl1_3 := HS1_3.out.lt
    have hf1_3 := fun j => HS1_3.out.frozen j
    have f2_3 := str7 HS2_3.out
    have hl2_3 := HS2_3.out.lt
    have hf2_3 := fun j => HS2_3.out.frozen j
    have f3_3 := str6 HS3_3.out
    have hl3_3 := HS3_3.out.lt
    have hf3_3 := fun j => HS3_3.out.frozen j
    have f4_3 := str6 HS4_3.out
    have hl4_3 := HS4_3.out.lt
    have f5_3 := str7 HS5_3.out
    have hl5_3 := HS5_3.out.lt
    have hf5_3 := fun j => HS5_3.out.frozen j
    have HM_3 := Lib.hid (bstep HM_2.out hba3)
    clear HM_2
    rw [hz2] at HS5_3 hl5_3 f5_3 hf5_3
    refine (UndoW.clone_any Ap np cp W3.heap.size pda _ ((HP.out.below (HB_3.out.mono hBp)).more (Nat.le_trans hBp HB_3.out.size)) (Nat.le_refl _) (by omega)).mono ?_
    rintro e W4 ⟨Ac, nc, cc, rfl, hyc, hb4⟩
    have HS0_4 := Lib.hid (HS0_3.out.next hb4)
    have HS1_4 := Lib.hid (HS1_3.out.next hb4)
    have HS2_4 := Lib.hid (HS2_3.out.next hb4)
    have HS3_4 := Lib.hid (HS3_3.out.next hb4)
    have HS4_4 := Lib.hid (HS4_3.out.next hb4)
    have HS5_4 := Lib.hid (HS5_3.out.next hb4)
    have HB_4 := Lib.hid (bstep HB_3.out hb4)
    have hw_4 := HB_4.out.size
    have hws_4 := (hb4).size
    have HYa_4 := Lib.hid (HYa_3.out.next hb4)
    clear HYa_3
    clear f0_3 HS0_3 hf0_3 f1_3 HS1_3 hf1_3 f2_3 HS2_3 hf2_3 f3_3 HS3_3 hf3_3 f4_3 HS4_3 f5_3 HS5_3 hf5_3
    have f0_4 := str6 HS0_4.out
    have hl0_4 := HS0_4.out.lt
    have hf0_4 := fun j => HS0_4.out.frozen j
    have f1_4 := str7 HS1_4.out
    have hl1_4 := HS1_4.out.lt
    have hf1_4 := fun j => HS1_4.out.frozen j
    have f2_4 := str7 HS2_4.out
    have hl2_4 := HS2_4.out.lt
    have hf2_4 := fun j => HS2_4.out.frozen j
    have f3_4 := str6 HS3_4.out
    have hl3_4 := HS3_4.out.lt
    have hf3_4 := fun j => HS3_4.out.frozen j
    have f4_4 := str6 HS4_4.out
    have hl4_4 := HS4_4.out.lt
    have f5_4 := str7 HS5_4.out
    have hl5_4 := HS5_4.out.lt
    have hf5_4 := fun j => HS5_4.out.frozen j
    have HM_4 := Lib.hid (bstep HM_3.out hb4)
    clear HM_3
    have HYc_4 := Lib.hid (hyc)
    clear hyc hb4
    by_cases he : r.2.err = 0
    case neg =>
      have hd : (r.2.err != 0) = true := by simpa using he
      have HEN := Lib.hid he
      clear he
      go_wp2_with fail
      generalize hW5 : (W4).setCell ⟨W1.heap.size + 1, 3, none⟩ (.slice Ac nc cc) = W5
      have HS5_5 : Hid (Str W5 (W1.heap.size + 1) #[.int .i64 pst, .string pk, .int .i64 pkd, .slice Ac nc cc, .int .i64 plo, .int .i64 phi, .int .i64 pva]) := Lib.hid (by rw [← hW5]; have := (HS5_4.out).set 3 (.slice Ac nc cc); simpa using this)
      have hgr5 : W4.grownBy W5 (some (W1.heap.size + 1)) := by rw [← hW5]; exact grown_set (grown_refl W4 (W1.heap.size + 1)) 3 (_)
      have HS0_5 := Lib.hid (HS0_4.out.grown hgr5 (by omega))
      have HS1_5 := Lib.hid (HS1_4.out.grown hgr5 (by omega))
      have HS2_5 := Lib.hid (HS2_4.out.grown hgr5 (by omega))
      have HS3_5 := Lib.hid (HS3_4.out.grown hgr5 (by omega))
      have HS4_5 := Lib.hid (HS4_4.out.grown hgr5 (by omega))
      have HB_5 := Lib.hid (below_grown HB_4.out hgr5 (by omega))
      have hw_5 := HB_5.out.size
      have hws_5 := hgr5.size
      have HYa_5 := Lib.hid ((Bytes.grown HYa_4.out (Nat.le_refl _) HS5_4.out rfl hgr5).more hws_5)
      have HYc_5 := Lib.hid ((Bytes.grown HYc_4.out (Nat.le_refl _) HS5_4.out rfl hgr5).more hws_5)
      clear HYa_4 HYc_4
      have HM_5 : Hid (Below W1.heap.size W1 W5) := Lib.hid (below_grown HM_4.out hgr5 (by omega))
      clear hW5
      clear f0_4 HS0_4 hf0_4 f1_4 HS1_4 hf1_4 f2_4 HS2_4 hf2_4 f3_4 HS3_4 hf3_4 f4_4 HS4_4 f5_4 HS5_4 hf5_4
      clear hgr5
      have f0_5 := str6 HS0_5.out
      have hl0_5 := HS0_5.out.lt
      have hf0_5 := fun j => HS0_5.out.frozen j
      have f1_5 := str7 HS1_5.out
      have hl1_5 := HS1_5.out.lt
      have hf1_5 := fun j => HS1_5.out.frozen j
      have f2_5 := str7 HS2_5.out
      have hl2_5 := HS2_5.out.lt
      have hf2_5 := fun j => HS2_5.out.frozen j
      have f3_5 := str6 HS3_5.out
      have hl3_5 := HS3_5.out.lt
      have hf3_5 := fun j => HS3_5.out.frozen j
      have f4_5 := str6 HS4_5.out
      have hl4_5 := HS4_5.out.lt
      have f5_5 := str7 HS5_5.out
      have hl5_5 := HS5_5.out.lt
      have hf5_5 := fun j => HS5_5.out.frozen j
      have HNU : Hid (∀ b ∈ ([w.heap.size + 1 + 1, w.heap.size + 1 + 1 + 1] : List Nat), ∃ cs, Str W5 b cs ∧ notU8 cs = true) := Lib.hid (by intro b hb; simp only [List.mem_cons, List.not_mem_nil, or_false] at hb; rcases hb with rfl | rfl <;> first | exact ⟨_, HS2_5.out, rfl⟩ | exact ⟨_, HS3_5.out, rfl⟩)
      have hOK : Reg.okS W5.heap.size (Reg.BxS.mk [] (fun t => if t = 4 then #[.int .i64 0, .string ⟨#[]⟩, .int .i64 0, .slice none 0 0, .int .i64 0, .int .i64 0, .int .i64 0] else if t = 5 then #[.int .i64 0, .int .i64 0, .slice none 0 0, .int .i64 0, .int .i64 0, .int .i64 0] else #[]) (fun t => if t = 4 then (Reg.rowM (Reg.eqM (.agg #[.int .i64 pst, .string pk, .int .i64 pkd, .slice Ac nc cc, .int .i64 plo, .int .i64 phi, .int .i64 pva]))) else if t = 5 then (Reg.rowM (Reg.eqM (.agg #[.int .i64 r.2.err, .int .i64 r.2.cell.kind, .slice A2 n2 c2, .int .i64 r.2.cell.lo, .int .i64 r.2.cell.hi, .int .i64 r.2.cell.val]))) else (Reg.rowM (Reg.eqM undef))) [] (fun t => (Reg.eqM undef)) [(4, w.heap.size + 1 + 1, 2), (5, w.heap.size + 1 + 1 + 1, 3)]) := Reg.okS_of rfl (by first | exact List.pairwise_singleton _ _ | simp) (by intro k hk; have hk : k ∈ ([(4, w.heap.size + 1 + 1, 2), (5, w.heap.size + 1 + 1 + 1, 3)] : List (Tmp × Nat × Nat)) := hk; simp only [List.mem_cons, List.not_mem_nil, or_false] at hk; rcases hk with rfl | rfl <;> (dsimp only; omega))
      refine Reg.wp_region_box (R := (Reg.extB W5.heap.size (Reg.BxS.b0 (Reg.BxS.mk [] (fun t => if t = 4 then #[.int .i64 0, .string ⟨#[]⟩, .int .i64 0, .slice none 0 0, .int .i64 0, .int .i64 0, .int .i64 0] else if t = 5 then #[.int .i64 0, .int .i64 0, .slice none 0 0, .int .i64 0, .int .i64 0, .int .i64 0] else #[]) (fun t => if t = 4 then (Reg.rowM (Reg.eqM (.agg #[.int .i64 pst, .string pk, .int .i64 pkd, .slice Ac nc cc, .int .i64 plo, .int .i64 phi, .int .i64 pva]))) else if t = 5 then (Reg.rowM (Reg.eqM (.agg #[.int .i64 r.2.err, .int .i64 r.2.cell.kind, .slice A2 n2 c2, .int .i64 r.2.cell.lo, .int .i64 r.2.cell.hi, .int .i64 r.2.cell.val]))) else (Reg.rowM (Reg.eqM undef))) [] (fun t => (Reg.eqM undef)) [(4, w.heap.size + 1 + 1, 2), (5, w.heap.size + 1 + 1 + 1, 3)])))) (W := W5) (Reg.BJ W5.heap.size (Reg.BxS.mk [] (fun t => if t = 4 then #[.int .i64 0, .string ⟨#[]⟩, .int .i64 0, .slice none 0 0, .int .i64 0, .int .i64 0, .int .i64 0] else if t = 5 then #[.int .i64 0, .int .i64 0, .slice none 0 0, .int .i64 0, .int .i64 0, .int .i64 0] else #[]) (fun t => if t = 4 then (Reg.rowM (Reg.eqM (.agg #[.int .i64 pst, .string pk, .int .i64 pkd, .slice Ac nc cc, .int .i64 plo, .int .i64 phi, .int .i64 pva]))) else if t = 5 then (Reg.rowM (Reg.eqM (.agg #[.int .i64 r.2.err, .int .i64 r.2.cell.kind, .slice A2 n2 c2, .int .i64 r.2.cell.lo, .int .i64 r.2.cell.hi, .int .i64 r.2.cell.val]))) else (Reg.rowM (Reg.eqM undef))) [] (fun t => (Reg.eqM undef)) [(4, w.heap.size + 1 + 1, 2), (5, w.heap.size + 1 + 1 + 1, 3)])) [Reg.eqv (.agg #[.int .i64 pst, .string pk, .int .i64 pkd, .slice Ac nc cc, .int .i64 plo, .int .i64 phi, .int .i64 pva]), Reg.eqv (.agg #[.int .i64 r.2.err, .int .i64 r.2.cell.kind, .slice A2 n2 c2, .int .i64 r.2.cell.lo, .int .i64 r.2.cell.hi, .int .i64 r.2.cell.val]), Reg.any, Reg.any] 68 [[(8, none)], [(7, none)], [(4, none), (36, some 0)], [(5, none), (37, some 1)]] rfl (by kernel_rfl) (by kernel_rfl) (fun _ h => Reg.bj_zero (by intro k hk; have hk : k ∈ ([(4, w.heap.size + 1 + 1, 2), (5, w.heap.size + 1 + 1 + 1, 3)] : List (Tmp × Nat × Nat)) := hk; simp only [List.mem_cons, List.not_mem_nil, or_false] at hk; rcases hk with rfl | rfl <;> first | exact ⟨HS2_5.out, rfl⟩ | exact ⟨HS3_5.out, rfl⟩) h) (by kernel_rfl) ?_ [some 36, some 37, none, none] (by kernel_rfl) ?_
      · refine ⟨?_, ?_, ?_, ?_, trivial⟩
        · refine Reg.oblB_pure rfl rfl rfl ?_
          intro ax wx hx hs hmm
          replace hx : Reg.KeepB W5.heap.size [w.heap.size + 1 + 1, w.heap.size + 1 + 1 + 1] W5 wx := hx
          have hxB : Below w.heap.size W5 wx := hx.below (by omega) (by intro b hb; have hb : b ∈ ([w.heap.size + 1 + 1, w.heap.size + 1 + 1 + 1] : List Nat) := hb; simp only [List.mem_cons, List.not_mem_nil, or_false] at hb; rcases hb with rfl | rfl <;> omega)
          obtain ⟨e8, -⟩ := hs
          have g8 := Reg.ev (v := .pointer (some ⟨W1.heap.size + 1, 0, none⟩)) e8
          obtain ⟨l0_0, l0_1, l0_2, l0_3, l0_4, l0_5⟩ := str6 (hx.str HS0_5.out (by omega) (by simp only [List.mem_cons, List.not_mem_nil, or_false, not_or]; omega))
          obtain ⟨l1_0, l1_1, l1_2, l1_3, l1_4, l1_5, l1_6⟩ := str7 (hx.str HS1_5.out (by omega) (by simp only [List.mem_cons, List.not_mem_nil, or_false, not_or]; omega))
          obtain ⟨l4_0, l4_1, l4_2, l4_3, l4_4, l4_5⟩ := str6 (hx.str HS4_5.out (by omega) (by simp only [List.mem_cons, List.not_mem_nil, or_false, not_or]; omega))
          obtain ⟨l5_0, l5_1, l5_2, l5_3, l5_4, l5_5, l5_6⟩ := str7 (hx.str HS5_5.out (by omega) (by simp only [List.mem_cons, List.not_mem_nil, or_false, not_or]; omega))
          exact (Reg.wp_eqvB (Option.some_ne_none _) (by go_simp) rfl)
        · refine Reg.oblB_pure rfl rfl rfl ?_
          intro ax wx hx hs hmm
          replace hx : Reg.KeepB W5.heap.size [w.heap.size + 1 + 1, w.heap.size + 1 + 1 + 1] W5 wx := hx
          have hxB : Below w.heap.size W5 wx := hx.below (by omega) (by intro b hb; have hb : b ∈ ([w.heap.size + 1 + 1, w.heap.size + 1 + 1 + 1] : List Nat) := hb; simp only [List.mem_cons, List.not_mem_nil, or_false] at hb; rcases hb with rfl | rfl <;> omega)
          obtain ⟨e7, -⟩ := hs
          have g7 := Reg.ev (v := .pointer (some ⟨W1.heap.size, 0, none⟩)) e7
          obtain ⟨l0_0, l0_1, l0_2, l0_3, l0_4, l0_5⟩ := str6 (hx.str HS0_5.out (by omega) (by simp only [List.mem_cons, List.not_mem_nil, or_false, not_or]; omega))
          obtain ⟨l1_0, l1_1, l1_2, l1_3, l1_4, l1_5, l1_6⟩ := str7 (hx.str HS1_5.out (by omega) (by simp only [List.mem_cons, List.not_mem_nil, or_false, not_or]; omega))
          obtain ⟨l4_0, l4_1, l4_2, l4_3, l4_4, l4_5⟩ := str6 (hx.str HS4_5.out (by omega) (by simp only [List.mem_cons, List.not_mem_nil, or_false, not_or]; omega))
          obtain ⟨l5_0, l5_1, l5_2, l5_3, l5_4, l5_5, l5_6⟩ := str7 (hx.str HS5_5.out (by omega) (by simp only [List.mem_cons, List.not_mem_nil, or_false, not_or]; omega))
          exact (Reg.wp_eqvB (Option.some_ne_none _) (by go_simp) rfl)
        · refine Reg.oblB_store0 rfl rfl hOK (t := 4) (g := w.heap.size + 1 + 1) (List.mem_of_getElem? (i := 0) rfl) rfl (by show 2 < 4; decide) (fun _ _ => trivial) ?_
          intro ax wx rb hx hrb hs hmm hS
          replace hx : Reg.KeepB W5.heap.size [w.heap.size + 1 + 1, w.heap.size + 1 + 1 + 1] W5 wx := hx
          have hxB : Below w.heap.size W5 wx := hx.below (by omega) (by intro b hb; have hb : b ∈ ([w.heap.size + 1 + 1, w.heap.size + 1 + 1 + 1] : List Nat) := hb; simp only [List.mem_cons, List.not_mem_nil, or_false] at hb; rcases hb with rfl | rfl <;> omega)
          obtain ⟨e4, e36, -⟩ := hs
          have g4 := Reg.ev (v := .pointer (some ⟨w.heap.size + 1 + 1, 0, none⟩)) e4
          have g36 := Reg.ev (v := .agg #[.int .i64 pst, .string pk, .int .i64 pkd, .slice Ac nc cc, .int .i64 plo, .int .i64 phi, .int .i64 pva]) e36
          exact Reg.st_box rfl (Reg.run_st_box rfl e4 e36 hS rfl (by kernel_rfl) rfl) rfl rfl
        · refine Reg.oblB_store0 rfl rfl hOK (t := 5) (g := w.heap.size + 1 + 1 + 1) (List.mem_of_getElem? (i := 1) rfl) rfl (by show 3 < 4; decide) (fun _ _ => trivial) ?_
          intro ax wx rb hx hrb hs hmm hS
          replace hx : Reg.KeepB W5.heap.size [w.heap.size + 1 + 1, w.heap.size + 1 + 1 + 1] W5 wx := hx
          have hxB : Below w.heap.size W5 wx := hx.below (by omega) (by intro b hb; have hb : b ∈ ([w.heap.size + 1 + 1, w.heap.size + 1 + 1 + 1] : List Nat) := hb; simp only [List.mem_cons, List.not_mem_nil, or_false] at hb; rcases hb with rfl | rfl <;> omega)
          obtain ⟨e5, e37, -⟩ := hs
          have g5 := Reg.ev (v := .pointer (some ⟨w.heap.size + 1 + 1 + 1, 0, none⟩)) e5
          have g37 := Reg.ev (v := .agg #[.int .i64 r.2.err, .int .i64 r.2.cell.kind, .slice A2 n2 c2, .int .i64 r.2.cell.lo, .int .i64 r.2.cell.hi, .int .i64 r.2.cell.val]) e37
          exact Reg.st_box rfl (Reg.run_st_box rfl e5 e37 hS rfl (by kernel_rfl) rfl) rfl rfl
      · intro W6 listed hwf hall
        simp only [Reg.Fin]
        rintro _ rfl _ rfl vn2 hn2 vn3 hn3
        intro hJ
        obtain ⟨hJM, hJB, hJN, hJ0⟩ := Reg.bj_end (n := 4) hall (by show ∀ b ∈ ([] : List (Nat × Tmp × Nat)), b.1 < 4 ∧ b.2.2 < 4; decide) (by show ∀ m ∈ ([] : List (Nat × Tmp)), m.1 < 4; decide) (by show ∀ k ∈ ([2, 3] : List Nat), k < 4; decide) hJ
        obtain ⟨cs4, hS4, hX4⟩ := hJ0 (4, w.heap.size + 1 + 1, 2) (List.mem_of_getElem? (i := 0) rfl)
        have hX4 : (Reg.rowM (Reg.eqM (.agg #[.int .i64 pst, .string pk, .int .i64 pkd, .slice Ac nc cc, .int .i64 plo, .int .i64 phi, .int .i64 pva]))).pred cs4 W6 W6.heap.size := hX4
        obtain ⟨cs5, hS5, hX5⟩ := hJ0 (5, w.heap.size + 1 + 1 + 1, 3) (List.mem_of_getElem? (i := 1) rfl)
        have hX5 : (Reg.rowM (Reg.eqM (.agg #[.int .i64 r.2.err, .int .i64 r.2.cell.kind, .slice A2 n2 c2, .int .i64 r.2.cell.lo, .int .i64 r.2.cell.hi, .int .i64 r.2.cell.val]))).pred cs5 W6 W6.heap.size := hX5
        clear hJM hJB hJN hJ0 hJ hall 
        go_simp
        replace hwf : Reg.KeepB W5.heap.size [w.heap.size + 1 + 1, w.heap.size + 1 + 1 + 1] W5 W6 := hwf
        have hbw : Below w.heap.size W5 W6 := hwf.below (by omega) (by intro b hb; simp only [List.mem_cons, List.not_mem_nil, or_false] at hb; rcases hb with rfl | rfl <;> omega)
        have HS0_6 := Lib.hid (hwf.str HS0_5.out (by omega) (by simp only [List.mem_cons, List.not_mem_nil, or_false, not_or]; omega))
        have HS1_6 := Lib.hid (hwf.str HS1_5.out (by omega) (by simp only [List.mem_cons, List.not_mem_nil, or_false, not_or]; omega))
        have HS4_6 := Lib.hid (hwf.str HS4_5.out (by omega) (by simp only [List.mem_cons, List.not_mem_nil, or_false, not_or]; omega))
        have HS5_6 := Lib.hid (hwf.str HS5_5.out (by omega) (by simp only [List.mem_cons, List.not_mem_nil, or_false, not_or]; omega))
        have HB_6 := Lib.hid (HB_5.out.trans hbw)
        have hw_6 := HB_6.out.size
        have hws_6 := hbw.size
        have HYa_6 := Lib.hid ((HYa_5.out.keepB (Nat.le_refl _) HNU.out hwf).more hws_6)
        clear HYa_5
        have HYc_6 := Lib.hid ((HYc_5.out.keepB (Nat.le_refl _) HNU.out hwf).more hws_6)
        clear HYc_5
        have HS2_6 := Lib.hid hS4
        clear hS4
        have HS3_6 := Lib.hid hS5
        clear hS5
        clear f0_5 HS0_5 hf0_5 f1_5 HS1_5 hf1_5 f2_5 HS2_5 hf2_5 f3_5 HS3_5 hf3_5 f4_5 HS4_5 f5_5 HS5_5 hf5_5
        clear HNU
        clear hwf hbw hOK
        have e4 : cs4 = #[.int .i64 pst, .string pk, .int .i64 pkd, .slice Ac nc cc, .int .i64 plo, .int .i64 phi, .int .i64 pva] := by injection hX4
        have e5 : cs5 = #[.int .i64 r.2.err, .int .i64 r.2.cell.kind, .slice A2 n2 c2, .int .i64 r.2.cell.lo, .int .i64 r.2.cell.hi, .int .i64 r.2.cell.val] := by injection hX5
        subst e4 e5
        clear hX4 hX5
        have f0_6 := str6 HS0_6.out
        have hl0_6 := HS0_6.out.lt
        have hf0_6 := fun j => HS0_6.out.frozen j
        have f1_6 := str7 HS1_6.out
        have hl1_6 := HS1_6.out.lt
        have hf1_6 := fun j => HS1_6.out.frozen j
        have f2_6 := str7 HS2_6.out
        have hl2_6 := HS2_6.out.lt
        have hf2_6 := fun j => HS2_6.out.frozen j
        have f3_6 := str6 HS3_6.out
        have hl3_6 := HS3_6.out.lt
        have hf3_6 := fun j => HS3_6.out.frozen j
        have f4_6 := str6 HS4_6.out
        have hl4_6 := HS4_6.out.lt
        have f5_6 := str7 HS5_6.out
        have hl5_6 := HS5_6.out.lt
        have hf5_6 := fun j => HS5_6.out.frozen j
        go_wp2_with fail
        refine bodyPost_ret (v := .tuple #[.agg #[.int .i64 pst, .string pk, .int .i64 pkd, .slice Ac nc cc, .int .i64 plo, .int .i64 phi, .int .i64 pva], .agg #[.int .i64 r.2.err, .int .i64 r.2.cell.kind, .slice A2 n2 c2, .int .i64 r.2.cell.lo, .int .i64 r.2.cell.hi, .int .i64 r.2.cell.val]]) (by simp [results, Tryz.results19, go_sem, *]) rfl ?_
        rw [slot_err HRR.out HEN.out]
        exact ⟨Ac, nc, cc, A2, n2, c2, rfl, HYc_6.out, HYa_6.out, HB_6.out⟩
    case pos =>
      have hd : (r.2.err != 0) = false := by simpa using he
      have HE := Lib.hid he
      have hA := act_in HRR.out he
      dsimp only at hA
      clear he
      rcases hA with rfl | rfl | hA
      · go_wp2_with fail
        generalize hW5 : (W4).setCell ⟨W1.heap.size + 1, 3, none⟩ (.slice Ac nc cc) = W5
        have HS5_5 : Hid (Str W5 (W1.heap.size + 1) #[.int .i64 pst, .string pk, .int .i64 pkd, .slice Ac nc cc, .int .i64 plo, .int .i64 phi, .int .i64 pva]) := Lib.hid (by rw [← hW5]; have := (HS5_4.out).set 3 (.slice Ac nc cc); simpa using this)
        have hgr5 : W4.grownBy W5 (some (W1.heap.size + 1)) := by rw [← hW5]; exact grown_set (grown_refl W4 (W1.heap.size + 1)) 3 (_)
        have HS0_5 := Lib.hid (HS0_4.out.grown hgr5 (by omega))
        have HS1_5 := Lib.hid (HS1_4.out.grown hgr5 (by omega))
        have HS2_5 := Lib.hid (HS2_4.out.grown hgr5 (by omega))
        have HS3_5 := Lib.hid (HS3_4.out.grown hgr5 (by omega))
        have HS4_5 := Lib.hid (HS4_4.out.grown hgr5 (by omega))
        have HB_5 := Lib.hid (below_grown HB_4.out hgr5 (by omega))
        have hw_5 := HB_5.out.size
        have hws_5 := hgr5.size
        have HYa_5 := Lib.hid ((Bytes.grown HYa_4.out (Nat.le_refl _) HS5_4.out rfl hgr5).more hws_5)
        have HYc_5 := Lib.hid ((Bytes.grown HYc_4.out (Nat.le_refl _) HS5_4.out rfl hgr5).more hws_5)
        clear HYa_4 HYc_4
        have HM_5 : Hid (Below W1.heap.size W1 W5) := Lib.hid (below_grown HM_4.out hgr5 (by omega))
        clear hW5
        clear f0_4 HS0_4 hf0_4 f1_4 HS1_4 hf1_4 f2_4 HS2_4 hf2_4 f3_4 HS3_4 hf3_4 f4_4 HS4_4 f5_4 HS5_4 hf5_4
        clear hgr5
        have f0_5 := str6 HS0_5.out
        have hl0_5 := HS0_5.out.lt
        have hf0_5 := fun j => HS0_5.out.frozen j
        have f1_5 := str7 HS1_5.out
        have hl1_5 := HS1_5.out.lt
        have hf1_5 := fun j => HS1_5.out.frozen j
        have f2_5 := str7 HS2_5.out
        have hl2_5 := HS2_5.out.lt
        have hf2_5 := fun j => HS2_5.out.frozen j
        have f3_5 := str6 HS3_5.out
        have hl3_5 := HS3_5.out.lt
        have hf3_5 := fun j => HS3_5.out.frozen j
        have f4_5 := str6 HS4_5.out
        have hl4_5 := HS4_5.out.lt
        have f5_5 := str7 HS5_5.out
        have hl5_5 := HS5_5.out.lt
        have hf5_5 := fun j => HS5_5.out.frozen j
        have HNU : Hid (∀ b ∈ ([w.heap.size + 1 + 1, w.heap.size + 1 + 1 + 1] : List Nat), ∃ cs, Str W5 b cs ∧ notU8 cs = true) := Lib.hid (by intro b hb; simp only [List.mem_cons, List.not_mem_nil, or_false] at hb; rcases hb with rfl | rfl <;> first | exact ⟨_, HS2_5.out, rfl⟩ | exact ⟨_, HS3_5.out, rfl⟩)
        have hOK : Reg.okS W5.heap.size (Reg.BxS.mk [] (fun t => if t = 4 then #[.int .i64 0, .string ⟨#[]⟩, .int .i64 0, .slice none 0 0, .int .i64 0, .int .i64 0, .int .i64 0] else if t = 5 then #[.int .i64 0, .int .i64 0, .slice none 0 0, .int .i64 0, .int .i64 0, .int .i64 0] else #[]) (fun t => if t = 4 then (Reg.rowM (Reg.eqM (.agg #[.int .i64 pst, .string pk, .int .i64 pkd, .slice Ac nc cc, .int .i64 plo, .int .i64 phi, .int .i64 pva]))) else if t = 5 then (Reg.rowM (Reg.eqM (.agg #[.int .i64 r.2.err, .int .i64 r.2.cell.kind, .slice A2 n2 c2, .int .i64 r.2.cell.lo, .int .i64 r.2.cell.hi, .int .i64 r.2.cell.val]))) else (Reg.rowM (Reg.eqM undef))) [] (fun t => (Reg.eqM undef)) [(4, w.heap.size + 1 + 1, 2), (5, w.heap.size + 1 + 1 + 1, 3)]) := Reg.okS_of rfl (by first | exact List.pairwise_singleton _ _ | simp) (by intro k hk; have hk : k ∈ ([(4, w.heap.size + 1 + 1, 2), (5, w.heap.size + 1 + 1 + 1, 3)] : List (Tmp × Nat × Nat)) := hk; simp only [List.mem_cons, List.not_mem_nil, or_false] at hk; rcases hk with rfl | rfl <;> (dsimp only; omega))
        refine Reg.wp_region_box (R := (Reg.extB W5.heap.size (Reg.BxS.b0 (Reg.BxS.mk [] (fun t => if t = 4 then #[.int .i64 0, .string ⟨#[]⟩, .int .i64 0, .slice none 0 0, .int .i64 0, .int .i64 0, .int .i64 0] else if t = 5 then #[.int .i64 0, .int .i64 0, .slice none 0 0, .int .i64 0, .int .i64 0, .int .i64 0] else #[]) (fun t => if t = 4 then (Reg.rowM (Reg.eqM (.agg #[.int .i64 pst, .string pk, .int .i64 pkd, .slice Ac nc cc, .int .i64 plo, .int .i64 phi, .int .i64 pva]))) else if t = 5 then (Reg.rowM (Reg.eqM (.agg #[.int .i64 r.2.err, .int .i64 r.2.cell.kind, .slice A2 n2 c2, .int .i64 r.2.cell.lo, .int .i64 r.2.cell.hi, .int .i64 r.2.cell.val]))) else (Reg.rowM (Reg.eqM undef))) [] (fun t => (Reg.eqM undef)) [(4, w.heap.size + 1 + 1, 2), (5, w.heap.size + 1 + 1 + 1, 3)])))) (W := W5) (Reg.BJ W5.heap.size (Reg.BxS.mk [] (fun t => if t = 4 then #[.int .i64 0, .string ⟨#[]⟩, .int .i64 0, .slice none 0 0, .int .i64 0, .int .i64 0, .int .i64 0] else if t = 5 then #[.int .i64 0, .int .i64 0, .slice none 0 0, .int .i64 0, .int .i64 0, .int .i64 0] else #[]) (fun t => if t = 4 then (Reg.rowM (Reg.eqM (.agg #[.int .i64 pst, .string pk, .int .i64 pkd, .slice Ac nc cc, .int .i64 plo, .int .i64 phi, .int .i64 pva]))) else if t = 5 then (Reg.rowM (Reg.eqM (.agg #[.int .i64 r.2.err, .int .i64 r.2.cell.kind, .slice A2 n2 c2, .int .i64 r.2.cell.lo, .int .i64 r.2.cell.hi, .int .i64 r.2.cell.val]))) else (Reg.rowM (Reg.eqM undef))) [] (fun t => (Reg.eqM undef)) [(4, w.heap.size + 1 + 1, 2), (5, w.heap.size + 1 + 1 + 1, 3)])) [Reg.eqv (.agg #[.int .i64 pst, .string pk, .int .i64 pkd, .slice Ac nc cc, .int .i64 plo, .int .i64 phi, .int .i64 pva]), Reg.eqv (.agg #[.int .i64 r.2.err, .int .i64 r.2.cell.kind, .slice A2 n2 c2, .int .i64 r.2.cell.lo, .int .i64 r.2.cell.hi, .int .i64 r.2.cell.val]), Reg.any, Reg.any] 68 [[(8, none)], [(7, none)], [(4, none), (66, some 0)], [(5, none), (67, some 1)]] rfl (by kernel_rfl) (by kernel_rfl) (fun _ h => Reg.bj_zero (by intro k hk; have hk : k ∈ ([(4, w.heap.size + 1 + 1, 2), (5, w.heap.size + 1 + 1 + 1, 3)] : List (Tmp × Nat × Nat)) := hk; simp only [List.mem_cons, List.not_mem_nil, or_false] at hk; rcases hk with rfl | rfl <;> first | exact ⟨HS2_5.out, rfl⟩ | exact ⟨HS3_5.out, rfl⟩) h) (by kernel_rfl) ?_ [some 66, some 67, none, none] (by kernel_rfl) ?_
        · refine ⟨?_, ?_, ?_, ?_, trivial⟩
          · refine Reg.oblB_pure rfl rfl rfl ?_
            intro ax wx hx hs hmm
            replace hx : Reg.KeepB W5.heap.size [w.heap.size + 1 + 1, w.heap.size + 1 + 1 + 1] W5 wx := hx
            have hxB : Below w.heap.size W5 wx := hx.below (by omega) (by intro b hb; have hb : b ∈ ([w.heap.size + 1 + 1, w.heap.size + 1 + 1 + 1] : List Nat) := hb; simp only [List.mem_cons, List.not_mem_nil, or_false] at hb; rcases hb with rfl | rfl <;> omega)
            obtain ⟨e8, -⟩ := hs
            have g8 := Reg.ev (v := .pointer (some ⟨W1.heap.size + 1, 0, none⟩)) e8
            obtain ⟨l0_0, l0_1, l0_2, l0_3, l0_4, l0_5⟩ := str6 (hx.str HS0_5.out (by omega) (by simp only [List.mem_cons, List.not_mem_nil, or_false, not_or]; omega))
            obtain ⟨l1_0, l1_1, l1_2, l1_3, l1_4, l1_5, l1_6⟩ := str7 (hx.str HS1_5.out (by omega) (by simp only [List.mem_cons, List.not_mem_nil, or_false, not_or]; omega))
            obtain ⟨l4_0, l4_1, l4_2, l4_3, l4_4, l4_5⟩ := str6 (hx.str HS4_5.out (by omega) (by simp only [List.mem_cons, List.not_mem_nil, or_false, not_or]; omega))
            obtain ⟨l5_0, l5_1, l5_2, l5_3, l5_4, l5_5, l5_6⟩ := str7 (hx.str HS5_5.out (by omega) (by simp only [List.mem_cons, List.not_mem_nil, or_false, not_or]; omega))
            exact (Reg.wp_eqvB (Option.some_ne_none _) (by go_simp) rfl)
          · refine Reg.oblB_pure rfl rfl rfl ?_
            intro ax wx hx hs hmm
            replace hx : Reg.KeepB W5.heap.size [w.heap.size + 1 + 1, w.heap.size + 1 + 1 + 1] W5 wx := hx
            have hxB : Below w.heap.size W5 wx := hx.below (by omega) (by intro b hb; have hb : b ∈ ([w.heap.size + 1 + 1, w.heap.size + 1 + 1 + 1] : List Nat) := hb; simp only [List.mem_cons, List.not_mem_nil, or_false] at hb; rcases hb with rfl | rfl <;> omega)
            obtain ⟨e7, -⟩ := hs
            have g7 := Reg.ev (v := .pointer (some ⟨W1.heap.size, 0, none⟩)) e7
            obtain ⟨l0_0, l0_1, l0_2, l0_3, l0_4, l0_5⟩ := str6 (hx.str HS0_5.out (by omega) (by simp only [List.mem_cons, List.not_mem_nil, or_false, not_or]; omega))
            obtain ⟨l1_0, l1_1, l1_2, l1_3, l1_4, l1_5, l1_6⟩ := str7 (hx.str HS1_5.out (by omega) (by simp only [List.mem_cons, List.not_mem_nil, or_false, not_or]; omega))
            obtain ⟨l4_0, l4_1, l4_2, l4_3, l4_4, l4_5⟩ := str6 (hx.str HS4_5.out (by omega) (by simp only [List.mem_cons, List.not_mem_nil, or_false, not_or]; omega))
            obtain ⟨l5_0, l5_1, l5_2, l5_3, l5_4, l5_5, l5_6⟩ := str7 (hx.str HS5_5.out (by omega) (by simp only [List.mem_cons, List.not_mem_nil, or_false, not_or]; omega))
            exact (Reg.wp_eqvB (Option.some_ne_none _) (by go_simp) rfl)
          · refine Reg.oblB_store0 rfl rfl hOK (t := 4) (g := w.heap.size + 1 + 1) (List.mem_of_getElem? (i := 0) rfl) rfl (by show 2 < 4; decide) (fun _ _ => trivial) ?_
            intro ax wx rb hx hrb hs hmm hS
            replace hx : Reg.KeepB W5.heap.size [w.heap.size + 1 + 1, w.heap.size + 1 + 1 + 1] W5 wx := hx
            have hxB : Below w.heap.size W5 wx := hx.below (by omega) (by intro b hb; have hb : b ∈ ([w.heap.size + 1 + 1, w.heap.size + 1 + 1 + 1] : List Nat) := hb; simp only [List.mem_cons, List.not_mem_nil, or_false] at hb; rcases hb with rfl | rfl <;> omega)
            obtain ⟨e4, e66, -⟩ := hs
            have g4 := Reg.ev (v := .pointer (some ⟨w.heap.size + 1 + 1, 0, none⟩)) e4
            have g66 := Reg.ev (v := .agg #[.int .i64 pst, .string pk, .int .i64 pkd, .slice Ac nc cc, .int .i64 plo, .int .i64 phi, .int .i64 pva]) e66
            exact Reg.st_box rfl (Reg.run_st_box rfl e4 e66 hS rfl (by kernel_rfl) rfl) rfl rfl
          · refine Reg.oblB_store0 rfl rfl hOK (t := 5) (g := w.heap.size + 1 + 1 + 1) (List.mem_of_getElem? (i := 1) rfl) rfl (by show 3 < 4; decide) (fun _ _ => trivial) ?_
            intro ax wx rb hx hrb hs hmm hS
            replace hx : Reg.KeepB W5.heap.size [w.heap.size + 1 + 1, w.heap.size + 1 + 1 + 1] W5 wx := hx
            have hxB : Below w.heap.size W5 wx := hx.below (by omega) (by intro b hb; have hb : b ∈ ([w.heap.size + 1 + 1, w.heap.size + 1 + 1 + 1] : List Nat) := hb; simp only [List.mem_cons, List.not_mem_nil, or_false] at hb; rcases hb with rfl | rfl <;> omega)
            obtain ⟨e5, e67, -⟩ := hs
            have g5 := Reg.ev (v := .pointer (some ⟨w.heap.size + 1 + 1 + 1, 0, none⟩)) e5
            have g67 := Reg.ev (v := .agg #[.int .i64 r.2.err, .int .i64 r.2.cell.kind, .slice A2 n2 c2, .int .i64 r.2.cell.lo, .int .i64 r.2.cell.hi, .int .i64 r.2.cell.val]) e67
            exact Reg.st_box rfl (Reg.run_st_box rfl e5 e67 hS rfl (by kernel_rfl) rfl) rfl rfl
        · intro W6 listed hwf hall
          simp only [Reg.Fin]
          rintro _ rfl _ rfl vn2 hn2 vn3 hn3
          intro hJ
          obtain ⟨hJM, hJB, hJN, hJ0⟩ := Reg.bj_end (n := 4) hall (by show ∀ b ∈ ([] : List (Nat × Tmp × Nat)), b.1 < 4 ∧ b.2.2 < 4; decide) (by show ∀ m ∈ ([] : List (Nat × Tmp)), m.1 < 4; decide) (by show ∀ k ∈ ([2, 3] : List Nat), k < 4; decide) hJ
          obtain ⟨cs4, hS4, hX4⟩ := hJ0 (4, w.heap.size + 1 + 1, 2) (List.mem_of_getElem? (i := 0) rfl)
          have hX4 : (Reg.rowM (Reg.eqM (.agg #[.int .i64 pst, .string pk, .int .i64 pkd, .slice Ac nc cc, .int .i64 plo, .int .i64 phi, .int .i64 pva]))).pred cs4 W6 W6.heap.size := hX4
          obtain ⟨cs5, hS5, hX5⟩ := hJ0 (5, w.heap.size + 1 + 1 + 1, 3) (List.mem_of_getElem? (i := 1) rfl)
          have hX5 : (Reg.rowM (Reg.eqM (.agg #[.int .i64 r.2.err, .int .i64 r.2.cell.kind, .slice A2 n2 c2, .int .i64 r.2.cell.lo, .int .i64 r.2.cell.hi, .int .i64 r.2.cell.val]))).pred cs5 W6 W6.heap.size := hX5
          clear hJM hJB hJN hJ0 hJ hall 
          go_simp
          replace hwf : Reg.KeepB W5.heap.size [w.heap.size + 1 + 1, w.heap.size + 1 + 1 + 1] W5 W6 := hwf
          have hbw : Below w.heap.size W5 W6 := hwf.below (by omega) (by intro b hb; simp only [List.mem_cons, List.not_mem_nil, or_false] at hb; rcases hb with rfl | rfl <;> omega)
          have HS0_6 := Lib.hid (hwf.str HS0_5.out (by omega) (by simp only [List.mem_cons, List.not_mem_nil, or_false, not_or]; omega))
          have HS1_6 := Lib.hid (hwf.str HS1_5.out (by omega) (by simp only [List.mem_cons, List.not_mem_nil, or_false, not_or]; omega))
          have HS4_6 := Lib.hid (hwf.str HS4_5.out (by omega) (by simp only [List.mem_cons, List.not_mem_nil, or_false, not_or]; omega))
          have HS5_6 := Lib.hid (hwf.str HS5_5.out (by omega) (by simp only [List.mem_cons, List.not_mem_nil, or_false, not_or]; omega))
          have HB_6 := Lib.hid (HB_5.out.trans hbw)
          have hw_6 := HB_6.out.size
          have hws_6 := hbw.size
          have HYa_6 := Lib.hid ((HYa_5.out.keepB (Nat.le_refl _) HNU.out hwf).more hws_6)
          clear HYa_5
          have HYc_6 := Lib.hid ((HYc_5.out.keepB (Nat.le_refl _) HNU.out hwf).more hws_6)
          clear HYc_5
          have HS2_6 := Lib.hid hS4
          clear hS4
          have HS3_6 := Lib.hid hS5
          clear hS5
          clear f0_5 HS0_5 hf0_5 f1_5 HS1_5 hf1_5 f2_5 HS2_5 hf2_5 f3_5 HS3_5 hf3_5 f4_5 HS4_5 f5_5 HS5_5 hf5_5
          clear HNU
          clear hwf hbw hOK
          have e4 : cs4 = #[.int .i64 pst, .string pk, .int .i64 pkd, .slice Ac nc cc, .int .i64 plo, .int .i64 phi, .int .i64 pva] := by injection hX4
          have e5 : cs5 = #[.int .i64 r.2.err, .int .i64 r.2.cell.kind, .slice A2 n2 c2, .int .i64 r.2.cell.lo, .int .i64 r.2.cell.hi, .int .i64 r.2.cell.val] := by injection hX5
          subst e4 e5
          clear hX4 hX5
          have f0_6 := str6 HS0_6.out
          have hl0_6 := HS0_6.out.lt
          have hf0_6 := fun j => HS0_6.out.frozen j
          have f1_6 := str7 HS1_6.out
          have hl1_6 := HS1_6.out.lt
          have hf1_6 := fun j => HS1_6.out.frozen j
          have f2_6 := str7 HS2_6.out
          have hl2_6 := HS2_6.out.lt
          have hf2_6 := fun j => HS2_6.out.frozen j
          have f3_6 := str6 HS3_6.out
          have hl3_6 := HS3_6.out.lt
          have hf3_6 := fun j => HS3_6.out.frozen j
          have f4_6 := str6 HS4_6.out
          have hl4_6 := HS4_6.out.lt
          have f5_6 := str7 HS5_6.out
          have hl5_6 := HS5_6.out.lt
          have hf5_6 := fun j => HS5_6.out.frozen j
          go_wp2_with fail
          refine bodyPost_ret (v := .tuple #[.agg #[.int .i64 pst, .string pk, .int .i64 pkd, .slice Ac nc cc, .int .i64 plo, .int .i64 phi, .int .i64 pva], .agg #[.int .i64 r.2.err, .int .i64 r.2.cell.kind, .slice A2 n2 c2, .int .i64 r.2.cell.lo, .int .i64 r.2.cell.hi, .int .i64 r.2.cell.val]]) (by simp [results, Tryz.results19, go_sem, *]) rfl ?_
          rw [slot_read HRR.out rfl]
          exact ⟨Ac, nc, cc, A2, n2, c2, rfl, HYc_6.out, HYa_6.out, HB_6.out⟩
      · go_wp2_with fail
        generalize hW5 : ((W4).setCell ⟨W1.heap.size + 1, 3, none⟩ (.slice Ac nc cc)).setCell ⟨W1.heap.size + 1, 0, none⟩ (.int .i64 2) = W5
        have HS5_5 : Hid (Str W5 (W1.heap.size + 1) #[.int .i64 2, .string pk, .int .i64 pkd, .slice Ac nc cc, .int .i64 plo, .int .i64 phi, .int .i64 pva]) := Lib.hid (by rw [← hW5]; have := ((HS5_4.out).set 3 (.slice Ac nc cc)).set 0 (.int .i64 2); simpa using this)
        have hgr5 : W4.grownBy W5 (some (W1.heap.size + 1)) := by rw [← hW5]; exact grown_set (grown_set (grown_refl W4 (W1.heap.size + 1)) 3 (_)) 0 (_)
        have HS0_5 := Lib.hid (HS0_4.out.grown hgr5 (by omega))
        have HS1_5 := Lib.hid (HS1_4.out.grown hgr5 (by omega))
        have HS2_5 := Lib.hid (HS2_4.out.grown hgr5 (by omega))
        have HS3_5 := Lib.hid (HS3_4.out.grown hgr5 (by omega))
        have HS4_5 := Lib.hid (HS4_4.out.grown hgr5 (by omega))
        have HB_5 := Lib.hid (below_grown HB_4.out hgr5 (by omega))
        have hw_5 := HB_5.out.size
        have hws_5 := hgr5.size
        have HYa_5 := Lib.hid ((Bytes.grown HYa_4.out (Nat.le_refl _) HS5_4.out rfl hgr5).more hws_5)
        have HYc_5 := Lib.hid ((Bytes.grown HYc_4.out (Nat.le_refl _) HS5_4.out rfl hgr5).more hws_5)
        clear HYa_4 HYc_4
        have HM_5 : Hid (Below W1.heap.size W1 W5) := Lib.hid (below_grown HM_4.out hgr5 (by omega))
        clear hW5
        clear f0_4 HS0_4 hf0_4 f1_4 HS1_4 hf1_4 f2_4 HS2_4 hf2_4 f3_4 HS3_4 hf3_4 f4_4 HS4_4 f5_4 HS5_4 hf5_4
        clear hgr5
        have f0_5 := str6 HS0_5.out
        have hl0_5 := HS0_5.out.lt
        have hf0_5 := fun j => HS0_5.out.frozen j
        have f1_5 := str7 HS1_5.out
        have hl1_5 := HS1_5.out.lt
        have hf1_5 := fun j => HS1_5.out.frozen j
        have f2_5 := str7 HS2_5.out
        have hl2_5 := HS2_5.out.lt
        have hf2_5 := fun j => HS2_5.out.frozen j
        have f3_5 := str6 HS3_5.out
        have hl3_5 := HS3_5.out.lt
        have hf3_5 := fun j => HS3_5.out.frozen j
        have f4_5 := str6 HS4_5.out
        have hl4_5 := HS4_5.out.lt
        have f5_5 := str7 HS5_5.out
        have hl5_5 := HS5_5.out.lt
        have hf5_5 := fun j => HS5_5.out.frozen j
        have HNU : Hid (∀ b ∈ ([w.heap.size + 1 + 1, w.heap.size + 1 + 1 + 1] : List Nat), ∃ cs, Str W5 b cs ∧ notU8 cs = true) := Lib.hid (by intro b hb; simp only [List.mem_cons, List.not_mem_nil, or_false] at hb; rcases hb with rfl | rfl <;> first | exact ⟨_, HS2_5.out, rfl⟩ | exact ⟨_, HS3_5.out, rfl⟩)
        have hOK : Reg.okS W5.heap.size (Reg.BxS.mk [] (fun t => if t = 4 then #[.int .i64 0, .string ⟨#[]⟩, .int .i64 0, .slice none 0 0, .int .i64 0, .int .i64 0, .int .i64 0] else if t = 5 then #[.int .i64 0, .int .i64 0, .slice none 0 0, .int .i64 0, .int .i64 0, .int .i64 0] else #[]) (fun t => if t = 4 then (Reg.rowM (Reg.eqM (.agg #[.int .i64 2, .string pk, .int .i64 pkd, .slice Ac nc cc, .int .i64 plo, .int .i64 phi, .int .i64 pva]))) else if t = 5 then (Reg.rowM (Reg.eqM (.agg #[.int .i64 r.2.err, .int .i64 r.2.cell.kind, .slice A2 n2 c2, .int .i64 r.2.cell.lo, .int .i64 r.2.cell.hi, .int .i64 r.2.cell.val]))) else (Reg.rowM (Reg.eqM undef))) [] (fun t => (Reg.eqM undef)) [(4, w.heap.size + 1 + 1, 2), (5, w.heap.size + 1 + 1 + 1, 3)]) := Reg.okS_of rfl (by first | exact List.pairwise_singleton _ _ | simp) (by intro k hk; have hk : k ∈ ([(4, w.heap.size + 1 + 1, 2), (5, w.heap.size + 1 + 1 + 1, 3)] : List (Tmp × Nat × Nat)) := hk; simp only [List.mem_cons, List.not_mem_nil, or_false] at hk; rcases hk with rfl | rfl <;> (dsimp only; omega))
        refine Reg.wp_region_box (R := (Reg.extB W5.heap.size (Reg.BxS.b0 (Reg.BxS.mk [] (fun t => if t = 4 then #[.int .i64 0, .string ⟨#[]⟩, .int .i64 0, .slice none 0 0, .int .i64 0, .int .i64 0, .int .i64 0] else if t = 5 then #[.int .i64 0, .int .i64 0, .slice none 0 0, .int .i64 0, .int .i64 0, .int .i64 0] else #[]) (fun t => if t = 4 then (Reg.rowM (Reg.eqM (.agg #[.int .i64 2, .string pk, .int .i64 pkd, .slice Ac nc cc, .int .i64 plo, .int .i64 phi, .int .i64 pva]))) else if t = 5 then (Reg.rowM (Reg.eqM (.agg #[.int .i64 r.2.err, .int .i64 r.2.cell.kind, .slice A2 n2 c2, .int .i64 r.2.cell.lo, .int .i64 r.2.cell.hi, .int .i64 r.2.cell.val]))) else (Reg.rowM (Reg.eqM undef))) [] (fun t => (Reg.eqM undef)) [(4, w.heap.size + 1 + 1, 2), (5, w.heap.size + 1 + 1 + 1, 3)])))) (W := W5) (Reg.BJ W5.heap.size (Reg.BxS.mk [] (fun t => if t = 4 then #[.int .i64 0, .string ⟨#[]⟩, .int .i64 0, .slice none 0 0, .int .i64 0, .int .i64 0, .int .i64 0] else if t = 5 then #[.int .i64 0, .int .i64 0, .slice none 0 0, .int .i64 0, .int .i64 0, .int .i64 0] else #[]) (fun t => if t = 4 then (Reg.rowM (Reg.eqM (.agg #[.int .i64 2, .string pk, .int .i64 pkd, .slice Ac nc cc, .int .i64 plo, .int .i64 phi, .int .i64 pva]))) else if t = 5 then (Reg.rowM (Reg.eqM (.agg #[.int .i64 r.2.err, .int .i64 r.2.cell.kind, .slice A2 n2 c2, .int .i64 r.2.cell.lo, .int .i64 r.2.cell.hi, .int .i64 r.2.cell.val]))) else (Reg.rowM (Reg.eqM undef))) [] (fun t => (Reg.eqM undef)) [(4, w.heap.size + 1 + 1, 2), (5, w.heap.size + 1 + 1 + 1, 3)])) [Reg.eqv (.agg #[.int .i64 2, .string pk, .int .i64 pkd, .slice Ac nc cc, .int .i64 plo, .int .i64 phi, .int .i64 pva]), Reg.eqv (.agg #[.int .i64 r.2.err, .int .i64 r.2.cell.kind, .slice A2 n2 c2, .int .i64 r.2.cell.lo, .int .i64 r.2.cell.hi, .int .i64 r.2.cell.val]), Reg.any, Reg.any] 68 [[(8, none)], [(7, none)], [(4, none), (66, some 0)], [(5, none), (67, some 1)]] rfl (by kernel_rfl) (by kernel_rfl) (fun _ h => Reg.bj_zero (by intro k hk; have hk : k ∈ ([(4, w.heap.size + 1 + 1, 2), (5, w.heap.size + 1 + 1 + 1, 3)] : List (Tmp × Nat × Nat)) := hk; simp only [List.mem_cons, List.not_mem_nil, or_false] at hk; rcases hk with rfl | rfl <;> first | exact ⟨HS2_5.out, rfl⟩ | exact ⟨HS3_5.out, rfl⟩) h) (by kernel_rfl) ?_ [some 66, some 67, none, none] (by kernel_rfl) ?_
        · refine ⟨?_, ?_, ?_, ?_, trivial⟩
          · refine Reg.oblB_pure rfl rfl rfl ?_
            intro ax wx hx hs hmm
            replace hx : Reg.KeepB W5.heap.size [w.heap.size + 1 + 1, w.heap.size + 1 + 1 + 1] W5 wx := hx
            have hxB : Below w.heap.size W5 wx := hx.below (by omega) (by intro b hb; have hb : b ∈ ([w.heap.size + 1 + 1, w.heap.size + 1 + 1 + 1] : List Nat) := hb; simp only [List.mem_cons, List.not_mem_nil, or_false] at hb; rcases hb with rfl | rfl <;> omega)
            obtain ⟨e8, -⟩ := hs
            have g8 := Reg.ev (v := .pointer (some ⟨W1.heap.size + 1, 0, none⟩)) e8
            obtain ⟨l0_0, l0_1, l0_2, l0_3, l0_4, l0_5⟩ := str6 (hx.str HS0_5.out (by omega) (by simp only [List.mem_cons, List.not_mem_nil, or_false, not_or]; omega))
            obtain ⟨l1_0, l1_1, l1_2, l1_3, l1_4, l1_5, l1_6⟩ := str7 (hx.str HS1_5.out (by omega) (by simp only [List.mem_cons, List.not_mem_nil, or_false, not_or]; omega))
            obtain ⟨l4_0, l4_1, l4_2, l4_3, l4_4, l4_5⟩ := str6 (hx.str HS4_5.out (by omega) (by simp only [List.mem_cons, List.not_mem_nil, or_false, not_or]; omega))
            obtain ⟨l5_0, l5_1, l5_2, l5_3, l5_4, l5_5, l5_6⟩ := str7 (hx.str HS5_5.out (by omega) (by simp only [List.mem_cons, List.not_mem_nil, or_false, not_or]; omega))
            exact (Reg.wp_eqvB (Option.some_ne_none _) (by go_simp) rfl)
          · refine Reg.oblB_pure rfl rfl rfl ?_
            intro ax wx hx hs hmm
            replace hx : Reg.KeepB W5.heap.size [w.heap.size + 1 + 1, w.heap.size + 1 + 1 + 1] W5 wx := hx
            have hxB : Below w.heap.size W5 wx := hx.below (by omega) (by intro b hb; have hb : b ∈ ([w.heap.size + 1 + 1, w.heap.size + 1 + 1 + 1] : List Nat) := hb; simp only [List.mem_cons, List.not_mem_nil, or_false] at hb; rcases hb with rfl | rfl <;> omega)
            obtain ⟨e7, -⟩ := hs
            have g7 := Reg.ev (v := .pointer (some ⟨W1.heap.size, 0, none⟩)) e7
            obtain ⟨l0_0, l0_1, l0_2, l0_3, l0_4, l0_5⟩ := str6 (hx.str HS0_5.out (by omega) (by simp only [List.mem_cons, List.not_mem_nil, or_false, not_or]; omega))
            obtain ⟨l1_0, l1_1, l1_2, l1_3, l1_4, l1_5, l1_6⟩ := str7 (hx.str HS1_5.out (by omega) (by simp only [List.mem_cons, List.not_mem_nil, or_false, not_or]; omega))
            obtain ⟨l4_0, l4_1, l4_2, l4_3, l4_4, l4_5⟩ := str6 (hx.str HS4_5.out (by omega) (by simp only [List.mem_cons, List.not_mem_nil, or_false, not_or]; omega))
            obtain ⟨l5_0, l5_1, l5_2, l5_3, l5_4, l5_5, l5_6⟩ := str7 (hx.str HS5_5.out (by omega) (by simp only [List.mem_cons, List.not_mem_nil, or_false, not_or]; omega))
            exact (Reg.wp_eqvB (Option.some_ne_none _) (by go_simp) rfl)
          · refine Reg.oblB_store0 rfl rfl hOK (t := 4) (g := w.heap.size + 1 + 1) (List.mem_of_getElem? (i := 0) rfl) rfl (by show 2 < 4; decide) (fun _ _ => trivial) ?_
            intro ax wx rb hx hrb hs hmm hS
            replace hx : Reg.KeepB W5.heap.size [w.heap.size + 1 + 1, w.heap.size + 1 + 1 + 1] W5 wx := hx
            have hxB : Below w.heap.size W5 wx := hx.below (by omega) (by intro b hb; have hb : b ∈ ([w.heap.size + 1 + 1, w.heap.size + 1 + 1 + 1] : List Nat) := hb; simp only [List.mem_cons, List.not_mem_nil, or_false] at hb; rcases hb with rfl | rfl <;> omega)
            obtain ⟨e4, e66, -⟩ := hs
            have g4 := Reg.ev (v := .pointer (some ⟨w.heap.size + 1 + 1, 0, none⟩)) e4
            have g66 := Reg.ev (v := .agg #[.int .i64 2, .string pk, .int .i64 pkd, .slice Ac nc cc, .int .i64 plo, .int .i64 phi, .int .i64 pva]) e66
            exact Reg.st_box rfl (Reg.run_st_box rfl e4 e66 hS rfl (by kernel_rfl) rfl) rfl rfl
          · refine Reg.oblB_store0 rfl rfl hOK (t := 5) (g := w.heap.size + 1 + 1 + 1) (List.mem_of_getElem? (i := 1) rfl) rfl (by show 3 < 4; decide) (fun _ _ => trivial) ?_
            intro ax wx rb hx hrb hs hmm hS
            replace hx : Reg.KeepB W5.heap.size [w.heap.size + 1 + 1, w.heap.size + 1 + 1 + 1] W5 wx := hx
            have hxB : Below w.heap.size W5 wx := hx.below (by omega) (by intro b hb; have hb : b ∈ ([w.heap.size + 1 + 1, w.heap.size + 1 + 1 + 1] : List Nat) := hb; simp only [List.mem_cons, List.not_mem_nil, or_false] at hb; rcases hb with rfl | rfl <;> omega)
            obtain ⟨e5, e67, -⟩ := hs
            have g5 := Reg.ev (v := .pointer (some ⟨w.heap.size + 1 + 1 + 1, 0, none⟩)) e5
            have g67 := Reg.ev (v := .agg #[.int .i64 r.2.err, .int .i64 r.2.cell.kind, .slice A2 n2 c2, .int .i64 r.2.cell.lo, .int .i64 r.2.cell.hi, .int .i64 r.2.cell.val]) e67
            exact Reg.st_box rfl (Reg.run_st_box rfl e5 e67 hS rfl (by kernel_rfl) rfl) rfl rfl
        · intro W6 listed hwf hall
          simp only [Reg.Fin]
          rintro _ rfl _ rfl vn2 hn2 vn3 hn3
          intro hJ
          obtain ⟨hJM, hJB, hJN, hJ0⟩ := Reg.bj_end (n := 4) hall (by show ∀ b ∈ ([] : List (Nat × Tmp × Nat)), b.1 < 4 ∧ b.2.2 < 4; decide) (by show ∀ m ∈ ([] : List (Nat × Tmp)), m.1 < 4; decide) (by show ∀ k ∈ ([2, 3] : List Nat), k < 4; decide) hJ
          obtain ⟨cs4, hS4, hX4⟩ := hJ0 (4, w.heap.size + 1 + 1, 2) (List.mem_of_getElem? (i := 0) rfl)
          have hX4 : (Reg.rowM (Reg.eqM (.agg #[.int .i64 2, .string pk, .int .i64 pkd, .slice Ac nc cc, .int .i64 plo, .int .i64 phi, .int .i64 pva]))).pred cs4 W6 W6.heap.size := hX4
          obtain ⟨cs5, hS5, hX5⟩ := hJ0 (5, w.heap.size + 1 + 1 + 1, 3) (List.mem_of_getElem? (i := 1) rfl)
          have hX5 : (Reg.rowM (Reg.eqM (.agg #[.int .i64 r.2.err, .int .i64 r.2.cell.kind, .slice A2 n2 c2, .int .i64 r.2.cell.lo, .int .i64 r.2.cell.hi, .int .i64 r.2.cell.val]))).pred cs5 W6 W6.heap.size := hX5
          clear hJM hJB hJN hJ0 hJ hall 
          go_simp
          replace hwf : Reg.KeepB W5.heap.size [w.heap.size + 1 + 1, w.heap.size + 1 + 1 + 1] W5 W6 := hwf
          have hbw : Below w.heap.size W5 W6 := hwf.below (by omega) (by intro b hb; simp only [List.mem_cons, List.not_mem_nil, or_false] at hb; rcases hb with rfl | rfl <;> omega)
          have HS0_6 := Lib.hid (hwf.str HS0_5.out (by omega) (by simp only [List.mem_cons, List.not_mem_nil, or_false, not_or]; omega))
          have HS1_6 := Lib.hid (hwf.str HS1_5.out (by omega) (by simp only [List.mem_cons, List.not_mem_nil, or_false, not_or]; omega))
          have HS4_6 := Lib.hid (hwf.str HS4_5.out (by omega) (by simp only [List.mem_cons, List.not_mem_nil, or_false, not_or]; omega))
          have HS5_6 := Lib.hid (hwf.str HS5_5.out (by omega) (by simp only [List.mem_cons, List.not_mem_nil, or_false, not_or]; omega))
          have HB_6 := Lib.hid (HB_5.out.trans hbw)
          have hw_6 := HB_6.out.size
          have hws_6 := hbw.size
          have HYa_6 := Lib.hid ((HYa_5.out.keepB (Nat.le_refl _) HNU.out hwf).more hws_6)
          clear HYa_5
          have HYc_6 := Lib.hid ((HYc_5.out.keepB (Nat.le_refl _) HNU.out hwf).more hws_6)
          clear HYc_5
          have HS2_6 := Lib.hid hS4
          clear hS4
          have HS3_6 := Lib.hid hS5
          clear hS5
          clear f0_5 HS0_5 hf0_5 f1_5 HS1_5 hf1_5 f2_5 HS2_5 hf2_5 f3_5 HS3_5 hf3_5 f4_5 HS4_5 f5_5 HS5_5 hf5_5
          clear HNU
          clear hwf hbw hOK
          have e4 : cs4 = #[.int .i64 2, .string pk, .int .i64 pkd, .slice Ac nc cc, .int .i64 plo, .int .i64 phi, .int .i64 pva] := by injection hX4
          have e5 : cs5 = #[.int .i64 r.2.err, .int .i64 r.2.cell.kind, .slice A2 n2 c2, .int .i64 r.2.cell.lo, .int .i64 r.2.cell.hi, .int .i64 r.2.cell.val] := by injection hX5
          subst e4 e5
          clear hX4 hX5
          have f0_6 := str6 HS0_6.out
          have hl0_6 := HS0_6.out.lt
          have hf0_6 := fun j => HS0_6.out.frozen j
          have f1_6 := str7 HS1_6.out
          have hl1_6 := HS1_6.out.lt
          have hf1_6 := fun j => HS1_6.out.frozen j
          have f2_6 := str7 HS2_6.out
          have hl2_6 := HS2_6.out.lt
          have hf2_6 := fun j => HS2_6.out.frozen j
          have f3_6 := str6 HS3_6.out
          have hl3_6 := HS3_6.out.lt
          have hf3_6 := fun j => HS3_6.out.frozen j
          have f4_6 := str6 HS4_6.out
          have hl4_6 := HS4_6.out.lt
          have f5_6 := str7 HS5_6.out
          have hl5_6 := HS5_6.out.lt
          have hf5_6 := fun j => HS5_6.out.frozen j
          go_wp2_with fail
          refine bodyPost_ret (v := .tuple #[.agg #[.int .i64 2, .string pk, .int .i64 pkd, .slice Ac nc cc, .int .i64 plo, .int .i64 phi, .int .i64 pva], .agg #[.int .i64 r.2.err, .int .i64 r.2.cell.kind, .slice A2 n2 c2, .int .i64 r.2.cell.lo, .int .i64 r.2.cell.hi, .int .i64 r.2.cell.val]]) (by simp [results, Tryz.results19, go_sem, *]) rfl ?_
          rw [slot_drop HRR.out HE.out rfl]
          exact ⟨Ac, nc, cc, A2, n2, c2, rfl, HYc_6.out, HYa_6.out, HB_6.out⟩
      · have HA := Lib.hid (slot_set HRR.out HE.out hA)
        obtain ⟨cc_, hcc⟩ : ∃ c, (ModelP.find r.1 xk).getD CellP.none = c := ⟨_, rfl⟩
        have HCC := Lib.hid hcc
        have HCL := Lib.hid (find_len HFD.out hcc)
        rw [hcc] at HA
        clear hcc
        rcases hA with rfl | rfl | rfl | rfl
        all_goals
          go_wp2_with fail
          generalize hW5 : (W4).setCell ⟨W1.heap.size + 1, 3, none⟩ (.slice Ac nc cc) = W5
          have HS5_5 : Hid (Str W5 (W1.heap.size + 1) #[.int .i64 pst, .string pk, .int .i64 pkd, .slice Ac nc cc, .int .i64 plo, .int .i64 phi, .int .i64 pva]) := Lib.hid (by rw [← hW5]; have := (HS5_4.out).set 3 (.slice Ac nc cc); simpa using this)
          have hgr5 : W4.grownBy W5 (some (W1.heap.size + 1)) := by rw [← hW5]; exact grown_set (grown_refl W4 (W1.heap.size + 1)) 3 (_)
          have HS0_5 := Lib.hid (HS0_4.out.grown hgr5 (by omega))
          have HS1_5 := Lib.hid (HS1_4.out.grown hgr5 (by omega))
          have HS2_5 := Lib.hid (HS2_4.out.grown hgr5 (by omega))
          have HS3_5 := Lib.hid (HS3_4.out.grown hgr5 (by omega))
          have HS4_5 := Lib.hid (HS4_4.out.grown hgr5 (by omega))
          have HB_5 := Lib.hid (below_grown HB_4.out hgr5 (by omega))
          have hw_5 := HB_5.out.size
          have hws_5 := hgr5.size
          have HYa_5 := Lib.hid ((Bytes.grown HYa_4.out (Nat.le_refl _) HS5_4.out rfl hgr5).more hws_5)
          have HYc_5 := Lib.hid ((Bytes.grown HYc_4.out (Nat.le_refl _) HS5_4.out rfl hgr5).more hws_5)
          clear HYa_4 HYc_4
          have HM_5 : Hid (Below W1.heap.size W1 W5) := Lib.hid (below_grown HM_4.out hgr5 (by omega))
          clear hW5
          clear f0_4 HS0_4 hf0_4 f1_4 HS1_4 hf1_4 f2_4 HS2_4 hf2_4 f3_4 HS3_4 hf3_4 f4_4 HS4_4 f5_4 HS5_4 hf5_4
          clear hgr5
          have f0_5 := str6 HS0_5.out
          have hl0_5 := HS0_5.out.lt
          have hf0_5 := fun j => HS0_5.out.frozen j
          have f1_5 := str7 HS1_5.out
          have hl1_5 := HS1_5.out.lt
          have hf1_5 := fun j => HS1_5.out.frozen j
          have f2_5 := str7 HS2_5.out
          have hl2_5 := HS2_5.out.lt
          have hf2_5 := fun j => HS2_5.out.frozen j
          have f3_5 := str6 HS3_5.out
          have hl3_5 := HS3_5.out.lt
          have hf3_5 := fun j => HS3_5.out.frozen j
          have f4_5 := str6 HS4_5.out
          have hl4_5 := HS4_5.out.lt
          have f5_5 := str7 HS5_5.out
          have hl5_5 := HS5_5.out.lt
          have hf5_5 := fun j => HS5_5.out.frozen j
          refine (Find_any A1 n1 c1 W1.heap.size r.1 xk _ (HPA.out.below HM_5.out) HM_5.out.size (by omega) HFD.out).mono ?_
          rintro e W6 ⟨Af, nf, cf, rfl, hyf, hb6⟩
          have HS0_6 := Lib.hid (HS0_5.out.next hb6)
          have HS1_6 := Lib.hid (HS1_5.out.next hb6)
          have HS2_6 := Lib.hid (HS2_5.out.next hb6)
          have HS3_6 := Lib.hid (HS3_5.out.next hb6)
          have HS4_6 := Lib.hid (HS4_5.out.next hb6)
          have HS5_6 := Lib.hid (HS5_5.out.next hb6)
          have HB_6 := Lib.hid (bstep HB_5.out hb6)
          have hw_6 := HB_6.out.size
          have hws_6 := (hb6).size
          have HYa_6 := Lib.hid (HYa_5.out.next hb6)
          have HYc_6 := Lib.hid (HYc_5.out.next hb6)
          clear HYa_5 HYc_5
          clear f0_5 HS0_5 hf0_5 f1_5 HS1_5 hf1_5 f2_5 HS2_5 hf2_5 f3_5 HS3_5 hf3_5 f4_5 HS4_5 f5_5 HS5_5 hf5_5
          have f0_6 := str6 HS0_6.out
          have hl0_6 := HS0_6.out.lt
          have hf0_6 := fun j => HS0_6.out.frozen j
          have f1_6 := str7 HS1_6.out
          have hl1_6 := HS1_6.out.lt
          have hf1_6 := fun j => HS1_6.out.frozen j
          have f2_6 := str7 HS2_6.out
          have hl2_6 := HS2_6.out.lt
          have hf2_6 := fun j => HS2_6.out.frozen j
          have f3_6 := str6 HS3_6.out
          have hl3_6 := HS3_6.out.lt
          have hf3_6 := fun j => HS3_6.out.frozen j
          have f4_6 := str6 HS4_6.out
          have hl4_6 := HS4_6.out.lt
          have f5_6 := str7 HS5_6.out
          have hl5_6 := HS5_6.out.lt
          have hf5_6 := fun j => HS5_6.out.frozen j
          rw [HCC.out] at hyf
          rw [HCC.out]
          have HM_6 := Lib.hid (bstep HM_5.out hb6)
          clear HM_5
          have HYf_6 := Lib.hid (hyf)
          have hnf : nf ≤ 100000 := by have h1 := hyf.len; have h2 := HCL.out; omega
          clear hyf hb6
          go_wp2_with fail
          generalize hW7 : W6.alloc (.cells #[.int .i64 cc_.kind, .slice Af nf cf, .int .i64 cc_.lo, .int .i64 cc_.hi, .int .i64 cc_.val] 25) = W7
          have HS0_7 := sEq hW7 (HS0_6.out.alloc _)
          have HS1_7 := sEq hW7 (HS1_6.out.alloc _)
          have HS2_7 := sEq hW7 (HS2_6.out.alloc _)
          have HS3_7 := sEq hW7 (HS3_6.out.alloc _)
          have HS4_7 := sEq hW7 (HS4_6.out.alloc _)
          have HS5_7 := sEq hW7 (HS5_6.out.alloc _)
          have HS6_7 := sEq hW7 (Str.new _ _ _)
          have hba7 : Below W6.heap.size W6 W7 := by rw [← hW7]; exact balloc (bsame _) _
          have HB_7 := Lib.hid (bstep HB_6.out hba7)
          have hw_7 := HB_7.out.size
          have hws_7 := hba7.size
          have HYa_7 := Lib.hid (HYa_6.out.next hba7)
          have HYc_7 := Lib.hid (HYc_6.out.next hba7)
          have HYf_7 := Lib.hid (HYf_6.out.next hba7)
          clear HYa_6 HYc_6 HYf_6
          clear hW7
          clear f0_6 HS0_6 hf0_6 f1_6 HS1_6 hf1_6 f2_6 HS2_6 hf2_6 f3_6 HS3_6 hf3_6 f4_6 HS4_6 f5_6 HS5_6 hf5_6
          have f0_7 := str6 HS0_7.out
          have hl0_7 := HS0_7.out.lt
          have hf0_7 := fun j => HS0_7.out.frozen j
          have f1_7 := str7 HS1_7.out
          have hl1_7 := HS1_7.out.lt
          have hf1_7 := fun j => HS1_7.out.frozen j
          have f2_7 := str7 HS2_7.out
          have hl2_7 := HS2_7.out.lt
          have hf2_7 := fun j => HS2_7.out.frozen j
          have f3_7 := str6 HS3_7.out
          have hl3_7 := HS3_7.out.lt
          have hf3_7 := fun j => HS3_7.out.frozen j
          have f4_7 := str6 HS4_7.out
          have hl4_7 := HS4_7.out.lt
          have f5_7 := str7 HS5_7.out
          have hl5_7 := HS5_7.out.lt
          have hf5_7 := fun j => HS5_7.out.frozen j
          have f6_7 := str5 HS6_7.out
          have hl6_7 := HS6_7.out.lt
          have hf6_7 := fun j => HS6_7.out.frozen j
          have HM_7 := Lib.hid (bstep HM_6.out hba7)
          clear HM_6
          refine (UndoW.clone_any Af nf cf W7.heap.size cc_.data _ (HYf_7.out) (Nat.le_refl _) (by omega)).mono ?_
          rintro e W8 ⟨Ag, ng, cg, rfl, hyc, hb8⟩
          have HS0_8 := Lib.hid (HS0_7.out.next hb8)
          have HS1_8 := Lib.hid (HS1_7.out.next hb8)
          have HS2_8 := Lib.hid (HS2_7.out.next hb8)
          have HS3_8 := Lib.hid (HS3_7.out.next hb8)
          have HS4_8 := Lib.hid (HS4_7.out.next hb8)
          have HS5_8 := Lib.hid (HS5_7.out.next hb8)
          have HS6_8 := Lib.hid (HS6_7.out.next hb8)
          have HB_8 := Lib.hid (bstep HB_7.out hb8)
          have hw_8 := HB_8.out.size
          have hws_8 := (hb8).size
          have HYa_8 := Lib.hid (HYa_7.out.next hb8)
          have HYc_8 := Lib.hid (HYc_7.out.next hb8)
          have HYf_8 := Lib.hid (HYf_7.out.next hb8)
          clear HYa_7 HYc_7 HYf_7
          clear f0_7 HS0_7 hf0_7 f1_7 HS1_7 hf1_7 f2_7 HS2_7 hf2_7 f3_7 HS3_7 hf3_7 f4_7 HS4_7 f5_7 HS5_7 hf5_7 f6_7 HS6_7 hf6_7
          have f0_8 := str6 HS0_8.out
          have hl0_8 := HS0_8.out.lt
          have hf0_8 := fun j => HS0_8.out.frozen j
          have f1_8 := str7 HS1_8.out
          have hl1_8 := HS1_8.out.lt
          have hf1_8 := fun j => HS1_8.out.frozen j
          have f2_8 := str7 HS2_8.out
          have hl2_8 := HS2_8.out.lt
          have hf2_8 := fun j => HS2_8.out.frozen j
          have f3_8 := str6 HS3_8.out
          have hl3_8 := HS3_8.out.lt
          have hf3_8 := fun j => HS3_8.out.frozen j
          have f4_8 := str6 HS4_8.out
          have hl4_8 := HS4_8.out.lt
          have f5_8 := str7 HS5_8.out
          have hl5_8 := HS5_8.out.lt
          have hf5_8 := fun j => HS5_8.out.frozen j
          have f6_8 := str5 HS6_8.out
          have hl6_8 := HS6_8.out.lt
          have hf6_8 := fun j => HS6_8.out.frozen j
          have HM_8 := Lib.hid (bstep HM_7.out hb8)
          clear HM_7
          have HYg_8 := Lib.hid (hyc)
          clear hyc hb8
          go_wp2_with fail
          generalize hW9 : (W8).setCell ⟨W6.heap.size, 1, none⟩ (.slice Ag ng cg) = W9
          have HS6_9 : Hid (Str W9 (W6.heap.size) #[.int .i64 cc_.kind, .slice Ag ng cg, .int .i64 cc_.lo, .int .i64 cc_.hi, .int .i64 cc_.val]) := Lib.hid (by rw [← hW9]; have := (HS6_8.out).set 1 (.slice Ag ng cg); simpa using this)
          have hgr9 : W8.grownBy W9 (some (W6.heap.size)) := by rw [← hW9]; exact grown_set (grown_refl W8 (W6.heap.size)) 1 (_)
          have HS0_9 := Lib.hid (HS0_8.out.grown hgr9 (by omega))
          have HS1_9 := Lib.hid (HS1_8.out.grown hgr9 (by omega))
          have HS2_9 := Lib.hid (HS2_8.out.grown hgr9 (by omega))
          have HS3_9 := Lib.hid (HS3_8.out.grown hgr9 (by omega))
          have HS4_9 := Lib.hid (HS4_8.out.grown hgr9 (by omega))
          have HS5_9 := Lib.hid (HS5_8.out.grown hgr9 (by omega))
          have HB_9 := Lib.hid (below_grown HB_8.out hgr9 (by omega))
          have hw_9 := HB_9.out.size
          have hws_9 := hgr9.size
          have HYa_9 := Lib.hid ((Bytes.grown HYa_8.out (Nat.le_refl _) HS6_8.out rfl hgr9).more hws_9)
          have HYc_9 := Lib.hid ((Bytes.grown HYc_8.out (Nat.le_refl _) HS6_8.out rfl hgr9).more hws_9)
          have HYf_9 := Lib.hid ((Bytes.grown HYf_8.out (Nat.le_refl _) HS6_8.out rfl hgr9).more hws_9)
          have HYg_9 := Lib.hid ((Bytes.grown HYg_8.out (Nat.le_refl _) HS6_8.out rfl hgr9).more hws_9)
          clear HYa_8 HYc_8 HYf_8 HYg_8
          have HM_9 : Hid (Below W1.heap.size W1 W9) := Lib.hid (below_grown HM_8.out hgr9 (by omega))
          clear hW9
          clear f0_8 HS0_8 hf0_8 f1_8 HS1_8 hf1_8 f2_8 HS2_8 hf2_8 f3_8 HS3_8 hf3_8 f4_8 HS4_8 f5_8 HS5_8 hf5_8 f6_8 HS6_8 hf6_8
          clear hgr9
          have f0_9 := str6 HS0_9.out
          have hl0_9 := HS0_9.out.lt
          have hf0_9 := fun j => HS0_9.out.frozen j
          have f1_9 := str7 HS1_9.out
          have hl1_9 := HS1_9.out.lt
          have hf1_9 := fun j => HS1_9.out.frozen j
          have f2_9 := str7 HS2_9.out
          have hl2_9 := HS2_9.out.lt
          have hf2_9 := fun j => HS2_9.out.frozen j
          have f3_9 := str6 HS3_9.out
          have hl3_9 := HS3_9.out.lt
          have hf3_9 := fun j => HS3_9.out.frozen j
          have f4_9 := str6 HS4_9.out
          have hl4_9 := HS4_9.out.lt
          have f5_9 := str7 HS5_9.out
          have hl5_9 := HS5_9.out.lt
          have hf5_9 := fun j => HS5_9.out.frozen j
          have f6_9 := str5 HS6_9.out
          have hl6_9 := HS6_9.out.lt
          have hf6_9 := fun j => HS6_9.out.frozen j
          generalize hW10 : (((((((W9).setCell ⟨W1.heap.size + 1, 0, none⟩ (.int .i64 1)).setCell ⟨W1.heap.size + 1, 1, none⟩ (.string xk)).setCell ⟨W1.heap.size + 1, 2, none⟩ (.int .i64 cc_.kind)).setCell ⟨W1.heap.size + 1, 3, none⟩ (.slice Ag ng cg)).setCell ⟨W1.heap.size + 1, 4, none⟩ (.int .i64 cc_.lo)).setCell ⟨W1.heap.size + 1, 5, none⟩ (.int .i64 cc_.hi)).setCell ⟨W1.heap.size + 1, 6, none⟩ (.int .i64 cc_.val) = W10
          have HS5_10 : Hid (Str W10 (W1.heap.size + 1) #[.int .i64 1, .string xk, .int .i64 cc_.kind, .slice Ag ng cg, .int .i64 cc_.lo, .int .i64 cc_.hi, .int .i64 cc_.val]) := Lib.hid (by rw [← hW10]; have := (((((((HS5_9.out).set 0 (.int .i64 1)).set 1 (.string xk)).set 2 (.int .i64 cc_.kind)).set 3 (.slice Ag ng cg)).set 4 (.int .i64 cc_.lo)).set 5 (.int .i64 cc_.hi)).set 6 (.int .i64 cc_.val); simpa using this)
          have hgr10 : W9.grownBy W10 (some (W1.heap.size + 1)) := by rw [← hW10]; exact grown_set (grown_set (grown_set (grown_set (grown_set (grown_set (grown_set (grown_refl W9 (W1.heap.size + 1)) 0 (_)) 1 (_)) 2 (_)) 3 (_)) 4 (_)) 5 (_)) 6 (_)
          have HS0_10 := Lib.hid (HS0_9.out.grown hgr10 (by omega))
          have HS1_10 := Lib.hid (HS1_9.out.grown hgr10 (by omega))
          have HS2_10 := Lib.hid (HS2_9.out.grown hgr10 (by omega))
          have HS3_10 := Lib.hid (HS3_9.out.grown hgr10 (by omega))
          have HS4_10 := Lib.hid (HS4_9.out.grown hgr10 (by omega))
          have HS6_10 := Lib.hid (HS6_9.out.grown hgr10 (by omega))
          have HB_10 := Lib.hid (below_grown HB_9.out hgr10 (by omega))
          have hw_10 := HB_10.out.size
          have hws_10 := hgr10.size
          have HYa_10 := Lib.hid ((Bytes.grown HYa_9.out (Nat.le_refl _) HS5_9.out rfl hgr10).more hws_10)
          have HYc_10 := Lib.hid ((Bytes.grown HYc_9.out (Nat.le_refl _) HS5_9.out rfl hgr10).more hws_10)
          have HYf_10 := Lib.hid ((Bytes.grown HYf_9.out (Nat.le_refl _) HS5_9.out rfl hgr10).more hws_10)
          have HYg_10 := Lib.hid ((Bytes.grown HYg_9.out (Nat.le_refl _) HS5_9.out rfl hgr10).more hws_10)
          clear HYa_9 HYc_9 HYf_9 HYg_9
          have HM_10 : Hid (Below W1.heap.size W1 W10) := Lib.hid (below_grown HM_9.out hgr10 (by omega))
          clear hW10
          clear f0_9 HS0_9 hf0_9 f1_9 HS1_9 hf1_9 f2_9 HS2_9 hf2_9 f3_9 HS3_9 hf3_9 f4_9 HS4_9 f5_9 HS5_9 hf5_9 f6_9 HS6_9 hf6_9
          clear hgr10
          have f0_10 := str6 HS0_10.out
          have hl0_10 := HS0_10.out.lt
          have hf0_10 := fun j => HS0_10.out.frozen j
          have f1_10 := str7 HS1_10.out
          have hl1_10 := HS1_10.out.lt
          have hf1_10 := fun j => HS1_10.out.frozen j
          have f2_10 := str7 HS2_10.out
          have hl2_10 := HS2_10.out.lt
          have hf2_10 := fun j => HS2_10.out.frozen j
          have f3_10 := str6 HS3_10.out
          have hl3_10 := HS3_10.out.lt
          have hf3_10 := fun j => HS3_10.out.frozen j
          have f4_10 := str6 HS4_10.out
          have hl4_10 := HS4_10.out.lt
          have f5_10 := str7 HS5_10.out
          have hl5_10 := HS5_10.out.lt
          have hf5_10 := fun j => HS5_10.out.frozen j
          have f6_10 := str5 HS6_10.out
          have hl6_10 := HS6_10.out.lt
          have hf6_10 := fun j => HS6_10.out.frozen j
          have HNU : Hid (∀ b ∈ ([w.heap.size + 1 + 1, w.heap.size + 1 + 1 + 1] : List Nat), ∃ cs, Str W10 b cs ∧ notU8 cs = true) := Lib.hid (by intro b hb; simp only [List.mem_cons, List.not_mem_nil, or_false] at hb; rcases hb with rfl | rfl <;> first | exact ⟨_, HS2_10.out, rfl⟩ | exact ⟨_, HS3_10.out, rfl⟩)
          have hOK : Reg.okS W10.heap.size (Reg.BxS.mk [] (fun t => if t = 4 then #[.int .i64 0, .string ⟨#[]⟩, .int .i64 0, .slice none 0 0, .int .i64 0, .int .i64 0, .int .i64 0] else if t = 5 then #[.int .i64 0, .int .i64 0, .slice none 0 0, .int .i64 0, .int .i64 0, .int .i64 0] else #[]) (fun t => if t = 4 then (Reg.rowM (Reg.eqM (.agg #[.int .i64 1, .string xk, .int .i64 cc_.kind, .slice Ag ng cg, .int .i64 cc_.lo, .int .i64 cc_.hi, .int .i64 cc_.val]))) else if t = 5 then (Reg.rowM (Reg.eqM (.agg #[.int .i64 r.2.err, .int .i64 r.2.cell.kind, .slice A2 n2 c2, .int .i64 r.2.cell.lo, .int .i64 r.2.cell.hi, .int .i64 r.2.cell.val]))) else (Reg.rowM (Reg.eqM undef))) [] (fun t => (Reg.eqM undef)) [(4, w.heap.size + 1 + 1, 2), (5, w.heap.size + 1 + 1 + 1, 3)]) := Reg.okS_of rfl (by first | exact List.pairwise_singleton _ _ | simp) (by intro k hk; have hk : k ∈ ([(4, w.heap.size + 1 + 1, 2), (5, w.heap.size + 1 + 1 + 1, 3)] : List (Tmp × Nat × Nat)) := hk; simp only [List.mem_cons, List.not_mem_nil, or_false] at hk; rcases hk with rfl | rfl <;> (dsimp only; omega))
          refine Reg.wp_region_box (R := (Reg.extB W10.heap.size (Reg.BxS.b0 (Reg.BxS.mk [] (fun t => if t = 4 then #[.int .i64 0, .string ⟨#[]⟩, .int .i64 0, .slice none 0 0, .int .i64 0, .int .i64 0, .int .i64 0] else if t = 5 then #[.int .i64 0, .int .i64 0, .slice none 0 0, .int .i64 0, .int .i64 0, .int .i64 0] else #[]) (fun t => if t = 4 then (Reg.rowM (Reg.eqM (.agg #[.int .i64 1, .string xk, .int .i64 cc_.kind, .slice Ag ng cg, .int .i64 cc_.lo, .int .i64 cc_.hi, .int .i64 cc_.val]))) else if t = 5 then (Reg.rowM (Reg.eqM (.agg #[.int .i64 r.2.err, .int .i64 r.2.cell.kind, .slice A2 n2 c2, .int .i64 r.2.cell.lo, .int .i64 r.2.cell.hi, .int .i64 r.2.cell.val]))) else (Reg.rowM (Reg.eqM undef))) [] (fun t => (Reg.eqM undef)) [(4, w.heap.size + 1 + 1, 2), (5, w.heap.size + 1 + 1 + 1, 3)])))) (W := W10) (Reg.BJ W10.heap.size (Reg.BxS.mk [] (fun t => if t = 4 then #[.int .i64 0, .string ⟨#[]⟩, .int .i64 0, .slice none 0 0, .int .i64 0, .int .i64 0, .int .i64 0] else if t = 5 then #[.int .i64 0, .int .i64 0, .slice none 0 0, .int .i64 0, .int .i64 0, .int .i64 0] else #[]) (fun t => if t = 4 then (Reg.rowM (Reg.eqM (.agg #[.int .i64 1, .string xk, .int .i64 cc_.kind, .slice Ag ng cg, .int .i64 cc_.lo, .int .i64 cc_.hi, .int .i64 cc_.val]))) else if t = 5 then (Reg.rowM (Reg.eqM (.agg #[.int .i64 r.2.err, .int .i64 r.2.cell.kind, .slice A2 n2 c2, .int .i64 r.2.cell.lo, .int .i64 r.2.cell.hi, .int .i64 r.2.cell.val]))) else (Reg.rowM (Reg.eqM undef))) [] (fun t => (Reg.eqM undef)) [(4, w.heap.size + 1 + 1, 2), (5, w.heap.size + 1 + 1 + 1, 3)])) [Reg.eqv (.agg #[.int .i64 1, .string xk, .int .i64 cc_.kind, .slice Ag ng cg, .int .i64 cc_.lo, .int .i64 cc_.hi, .int .i64 cc_.val]), Reg.eqv (.agg #[.int .i64 r.2.err, .int .i64 r.2.cell.kind, .slice A2 n2 c2, .int .i64 r.2.cell.lo, .int .i64 r.2.cell.hi, .int .i64 r.2.cell.val]), Reg.any, Reg.any] 68 [[(8, none)], [(7, none)], [(4, none), (66, some 0)], [(5, none), (67, some 1)]] rfl (by kernel_rfl) (by kernel_rfl) (fun _ h => Reg.bj_zero (by intro k hk; have hk : k ∈ ([(4, w.heap.size + 1 + 1, 2), (5, w.heap.size + 1 + 1 + 1, 3)] : List (Tmp × Nat × Nat)) := hk; simp only [List.mem_cons, List.not_mem_nil, or_false] at hk; rcases hk with rfl | rfl <;> first | exact ⟨HS2_10.out, rfl⟩ | exact ⟨HS3_10.out, rfl⟩) h) (by kernel_rfl) ?_ [some 66, some 67, none, none] (by kernel_rfl) ?_
          · refine ⟨?_, ?_, ?_, ?_, trivial⟩
            · refine Reg.oblB_pure rfl rfl rfl ?_
              intro ax wx hx hs hmm
              replace hx : Reg.KeepB W10.heap.size [w.heap.size + 1 + 1, w.heap.size + 1 + 1 + 1] W10 wx := hx
              have hxB : Below w.heap.size W10 wx := hx.below (by omega) (by intro b hb; have hb : b ∈ ([w.heap.size + 1 + 1, w.heap.size + 1 + 1 + 1] : List Nat) := hb; simp only [List.mem_cons, List.not_mem_nil, or_false] at hb; rcases hb with rfl | rfl <;> omega)
              obtain ⟨e8, -⟩ := hs
              have g8 := Reg.ev (v := .pointer (some ⟨W1.heap.size + 1, 0, none⟩)) e8
              obtain ⟨l0_0, l0_1, l0_2, l0_3, l0_4, l0_5⟩ := str6 (hx.str HS0_10.out (by omega) (by simp only [List.mem_cons, List.not_mem_nil, or_false, not_or]; omega))
              obtain ⟨l1_0, l1_1, l1_2, l1_3, l1_4, l1_5, l1_6⟩ := str7 (hx.str HS1_10.out (by omega) (by simp only [List.mem_cons, List.not_mem_nil, or_false, not_or]; omega))
              obtain ⟨l4_0, l4_1, l4_2, l4_3, l4_4, l4_5⟩ := str6 (hx.str HS4_10.out (by omega) (by simp only [List.mem_cons, List.not_mem_nil, or_false, not_or]; omega))
              obtain ⟨l5_0, l5_1, l5_2, l5_3, l5_4, l5_5, l5_6⟩ := str7 (hx.str HS5_10.out (by omega) (by simp only [List.mem_cons, List.not_mem_nil, or_false, not_or]; omega))
              obtain ⟨l6_0, l6_1, l6_2, l6_3, l6_4⟩ := str5 (hx.str HS6_10.out (by omega) (by simp only [List.mem_cons, List.not_mem_nil, or_false, not_or]; omega))
              exact (Reg.wp_eqvB (Option.some_ne_none _) (by go_simp) rfl)
            · refine Reg.oblB_pure rfl rfl rfl ?_
              intro ax wx hx hs hmm
              replace hx : Reg.KeepB W10.heap.size [w.heap.size + 1 + 1, w.heap.size + 1 + 1 + 1] W10 wx := hx
              have hxB : Below w.heap.size W10 wx := hx.below (by omega) (by intro b hb; have hb : b ∈ ([w.heap.size + 1 + 1, w.heap.size + 1 + 1 + 1] : List Nat) := hb; simp only [List.mem_cons, List.not_mem_nil, or_false] at hb; rcases hb with rfl | rfl <;> omega)
              obtain ⟨e7, -⟩ := hs
              have g7 := Reg.ev (v := .pointer (some ⟨W1.heap.size, 0, none⟩)) e7
              obtain ⟨l0_0, l0_1, l0_2, l0_3, l0_4, l0_5⟩ := str6 (hx.str HS0_10.out (by omega) (by simp only [List.mem_cons, List.not_mem_nil, or_false, not_or]; omega))
              obtain ⟨l1_0, l1_1, l1_2, l1_3, l1_4, l1_5, l1_6⟩ := str7 (hx.str HS1_10.out (by omega) (by simp only [List.mem_cons, List.not_mem_nil, or_false, not_or]; omega))
              obtain ⟨l4_0, l4_1, l4_2, l4_3, l4_4, l4_5⟩ := str6 (hx.str HS4_10.out (by omega) (by simp only [List.mem_cons, List.not_mem_nil, or_false, not_or]; omega))
              obtain ⟨l5_0, l5_1, l5_2, l5_3, l5_4, l5_5, l5_6⟩ := str7 (hx.str HS5_10.out (by omega) (by simp only [List.mem_cons, List.not_mem_nil, or_false, not_or]; omega))
              obtain ⟨l6_0, l6_1, l6_2, l6_3, l6_4⟩ := str5 (hx.str HS6_10.out (by omega) (by simp only [List.mem_cons, List.not_mem_nil, or_false, not_or]; omega))
              exact (Reg.wp_eqvB (Option.some_ne_none _) (by go_simp) rfl)
            · refine Reg.oblB_store0 rfl rfl hOK (t := 4) (g := w.heap.size + 1 + 1) (List.mem_of_getElem? (i := 0) rfl) rfl (by show 2 < 4; decide) (fun _ _ => trivial) ?_
              intro ax wx rb hx hrb hs hmm hS
              replace hx : Reg.KeepB W10.heap.size [w.heap.size + 1 + 1, w.heap.size + 1 + 1 + 1] W10 wx := hx
              have hxB : Below w.heap.size W10 wx := hx.below (by omega) (by intro b hb; have hb : b ∈ ([w.heap.size + 1 + 1, w.heap.size + 1 + 1 + 1] : List Nat) := hb; simp only [List.mem_cons, List.not_mem_nil, or_false] at hb; rcases hb with rfl | rfl <;> omega)
              obtain ⟨e4, e66, -⟩ := hs
              have g4 := Reg.ev (v := .pointer (some ⟨w.heap.size + 1 + 1, 0, none⟩)) e4
              have g66 := Reg.ev (v := .agg #[.int .i64 1, .string xk, .int .i64 cc_.kind, .slice Ag ng cg, .int .i64 cc_.lo, .int .i64 cc_.hi, .int .i64 cc_.val]) e66
              exact Reg.st_box rfl (Reg.run_st_box rfl e4 e66 hS rfl (by kernel_rfl) rfl) rfl rfl
            · refine Reg.oblB_store0 rfl rfl hOK (t := 5) (g := w.heap.size + 1 + 1 + 1) (List.mem_of_getElem? (i := 1) rfl) rfl (by show 3 < 4; decide) (fun _ _ => trivial) ?_
              intro ax wx rb hx hrb hs hmm hS
              replace hx : Reg.KeepB W10.heap.size [w.heap.size + 1 + 1, w.heap.size + 1 + 1 + 1] W10 wx := hx
              have hxB : Below w.heap.size W10 wx := hx.below (by omega) (by intro b hb; have hb : b ∈ ([w.heap.size + 1 + 1, w.heap.size + 1 + 1 + 1] : List Nat) := hb; simp only [List.mem_cons, List.not_mem_nil, or_false] at hb; rcases hb with rfl | rfl <;> omega)
              obtain ⟨e5, e67, -⟩ := hs
              have g5 := Reg.ev (v := .pointer (some ⟨w.heap.size + 1 + 1 + 1, 0, none⟩)) e5
              have g67 := Reg.ev (v := .agg #[.int .i64 r.2.err, .int .i64 r.2.cell.kind, .slice A2 n2 c2, .int .i64 r.2.cell.lo, .int .i64 r.2.cell.hi, .int .i64 r.2.cell.val]) e67
              exact Reg.st_box rfl (Reg.run_st_box rfl e5 e67 hS rfl (by kernel_rfl) rfl) rfl rfl
          · intro W11 listed hwf hall
            simp only [Reg.Fin]
            rintro _ rfl _ rfl vn2 hn2 vn3 hn3
            intro hJ
            obtain ⟨hJM, hJB, hJN, hJ0⟩ := Reg.bj_end (n := 4) hall (by show ∀ b ∈ ([] : List (Nat × Tmp × Nat)), b.1 < 4 ∧ b.2.2 < 4; decide) (by show ∀ m ∈ ([] : List (Nat × Tmp)), m.1 < 4; decide) (by show ∀ k ∈ ([2, 3] : List Nat), k < 4; decide) hJ
            obtain ⟨cs4, hS4, hX4⟩ := hJ0 (4, w.heap.size + 1 + 1, 2) (List.mem_of_getElem? (i := 0) rfl)
            have hX4 : (Reg.rowM (Reg.eqM (.agg #[.int .i64 1, .string xk, .int .i64 cc_.kind, .slice Ag ng cg, .int .i64 cc_.lo, .int .i64 cc_.hi, .int .i64 cc_.val]))).pred cs4 W11 W11.heap.size := hX4
            obtain ⟨cs5, hS5, hX5⟩ := hJ0 (5, w.heap.size + 1 + 1 + 1, 3) (List.mem_of_getElem? (i := 1) rfl)
            have hX5 : (Reg.rowM (Reg.eqM (.agg #[.int .i64 r.2.err, .int .i64 r.2.cell.kind, .slice A2 n2 c2, .int .i64 r.2.cell.lo, .int .i64 r.2.cell.hi, .int .i64 r.2.cell.val]))).pred cs5 W11 W11.heap.size := hX5
            clear hJM hJB hJN hJ0 hJ hall 
            go_simp
            replace hwf : Reg.KeepB W10.heap.size [w.heap.size + 1 + 1, w.heap.size + 1 + 1 + 1] W10 W11 := hwf
            have hbw : Below w.heap.size W10 W11 := hwf.below (by omega) (by intro b hb; simp only [List.mem_cons, List.not_mem_nil, or_false] at hb; rcases hb with rfl | rfl <;> omega)
            have HS0_11 := Lib.hid (hwf.str HS0_10.out (by omega) (by simp only [List.mem_cons, List.not_mem_nil, or_false, not_or]; omega))
            have HS1_11 := Lib.hid (hwf.str HS1_10.out (by omega) (by simp only [List.mem_cons, List.not_mem_nil, or_false, not_or]; omega))
            have HS4_11 := Lib.hid (hwf.str HS4_10.out (by omega) (by simp only [List.mem_cons, List.not_mem_nil, or_false, not_or]; omega))
            have HS5_11 := Lib.hid (hwf.str HS5_10.out (by omega) (by simp only [List.mem_cons, List.not_mem_nil, or_false, not_or]; omega))
            have HS6_11 := Lib.hid (hwf.str HS6_10.out (by omega) (by simp only [List.mem_cons, List.not_mem_nil, or_false, not_or]; omega))
            have HB_11 := Lib.hid (HB_10.out.trans hbw)
            have hw_11 := HB_11.out.size
            have hws_11 := hbw.size
            have HYa_11 := Lib.hid ((HYa_10.out.keepB (Nat.le_refl _) HNU.out hwf).more hws_11)
            clear HYa_10
            have HYc_11 := Lib.hid ((HYc_10.out.keepB (Nat.le_refl _) HNU.out hwf).more hws_11)
            clear HYc_10
            have HYf_11 := Lib.hid ((HYf_10.out.keepB (Nat.le_refl _) HNU.out hwf).more hws_11)
            clear HYf_10
            have HYg_11 := Lib.hid ((HYg_10.out.keepB (Nat.le_refl _) HNU.out hwf).more hws_11)
            clear HYg_10
            have HS2_11 := Lib.hid hS4
            clear hS4
            have HS3_11 := Lib.hid hS5
            clear hS5
            clear f0_10 HS0_10 hf0_10 f1_10 HS1_10 hf1_10 f2_10 HS2_10 hf2_10 f3_10 HS3_10 hf3_10 f4_10 HS4_10 f5_10 HS5_10 hf5_10 f6_10 HS6_10 hf6_10
            clear HNU
            clear hwf hbw hOK
            have e4 : cs4 = #[.int .i64 1, .string xk, .int .i64 cc_.kind, .slice Ag ng cg, .int .i64 cc_.lo, .int .i64 cc_.hi, .int .i64 cc_.val] := by injection hX4
            have e5 : cs5 = #[.int .i64 r.2.err, .int .i64 r.2.cell.kind, .slice A2 n2 c2, .int .i64 r.2.cell.lo, .int .i64 r.2.cell.hi, .int .i64 r.2.cell.val] := by injection hX5
            subst e4 e5
            clear hX4 hX5
            have f0_11 := str6 HS0_11.out
            have hl0_11 := HS0_11.out.lt
            have hf0_11 := fun j => HS0_11.out.frozen j
            have f1_11 := str7 HS1_11.out
            have hl1_11 := HS1_11.out.lt
            have hf1_11 := fun j => HS1_11.out.frozen j
            have f2_11 := str7 HS2_11.out
            have hl2_11 := HS2_11.out.lt
            have hf2_11 := fun j => HS2_11.out.frozen j
            have f3_11 := str6 HS3_11.out
            have hl3_11 := HS3_11.out.lt
            have hf3_11 := fun j => HS3_11.out.frozen j
            have f4_11 := str6 HS4_11.out
            have hl4_11 := HS4_11.out.lt
            have f5_11 := str7 HS5_11.out
            have hl5_11 := HS5_11.out.lt
            have hf5_11 := fun j => HS5_11.out.frozen j
            have f6_11 := str5 HS6_11.out
            have hl6_11 := HS6_11.out.lt
            have hf6_11 := fun j => HS6_11.out.frozen j
            go_wp2_with fail
            refine bodyPost_ret (v := .tuple #[.agg #[.int .i64 1, .string xk, .int .i64 cc_.kind, .slice Ag ng cg, .int .i64 cc_.lo, .int .i64 cc_.hi, .int .i64 cc_.val], .agg #[.int .i64 r.2.err, .int .i64 r.2.cell.kind, .slice A2 n2 c2, .int .i64 r.2.cell.lo, .int .i64 r.2.cell.hi, .int .i64 r.2.cell.val]]) (by simp [results, Tryz.results19, go_sem, *]) rfl ?_
            rw [HA.out]
            exact ⟨Ag, ng, cg, A2, n2, c2, rfl, HYg_11.out, HYa_11.out, HB_11.out⟩
end Go.Proofs.YtpklclnehlgcpaaGreat.PlanW
end
