/-
  Parts of the proof of RecRows.
-/
import Derived.Test.YtiokcemlfdonnaaRecR12
import Derived.Test.YtiokcemlfdonnaaRecR6
import Derived.Test.YtiokcemlfdonnaaRecR5
import Derived.Laws.IdiomCopy
import Derived.Test.YtiokcemlfdonnaaRecR3
section
namespace Go.Proofs.Ytiokcemlfdonnaa
open Go.RowKit
set_option linter.unusedVariables false
set_option linter.unusedSimpArgs false
instance (l : List RunX) : Decidable (PatchP.Asked l) := by unfold PatchP.Asked; infer_instance
instance (x : RecX) : Decidable (RefRec.Asked x) := by unfold RefRec.Asked; infer_instance
namespace RefPatch
set_option maxRecDepth 100000 in
set_option maxHeartbeats 1000000 in
theorem much_is (A : Option Addr) (n c B : Nat) (l : List RunX) (w : World) (hE : Elems RunE w B A n c l) :
    Calls Try.prog 31 #[.slice A n c] w fun e w' => e = .returned (.bool (!decide (PatchP.Asked l))) ∧ w = w' := by
  have HE := Lib.hid hE
  have hlen := hE.len
  have hcap := hE.cap
  have hcm := hcap.2
  unfold maxLen at hcm
  clear hE
  go_enter Try.func31, Try.ntmps31
  go_wp2
  go_loopw [3] (fun iv wr => ∃ k : Nat, k ≤ n ∧ k ≤ 100 ∧ iv = .int .i64 (k : Int) ∧ wr = w ∧ Hid (∀ j x, j < k → l[j]? = some x → x.data.length ≤ 600)) (fun iv _ => n - (intOf iv).toNat)
  case atStart => exact ⟨0, Nat.zero_le _, by omega, rfl, rfl, Lib.hid (fun j x h => absurd h (by omega))⟩
  case round =>
    obtain ⟨k, hk, hk1, rfl, hwr, HK⟩ := hrel
    subst hwr
    by_cases hlt : k < n
    · have hd : decide ((k : Int) < (n : Int)) = true := by simpa using hlt
      by_cases h100 : k < 100
      · have hd2 : decide ((k : Int) < 100) = true := by simp; omega
        obtain ⟨b, o, x, A2, n2, c2, rfl, hb, hx, hy, hi, q0, q1⟩ := run_at HE.out hlt
        have hyl := hy.len
        have hki : (0 : Int) ≤ (k : Int) := by omega
        by_cases hB : 600 < n2
        · have hd3 : decide ((600 : Int) < (n2 : Int)) = true := by simp; omega
          have HR : Hid ((!decide (PatchP.Asked l)) = true) := Lib.hid (by rw [decide_eq_false (fun ha => absurd (ha.2 x (List.mem_of_getElem? hx)) (by omega))]; rfl)
          clear hy hi hx hyl
          go_wp2
          go_ret
          exact ⟨by rw [HR.out] <;> rfl, rfl⟩
        · have hd3 : decide ((600 : Int) < (n2 : Int)) = false := by simp; omega
          have HN : Hid (∀ j y, j < k + 1 → l[j]? = some y → y.data.length ≤ 600) := Lib.hid (fun j y hj hy => by
            by_cases e : j = k
            · subst e; rw [hx] at hy; cases hy; omega
            · exact HK.out j y (by omega) hy)
          clear hy hi hx hyl
          go_wp2
          go_roundw
          case rel => exact ⟨k + 1, by omega, by omega, by go_num, (by first | rfl | trivial), HN⟩
          case measure => simp [intOf]; omega
      · have hd2 : decide ((k : Int) < 100) = false := by simp; omega
        have hd5 : decide ((60 : Int) < (n : Int)) = true := by simp; omega
        have HR : Hid ((!decide (PatchP.Asked l)) = true) := Lib.hid (by rw [decide_eq_false (fun ha => absurd ha.1 (by omega))]; rfl)
        go_wp2
        go_ret
        exact ⟨by rw [HR.out] <;> rfl, rfl⟩
    · have hd : decide ((k : Int) < (n : Int)) = false := by simp; omega
      have HF : Hid (∀ x ∈ l, x.data.length ≤ 600) := Lib.hid (fun x hx => by
        obtain ⟨j, hj, rfl⟩ := List.getElem_of_mem hx
        exact HK.out j _ (by omega) (List.getElem?_eq_getElem hj))
      by_cases h60 : 60 < n
      · have hd5 : decide ((60 : Int) < (n : Int)) = true := by simp; omega
        have HR : Hid ((!decide (PatchP.Asked l)) = true) := Lib.hid (by rw [decide_eq_false (fun ha => absurd ha.1 (by omega))]; rfl)
        go_wp2
        go_ret
        exact ⟨by rw [HR.out] <;> rfl, rfl⟩
      · have hd5 : decide ((60 : Int) < (n : Int)) = false := by simp; omega
        have HL := Lib.hid hlen
        have HR : Hid ((!decide (PatchP.Asked l)) = false) := Lib.hid (by rw [decide_eq_true (show PatchP.Asked l from ⟨by rw [HL.out]; omega, HF.out⟩)]; rfl)
        go_wp2
        go_ret
        exact ⟨by rw [HR.out] <;> rfl, rfl⟩
end RefPatch
namespace RefRec
open RecW
set_option maxRecDepth 100000 in
set_option maxHeartbeats 4000000 in
theorem much_is (kd tx pv nx : Int) (A : Option Addr) (n c B : Nat) (l : List PatchX) (pact : Int) (puk : ByteArray) (Ap : Option Addr) (np cp Bp : Nat) (pst : Int) (pk : ByteArray) (pkd : Int) (pda : List UInt8) (plo phi pva : Int) (pun : Int) (w : World) (hE : Elems PatchE w B A n c l) (hB : B ≤ w.heap.size) (hp : Bytes w Bp Ap np cp pda) (hBp : Bp ≤ w.heap.size) (hpk : pk.size ≤ maxLen) (hpuk : puk.size ≤ maxLen) :
    Calls Try.prog 7 #[.agg #[.int .i64 kd, .int .i64 tx, .int .i64 pv, .int .i64 nx, .slice A n c, .int .i64 pact, .string puk, .int .i64 pst, .string pk, .int .i64 pkd, .slice Ap np cp, .int .i64 plo, .int .i64 phi, .int .i64 pva, .int .i64 pun]] w fun e w' => e = .returned (.bool (!decide (Asked ⟨kd, tx, pv, nx, l, ⟨pact, puk, ⟨pst, pk, ⟨pkd, pda, plo, phi, pva⟩⟩, pun⟩⟩))) ∧ Below w.heap.size w w' := by
  have HE := Lib.hid hE
  have hlen := hE.len
  have hcap := hE.cap
  have hcm := hcap.2
  unfold maxLen at hcm
  have hpl := hp.len
  have hpm := Nat.le_trans hp.2.1 hp.2.2.1
  unfold maxLen at hpm hpk hpuk
  have HPL := Lib.hid hpl
  have HLEN := Lib.hid hlen
  clear hE hp hpl
  obtain ⟨W0, hW0⟩ : ∃ W, w.alloc (.cells #[.int .i64 kd, .int .i64 tx, .int .i64 pv, .int .i64 nx, .slice A n c, .int .i64 pact, .string puk, .int .i64 pst, .string pk, .int .i64 pkd, .slice Ap np cp, .int .i64 plo, .int .i64 phi, .int .i64 pva, .int .i64 pun] 31) = W := ⟨_, rfl⟩
  obtain ⟨HS0, HB0, hw0, hz0⟩ := new1 hW0
  have g0 := str15 HS0.out
  have hl0 := HS0.out.lt
  clear hz0
  go_enter Try.func7, Try.ntmps7
  go_wp2
  go_loopw [3] (fun iv wr => ∃ k : Nat, k ≤ n ∧ k ≤ 10 ∧ iv = .int .i64 (k : Int) ∧ wr = W0 ∧ Hid (∀ j x, j < k → l[j]? = some x → PatchP.Asked x.runs)) (fun iv _ => n - (intOf iv).toNat)
  case atStart => exact ⟨0, Nat.zero_le _, by omega, rfl, rfl, Lib.hid (fun j x h => absurd h (by omega))⟩
  case round =>
    obtain ⟨k, hk, hk1, rfl, hwr, HK⟩ := hrel
    subst hwr
    by_cases hlt : k < n
    · have hd : decide ((k : Int) < (n : Int)) = true := by simpa using hlt
      by_cases h10 : k < 10
      · have hd2 : decide ((k : Int) < 10) = true := by simp; omega
        obtain ⟨b, o, x, A2, n2, c2, rfl, hb, hx, hy, hi, q0, q1, q2⟩ := patch_at HE.out hlt
        replace q2 := (HB0.out.cell (p := ⟨b, o + k * 3 + 2, none⟩) (by show b < _; omega)).trans q2
        have HX := Lib.hid hx
        have HY := Lib.hid hy
        have hki : (0 : Int) ≤ (k : Int) := by omega
        clear hx hy q0 q1
        go_wp2_with fail
        refine (RefPatch.much_is A2 n2 c2 B x.runs wr (HY.out.below (HB0.out.mono hB))).mono ?_
        rintro e w' ⟨rfl, rfl⟩
        cases hr : decide (PatchP.Asked x.runs) with
        | false =>
          have HR : Hid ((!decide (Asked ⟨kd, tx, pv, nx, l, ⟨pact, puk, ⟨pst, pk, ⟨pkd, pda, plo, phi, pva⟩⟩, pun⟩⟩)) = true) := Lib.hid (by rw [decide_eq_false (fun ha => of_decide_eq_false hr (ha.2.1 x (List.mem_of_getElem? HX.out)))]; rfl)
          clear hr
          go_wp2
          go_ret
          exact ⟨by rw [HR.out] <;> rfl, HB0.out⟩
        | true =>
          have HR := Lib.hid (of_decide_eq_true hr)
          have HN : Hid (∀ j y, j < k + 1 → l[j]? = some y → PatchP.Asked y.runs) := Lib.hid (fun j y hj hy => by
            by_cases e : j = k
            · subst e; rw [HX.out] at hy; cases hy; exact HR.out
            · exact HK.out j y (by omega) hy)
          clear hr
          go_wp2
          go_roundw
          case rel => exact ⟨k + 1, by omega, by omega, by go_num, (by first | rfl | trivial), HN⟩
          case measure => simp [intOf]; omega
      · have hd2 : decide ((k : Int) < 10) = false := by simp; omega
        have hd5 : decide ((6 : Int) < (n : Int)) = true := by simp; omega
        have HR : Hid ((!decide (Asked ⟨kd, tx, pv, nx, l, ⟨pact, puk, ⟨pst, pk, ⟨pkd, pda, plo, phi, pva⟩⟩, pun⟩⟩)) = true) := Lib.hid (by rw [decide_eq_false (fun ha => absurd ha.1 (by show ¬ l.length ≤ 6; rw [HLEN.out]; omega))]; rfl)
        go_wp2
        go_ret
        exact ⟨by rw [HR.out] <;> rfl, HB0.out⟩
    · have hd : decide ((k : Int) < (n : Int)) = false := by simp; omega
      have HF : Hid (∀ x ∈ l, PatchP.Asked x.runs) := Lib.hid (fun x hx => by
        obtain ⟨j, hj, rfl⟩ := List.getElem_of_mem hx
        exact HK.out j _ (by omega) (List.getElem?_eq_getElem hj))
      by_cases h6 : 6 < n
      · have hd5 : decide ((6 : Int) < (n : Int)) = true := by simp; omega
        have HR : Hid ((!decide (Asked ⟨kd, tx, pv, nx, l, ⟨pact, puk, ⟨pst, pk, ⟨pkd, pda, plo, phi, pva⟩⟩, pun⟩⟩)) = true) := Lib.hid (by rw [decide_eq_false (fun ha => absurd ha.1 (by show ¬ l.length ≤ 6; rw [HLEN.out]; omega))]; rfl)
        go_wp2
        go_ret
        exact ⟨by rw [HR.out] <;> rfl, HB0.out⟩
      have hd5 : decide ((6 : Int) < (n : Int)) = false := by simp; omega
      by_cases hu : 300 < puk.size
      · have hd6 : decide ((300 : Int) < (puk.size : Int)) = true := by simp; omega
        have HR : Hid ((!decide (Asked ⟨kd, tx, pv, nx, l, ⟨pact, puk, ⟨pst, pk, ⟨pkd, pda, plo, phi, pva⟩⟩, pun⟩⟩)) = true) := Lib.hid (by rw [decide_eq_false (fun ha => absurd ha.2.2.1 (by show ¬ puk.size ≤ 300; omega))]; rfl)
        go_wp2
        go_ret
        exact ⟨by rw [HR.out] <;> rfl, HB0.out⟩
      have hd6 : decide ((300 : Int) < (puk.size : Int)) = false := by simp; omega
      by_cases hv : 300 < pk.size
      · have hd7 : decide ((300 : Int) < (pk.size : Int)) = true := by simp; omega
        have HR : Hid ((!decide (Asked ⟨kd, tx, pv, nx, l, ⟨pact, puk, ⟨pst, pk, ⟨pkd, pda, plo, phi, pva⟩⟩, pun⟩⟩)) = true) := Lib.hid (by rw [decide_eq_false (fun ha => absurd ha.2.2.2.1 (by show ¬ pk.size ≤ 300; omega))]; rfl)
        go_wp2
        go_ret
        exact ⟨by rw [HR.out] <;> rfl, HB0.out⟩
      have hd7 : decide ((300 : Int) < (pk.size : Int)) = false := by simp; omega
      by_cases hx : 300 < np
      · have hd8 : decide ((300 : Int) < (np : Int)) = true := by simp; omega
        have HR : Hid ((!decide (Asked ⟨kd, tx, pv, nx, l, ⟨pact, puk, ⟨pst, pk, ⟨pkd, pda, plo, phi, pva⟩⟩, pun⟩⟩)) = true) := Lib.hid (by rw [decide_eq_false (fun ha => absurd ha.2.2.2.2 (by show ¬ pda.length ≤ 300; rw [HPL.out]; omega))]; rfl)
        go_wp2
        go_ret
        exact ⟨by rw [HR.out] <;> rfl, HB0.out⟩
      have hd8 : decide ((300 : Int) < (np : Int)) = false := by simp; omega
      have HR : Hid ((!decide (Asked ⟨kd, tx, pv, nx, l, ⟨pact, puk, ⟨pst, pk, ⟨pkd, pda, plo, phi, pva⟩⟩, pun⟩⟩)) = false) := Lib.hid (by rw [decide_eq_true (show Asked ⟨kd, tx, pv, nx, l, ⟨pact, puk, ⟨pst, pk, ⟨pkd, pda, plo, phi, pva⟩⟩, pun⟩⟩ from ⟨by show l.length ≤ 6; rw [HLEN.out]; omega, HF.out, by show puk.size ≤ 300; omega, by show pk.size ≤ 300; omega, by show pda.length ≤ 300; rw [HPL.out]; omega⟩)]; rfl)
      go_wp2
      go_ret
      exact ⟨by rw [HR.out] <;> rfl, HB0.out⟩
end RefRec
end Go.Proofs.Ytiokcemlfdonnaa
end
section
namespace Go.Proofs.Ytiokcemlfdonnaa
open Go.RowKit
set_option linter.unusedVariables false
theorem OwnE.write1 {P : Program} {α : Type} {E : El α} {T : TypeId} {w : World} {base n c : Nat} {A : Option Addr} {l : List α} (h : OwnE E T w base A n c l) {j i : Nat} {v : Value} {x : α} (hj : j < n) (hi : i < E.size) (h1 : v.oneCell' = true) (hrel : ∀ g vs, A = some ⟨g, 0, none⟩ → (∀ y, l[j]? = some y → E.rel (hide w g) w.heap.size vs y) → E.rel (hide w g) w.heap.size (overV vs i [v]) x) :
    ∃ g, A = some ⟨g, 0, none⟩ ∧ base ≤ g ∧ g < w.heap.size ∧ (w.cell? ⟨g, j * E.size + i, none⟩).isSome = true ∧ w.frozen? ⟨g, j * E.size + i, none⟩ = false ∧ OwnE E T (w.setCell ⟨g, j * E.size + i, none⟩ v) base A n c (l.set j x) := by
  have hcap := h.elemsIn.cap
  obtain ⟨g, cur, vs, rfl, hg, hh, hnc, hm, hc, hx, hr, hvl⟩ := h.row (by omega)
  have hjs : j * E.size + E.size ≤ n * E.size := by rw [← Nat.succ_mul]; exact Nat.mul_le_mul_right _ hj
  have hns : n * E.size ≤ c * E.size := Nat.mul_le_mul_right _ hnc
  have hk : j * E.size + i < cur.size := by omega
  have hcell : (w.cell? ⟨g, j * E.size + i, none⟩).isSome = true := by
    rw [cell_of_row w g _ cur T (0, 0) hh, Array.getElem?_eq_getElem hk]; rfl
  have hfr : w.frozen? ⟨g, j * E.size + i, none⟩ = false := by
    unfold World.frozen?
    simp [hh]
  obtain ⟨g', w1, e, -, hgl, hrun, hO, -, -⟩ := OwnE.write (P := P) h (j := j) (i := i) (s := [v]) (x := x) hj (by simp; omega) (fun u hu => by simp only [List.mem_cons, List.not_mem_nil, or_false] at hu; rw [hu]; exact h1) hrel
  cases e
  have hrun2 := run_storeCells_cells (P := P) g (j * E.size + i) [v] 0 w (fun q hq => by
    have : q = 0 := by simpa using hq
    subst this; exact hcell) (fun q hq => by
    have : q = 0 := by simpa using hq
    subst this; exact hfr) (fun u hu => by simp only [List.mem_cons, List.not_mem_nil, or_false] at hu; rw [hu]; exact h1)
  rw [hrun2] at hrun
  have e2 : w.setCells g (j * E.size + i + 0) [v] = w1 := by injection hrun
  rw [← e2] at hO
  exact ⟨g, rfl, hg, hgl, hcell, hfr, hO⟩
theorem runE_byt : El.Byt RunE := by
  rintro w w' B vs x hs ⟨A, n, c, e, h, r⟩
  exact ⟨A, n, c, e, h.subU hs, r⟩
end Go.Proofs.Ytiokcemlfdonnaa
end
section
namespace Go.Proofs.Ytiokcemlfdonnaa
open Go.RowKit
set_option linter.unusedVariables false
set_option linter.unusedSectionVars false
/-- all blocks below are empty -/
def above (base : Nat) (w : World) : World := hideL w (List.range base)
theorem above_out (base : Nat) (w : World) (p : Addr) (h : base ≤ p.block) : (above base w).cell? p = w.cell? p := hideL_out w p _ (by rw [List.mem_range]; omega)
theorem above_in (base : Nat) (w : World) (p : Addr) (h : p.block < base) : (above base w).cell? p = none := hideL_in w p _ (by rw [List.mem_range]; exact h)
section
variable {B base base' : Nat} {w w' : World}
theorem sub_above (B base : Nat) (w : World) : Sub B (above base w) w := sub_hideL B w _
theorem above_sub (h : Sub B w w') : Sub B (above base w) (above base w') := fun p v hp hv => by
  by_cases hb : p.block < base
  · rw [above_in base w p hb] at hv; cases hv
  · rw [above_out base w p (by omega)] at hv
    rw [above_out base w' p (by omega)]
    exact h p v hp hv
theorem above_subU (h : SubU B w w') : SubU B (above base w) (above base w') := fun p u hp hv => by
  by_cases hb : p.block < base
  · rw [above_in base w p hb] at hv; cases hv
  · rw [above_out base w p (by omega)] at hv
    rw [above_out base w' p (by omega)]
    exact h p u hp hv
theorem above_less (h : base' ≤ base) : Sub B (above base w) (above base' w) := fun p v hp hv => by
  by_cases hb : p.block < base
  · rw [above_in base w p hb] at hv; cases hv
  · rw [above_out base w p (by omega)] at hv
    rw [above_out base' w p (by omega)]
    exact hv
theorem above_hid {A : Option Addr} (h : ∀ a, A = some a → a.block < base) : Sub B (above base w) (hid A w) := fun p v hp hv => by
  by_cases hb : p.block < base
  · rw [above_in base w p hb] at hv; cases hv
  · rw [above_out base w p (by omega)] at hv
    cases A with
    | none => exact hv
    | some a =>
      show (hide w a.block).cell? p = _
      rw [hide_other w a.block p (by have := h a rfl; omega)]
      exact hv
/-- nothing at or above has turned -/
theorem above_keep (h : ∀ k, k < B → base ≤ k → w'.heap[k]? = w.heap[k]?) : Sub B (above base w) (above base w') := fun p v hp hv => by
  by_cases hb : p.block < base
  · rw [above_in base w p hb] at hv; cases hv
  · rw [above_out base w p (by omega)] at hv
    rw [above_out base w' p (by omega), World.cell?_of_block (h p.block hp (by omega))]
    exact hv
theorem OwnS.above {gb : Option Nat} {A : Option Addr} {n c : Nat} {l : List UInt8} (h : OwnS w gb A n c l) (hg : ∀ g, gb = some g → base ≤ g) : Bytes (above base w) w.heap.size A n c l := by
  obtain ⟨h1, h2, h3, (⟨h4, -⟩ | ⟨g, o, cur, T, e, hA, hh, hs, hc⟩)⟩ := h
  · exact ⟨h1, h2, h3, fun hn => absurd hn (by omega)⟩
  · exact ⟨h1, h2, h3, fun _ => ⟨g, o, hA, (Array.getElem?_eq_some_iff.1 hh).1, fun j u hu => by
      rw [above_out base w _ (hg g e), cell_of_row w g (o + j) cur T (0, 0) hh]; exact hc j u hu⟩⟩
end
/-- bytes that lie where nothing was before -/
def GivesNew (w : World) (l : List UInt8) (e : Ending) (w' : World) : Prop := ∃ A n c, e = .returned (.slice A n c) ∧ Bytes (above w.heap.size w') w'.heap.size A n c l ∧ Below w.heap.size w w'
theorem GivesNew.bytes {w w' : World} {l : List UInt8} {e : Ending} (h : GivesNew w l e w') : GivesBytes w l e w' := by
  obtain ⟨A, n, c, h1, h2, h3⟩ := h
  exact ⟨A, n, c, h1, h2.sub (sub_above _ _ _), h3⟩
theorem own_above {w : World} {base n c : Nat} {T : TypeId} {A : Option Addr} {l : List UInt8} (h : w.ownsRow base T 1 (.slice A n c) n (l.map byteV)) : Bytes (above base w) w.heap.size A n c l := by
  obtain ⟨gb, h1, h2⟩ := OwnS.of_own h
  exact h1.above h2
theorem OwnE.blt {α : Type} {E : El α} {T : TypeId} {w : World} {base n c : Nat} {A : Option Addr} {l : List α} (h : OwnE E T w base A n c l) : ∀ a, A = some a → a.block < w.heap.size := by
  intro a e
  obtain ⟨vs, h1, -⟩ := h
  rcases h1.2 with ⟨e1, -⟩ | ⟨g, cap, cur, e1, -, hh, -⟩
  · cases e1; cases e
  · cases e1; cases e; exact (Array.getElem?_eq_some_iff.1 hh).1
/-- a run, and whether its bytes lie at or above -/
def RunF (base : Nat) : El (RunX × Bool) where
  size := 2
  pos := by decide
  rel w B vs r := ∃ A n c, vs = runV r.1 A n c ∧ Bytes w B A n c r.1.data ∧ In64 r.1.at_ ∧ (r.2 = true → Bytes (above base w) B A n c r.1.data)
  len := by rintro w B vs p ⟨A, n, c, rfl, _⟩; rfl
  one := by rintro w B vs p ⟨A, n, c, rfl, _⟩ v hv; simp only [runV, List.mem_cons, List.not_mem_nil, or_false] at hv; rcases hv with rfl | rfl <;> rfl
  sub := by rintro w w' B vs p hs ⟨A, n, c, e, h, r, q⟩; exact ⟨A, n, c, e, h.sub hs, r, fun hq => (q hq).sub (above_sub hs)⟩
  more := by rintro w B B' vs p hB ⟨A, n, c, e, h, r, q⟩; exact ⟨A, n, c, e, h.more hB, r, fun hq => (q hq).more hB⟩
theorem runF_byt (base : Nat) : El.Byt (RunF base) := by
  rintro w w' B vs x hs ⟨A, n, c, e, h, r, q⟩
  exact ⟨A, n, c, e, h.subU hs, r, fun hq => (q hq).subU (above_subU hs)⟩
/-- the first k are marked -/
def marks (l : List RunX) (k : Nat) : List (RunX × Bool) := l.zipIdx.map fun p => (p.1, decide (p.2 < k))
theorem marks_get (l : List RunX) (k j : Nat) : (marks l k)[j]? = (l[j]?).map fun r => (r, decide (j < k)) := by
  unfold marks
  rw [List.getElem?_map, List.getElem?_zipIdx]
  cases l[j]? <;> simp
theorem marks_length (l : List RunX) (k : Nat) : (marks l k).length = l.length := by simp [marks]
theorem marks_set (l : List RunX) (k : Nat) (r : RunX) (h : l[k]? = some r) : (marks l k).set k (r, true) = marks l (k + 1) := by
  refine List.ext_getElem? fun j => ?_
  have hk := (List.getElem?_eq_some_iff.1 h).1
  by_cases e : j = k
  · subst e
    rw [List.getElem?_set_self (by rw [marks_length]; exact hk), marks_get, h]
    simp
  · rw [List.getElem?_set_ne (fun e2 => e e2.symm), marks_get, marks_get]
    cases l[j]? with
    | none => rfl
    | some q =>
      have : decide (j < k) = decide (j < k + 1) := by
        by_cases h1 : j < k
        · simp [h1]; omega
        · simp [h1]; omega
      simp [this]
theorem Rel2.of {α : Type} {R : List Value → α → Prop} : ∀ {vs : List (List Value)} {xs : List α}, vs.length = xs.length → (∀ (j : Nat) v x, vs[j]? = some v → xs[j]? = some x → R v x) → Rel2 R vs xs
  | [], [], _, _ => trivial
  | v :: vs, x :: xs, hl, h => ⟨h 0 v x rfl rfl, Rel2.of (by simpa using hl) fun j v x hv hx => h (j + 1) v x (by simpa using hv) (by simpa using hx)⟩
  | [], _ :: _, hl, _ => by simp at hl
  | _ :: _, [], hl, _ => by simp at hl
/-- unmarked -/
theorem OwnE.marks0 {T : TypeId} {w : World} {base n c : Nat} {A : Option Addr} {l : List RunX} (b0 : Nat) (h : OwnE RunE T w base A n c l) : OwnE (RunF b0) T w base A n c (marks l 0) := by
  obtain ⟨vs, h1, h2⟩ := h
  refine ⟨vs, h1, Rel2.of (by rw [marks_length]; exact h2.length) fun j v x hv hx => ?_⟩
  rw [marks_get] at hx
  cases hl : l[j]? with
  | none => rw [hl] at hx; cases hx
  | some r =>
    rw [hl] at hx
    cases hx
    obtain ⟨u, hu, A2, n2, c2, e, hy, hi⟩ := h2.get hl
    rw [hv] at hu
    cases hu
    exact ⟨A2, n2, c2, e, hy, hi, fun hq => by simp at hq⟩
/-- all marked: the runs lie at or above -/
theorem OwnE.marked {T : TypeId} {w : World} {base n c : Nat} {A : Option Addr} {l : List RunX} (h : OwnE (RunF base) T w base A n c (marks l l.length)) : Elems RunE (above base w) w.heap.size A n c l := by
  have hl := h.len
  rw [marks_length] at hl
  have hge := h.ge
  obtain ⟨vs, hr, h3, h4, h5, h6⟩ := h.elemsIn
  refine ⟨vs, Rel2.of (by rw [hr.length, marks_length]) fun j v x hv hx => ?_, hl, h4, h5, fun hn => ?_⟩
  · have hm : (marks l l.length)[j]? = some (x, true) := by
      rw [marks_get, hx]
      have := (List.getElem?_eq_some_iff.1 hx).1
      simp [this]
    obtain ⟨u, hu, A2, n2, c2, e, hy, hi, hq⟩ := hr.get hm
    rw [hv] at hu
    cases hu
    exact ⟨A2, n2, c2, e, (hq rfl).sub (above_sub (sub_hid _ A w)), hi⟩
  · obtain ⟨b, o, e, hb, hc⟩ := h6 hn
    exact ⟨b, o, e, hb, fun j v hv => by rw [above_out base w _ (by show base ≤ b; have := hge _ e; exact this)]; exact hc j v hv⟩
end Go.Proofs.Ytiokcemlfdonnaa
end
