/-
  Texts of one claim, joined: RecMuch, OwnS, RegW.
-/
import Derived.Test.YtiokcemlfdonnaaRecP13
import Derived.Test.YtiokcemlfdonnaaRecP0
import Derived.Test.YtiokcemlfdonnaaRecP2
import Derived.Deep.AppendSrc
import Derived.Deep.Upon
import Derived.Deep.MidRow
import Derived.Test.YtiokcemlfdonnaaRecP8
namespace Go.Proofs.Ytiokcemlfdonnaa
open Go.RowKit
set_option linter.unusedVariables false
set_option linter.unusedSimpArgs false
instance (l : List RunX) : Decidable (PatchP.Asked l) := by unfold PatchP.Asked; infer_instance
instance (x : RecX) : Decidable (RefRec.Asked x) := by unfold RefRec.Asked; infer_instance
theorem RefRec.not_asked_yes {x : RecX} (h : RefRec.Asked x) : (!decide (RefRec.Asked x)) = false := by simp [h]
theorem RefRec.not_asked_no {x : RecX} (h : ¬ RefRec.Asked x) : (!decide (RefRec.Asked x)) = true := by simp [h]
namespace RefPatch
set_option maxRecDepth 100000 in
set_option maxHeartbeats 1000000 in
theorem much_is (A : Option Addr) (n c B : Nat) (l : List RunX) (w : World) (hE : Elems RunE w B A n c l) :
    Calls Try.prog 31 #[.slice A n c] w fun e w' => e = .returned (.bool (!decide (PatchP.Asked l))) ∧ w = w' := by
  have HE := Lib.hid hE
  have hlen := hE.len
  have hcap := hE.cap
  have hcm := hcap.2
  unfold maxLen at hcm
  clear hE
  go_enter Try.func31, Try.ntmps31
  go_wp2
  go_loopw [3] (fun iv wr => ∃ k : Nat, k ≤ n ∧ k ≤ 100 ∧ iv = .int .i64 (k : Int) ∧ wr = w ∧ Hid (∀ j x, j < k → l[j]? = some x → x.data.length ≤ 600)) (fun iv _ => n - (intOf iv).toNat)
  case atStart => exact ⟨0, Nat.zero_le _, by omega, rfl, rfl, Lib.hid (fun j x h => absurd h (by omega))⟩
  case round =>
    obtain ⟨k, hk, hk1, rfl, hwr, HK⟩ := hrel
    subst hwr
    by_cases hlt : k < n
    · have hd : decide ((k : Int) < (n : Int)) = true := by simpa using hlt
      by_cases h100 : k < 100
      · have hd2 : decide ((k : Int) < 100) = true := by simp; omega
        obtain ⟨b, o, x, A2, n2, c2, rfl, hb, hx, hy, hi, q0, q1⟩ := run_at HE.out hlt
        have hyl := hy.len
        have hki : (0 : Int) ≤ (k : Int) := by omega
        by_cases hB : 600 < n2
        · have hd3 : decide ((600 : Int) < (n2 : Int)) = true := by simp; omega
          have HR : Hid ((!decide (PatchP.Asked l)) = true) := Lib.hid (by rw [decide_eq_false (fun ha => absurd (ha.2 x (List.mem_of_getElem? hx)) (by omega))]; rfl)
          clear hy hi hx hyl
          go_wp2
          go_ret
          exact ⟨by rw [HR.out] <;> rfl, rfl⟩
        · have hd3 : decide ((600 : Int) < (n2 : Int)) = false := by simp; omega
          have HN : Hid (∀ j y, j < k + 1 → l[j]? = some y → y.data.length ≤ 600) := Lib.hid (fun j y hj hy => by
            by_cases e : j = k
            · subst e; rw [hx] at hy; cases hy; omega
            · exact HK.out j y (by omega) hy)
          clear hy hi hx hyl
          go_wp2
          go_roundw
          case rel => exact ⟨k + 1, by omega, by omega, by go_num, (by first | rfl | trivial), HN⟩
          case measure => simp [intOf]; omega
      · have hd2 : decide ((k : Int) < 100) = false := by simp; omega
        have hd5 : decide ((60 : Int) < (n : Int)) = true := by simp; omega
        have HR : Hid ((!decide (PatchP.Asked l)) = true) := Lib.hid (by rw [decide_eq_false (fun ha => absurd ha.1 (by omega))]; rfl)
        go_wp2
        go_ret
        exact ⟨by rw [HR.out] <;> rfl, rfl⟩
    · have hd : decide ((k : Int) < (n : Int)) = false := by simp; omega
      have HF : Hid (∀ x ∈ l, x.data.length ≤ 600) := Lib.hid (fun x hx => by
        obtain ⟨j, hj, rfl⟩ := List.getElem_of_mem hx
        exact HK.out j _ (by omega) (List.getElem?_eq_getElem hj))
      by_cases h60 : 60 < n
      · have hd5 : decide ((60 : Int) < (n : Int)) = true := by simp; omega
        have HR : Hid ((!decide (PatchP.Asked l)) = true) := Lib.hid (by rw [decide_eq_false (fun ha => absurd ha.1 (by omega))]; rfl)
        go_wp2
        go_ret
        exact ⟨by rw [HR.out] <;> rfl, rfl⟩
      · have hd5 : decide ((60 : Int) < (n : Int)) = false := by simp; omega
        have HL := Lib.hid hlen
        have HR : Hid ((!decide (PatchP.Asked l)) = false) := Lib.hid (by rw [decide_eq_true (show PatchP.Asked l from ⟨by rw [HL.out]; omega, HF.out⟩)]; rfl)
        go_wp2
        go_ret
        exact ⟨by rw [HR.out] <;> rfl, rfl⟩
end RefPatch
namespace RefRec
open RecW
set_option maxRecDepth 100000 in
set_option maxHeartbeats 4000000 in
theorem much_is (kd tx pv nx : Int) (A : Option Addr) (n c B : Nat) (l : List PatchX) (pact : Int) (puk : ByteArray) (Ap : Option Addr) (np cp Bp : Nat) (pst : Int) (pk : ByteArray) (pkd : Int) (pda : List UInt8) (plo phi pva : Int) (pun : Int) (w : World) (hE : Elems PatchE w B A n c l) (hB : B ≤ w.heap.size) (hp : Bytes w Bp Ap np cp pda) (hBp : Bp ≤ w.heap.size) (hpk : pk.size ≤ maxLen) (hpuk : puk.size ≤ maxLen) :
    Calls Try.prog 7 #[.agg #[.int .i64 kd, .int .i64 tx, .int .i64 pv, .int .i64 nx, .slice A n c, .int .i64 pact, .string puk, .int .i64 pst, .string pk, .int .i64 pkd, .slice Ap np cp, .int .i64 plo, .int .i64 phi, .int .i64 pva, .int .i64 pun]] w fun e w' => e = .returned (.bool (!decide (Asked ⟨kd, tx, pv, nx, l, ⟨pact, puk, ⟨pst, pk, ⟨pkd, pda, plo, phi, pva⟩⟩, pun⟩⟩))) ∧ Below w.heap.size w w' := by
  have HE := Lib.hid hE
  have hlen := hE.len
  have hcap := hE.cap
  have hcm := hcap.2
  unfold maxLen at hcm
  have hpl := hp.len
  have hpm := Nat.le_trans hp.2.1 hp.2.2.1
  unfold maxLen at hpm hpk hpuk
  have HPL := Lib.hid hpl
  have HLEN := Lib.hid hlen
  clear hE hp hpl
  obtain ⟨W0, hW0⟩ : ∃ W, w.alloc (.cells #[.int .i64 kd, .int .i64 tx, .int .i64 pv, .int .i64 nx, .slice A n c, .int .i64 pact, .string puk, .int .i64 pst, .string pk, .int .i64 pkd, .slice Ap np cp, .int .i64 plo, .int .i64 phi, .int .i64 pva, .int .i64 pun] 31) = W := ⟨_, rfl⟩
  obtain ⟨HS0, HB0, hw0, hz0⟩ := new1 hW0
  have g0 := str15 HS0.out
  have hl0 := HS0.out.lt
  clear hz0
  go_enter Try.func7, Try.ntmps7
  go_wp2
  go_loopw [3] (fun iv wr => ∃ k : Nat, k ≤ n ∧ k ≤ 10 ∧ iv = .int .i64 (k : Int) ∧ wr = W0 ∧ Hid (∀ j x, j < k → l[j]? = some x → PatchP.Asked x.runs)) (fun iv _ => n - (intOf iv).toNat)
  case atStart => exact ⟨0, Nat.zero_le _, by omega, rfl, rfl, Lib.hid (fun j x h => absurd h (by omega))⟩
  case round =>
    obtain ⟨k, hk, hk1, rfl, hwr, HK⟩ := hrel
    subst hwr
    by_cases hlt : k < n
    · have hd : decide ((k : Int) < (n : Int)) = true := by simpa using hlt
      by_cases h10 : k < 10
      · have hd2 : decide ((k : Int) < 10) = true := by simp; omega
        obtain ⟨b, o, x, A2, n2, c2, rfl, hb, hx, hy, hi, q0, q1, q2⟩ := patch_at HE.out hlt
        replace q2 := (HB0.out.cell (p := ⟨b, o + k * 3 + 2, none⟩) (by show b < _; omega)).trans q2
        have HX := Lib.hid hx
        have HY := Lib.hid hy
        have hki : (0 : Int) ≤ (k : Int) := by omega
        clear hx hy q0 q1
        go_wp2_with fail
        refine (RefPatch.much_is A2 n2 c2 B x.runs wr (HY.out.below (HB0.out.mono hB))).mono ?_
        rintro e w' ⟨rfl, rfl⟩
        cases hr : decide (PatchP.Asked x.runs) with
        | false =>
          have HR : Hid ((!decide (Asked ⟨kd, tx, pv, nx, l, ⟨pact, puk, ⟨pst, pk, ⟨pkd, pda, plo, phi, pva⟩⟩, pun⟩⟩)) = true) := Lib.hid (by rw [decide_eq_false (fun ha => of_decide_eq_false hr (ha.2.1 x (List.mem_of_getElem? HX.out)))]; rfl)
          clear hr
          go_wp2
          go_ret
          exact ⟨by rw [HR.out] <;> rfl, HB0.out⟩
        | true =>
          have HR := Lib.hid (of_decide_eq_true hr)
          have HN : Hid (∀ j y, j < k + 1 → l[j]? = some y → PatchP.Asked y.runs) := Lib.hid (fun j y hj hy => by
            by_cases e : j = k
            · subst e; rw [HX.out] at hy; cases hy; exact HR.out
            · exact HK.out j y (by omega) hy)
          clear hr
          go_wp2
          go_roundw
          case rel => exact ⟨k + 1, by omega, by omega, by go_num, (by first | rfl | trivial), HN⟩
          case measure => simp [intOf]; omega
      · have hd2 : decide ((k : Int) < 10) = false := by simp; omega
        have hd5 : decide ((6 : Int) < (n : Int)) = true := by simp; omega
        have HR : Hid ((!decide (Asked ⟨kd, tx, pv, nx, l, ⟨pact, puk, ⟨pst, pk, ⟨pkd, pda, plo, phi, pva⟩⟩, pun⟩⟩)) = true) := Lib.hid (by rw [decide_eq_false (fun ha => absurd ha.1 (by show ¬ l.length ≤ 6; rw [HLEN.out]; omega))]; rfl)
        go_wp2
        go_ret
        exact ⟨by rw [HR.out] <;> rfl, HB0.out⟩
    · have hd : decide ((k : Int) < (n : Int)) = false := by simp; omega
      have HF : Hid (∀ x ∈ l, PatchP.Asked x.runs) := Lib.hid (fun x hx => by
        obtain ⟨j, hj, rfl⟩ := List.getElem_of_mem hx
        exact HK.out j _ (by omega) (List.getElem?_eq_getElem hj))
      by_cases h6 : 6 < n
      · have hd5 : decide ((6 : Int) < (n : Int)) = true := by simp; omega
        have HR : Hid ((!decide (Asked ⟨kd, tx, pv, nx, l, ⟨pact, puk, ⟨pst, pk, ⟨pkd, pda, plo, phi, pva⟩⟩, pun⟩⟩)) = true) := Lib.hid (by rw [decide_eq_false (fun ha => absurd ha.1 (by show ¬ l.length ≤ 6; rw [HLEN.out]; omega))]; rfl)
        go_wp2
        go_ret
        exact ⟨by rw [HR.out] <;> rfl, HB0.out⟩
      have hd5 : decide ((6 : Int) < (n : Int)) = false := by simp; omega
      by_cases hu : 300 < puk.size
      · have hd6 : decide ((300 : Int) < (puk.size : Int)) = true := by simp; omega
        have HR : Hid ((!decide (Asked ⟨kd, tx, pv, nx, l, ⟨pact, puk, ⟨pst, pk, ⟨pkd, pda, plo, phi, pva⟩⟩, pun⟩⟩)) = true) := Lib.hid (by rw [decide_eq_false (fun ha => absurd ha.2.2.1 (by show ¬ puk.size ≤ 300; omega))]; rfl)
        go_wp2
        go_ret
        exact ⟨by rw [HR.out] <;> rfl, HB0.out⟩
      have hd6 : decide ((300 : Int) < (puk.size : Int)) = false := by simp; omega
      by_cases hv : 300 < pk.size
      · have hd7 : decide ((300 : Int) < (pk.size : Int)) = true := by simp; omega
        have HR : Hid ((!decide (Asked ⟨kd, tx, pv, nx, l, ⟨pact, puk, ⟨pst, pk, ⟨pkd, pda, plo, phi, pva⟩⟩, pun⟩⟩)) = true) := Lib.hid (by rw [decide_eq_false (fun ha => absurd ha.2.2.2.1 (by show ¬ pk.size ≤ 300; omega))]; rfl)
        go_wp2
        go_ret
        exact ⟨by rw [HR.out] <;> rfl, HB0.out⟩
      have hd7 : decide ((300 : Int) < (pk.size : Int)) = false := by simp; omega
      by_cases hx : 300 < np
      · have hd8 : decide ((300 : Int) < (np : Int)) = true := by simp; omega
        have HR : Hid ((!decide (Asked ⟨kd, tx, pv, nx, l, ⟨pact, puk, ⟨pst, pk, ⟨pkd, pda, plo, phi, pva⟩⟩, pun⟩⟩)) = true) := Lib.hid (by rw [decide_eq_false (fun ha => absurd ha.2.2.2.2 (by show ¬ pda.length ≤ 300; rw [HPL.out]; omega))]; rfl)
        go_wp2
        go_ret
        exact ⟨by rw [HR.out] <;> rfl, HB0.out⟩
      have hd8 : decide ((300 : Int) < (np : Int)) = false := by simp; omega
      have HR : Hid ((!decide (Asked ⟨kd, tx, pv, nx, l, ⟨pact, puk, ⟨pst, pk, ⟨pkd, pda, plo, phi, pva⟩⟩, pun⟩⟩)) = false) := Lib.hid (by rw [decide_eq_true (show Asked ⟨kd, tx, pv, nx, l, ⟨pact, puk, ⟨pst, pk, ⟨pkd, pda, plo, phi, pva⟩⟩, pun⟩⟩ from ⟨by show l.length ≤ 6; rw [HLEN.out]; omega, HF.out, by show puk.size ≤ 300; omega, by show pk.size ≤ 300; omega, by show pda.length ≤ 300; rw [HPL.out]; omega⟩)]; rfl)
      go_wp2
      go_ret
      exact ⟨by rw [HR.out] <;> rfl, HB0.out⟩
end RefRec
end Go.Proofs.Ytiokcemlfdonnaa
namespace Go.Proofs.Ytiokcemlfdonnaa
open Go.RowKit
set_option linter.unusedVariables false
theorem splice_cons (cur : List Value) (o : Nat) (v : Value) (r : List Value) (h : o < cur.length) : splice (cur.set o v) (o + 1) r = splice cur o (v :: r) := by
  have e : (cur.set o v).take (o + 1) = cur.take o ++ [v] := by
    refine List.ext_getElem? fun j => ?_
    have hl : (cur.take o).length = o := by rw [List.length_take]; omega
    rcases Nat.lt_trichotomy j o with hj | rfl | hj
    · rw [List.getElem?_take_of_lt (by omega), List.getElem?_set_ne (by omega), List.getElem?_append_left (by omega), List.getElem?_take_of_lt hj]
    · rw [List.getElem?_take_of_lt (by omega), List.getElem?_set_self h, List.getElem?_append_right (by omega), hl]
      simp
    · rw [List.getElem?_eq_none (by simp; omega), List.getElem?_eq_none (by simp; omega)]
  unfold splice
  rw [e, List.drop_set_of_lt (by omega)]
  simp [Nat.add_assoc, Nat.add_comm 1]
theorem setCells_heap (b : Nat) : ∀ (vs : List Value) (o : Nat) (w : World) (cur : Array Value) (t : TypeId), w.heap[b]? = some (.cells cur t (0, 0)) → o + vs.length ≤ cur.size → (w.setCells b o vs).heap[b]? = some (.cells (splice cur.toList o vs).toArray t (0, 0))
  | [], o, w, cur, t, h, _ => by
    rw [World.setCells, h]
    simp [splice]
  | v :: r, o, w, cur, t, h, hl => by
    rw [World.setCells]
    have hl' : o + 1 + r.length ≤ cur.size := by simp at hl; omega
    have h1 : (w.setCell ⟨b, o, none⟩ v).heap[b]? = some (.cells (cur.setIfInBounds o v) t (0, 0)) := by simp [World.setCell, Array.getElem?_modify, h]
    rw [setCells_heap b r (o + 1) _ _ t h1 (by simpa using hl'), Array.toList_setIfInBounds, splice_cons _ _ _ _ (by simp at hl ⊢; omega)]
theorem grown_setCells (b : Nat) : ∀ (vs : List Value) (o : Nat) (w0 w : World), w0.grownBy w (some b) → w0.grownBy (w.setCells b o vs) (some b)
  | [], _, _, _, h => h
  | v :: r, o, w0, w, h => by
    rw [World.setCells]
    exact grown_setCells b r (o + 1) w0 _ (grown_set h o v)
theorem splice_get_in {cur vs : List Value} {o j : Nat} (h : o + vs.length ≤ cur.length) (hj : j < vs.length) : (splice cur o vs)[o + j]? = vs[j]? := by
  unfold splice
  have h0 : (cur.take o).length = o := by rw [List.length_take]; omega
  rw [List.getElem?_append_right (by omega), h0, List.getElem?_append_left (by omega)]
  congr 1
  omega
theorem splice_get_out {cur vs : List Value} {o j : Nat} (h : o + vs.length ≤ cur.length) (hj : j < o ∨ o + vs.length ≤ j) : (splice cur o vs)[j]? = cur[j]? := by
  unfold splice
  have h0 : (cur.take o).length = o := by rw [List.length_take]; omega
  rcases hj with hj | hj
  · rw [List.getElem?_append_left (by omega), List.getElem?_take_of_lt hj]
  · rw [List.getElem?_append_right (by omega), h0, List.getElem?_append_right (by omega), List.getElem?_drop]
    congr 1
    omega
theorem splice_len {cur vs : List Value} {o : Nat} (h : o + vs.length ≤ cur.length) : (splice cur o vs).length = cur.length := by
  unfold splice
  simp
  omega
/-- the block that such a slice lies in, if it has room -/
def OwnS (w : World) (gb : Option Nat) (A : Option Addr) (n c : Nat) (l : List UInt8) : Prop :=
  l.length = n ∧ n ≤ c ∧ c ≤ maxLen ∧ ((c = 0 ∧ gb = none) ∨ ∃ (g o : Nat) (cur : Array Value) (T : TypeId), gb = some g ∧ A = some ⟨g, o, none⟩ ∧ w.heap[g]? = some (.cells cur T (0, 0)) ∧ o + c ≤ cur.size ∧ ∀ (j : Nat) u, l[j]? = some u → cur[o + j]? = some (byteV u))
section
variable {w w' : World} {gb : Option Nat} {A : Option Addr} {n c : Nat} {l : List UInt8}
theorem OwnS.len (h : OwnS w gb A n c l) : l.length = n := h.1
theorem OwnS.none_ (w : World) : OwnS w none none 0 0 [] := ⟨rfl, Nat.le_refl _, by unfold maxLen; omega, .inl ⟨rfl, rfl⟩⟩
theorem OwnS.lt (h : OwnS w gb A n c l) : ∀ g, gb = some g → g < w.heap.size := by
  intro g hg
  obtain ⟨-, -, -, (⟨-, e⟩ | ⟨g', o, cur, T, e, -, hh, -⟩)⟩ := h
  · rw [e] at hg; cases hg
  · rw [e] at hg; cases hg; exact (Array.getElem?_eq_some_iff.1 hh).1
theorem OwnS.at_ (h : OwnS w gb A n c l) (hb : ∀ g, gb = some g → w'.heap[g]? = w.heap[g]?) : OwnS w' gb A n c l := by
  obtain ⟨h1, h2, h3, (h4 | ⟨g, o, cur, T, e, hA, hh, r⟩)⟩ := h
  · exact ⟨h1, h2, h3, .inl h4⟩
  · exact ⟨h1, h2, h3, .inr ⟨g, o, cur, T, e, hA, (hb g e).trans hh, r⟩⟩
theorem OwnS.next (h : OwnS w gb A n c l) (hb : Below w.heap.size w w') : OwnS w' gb A n c l := h.at_ fun g e => hb.block g (h.lt g e)
theorem OwnS.grown {g : Nat} (h : OwnS w gb A n c l) (hg : w.grownBy w' (some g)) (hne : gb ≠ some g) : OwnS w' gb A n c l := h.at_ fun k e => hg.block k (h.lt k e) (by rw [← e]; exact hne)
theorem OwnS.bytes (h : OwnS w gb A n c l) : Bytes w w.heap.size A n c l := by
  obtain ⟨h1, h2, h3, (⟨h4, -⟩ | ⟨g, o, cur, T, e, hA, hh, hs, hc⟩)⟩ := h
  · exact ⟨h1, h2, h3, fun hn => absurd hn (by omega)⟩
  · exact ⟨h1, h2, h3, fun _ => ⟨g, o, hA, (Array.getElem?_eq_some_iff.1 hh).1, fun j u hu => by rw [cell_of_row w g (o + j) cur T (0, 0) hh]; exact hc j u hu⟩⟩
/-- a part of it -/
theorem OwnS.cut (h : OwnS w gb A n c l) (lo hi m : Nat) (h1 : lo ≤ hi) (h2 : hi ≤ n) (h3 : hi ≤ m) (h4 : m ≤ c) : ∃ gb', OwnS w gb' (cutA A lo m 1) (hi - lo) (m - lo) ((l.drop lo).take (hi - lo)) ∧ (gb' = gb ∨ gb' = none) := by
  obtain ⟨hl, hc, hm, hx⟩ := h
  rcases hx with ⟨h0, e⟩ | ⟨g, o, cur, T, e, hA, hh, hs, hcell⟩
  · exact ⟨none, ⟨by simp; omega, by omega, by omega, .inl ⟨by omega, rfl⟩⟩, .inr rfl⟩
  · by_cases hml : m = lo
    · exact ⟨none, ⟨by simp; omega, by omega, by omega, .inl ⟨by omega, rfl⟩⟩, .inr rfl⟩
    · refine ⟨gb, ⟨by simp; omega, by omega, by omega, .inr ⟨g, o + lo, cur, T, e, ?_, hh, by omega, fun j u hu => ?_⟩⟩, .inl rfl⟩
      · unfold cutA
        rw [if_neg hml, hA]
        simp [add_none]
      · rw [List.getElem?_take] at hu
        split at hu
        · rw [List.getElem?_drop] at hu
          rw [Nat.add_assoc]
          exact hcell _ u hu
        · cases hu
/-- bytes that a call has made -/
theorem OwnS.of_own {base : Nat} {T : TypeId} (h : w.ownsRow base T 1 (.slice A n c) n (l.map byteV)) : ∃ gb, OwnS w gb A n c l ∧ ∀ g, gb = some g → base ≤ g := by
  have hl := (Bytes.own h).len
  rcases h.2 with ⟨e, h0⟩ | ⟨g, cap, cur, e, hg, hh, hnc, hm, hsz, htk⟩
  · cases e
    exact ⟨none, ⟨by simpa using hl, Nat.le_refl _, by unfold maxLen; omega, .inl ⟨rfl, rfl⟩⟩, by simp⟩
  · cases e
    by_cases hc0 : c = 0
    · exact ⟨none, ⟨hl, hnc, hm, .inl ⟨hc0, rfl⟩⟩, by simp⟩
    · refine ⟨some g, ⟨hl, hnc, hm, .inr ⟨g, 0, cur, T, rfl, rfl, hh, by omega, fun j u hu => ?_⟩⟩, fun k hk => by cases hk; exact hg⟩
      have hj : j < n := by rw [← hl]; exact (List.getElem?_eq_some_iff.1 hu).1
      have hx := congrArg (·[j]?) htk
      simp only [List.getElem?_take, List.getElem?_map, hu, Option.map_some] at hx
      rw [if_pos (by omega)] at hx
      simpa using hx
/-- an append onto it, out of whatever bytes -/
theorem OwnS.app {P : Program} (t ty e : TypeId) (ht : P.underlying t = some (.slice e)) (hi : (P.info? e).map (fun i => (i.zero, i.size, i.bytes)) = some (some (.int .u8 0), 1, 1)) (h : OwnS w gb A n c l) {B m c2 : Nat} {A2 : Option Addr} {l2 : List UInt8} (h2 : Bytes w B A2 m c2 l2) (hn : n + m ≤ 140737488355328) :
    ∃ A' c' w' gb', (appSem #[t, t] ty #[.slice A n c, .slice A2 m c2]).run P w = .ok (.slice A' (n + m) c') w' ∧ OwnS w' gb' A' (n + m) c' (l ++ l2) ∧ w.grownBy w' gb ∧ (gb' = gb ∨ gb' = some w.heap.size) := by
  obtain ⟨i0, hi0, hz0, hz1, hz2⟩ := info_parts hi
  have hm2 := h2.len
  have hln := h.len
  have hsrc : Src P 1 t (.slice A2 m c2) m (l2.map byteV) w := by
    by_cases h0 : m = 0
    · subst h0
      have : l2 = [] := List.eq_nil_of_length_eq_zero hm2
      subst this
      cases A2 with
      | none => exact Src.ofNil w ht c2
      | some a => exact Src.ofSlice w ht a 0 c2 [] (by simp) (fun j u hu => by simp at hu) (fun u hu => by cases hu)
    · obtain ⟨ad, rfl, hc⟩ := h2.src (by simp; omega)
      exact Src.ofSlice w ht ad m c2 _ (by simp [hm2]) hc (byteV_one l2)
  obtain ⟨hl, hc, hm, hx⟩ := h
  unfold appSem
  by_cases hroom : n + m ≤ c
  · rcases hx with ⟨h0, e1⟩ | ⟨g, o, cur, T, e1, hA, hh, hs, hcell⟩
    · have e2 : m = 0 := by omega
      have e3 : n = 0 := by omega
      subst e2
      have : l2 = [] := List.eq_nil_of_length_eq_zero hm2
      subst this
      exact ⟨A, c, w, none, run_append_nothing w t t ty e i0 ht hi0 A n c hc _ (by rw [hz1]; exact hsrc), ⟨by simpa using hl, by omega, hm, .inl ⟨h0, rfl⟩⟩, by rw [e1]; exact World.grownBy.refl w _, .inl e1.symm⟩
    · subst hA
      have hcl : ∀ j, j < (l2.map byteV).length → o + n + j < cur.size := fun j hj => by simp at hj; omega
      have hr := run_append_room_src (P := P) w t t ty e i0 ht hi0 g o n c (.slice A2 m c2) m (l2.map byteV) (by rw [hz1]; exact hsrc) hroom
        (fun j hj => by rw [hz1, Nat.mul_one, cell_of_row w g _ cur T (0, 0) hh, Array.getElem?_eq_getElem (hcl j hj)]; rfl)
        (fun j hj => by simp [World.frozen?, hh])
      rw [hz1, Nat.mul_one] at hr
      have hfit : o + n + (l2.map byteV).length ≤ cur.size := by simp; omega
      refine ⟨some ⟨g, o, none⟩, c, _, gb, hr, ⟨by simp; omega, by omega, hm, .inr ⟨g, o, _, T, e1, rfl, setCells_heap g _ _ w cur T hh hfit, ?_, fun j u hu => ?_⟩⟩, by rw [e1]; exact grown_setCells g _ _ w w (World.grownBy.refl w _), .inl rfl⟩
      · rw [List.size_toArray, splice_len (by simpa using hfit)]
        simpa using hs
      · rw [List.getElem?_toArray]
        by_cases hj : j < n
        · rw [splice_get_out (by simpa using hfit) (.inl (by omega)), Array.getElem?_toList]
          exact hcell j u (by rw [List.getElem?_append_left (by omega)] at hu; exact hu)
        · rw [List.getElem?_append_right (by omega)] at hu
          have hj2 : j - l.length < l2.length := (List.getElem?_eq_some_iff.1 hu).1
          have := splice_get_in (cur := cur.toList) (vs := l2.map byteV) (o := o + n) (j := j - l.length) (by simpa using hfit) (by simpa using hj2)
          rw [show o + n + (j - l.length) = o + j by omega] at this
          rw [this, List.getElem?_map, hu]
          rfl
  · have hg : c < n + m := by omega
    have hold : (Builtin.firstCells i0.size n (.slice A n c)).run P w.drew = .ok (l.map byteV).toArray w.drew := by
      rw [hz1]
      rcases hx with ⟨h0, e1⟩ | ⟨g, o, cur, T, e1, hA, hh, hs, hcell⟩
      · have e3 : n = 0 := by omega
        subst e3
        have : l = [] := List.eq_nil_of_length_eq_zero hl
        subst this
        cases A with
        | none => exact run_firstCells_none w.drew 1 0 0 c
        | some a => exact run_firstCells_some w.drew 1 0 a 0 c [] (by simp) (fun j v hv => by simp at hv)
      · subst hA
        refine run_firstCells_some w.drew 1 n _ n c _ (by simp [hl]) (fun j v hv => ?_)
        rw [List.getElem?_map, Option.map_eq_some_iff] at hv
        obtain ⟨u, hu, rfl⟩ := hv
        rw [add_none]
        show w.cell? _ = _
        rw [cell_of_row w g _ cur T (0, 0) hh]
        exact hcell j u hu
    have hr := run_append_grow_src (P := P) w t t ty e i0 _ ht hi0 hz0 A n c (l.map byteV) hold (.slice A2 m c2) m (l2.map byteV) (by rw [hz1]; exact hsrc) hg (by omega) (growslice_fits hg (by rw [hz2]; omega))
    refine ⟨_, _, _, some w.heap.size, hr, ⟨by simp; omega, grownCap_ge _ _ _ _, grownCap_le_maxLen _ _ _ _ (by unfold maxLen; omega), .inr ⟨_, 0, _, e, rfl, rfl, heap_alloc_new w.drew _, ?_, fun j u hu => ?_⟩⟩, ?_, .inr rfl⟩
    · have := grownCap_ge w (n + m) c e
      simp only [Array.size_append, List.size_toArray, List.length_append, List.length_map, size_zeroCells, Value.cells]
      simp
      omega
    · rw [Nat.zero_add]
      have hj : j < (l ++ l2).length := (List.getElem?_eq_some_iff.1 hu).1
      rw [Array.getElem?_append_left (by simpa using hj), List.getElem?_toArray, ← List.map_append, List.getElem?_map, hu]
      rfl
    · exact ⟨rfl, rfl, rfl, by simp, fun k hk _ => Below.heap_alloc w.drew _ k hk⟩
end
end Go.Proofs.Ytiokcemlfdonnaa
namespace Go.Proofs.Ytiokcemlfdonnaa
open Go.RowKit
namespace Reg

/-- nothing below N turns -/
def extN (N : Nat) : Way := ⟨fun w w' => Below N w w', Below.refl N, fun _ _ _ h k => h.trans k, fun _ => ⟨rfl, rfl, rfl, Nat.le_refl _, fun _ _ => rfl⟩⟩

/-- a word on what has come up, the slots and the world -/
abbrev Word := Array Bool → Act → World → Prop
/-- what is to be shown of an operation, beside such a word -/
def OblJ {R : Way} (P : Program) (ops : Array Oper) (Q : Exit → Act → World → Prop) (T : List (SP R)) (J : Word) (a0 : Act) (W : World) (j : Nat) (o : Oper) (s : List (Tmp × Option Nat)) : Prop :=
  ∀ (listed : Array Bool) (a : Act) (w : World), R.rel W w → sights T a0 a w s → listed.size = ops.size → a.tmps.size = a0.tmps.size → listed.getD j true = false → (∀ i, waits ops j i = true → listed.getD i false = true) → J listed a w →
    (Region.wanted o (yielded ops a.tmps) = true → o.wp P a w (fun a' w' => Done T j o a w a' w' ∧ J (listed.setIfInBounds j true) a' w') Q) ∧
    (Region.wanted o (yielded ops a.tmps) = false → predAt T j undef w ∧ J (listed.setIfInBounds j true) (a.put o.dst undef) w)
def OblsJ {R : Way} (P : Program) (ops : Array Oper) (Q : Exit → Act → World → Prop) (T : List (SP R)) (J : Word) (a0 : Act) (W : World) : Nat → List Oper → List (List (Tmp × Option Nat)) → Prop
  | _, [], _ => True
  | j, o :: l, [] => OblJ P ops Q T J a0 W j o [] ∧ OblsJ P ops Q T J a0 W (j + 1) l []
  | j, o :: l, s :: L => OblJ P ops Q T J a0 W j o s ∧ OblsJ P ops Q T J a0 W (j + 1) l L

section
variable {R : Way} {P : Program} {ops : Array Oper} {Q : Exit → Act → World → Prop} {T : List (SP R)} {J : Word} {a0 a : Act} {W w : World}
theorem oblsJ_at : ∀ (l : List Oper) (k i : Nat) (o : Oper), OblsJ P ops Q T J a0 W k l (lookAll ops k l) → l[i]? = some o → OblJ P ops Q T J a0 W (k + i) o (look1 ops (k + i) o)
  | [], _, _, _, _, h => by simp at h
  | _ :: _, _, 0, _, hO, h => by
    simp at h
    subst h
    exact hO.1
  | _ :: l, k, i + 1, o, hO, h => by
    have := oblsJ_at l (k + 1) i o hO.2 (by simpa using h)
    rwa [show k + 1 + i = k + (i + 1) by omega] at this

theorem wpAny_J (hf : Form ops a0.tmps.size) (hobl : OblsJ P ops Q T J a0 W 0 ops.toList (lookAll ops 0 ops.toList)) (hfin : ∀ w' listed, R.rel W w' → (∀ i, i < ops.size → listed.getD i false = true) → Fin (fun a w => J listed a w → Q .normal a w) w' (ops.toList.map (·.dst)) T a0) :
    ∀ (fuel : Nat) (listed : Array Bool) (a : Act) (w : World), listed.toList.count false = fuel → Inv ops T a0 W listed a w → J listed a w → wpAny P .any ops Q fuel listed a w := by
  have hend : ∀ (listed : Array Bool) (a : Act) (w : World), Inv ops T a0 W listed a w → J listed a w → Region.ready .any ops listed = [] → Q .normal a w := by
    intro listed a w hI hJ hr
    have hall := all_listed hf hI.lsize hr
    have h1 := fin_of (fun a w => J listed a w → Q .normal a w) a ops.toList T a0 (hfin w listed hI.ext hall) (fun i o ho => by
      have ho' : ops[i]? = some o := by simpa using ho
      exact hI.vals i o ho' (hall i (Array.getElem?_eq_some_iff.1 ho').1))
    rw [foldl_put a ops.toList a0 hI.size.symm hI.defers.symm (fun t ht => (hI.other t fun i hi => by
      obtain ⟨o, ho, hd⟩ := writer_some hi
      exact absurd hd (ht o (by rw [Array.mem_toList_iff]; exact Array.mem_of_getElem? ho))).symm)] at h1
    exact h1 hJ
  intro fuel
  induction fuel with
  | zero =>
    intro listed a w hc hI hJ
    have hr : Region.ready .any ops listed = [] := by
      rw [List.eq_nil_iff_forall_not_mem]
      intro j hj
      have h1 := (mem_ready.1 hj).1
      rw [Array.getD_eq_getD_getElem?] at h1
      cases hx : listed[j]? with
      | none => rw [hx] at h1; cases h1
      | some b =>
        rw [hx] at h1
        have h2 : b = false := h1
        subst h2
        have h3 : false ∈ listed.toList := by rw [Array.mem_toList_iff]; exact Array.mem_of_getElem? hx
        have := List.count_pos_iff.2 h3
        omega
    exact ⟨hr, hend _ _ _ hI hJ hr⟩
  | succ fuel ih =>
    intro listed a w hc hI hJ
    refine ⟨hend _ _ _ hI hJ, fun j hj => ?_⟩
    obtain ⟨hun, o, ho, hall⟩ := mem_ready.1 hj
    have hO := oblsJ_at ops.toList 0 j o hobl (by simpa using ho)
    rw [Nat.zero_add] at hO
    obtain ⟨hy, hn⟩ := hO listed a w hI.ext (sights_mk j _ fun t ht => hI.sight hf ho hun hall ht) hI.lsize hI.size hun (fun i hi => by
      obtain ⟨o', ho', e, he, hb, rfl⟩ := waits_edge hi
      rw [ho] at ho'
      cases ho'
      exact hall e he hb) hJ
    have hcnt : (listed.setIfInBounds j true).toList.count false = fuel := by
      have hjl : j < listed.size := by rw [hI.lsize]; exact (Array.getElem?_eq_some_iff.1 ho).1
      have hx : listed.toList[j]? = some false := by
        rw [Array.getD_eq_getD_getElem?, Array.getElem?_eq_getElem hjl] at hun
        have h2 : listed[j] = false := hun
        simp [hjl, h2]
      have := count_set listed.toList j hx
      rw [Array.toList_setIfInBounds]
      omega
    unfold wpOp
    rw [ho]
    dsimp only
    split
    · rename_i hw
      exact .inl (Oper.wp_mono (fun a' w' ⟨⟨v, e, hz, hp, hb⟩, hJ'⟩ => by
        subst e
        exact ih _ _ _ hcnt (hI.step hf ho hun hall hp hz hb) hJ') (hy hw))
    · rename_i hw
      have h2 := hn (by simpa using hw)
      exact ih _ _ _ hcnt (hI.step hf ho hun hall h2.1 (fun _ => rfl) (R.refl w)) h2.2

/-- THE LAW beside a word -/
theorem wp_region_word {id : Nat} (J : Word) (T : List (SP R)) (n : Nat) (L : List (List (Tmp × Option Nat))) (hn : a0.tmps.size = n) (hm : P.follows .mixedOrders = true) (hc : checkB ops n = true) (hJ0 : ∀ w' listed, (∀ i, listed.getD i false = false) → J listed a0 w') (hL : lookAll ops 0 ops.toList = L) (hobl : OblsJ P ops Q T J a0 W 0 ops.toList L)
    (D : List (Option Tmp)) (hD : ops.toList.map (·.dst) = D) (hfin : ∀ w' listed, R.rel W w' → (∀ i, i < ops.size → listed.getD i false = true) → Fin (fun a w => J listed a w → Q .normal a w) w' D T a0) : (Code.region id ops true).wp P Q a0 W := by
  subst hn
  subst hL
  subst hD
  refine wp_region_any hm (wpAny_J (form_of hc) hobl hfin _ _ _ _ (by simp) ⟨R.drew W, rfl, rfl, by simp, fun _ _ => rfl, fun i o ho hl => ?_, fun i o ho hl e he hb => ?_⟩ (hJ0 _ _ fun i => ?_))
  · have hlt := (Array.getElem?_eq_some_iff.1 ho).1
    simp [hlt] at hl
  · have hlt := (Array.getElem?_eq_some_iff.1 ho).1
    simp [hlt] at hl
  · rw [Array.getD_eq_getD_getElem?]
    by_cases hi : i < ops.size
    · simp [hi]
    · simp [hi]
end
/-- boxes that the region makes (who makes it, its slot, who stores into it): what lies in them, and that they are apart -/
def Bx (N : Nat) (Z : Array Value) (X : Tmp → Array Value) (K : List (Nat × Tmp × Nat)) : Word := fun listed a w =>
  (∀ b ∈ K, listed.getD b.1 false = true → ∃ g, a.eval (.tmp b.2.1) = .pointer (some ⟨g, 0, none⟩) ∧ N ≤ g ∧ Str w g (if listed.getD b.2.2 false = true then X b.2.1 else Z)) ∧
  (∀ b ∈ K, ∀ c ∈ K, b ≠ c → listed.getD b.1 false = true → listed.getD c.1 false = true → a.eval (.tmp b.2.1) ≠ a.eval (.tmp c.2.1)) ∧
  (∀ b ∈ K, listed.getD b.2.2 false = true → listed.getD b.1 false = true)
def okK (K : List (Nat × Tmp × Nat)) : Prop := ∀ b ∈ K, ∀ c ∈ K, ((b.1 = c.1 ∨ b.2.1 = c.2.1 ∨ b.2.2 = c.2.2) → b = c) ∧ b.1 ≠ c.2.2
section
variable {N : Nat} {Z : Array Value} {X : Tmp → Array Value} {K : List (Nat × Tmp × Nat)} {listed : Array Bool} {a : Act} {w w' : World} {j : Nat}
theorem bx_zero (h : ∀ i, listed.getD i false = false) : Bx N Z X K listed a w :=
  ⟨fun b _ h1 => (by rw [h] at h1; cases h1), fun b _ c _ _ h1 => (by rw [h] at h1; cases h1), fun b _ h1 => (by rw [h] at h1; cases h1)⟩
theorem bx_ord {d : Option Tmp} {v : Value} (hk : ∀ b ∈ K, j ≠ b.1 ∧ j ≠ b.2.2 ∧ d ≠ some b.2.1) (h : Bx N Z X K listed a w) (hb : Below w.heap.size w w') : Bx N Z X K (listed.setIfInBounds j true) (a.put d v) w' := by
  obtain ⟨h1, h2, h3⟩ := h
  refine ⟨fun b hm hl => ?_, fun b hm c hc hne hl hl' => ?_, fun b hm hl => ?_⟩
  · obtain ⟨k1, k2, k3⟩ := hk b hm
    rw [getD_set_ne false k1] at hl
    rw [getD_set_ne false k2, eval_of (put_other a d v _ k3)]
    obtain ⟨g, e, hg, hs⟩ := h1 b hm hl
    exact ⟨g, e, hg, hs.next hb⟩
  · obtain ⟨k1, k2, k3⟩ := hk b hm
    obtain ⟨c1, c2, c3⟩ := hk c hc
    rw [getD_set_ne false k1] at hl
    rw [getD_set_ne false c1] at hl'
    rw [eval_of (put_other a d v _ k3), eval_of (put_other a d v _ c3)]
    exact h2 b hm c hc hne hl hl'
  · obtain ⟨k1, k2, k3⟩ := hk b hm
    rw [getD_set_ne false k2] at hl
    rw [getD_set_ne false k1]
    exact h3 b hm hl
theorem bx_alloc {b0 : Nat × Tmp × Nat} {ty : TypeId} (hK : okK K) (hm0 : b0 ∈ K) (hj : j = b0.1) (hlt : b0.2.1 < a.tmps.size) (hjl : j < listed.size) (hun : listed.getD j true = false) (hN : N ≤ w.heap.size) (h : Bx N Z X K listed a w) :
    Bx N Z X K (listed.setIfInBounds j true) (a.put (some b0.2.1) (.pointer (some ⟨w.heap.size, 0, none⟩))) (w.alloc (.cells Z ty)) := by
  subst hj
  obtain ⟨h1, h2, h3⟩ := h
  have hn : ∀ b ∈ K, b ≠ b0 → b0.1 ≠ b.1 ∧ (some b0.2.1 : Option Tmp) ≠ some b.2.1 := fun b hm hne =>
    ⟨fun e => hne ((hK b0 hm0 b hm).1 (.inl e)).symm, fun e => hne ((hK b0 hm0 b hm).1 (.inr (.inl (Option.some.inj e)))).symm⟩
  have hs : ∀ b ∈ K, b0.1 ≠ b.2.2 := fun b hm => (hK b0 hm0 b hm).2
  have hold : ∀ b ∈ K, b ≠ b0 → listed.getD b.1 false = true → (a.put (some b0.2.1) (.pointer (some ⟨w.heap.size, 0, none⟩))).eval (.tmp b.2.1) ≠ .pointer (some ⟨w.heap.size, 0, none⟩) := fun b hm hne hl => by
    rw [eval_of (put_other a _ _ _ (hn b hm hne).2)]
    obtain ⟨g, e, hg, hs⟩ := h1 b hm hl
    have := hs.lt
    rw [e]
    intro e2
    injection e2 with e3
    injection e3 with e4
    injection e4 with e5
    omega
  refine ⟨fun b hm hl => ?_, fun b hm c hc hne hl hl' => ?_, fun b hm hl => ?_⟩
  · by_cases hb : b = b0
    · subst hb
      refine ⟨w.heap.size, eval_put_same hlt, hN, ?_⟩
      rw [getD_set_ne false (hs b hm)]
      have : ¬ listed.getD b.2.2 false = true := fun e => by
        have := h3 b hm e
        rw [getD_ft hun] at this
        cases this
      rw [if_neg this]
      exact Str.new w Z ty
    · rw [getD_set_ne false (hn b hm hb).1] at hl
      rw [getD_set_ne false (hs b hm), eval_of (put_other a _ _ _ (hn b hm hb).2)]
      obtain ⟨g, e, hg, hs⟩ := h1 b hm hl
      exact ⟨g, e, hg, hs.alloc _⟩
  · by_cases hb : b = b0
    · subst hb
      have hcb : c ≠ b := fun e => hne e.symm
      rw [getD_set_ne false (hn c hc hcb).1] at hl'
      rw [eval_put_same hlt]
      exact (hold c hc hcb hl').symm
    · rw [getD_set_ne false (hn b hm hb).1] at hl
      by_cases hcb : c = b0
      · subst hcb
        rw [eval_put_same hlt]
        exact hold b hm hb hl
      · rw [getD_set_ne false (hn c hc hcb).1] at hl'
        rw [eval_of (put_other a _ _ _ (hn b hm hb).2), eval_of (put_other a _ _ _ (hn c hc hcb).2)]
        exact h2 b hm c hc hne hl hl'
  · rw [getD_set_ne false (hs b hm)] at hl
    exact getD_set_true (h3 b hm hl)
theorem bx_store {b0 : Nat × Tmp × Nat} {g : Nat} (hK : okK K) (hm0 : b0 ∈ K) (hj : j = b0.2.2) (hjl : j < listed.size) (ha : listed.getD b0.1 false = true) (hg : a.eval (.tmp b0.2.1) = .pointer (some ⟨g, 0, none⟩)) (h : Bx N Z X K listed a w) :
    Bx N Z X K (listed.setIfInBounds j true) a (w.setRow g (X b0.2.1)) := by
  subst hj
  obtain ⟨h1, h2, h3⟩ := h
  have hs : ∀ b ∈ K, b0.2.2 ≠ b.1 := fun b hm => Ne.symm (hK b hm b0 hm0).2
  refine ⟨fun b hm hl => ?_, fun b hm c hc hne hl hl' => ?_, fun b hm hl => ?_⟩
  · rw [getD_set_ne false (hs b hm)] at hl
    obtain ⟨g', e, hg', hs'⟩ := h1 b hm hl
    by_cases hb : b = b0
    · subst hb
      rw [hg] at e
      injection e with e3
      injection e3 with e4
      injection e4 with e5
      subst e5
      refine ⟨g, hg, hg', ?_⟩
      rw [getD_set_self hjl, if_pos rfl]
      exact hs'.setRow
    · refine ⟨g', e, hg', ?_⟩
      rw [getD_set_ne false (fun e => hb ((hK b0 hm0 b hm).1 (.inr (.inr e))).symm)]
      refine hs'.setRow_other fun e5 => ?_
      subst e5
      exact h2 b hm b0 hm0 hb hl ha (by rw [e, hg])
  · rw [getD_set_ne false (hs b hm)] at hl
    rw [getD_set_ne false (hs c hc)] at hl'
    exact h2 b hm c hc hne hl hl'
  · rw [getD_set_ne false (hs b hm)]
    by_cases hb : b = b0
    · subst hb
      exact ha
    · rw [getD_set_ne false (fun e => hb ((hK b0 hm0 b hm).1 (.inr (.inr e))).symm)] at hl
      exact h3 b hm hl
end
/-- what an operation leaves that turns nothing that is there -/
def DoneB {R : Way} (T : List (SP R)) (j : Nat) (o : Oper) (a : Act) (w : World) (a' : Act) (w' : World) : Prop := ∃ v, a' = a.put o.dst v ∧ (o.dst = none → v = undef) ∧ predAt T j v w' ∧ Below w.heap.size w w'
section
variable {N : Nat} {Z : Array Value} {X : Tmp → Array Value} {K : List (Nat × Tmp × Nat)} {P : Program} {ops : Array Oper} {Q : Exit → Act → World → Prop} {T : List (SP (extN N))} {a0 : Act} {W : World} {j : Nat} {o : Oper} {s : List (Tmp × Option Nat)}
theorem doneB {R : Way} {T : List (SP R)} {a : Act} {w w' : World} {v : Value} (hd : o.dst ≠ none) (hp : predAt T j v w') (hb : Below w.heap.size w w') : DoneB T j o a w (a.put o.dst v) w' := ⟨v, rfl, fun h => absurd h hd, hp, hb⟩
theorem wp_eqvB {R : Way} {T : List (SP R)} {a : Act} {w : World} {c : Value} (hd : o.dst ≠ none) (h : (execOp a.eval o).run P w = .ok (.value c) w) (hT : predAt T j c w) : o.wp P a w (DoneB T j o a w) Q := by
  unfold Oper.wp
  rw [h]
  exact ⟨c, rfl, fun h => absurd h hd, hT, bsame w⟩
theorem free {p q : Prop} {a : Act} (hg : o.guard = none) (h : p) : (Region.wanted o (yielded ops a.tmps) = true → p) ∧ (Region.wanted o (yielded ops a.tmps) = false → q) :=
  ⟨fun _ => h, fun hw => by simp [Region.wanted, hg] at hw⟩
theorem oblJ_ord (hg : o.guard = none) (hN : N = W.heap.size) (hk : ∀ b ∈ K, j ≠ b.1 ∧ j ≠ b.2.2 ∧ o.dst ≠ some b.2.1) (h : ∀ a w, Below W.heap.size W w → sights T a0 a w s → o.wp P a w (DoneB T j o a w) Q) :
    OblJ P ops Q T (Bx N Z X K) a0 W j o s := by
  intro listed a w hx hs _ _ _ _ hJ
  subst hN
  refine free hg (Oper.wp_mono (fun a' w' ⟨v, e, hz, hp, hb⟩ => ?_) (h a w hx hs))
  subst e
  exact ⟨⟨v, rfl, hz, hp, hb.mono hx.size⟩, bx_ord hk hJ hb⟩
theorem oblJ_alloc {t : Tmp} {js : Nat} (hg : o.guard = none) (hN : N = W.heap.size) (hK : okK K) (hm : (j, t, js) ∈ K) (hd : o.dst = some t) (ht : t < a0.tmps.size) (hj : j < ops.size) (hT : ∀ v w, predAt T j v w)
    (h : ∀ a w, Below W.heap.size W w → o.wp P a w (fun a' w' => ∃ ty, a' = a.put o.dst (.pointer (some ⟨w.heap.size, 0, none⟩)) ∧ w' = w.alloc (.cells Z ty)) Q) :
    OblJ P ops Q T (Bx N Z X K) a0 W j o s := by
  intro listed a w hx _ hls has hun _ hJ
  subst hN
  have hsz : W.heap.size ≤ w.heap.size := Below.size hx
  refine free hg (Oper.wp_mono (fun a' w' ⟨ty, e, e'⟩ => ?_) (h a w hx))
  subst e
  subst e'
  refine ⟨⟨_, rfl, fun h => (by rw [hd] at h; cases h), hT _ _, Below.alloc (Below.refl _ w) hsz _⟩, ?_⟩
  rw [hd]
  exact bx_alloc hK hm rfl (by rw [has]; exact ht) (by omega) hun hsz hJ
theorem oblJ_store {t : Tmp} {ja : Nat} (hg : o.guard = none) (hN : N = W.heap.size) (hK : okK K) (hm : (ja, t, j) ∈ K) (hd : o.dst = none) (hj : j < ops.size) (hw : waits ops j ja = true) (hT : ∀ v w, predAt T j v w)
    (h : ∀ a w g, Below W.heap.size W w → sights T a0 a w s → a.eval (.tmp t) = .pointer (some ⟨g, 0, none⟩) → Str w g Z → o.wp P a w (fun a' w' => a' = a ∧ w' = w.setRow g (X t)) Q) :
    OblJ P ops Q T (Bx N Z X K) a0 W j o s := by
  intro listed a w hx hs hls has hun hwt hJ
  subst hN
  obtain ⟨g, e, hg', hS⟩ := hJ.1 _ hm (hwt ja hw)
  dsimp only at e hS
  rw [if_neg (by rw [getD_ft hun]; simp)] at hS
  refine free hg (Oper.wp_mono (fun a' w' ⟨e1, e2⟩ => ?_) (h a w g hx hs e hS))
  subst e1
  subst e2
  refine ⟨⟨undef, by rw [hd]; rfl, fun _ => rfl, hT _ _, ?_⟩, bx_store hK hm rfl (by omega) (hwt ja hw) e hJ⟩
  exact below_setRow (Below.refl _ w) hg' _
end
end Reg
end Go.Proofs.Ytiokcemlfdonnaa
