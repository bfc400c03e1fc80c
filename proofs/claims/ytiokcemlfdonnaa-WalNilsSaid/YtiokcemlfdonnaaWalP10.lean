/-
  Parts of the proof of WalNils.
-/
import Derived.Test.YtiokcemlfdonnaaWalP9
import Derived.Test.YtiokcemlfdonnaaWalP1
import Derived.Test.YtiokcemlfdonnaaWalP5
import Derived.Test.YtiokcemlfdonnaaWalP0
import Derived.Lib.BufferWrite
import Derived.Lib.AppendZerosOnto
import Derived.Test.YtiokcemlfdonnaaWalP2
import Derived.Deep.AppendSrc
import Derived.Deep.Upon
import Derived.Deep.MidRow
section
namespace Go.Proofs.Ytiokcemlfdonnaa
open Go.RowKit
set_option linter.unusedVariables false
set_option linter.unusedSimpArgs false
instance (l : List RunX) : Decidable (PatchP.Asked l) := by unfold PatchP.Asked; infer_instance
instance (x : RecX) : Decidable (RefRec.Asked x) := by unfold RefRec.Asked; infer_instance
theorem RefRec.not_asked_yes {x : RecX} (h : RefRec.Asked x) : (!decide (RefRec.Asked x)) = false := by simp [h]
theorem RefRec.not_asked_no {x : RecX} (h : ¬ RefRec.Asked x) : (!decide (RefRec.Asked x)) = true := by simp [h]
namespace RefPatch
set_option maxRecDepth 100000 in
set_option maxHeartbeats 1000000 in
theorem much_is (A : Option Addr) (n c B : Nat) (l : List RunX) (w : World) (hE : Elems RunE w B A n c l) :
    Calls Try.prog 31 #[.slice A n c] w fun e w' => e = .returned (.bool (!decide (PatchP.Asked l))) ∧ w = w' := by
  have HE := Lib.hid hE
  have hlen := hE.len
  have hcap := hE.cap
  have hcm := hcap.2
  unfold maxLen at hcm
  clear hE
  go_enter Try.func31, Try.ntmps31
  go_wp2
  go_loopw [3] (fun iv wr => ∃ k : Nat, k ≤ n ∧ k ≤ 100 ∧ iv = .int .i64 (k : Int) ∧ wr = w ∧ Hid (∀ j x, j < k → l[j]? = some x → x.data.length ≤ 600)) (fun iv _ => n - (intOf iv).toNat)
  case atStart => exact ⟨0, Nat.zero_le _, by omega, rfl, rfl, Lib.hid (fun j x h => absurd h (by omega))⟩
  case round =>
    obtain ⟨k, hk, hk1, rfl, hwr, HK⟩ := hrel
    subst hwr
    by_cases hlt : k < n
    · have hd : decide ((k : Int) < (n : Int)) = true := by simpa using hlt
      by_cases h100 : k < 100
      · have hd2 : decide ((k : Int) < 100) = true := by simp; omega
        obtain ⟨b, o, x, A2, n2, c2, rfl, hb, hx, hy, hi, q0, q1⟩ := run_at HE.out hlt
        have hyl := hy.len
        have hki : (0 : Int) ≤ (k : Int) := by omega
        by_cases hB : 600 < n2
        · have hd3 : decide ((600 : Int) < (n2 : Int)) = true := by simp; omega
          have HR : Hid ((!decide (PatchP.Asked l)) = true) := Lib.hid (by rw [decide_eq_false (fun ha => absurd (ha.2 x (List.mem_of_getElem? hx)) (by omega))]; rfl)
          clear hy hi hx hyl
          go_wp2
          go_ret
          exact ⟨by rw [HR.out] <;> rfl, rfl⟩
        · have hd3 : decide ((600 : Int) < (n2 : Int)) = false := by simp; omega
          have HN : Hid (∀ j y, j < k + 1 → l[j]? = some y → y.data.length ≤ 600) := Lib.hid (fun j y hj hy => by
            by_cases e : j = k
            · subst e; rw [hx] at hy; cases hy; omega
            · exact HK.out j y (by omega) hy)
          clear hy hi hx hyl
          go_wp2
          go_roundw
          case rel => exact ⟨k + 1, by omega, by omega, by go_num, (by first | rfl | trivial), HN⟩
          case measure => simp [intOf]; omega
      · have hd2 : decide ((k : Int) < 100) = false := by simp; omega
        have hd5 : decide ((60 : Int) < (n : Int)) = true := by simp; omega
        have HR : Hid ((!decide (PatchP.Asked l)) = true) := Lib.hid (by rw [decide_eq_false (fun ha => absurd ha.1 (by omega))]; rfl)
        go_wp2
        go_ret
        exact ⟨by rw [HR.out] <;> rfl, rfl⟩
    · have hd : decide ((k : Int) < (n : Int)) = false := by simp; omega
      have HF : Hid (∀ x ∈ l, x.data.length ≤ 600) := Lib.hid (fun x hx => by
        obtain ⟨j, hj, rfl⟩ := List.getElem_of_mem hx
        exact HK.out j _ (by omega) (List.getElem?_eq_getElem hj))
      by_cases h60 : 60 < n
      · have hd5 : decide ((60 : Int) < (n : Int)) = true := by simp; omega
        have HR : Hid ((!decide (PatchP.Asked l)) = true) := Lib.hid (by rw [decide_eq_false (fun ha => absurd ha.1 (by omega))]; rfl)
        go_wp2
        go_ret
        exact ⟨by rw [HR.out] <;> rfl, rfl⟩
      · have hd5 : decide ((60 : Int) < (n : Int)) = false := by simp; omega
        have HL := Lib.hid hlen
        have HR : Hid ((!decide (PatchP.Asked l)) = false) := Lib.hid (by rw [decide_eq_true (show PatchP.Asked l from ⟨by rw [HL.out]; omega, HF.out⟩)]; rfl)
        go_wp2
        go_ret
        exact ⟨by rw [HR.out] <;> rfl, rfl⟩
end RefPatch
namespace RefRec
open RecW
set_option maxRecDepth 100000 in
set_option maxHeartbeats 4000000 in
theorem much_is (kd tx pv nx : Int) (A : Option Addr) (n c B : Nat) (l : List PatchX) (pact : Int) (puk : ByteArray) (Ap : Option Addr) (np cp Bp : Nat) (pst : Int) (pk : ByteArray) (pkd : Int) (pda : List UInt8) (plo phi pva : Int) (pun : Int) (w : World) (hE : Elems PatchE w B A n c l) (hB : B ≤ w.heap.size) (hp : Bytes w Bp Ap np cp pda) (hBp : Bp ≤ w.heap.size) (hpk : pk.size ≤ maxLen) (hpuk : puk.size ≤ maxLen) :
    Calls Try.prog 7 #[.agg #[.int .i64 kd, .int .i64 tx, .int .i64 pv, .int .i64 nx, .slice A n c, .int .i64 pact, .string puk, .int .i64 pst, .string pk, .int .i64 pkd, .slice Ap np cp, .int .i64 plo, .int .i64 phi, .int .i64 pva, .int .i64 pun]] w fun e w' => e = .returned (.bool (!decide (Asked ⟨kd, tx, pv, nx, l, ⟨pact, puk, ⟨pst, pk, ⟨pkd, pda, plo, phi, pva⟩⟩, pun⟩⟩))) ∧ Below w.heap.size w w' := by
  have HE := Lib.hid hE
  have hlen := hE.len
  have hcap := hE.cap
  have hcm := hcap.2
  unfold maxLen at hcm
  have hpl := hp.len
  have hpm := Nat.le_trans hp.2.1 hp.2.2.1
  unfold maxLen at hpm hpk hpuk
  have HPL := Lib.hid hpl
  have HLEN := Lib.hid hlen
  clear hE hp hpl
  obtain ⟨W0, hW0⟩ : ∃ W, w.alloc (.cells #[.int .i64 kd, .int .i64 tx, .int .i64 pv, .int .i64 nx, .slice A n c, .int .i64 pact, .string puk, .int .i64 pst, .string pk, .int .i64 pkd, .slice Ap np cp, .int .i64 plo, .int .i64 phi, .int .i64 pva, .int .i64 pun] 31) = W := ⟨_, rfl⟩
  obtain ⟨HS0, HB0, hw0, hz0⟩ := new1 hW0
  have g0 := str15 HS0.out
  have hl0 := HS0.out.lt
  clear hz0
  go_enter Try.func7, Try.ntmps7
  go_wp2
  go_loopw [3] (fun iv wr => ∃ k : Nat, k ≤ n ∧ k ≤ 10 ∧ iv = .int .i64 (k : Int) ∧ wr = W0 ∧ Hid (∀ j x, j < k → l[j]? = some x → PatchP.Asked x.runs)) (fun iv _ => n - (intOf iv).toNat)
  case atStart => exact ⟨0, Nat.zero_le _, by omega, rfl, rfl, Lib.hid (fun j x h => absurd h (by omega))⟩
  case round =>
    obtain ⟨k, hk, hk1, rfl, hwr, HK⟩ := hrel
    subst hwr
    by_cases hlt : k < n
    · have hd : decide ((k : Int) < (n : Int)) = true := by simpa using hlt
      by_cases h10 : k < 10
      · have hd2 : decide ((k : Int) < 10) = true := by simp; omega
        obtain ⟨b, o, x, A2, n2, c2, rfl, hb, hx, hy, hi, q0, q1, q2⟩ := patch_at HE.out hlt
        replace q2 := (HB0.out.cell (p := ⟨b, o + k * 3 + 2, none⟩) (by show b < _; omega)).trans q2
        have HX := Lib.hid hx
        have HY := Lib.hid hy
        have hki : (0 : Int) ≤ (k : Int) := by omega
        clear hx hy q0 q1
        go_wp2_with fail
        refine (RefPatch.much_is A2 n2 c2 B x.runs wr (HY.out.below (HB0.out.mono hB))).mono ?_
        rintro e w' ⟨rfl, rfl⟩
        cases hr : decide (PatchP.Asked x.runs) with
        | false =>
          have HR : Hid ((!decide (Asked ⟨kd, tx, pv, nx, l, ⟨pact, puk, ⟨pst, pk, ⟨pkd, pda, plo, phi, pva⟩⟩, pun⟩⟩)) = true) := Lib.hid (by rw [decide_eq_false (fun ha => of_decide_eq_false hr (ha.2.1 x (List.mem_of_getElem? HX.out)))]; rfl)
          clear hr
          go_wp2
          go_ret
          exact ⟨by rw [HR.out] <;> rfl, HB0.out⟩
        | true =>
          have HR := Lib.hid (of_decide_eq_true hr)
          have HN : Hid (∀ j y, j < k + 1 → l[j]? = some y → PatchP.Asked y.runs) := Lib.hid (fun j y hj hy => by
            by_cases e : j = k
            · subst e; rw [HX.out] at hy; cases hy; exact HR.out
            · exact HK.out j y (by omega) hy)
          clear hr
          go_wp2
          go_roundw
          case rel => exact ⟨k + 1, by omega, by omega, by go_num, (by first | rfl | trivial), HN⟩
          case measure => simp [intOf]; omega
      · have hd2 : decide ((k : Int) < 10) = false := by simp; omega
        have hd5 : decide ((6 : Int) < (n : Int)) = true := by simp; omega
        have HR : Hid ((!decide (Asked ⟨kd, tx, pv, nx, l, ⟨pact, puk, ⟨pst, pk, ⟨pkd, pda, plo, phi, pva⟩⟩, pun⟩⟩)) = true) := Lib.hid (by rw [decide_eq_false (fun ha => absurd ha.1 (by show ¬ l.length ≤ 6; rw [HLEN.out]; omega))]; rfl)
        go_wp2
        go_ret
        exact ⟨by rw [HR.out] <;> rfl, HB0.out⟩
    · have hd : decide ((k : Int) < (n : Int)) = false := by simp; omega
      have HF : Hid (∀ x ∈ l, PatchP.Asked x.runs) := Lib.hid (fun x hx => by
        obtain ⟨j, hj, rfl⟩ := List.getElem_of_mem hx
        exact HK.out j _ (by omega) (List.getElem?_eq_getElem hj))
      by_cases h6 : 6 < n
      · have hd5 : decide ((6 : Int) < (n : Int)) = true := by simp; omega
        have HR : Hid ((!decide (Asked ⟨kd, tx, pv, nx, l, ⟨pact, puk, ⟨pst, pk, ⟨pkd, pda, plo, phi, pva⟩⟩, pun⟩⟩)) = true) := Lib.hid (by rw [decide_eq_false (fun ha => absurd ha.1 (by show ¬ l.length ≤ 6; rw [HLEN.out]; omega))]; rfl)
        go_wp2
        go_ret
        exact ⟨by rw [HR.out] <;> rfl, HB0.out⟩
      have hd5 : decide ((6 : Int) < (n : Int)) = false := by simp; omega
      by_cases hu : 300 < puk.size
      · have hd6 : decide ((300 : Int) < (puk.size : Int)) = true := by simp; omega
        have HR : Hid ((!decide (Asked ⟨kd, tx, pv, nx, l, ⟨pact, puk, ⟨pst, pk, ⟨pkd, pda, plo, phi, pva⟩⟩, pun⟩⟩)) = true) := Lib.hid (by rw [decide_eq_false (fun ha => absurd ha.2.2.1 (by show ¬ puk.size ≤ 300; omega))]; rfl)
        go_wp2
        go_ret
        exact ⟨by rw [HR.out] <;> rfl, HB0.out⟩
      have hd6 : decide ((300 : Int) < (puk.size : Int)) = false := by simp; omega
      by_cases hv : 300 < pk.size
      · have hd7 : decide ((300 : Int) < (pk.size : Int)) = true := by simp; omega
        have HR : Hid ((!decide (Asked ⟨kd, tx, pv, nx, l, ⟨pact, puk, ⟨pst, pk, ⟨pkd, pda, plo, phi, pva⟩⟩, pun⟩⟩)) = true) := Lib.hid (by rw [decide_eq_false (fun ha => absurd ha.2.2.2.1 (by show ¬ pk.size ≤ 300; omega))]; rfl)
        go_wp2
        go_ret
        exact ⟨by rw [HR.out] <;> rfl, HB0.out⟩
      have hd7 : decide ((300 : Int) < (pk.size : Int)) = false := by simp; omega
      by_cases hx : 300 < np
      · have hd8 : decide ((300 : Int) < (np : Int)) = true := by simp; omega
        have HR : Hid ((!decide (Asked ⟨kd, tx, pv, nx, l, ⟨pact, puk, ⟨pst, pk, ⟨pkd, pda, plo, phi, pva⟩⟩, pun⟩⟩)) = true) := Lib.hid (by rw [decide_eq_false (fun ha => absurd ha.2.2.2.2 (by show ¬ pda.length ≤ 300; rw [HPL.out]; omega))]; rfl)
        go_wp2
        go_ret
        exact ⟨by rw [HR.out] <;> rfl, HB0.out⟩
      have hd8 : decide ((300 : Int) < (np : Int)) = false := by simp; omega
      have HR : Hid ((!decide (Asked ⟨kd, tx, pv, nx, l, ⟨pact, puk, ⟨pst, pk, ⟨pkd, pda, plo, phi, pva⟩⟩, pun⟩⟩)) = false) := Lib.hid (by rw [decide_eq_true (show Asked ⟨kd, tx, pv, nx, l, ⟨pact, puk, ⟨pst, pk, ⟨pkd, pda, plo, phi, pva⟩⟩, pun⟩⟩ from ⟨by show l.length ≤ 6; rw [HLEN.out]; omega, HF.out, by show puk.size ≤ 300; omega, by show pk.size ≤ 300; omega, by show pda.length ≤ 300; rw [HPL.out]; omega⟩)]; rfl)
      go_wp2
      go_ret
      exact ⟨by rw [HR.out] <;> rfl, HB0.out⟩
end RefRec
end Go.Proofs.Ytiokcemlfdonnaa
end
section
namespace Go.Proofs.Ytiokcemlfdonnaa
open Go.RowKit
set_option maxRecDepth 100000

theorem arr64 : ArrT Try.prog 107 64 := ⟨⟨5, Try.underlying107, Try.underlying5, Be.sizeU8⟩, by kernel_rfl, by kernel_rfl⟩
theorem al64_fold : Instr.alloc 107 true (.tuple #[]) = alSem 107 := rfl
theorem bd64_fold (ps : Array (Nat × Value)) : Instr.build 107 ps = bdSem 107 ps := rfl
theorem ld64_fold (v : Value) : Instr.loadAt 107 v = ldSem 107 v := rfl
theorem st64_fold (a v : Value) : Instr.storeAt 107 a v = stSem 107 a v := rfl
theorem arrPage : ArrT Try.prog 136 512 := ⟨⟨5, Try.underlying136, Try.underlying5, Be.sizeU8⟩, by kernel_rfl, by kernel_rfl⟩
theorem alPage_fold : Instr.alloc 136 true (.tuple #[]) = alSem 136 := rfl
theorem bdPage_fold (ps : Array (Nat × Value)) : Instr.build 136 ps = bdSem 136 ps := rfl
theorem ldPage_fold (v : Value) : Instr.loadAt 136 v = ldSem 136 v := rfl
theorem stPage_fold (a v : Value) : Instr.storeAt 136 a v = stSem 136 a v := rfl
theorem sl64_fold (x : Value) (lo hi mx : Option Value) : Instr.sliceAt 107 x lo hi mx = slSem 107 x lo hi mx := rfl
end Go.Proofs.Ytiokcemlfdonnaa
end
section
namespace Go.Proofs.Ytiokcemlfdonnaa
open Go.RowKit
open SlotP (over)

def cpSem (ts : Array TypeId) (ty : TypeId) (args : Array Value) : Sem Value := Builtin.copy_ ts ty args
theorem cp_fold (ts : Array TypeId) (ty : TypeId) (args : Array Value) : Builtin.copy_ ts ty args = cpSem ts ty args := rfl

theorem splice_map (l : List UInt8) (off : Nat) (s : List UInt8) : splice (l.map byteV) off (s.map byteV) = (over l off s).map byteV := by
  simp [splice, over]
theorem Str.cs {w : World} {b : Nat} {l : List UInt8} {t : TypeId} (h : w.heap[b]? = some (.cells ((l.map byteV).toArray) t (0, 0))) : Str w b (rowV l) := ⟨t, h⟩

section
variable {P : Program} {w : World}
theorem copy_bytes (dT sT ty e : TypeId) (hu : P.underlying dT = some (.slice e)) (hsz : (P.info? e).map (·.size) = some 1) {g off dLen dCap : Nat} {l : List UInt8} (hg : Str w g (rowV l))
    {B m c : Nat} {A : Option Addr} {src : List UInt8} (hs : Bytes w B A m c src) (hfit : off + dLen ≤ l.length) :
    ∃ w1, (cpSem #[dT, sT] ty #[.slice (some ⟨g, off, none⟩) dLen dCap, .slice A m c]).run P w = .ok (.int .i64 (Nat.min m dLen : Nat)) w1 ∧ Str w1 g (rowV (over l off (src.take dLen))) ∧ w.grownBy w1 (some g) := by
  obtain ⟨t, hg⟩ := hg
  have hl := hs.len
  have hlen : ((src.take dLen).map byteV).length = Nat.min m dLen := by
    simp only [List.length_map, List.length_take, hl]
    exact Nat.min_comm _ _
  obtain ⟨w1, hr, hh, hgr⟩ := run_copy_to (P := P) (w := w) dT sT ty e hu hsz (some ⟨g, off, none⟩) dLen dCap g off (l.map byteV) t hg A m c ((src.take dLen).map byteV) hlen
    (fun hpos => ⟨rfl, by
      obtain ⟨ad, e1, e2⟩ := hs.src (by simp at hpos ⊢; omega)
      refine ⟨ad, e1, fun j v hv => e2 j v ?_⟩
      rw [List.map_take, List.getElem?_take] at hv
      split at hv
      · exact hv
      · cases hv⟩) (by simp; omega) (byteV_one _)
  refine ⟨w1, ?_, ?_, hgr⟩
  · rw [hlen] at hr
    exact hr
  · rw [splice_map] at hh
    exact ⟨t, hh⟩
theorem copy_string (dT sT ty e : TypeId) (hu : P.underlying dT = some (.slice e)) (hsz : (P.info? e).map (·.size) = some 1) {g off dLen dCap : Nat} {l : List UInt8} (hg : Str w g (rowV l))
    (s : ByteArray) (hm : s.size ≤ dLen) (hfit : off + dLen ≤ l.length) :
    ∃ w1, (cpSem #[dT, sT] ty #[.slice (some ⟨g, off, none⟩) dLen dCap, .string s]).run P w = .ok (.int .i64 (s.size : Nat)) w1 ∧ Str w1 g (rowV (over l off s.data.toList)) ∧ w.grownBy w1 (some g) := by
  obtain ⟨t, hg⟩ := hg
  have hr := Lib.run_copy_row_string (P := P) w dT sT ty e g off dLen dCap s (rowV l) t hu hsz hg hm (by rw [rowV_size]; omega)
  have hl : s.data.toList.length = s.size := Array.length_toList
  refine ⟨_, hr, ⟨t, ?_⟩, grown_setRow w g _⟩
  have he : ((rowV l).toList.take off ++ Lib.byteCells s.data.toList ++ (rowV l).toList.drop (off + s.size)).toArray = rowV (over l off s.data.toList) := by
    have hb : Lib.byteCells s.data.toList = s.data.toList.map byteV := rfl
    rw [hb]
    simp [rowV, over, hl]
  rw [he]
  exact setRow_heap w g _ _ t _ hg
end
end Go.Proofs.Ytiokcemlfdonnaa
end
section
namespace Go.Proofs.Ytiokcemlfdonnaa
open Go.RowKit
set_option linter.unusedVariables false

/-- cells put over others -/
def overV (l : List Value) (off : Nat) (s : List Value) : List Value := l.take off ++ (s ++ l.drop (off + s.length))
theorem overV_length (l : List Value) (off : Nat) (s : List Value) (h : off + s.length ≤ l.length) : (overV l off s).length = l.length := by
  simp [overV]; omega
theorem overV_append (p q s : List Value) (off : Nat) (h : off + s.length ≤ p.length) : overV (p ++ q) off s = overV p off s ++ q := by
  unfold overV
  rw [List.take_append_of_le_length (by omega), List.drop_append_of_le_length (by omega)]
  simp [List.append_assoc]
theorem overV_shift (p q s : List Value) (off : Nat) : overV (p ++ q) (p.length + off) s = p ++ overV q off s := by
  unfold overV
  rw [List.take_length_add_append, Nat.add_assoc, List.drop_length_add_append, List.append_assoc]
/-- a part of one element written: among all -/
theorem over_flat {size : Nat} : ∀ (vs : List (List Value)), (∀ v ∈ vs, v.length = size) → ∀ (j : Nat) (v : List Value) (i : Nat) (s : List Value), vs[j]? = some v → i + s.length ≤ size → overV vs.flatten (j * size + i) s = (vs.set j (overV v i s)).flatten
  | [], _, j, v, i, s, h, _ => by simp at h
  | v0 :: vs, hl, 0, v, i, s, h, hi => by
    simp at h; subst h
    rw [List.flatten_cons, Nat.zero_mul, Nat.zero_add, overV_append _ _ _ _ (by rw [hl v0 (by simp)]; exact hi)]
    rfl
  | v0 :: vs, hl, j + 1, v, i, s, h, hi => by
    have h0 := hl v0 (by simp)
    have := over_flat vs (fun x hx => hl x (by simp [hx])) j v i s (by simpa using h) hi
    rw [List.flatten_cons, show (j + 1) * size + i = v0.length + (j * size + i) by rw [h0, Nat.add_mul]; omega, overV_shift, this]
    rfl
theorem Rel2.all {α : Type} {E : El α} {w : World} {B : Nat} {vs : List (List Value)} {l : List α} (h : Rel2 (E.rel w B) vs l) : ∀ v ∈ vs, v.length = E.size := fun v hv => by
  obtain ⟨x, hx⟩ := h.mem hv
  exact E.len hx
theorem Rel2.one {α : Type} {E : El α} {w : World} {B : Nat} {vs : List (List Value)} {l : List α} (h : Rel2 (E.rel w B) vs l) : ∀ u ∈ vs.flatten, u.oneCell' = true := fun u hu => by
  obtain ⟨v, hv, huv⟩ := List.mem_flatten.1 hu
  obtain ⟨x, hx⟩ := h.mem hv
  exact E.one hx u huv
theorem sz_setRow (w : World) (g : Nat) (cs : Array Value) : (w.setRow g cs).heap.size = w.heap.size := by simp [World.setRow]
theorem hide_setRow (w : World) (g B : Nat) (cs : Array Value) : Sub B (hide w g) (hide (w.setRow g cs) g) := hide_sub_of fun k _ hk => setRow_other w g k cs hk
section
variable {α : Type} {E : El α} {T : TypeId} {w w' : World} {base n c : Nat} {A : Option Addr} {l : List α}
/-- what is known of a row of the call's own that is not nil -/
theorem OwnE.row (h : OwnE E T w base A n c l) (hn : 0 < c) : ∃ g cur vs, A = some ⟨g, 0, none⟩ ∧ base ≤ g ∧ w.heap[g]? = some (.cells cur T (0, 0)) ∧ n ≤ c ∧ c ≤ maxLen ∧ cur.size = c * E.size ∧ cur.toList.take (n * E.size) = vs.flatten ∧ Rel2 (E.rel (hide w g) w.heap.size) vs l ∧ vs.length = n := by
  have hl := h.len
  obtain ⟨vs, h1, h2⟩ := h
  rcases h1.2 with ⟨e, h0⟩ | ⟨g, cap, cur, e, hg, hh, hnc, hm, hc, hx⟩
  · cases e; omega
  · cases e
    exact ⟨g, cur, vs, rfl, hg, hh, hnc, hm, hc, hx, h2, h2.length.trans hl⟩
theorem OwnE.mk' {g : Nat} {cur : List Value} {vs : List (List Value)} (hg : base ≤ g) (hh : w.heap[g]? = some (.cells cur.toArray T (0, 0))) (hnc : n ≤ c) (hm : c ≤ maxLen) (hc : cur.length = c * E.size) (hx : cur.take (n * E.size) = vs.flatten) (hr : Rel2 (E.rel (hide w g) w.heap.size) vs l) (hl : l.length = n) : OwnE E T w base (some ⟨g, 0, none⟩) n c l :=
  ⟨vs, ⟨by rw [hr.flat (fun _ _ => E.len), hl], .inr ⟨g, c, cur.toArray, rfl, hg, hh, hnc, hm, by simpa using hc, by simpa using hx⟩⟩, hr⟩
/-- a part of an element is written -/
theorem OwnE.write {P : Program} (h : OwnE E T w base A n c l) {j i : Nat} {s : List Value} {x : α} (hj : j < n) (hi : i + s.length ≤ E.size) (h1 : ∀ v ∈ s, v.oneCell' = true) (hrel : ∀ g vs, A = some ⟨g, 0, none⟩ → (∀ y, l[j]? = some y → E.rel (hide w g) w.heap.size vs y) → E.rel (hide w g) w.heap.size (overV vs i s) x) :
    ∃ g w1, A = some ⟨g, 0, none⟩ ∧ base ≤ g ∧ g < w.heap.size ∧ (storeCells ⟨g, j * E.size + i, none⟩ s).run P w = .ok () w1 ∧ OwnE E T w1 base A n c (l.set j x) ∧ w.grownBy w1 (some g) ∧ w1.heap.size = w.heap.size := by
  have hlen := h.len
  have hcap := h.elemsIn.cap
  obtain ⟨g, cur, vs, rfl, hg, hh, hnc, hm, hc, hx, hr, hvl⟩ := h.row (by omega)
  have hgl := (Array.getElem?_eq_some_iff.1 hh).1
  have hjs : j * E.size + E.size ≤ n * E.size := by rw [← Nat.succ_mul]; exact Nat.mul_le_mul_right _ hj
  have hns : n * E.size ≤ c * E.size := Nat.mul_le_mul_right _ hnc
  have hrun := run_storeCells_at P g (j * E.size + i) T s 0 cur w hh (by rw [hc]; omega) h1
  simp only [Nat.add_zero] at hrun
  obtain ⟨v, hv, hvr⟩ := hr.get (List.getElem?_eq_getElem (show j < l.length by omega))
  have hov : (cur.toList.take (j * E.size + i) ++ s ++ cur.toList.drop (j * E.size + i + s.length)) = overV cur.toList (j * E.size + i) s := by simp [overV]
  rw [hov] at hrun
  have hsplit : cur.toList = vs.flatten ++ cur.toList.drop (n * E.size) := by rw [← hx, List.take_append_drop]
  have hfl : vs.flatten.length = n * E.size := by rw [hr.flat (fun _ _ => E.len), hlen]
  have hnew : overV cur.toList (j * E.size + i) s = (vs.set j (overV v i s)).flatten ++ cur.toList.drop (n * E.size) := by
    rw [← over_flat vs hr.all j v i s hv hi, ← overV_append _ _ _ _ (by rw [hfl]; omega), ← hsplit]
  have hnl : (overV cur.toList (j * E.size + i) s).length = c * E.size := by rw [overV_length _ _ _ (by simp [hc]; omega)]; simpa using hc
  refine ⟨g, _, rfl, hg, hgl, hrun, ?_, grown_setRow w g _, sz_setRow _ _ _⟩
  have hset := hr.set (hrel g v rfl (fun y hy => by
    rw [List.getElem?_eq_getElem (show j < l.length by omega)] at hy
    cases hy
    exact hvr)) j
  have hfl2 : (vs.set j (overV v i s)).flatten.length = n * E.size := by rw [hset.flat (fun _ _ => E.len), List.length_set, hlen]
  exact OwnE.mk' hg (setRow_heap w g _ _ T _ hh) hnc hm hnl (by rw [hnew, List.take_left' hfl2]) (hset.imp fun _ _ hq => by rw [sz_setRow]; exact E.sub (hide_setRow _ _ _ _) hq) (by simpa using hlen)
/-- made -/
theorem own_made {P : Program} (t : TypeId) (i : TypeInfo) (z : Value) (zs : List Value) (x : α) (ht : P.underlying t = some (.slice T)) (hi : P.info? T = some i) (hz : i.zero = some z) (hs : i.size = E.size) (hzs : z.cells = zs.toArray) (hrel : ∀ w B, E.rel w B zs x)
    (n : Nat) (hbytes : i.bytes * n ≤ 281474976710656) (h63 : n ≤ 100000) (w : World) : ∃ w1, (Instr.makeSlice t (.int .i64 (n : Int)) (.int .i64 (n : Int))).run P w = .ok (.slice (some ⟨w.heap.size, 0, none⟩) n n) w1 ∧ OwnE E T w1 w.heap.size (some ⟨w.heap.size, 0, none⟩) n n (List.replicate n x) ∧ Below w.heap.size w w1 ∧ w1.heap.size = w.heap.size + 1 := by
  have hb' : (i.bytes : Int) * (n : Int) ≤ 281474976710656 := by
    have h : ((i.bytes * n : Nat) : Int) ≤ 281474976710656 := by omega
    rwa [Int.natCast_mul] at h
  have hr := run_make (P := P) w t T i z ht hi hz .i64 .i64 n n (by omega) (Int.le_refl _) hb' (by omega)
  simp only [Int.toNat_natCast] at hr
  refine ⟨_, hr, ?_, balloc (bsame w) _, by simp⟩
  have hzl : zs.length = E.size := E.len (hrel w 0)
  have hcells : (madeCells z.cells (n * i.size)).toList = (List.replicate n zs).flatten := by
    rw [hs, hzs]
    refine List.ext_getElem? fun k => ?_
    have hsz : 0 < E.size := E.pos
    by_cases hk : k < n * E.size
    · have hq : k / E.size < n := Nat.div_lt_of_lt_mul (by have := Nat.mul_comm n E.size; omega)
      have hrm : k % E.size < zs.length := by rw [hzl]; exact Nat.mod_lt _ hsz
      have h1 := flat_at (size := E.size) (List.replicate n zs) (fun v hv => by rw [(List.mem_replicate.1 hv).2]; exact hzl) (k / E.size) zs (k % E.size) zs[k % E.size] (by simp [hq]) (List.getElem?_eq_getElem hrm)
      rw [show k / E.size * E.size + k % E.size = k from Nat.div_add_mod' k E.size] at h1
      rw [h1]
      simp only [madeCells, Array.toList_map, Array.toList_range, List.getElem?_map, List.getElem?_range hk, Option.map_some, Option.some.injEq]
      have : zs.toArray.size = E.size := by simpa using hzl
      rw [this, getElem!_pos zs.toArray (k % E.size) (by simpa using hrm)]
      simp
    · rw [List.getElem?_eq_none (by simp [madeCells]; omega), List.getElem?_eq_none]
      simp [hzl]; omega
  have hrl : Rel2 (E.rel (hide (w.alloc (.cells (madeCells z.cells (n * i.size)) T)) w.heap.size) (w.alloc (.cells (madeCells z.cells (n * i.size)) T)).heap.size) (List.replicate n zs) (List.replicate n x) := by
    clear hr hcells hb' hbytes h63
    generalize hide (w.alloc (.cells (madeCells z.cells (n * i.size)) T)) w.heap.size = u
    generalize (w.alloc (.cells (madeCells z.cells (n * i.size)) T)).heap.size = B
    induction n with
    | zero => trivial
    | succ n ih => exact ⟨hrel _ _, ih⟩
  exact OwnE.mk' (cur := (List.replicate n zs).flatten) (Nat.le_refl _) (by rw [← hcells]; simpa using heap_alloc_new w (.cells (madeCells z.cells (n * i.size)) T)) (Nat.le_refl _) (by unfold maxLen; omega) (by simp [hzl]) (by rw [List.take_of_length_le (by simp [hzl])]) hrl (by simp)
end
end Go.Proofs.Ytiokcemlfdonnaa
end
section
namespace Go.Proofs.Ytiokcemlfdonnaa
open Go.RowKit
set_option linter.unusedVariables false
theorem splice_cons (cur : List Value) (o : Nat) (v : Value) (r : List Value) (h : o < cur.length) : splice (cur.set o v) (o + 1) r = splice cur o (v :: r) := by
  have e : (cur.set o v).take (o + 1) = cur.take o ++ [v] := by
    refine List.ext_getElem? fun j => ?_
    have hl : (cur.take o).length = o := by rw [List.length_take]; omega
    rcases Nat.lt_trichotomy j o with hj | rfl | hj
    · rw [List.getElem?_take_of_lt (by omega), List.getElem?_set_ne (by omega), List.getElem?_append_left (by omega), List.getElem?_take_of_lt hj]
    · rw [List.getElem?_take_of_lt (by omega), List.getElem?_set_self h, List.getElem?_append_right (by omega), hl]
      simp
    · rw [List.getElem?_eq_none (by simp; omega), List.getElem?_eq_none (by simp; omega)]
  unfold splice
  rw [e, List.drop_set_of_lt (by omega)]
  simp [Nat.add_assoc, Nat.add_comm 1]
theorem setCells_heap (b : Nat) : ∀ (vs : List Value) (o : Nat) (w : World) (cur : Array Value) (t : TypeId), w.heap[b]? = some (.cells cur t (0, 0)) → o + vs.length ≤ cur.size → (w.setCells b o vs).heap[b]? = some (.cells (splice cur.toList o vs).toArray t (0, 0))
  | [], o, w, cur, t, h, _ => by
    rw [World.setCells, h]
    simp [splice]
  | v :: r, o, w, cur, t, h, hl => by
    rw [World.setCells]
    have hl' : o + 1 + r.length ≤ cur.size := by simp at hl; omega
    have h1 : (w.setCell ⟨b, o, none⟩ v).heap[b]? = some (.cells (cur.setIfInBounds o v) t (0, 0)) := by simp [World.setCell, Array.getElem?_modify, h]
    rw [setCells_heap b r (o + 1) _ _ t h1 (by simpa using hl'), Array.toList_setIfInBounds, splice_cons _ _ _ _ (by simp at hl ⊢; omega)]
theorem grown_setCells (b : Nat) : ∀ (vs : List Value) (o : Nat) (w0 w : World), w0.grownBy w (some b) → w0.grownBy (w.setCells b o vs) (some b)
  | [], _, _, _, h => h
  | v :: r, o, w0, w, h => by
    rw [World.setCells]
    exact grown_setCells b r (o + 1) w0 _ (grown_set h o v)
theorem splice_get_in {cur vs : List Value} {o j : Nat} (h : o + vs.length ≤ cur.length) (hj : j < vs.length) : (splice cur o vs)[o + j]? = vs[j]? := by
  unfold splice
  have h0 : (cur.take o).length = o := by rw [List.length_take]; omega
  rw [List.getElem?_append_right (by omega), h0, List.getElem?_append_left (by omega)]
  congr 1
  omega
theorem splice_get_out {cur vs : List Value} {o j : Nat} (h : o + vs.length ≤ cur.length) (hj : j < o ∨ o + vs.length ≤ j) : (splice cur o vs)[j]? = cur[j]? := by
  unfold splice
  have h0 : (cur.take o).length = o := by rw [List.length_take]; omega
  rcases hj with hj | hj
  · rw [List.getElem?_append_left (by omega), List.getElem?_take_of_lt hj]
  · rw [List.getElem?_append_right (by omega), h0, List.getElem?_append_right (by omega), List.getElem?_drop]
    congr 1
    omega
theorem splice_len {cur vs : List Value} {o : Nat} (h : o + vs.length ≤ cur.length) : (splice cur o vs).length = cur.length := by
  unfold splice
  simp
  omega
/-- the block that such a slice lies in, if it has room -/
def OwnS (w : World) (gb : Option Nat) (A : Option Addr) (n c : Nat) (l : List UInt8) : Prop :=
  l.length = n ∧ n ≤ c ∧ c ≤ maxLen ∧ ((c = 0 ∧ gb = none) ∨ ∃ (g o : Nat) (cur : Array Value) (T : TypeId), gb = some g ∧ A = some ⟨g, o, none⟩ ∧ w.heap[g]? = some (.cells cur T (0, 0)) ∧ o + c ≤ cur.size ∧ ∀ (j : Nat) u, l[j]? = some u → cur[o + j]? = some (byteV u))
section
variable {w w' : World} {gb : Option Nat} {A : Option Addr} {n c : Nat} {l : List UInt8}
theorem OwnS.len (h : OwnS w gb A n c l) : l.length = n := h.1
theorem OwnS.none_ (w : World) : OwnS w none none 0 0 [] := ⟨rfl, Nat.le_refl _, by unfold maxLen; omega, .inl ⟨rfl, rfl⟩⟩
theorem OwnS.lt (h : OwnS w gb A n c l) : ∀ g, gb = some g → g < w.heap.size := by
  intro g hg
  obtain ⟨-, -, -, (⟨-, e⟩ | ⟨g', o, cur, T, e, -, hh, -⟩)⟩ := h
  · rw [e] at hg; cases hg
  · rw [e] at hg; cases hg; exact (Array.getElem?_eq_some_iff.1 hh).1
theorem OwnS.at_ (h : OwnS w gb A n c l) (hb : ∀ g, gb = some g → w'.heap[g]? = w.heap[g]?) : OwnS w' gb A n c l := by
  obtain ⟨h1, h2, h3, (h4 | ⟨g, o, cur, T, e, hA, hh, r⟩)⟩ := h
  · exact ⟨h1, h2, h3, .inl h4⟩
  · exact ⟨h1, h2, h3, .inr ⟨g, o, cur, T, e, hA, (hb g e).trans hh, r⟩⟩
theorem OwnS.next (h : OwnS w gb A n c l) (hb : Below w.heap.size w w') : OwnS w' gb A n c l := h.at_ fun g e => hb.block g (h.lt g e)
theorem OwnS.grown {g : Nat} (h : OwnS w gb A n c l) (hg : w.grownBy w' (some g)) (hne : gb ≠ some g) : OwnS w' gb A n c l := h.at_ fun k e => hg.block k (h.lt k e) (by rw [← e]; exact hne)
theorem OwnS.bytes (h : OwnS w gb A n c l) : Bytes w w.heap.size A n c l := by
  obtain ⟨h1, h2, h3, (⟨h4, -⟩ | ⟨g, o, cur, T, e, hA, hh, hs, hc⟩)⟩ := h
  · exact ⟨h1, h2, h3, fun hn => absurd hn (by omega)⟩
  · exact ⟨h1, h2, h3, fun _ => ⟨g, o, hA, (Array.getElem?_eq_some_iff.1 hh).1, fun j u hu => by rw [cell_of_row w g (o + j) cur T (0, 0) hh]; exact hc j u hu⟩⟩
/-- a part of it -/
theorem OwnS.cut (h : OwnS w gb A n c l) (lo hi m : Nat) (h1 : lo ≤ hi) (h2 : hi ≤ n) (h3 : hi ≤ m) (h4 : m ≤ c) : ∃ gb', OwnS w gb' (cutA A lo m 1) (hi - lo) (m - lo) ((l.drop lo).take (hi - lo)) ∧ (gb' = gb ∨ gb' = none) := by
  obtain ⟨hl, hc, hm, hx⟩ := h
  rcases hx with ⟨h0, e⟩ | ⟨g, o, cur, T, e, hA, hh, hs, hcell⟩
  · exact ⟨none, ⟨by simp; omega, by omega, by omega, .inl ⟨by omega, rfl⟩⟩, .inr rfl⟩
  · by_cases hml : m = lo
    · exact ⟨none, ⟨by simp; omega, by omega, by omega, .inl ⟨by omega, rfl⟩⟩, .inr rfl⟩
    · refine ⟨gb, ⟨by simp; omega, by omega, by omega, .inr ⟨g, o + lo, cur, T, e, ?_, hh, by omega, fun j u hu => ?_⟩⟩, .inl rfl⟩
      · unfold cutA
        rw [if_neg hml, hA]
        simp [add_none]
      · rw [List.getElem?_take] at hu
        split at hu
        · rw [List.getElem?_drop] at hu
          rw [Nat.add_assoc]
          exact hcell _ u hu
        · cases hu
/-- bytes that a call has made -/
theorem OwnS.of_own {base : Nat} {T : TypeId} (h : w.ownsRow base T 1 (.slice A n c) n (l.map byteV)) : ∃ gb, OwnS w gb A n c l ∧ ∀ g, gb = some g → base ≤ g := by
  have hl := (Bytes.own h).len
  rcases h.2 with ⟨e, h0⟩ | ⟨g, cap, cur, e, hg, hh, hnc, hm, hsz, htk⟩
  · cases e
    exact ⟨none, ⟨by simpa using hl, Nat.le_refl _, by unfold maxLen; omega, .inl ⟨rfl, rfl⟩⟩, by simp⟩
  · cases e
    by_cases hc0 : c = 0
    · exact ⟨none, ⟨hl, hnc, hm, .inl ⟨hc0, rfl⟩⟩, by simp⟩
    · refine ⟨some g, ⟨hl, hnc, hm, .inr ⟨g, 0, cur, T, rfl, rfl, hh, by omega, fun j u hu => ?_⟩⟩, fun k hk => by cases hk; exact hg⟩
      have hj : j < n := by rw [← hl]; exact (List.getElem?_eq_some_iff.1 hu).1
      have hx := congrArg (·[j]?) htk
      simp only [List.getElem?_take, List.getElem?_map, hu, Option.map_some] at hx
      rw [if_pos (by omega)] at hx
      simpa using hx
/-- an append onto it, out of whatever bytes -/
theorem OwnS.app {P : Program} (t ty e : TypeId) (ht : P.underlying t = some (.slice e)) (hi : (P.info? e).map (fun i => (i.zero, i.size, i.bytes)) = some (some (.int .u8 0), 1, 1)) (h : OwnS w gb A n c l) {B m c2 : Nat} {A2 : Option Addr} {l2 : List UInt8} (h2 : Bytes w B A2 m c2 l2) (hn : n + m ≤ 140737488355328) :
    ∃ A' c' w' gb', (appSem #[t, t] ty #[.slice A n c, .slice A2 m c2]).run P w = .ok (.slice A' (n + m) c') w' ∧ OwnS w' gb' A' (n + m) c' (l ++ l2) ∧ w.grownBy w' gb ∧ (gb' = gb ∨ gb' = some w.heap.size) := by
  obtain ⟨i0, hi0, hz0, hz1, hz2⟩ := info_parts hi
  have hm2 := h2.len
  have hln := h.len
  have hsrc : Src P 1 t (.slice A2 m c2) m (l2.map byteV) w := by
    by_cases h0 : m = 0
    · subst h0
      have : l2 = [] := List.eq_nil_of_length_eq_zero hm2
      subst this
      cases A2 with
      | none => exact Src.ofNil w ht c2
      | some a => exact Src.ofSlice w ht a 0 c2 [] (by simp) (fun j u hu => by simp at hu) (fun u hu => by cases hu)
    · obtain ⟨ad, rfl, hc⟩ := h2.src (by simp; omega)
      exact Src.ofSlice w ht ad m c2 _ (by simp [hm2]) hc (byteV_one l2)
  obtain ⟨hl, hc, hm, hx⟩ := h
  unfold appSem
  by_cases hroom : n + m ≤ c
  · rcases hx with ⟨h0, e1⟩ | ⟨g, o, cur, T, e1, hA, hh, hs, hcell⟩
    · have e2 : m = 0 := by omega
      have e3 : n = 0 := by omega
      subst e2
      have : l2 = [] := List.eq_nil_of_length_eq_zero hm2
      subst this
      exact ⟨A, c, w, none, run_append_nothing w t t ty e i0 ht hi0 A n c hc _ (by rw [hz1]; exact hsrc), ⟨by simpa using hl, by omega, hm, .inl ⟨h0, rfl⟩⟩, by rw [e1]; exact World.grownBy.refl w _, .inl e1.symm⟩
    · subst hA
      have hcl : ∀ j, j < (l2.map byteV).length → o + n + j < cur.size := fun j hj => by simp at hj; omega
      have hr := run_append_room_src (P := P) w t t ty e i0 ht hi0 g o n c (.slice A2 m c2) m (l2.map byteV) (by rw [hz1]; exact hsrc) hroom
        (fun j hj => by rw [hz1, Nat.mul_one, cell_of_row w g _ cur T (0, 0) hh, Array.getElem?_eq_getElem (hcl j hj)]; rfl)
        (fun j hj => by simp [World.frozen?, hh])
      rw [hz1, Nat.mul_one] at hr
      have hfit : o + n + (l2.map byteV).length ≤ cur.size := by simp; omega
      refine ⟨some ⟨g, o, none⟩, c, _, gb, hr, ⟨by simp; omega, by omega, hm, .inr ⟨g, o, _, T, e1, rfl, setCells_heap g _ _ w cur T hh hfit, ?_, fun j u hu => ?_⟩⟩, by rw [e1]; exact grown_setCells g _ _ w w (World.grownBy.refl w _), .inl rfl⟩
      · rw [List.size_toArray, splice_len (by simpa using hfit)]
        simpa using hs
      · rw [List.getElem?_toArray]
        by_cases hj : j < n
        · rw [splice_get_out (by simpa using hfit) (.inl (by omega)), Array.getElem?_toList]
          exact hcell j u (by rw [List.getElem?_append_left (by omega)] at hu; exact hu)
        · rw [List.getElem?_append_right (by omega)] at hu
          have hj2 : j - l.length < l2.length := (List.getElem?_eq_some_iff.1 hu).1
          have := splice_get_in (cur := cur.toList) (vs := l2.map byteV) (o := o + n) (j := j - l.length) (by simpa using hfit) (by simpa using hj2)
          rw [show o + n + (j - l.length) = o + j by omega] at this
          rw [this, List.getElem?_map, hu]
          rfl
  · have hg : c < n + m := by omega
    have hold : (Builtin.firstCells i0.size n (.slice A n c)).run P w.drew = .ok (l.map byteV).toArray w.drew := by
      rw [hz1]
      rcases hx with ⟨h0, e1⟩ | ⟨g, o, cur, T, e1, hA, hh, hs, hcell⟩
      · have e3 : n = 0 := by omega
        subst e3
        have : l = [] := List.eq_nil_of_length_eq_zero hl
        subst this
        cases A with
        | none => exact run_firstCells_none w.drew 1 0 0 c
        | some a => exact run_firstCells_some w.drew 1 0 a 0 c [] (by simp) (fun j v hv => by simp at hv)
      · subst hA
        refine run_firstCells_some w.drew 1 n _ n c _ (by simp [hl]) (fun j v hv => ?_)
        rw [List.getElem?_map, Option.map_eq_some_iff] at hv
        obtain ⟨u, hu, rfl⟩ := hv
        rw [add_none]
        show w.cell? _ = _
        rw [cell_of_row w g _ cur T (0, 0) hh]
        exact hcell j u hu
    have hr := run_append_grow_src (P := P) w t t ty e i0 _ ht hi0 hz0 A n c (l.map byteV) hold (.slice A2 m c2) m (l2.map byteV) (by rw [hz1]; exact hsrc) hg (by omega) (growslice_fits hg (by rw [hz2]; omega))
    refine ⟨_, _, _, some w.heap.size, hr, ⟨by simp; omega, grownCap_ge _ _ _ _, grownCap_le_maxLen _ _ _ _ (by unfold maxLen; omega), .inr ⟨_, 0, _, e, rfl, rfl, heap_alloc_new w.drew _, ?_, fun j u hu => ?_⟩⟩, ?_, .inr rfl⟩
    · have := grownCap_ge w (n + m) c e
      simp only [Array.size_append, List.size_toArray, List.length_append, List.length_map, size_zeroCells, Value.cells]
      simp
      omega
    · rw [Nat.zero_add]
      have hj : j < (l ++ l2).length := (List.getElem?_eq_some_iff.1 hu).1
      rw [Array.getElem?_append_left (by simpa using hj), List.getElem?_toArray, ← List.map_append, List.getElem?_map, hu]
      rfl
    · exact ⟨rfl, rfl, rfl, by simp, fun k hk _ => Below.heap_alloc w.drew _ k hk⟩
end
end Go.Proofs.Ytiokcemlfdonnaa
end
section
namespace Go.Proofs.Ytiokcemlfdonnaa
open Go.RowKit
set_option linter.unusedVariables false
/-- a page in a row -/
def PageE : El (List UInt8) where
  size := 512
  pos := by decide
  rel w B vs x := vs = x.map byteV ∧ x.length = 512
  len := by rintro w B vs p ⟨rfl, h⟩; simpa using h
  one := by rintro w B vs p ⟨rfl, _⟩ v hv; exact byteV_one p v hv
  sub := by rintro w w' B vs p hs h; exact h
  more := by rintro w B B' vs p hB h; exact h
/-- a row of pages in block g -/
abbrev Pgs (T : TypeId) (w : World) (g n c : Nat) (ps : List (List UInt8)) : Prop := OwnE PageE T w 0 (some ⟨g, 0, none⟩) n c ps
theorem pageE_rel {w w' : World} {B B' : Nat} {vs : List (List Value)} {ps : List (List UInt8)} (h : Rel2 (PageE.rel w B) vs ps) : Rel2 (PageE.rel w' B') vs ps := h.imp fun _ _ hq => hq
section
variable {T : TypeId} {w w' : World} {g n c k : Nat} {ps : List (List UInt8)} {p : List UInt8}
theorem Pgs.blk (h : Pgs T w g n c ps) : ∃ cur vs, w.heap[g]? = some (.cells cur T (0, 0)) ∧ n ≤ c ∧ c ≤ maxLen ∧ cur.size = c * 512 ∧ cur.toList.take (n * 512) = vs.flatten ∧ Rel2 (PageE.rel w 0) vs ps := by
  obtain ⟨vs, h1, h2⟩ := h
  rcases h1.2 with ⟨e, h0⟩ | ⟨g', cap, cur, e, hg, hh, hnc, hm, hc, hx⟩
  · cases e
  · cases e
    exact ⟨cur, vs, hh, hnc, hm, hc, hx, pageE_rel h2⟩
theorem Pgs.lt (h : Pgs T w g n c ps) : g < w.heap.size := by
  obtain ⟨cur, vs, hh, -⟩ := h.blk
  exact (Array.getElem?_eq_some_iff.1 hh).1
theorem Pgs.le (h : Pgs T w g n c ps) : n ≤ c := by
  obtain ⟨cur, vs, hh, hn, -⟩ := h.blk
  exact hn
theorem Pgs.at_ (h : Pgs T w g n c ps) (hb : w'.heap[g]? = w.heap[g]?) : Pgs T w' g n c ps := by
  obtain ⟨vs, h1, h2⟩ := h
  refine ⟨vs, ⟨h1.1, ?_⟩, pageE_rel h2⟩
  rcases h1.2 with ⟨e, h0⟩ | ⟨g', cap, cur, e, hg, hh, r⟩
  · cases e
  · cases e
    exact .inr ⟨g, c, cur, rfl, hg, hb.trans hh, r⟩
theorem Pgs.wide (h : Pgs T w g n c ps) : ∀ p ∈ ps, p.length = 512 := by
  obtain ⟨cur, vs, -, -, -, -, -, hr⟩ := h.blk
  intro p hp
  obtain ⟨k, hk, rfl⟩ := List.getElem_of_mem hp
  obtain ⟨v, -, hv⟩ := hr.get (List.getElem?_eq_getElem hk)
  exact hv.2
theorem Pgs.range (h : Pgs T w g n c ps) (hk : ps[k]? = some p) : w.rangeAt g (k * 512) (p.map byteV) := by
  obtain ⟨cur, vs, hh, hnc, hm, hc, hx, hr⟩ := h.blk
  have hl := h.len
  have hkl : k < ps.length := (List.getElem?_eq_some_iff.1 hk).1
  obtain ⟨v, hv, rfl, hpl⟩ := hr.get hk
  intro j u hu
  have hj : j < 512 := by have := (List.getElem?_eq_some_iff.1 hu).1; simpa [hpl] using this
  have h1 := flat_at (size := 512) vs (fun y hy => by obtain ⟨q, hq⟩ := hr.mem hy; exact PageE.len hq) k _ j u hv hu
  rw [cell_of_row w g _ cur T (0, 0) hh, ← Array.getElem?_toList]
  rw [← hx, List.getElem?_take_of_lt (by have : (k + 1) * 512 ≤ n * 512 := Nat.mul_le_mul_right _ (by omega); omega)] at h1
  exact h1
theorem Pgs.store (h : Pgs T w g n c ps) (hk : k < n) (hp : p.length = 512) :
    ∃ w1, (stSem 136 (.pointer (some ⟨g, k * 512, none⟩)) (.agg (rowV p))).run Try.prog w = .ok () w1 ∧ Pgs T w1 g n c (ps.set k p) ∧ w.grownBy w1 (some g) ∧ w1.heap.size = w.heap.size := by
  obtain ⟨g', w1, e, -, -, hr, hO, hg, hz⟩ := OwnE.write (P := Try.prog) h (j := k) (i := 0) (s := p.map byteV) (x := p) hk (by show 0 + _ ≤ 512; simp [hp]) (byteV_one p) (fun g vs _ hq => by
    have hl : k < ps.length := by rw [h.len]; exact hk
    obtain ⟨rfl, h2⟩ := hq _ (List.getElem?_eq_getElem hl)
    refine ⟨?_, hp⟩
    unfold overV
    simp [h2, hp])
  cases e
  refine ⟨w1, ?_, hO, hg, hz⟩
  have hsz : (Try.prog.info? 136).map (·.size) = some 512 := arrPage.size
  cases hq : Try.prog.info? 136 with
  | none => simp [hq] at hsz
  | some i =>
    have hs : i.size = 512 := by simpa [hq] using hsz
    have hr' : (storeCells ⟨g, k * 512, none⟩ (p.map byteV)).run Try.prog w = .ok () w1 := by simpa [PageE] using hr
    simp [stSem, Instr.storeAt, Instr.sureAddr, storeVar, sizeOf, typeInfo, hq, Value.cells, hs, rowV, hp, hr']
end
/-! ### a box that holds a page in its middle -/
def jobC (d : Nat) (n : Int) (l : List UInt8) (s : Value) : Array Value := (([Value.pointer (some ⟨d, 0, none⟩), Value.int .i64 n] : List Value) ++ l.map byteV ++ [s]).toArray
section
variable {w w' : World} {j d : Nat} {n : Int} {l p : List UInt8} {s : Value}
theorem jobC_size (hl : l.length = 512) : (jobC d n l s).size = 515 := by simp [jobC, hl]
theorem jobC_0 : (jobC d n l s)[0]? = some (.pointer (some ⟨d, 0, none⟩)) := by simp [jobC]
theorem jobC_1 : (jobC d n l s)[1]? = some (.int .i64 n) := by simp [jobC]
theorem jobC_s (hl : l.length = 512) : (jobC d n l s)[514]? = some s := by
  unfold jobC
  rw [List.getElem?_toArray, List.getElem?_append_right (by simp [hl])]
  simp [hl]
theorem job3 (h : Str w j (jobC d n l s)) (hl : l.length = 512) : w.cell? ⟨j, 0, none⟩ = some (.pointer (some ⟨d, 0, none⟩)) ∧ w.cell? ⟨j, 1, none⟩ = some (.int .i64 n) ∧ w.cell? ⟨j, 514, none⟩ = some s :=
  ⟨(h.cell 0).trans jobC_0, (h.cell 1).trans jobC_1, (h.cell 514).trans (jobC_s hl)⟩
end
end Go.Proofs.Ytiokcemlfdonnaa
end
