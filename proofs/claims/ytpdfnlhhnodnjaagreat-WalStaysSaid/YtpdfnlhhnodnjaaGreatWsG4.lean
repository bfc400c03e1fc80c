/-
  Parts of the proof of WalStays.
-/
import Derived.Test.YtpdfnlhhnodnjaaGreatWsG3
import Derived.Test.YtpdfnlhhnodnjaaGreatWsG2
import Derived.Test.YtpdfnlhhnodnjaaGreatProg
import Derived.Test.YtpdfnlhhnodnjaaGreatWsG0
import Derived.RangeFuncBox
import Derived.RangeFuncNested
import Derived.RangeFuncLeaves
import Derived.Shelf.Abstract
import Derived.OwnWalkIn
import Derived.TacticsInMore
import Derived.LoopNIn
import Derived.LoopIn
import Derived.Maps.AppendAt
import Derived.Laws.CopyOwn
import Derived.Test.YtpdfnlhhnodnjaaGreatWsG1
section
namespace Go.Proofs.YtpdfnlhhnodnjaaGreat.PatchW
open Go.RowKit
set_option linter.unusedVariables false
set_option linter.unusedSimpArgs false
def code (b : Bool) : Int := if b then 0 else 1
set_option maxRecDepth 100000 in
set_option maxHeartbeats 1000000 in
theorem within_any (r : RunX) (A : Option Addr) (n c : Nat) (hn : r.data.length = n) (hm : n ≤ maxLen) (hi : In64 r.at_) (w : World) :
    Calls Tryz.prog 94 #[.agg #[.int .i64 r.at_, .slice A n c]] w fun e w' => e = .returned (.bool (PatchP.within r)) ∧ Below w.heap.size w w' := by
  have hs : PatchP.stop r = r.at_ + (n : Nat) := by unfold PatchP.stop; rw [hn]
  unfold maxLen at hm
  obtain ⟨hi1, hi2⟩ := hi
  obtain ⟨p, data⟩ := r
  dsimp only at *
  obtain ⟨W0, hW0⟩ : ∃ W, w.alloc (.cells #[.int .i64 p, .slice A n c] 90) = W := ⟨_, rfl⟩
  obtain ⟨HS0, HB0, hw0, hz0⟩ := new1 hW0
  have g0 := str2 HS0.out
  have hl0 := HS0.out.lt
  clear hz0
  by_cases c0 : 0 < n
  · have d0 : decide (0 < (n : Int)) = true := by simp; omega
    by_cases c1 : 12 ≤ p
    · have d1 : decide (12 ≤ p) = true := by simp; omega
      by_cases c2 : p < 512
      · have d2 : decide (p < 512) = true := by simp; omega
        by_cases c3 : (n : Int) ≤ 512 - p
        · have d3 : decide ((n : Int) ≤ 512 - p) = true := by simp; omega
          have hR : PatchP.within ⟨p, data⟩ = true := PatchP.within_yes _ ⟨by show 0 < data.length; omega, by show 12 ≤ p; omega, by omega⟩
          have HR := Lib.hid hR
          clear hR hs hn
          go_enter Tryz.func94, Tryz.ntmps94
          go_wp2
          go_ret
          exact ⟨by rw [HR.out]; rfl, HB0.out⟩
        · have d3 : decide ((n : Int) ≤ 512 - p) = false := by simp; omega
          have hR : PatchP.within ⟨p, data⟩ = false := PatchP.within_no _ (fun h => by obtain ⟨h1, h2, h3⟩ := h; dsimp only at h1 h2; omega)
          have HR := Lib.hid hR
          clear hR hs hn
          go_enter Tryz.func94, Tryz.ntmps94
          go_wp2
          go_ret
          exact ⟨by rw [HR.out]; rfl, HB0.out⟩
      · have d2 : decide (p < 512) = false := by simp; omega
        have hR : PatchP.within ⟨p, data⟩ = false := PatchP.within_no _ (fun h => by obtain ⟨h1, h2, h3⟩ := h; dsimp only at h1 h2; omega)
        have HR := Lib.hid hR
        clear hR hs hn
        go_enter Tryz.func94, Tryz.ntmps94
        go_wp2
        go_ret
        exact ⟨by rw [HR.out]; rfl, HB0.out⟩
    · have d1 : decide (12 ≤ p) = false := by simp; omega
      have hR : PatchP.within ⟨p, data⟩ = false := PatchP.within_no _ (fun h => by obtain ⟨h1, h2, h3⟩ := h; dsimp only at h1 h2; omega)
      have HR := Lib.hid hR
      clear hR hs hn
      go_enter Tryz.func94, Tryz.ntmps94
      go_wp2
      go_ret
      exact ⟨by rw [HR.out]; rfl, HB0.out⟩
  · have d0 : decide (0 < (n : Int)) = false := by simp; omega
    have hR : PatchP.within ⟨p, data⟩ = false := PatchP.within_no _ (fun h => by obtain ⟨h1, h2, h3⟩ := h; dsimp only at h1 h2; omega)
    have HR := Lib.hid hR
    clear hR hs hn
    go_enter Tryz.func94, Tryz.ntmps94
    go_wp2
    go_ret
    exact ⟨by rw [HR.out]; rfl, HB0.out⟩
set_option maxRecDepth 100000 in
set_option maxHeartbeats 2000000 in
theorem check_any (x : PatchX) (A : Option Addr) (n c B : Nat) (w : World) (hE : Elems RunE w B A n c x.runs) (hB : B ≤ w.heap.size) (hi : In64 x.page) :
    Calls Tryz.prog 61 #[.agg #[.int .i64 x.page, .bool x.fresh, .slice A n c]] w fun e w' => e = .returned (.int .i64 (code (PatchP.right x))) ∧ Below w.heap.size w w' := by
  have HE := Lib.hid hE
  have hlen := hE.len
  have hcap := hE.cap
  have hcm := hcap.2
  unfold maxLen at hcm
  clear hE
  obtain ⟨p, fr, l⟩ := x
  dsimp only at *
  obtain ⟨W0, hW0⟩ : ∃ W, w.alloc (.cells #[.int .i64 p, .bool fr, .slice A n c] 68) = W := ⟨_, rfl⟩
  obtain ⟨HS0, HB0, hw0, hz0⟩ := new1 hW0
  have g0 := str3 HS0.out
  have hl0 := HS0.out.lt
  clear hz0
  by_cases c0 : p < 0
  · have d0 : decide (p < 0) = true := by simpa using c0
    have HR := Lib.hid (PatchP.bad_page ⟨p, fr, l⟩ (.inl c0))
    go_enter Tryz.func61, Tryz.ntmps61
    go_wp2
    go_ret
    exact ⟨by rw [HR.out]; rfl, HB0.out⟩
  have d0 : decide (p < 0) = false := by simpa using c0
  by_cases c1 : 65535 < p
  · have d1 : decide (65535 < p) = true := by simpa using c1
    have HR := Lib.hid (PatchP.bad_page ⟨p, fr, l⟩ (.inr (.inl c1)))
    go_enter Tryz.func61, Tryz.ntmps61
    go_wp2
    go_ret
    exact ⟨by rw [HR.out]; rfl, HB0.out⟩
  have d1 : decide (65535 < p) = false := by simpa using c1
  by_cases c2 : 500 < n
  · have d2 : decide (500 < (n : Int)) = true := by simp; omega
    have HR := Lib.hid (PatchP.bad_page ⟨p, fr, l⟩ (.inr (.inr (by show 500 < l.length; omega))))
    go_enter Tryz.func61, Tryz.ntmps61
    go_wp2
    go_ret
    exact ⟨by rw [HR.out]; rfl, HB0.out⟩
  have d2 : decide (500 < (n : Int)) = false := by simp; omega
  have HBAD := Lib.hid (fun k r (hr : l[k]? = some r) hb => PatchP.bad_run ⟨p, fr, l⟩ (k := k) (r := r) hr hb)
  have HGOOD := Lib.hid (fun (h : PatchP.Okay l n) => PatchP.right_yes ⟨p, fr, l⟩ ⟨by show 0 ≤ p; omega, by show p ≤ 65535; omega, by show l.length ≤ 500; omega, by show PatchP.Okay l l.length; rw [hlen]; exact h⟩)
  clear c0 c1
  go_enter Tryz.func61, Tryz.ntmps61
  go_wp2
  go_loopw [3, 23] (fun ev iv wr => ∃ k : Nat, k ≤ n ∧ iv = .int .i64 (k : Int) ∧ ev = .int .i64 (PatchP.endOf l k) ∧ Hid (PatchP.Okay l k) ∧ Hid (Below w.heap.size w wr)) (fun _ iv _ => n - (intOf iv).toNat)
  case atStart => exact ⟨0, Nat.zero_le _, rfl, rfl, Lib.hid (PatchP.okay_zero l), HB0⟩
  case round =>
    obtain ⟨k, hk, rfl, rfl, HK, HB⟩ := hrel
    have hwr := HB.out.size
    have hend := PatchP.endOf_lo HK.out (Nat.le_refl k)
    clear g0 hl0 HB0
    by_cases hlt : k < n
    · have hd : decide ((k : Int) < (n : Int)) = true := by simp; omega
      obtain ⟨b, o, r, A2, n2, c2, rfl, hb, hr, hy, hir, q0, q1⟩ := run_at HE.out hlt
      have hyl := hy.len
      have hym : n2 ≤ maxLen := Nat.le_trans hy.2.1 hy.2.2.1
      have hyc := hy.2.1
      have hyc2 := hy.2.2.1
      unfold maxLen at hyc2
      replace q0 := (HB.out.cell (p := ⟨b, o + k * 2, none⟩) (by show b < _; omega)).trans q0
      replace q1 := (HB.out.cell (p := ⟨b, o + k * 2 + 1, none⟩) (by show b < _; omega)).trans q1
      have hst : PatchP.stop r = r.at_ + (n2 : Nat) := by unfold PatchP.stop; rw [hyl]
      have HR := Lib.hid hr
      obtain ⟨rp, rd⟩ := r
      dsimp only at *
      go_wp2_with fail
      generalize hW1 : wr.alloc (.cells #[.int .i64 rp, .slice A2 n2 c2] 90) = W1
      obtain ⟨HS1, HB1, hw1, hz1⟩ := new1 hW1
      refine (within_any ⟨rp, rd⟩ A2 n2 c2 hyl hym hir W1).mono ?_
      rintro e W2 ⟨rfl, hb2⟩
      have HS2 := Lib.hid (HS1.out.next hb2)
      have HB2 := Lib.hid (bstep HB.out (bstep HB1.out hb2))
      have g2 := str2 HS2.out
      have hl2 := HS2.out.lt
      clear hW1 hb2 HS1 HB1 hz1 hw1 q0 q1 hy hr
      by_cases hW : PatchP.Within ⟨rp, rd⟩
      · rw [PatchP.within_yes _ hW]
        by_cases he : PatchP.endOf l k < rp
        · have hd2 : decide (rp ≤ PatchP.endOf l k) = false := by simp; omega
          have HK2 : Hid (PatchP.Okay l (k + 1)) := Lib.hid (PatchP.okay_step HK.out HR.out hW he)
          have hen : PatchP.endOf l (k + 1) = rp + (n2 : Int) := (PatchP.endOf_succ l k _ HR.out).trans hst
          have hw3 : rp + (n2 : Int) ≤ 512 := by have := hW.2.2; omega
          have hw4 : 12 ≤ rp := hW.2.1
          have HEN := Lib.hid hen
          clear hW hen hst
          go_wp2
          go_roundw
          case rel => exact ⟨k + 1, by omega, by go_num, by rw [HEN.out], HK2, HB2⟩
          case measure => simp [intOf]; omega
        · have hd2 : decide (rp ≤ PatchP.endOf l k) = true := by simp; omega
          have HRR := Lib.hid (HBAD.out k _ HR.out (fun h => he h.2))
          clear hW he hst
          go_wp2
          go_ret
          exact ⟨by rw [HRR.out]; rfl, HB2.out⟩
      · rw [PatchP.within_no _ hW]
        have HRR := Lib.hid (HBAD.out k _ HR.out (fun h => hW h.1))
        clear hW hst
        go_wp2
        go_ret
        exact ⟨by rw [HRR.out]; rfl, HB2.out⟩
    · have hd : decide ((k : Int) < (n : Int)) = false := by simp; omega
      have hkn : k = n := by omega
      subst hkn
      have HRR := Lib.hid (HGOOD.out HK.out)
      go_wp2
      go_ret
      exact ⟨by rw [HRR.out]; rfl, HB.out⟩
end Go.Proofs.YtpdfnlhhnodnjaaGreat.PatchW
end
section
namespace Go.Proofs.YtpdfnlhhnodnjaaGreat.Reg
open Go.RowKit

/-- one word, at place j -/
def only {R : Way} (j : Nat) (p : SP R) : List (SP R) := List.replicate j any ++ [p]
section
variable {R : Way} {P : Program} {ops : Array Oper} {Q : Exit → Act → World → Prop} {T : List (SP R)} {a0 a : Act} {W w : World} {j : Nat} {o : Oper}
end
end Go.Proofs.YtpdfnlhhnodnjaaGreat.Reg
end
section
namespace Go.Proofs.YtpdfnlhhnodnjaaGreat.RefPatch
open Go.RowKit
set_option linter.unusedVariables false
set_option linter.unusedSimpArgs false
end Go.Proofs.YtpdfnlhhnodnjaaGreat.RefPatch
end
section
namespace Go.Proofs.YtpdfnlhhnodnjaaGreat.Be
open Go.RowKit Go.Shelf

theorem infoU8 : (Tryz.prog.info? 5).map (fun i => (i.zero, i.size, i.bytes)) = some (some (.int .u8 0), 1, 1) := by kernel_rfl
theorem sizeU8 : (Tryz.prog.info? 5).map (·.size) = some 1 := by kernel_rfl

set_option maxHeartbeats 400000 in
theorem wide_any (m : Int) (w : World) :
    Calls Tryz.prog 63 #[.int .i64 m] w fun e w' => e = .returned (.bool (decide (1 ≤ m) && decide (m ≤ 8))) ∧ w = w' := by
  go_enter Tryz.func63, Tryz.ntmps63
  go_wp2
  all_goals go_ret
  all_goals simp_all
  all_goals omega

/-- make, length and capacity apart -/
theorem run_make_b (n c : Nat) (hnc : n ≤ c) (hb : c ≤ 281474976710656) (w : World) :
    (Instr.makeSlice 32 (.int .i64 (n : Int)) (.int .i64 (c : Int))).run Tryz.prog w = .ok (.slice (some ⟨w.heap.size, 0, none⟩) n c) (w.alloc (.cells (zerosV c).toArray 5)) := by
  obtain ⟨i0, hi, hz0, hz1, hz2⟩ := info_parts infoU8
  have hr := run_make (P := Tryz.prog) w 32 5 i0 (.int .u8 0) Tryz.underlying32 hi hz0 .i64 .i64 n c (by omega) (by omega) (by rw [hz2]; omega) (by omega)
  rw [hr, hz1]
  have e : madeCells (Value.cells (.int .u8 0)) ((c : Int).toNat * 1) = (zerosV c).toArray := by
    apply Array.ext
    · simp [size_madeCells, zerosV]
    · intro i h1 h2
      simp [madeCells, zerosV, Value.cells, Nat.mod_one]
  rw [e]
  simp

/-- the row that a call has made: bytes l, a slice of capacity cap at its head -/
def Row (w w' : World) (g : Nat) (l : List UInt8) (cap : Nat) : Prop :=
  w'.ownsRow w.heap.size 5 1 (.slice (some ⟨g, 0, none⟩) l.length cap) l.length (l.map byteV)

set_option maxHeartbeats 400000 in
/-- with: a new list with b's bytes, and room for more -/
theorem with_any (A : Option Addr) (n c more B : Nat) (l : List UInt8) (w : World) (h : Bytes w B A n c l) (hB : B ≤ w.heap.size) (hn : n + more ≤ 140737488355328) :
    Calls Tryz.prog 64 #[.slice A n c, .int .i64 (more : Int)] w fun e w' => e = .returned (.slice (some ⟨w.heap.size, 0, none⟩) n (n + more)) ∧ Row w w' w.heap.size l (n + more) ∧ Below w.heap.size w w' := by
  have H := Lib.hid h
  have hl := h.len
  clear h
  have hmk : ∀ W : World, (Instr.makeSlice 32 (.int .i64 (n : Int)) (.int .i64 ((n : Int) + (more : Int)))).run Tryz.prog W = .ok (.slice (some ⟨W.heap.size, 0, none⟩) n (n + more)) (W.alloc (.cells (zerosV (n + more)).toArray 5)) := fun W => by
    have := run_make_b n (n + more) (by omega) (by omega) W
    simpa using this
  have HL := Lib.hid hl
  clear hl
  obtain ⟨w1, hcp, hrow, hg⟩ := run_copy_to (P := Tryz.prog) (w := w.alloc (.cells (zerosV (n + more)).toArray 5)) 32 32 3 5 Tryz.underlying32 sizeU8 (some ⟨w.heap.size, 0, none⟩) n (n + more) w.heap.size 0 (zerosV (n + more)) 5 (heap_alloc_new w _) A n c (l.map byteV) (by simp [HL.out])
    (fun h0 => ⟨rfl, ((H.out.alloc hB _).src h0)⟩) (by simp [zerosV_length, HL.out]) (byteV_one l)
  have HR := Lib.hid hrow
  have HG := Lib.hid hg
  clear hrow hg
  go_enter Tryz.func64, Tryz.ntmps64
  go_wp2
  go_ret
  have hl := HL.out
  subst hl
  refine ⟨rfl, ⟨by simp, .inr ⟨w.heap.size, l.length + more, _, rfl, Nat.le_refl _, HR.out, by omega, by unfold maxLen; omega, ?_, ?_⟩⟩, (balloc (bsame w) _).grown HG.out (by simp) (fun k e => by cases e; exact Nat.le_refl _)⟩
  · simp [splice, zerosV_length]
  · simp [splice]

attribute [local go_sem] Oper.semAt_some

/-- what a round must keep: the box of the number -/
def KpAt (b : Nat) (W W' : World) : Prop := W'.heap[b]? = W.heap[b]?
theorem KpAt.cell {b : Nat} {W W' : World} (h : KpAt b W W') {v : Value} (hc : W.cell? ⟨b, 0, none⟩ = some v) : W'.cell? ⟨b, 0, none⟩ = some v := (World.cell?_of_block (a := ⟨b, 0, none⟩) h).trans hc

set_option maxRecDepth 100000 in
set_option maxHeartbeats 1000000 in
theorem parts1_in (F : Fence) (n : Nat) (hf : F.fn 95) (hro : F.round = none) (hn : 1 ≤ n) (l Bw Bn width : Nat) (hw1 : 1 ≤ width) (hw8 : width ≤ 8) (m : Int) (J Jx : List UInt8 → World → Prop)
    (hY : ∀ pre (x : UInt8) W, J pre W → pre.length < width → YieldAt F (n - 1) Tryz.prog l #[.int .u8 (x.toNat : Int)] W fun e W' =>
      (e = .returned (.bool true) ∧ J (pre ++ [x]) W' ∧ KpAt Bn W W') ∨ (e = .returned (.bool false) ∧ Jx (pre ++ [x]) W'))
    (W : World) (hBw : W.cell? ⟨Bw, 0, none⟩ = some (.int .i64 (width : Int))) (hBn : W.cell? ⟨Bn, 0, none⟩ = some (.int .i64 m)) (h0 : J [] W) :
    CallsIn F n Tryz.prog 95 #[.func (.yield l) #[] #[], .pointer (some ⟨Bw, 0, none⟩), .pointer (some ⟨Bn, 0, none⟩)] W fun e W' => (∃ v, e = .returned v) ∧
      ((∃ ys, ys = BeP.parts width m ∧ J ys W') ∨ (∃ pre, pre <+: BeP.parts width m ∧ Jx pre W')) := by
  have HY := Lib.hid hY
  clear hY
  refine callsIn_of_wp Tryz.func95 rfl hf ?_ hro
  simp only [Tryz.ntmps95, List.size_toArray, List.length_cons, List.length_nil, Nat.reduceAdd, Nat.reduceSub, Array.replicate_succ, Array.replicate_zero, List.push_toArray, List.append_toArray, List.nil_append, List.cons_append]
  gi_wp2
  gi_loopw [4] (fun p wr => ∃ k : Nat, k ≤ width ∧ p = .int .i64 (8 * ((width : Int) - 1) - 8 * k) ∧ wr.cell? ⟨Bn, 0, none⟩ = some (.int .i64 m) ∧ J ((BeP.parts width m).take k) wr)
    (fun p wr => (intOf p + 8).toNat)
  case atStart =>
    exact ⟨0, Nat.zero_le _, by simp, hBn, h0⟩
  case round =>
    obtain ⟨k, hk, rfl, hc, hJ⟩ := hrel
    have HJ := Lib.hid hJ
    clear hJ h0 hBn hBw
    by_cases hlt : k < width
    · have hval := BeP.part_walk width m k hlt
      have HT := Lib.hid (BeP.parts_take width m k hlt)
      obtain ⟨fn, tmps, assign, body, hy, hR⟩ := HY.out _ (BeP.part width m k) wr HJ.out (by rw [List.length_take, BeP.parts_length]; omega)
      have HR := Lib.hid hR
      clear hR
      gi_wp2
      refine HR.out.mono ?_
      rintro e W3 (⟨rfl, hJ3, hk3⟩ | ⟨rfl, hJx3⟩)
      · have hc3 := hk3.cell hc
        have HJ3 := Lib.hid hJ3
        have HK3 := Lib.hid hk3
        clear hJ3 hk3 hy
        gi_wp2
        go_roundw
        case rel => exact ⟨k + 1, by omega, by congr 1; omega, hc3, by rw [HT.out]; exact HJ3.out⟩
        case measure => simp [intOf]; omega
      · gi_wp2
        refine bodyPost_ret (results_none rfl _ _ _) rfl ?_
        refine ⟨⟨_, rfl⟩, .inr ⟨_, ?_, hJx3⟩⟩
        rw [← HT.out]
        exact List.take_prefix _ _
    · gi_wp2
      go_end0
      refine ⟨⟨_, rfl⟩, .inl ⟨_, rfl, ?_⟩⟩
      have := HJ.out
      rwa [BeP.parts_all width m k hlt] at this

set_option maxHeartbeats 400000 in
theorem parts_in (F : Fence) (n : Nat) (hf : F.fn 65) (hro : F.round = none) (width m : Int) (w : World) :
    CallsIn F n Tryz.prog 65 #[.int .i64 width, .int .i64 m] w fun e w' => e = .returned (.func (.func 95) #[] #[.pointer (some ⟨w.heap.size, 0, none⟩), .pointer (some ⟨w.heap.size + 1, 0, none⟩)]) ∧
      (w.alloc (.cells #[.int .i64 width] 3)).alloc (.cells #[.int .i64 m] 3) = w' := by
  refine callsIn_of_wp Tryz.func65 rfl hf ?_ hro
  simp only [Tryz.ntmps65, List.size_toArray, List.length_cons, List.length_nil, Nat.reduceAdd, Nat.reduceSub, Array.replicate_succ, Array.replicate_zero, List.push_toArray, List.append_toArray, List.nil_append, List.cons_append]
  gi_wp2
  go_ret
  exact ⟨rfl, rfl⟩

theorem parts_stops (F : Fence) (n : Nat) (hf : F.fn 95) (hro : F.round = none) (hn : 1 ≤ n) (Bw Bn width : Nat) (hw1 : 1 ≤ width) (hw8 : width ≤ 8) (m : Int) (w : World) (hBw : Bw < w.heap.size) (hBn : Bn < w.heap.size)
    (hcw : w.cell? ⟨Bw, 0, none⟩ = some (.int .i64 (width : Int))) (hcn : w.cell? ⟨Bn, 0, none⟩ = some (.int .i64 m)) :
    SeqStopsK F n Tryz.prog 95 #[.pointer (some ⟨Bw, 0, none⟩), .pointer (some ⟨Bn, 0, none⟩)] (fun x : UInt8 => #[Value.int .u8 (x.toNat : Int)]) (KpAt Bn) (fun ys => ys = BeP.parts width m) (fun pre => pre <+: BeP.parts width m) width w := fun l J Jx W hW _ _ hY h0 =>
  parts1_in F n hf hro hn l Bw Bn width hw1 hw8 m J Jx hY W ((hW.cell (p := ⟨Bw, 0, none⟩) hBw).trans hcw) ((hW.cell (p := ⟨Bn, 0, none⟩) hBn).trans hcn) h0

/-- what holds between two rounds of Put: the box of out holds the bytes so far, the box of the number its number -/
def PutI (w : World) (l : List UInt8) (B Bn : Nat) (m : Int) (pre : List UInt8) (W : World) : Prop :=
  ((∃ v, Boxed W B 32 v ∧ W.ownsRow w.heap.size 5 1 v (l ++ pre).length ((l ++ pre).map byteV) ∧ True) ∧ Boxed W Bn 3 (.int .i64 m)) ∧ Below w.heap.size w W

set_option maxRecDepth 100000 in
set_option maxHeartbeats 2000000 in
theorem put_wide (A : Option Addr) (n c B : Nat) (l : List UInt8) (width : Nat) (m : Int) (w : World) (h : Bytes w B A n c l) (hB : B ≤ w.heap.size) (hw1 : 1 ≤ width) (hw8 : width ≤ 8) (hn : n + width ≤ 140737488355328) :
    Calls Tryz.prog 40 #[.slice A n c, .int .i64 (width : Int), .int .i64 m] w (GivesBytes w (l ++ BeP.parts width m)) := by
  have hl := h.len
  have H := Lib.hid h
  clear h
  have HL := Lib.hid hl
  clear hl
  obtain ⟨i0, hi, hz0, hz1, hz2⟩ := info_parts infoU8
  have hwd : (decide ((1 : Int) ≤ (width : Int)) && decide ((width : Int) ≤ 8)) = true := by simp; omega
  refine (callsIn_wide (n := 5)).1 ?_
  refine callsIn_of_wp_marks Tryz.func40 rfl trivial ?_ rfl
  simp only [Tryz.ntmps40, List.size_toArray, List.length_cons, List.length_nil, Nat.reduceAdd, Nat.reduceSub, Array.replicate_succ, Array.replicate_zero, List.push_toArray, List.append_toArray, List.nil_append, List.cons_append]
  gi_wp2_with (first
    | (refine ⟨trivial, ?_⟩; gi_at_call 63; refine (callsIn_wide.2 (wide_any _ _)).mono ?_; rintro e w' ⟨rfl, rfl⟩)
    | (refine ⟨trivial, ?_⟩; gi_at_call 64; refine (callsIn_wide.2 (with_any A n c width B l w H.out hB hn)).mono ?_; rintro e w1 ⟨rfl, hrow, hb⟩)
    | (refine ⟨trivial, ?_⟩; gi_at_call 65; refine (parts_in Fence.wide _ trivial rfl _ _ _).mono ?_; rintro e w' ⟨rfl, rfl⟩))
  have HROW := Lib.hid hrow
  clear hrow hwd
  have bO := Boxed.new w1 32 (.slice (some ⟨w.heap.size, 0, none⟩) n (n + width))
  have bW := Boxed.new (w1.alloc (.cells #[.slice (some ⟨w.heap.size, 0, none⟩) n (n + width)] 32)) 3 (.int .i64 (width : Int))
  have bN := Boxed.new ((w1.alloc (.cells #[.slice (some ⟨w.heap.size, 0, none⟩) n (n + width)] 32)).alloc (.cells #[.int .i64 (width : Int)] 3)) 3 (.int .i64 m)
  simp only [World.size_alloc] at bW bN
  have hB0 : Below w.heap.size w (((w1.alloc (.cells #[.slice (some ⟨w.heap.size, 0, none⟩) n (n + width)] 32)).alloc (.cells #[.int .i64 (width : Int)] 3)).alloc (.cells #[.int .i64 m] 3)) := balloc (balloc (balloc hb _) _) _
  have hsz := hb.size
  refine wpIn_rangeFunc_ownG rfl (by omega) (gf := 95) (lb := #[.pointer (some ⟨w1.heap.size + 1, 0, none⟩), .pointer (some ⟨w1.heap.size + 1 + 1, 0, none⟩)]) rfl trivial (enters_of Tryz.func95 (by kernel_rfl) rfl)
    (parts_stops Fence.wide 4 trivial rfl (by omega) (w1.heap.size + 1) (w1.heap.size + 1 + 1) width hw1 hw8 m _ (by simp) (by simp) ((bW.alloc _).cell) bN.cell)
    (fun h k => (show _ = _ from k).trans h) (fun W l' o o' hle hl' _ _ => ?hKb) (Below.refl _ _) (fun _ => rfl)
    (PutI w l w1.heap.size (w1.heap.size + 1 + 1) m) (fun _ _ _ => False)
    (OwnFrom.and (OwnFrom.and (Own.from (holdsRow_own w.heap.size w1.heap.size 32 5 1 (fun pre => (l ++ pre).length) (fun pre => (l ++ pre).map byteV) (fun _ _ => True)) _) (Own.from (boxed_own _ _ _) _)) (ownFrom_below (Nat.le_refl _) (by simp; omega)))
    (fun _ _ _ _ _ hs _ _ => hs) ?h0
    (fun x => { tmps := #[.slice A n c, .int .i64 (width : Int), .int .i64 m, undef, undef, undef, .slice none 0 0, .pointer (some ⟨w1.heap.size, 0, none⟩), .int .u8 (x.toNat : Int), .int .i64 (width : Int), .bool true, .bool false, undef, undef, .slice A n c, .int .i64 (width : Int), .slice (some ⟨w.heap.size, 0, none⟩) n (n + width), .int .i64 (width : Int), .int .i64 m, .func (.func 95) #[] #[.pointer (some ⟨w1.heap.size + 1, 0, none⟩), .pointer (some ⟨w1.heap.size + 1 + 1, 0, none⟩)], .int .u8 (x.toNat : Int), undef, undef, undef, undef, undef], defers := [] }) ?assign ?body ?done ?stop
  case hKb =>
    show (W.putObj l' o').heap[w1.heap.size + 1 + 1]? = W.heap[w1.heap.size + 1 + 1]?
    have hlt := (Array.getElem?_eq_some_iff.1 hl').1
    simp at hle
    exact (grownBy_putObj' W l' o').block _ (by omega) (fun e => by cases e; omega)
  case h0 =>
    refine ⟨⟨⟨_, (bO.alloc _).alloc _, ?_, trivial⟩, bN⟩, hB0⟩
    have hL := HL.out
    subst hL
    have := HROW.out
    unfold Row at this
    simpa using ((this.alloc _).alloc _).alloc _
  case assign =>
    intro l' x W K hK
    gi_wp2
    exact hK
  case body =>
    rintro l' pre x W ⟨⟨⟨v, hv, hrow, -⟩, hbn⟩, hB⟩ hlt
    have hc := hv.cell
    have hBs := hB.size
    have hLn := HL.out
    have hlen : (l ++ pre).length + 1 ≤ 140737488355328 := by simp; omega
    clear hLn
    gi_wp2_with (gi_at_builtin; refine wpListIn_append_own _ rfl _ _ 32 rfl w.heap.size 5 i0 (.int .u8 0) 1 1 Tryz.underlying32 hi hz0 hz1 hz2 rfl (by decide) _ _ _ rfl (hrow.alloc _) ⟨W.heap.size, 0, none⟩ 1 1 [.int .u8 (x.toNat : Int)] rfl rfl (cell_one_new _ _ _) (by simp [Value.oneCell']) (by unfold maxLen; omega) (by omega) (by simp; omega) ?_; intro v' w1' hown' hgrow _; obtain ⟨g', cap', rfl⟩ := ownsRow_succ hown'; obtain ⟨hv1, hv2, hr2, hk2, hb2⟩ := hv.appended (by decide) hrow hBs hsz hown' hgrow; have hbn2 := ((hbn.alloc _).kept hgrow (hbn.not_row (by decide) hrow)).other (B' := w1.heap.size) (by omega) (.slice (some ⟨g', 0, none⟩) ((l ++ pre).length + 1) cap'); have hc1 := hv1.cell; have hf1 := hv1.frozen)
    simp only [List.length_append] at hv2 hr2 hk2 hb2 hbn2
    refine ⟨hk2.from _, (show _ = _ from hbn2).trans (show _ = _ from hbn).symm, ⟨⟨⟨_, hv2, ?_, trivial⟩, hbn2⟩, hB.trans hb2⟩⟩
    have : ((l ++ (pre ++ [x])).map byteV) = (l ++ pre).map byteV ++ [.int .u8 (x.toNat : Int)] := by simp [byteV]
    rw [this]
    have h3 : (l ++ (pre ++ [x])).length = l.length + pre.length + 1 := by simp; omega
    rw [h3]
    exact hr2
  case done =>
    rintro D ys W hD rfl ⟨⟨⟨v, hv, hrow, -⟩, hbn⟩, hB⟩ hK
    have hc := hv.cell
    gi_wp2
    refine ⟨by simp, .inl ⟨_, _, rfl, run_takeDeferred hK, ?_⟩⟩
    obtain ⟨A', n', c', rfl, hby⟩ := Bytes.of_own (ownsRow_putObj hrow (.deferred none) hK rfl)
    exact ⟨_, results_tmp rfl _ _ _, A', n', c', rfl, hby, hB.trans (belowK_b (w := w) (Nat.le_refl _) W D _ _ (by simp at hD; omega) hK rfl rfl)⟩
  case stop =>
    rintro D c' pre W _ _ h _
    exact h.elim
end Go.Proofs.YtpdfnlhhnodnjaaGreat.Be
end
section
namespace Go.Proofs.YtpdfnlhhnodnjaaGreat
open Go.RowKit

/-- a slice of the call's own: all of its memory is above base -/
def Own (w : World) (base : Nat) (A : Option Addr) (n c : Nat) (l : List UInt8) : Prop := w.ownsRow base 5 1 (.slice A n c) n (l.map byteV)
section
variable {w w' : World} {base n c : Nat} {A : Option Addr} {l : List UInt8}
theorem Own.bytes (h : Own w base A n c l) : Bytes w w.heap.size A n c l := Bytes.own h
theorem Own.len (h : Own w base A n c l) : l.length = n := (Own.bytes h).len
theorem Own.none_ (w : World) (base : Nat) : Own w base none 0 0 [] := World.ownsRow_nil _ _ _ _
theorem Own.next (h : Own w base A n c l) (hb : Below w.heap.size w w') : Own w' base A n c l := own_next h hb
theorem Own.alloc (h : Own w base A n c l) (o : Obj) : Own (w.alloc o) base A n c l := World.ownsRow.alloc h o
theorem Own.drewN (h : Own w base A n c l) (k : Nat) : Own (w.drewN k) base A n c l := h
theorem Own.set (h : Own w base A n c l) {b : Nat} (hb : b < base) (i : Nat) (u : Value) : Own (w.setCell ⟨b, i, none⟩ u) base A n c l := own_set h hb i u
theorem Own.one (w : World) (base : Nat) (hb : base ≤ w.heap.size) (u : UInt8) : Own (w.alloc (.cells #[.int .u8 (u.toNat : Int)] 5)) base (some ⟨w.heap.size, 0, none⟩) 1 1 [u] :=
  ⟨rfl, .inr ⟨_, _, _, rfl, hb, heap_alloc_new w _, Nat.le_refl _, by decide, rfl, rfl⟩⟩
theorem Own.app (h : Own w base A n c l) {B m c2 : Nat} {A2 : Option Addr} {l2 : List UInt8} (h2 : Bytes w B A2 m c2 l2) (hn : n + m ≤ 140737488355328) (hb : base ≤ w.heap.size) :
    ∃ A' c' w', (appSem #[32, 32] 32 #[.slice A n c, .slice A2 m c2]).run Tryz.prog w = .ok (.slice A' (n + m) c') w' ∧ Own w' base A' (n + m) c' (l ++ l2) ∧ Below base w w' := by
  obtain ⟨i0, hi, hz0, hz1, hz2⟩ := info_parts Be.infoU8
  obtain ⟨v', w', happ, hown, hgrow⟩ := run_append_bytes (P := Tryz.prog) w base 32 32 5 i0 _ Tryz.underlying32 hi hz0 hz1 hz2 rfl (.slice A n c) n (l.map byteV) h B A2 m c2 l2 h2 hn hb
  obtain ⟨A', c', rfl⟩ := own_slice hown
  refine ⟨A', c', w', happ, by simpa [Own] using hown, (Below.refl _ w).grown hgrow hb (own_block h)⟩
theorem Own.empty (w : World) (base : Nat) (hb : base ≤ w.heap.size) : Own (w.alloc (.cells #[] 5)) base (some ⟨w.heap.size, 0, none⟩) 0 0 [] :=
  ⟨rfl, .inr ⟨_, _, _, rfl, hb, heap_alloc_new w _, Nat.le_refl _, by decide, rfl, rfl⟩⟩
end
end Go.Proofs.YtpdfnlhhnodnjaaGreat
end
section
namespace Go.Proofs.YtpdfnlhhnodnjaaGreat.Reg
open Go.RowKit

/-- a box that was not there -/
def fresh (B : Nat) (cs : Array Value) : SP ext := ⟨fun v w => ∃ g, v = .pointer (some ⟨g, 0, none⟩) ∧ B ≤ g ∧ Str w g cs, fun _ _ _ hb ⟨g, e, h1, h2⟩ => ⟨g, e, h1, h2.next hb⟩⟩
end Go.Proofs.YtpdfnlhhnodnjaaGreat.Reg
end
section
namespace Go.Proofs.YtpdfnlhhnodnjaaGreat.CellW
open Go.RowKit

theorem code_of (b : Bool) (n : Int) (h : n = CellP.code b) : Ending.returned (.int .i64 n) = Ending.returned (.int .i64 (CellP.code b)) := by rw [h]

set_option maxHeartbeats 1000000 in
theorem check_any (A : Option Addr) (n cap : Nat) (c : Cell) (w : World) (hl : c.data.length = n) (hn : n ≤ maxLen) :
    Calls Tryz.prog 110 #[.agg #[.int .i64 c.kind, .slice A n cap, .int .i64 c.lo, .int .i64 c.hi, .int .i64 c.val]] w fun e w' => e = .returned (.int .i64 (CellP.code (CellP.right c))) ∧ Below w.heap.size w w' := by
  obtain ⟨kind, data, lo, hi, val⟩ := c
  dsimp only at *
  subst hl
  unfold maxLen at hn
  by_cases hk : kind = 1
  · subst hk
    by_cases h1 : lo = 0
    · subst h1
      by_cases h2 : hi = 0
      · subst h2
        by_cases h3 : val = 0
        · subst h3
          by_cases h4 : data.length ≤ 32
          · have HR : Hid (0 = CellP.code (CellP.right ⟨1, data, 0, 0, 0⟩)) := Lib.hid (by simp [CellP.right, CellP.code, h4])
            go_enter Tryz.func110, Tryz.ntmps110
            go_wp2
            go_ret
            exact ⟨code_of _ _ HR.out, balloc (bsame _) _⟩
          · have HR : Hid (1 = CellP.code (CellP.right ⟨1, data, 0, 0, 0⟩)) := Lib.hid (by simp [CellP.right, CellP.code, h4])
            go_enter Tryz.func110, Tryz.ntmps110
            go_wp2
            go_ret
            exact ⟨code_of _ _ HR.out, balloc (bsame _) _⟩
        · have hb : (val != 0) = true := by simpa using h3
          have HR : Hid (1 = CellP.code (CellP.right ⟨1, data, 0, 0, val⟩)) := Lib.hid (by simp [CellP.right, CellP.code, h3])
          go_enter Tryz.func110, Tryz.ntmps110
          go_wp2
          go_ret
          exact ⟨code_of _ _ HR.out, balloc (bsame _) _⟩
      · have hb : (hi != 0) = true := by simpa using h2
        have HR : Hid (1 = CellP.code (CellP.right ⟨1, data, 0, hi, val⟩)) := Lib.hid (by simp [CellP.right, CellP.code, h2])
        go_enter Tryz.func110, Tryz.ntmps110
        go_wp2
        go_ret
        exact ⟨code_of _ _ HR.out, balloc (bsame _) _⟩
    · have hb : (lo != 0) = true := by simpa using h1
      have HR : Hid (1 = CellP.code (CellP.right ⟨1, data, lo, hi, val⟩)) := Lib.hid (by simp [CellP.right, CellP.code, h1])
      go_enter Tryz.func110, Tryz.ntmps110
      go_wp2
      go_ret
      exact ⟨code_of _ _ HR.out, balloc (bsame _) _⟩
  by_cases hk2 : kind = 2
  · subst hk2
    by_cases h1 : 0 < data.length
    · have hz : data.length ≠ 0 := by omega
      have HR : Hid (1 = CellP.code (CellP.right ⟨2, data, lo, hi, val⟩)) := Lib.hid (by simp [CellP.right, CellP.code]; intro h; simp [h] at h1)
      clear hz
      go_enter Tryz.func110, Tryz.ntmps110
      go_wp2
      go_ret
      exact ⟨code_of _ _ HR.out, balloc (bsame _) _⟩
    · have h1' : data = [] := List.eq_nil_of_length_eq_zero (by omega)
      subst h1'
      clear h1
      by_cases h2 : val < lo
      · have HR : Hid (1 = CellP.code (CellP.right ⟨2, [], lo, hi, val⟩)) := Lib.hid (by simp [CellP.right, CellP.code]; omega)
        go_enter Tryz.func110, Tryz.ntmps110
        go_wp2
        go_ret
        exact ⟨code_of _ _ HR.out, balloc (bsame _) _⟩
      · by_cases h3 : hi < val
        · have HR : Hid (1 = CellP.code (CellP.right ⟨2, [], lo, hi, val⟩)) := Lib.hid (by simp [CellP.right, CellP.code]; omega)
          go_enter Tryz.func110, Tryz.ntmps110
          go_wp2
          go_ret
          exact ⟨code_of _ _ HR.out, balloc (bsame _) _⟩
        · have HR : Hid (0 = CellP.code (CellP.right ⟨2, [], lo, hi, val⟩)) := Lib.hid (by
            have e1 : lo ≤ val := by omega
            have e2 : val ≤ hi := by omega
            simp [CellP.right, CellP.code, e1, e2])
          go_enter Tryz.func110, Tryz.ntmps110
          go_wp2
          go_ret
          exact ⟨code_of _ _ HR.out, balloc (bsame _) _⟩
  · have HR : Hid (1 = CellP.code (CellP.right ⟨kind, data, lo, hi, val⟩)) := Lib.hid (by simp [CellP.right, CellP.code, hk, hk2])
    have hb1 : (kind == 1) = false := by simpa using hk
    have hb2 : (kind == 2) = false := by simpa using hk2
    go_enter Tryz.func110, Tryz.ntmps110
    go_wp2
    go_ret
    exact ⟨code_of _ _ HR.out, balloc (bsame _) _⟩

set_option maxHeartbeats 1000000 in
theorem refSame_any (A A' : Option Addr) (n cap n' cap' B B' : Nat) (c d : Cell) (w : World) (h : Bytes w B A n cap c.data) (h' : Bytes w B' A' n' cap' d.data) (hB : B ≤ w.heap.size) (hB' : B' ≤ w.heap.size) :
    Calls Tryz.prog 82 #[.agg #[.int .i64 c.kind, .slice A n cap, .int .i64 c.lo, .int .i64 c.hi, .int .i64 c.val], .agg #[.int .i64 d.kind, .slice A' n' cap', .int .i64 d.lo, .int .i64 d.hi, .int .i64 d.val]] w
      fun e w' => e = .returned (.bool (CellP.same c d)) ∧ Below w.heap.size w w' := by
  obtain ⟨kind, data, lo, hi, val⟩ := c
  obtain ⟨kind', data', lo', hi', val'⟩ := d
  dsimp only at *
  have H := Lib.hid h
  have H' := Lib.hid h'
  clear h h'
  go_enter Tryz.func82, Tryz.ntmps82
  go_wp2_with (go_at_call 83; refine (Same.same_any _ _ _ _ _ _ _ _ _ _ _ ((H.out.alloc hB _).alloc (by simp; omega) _) ((H'.out.alloc hB' _).alloc (by simp; omega) _)).mono ?_; rintro e w' ⟨rfl, rfl⟩)
  all_goals go_ret
  all_goals refine ⟨congrArg (fun b => Ending.returned (.bool b)) ?_, balloc (balloc (bsame _) _) _⟩
  all_goals simp_all [CellP.same]

set_option maxHeartbeats 1000000 in
theorem same_any (A A' : Option Addr) (n cap n' cap' B B' : Nat) (c d : Cell) (w : World) (h : Bytes w B A n cap c.data) (h' : Bytes w B' A' n' cap' d.data) (hB : B ≤ w.heap.size) (hB' : B' ≤ w.heap.size) :
    Calls Tryz.prog 111 #[.agg #[.int .i64 c.kind, .slice A n cap, .int .i64 c.lo, .int .i64 c.hi, .int .i64 c.val], .agg #[.int .i64 d.kind, .slice A' n' cap', .int .i64 d.lo, .int .i64 d.hi, .int .i64 d.val]] w
      fun e w' => e = .returned (.bool (CellP.same c d)) ∧ Below w.heap.size w w' := by
  obtain ⟨kind, data, lo, hi, val⟩ := c
  obtain ⟨kind', data', lo', hi', val'⟩ := d
  dsimp only at *
  have H := Lib.hid h
  have H' := Lib.hid h'
  clear h h'
  go_enter Tryz.func111, Tryz.ntmps111
  go_wp2_with (go_at_call 57; refine (Same.equal_any _ _ _ _ _ _ _ _ _ _ _ ((H.out.alloc hB _).alloc (by simp; omega) _) ((H'.out.alloc hB' _).alloc (by simp; omega) _)).mono ?_; rintro e w' ⟨rfl, rfl⟩)
  all_goals go_ret
  all_goals refine ⟨congrArg (fun b => Ending.returned (.bool b)) ?_, balloc (balloc (bsame _) _) _⟩
  all_goals simp_all [CellP.same]

end Go.Proofs.YtpdfnlhhnodnjaaGreat.CellW
end
section
namespace Go.Proofs.YtpdfnlhhnodnjaaGreat.CellF
open Go.RowKit

theorem refSame (A A' : Option Addr) (n cap n' cap' B B' : Nat) (k lo hi v k' lo' hi' v' : Int) (d d' : List UInt8) (w : World) (h : Bytes w B A n cap d) (h' : Bytes w B' A' n' cap' d') (hB : B ≤ w.heap.size) (hB' : B' ≤ w.heap.size) :
    Calls Tryz.prog 82 #[.agg #[.int .i64 k, .slice A n cap, .int .i64 lo, .int .i64 hi, .int .i64 v], .agg #[.int .i64 k', .slice A' n' cap', .int .i64 lo', .int .i64 hi', .int .i64 v']] w
      fun e w' => e = .returned (.bool (CellP.same ⟨k, d, lo, hi, v⟩ ⟨k', d', lo', hi', v'⟩)) ∧ Below w.heap.size w w' :=
  CellW.refSame_any A A' n cap n' cap' B B' ⟨k, d, lo, hi, v⟩ ⟨k', d', lo', hi', v'⟩ w h h' hB hB'
theorem same (A A' : Option Addr) (n cap n' cap' B B' : Nat) (k lo hi v k' lo' hi' v' : Int) (d d' : List UInt8) (w : World) (h : Bytes w B A n cap d) (h' : Bytes w B' A' n' cap' d') (hB : B ≤ w.heap.size) (hB' : B' ≤ w.heap.size) :
    Calls Tryz.prog 111 #[.agg #[.int .i64 k, .slice A n cap, .int .i64 lo, .int .i64 hi, .int .i64 v], .agg #[.int .i64 k', .slice A' n' cap', .int .i64 lo', .int .i64 hi', .int .i64 v']] w
      fun e w' => e = .returned (.bool (CellP.same ⟨k, d, lo, hi, v⟩ ⟨k', d', lo', hi', v'⟩)) ∧ Below w.heap.size w w' :=
  CellW.same_any A A' n cap n' cap' B B' ⟨k, d, lo, hi, v⟩ ⟨k', d', lo', hi', v'⟩ w h h' hB hB'
theorem same_self (c : Cell) : CellP.same c c = true := by simp [CellP.same]
end Go.Proofs.YtpdfnlhhnodnjaaGreat.CellF
end
section
namespace Go.Proofs.YtpdfnlhhnodnjaaGreat.Key
open Go.RowKit

set_option maxHeartbeats 400000 in
theorem seen_any (c : Int) (w : World) :
    Calls Tryz.prog 109 #[.int .i32 c] w fun e w' => e = .returned (.bool (decide (33 ≤ c) && decide (c ≤ 126))) ∧ w = w' := by
  go_enter Tryz.func109, Tryz.ntmps109
  go_wp2
  all_goals go_ret
  all_goals simp_all
  all_goals omega

set_option maxHeartbeats 400000 in
theorem check_any (s : ByteArray) (w : World) (hs : s.size ≤ maxLen) :
    Calls Tryz.prog 91 #[.string s] w fun e w' => e = .returned (.int .i64 (KeyP.code (KeyP.right s.data.toList))) ∧ Below w.heap.size w w' := by
  unfold maxLen at hs
  by_cases h0 : s.size < 1
  · go_enter Tryz.func91, Tryz.ntmps91
    go_wp2
    go_ret
    rw [KeyP.not_right_len s (by omega)]
    exact ⟨rfl, Below.refl _ _⟩
  by_cases h1 : 16 < s.size
  · go_enter Tryz.func91, Tryz.ntmps91
    go_wp2
    go_ret
    rw [KeyP.not_right_len s (by omega)]
    exact ⟨rfl, Below.refl _ _⟩
  go_enter Tryz.func91, Tryz.ntmps91
  go_wp2
  go_loopw [2] (fun n w' => ∃ (pos : Nat), w' = w.iter s pos ∧ n = .int .i64 0 ∧ pos ≤ s.size ∧ (s.data.toList.take pos).all KeyP.okB = true) (fun _ w' => s.size - w'.iterPos w.heap.size)
  case atStart => exact ⟨0, rfl, rfl, Nat.zero_le _, rfl⟩
  case round =>
    obtain ⟨pos, rfl, rfl, hp, ha⟩ := hrel
    have HA := Lib.hid ha
    clear ha
    by_cases hlt : pos < s.size
    · by_cases hascii : s[pos].toNat < 128
      · have hnx : ∀ ty, (Instr.next (.pointer (some ⟨w.heap.size, 0, none⟩)) true ty).run Tryz.prog (w.iter s pos) = _ := fun ty => run_next_ascii w s pos ty hlt hascii
        go_wp2_with (go_at_call 109; refine (seen_any _ _).mono ?_; rintro e w' ⟨rfl, rfl⟩)
        · go_ret
          have h : (!decide (33 ≤ (s[pos].toNat : Int))) = true ∨ (!decide ((s[pos].toNat : Int) ≤ 126)) = true := by assumption
          rw [KeyP.not_right_at s pos hlt (by rcases h with h | h; exact KeyP.okB_lo _ (by simp at h; omega); exact KeyP.okB_hi _ (by simp at h; omega))]
          exact ⟨rfl, (Below.refl _ _).alloc (Nat.le_refl _) _⟩
        · have h : (!decide (33 ≤ (s[pos].toNat : Int))) = false ∧ (!decide ((s[pos].toNat : Int) ≤ 126)) = false := by assumption
          have hok : KeyP.okB s[pos] = true := KeyP.okB_true _ (by simp at h; omega) (by simp at h; omega)
          go_roundw
          case rel => exact ⟨pos + 1, rfl, rfl, by omega, by rw [KeyP.all_take s pos hlt, HA.out, hok]; rfl⟩
          case measure => simp; omega
      · have hnx : ∀ ty, (Instr.next (.pointer (some ⟨w.heap.size, 0, none⟩)) true ty).run Tryz.prog (w.iter s pos) = _ := fun ty => run_next_any w s pos ty hlt
        have hd := (decode_high s pos hlt (by omega)).1
        go_wp2_with (go_at_call 109; refine (seen_any _ _).mono ?_; rintro e w' ⟨rfl, rfl⟩)
        · go_ret
          rw [KeyP.not_right_at s pos hlt (KeyP.okB_hi _ (by omega))]
          exact ⟨rfl, (Below.refl _ _).alloc (Nat.le_refl _) _⟩
        · have h : (!decide (33 ≤ ((Utf8.decode s pos).1 : Int))) = false ∧ (!decide (((Utf8.decode s pos).1 : Int) ≤ 126)) = false := by assumption
          simp at h
          omega
    · have hnx : ∀ ty, (Instr.next (.pointer (some ⟨w.heap.size, 0, none⟩)) true ty).run Tryz.prog (w.iter s pos) = _ := fun ty => run_next_end w s pos ty hlt
      go_wp2
      go_ret
      rw [KeyP.right_of s (KeyP.all_of_take s pos hlt HA.out) (by omega) (by omega)]
      exact ⟨rfl, (Below.refl _ _).alloc (Nat.le_refl _) _⟩

end Go.Proofs.YtpdfnlhhnodnjaaGreat.Key
end
section
namespace Go.Proofs.YtpdfnlhhnodnjaaGreat.SlotW
open Go.RowKit

/-- an item as a value -/
abbrev itemV (A : Option Addr) (n cap : Nat) (x : Item) : Value := .agg #[.int .i64 x.state, .string x.key, .int .i64 x.cell.kind, .slice A n cap, .int .i64 x.cell.lo, .int .i64 x.cell.hi, .int .i64 x.cell.val]

set_option maxHeartbeats 1000000 in
theorem refSame_any (A A' : Option Addr) (n cap n' cap' B B' : Nat) (x y : Item) (w : World) (h : Bytes w B A n cap x.cell.data) (h' : Bytes w B' A' n' cap' y.cell.data) (hB : B ≤ w.heap.size) (hB' : B' ≤ w.heap.size) :
    Calls Tryz.prog 52 #[itemV A n cap x, itemV A' n' cap' y] w fun e w' => e = .returned (.bool (SlotP.same x y)) ∧ Below w.heap.size w w' := by
  obtain ⟨s, k, kind, data, lo, hi, val⟩ := x
  obtain ⟨s', k', kind', data', lo', hi', val'⟩ := y
  dsimp only at *
  have H := Lib.hid h
  have H' := Lib.hid h'
  clear h h'
  go_enter Tryz.func52, Tryz.ntmps52
  go_wp2_with (go_at_call 82; refine (CellF.refSame _ _ _ _ _ _ _ _ _ _ _ _ _ _ _ _ _ _ _ ((H.out.alloc hB _).alloc (by simp; omega) _) ((H'.out.alloc hB' _).alloc (by simp; omega) _) (by simp; omega) (by simp; omega)).mono ?_; rintro e w' ⟨rfl, hb⟩)
  all_goals go_ret
  all_goals refine ⟨congrArg (fun b => Ending.returned (.bool b)) ?_, by first | exact bstep (balloc (balloc (bsame _) _) _) hb | exact balloc (balloc (bsame _) _) _⟩
  all_goals simp_all [SlotP.same]

set_option maxHeartbeats 1000000 in
theorem same_any (A A' : Option Addr) (n cap n' cap' B B' : Nat) (x y : Item) (w : World) (h : Bytes w B A n cap x.cell.data) (h' : Bytes w B' A' n' cap' y.cell.data) (hB : B ≤ w.heap.size) (hB' : B' ≤ w.heap.size) :
    Calls Tryz.prog 93 #[itemV A n cap x, itemV A' n' cap' y] w fun e w' => e = .returned (.bool (SlotP.same x y)) ∧ Below w.heap.size w w' := by
  obtain ⟨s, k, kind, data, lo, hi, val⟩ := x
  obtain ⟨s', k', kind', data', lo', hi', val'⟩ := y
  dsimp only at *
  have H := Lib.hid h
  have H' := Lib.hid h'
  clear h h'
  go_enter Tryz.func93, Tryz.ntmps93
  go_wp2_with (go_at_call 111; refine (CellF.same _ _ _ _ _ _ _ _ _ _ _ _ _ _ _ _ _ _ _ ((H.out.alloc hB _).alloc (by simp; omega) _) ((H'.out.alloc hB' _).alloc (by simp; omega) _) (by simp; omega) (by simp; omega)).mono ?_; rintro e w' ⟨rfl, hb⟩)
  all_goals go_ret
  all_goals refine ⟨congrArg (fun b => Ending.returned (.bool b)) ?_, by first | exact bstep (balloc (balloc (bsame _) _) _) hb | exact balloc (balloc (bsame _) _) _⟩
  all_goals simp_all [SlotP.same]

/-- against the empty slot -/
theorem empty_bytes (w : World) : Bytes w 0 none 0 0 (SlotP.none).cell.data := Bytes.none_ _ _

end Go.Proofs.YtpdfnlhhnodnjaaGreat.SlotW
end
