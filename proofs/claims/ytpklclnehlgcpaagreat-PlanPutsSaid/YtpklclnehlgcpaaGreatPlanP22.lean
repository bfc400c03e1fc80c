/-
  Parts of the proof of PlanPuts.
-/
import Derived.Test.YtpklclnehlgcpaaGreatPlanP19
import Derived.Test.YtpklclnehlgcpaaGreatPlanP21
import Derived.Test.YtpklclnehlgcpaaGreatPlanP9
import Derived.Test.YtpklclnehlgcpaaGreatPlanP1
import Derived.Lib.AppendZerosOnto
import Derived.Test.YtpklclnehlgcpaaGreatPlanP8
import Derived.Test.YtpklclnehlgcpaaGreatPlanP10
import Derived.Test.YtpklclnehlgcpaaGreatPlanP0
import Derived.Test.YtpklclnehlgcpaaGreatPlanP2
import Derived.Laws.BitsAllLaws
import Derived.IntWalk
import Derived.Test.YtpklclnehlgcpaaGreatPlanP7
section
namespace Go.Proofs.YtpklclnehlgcpaaGreat.RefPatch
open Go.RowKit
set_option linter.unusedVariables false
set_option linter.unusedSimpArgs false
attribute [local go_sem ↓] app_fold
theorem head_no (p : Int) : BeP.parts 2 p ++ [0] = BeP.parts 2 p ++ BeP.parts 1 (PatchP.flag false) := by
  have : BeP.parts 1 (PatchP.flag false) = [0] := by decide
  rw [this]
theorem head_yes (p : Int) : (BeP.parts 2 p ++ [0]).set 2 1 = BeP.parts 2 p ++ BeP.parts 1 (PatchP.flag true) := by
  have h1 : BeP.parts 1 (PatchP.flag true) = [1] := by decide
  have h2 := BeP.parts_length 2 p
  rw [h1, List.set_append_right _ _ (by omega), h2]
  rfl
set_option maxRecDepth 100000 in
set_option maxHeartbeats 4000000 in
theorem bytes_any (x : PatchX) (A2 : Option Addr) (n2 c2 B2 : Nat) (w : World) (hE : Elems RunE w B2 A2 n2 c2 x.runs) (hB2 : B2 ≤ w.heap.size) (hi : In64 x.page) :
    Calls Tryz.prog 34 #[.agg #[.int .i64 x.page, .bool x.fresh, .slice A2 n2 c2]] w (GivesBytes w (PatchP.bytes x)) := by
  have HE := Lib.hid hE
  have hlen := hE.len
  have hcap := hE.cap
  have hcm := hcap.2
  unfold maxLen at hcm
  clear hE
  have HBX : Hid (PatchP.bytes x = if PatchP.right x = true then PatchP.body x else []) := Lib.hid rfl
  have HRT : Hid (PatchP.right x = true → x.runs.length ≤ 500 ∧ (∀ (k : Nat) r, x.runs[k]? = some r → 12 ≤ r.at_ ∧ r.at_ ≤ 511 ∧ 1 ≤ r.data.length ∧ r.data.length ≤ 500) ∧ ∀ k, (PatchP.runsB (x.runs.take k)).length ≤ 252000) := Lib.hid (fun h => by
    have hR := (PatchP.right_iff x).1 h
    exact ⟨hR.2.2.1, fun k r hr => PatchP.in_runs hR hr, fun k => PatchP.runs_le hR k⟩)
  have HBO : Hid (PatchP.body x = BeP.parts 2 x.page ++ (BeP.parts 1 (PatchP.flag x.fresh) ++ BeP.parts 2 (x.runs.length : Nat)) ++ PatchP.runsB x.runs) := Lib.hid rfl
  have hchk := fun W (h1 : Elems RunE W B2 A2 n2 c2 x.runs) (h2 : B2 ≤ W.heap.size) => right_any x A2 n2 c2 B2 W h1 h2 hi
  have HC := Lib.hid hchk
  clear hchk hi
  obtain ⟨p, fr, rs⟩ := x
  dsimp only at *
  obtain ⟨W0, hW0⟩ : ∃ W, w.alloc (.cells #[.int .i64 p, .bool fr, .slice A2 n2 c2] 33) = W := ⟨_, rfl⟩
  obtain ⟨HS0, HB0, hw0, hz0⟩ := new1 hW0
  have g0 := str3 HS0.out
  have hl0 := HS0.out.lt
  go_enter Tryz.func34, Tryz.ntmps34
  go_wp2_with fail
  refine (HC.out W0 (HE.out.below (HB0.out.mono hB2)) (by omega)).mono ?_
  rintro e W1 ⟨rfl, hb1⟩
  have HS1 := Lib.hid (HS0.out.next hb1)
  have HB1 := Lib.hid (bstep HB0.out hb1)
  have hw1 := HB1.out.size
  have hs1 := hb1.size
  clear hb1 HS0 HB0 g0 hl0
  have g0 := str3 HS1.out
  have hl0 := HS1.out.lt
  cases hr : PatchP.right ⟨p, fr, rs⟩ with
  | false =>
    have HFIN : Hid (PatchP.bytes ⟨p, fr, rs⟩ = []) := Lib.hid (by rw [HBX.out, hr, if_neg (by decide)])
    clear hr HBX HBO HRT
    go_wp2
    go_ret
    exact ⟨none, 0, 0, rfl, by rw [HFIN.out]; exact Bytes.none_ _ _, HB1.out⟩
  | true =>
    have hl500 := (HRT.out hr).1
    have HIN := Lib.hid (HRT.out hr).2.1
    have HRS := Lib.hid (HRT.out hr).2.2
    have hfin : PatchP.bytes ⟨p, fr, rs⟩ = BeP.parts 2 p ++ BeP.parts 1 (PatchP.flag fr) ++ BeP.parts 2 (n2 : Int) ++ PatchP.runsB rs := by
      rw [HBX.out, hr, if_pos rfl, HBO.out, hlen]; simp
    have HFIN := Lib.hid hfin
    have HL := Lib.hid hlen
    clear hfin hr HRT HBX HBO
    go_wp2_with fail
    refine (RefBytesO.bytes_any 2 p W1 (by omega)).mono ?_
    rintro e W2 ⟨A3, n3, c3, rfl, hO3, hb2⟩
    have hn3 : n3 = 2 := by rw [← hO3.len, BeP.parts_length]
    subst hn3
    obtain ⟨g3, hK3⟩ := BK.of_own (w0 := w) hO3 (bstep HB1.out hb2) (HS1.out.next hb2) hl0
    have HK3 := Lib.hid hK3
    clear hK3 hO3 hb2 g0 hl0 HS1 HB1
    have HK4 := Lib.hid (HK3.out.next (balloc (bsame W2) (.cells #[.int .u8 0] 5)))
    have h0 : ((0 : UInt8).toNat : Int) = 0 := rfl
    have hone := (Own.one W2 W2.heap.size (Nat.le_refl _) 0).bytes
    simp only [h0] at hone
    obtain ⟨A5, c5, W5, g5, happ5, hK5⟩ := HK4.out.app hone (by omega)
    have HK5 := Lib.hid hK5
    have g0 := str3 HK5.out.box
    have hl0 := HK5.out.box.lt
    clear hK5 hone h0 HK3 HK4
    cases fr with
    | false =>
      rw [head_no] at HK5
      go_wp2_with fail
      refine (RefBytes.bytes_any 2 (n2 : Int) _ (by omega)).mono ?_
      rintro e W7 ⟨A7, n7, c7, rfl, hy7, hb7⟩
      have hn7 : n7 = 2 := by rw [← hy7.len, BeP.parts_length]
      subst hn7
      obtain ⟨A8, c8, W8, g8, happ8, hK8⟩ := (HK5.out.next hb7).app hy7 (by omega)
      have HK8 := Lib.hid hK8
      clear hK8 hy7 hb7 g0 hl0 HK5
      have g0 := str3 HK8.out.box
      have hl0 := HK8.out.box.lt
      obtain ⟨L0, hL0⟩ : ∃ L, BeP.parts 2 p ++ BeP.parts 1 (PatchP.flag false) ++ BeP.parts 2 (n2 : Int) = L := ⟨_, rfl⟩
      have hL0l : L0.length ≤ 5 := by rw [← hL0]; simp [BeP.parts_length]
      rw [hL0] at HK8 HFIN
      clear hL0
      go_wp2
      go_loopw [3, 4] (fun bv iv wr => ∃ (k nk ck : Nat) (gk : Option Nat) (Ak : Option Addr), k ≤ n2 ∧ bv = .slice Ak nk ck ∧ iv = .int .i64 (k : Int) ∧ nk ≤ 252005 ∧ Hid (BK w wr gk Ak nk ck #[.int .i64 p, .bool false, .slice A2 n2 c2] (L0 ++ PatchP.runsB (rs.take k)))) (fun _ iv _ => n2 - (intOf iv).toNat)
      case atStart => exact ⟨0, _, _, g8, A8, Nat.zero_le _, rfl, rfl, by omega, Lib.hid (by simpa [PatchP.runsB] using HK8.out)⟩
      case round =>
        obtain ⟨k, nk, ck, gk, Ak, hk, rfl, rfl, hnk, HQ⟩ := hrel
        clear HK8 g0 hl0
        have g0 := str3 HQ.out.box
        have hl0 := HQ.out.box.lt
        have hwr := HQ.out.bel.size
        by_cases hlt : k < n2
        · have hd : decide ((k : Int) < (n2 : Int)) = true := by simp; omega
          obtain ⟨b, o, r, A4, n4, c4, rfl, hb, hr, hy, hir, q0, q1⟩ := run_at HE.out hlt
          have hrin := HIN.out k r hr
          have hyl := hy.len
          replace q0 := (HQ.out.bel.cell (p := ⟨b, o + k * 2, none⟩) (by show b < _; omega)).trans q0
          have HQ1 := Lib.hid q1
          have hsn : L0 ++ PatchP.runsB (rs.take (k + 1)) = L0 ++ PatchP.runsB (rs.take k) ++ BeP.parts 2 r.at_ ++ (BeP.parts 2 (n4 : Int) ++ r.data) := by
            rw [PatchP.runsB_snoc _ _ _ hr]
            simp only [PatchP.runB, hyl, List.append_assoc]
          have HSN := Lib.hid hsn
          have hlk1 : (L0 ++ PatchP.runsB (rs.take (k + 1))).length = nk + (2 + (2 + n4)) := by
            rw [hsn]; simp only [List.length_append, BeP.parts_length, hyl]; have := HQ.out.len; simp only [List.length_append] at this; omega
          have hrk := HRS.out (k + 1)
          have hL5 : L0.length ≤ 5 := hL0l
          have hnk1 : nk + (2 + (2 + n4)) ≤ 252005 := by rw [← hlk1, List.length_append]; omega
          obtain ⟨rp, rd⟩ := r
          dsimp only at *
          have HY := Lib.hid hy
          clear hsn hy hr hrk q1 hlk1
          go_wp2_with fail
          refine (RefBytes.bytes_any 2 rp wr (by omega)).mono ?_
          rintro e W9 ⟨A9, n9, c9, rfl, hy9, hb9⟩
          have hn9 : n9 = 2 := by rw [← hy9.len, BeP.parts_length]
          subst hn9
          obtain ⟨A10, c10, W10, g10, happ10, hK10⟩ := (HQ.out.next hb9).app hy9 (by omega)
          have HK10 := Lib.hid hK10
          clear hK10 hy9 hb9 HQ g0 hl0 q0
          have g0 := str3 HK10.out.box
          have hl0 := HK10.out.box.lt
          have q1 := (HK10.out.bel.cell (p := ⟨b, o + k * 2 + 1, none⟩) (by show b < _; omega)).trans HQ1.out
          have hy10 : Bytes W10 B2 A4 n4 c4 rd := HY.out.below (HK10.out.bel.mono hB2)
          have hstr := run_str (P := Tryz.prog) 23 9 5 Tryz.underlying23 Tryz.underlying5 Tryz.underlying9 hy10
          have hsz : (strOf rd).size = n4 := by rw [strOf_size]; exact hyl
          clear hy10
          go_wp2_with fail
          refine (RefText.text_any (strOf rd) (by omega) W10).mono ?_
          rintro e W11 ⟨A11, n11, c11, rfl, hy11, hb11⟩
          rw [strOf_data, hsz] at hy11
          have hn11 : n11 = 2 + n4 := by rw [← hy11.len]; simp only [List.length_append, BeP.parts_length, hyl]
          subst hn11
          obtain ⟨A12, c12, W12, g12, happ12, hK12⟩ := (HK10.out.next hb11).app hy11 (by omega)
          rw [← HSN.out] at hK12
          have HK12 := Lib.hid hK12
          have hn12 : nk + 2 + (2 + n4) ≤ 252005 := by omega
          clear hK12 hy11 hb11 HK10 g0 hl0 q1 hstr hsz hnk1
          go_wp2
          go_roundw
          case rel => exact ⟨k + 1, _, c12, g12, A12, by omega, rfl, by go_num, hn12, HK12⟩
          case measure => simp [intOf]; omega
        · have hd : decide ((k : Int) < (n2 : Int)) = false := by simp; omega
          have hkn : k = n2 := by omega
          subst hkn
          have htk : rs.take k = rs := List.take_of_length_le (by rw [HL.out]; exact Nat.le_refl _)
          rw [htk, ← HFIN.out] at HQ
          clear htk
          go_wp2
          go_ret
          exact ⟨Ak, nk, ck, rfl, HQ.out.own.bytes, HQ.out.bel⟩
    | true =>
      obtain ⟨b6, o6, rfl, hb6, ⟨v6, hv6⟩, hf6, hne6, hK6⟩ := HK5.out.set (show 2 < 2 + 1 by omega) 1
      have h1 : byteV 1 = .int .u8 1 := rfl
      rw [head_yes, h1] at hK6
      clear HK5
      have HK5 := Lib.hid hK6
      clear hK6 h1
      go_wp2_with fail
      refine (RefBytes.bytes_any 2 (n2 : Int) _ (by omega)).mono ?_
      rintro e W7 ⟨A7, n7, c7, rfl, hy7, hb7⟩
      have hn7 : n7 = 2 := by rw [← hy7.len, BeP.parts_length]
      subst hn7
      clear hv6 hf6
      obtain ⟨A8, c8, W8, g8, happ8, hK8⟩ := (HK5.out.next hb7).app hy7 (by omega)
      have HK8 := Lib.hid hK8
      clear hK8 hy7 hb7 g0 hl0 HK5
      have g0 := str3 HK8.out.box
      have hl0 := HK8.out.box.lt
      obtain ⟨L0, hL0⟩ : ∃ L, BeP.parts 2 p ++ BeP.parts 1 (PatchP.flag true) ++ BeP.parts 2 (n2 : Int) = L := ⟨_, rfl⟩
      have hL0l : L0.length ≤ 5 := by rw [← hL0]; simp [BeP.parts_length]
      rw [hL0] at HK8 HFIN
      clear hL0
      go_wp2
      go_loopw [3, 4] (fun bv iv wr => ∃ (k nk ck : Nat) (gk : Option Nat) (Ak : Option Addr), k ≤ n2 ∧ bv = .slice Ak nk ck ∧ iv = .int .i64 (k : Int) ∧ nk ≤ 252005 ∧ Hid (BK w wr gk Ak nk ck #[.int .i64 p, .bool true, .slice A2 n2 c2] (L0 ++ PatchP.runsB (rs.take k)))) (fun _ iv _ => n2 - (intOf iv).toNat)
      case atStart => exact ⟨0, _, _, g8, A8, Nat.zero_le _, rfl, rfl, by omega, Lib.hid (by simpa [PatchP.runsB] using HK8.out)⟩
      case round =>
        obtain ⟨k, nk, ck, gk, Ak, hk, rfl, rfl, hnk, HQ⟩ := hrel
        clear HK8 g0 hl0
        have g0 := str3 HQ.out.box
        have hl0 := HQ.out.box.lt
        have hwr := HQ.out.bel.size
        by_cases hlt : k < n2
        · have hd : decide ((k : Int) < (n2 : Int)) = true := by simp; omega
          obtain ⟨b, o, r, A4, n4, c4, rfl, hb, hr, hy, hir, q0, q1⟩ := run_at HE.out hlt
          have hrin := HIN.out k r hr
          have hyl := hy.len
          replace q0 := (HQ.out.bel.cell (p := ⟨b, o + k * 2, none⟩) (by show b < _; omega)).trans q0
          have HQ1 := Lib.hid q1
          have hsn : L0 ++ PatchP.runsB (rs.take (k + 1)) = L0 ++ PatchP.runsB (rs.take k) ++ BeP.parts 2 r.at_ ++ (BeP.parts 2 (n4 : Int) ++ r.data) := by
            rw [PatchP.runsB_snoc _ _ _ hr]
            simp only [PatchP.runB, hyl, List.append_assoc]
          have HSN := Lib.hid hsn
          have hlk1 : (L0 ++ PatchP.runsB (rs.take (k + 1))).length = nk + (2 + (2 + n4)) := by
            rw [hsn]; simp only [List.length_append, BeP.parts_length, hyl]; have := HQ.out.len; simp only [List.length_append] at this; omega
          have hrk := HRS.out (k + 1)
          have hL5 : L0.length ≤ 5 := hL0l
          have hnk1 : nk + (2 + (2 + n4)) ≤ 252005 := by rw [← hlk1, List.length_append]; omega
          obtain ⟨rp, rd⟩ := r
          dsimp only at *
          have HY := Lib.hid hy
          clear hsn hy hr hrk q1 hlk1
          go_wp2_with fail
          refine (RefBytes.bytes_any 2 rp wr (by omega)).mono ?_
          rintro e W9 ⟨A9, n9, c9, rfl, hy9, hb9⟩
          have hn9 : n9 = 2 := by rw [← hy9.len, BeP.parts_length]
          subst hn9
          obtain ⟨A10, c10, W10, g10, happ10, hK10⟩ := (HQ.out.next hb9).app hy9 (by omega)
          have HK10 := Lib.hid hK10
          clear hK10 hy9 hb9 HQ g0 hl0 q0
          have g0 := str3 HK10.out.box
          have hl0 := HK10.out.box.lt
          have q1 := (HK10.out.bel.cell (p := ⟨b, o + k * 2 + 1, none⟩) (by show b < _; omega)).trans HQ1.out
          have hy10 : Bytes W10 B2 A4 n4 c4 rd := HY.out.below (HK10.out.bel.mono hB2)
          have hstr := run_str (P := Tryz.prog) 23 9 5 Tryz.underlying23 Tryz.underlying5 Tryz.underlying9 hy10
          have hsz : (strOf rd).size = n4 := by rw [strOf_size]; exact hyl
          clear hy10
          go_wp2_with fail
          refine (RefText.text_any (strOf rd) (by omega) W10).mono ?_
          rintro e W11 ⟨A11, n11, c11, rfl, hy11, hb11⟩
          rw [strOf_data, hsz] at hy11
          have hn11 : n11 = 2 + n4 := by rw [← hy11.len]; simp only [List.length_append, BeP.parts_length, hyl]
          subst hn11
          obtain ⟨A12, c12, W12, g12, happ12, hK12⟩ := (HK10.out.next hb11).app hy11 (by omega)
          rw [← HSN.out] at hK12
          have HK12 := Lib.hid hK12
          have hn12 : nk + 2 + (2 + n4) ≤ 252005 := by omega
          clear hK12 hy11 hb11 HK10 g0 hl0 q1 hstr hsz hnk1
          go_wp2
          go_roundw
          case rel => exact ⟨k + 1, _, c12, g12, A12, by omega, rfl, by go_num, hn12, HK12⟩
          case measure => simp [intOf]; omega
        · have hd : decide ((k : Int) < (n2 : Int)) = false := by simp; omega
          have hkn : k = n2 := by omega
          subst hkn
          have htk : rs.take k = rs := List.take_of_length_le (by rw [HL.out]; exact Nat.le_refl _)
          rw [htk, ← HFIN.out] at HQ
          clear htk
          go_wp2
          go_ret
          exact ⟨Ak, nk, ck, rfl, HQ.out.own.bytes, HQ.out.bel⟩
end Go.Proofs.YtpklclnehlgcpaaGreat.RefPatch
end
section
namespace Go.Proofs.YtpklclnehlgcpaaGreat
end Go.Proofs.YtpklclnehlgcpaaGreat
namespace Go.Proofs.YtpklclnehlgcpaaGreat.ConcatW
open Go.RowKit

abbrev Part := Option Addr × Nat × Nat × List UInt8
def all (ps : List Part) : List UInt8 := ps.flatMap fun p => p.2.2.2
section
attribute [local go_sem ↓] app_fold
end
end Go.Proofs.YtpklclnehlgcpaaGreat.ConcatW
end
section
namespace Go.Proofs.YtpklclnehlgcpaaGreat
theorem Str.lit {w : World} {b : Nat} {cs : Array Value} (h : Str w b cs) (l : List UInt8) (hC : cs = (l.map byteV).toArray) (hl : l.length ≤ maxLen) : Bytes w w.heap.size (some ⟨b, 0, none⟩) l.length l.length l :=
  ⟨rfl, Nat.le_refl _, hl, fun _ => ⟨b, 0, rfl, h.lt, fun j u hu => by rw [Nat.zero_add, h.cell, hC]; simp [hu]⟩⟩
theorem KeyP.right_size (k : ByteArray) (h : KeyP.right k.data.toList = true) : k.size ≤ 16 := by
  have e : k.data.toList.length = k.size := by simp
  simp only [KeyP.right, Bool.and_eq_true, decide_eq_true_eq] at h
  omega
theorem UndoP.right_key (u : Undo) (h0 : ¬ u.act = 0) (h : UndoP.right u = true) : KeyP.right u.key.data.toList = true := by
  unfold UndoP.right at h
  rw [if_neg h0] at h
  split at h
  · simp only [Bool.and_eq_true] at h; exact h.1
  · split at h
    · simp only [Bool.and_eq_true] at h; exact h.1
    · cases h
end Go.Proofs.YtpklclnehlgcpaaGreat
namespace Go.Proofs.YtpklclnehlgcpaaGreat.UndoW
open Go.RowKit
set_option linter.unusedVariables false
attribute [local go_sem ↓] app_fold al64_fold ld64_fold st64_fold bd64_fold sl64_fold

end Go.Proofs.YtpklclnehlgcpaaGreat.UndoW
end
section
namespace Go.Proofs.YtpklclnehlgcpaaGreat
open Go.RowKit
theorem Own.two (w : World) (base : Nat) (hb : base ≤ w.heap.size) (u v : UInt8) : Own (w.alloc (.cells #[.int .u8 (u.toNat : Int), .int .u8 (v.toNat : Int)] 5)) base (some ⟨w.heap.size, 0, none⟩) 2 2 [u, v] :=
  ⟨rfl, .inr ⟨_, _, _, rfl, hb, heap_alloc_new w _, Nat.le_refl _, by decide, rfl, rfl⟩⟩
end Go.Proofs.YtpklclnehlgcpaaGreat
namespace Go.Proofs.YtpklclnehlgcpaaGreat.RefUndoB
open Go.RowKit UndoW
set_option linter.unusedVariables false
attribute [local go_sem ↓] app_fold

set_option maxRecDepth 100000 in
set_option maxHeartbeats 1000000 in
theorem bytes_no (pact : Int) (puk : ByteArray) (Ap : Option Addr) (np cp Bp : Nat) (pst : Int) (pk : ByteArray) (pkd : Int) (pda : List UInt8) (plo phi pva : Int) (pun : Int) (w : World) (hp : Bytes w Bp Ap np cp pda) (hBp : Bp ≤ w.heap.size) (hpk : pk.size ≤ maxLen) (huk : puk.size ≤ maxLen) (hr : UndoP.right ⟨pact, puk, ⟨pst, pk, ⟨pkd, pda, plo, phi, pva⟩⟩, pun⟩ = false) : Calls Tryz.prog 36 #[.agg #[.int .i64 pact, .string puk, .int .i64 pst, .string pk, .int .i64 pkd, .slice Ap np cp, .int .i64 plo, .int .i64 phi, .int .i64 pva, .int .i64 pun]] w (GivesBytes w (UndoP.bytes ⟨pact, puk, ⟨pst, pk, ⟨pkd, pda, plo, phi, pva⟩⟩, pun⟩)) := by
  have Hp := Lib.hid hp
  have HR := Lib.hid hr
  clear hp hr
  have HE : Hid (UndoP.bytes ⟨pact, puk, ⟨pst, pk, ⟨pkd, pda, plo, phi, pva⟩⟩, pun⟩ = []) := Lib.hid (by rw [UndoP.bytes, if_neg (by rw [HR.out]; simp)])
  rw [HE.out]
  go_enter Tryz.func36, Tryz.ntmps36
  go_wp2_with fail
  generalize hW0 : (w).alloc (.cells #[.int .i64 pact, .string puk, .int .i64 pst, .string pk, .int .i64 pkd, .slice Ap np cp, .int .i64 plo, .int .i64 phi, .int .i64 pva, .int .i64 pun] 40) = W0
  have HS0_0 : Hid (Str W0 (w.heap.size) #[.int .i64 pact, .string puk, .int .i64 pst, .string pk, .int .i64 pkd, .slice Ap np cp, .int .i64 plo, .int .i64 phi, .int .i64 pva, .int .i64 pun]) := Lib.hid (by rw [← hW0]; have := Str.new (w) #[.int .i64 pact, .string puk, .int .i64 pst, .string pk, .int .i64 pkd, .slice Ap np cp, .int .i64 plo, .int .i64 phi, .int .i64 pva, .int .i64 pun] 40; simpa using this)
  have HB_0 : Hid (Below w.heap.size w W0) := Lib.hid (by rw [← hW0]; exact balloc (bsame w) _)
  have hw_0 := HB_0.out.size
  clear hW0
  obtain ⟨f0_0_0, f0_0_1, f0_0_2, f0_0_3, f0_0_4, f0_0_5, f0_0_6, f0_0_7, f0_0_8, f0_0_9⟩ := str10 HS0_0.out
  have hl0_0 := HS0_0.out.lt
  refine (right_any _ _ _ _ _ _ _ _ _ pda _ _ _ _ _ (Hp.out.below (HB_0.out.mono hBp)) (by omega) hpk huk).mono ?_
  rintro e W1 ⟨rfl, hb1⟩
  rw [HR.out]
  have HS0_1 := Lib.hid (HS0_0.out.next hb1)
  have HB_1 := Lib.hid (bstep HB_0.out hb1)
  have hw_1 := HB_1.out.size
  have hws_1 := (hb1).size
  clear f0_0_0 f0_0_1 f0_0_2 f0_0_3 f0_0_4 f0_0_5 f0_0_6 f0_0_7 f0_0_8 f0_0_9 HS0_0
  clear hb1
  obtain ⟨f0_1_0, f0_1_1, f0_1_2, f0_1_3, f0_1_4, f0_1_5, f0_1_6, f0_1_7, f0_1_8, f0_1_9⟩ := str10 HS0_1.out
  have hl0_1 := HS0_1.out.lt
  go_wp2_with fail
  go_ret
  exact ⟨none, 0, 0, rfl, Bytes.none_ _ _, HB_1.out⟩

set_option maxRecDepth 100000 in
set_option maxHeartbeats 1000000 in
theorem bytes0 (puk : ByteArray) (Ap : Option Addr) (np cp Bp : Nat) (pst : Int) (pk : ByteArray) (pkd : Int) (pda : List UInt8) (plo phi pva : Int) (pun : Int) (w : World) (hp : Bytes w Bp Ap np cp pda) (hBp : Bp ≤ w.heap.size) (hpk : pk.size ≤ maxLen) (huk : puk.size ≤ maxLen) (hr : UndoP.right ⟨0, puk, ⟨pst, pk, ⟨pkd, pda, plo, phi, pva⟩⟩, pun⟩ = true) : Calls Tryz.prog 36 #[.agg #[.int .i64 0, .string puk, .int .i64 pst, .string pk, .int .i64 pkd, .slice Ap np cp, .int .i64 plo, .int .i64 phi, .int .i64 pva, .int .i64 pun]] w (GivesBytes w (UndoP.bytes ⟨0, puk, ⟨pst, pk, ⟨pkd, pda, plo, phi, pva⟩⟩, pun⟩)) := by
  have Hp := Lib.hid hp
  have HR := Lib.hid hr
  clear hp hr
  have HE : Hid (UndoP.bytes ⟨0, puk, ⟨pst, pk, ⟨pkd, pda, plo, phi, pva⟩⟩, pun⟩ = [0]) := Lib.hid (by rw [UndoP.bytes, if_pos HR.out]; rfl)
  rw [HE.out]
  go_enter Tryz.func36, Tryz.ntmps36
  go_wp2_with fail
  generalize hW0 : (w).alloc (.cells #[.int .i64 0, .string puk, .int .i64 pst, .string pk, .int .i64 pkd, .slice Ap np cp, .int .i64 plo, .int .i64 phi, .int .i64 pva, .int .i64 pun] 40) = W0
  have HS0_0 : Hid (Str W0 (w.heap.size) #[.int .i64 0, .string puk, .int .i64 pst, .string pk, .int .i64 pkd, .slice Ap np cp, .int .i64 plo, .int .i64 phi, .int .i64 pva, .int .i64 pun]) := Lib.hid (by rw [← hW0]; have := Str.new (w) #[.int .i64 0, .string puk, .int .i64 pst, .string pk, .int .i64 pkd, .slice Ap np cp, .int .i64 plo, .int .i64 phi, .int .i64 pva, .int .i64 pun] 40; simpa using this)
  have HB_0 : Hid (Below w.heap.size w W0) := Lib.hid (by rw [← hW0]; exact balloc (bsame w) _)
  have hw_0 := HB_0.out.size
  clear hW0
  obtain ⟨f0_0_0, f0_0_1, f0_0_2, f0_0_3, f0_0_4, f0_0_5, f0_0_6, f0_0_7, f0_0_8, f0_0_9⟩ := str10 HS0_0.out
  have hl0_0 := HS0_0.out.lt
  refine (right_any _ _ _ _ _ _ _ _ _ pda _ _ _ _ _ (Hp.out.below (HB_0.out.mono hBp)) (by omega) hpk huk).mono ?_
  rintro e W1 ⟨rfl, hb1⟩
  rw [HR.out]
  have HS0_1 := Lib.hid (HS0_0.out.next hb1)
  have HB_1 := Lib.hid (bstep HB_0.out hb1)
  have hw_1 := HB_1.out.size
  have hws_1 := (hb1).size
  clear f0_0_0 f0_0_1 f0_0_2 f0_0_3 f0_0_4 f0_0_5 f0_0_6 f0_0_7 f0_0_8 f0_0_9 HS0_0
  clear hb1
  obtain ⟨f0_1_0, f0_1_1, f0_1_2, f0_1_3, f0_1_4, f0_1_5, f0_1_6, f0_1_7, f0_1_8, f0_1_9⟩ := str10 HS0_1.out
  have hl0_1 := HS0_1.out.lt
  go_wp2_with fail
  generalize hW2 : W1.alloc (.cells #[.int .u8 0] 5) = W2
  have HS0_2 : Hid (Str W2 (w.heap.size) #[.int .i64 0, .string puk, .int .i64 pst, .string pk, .int .i64 pkd, .slice Ap np cp, .int .i64 plo, .int .i64 phi, .int .i64 pva, .int .i64 pun]) := Lib.hid (by rw [← hW2]; exact HS0_1.out.alloc _)
  have HS1_2 : Hid (Str W2 W1.heap.size #[.int .u8 0]) := Lib.hid (by rw [← hW2]; exact Str.new W1 #[.int .u8 0] 5)
  have hba2 : Below W1.heap.size W1 W2 := by rw [← hW2]; exact balloc (bsame _) _
  have HB_2 := Lib.hid (bstep HB_1.out hba2)
  have hw_2 := HB_2.out.size
  have hws_2 := hba2.size
  clear hW2
  clear f0_1_0 f0_1_1 f0_1_2 f0_1_3 f0_1_4 f0_1_5 f0_1_6 f0_1_7 f0_1_8 f0_1_9 HS0_1
  obtain ⟨f0_2_0, f0_2_1, f0_2_2, f0_2_3, f0_2_4, f0_2_5, f0_2_6, f0_2_7, f0_2_8, f0_2_9⟩ := str10 HS0_2.out
  have hl0_2 := HS0_2.out.lt
  have f1_2_0 := str1 HS1_2.out
  have hl1_2 := HS1_2.out.lt
  clear hba2
  go_ret
  exact ⟨_, _, _, rfl, HS1_2.out.lit [0] rfl (by decide), HB_2.out⟩

set_option maxRecDepth 100000 in
set_option maxHeartbeats 1000000 in
theorem bytes1 (puk : ByteArray) (Ap : Option Addr) (np cp Bp : Nat) (pst : Int) (pk : ByteArray) (pkd : Int) (pda : List UInt8) (plo phi pva : Int) (pun : Int) (w : World) (hp : Bytes w Bp Ap np cp pda) (hBp : Bp ≤ w.heap.size) (hpk : pk.size ≤ maxLen) (huk : puk.size ≤ maxLen) (hr : UndoP.right ⟨1, puk, ⟨pst, pk, ⟨pkd, pda, plo, phi, pva⟩⟩, pun⟩ = true) : Calls Tryz.prog 36 #[.agg #[.int .i64 1, .string puk, .int .i64 pst, .string pk, .int .i64 pkd, .slice Ap np cp, .int .i64 plo, .int .i64 phi, .int .i64 pva, .int .i64 pun]] w (GivesBytes w (UndoP.bytes ⟨1, puk, ⟨pst, pk, ⟨pkd, pda, plo, phi, pva⟩⟩, pun⟩)) := by
  have Hp := Lib.hid hp
  have HR := Lib.hid hr
  clear hp hr
  have HE : Hid (UndoP.bytes ⟨1, puk, ⟨pst, pk, ⟨pkd, pda, plo, phi, pva⟩⟩, pun⟩ = [1, UInt8.ofNat puk.size] ++ (puk.data.toList ++ SlotP.bytes ⟨pst, pk, ⟨pkd, pda, plo, phi, pva⟩⟩)) := Lib.hid (by rw [UndoP.bytes, if_pos HR.out]; rfl)
  rw [HE.out]
  have hks := KeyP.right_size puk (UndoP.right_key _ (by simp) HR.out)
  have hkm : ((puk.size : Int) % 256) = (puk.size : Int) := by omega
  have hkb : ((UInt8.ofNat puk.size).toNat : Int) = (puk.size : Int) := by simp; omega
  have HKB := Lib.hid hkb
  clear hkb
  go_enter Tryz.func36, Tryz.ntmps36
  go_wp2_with fail
  generalize hW0 : (w).alloc (.cells #[.int .i64 1, .string puk, .int .i64 pst, .string pk, .int .i64 pkd, .slice Ap np cp, .int .i64 plo, .int .i64 phi, .int .i64 pva, .int .i64 pun] 40) = W0
  have HS0_0 : Hid (Str W0 (w.heap.size) #[.int .i64 1, .string puk, .int .i64 pst, .string pk, .int .i64 pkd, .slice Ap np cp, .int .i64 plo, .int .i64 phi, .int .i64 pva, .int .i64 pun]) := Lib.hid (by rw [← hW0]; have := Str.new (w) #[.int .i64 1, .string puk, .int .i64 pst, .string pk, .int .i64 pkd, .slice Ap np cp, .int .i64 plo, .int .i64 phi, .int .i64 pva, .int .i64 pun] 40; simpa using this)
  have HB_0 : Hid (Below w.heap.size w W0) := Lib.hid (by rw [← hW0]; exact balloc (bsame w) _)
  have hw_0 := HB_0.out.size
  clear hW0
  obtain ⟨f0_0_0, f0_0_1, f0_0_2, f0_0_3, f0_0_4, f0_0_5, f0_0_6, f0_0_7, f0_0_8, f0_0_9⟩ := str10 HS0_0.out
  have hl0_0 := HS0_0.out.lt
  refine (right_any _ _ _ _ _ _ _ _ _ pda _ _ _ _ _ (Hp.out.below (HB_0.out.mono hBp)) (by omega) hpk huk).mono ?_
  rintro e W1 ⟨rfl, hb1⟩
  rw [HR.out]
  have HS0_1 := Lib.hid (HS0_0.out.next hb1)
  have HB_1 := Lib.hid (bstep HB_0.out hb1)
  have hw_1 := HB_1.out.size
  have hws_1 := (hb1).size
  clear f0_0_0 f0_0_1 f0_0_2 f0_0_3 f0_0_4 f0_0_5 f0_0_6 f0_0_7 f0_0_8 f0_0_9 HS0_0
  clear hb1
  obtain ⟨f0_1_0, f0_1_1, f0_1_2, f0_1_3, f0_1_4, f0_1_5, f0_1_6, f0_1_7, f0_1_8, f0_1_9⟩ := str10 HS0_1.out
  have hl0_1 := HS0_1.out.lt
  go_wp2_with fail
  obtain ⟨A3, c3, W2, happ3, hO3, hb3⟩ := (Own.two W1 W1.heap.size (Nat.le_refl _) 1 (UInt8.ofNat puk.size)).appStr puk (by omega) (by simp)
  have hb3' : Below W1.heap.size W1 W2 := ((Below.refl _ W1).alloc (Nat.le_refl _) _).trans hb3
  rw [HKB.out, show ((1 : UInt8).toNat : Int) = 1 from rfl] at happ3
  have HO3 := Lib.hid hO3
  have hsO : W1.heap.size ≤ W2.heap.size := hb3'.size
  clear hb3 hO3
  have HS0_2 := Lib.hid (HS0_1.out.next hb3')
  have HB_2 := Lib.hid (bstep HB_1.out hb3')
  have hw_2 := HB_2.out.size
  have hws_2 := (hb3').size
  clear f0_1_0 f0_1_1 f0_1_2 f0_1_3 f0_1_4 f0_1_5 f0_1_6 f0_1_7 f0_1_8 f0_1_9 HS0_1
  clear hb3'
  obtain ⟨f0_2_0, f0_2_1, f0_2_2, f0_2_3, f0_2_4, f0_2_5, f0_2_6, f0_2_7, f0_2_8, f0_2_9⟩ := str10 HS0_2.out
  have hl0_2 := HS0_2.out.lt
  go_simp
  go_wp2_with fail
  clear happ3
  refine (RefSlotBytes.bytes_any Ap np cp Bp ⟨pst, pk, ⟨pkd, pda, plo, phi, pva⟩⟩ _ (Hp.out.below (HB_2.out.mono hBp)) (by omega) hpk).mono ?_
  rintro e W3 ⟨A4, n4, c4, rfl, hy4, hb3⟩
  have hn4 : n4 = 64 := by rw [← hy4.len, SlotP.bytes_length]
  subst hn4
  have hsq := hb3.size
  have HO4 := Lib.hid (HO3.out.next hb3)
  have HS0_3 := Lib.hid (HS0_2.out.next hb3)
  have HB_3 := Lib.hid (bstep HB_2.out hb3)
  have hw_3 := HB_3.out.size
  have hws_3 := (hb3).size
  clear f0_2_0 f0_2_1 f0_2_2 f0_2_3 f0_2_4 f0_2_5 f0_2_6 f0_2_7 f0_2_8 f0_2_9 HS0_2
  clear hb3
  obtain ⟨f0_3_0, f0_3_1, f0_3_2, f0_3_3, f0_3_4, f0_3_5, f0_3_6, f0_3_7, f0_3_8, f0_3_9⟩ := str10 HS0_3.out
  have hl0_3 := HS0_3.out.lt
  obtain ⟨A6, c6, W4, happ6, hO6, hb6⟩ := HO4.out.app hy4 (by omega) (by omega)
  have HO6 := Lib.hid hO6
  have HB6 := Lib.hid (HB_3.out.trans (hb6.mono (by omega)))
  clear hO6 hb6 hy4
  go_wp2_with fail
  go_ret
  refine ⟨A6, _, c6, rfl, ?_, HB6.out⟩
  have h9 := HO6.out.bytes
  simpa using h9

set_option maxRecDepth 100000 in
set_option maxHeartbeats 1000000 in
theorem bytes2 (puk : ByteArray) (Ap : Option Addr) (np cp Bp : Nat) (pst : Int) (pk : ByteArray) (pkd : Int) (pda : List UInt8) (plo phi pva : Int) (pun : Int) (w : World) (hp : Bytes w Bp Ap np cp pda) (hBp : Bp ≤ w.heap.size) (hpk : pk.size ≤ maxLen) (huk : puk.size ≤ maxLen) (hr : UndoP.right ⟨2, puk, ⟨pst, pk, ⟨pkd, pda, plo, phi, pva⟩⟩, pun⟩ = true) : Calls Tryz.prog 36 #[.agg #[.int .i64 2, .string puk, .int .i64 pst, .string pk, .int .i64 pkd, .slice Ap np cp, .int .i64 plo, .int .i64 phi, .int .i64 pva, .int .i64 pun]] w (GivesBytes w (UndoP.bytes ⟨2, puk, ⟨pst, pk, ⟨pkd, pda, plo, phi, pva⟩⟩, pun⟩)) := by
  have Hp := Lib.hid hp
  have HR := Lib.hid hr
  clear hp hr
  have HE : Hid (UndoP.bytes ⟨2, puk, ⟨pst, pk, ⟨pkd, pda, plo, phi, pva⟩⟩, pun⟩ = [2, UInt8.ofNat puk.size] ++ (puk.data.toList ++ BeP.parts 8 pun)) := Lib.hid (by rw [UndoP.bytes, if_pos HR.out]; rfl)
  rw [HE.out]
  have hks := KeyP.right_size puk (UndoP.right_key _ (by simp) HR.out)
  have hkm : ((puk.size : Int) % 256) = (puk.size : Int) := by omega
  have hkb : ((UInt8.ofNat puk.size).toNat : Int) = (puk.size : Int) := by simp; omega
  have HKB := Lib.hid hkb
  clear hkb
  go_enter Tryz.func36, Tryz.ntmps36
  go_wp2_with fail
  generalize hW0 : (w).alloc (.cells #[.int .i64 2, .string puk, .int .i64 pst, .string pk, .int .i64 pkd, .slice Ap np cp, .int .i64 plo, .int .i64 phi, .int .i64 pva, .int .i64 pun] 40) = W0
  have HS0_0 : Hid (Str W0 (w.heap.size) #[.int .i64 2, .string puk, .int .i64 pst, .string pk, .int .i64 pkd, .slice Ap np cp, .int .i64 plo, .int .i64 phi, .int .i64 pva, .int .i64 pun]) := Lib.hid (by rw [← hW0]; have := Str.new (w) #[.int .i64 2, .string puk, .int .i64 pst, .string pk, .int .i64 pkd, .slice Ap np cp, .int .i64 plo, .int .i64 phi, .int .i64 pva, .int .i64 pun] 40; simpa using this)
  have HB_0 : Hid (Below w.heap.size w W0) := Lib.hid (by rw [← hW0]; exact balloc (bsame w) _)
  have hw_0 := HB_0.out.size
  clear hW0
  obtain ⟨f0_0_0, f0_0_1, f0_0_2, f0_0_3, f0_0_4, f0_0_5, f0_0_6, f0_0_7, f0_0_8, f0_0_9⟩ := str10 HS0_0.out
  have hl0_0 := HS0_0.out.lt
  refine (right_any _ _ _ _ _ _ _ _ _ pda _ _ _ _ _ (Hp.out.below (HB_0.out.mono hBp)) (by omega) hpk huk).mono ?_
  rintro e W1 ⟨rfl, hb1⟩
  rw [HR.out]
  have HS0_1 := Lib.hid (HS0_0.out.next hb1)
  have HB_1 := Lib.hid (bstep HB_0.out hb1)
  have hw_1 := HB_1.out.size
  have hws_1 := (hb1).size
  clear f0_0_0 f0_0_1 f0_0_2 f0_0_3 f0_0_4 f0_0_5 f0_0_6 f0_0_7 f0_0_8 f0_0_9 HS0_0
  clear hb1
  obtain ⟨f0_1_0, f0_1_1, f0_1_2, f0_1_3, f0_1_4, f0_1_5, f0_1_6, f0_1_7, f0_1_8, f0_1_9⟩ := str10 HS0_1.out
  have hl0_1 := HS0_1.out.lt
  go_wp2_with fail
  obtain ⟨A3, c3, W2, happ3, hO3, hb3⟩ := (Own.two W1 W1.heap.size (Nat.le_refl _) 2 (UInt8.ofNat puk.size)).appStr puk (by omega) (by simp)
  have hb3' : Below W1.heap.size W1 W2 := ((Below.refl _ W1).alloc (Nat.le_refl _) _).trans hb3
  rw [HKB.out, show ((2 : UInt8).toNat : Int) = 2 from rfl] at happ3
  have HO3 := Lib.hid hO3
  have hsO : W1.heap.size ≤ W2.heap.size := hb3'.size
  clear hb3 hO3
  have HS0_2 := Lib.hid (HS0_1.out.next hb3')
  have HB_2 := Lib.hid (bstep HB_1.out hb3')
  have hw_2 := HB_2.out.size
  have hws_2 := (hb3').size
  clear f0_1_0 f0_1_1 f0_1_2 f0_1_3 f0_1_4 f0_1_5 f0_1_6 f0_1_7 f0_1_8 f0_1_9 HS0_1
  clear hb3'
  obtain ⟨f0_2_0, f0_2_1, f0_2_2, f0_2_3, f0_2_4, f0_2_5, f0_2_6, f0_2_7, f0_2_8, f0_2_9⟩ := str10 HS0_2.out
  have hl0_2 := HS0_2.out.lt
  go_simp
  go_wp2_with fail
  clear happ3
  refine (RefBytes.bytes_any 8 pun _ (by omega)).mono ?_
  rintro e W3 ⟨A4, n4, c4, rfl, hy4, hb3⟩
  have hn4 : n4 = 8 := by rw [← hy4.len, BeP.parts_length]
  subst hn4
  have hsq := hb3.size
  have HO4 := Lib.hid (HO3.out.next hb3)
  have HS0_3 := Lib.hid (HS0_2.out.next hb3)
  have HB_3 := Lib.hid (bstep HB_2.out hb3)
  have hw_3 := HB_3.out.size
  have hws_3 := (hb3).size
  clear f0_2_0 f0_2_1 f0_2_2 f0_2_3 f0_2_4 f0_2_5 f0_2_6 f0_2_7 f0_2_8 f0_2_9 HS0_2
  clear hb3
  obtain ⟨f0_3_0, f0_3_1, f0_3_2, f0_3_3, f0_3_4, f0_3_5, f0_3_6, f0_3_7, f0_3_8, f0_3_9⟩ := str10 HS0_3.out
  have hl0_3 := HS0_3.out.lt
  obtain ⟨A6, c6, W4, happ6, hO6, hb6⟩ := HO4.out.app hy4 (by omega) (by omega)
  have HO6 := Lib.hid hO6
  have HB6 := Lib.hid (HB_3.out.trans (hb6.mono (by omega)))
  clear hO6 hb6 hy4
  go_wp2_with fail
  go_ret
  refine ⟨A6, _, c6, rfl, ?_, HB6.out⟩
  have h9 := HO6.out.bytes
  simpa using h9

set_option maxRecDepth 100000 in
set_option maxHeartbeats 1000000 in
theorem bytes3 (puk : ByteArray) (Ap : Option Addr) (np cp Bp : Nat) (pst : Int) (pk : ByteArray) (pkd : Int) (pda : List UInt8) (plo phi pva : Int) (pun : Int) (w : World) (hp : Bytes w Bp Ap np cp pda) (hBp : Bp ≤ w.heap.size) (hpk : pk.size ≤ maxLen) (huk : puk.size ≤ maxLen) (hr : UndoP.right ⟨3, puk, ⟨pst, pk, ⟨pkd, pda, plo, phi, pva⟩⟩, pun⟩ = true) : Calls Tryz.prog 36 #[.agg #[.int .i64 3, .string puk, .int .i64 pst, .string pk, .int .i64 pkd, .slice Ap np cp, .int .i64 plo, .int .i64 phi, .int .i64 pva, .int .i64 pun]] w (GivesBytes w (UndoP.bytes ⟨3, puk, ⟨pst, pk, ⟨pkd, pda, plo, phi, pva⟩⟩, pun⟩)) := by
  have Hp := Lib.hid hp
  have HR := Lib.hid hr
  clear hp hr
  have HE : Hid (UndoP.bytes ⟨3, puk, ⟨pst, pk, ⟨pkd, pda, plo, phi, pva⟩⟩, pun⟩ = [3, UInt8.ofNat puk.size] ++ (puk.data.toList ++ BeP.parts 8 pun)) := Lib.hid (by rw [UndoP.bytes, if_pos HR.out]; rfl)
  rw [HE.out]
  have hks := KeyP.right_size puk (UndoP.right_key _ (by simp) HR.out)
  have hkm : ((puk.size : Int) % 256) = (puk.size : Int) := by omega
  have hkb : ((UInt8.ofNat puk.size).toNat : Int) = (puk.size : Int) := by simp; omega
  have HKB := Lib.hid hkb
  clear hkb
  go_enter Tryz.func36, Tryz.ntmps36
  go_wp2_with fail
  generalize hW0 : (w).alloc (.cells #[.int .i64 3, .string puk, .int .i64 pst, .string pk, .int .i64 pkd, .slice Ap np cp, .int .i64 plo, .int .i64 phi, .int .i64 pva, .int .i64 pun] 40) = W0
  have HS0_0 : Hid (Str W0 (w.heap.size) #[.int .i64 3, .string puk, .int .i64 pst, .string pk, .int .i64 pkd, .slice Ap np cp, .int .i64 plo, .int .i64 phi, .int .i64 pva, .int .i64 pun]) := Lib.hid (by rw [← hW0]; have := Str.new (w) #[.int .i64 3, .string puk, .int .i64 pst, .string pk, .int .i64 pkd, .slice Ap np cp, .int .i64 plo, .int .i64 phi, .int .i64 pva, .int .i64 pun] 40; simpa using this)
  have HB_0 : Hid (Below w.heap.size w W0) := Lib.hid (by rw [← hW0]; exact balloc (bsame w) _)
  have hw_0 := HB_0.out.size
  clear hW0
  obtain ⟨f0_0_0, f0_0_1, f0_0_2, f0_0_3, f0_0_4, f0_0_5, f0_0_6, f0_0_7, f0_0_8, f0_0_9⟩ := str10 HS0_0.out
  have hl0_0 := HS0_0.out.lt
  refine (right_any _ _ _ _ _ _ _ _ _ pda _ _ _ _ _ (Hp.out.below (HB_0.out.mono hBp)) (by omega) hpk huk).mono ?_
  rintro e W1 ⟨rfl, hb1⟩
  rw [HR.out]
  have HS0_1 := Lib.hid (HS0_0.out.next hb1)
  have HB_1 := Lib.hid (bstep HB_0.out hb1)
  have hw_1 := HB_1.out.size
  have hws_1 := (hb1).size
  clear f0_0_0 f0_0_1 f0_0_2 f0_0_3 f0_0_4 f0_0_5 f0_0_6 f0_0_7 f0_0_8 f0_0_9 HS0_0
  clear hb1
  obtain ⟨f0_1_0, f0_1_1, f0_1_2, f0_1_3, f0_1_4, f0_1_5, f0_1_6, f0_1_7, f0_1_8, f0_1_9⟩ := str10 HS0_1.out
  have hl0_1 := HS0_1.out.lt
  go_wp2_with fail
  obtain ⟨A3, c3, W2, happ3, hO3, hb3⟩ := (Own.two W1 W1.heap.size (Nat.le_refl _) 3 (UInt8.ofNat puk.size)).appStr puk (by omega) (by simp)
  have hb3' : Below W1.heap.size W1 W2 := ((Below.refl _ W1).alloc (Nat.le_refl _) _).trans hb3
  rw [HKB.out, show ((3 : UInt8).toNat : Int) = 3 from rfl] at happ3
  have HO3 := Lib.hid hO3
  have hsO : W1.heap.size ≤ W2.heap.size := hb3'.size
  clear hb3 hO3
  have HS0_2 := Lib.hid (HS0_1.out.next hb3')
  have HB_2 := Lib.hid (bstep HB_1.out hb3')
  have hw_2 := HB_2.out.size
  have hws_2 := (hb3').size
  clear f0_1_0 f0_1_1 f0_1_2 f0_1_3 f0_1_4 f0_1_5 f0_1_6 f0_1_7 f0_1_8 f0_1_9 HS0_1
  clear hb3'
  obtain ⟨f0_2_0, f0_2_1, f0_2_2, f0_2_3, f0_2_4, f0_2_5, f0_2_6, f0_2_7, f0_2_8, f0_2_9⟩ := str10 HS0_2.out
  have hl0_2 := HS0_2.out.lt
  go_simp
  go_wp2_with fail
  clear happ3
  refine (RefBytes.bytes_any 8 pun _ (by omega)).mono ?_
  rintro e W3 ⟨A4, n4, c4, rfl, hy4, hb3⟩
  have hn4 : n4 = 8 := by rw [← hy4.len, BeP.parts_length]
  subst hn4
  have hsq := hb3.size
  have HO4 := Lib.hid (HO3.out.next hb3)
  have HS0_3 := Lib.hid (HS0_2.out.next hb3)
  have HB_3 := Lib.hid (bstep HB_2.out hb3)
  have hw_3 := HB_3.out.size
  have hws_3 := (hb3).size
  clear f0_2_0 f0_2_1 f0_2_2 f0_2_3 f0_2_4 f0_2_5 f0_2_6 f0_2_7 f0_2_8 f0_2_9 HS0_2
  clear hb3
  obtain ⟨f0_3_0, f0_3_1, f0_3_2, f0_3_3, f0_3_4, f0_3_5, f0_3_6, f0_3_7, f0_3_8, f0_3_9⟩ := str10 HS0_3.out
  have hl0_3 := HS0_3.out.lt
  obtain ⟨A6, c6, W4, happ6, hO6, hb6⟩ := HO4.out.app hy4 (by omega) (by omega)
  have HO6 := Lib.hid hO6
  have HB6 := Lib.hid (HB_3.out.trans (hb6.mono (by omega)))
  clear hO6 hb6 hy4
  go_wp2_with fail
  go_ret
  refine ⟨A6, _, c6, rfl, ?_, HB6.out⟩
  have h9 := HO6.out.bytes
  simpa using h9

set_option maxRecDepth 100000 in
set_option maxHeartbeats 1000000 in
theorem bytes_any (pact : Int) (puk : ByteArray) (Ap : Option Addr) (np cp Bp : Nat) (pst : Int) (pk : ByteArray) (pkd : Int) (pda : List UInt8) (plo phi pva : Int) (pun : Int) (w : World) (hp : Bytes w Bp Ap np cp pda) (hBp : Bp ≤ w.heap.size) (hpk : pk.size ≤ maxLen) (huk : puk.size ≤ maxLen)  : Calls Tryz.prog 36 #[.agg #[.int .i64 pact, .string puk, .int .i64 pst, .string pk, .int .i64 pkd, .slice Ap np cp, .int .i64 plo, .int .i64 phi, .int .i64 pva, .int .i64 pun]] w (GivesBytes w (UndoP.bytes ⟨pact, puk, ⟨pst, pk, ⟨pkd, pda, plo, phi, pva⟩⟩, pun⟩)) := by
  cases hr : UndoP.right ⟨pact, puk, ⟨pst, pk, ⟨pkd, pda, plo, phi, pva⟩⟩, pun⟩
  · exact bytes_no pact puk Ap np cp Bp pst pk pkd pda plo phi pva pun w hp hBp hpk huk hr
  by_cases h0 : pact = 0
  · subst h0
    exact bytes0 puk Ap np cp Bp pst pk pkd pda plo phi pva pun w hp hBp hpk huk hr
  by_cases h1 : pact = 1
  · subst h1
    exact bytes1 puk Ap np cp Bp pst pk pkd pda plo phi pva pun w hp hBp hpk huk hr
  by_cases h2 : pact = 2
  · subst h2
    exact bytes2 puk Ap np cp Bp pst pk pkd pda plo phi pva pun w hp hBp hpk huk hr
  by_cases h3 : pact = 3
  · subst h3
    exact bytes3 puk Ap np cp Bp pst pk pkd pda plo phi pva pun w hp hBp hpk huk hr
  · simp [UndoP.right, h0, h1, h2, h3] at hr
end Go.Proofs.YtpklclnehlgcpaaGreat.RefUndoB
end
section
namespace Go.Proofs.YtpklclnehlgcpaaGreat.CrcP

/-- the table when all multiples of step are there -/
def headf (step : Nat) (i : Nat) : Nat := if i % step = 0 then step8 i else 0
/-- the table when the odd multiples of step below a are there, too -/
def tabf (step a : Nat) (i : Nat) : Nat := if i % (2 * step) = 0 then step8 i else if i % step = 0 ∧ i < a then step8 i else 0
end Go.Proofs.YtpklclnehlgcpaaGreat.CrcP
end
section
namespace Go.Proofs.YtpklclnehlgcpaaGreat.CrcW
open Go.RowKit

/-- 256 numbers of 32 bits as cells -/
def rowU (f : Nat → Nat) : Array Value := ((List.range 256).map fun i => Value.int .u32 (f i : Int)).toArray
theorem rowU_size (f : Nat → Nat) : (rowU f).size = 256 := by simp [rowU]
theorem rowU_get (f : Nat → Nat) (i : Nat) (h : i < 256) : (rowU f)[i]? = some (.int .u32 (f i : Int)) := by simp [rowU, h]
theorem rowU_congr {f g : Nat → Nat} (h : ∀ i, i < 256 → f i = g i) : rowU f = rowU g := by
  unfold rowU
  congr 1
  refine List.map_congr_left fun i hi => ?_
  rw [h i (List.mem_range.1 hi)]
theorem rowU_set (f : Nat → Nat) (i v : Nat) : (rowU f).setIfInBounds i (.int .u32 (v : Int)) = rowU fun j => if j = i then v else f j := by
  apply Array.ext_getElem?
  intro j
  rw [Array.getElem?_setIfInBounds]
  by_cases hij : i = j
  · subst hij
    by_cases hl : i < 256
    · rw [if_pos rfl, if_pos (by rw [rowU_size]; exact hl), rowU_get _ _ hl]
      simp
    · rw [if_pos rfl, if_neg (by rw [rowU_size]; exact hl), Array.getElem?_eq_none (by rw [rowU_size]; omega)]
  · rw [if_neg hij]
    by_cases hl : j < 256
    · rw [rowU_get _ _ hl, rowU_get _ _ hl]
      simp [Ne.symm hij]
    · rw [Array.getElem?_eq_none (by rw [rowU_size]; omega), Array.getElem?_eq_none (by rw [rowU_size]; omega)]
/-- the two tables while they are made -/
def Tab (w wr : World) (f : Nat → Nat) : Prop := Str wr w.heap.size (rowU fun _ => 0) ∧ Str wr (w.heap.size + 1) (rowU f) ∧ Below w.heap.size w wr
theorem Tab.congr {w wr : World} {f g : Nat → Nat} (h : Tab w wr f) (e : ∀ i, i < 256 → f i = g i) : Tab w wr g := by
  unfold Tab
  rw [← rowU_congr e]
  exact h
theorem Tab.set {w wr : World} {f : Nat → Nat} (h : Tab w wr f) (i v : Nat) : Tab w (wr.setCell ⟨w.heap.size + 1, i, none⟩ (.int .u32 (v : Int))) (fun j => if j = i then v else f j) :=
  ⟨h.1.other _ _ (by omega), by have := h.2.1.set i (.int .u32 (v : Int)); rwa [rowU_set] at this, h.2.2.setCell (by simp) _⟩

def Inner (w : World) (step : Nat) (a : Value) (wr : World) : Prop := ∃ n : Nat, n ≤ 256 ∧ n % (2 * step) = 0 ∧ a = .int .i64 (n : Int) ∧ Tab w wr (CrcP.tabf step n)
def Outer (w : World) (s i : Value) (wr : World) : Prop := ∃ k : Nat, k ≤ 8 ∧ i = .int .i64 (k : Int) ∧ s = .int .u32 ((CrcP.bits k 1 : Nat) : Int) ∧ Tab w wr (CrcP.headf (2 ^ (8 - k)))

end Go.Proofs.YtpklclnehlgcpaaGreat.CrcW
end
section
namespace Go.Proofs.YtpklclnehlgcpaaGreat.CrcW
open Go.RowKit
attribute [local go_sem ↓] app_fold cut_fold

def st (u : Nat) (l : List UInt8) (k : Nat) : Nat := (l.take k).foldl CrcP.round (4294967295 - u)
theorem st_zero (u : Nat) (l : List UInt8) : st u l 0 = 4294967295 - u := rfl
theorem st_lt (u : Nat) (l : List UInt8) (k : Nat) : st u l k < 4294967296 := CrcP.fold_lt _ _ (by omega)
theorem st_succ (u : Nat) (l : List UInt8) (k : Nat) (h : k < l.length) : st u l (k + 1) = CrcP.round (st u l k) l[k] := by
  unfold st
  rw [List.take_succ_eq_append_getElem h, List.foldl_append]
  rfl
theorem st_all (u : Nat) (l : List UInt8) (k : Nat) (h : l.length ≤ k) : CrcP.more u l = 4294967295 - st u l k := by
  unfold st CrcP.more
  rw [List.take_of_length_le h]
theorem bit_any (v : Nat) (hv : v < 4294967296) (w : World) : Calls Tryz.prog 72 #[.int .u32 (v : Int)] w fun e w' => e = .returned (.int .u32 ((CrcP.bit v : Nat) : Int)) ∧ w = w' := by
  by_cases h : v % 2 = 1
  · have hb : CrcP.bit v = v / 2 ^^^ 2197175160 := by unfold CrcP.bit; rw [if_pos h]
    have HB := Lib.hid hb
    have hx : bits .xor .u32 ((v : Int) / 2) 2197175160 = ((v / 2 ^^^ 2197175160 : Nat) : Int) := by
      have := u32_xor_nat (v / 2) 2197175160 (by omega) (by omega)
      rwa [show ((v / 2 : Nat) : Int) = (v : Int) / 2 by omega] at this
    have h1 : ((v : Int) % 2 == 1) = true := by rw [beq_iff_eq]; omega
    have h0 : (0 : Int) ≤ (v : Int) := by omega
    clear hb h
    go_enter Tryz.func72, Tryz.ntmps72
    go_wp2
    go_ret
    rw [HB.out]
    exact ⟨rfl, rfl⟩
  · have hb : CrcP.bit v = v / 2 := by unfold CrcP.bit; rw [if_neg h]
    have HB := Lib.hid hb
    have h1 : ((v : Int) % 2 == 1) = false := by rw [beq_eq_false_iff_ne]; omega
    have h0 : (0 : Int) ≤ (v : Int) := by omega
    clear hb h
    go_enter Tryz.func72, Tryz.ntmps72
    go_wp2
    go_ret
    rw [HB.out]
    exact ⟨rfl, rfl⟩
end Go.Proofs.YtpklclnehlgcpaaGreat.CrcW
end
section
namespace Go.Proofs.YtpklclnehlgcpaaGreat.RefCrc
open Go.RowKit CrcW
attribute [local go_sem ↓] app_fold cut_fold

theorem bits_snoc (k v : Nat) : CrcP.bits (k + 1) v = CrcP.bit (CrcP.bits k v) := by
  induction k generalizing v with
  | zero => rfl
  | succ k ih => rw [CrcP.bits, ih]; rfl
def Inner (w : World) (x : Nat) (v j : Value) (wr : World) : Prop := ∃ k : Nat, k ≤ 8 ∧ j = .int .i64 (k : Int) ∧ v = .int .u32 ((CrcP.bits k x : Nat) : Int) ∧ w = wr
def Outer (w : World) (u n : Nat) (l : List UInt8) (v i : Value) (wr : World) : Prop := ∃ k : Nat, k ≤ n ∧ i = .int .i64 (k : Int) ∧ v = .int .u32 ((st u l k : Nat) : Int) ∧ w = wr

set_option maxRecDepth 100000 in
set_option maxHeartbeats 1000000 in
theorem more_any (u : Nat) (hu : u < 4294967296) (A : Option Addr) (n c B : Nat) (l : List UInt8) (w : World) (h : Bytes w B A n c l) :
    Calls Tryz.prog 56 #[.int .u32 (u : Int), .slice A n c] w fun e w' => e = .returned (.int .u32 ((CrcP.more u l : Nat) : Int)) ∧ w = w' := by
  have hn := Nat.le_trans h.2.1 h.2.2.1
  unfold maxLen at hn
  have HLN := Lib.hid h.len
  have HY := Lib.hid h
  clear h
  go_enter Tryz.func56, Tryz.ntmps56
  go_wp2_with fail
  go_loopw [5, 6] (fun v i wr => Outer w u n l v i wr) (fun _ i _ => n - (intOf i).toNat)
  case atStart => exact ⟨0, Nat.zero_le _, rfl, congrArg (Value.int .u32) (by rw [st_zero]; omega), rfl⟩
  case round =>
    obtain ⟨k, hk, rfl, rfl, rfl⟩ := hrel
    by_cases hlt : k < n
    · have hkl : k < l.length := by rw [HLN.out]; exact hlt
      obtain ⟨b, o, rfl, hbB, hcell⟩ := HY.out.at_ hlt
      unfold byteV at hcell
      have HN := Lib.hid (st_succ u l k hkl)
      have hv := st_lt u l k
      generalize hc : l[k] = cb at *
      generalize hsv : st u l k = v at *
      clear hsv hc hkl
      have hcl := cb.toNat_lt
      have hcm : ((cb.toNat : Int) % 4294967296) = (cb.toNat : Int) := by omega
      have hx32 : bits .xor .u32 (v : Int) (cb.toNat : Int) = ((v ^^^ cb.toNat : Nat) : Int) := u32_xor_nat v cb.toNat hv (by omega)
      have hxl := CrcP.xor_byte_lt v hv cb
      have HX : Hid (CrcP.bits 8 (v ^^^ cb.toNat) = st u l (k + 1)) := Lib.hid (by rw [HN.out]; rfl)
      generalize v ^^^ cb.toNat = x at *
      go_wp2_with fail
      go_loopw [5, 7] (fun v j wr => Inner w x v j wr) (fun _ j _ => 8 - (intOf j).toNat)
      case atStart => exact ⟨0, by omega, rfl, rfl, rfl⟩
      case round =>
        obtain ⟨q, hq, rfl, rfl, rfl⟩ := hrel
        by_cases hq8 : q < 8
        · have hbl := CrcP.bits_lt q x hxl
          have HBS := Lib.hid (bits_snoc q x)
          generalize CrcP.bits q x = y at *
          go_wp2_with (go_at_call 72; refine (bit_any _ hbl _).mono ?_; rintro e w9 ⟨rfl, rfl⟩)
          go_roundw
          case rel => exact ⟨q + 1, by omega, by go_num, by rw [HBS.out], rfl⟩
          case measure => simp [intOf]; omega
        · have hq' : q = 8 := by omega
          subst hq'
          rw [HX.out]
          go_wp2_with fail
          go_roundw
          case rel => exact ⟨k + 1, by omega, by go_num, rfl, rfl⟩
          case measure => simp [intOf]; omega
    · have hv := st_lt u l k
      have HF : Hid ((4294967295 : Int) - ((st u l k : Nat) : Int) = ((CrcP.more u l : Nat) : Int)) := Lib.hid (by rw [st_all u l k (by rw [HLN.out]; omega)]; omega)
      generalize st u l k = v at *
      go_wp2_with fail
      go_ret
      exact ⟨congrArg (fun x => Ending.returned (.int .u32 x)) HF.out, rfl⟩

set_option maxRecDepth 100000 in
set_option maxHeartbeats 1000000 in
theorem seal_any (A : Option Addr) (n c B : Nat) (l : List UInt8) (w : World) (h : Bytes w B A n c l) (hB : B ≤ w.heap.size) (hn : n ≤ 1000000000) :
    Calls Tryz.prog 35 #[.slice A n c] w (GivesBytes w (BeP.parts 4 ((CrcP.sum l : Nat) : Int) ++ l)) := by
  have H := Lib.hid h
  have hs := CrcP.sum_lt l
  clear h
  go_enter Tryz.func35, Tryz.ntmps35
  go_wp2_with fail
  refine (more_any 0 (by omega) A n c B l _ H.out).mono ?_
  rintro e w1 ⟨rfl, rfl⟩
  obtain ⟨sm, hsm⟩ : ∃ sm, CrcP.sum l = sm := ⟨_, rfl⟩
  have hsm' : CrcP.more 0 l = sm := hsm
  rw [hsm'] 
  rw [hsm] at hs
  have HSM := Lib.hid hsm
  clear hsm hsm'
  go_wp2_with fail
  refine (RefBytesO.bytes_any 4 (sm : Int) _ (by omega)).mono ?_
  rintro e w2 ⟨A2, n2, c2, rfl, hO, hb2⟩
  have hn2 : n2 = 4 := by rw [← hO.len, BeP.parts_length]
  subst hn2
  obtain ⟨A3, c3, w3, happ, hO3, hb3⟩ := hO.app (H.out.below (hb2.mono hB)) (by omega) hb2.size
  have HO := Lib.hid hO3
  have HB := Lib.hid (hb2.trans hb3)
  clear hO hb2 hO3 hb3
  go_wp2_with fail
  go_ret
  rw [HSM.out]
  exact ⟨A3, _, c3, rfl, HO.out.bytes, HB.out⟩

end Go.Proofs.YtpklclnehlgcpaaGreat.RefCrc
end
section
namespace Go.Proofs.YtpklclnehlgcpaaGreat
open Go.RowKit

/-- a reader: what is ahead, and whether it is bad -/
def Rd (w : World) (b : Nat) (l : List UInt8) (bad : Bool) : Prop := ∃ A n c, Str w b #[.slice A n c, .bool bad] ∧ Bytes w b A n c l
theorem Rd.lt {w : World} {b : Nat} {l : List UInt8} {bad : Bool} (h : Rd w b l bad) : b < w.heap.size := by
  obtain ⟨A, n, c, hs, -⟩ := h
  exact hs.lt
theorem Rd.below {w w' : World} {b : Nat} {l : List UInt8} {bad : Bool} (h : Rd w b l bad) (hb : Below w.heap.size w w') : Rd w' b l bad := by
  obtain ⟨A, n, c, hs, hy⟩ := h
  exact ⟨A, n, c, hs.next hb, hy.keep fun p hp => hb.cell (Nat.lt_trans hp hs.lt)⟩
end Go.Proofs.YtpklclnehlgcpaaGreat
namespace Go.Proofs.YtpklclnehlgcpaaGreat.RdP
def numL (l : List UInt8) (bad : Bool) (width : Nat) : List UInt8 := if bad then l else if width ≤ l.length then l.drop width else []
def numB (l : List UInt8) (bad : Bool) (width : Nat) : Bool := if bad then true else !decide (width ≤ l.length)
end Go.Proofs.YtpklclnehlgcpaaGreat.RdP
namespace Go.Proofs.YtpklclnehlgcpaaGreat.RdW
open Go.RowKit
attribute [local go_sem ↓] cut_fold

end Go.Proofs.YtpklclnehlgcpaaGreat.RdW
end
section
namespace Go.Proofs.YtpklclnehlgcpaaGreat
open Go.RowKit
end Go.Proofs.YtpklclnehlgcpaaGreat
namespace Go.Proofs.YtpklclnehlgcpaaGreat.RdP
def tb (l : List UInt8) (bad : Bool) (k : Nat) : Bool := bad || !decide (k ≤ l.length)
def tl (l : List UInt8) (bad : Bool) (k : Nat) : List UInt8 := if bad then l else if k ≤ l.length then l.drop k else []
def th (l : List UInt8) (bad : Bool) (k : Nat) : List UInt8 := if tb l bad k then [] else l.take k
end Go.Proofs.YtpklclnehlgcpaaGreat.RdP
namespace Go.Proofs.YtpklclnehlgcpaaGreat.RdW
open Go.RowKit
attribute [local go_sem ↓] cut_fold

end Go.Proofs.YtpklclnehlgcpaaGreat.RdW
end
section
namespace Go.Proofs.YtpklclnehlgcpaaGreat.UndoP
def size (a : Nat) : Nat := if a = 1 then 64 else 8
/-- the one that seems to stand there -/
def seem (a : Nat) (l : List UInt8) : Undo :=
  ⟨(a : Int), SlotP.text ((l.drop 2).take (l.getD 1 0).toNat), if a = 1 then (SlotP.get ((l.drop (2 + (l.getD 1 0).toNat)).take 64)).1 else SlotP.none, if a = 1 then 0 else NumP.val l (2 + (l.getD 1 0).toNat) 8⟩
def err (a : Nat) (l : List UInt8) : Int := if a = 1 then (SlotP.get ((l.drop (2 + (l.getD 1 0).toNat)).take 64)).2 else 0
def get (l : List UInt8) : Undo × Int × Int :=
  if l.length < 1 then (none, 0, 13)
  else if 3 < (l.getD 0 0).toNat then (none, 0, 12)
  else if (l.getD 0 0).toNat = 0 then (none, 1, 0)
  else if l.length < 2 ∨ l.length < 2 + (l.getD 1 0).toNat + size (l.getD 0 0).toNat then (none, 0, 13)
  else if err (l.getD 0 0).toNat l = 0 ∧ right (seem (l.getD 0 0).toNat l) = true then (seem (l.getD 0 0).toNat l, ((2 + (l.getD 1 0).toNat + size (l.getD 0 0).toNat : Nat) : Int), 0) else (none, 0, 12)
/-! what a reader reads behind the first byte -/
def k1 (l : List UInt8) : Nat := if 1 ≤ l.length then (l.getD 0 0).toNat else 0
def L2 (l : List UInt8) : List UInt8 := RdP.numL l false 1
def b2 (l : List UInt8) : Bool := RdP.numB l false 1
def K (l : List UInt8) : List UInt8 := RdP.th (L2 l) (b2 l) (k1 l)
def L3 (l : List UInt8) : List UInt8 := RdP.tl (L2 l) (b2 l) (k1 l)
def b3 (l : List UInt8) : Bool := RdP.tb (L2 l) (b2 l) (k1 l)
/-! the kinds with a number -/
def b4 (l : List UInt8) : Bool := RdP.numB (L3 l) (b3 l) 8
/-! the kind with an item -/
end Go.Proofs.YtpklclnehlgcpaaGreat.UndoP
end
section
namespace Go.Proofs.YtpklclnehlgcpaaGreat.UndoP
theorem bytes_le (u : Undo) : (bytes u).length ≤ 100 := by
  unfold bytes
  split
  · rename_i hr
    split
    · simp
    · rename_i h0
      have hks := KeyP.right_size u.key (right_key u h0 hr)
      have hkl : u.key.data.toList.length = u.key.size := by simp
      split
      · simp only [List.length_append, List.length_cons, List.length_nil, hkl, SlotP.bytes_length]; omega
      · simp only [List.length_append, List.length_cons, List.length_nil, hkl, BeP.parts_length]; omega
  · simp
end Go.Proofs.YtpklclnehlgcpaaGreat.UndoP
end
