/-
  Parts of the proof of PlanGrows.
-/
import Derived.Test.YtpklclnehlgcpaaGreatPlanG7
import Derived.Test.YtpklclnehlgcpaaGreatPlanG11
section
namespace Go.Proofs.YtpklclnehlgcpaaGreat.RefPatch
open Go.RowKit
set_option linter.unusedVariables false
set_option linter.unusedSimpArgs false
set_option maxRecDepth 100000 in
set_option maxHeartbeats 1000000 in
theorem within_any (r : RunX) (A : Option Addr) (n c : Nat) (hn : r.data.length = n) (hm : n ≤ maxLen) (hi : In64 r.at_) (w : World) :
    Calls Tryz.prog 58 #[.agg #[.int .i64 r.at_, .slice A n c]] w fun e w' => e = .returned (.bool (PatchP.within r)) ∧ Below w.heap.size w w' := by
  have hs : PatchP.stop r = r.at_ + (n : Nat) := by unfold PatchP.stop; rw [hn]
  unfold maxLen at hm
  obtain ⟨hi1, hi2⟩ := hi
  obtain ⟨p, data⟩ := r
  dsimp only at *
  obtain ⟨W0, hW0⟩ : ∃ W, w.alloc (.cells #[.int .i64 p, .slice A n c] 79) = W := ⟨_, rfl⟩
  obtain ⟨HS0, HB0, hw0, hz0⟩ := new1 hW0
  have g0 := str2 HS0.out
  have hl0 := HS0.out.lt
  clear hz0
  by_cases c0 : 0 < n
  rotate_left
  · have d0 : decide (0 < (n : Int)) = false := by simp; omega
    have hR : PatchP.within ⟨p, data⟩ = false := PatchP.within_no _ (fun h => by obtain ⟨h1, h2, h3⟩ := h; dsimp only at h1 h2; omega)
    have HR := Lib.hid hR
    clear hR hs hn
    go_enter Tryz.func58, Tryz.ntmps58
    go_wp2
    go_ret
    exact ⟨by rw [HR.out]; rfl, HB0.out⟩
  have d0 : decide (0 < (n : Int)) = true := by simp; omega
  by_cases c1 : n ≤ 500
  rotate_left
  · have d1 : decide ((n : Int) ≤ 500) = false := by simp; omega
    have hR : PatchP.within ⟨p, data⟩ = false := PatchP.within_no _ (fun h => by obtain ⟨h1, h2, h3⟩ := h; dsimp only at h1 h2; omega)
    have HR := Lib.hid hR
    clear hR hs hn
    go_enter Tryz.func58, Tryz.ntmps58
    go_wp2
    go_ret
    exact ⟨by rw [HR.out]; rfl, HB0.out⟩
  have d1 : decide ((n : Int) ≤ 500) = true := by simp; omega
  by_cases c2 : 12 ≤ p
  rotate_left
  · have d2 : decide (12 ≤ p) = false := by simp; omega
    have hR : PatchP.within ⟨p, data⟩ = false := PatchP.within_no _ (fun h => by obtain ⟨h1, h2, h3⟩ := h; dsimp only at h1 h2; omega)
    have HR := Lib.hid hR
    clear hR hs hn
    go_enter Tryz.func58, Tryz.ntmps58
    go_wp2
    go_ret
    exact ⟨by rw [HR.out]; rfl, HB0.out⟩
  have d2 : decide (12 ≤ p) = true := by simp; omega
  by_cases c3 : p ≤ 512
  rotate_left
  · have d3 : decide (p ≤ 512) = false := by simp; omega
    obtain ⟨z, hz⟩ : ∃ z, wrap64 (p + (n : Int)) = z := ⟨_, rfl⟩
    by_cases c4 : z ≤ 512
    · have d4 : decide (z ≤ 512) = true := by simp; omega
      have hR : PatchP.within ⟨p, data⟩ = false := PatchP.within_no _ (fun h => by obtain ⟨h1, h2, h3⟩ := h; dsimp only at h1 h2; omega)
      have HR := Lib.hid hR
      clear hR hs hn
      go_enter Tryz.func58, Tryz.ntmps58
      go_wp2
      go_ret
      exact ⟨by rw [HR.out]; rfl, HB0.out⟩
    · have d4 : decide (z ≤ 512) = false := by simp; omega
      have hR : PatchP.within ⟨p, data⟩ = false := PatchP.within_no _ (fun h => by obtain ⟨h1, h2, h3⟩ := h; dsimp only at h1 h2; omega)
      have HR := Lib.hid hR
      clear hR hs hn
      go_enter Tryz.func58, Tryz.ntmps58
      go_wp2
      go_ret
      exact ⟨by rw [HR.out]; rfl, HB0.out⟩
  have d3 : decide (p ≤ 512) = true := by simp; omega
  by_cases c4 : p + (n : Int) ≤ 512
  · have d4 : decide (p + (n : Int) ≤ 512) = true := by simp; omega
    have hR : PatchP.within ⟨p, data⟩ = true := PatchP.within_yes _ ⟨by show 0 < data.length; omega, by show 12 ≤ p; omega, by omega⟩
    have HR := Lib.hid hR
    clear hR hs hn
    go_enter Tryz.func58, Tryz.ntmps58
    go_wp2
    go_ret
    exact ⟨by rw [HR.out]; rfl, HB0.out⟩
  · have d4 : decide (p + (n : Int) ≤ 512) = false := by simp; omega
    have hR : PatchP.within ⟨p, data⟩ = false := PatchP.within_no _ (fun h => by obtain ⟨h1, h2, h3⟩ := h; dsimp only at h1 h2; omega)
    have HR := Lib.hid hR
    clear hR hs hn
    go_enter Tryz.func58, Tryz.ntmps58
    go_wp2
    go_ret
    exact ⟨by rw [HR.out]; rfl, HB0.out⟩
set_option maxRecDepth 100000 in
set_option maxHeartbeats 4000000 in
theorem right_any (x : PatchX) (A : Option Addr) (n c B : Nat) (w : World) (hE : Elems RunE w B A n c x.runs) (hB : B ≤ w.heap.size) (hi : In64 x.page) :
    Calls Tryz.prog 54 #[.agg #[.int .i64 x.page, .bool x.fresh, .slice A n c]] w fun e w' => e = .returned (.bool (PatchP.right x)) ∧ Below w.heap.size w w' := by
  have HE := Lib.hid hE
  have hlen := hE.len
  have hcap := hE.cap
  have hcm := hcap.2
  unfold maxLen at hcm
  clear hE
  obtain ⟨p, fr, l⟩ := x
  dsimp only at *
  obtain ⟨W0, hW0⟩ : ∃ W, w.alloc (.cells #[.int .i64 p, .bool fr, .slice A n c] 33) = W := ⟨_, rfl⟩
  obtain ⟨HS0, HB0, hw0, hz0⟩ := new1 hW0
  have g0 := str3 HS0.out
  have hl0 := HS0.out.lt
  clear hz0
  by_cases c0 : p < 0
  · have d0 : decide (p < 0) = true := by simpa using c0
    have HR := Lib.hid (PatchP.bad_page ⟨p, fr, l⟩ (.inl c0))
    go_enter Tryz.func54, Tryz.ntmps54
    go_wp2
    go_ret
    exact ⟨by rw [HR.out]; rfl, HB0.out⟩
  have d0 : decide (p < 0) = false := by simpa using c0
  by_cases c1 : 65535 < p
  · have d1 : decide (65535 < p) = true := by simpa using c1
    have HR := Lib.hid (PatchP.bad_page ⟨p, fr, l⟩ (.inr (.inl c1)))
    go_enter Tryz.func54, Tryz.ntmps54
    go_wp2
    go_ret
    exact ⟨by rw [HR.out]; rfl, HB0.out⟩
  have d1 : decide (65535 < p) = false := by simpa using c1
  by_cases c2 : 500 < n
  · have d2 : decide (500 < (n : Int)) = true := by simp; omega
    have HR := Lib.hid (PatchP.bad_page ⟨p, fr, l⟩ (.inr (.inr (by show 500 < l.length; omega))))
    go_enter Tryz.func54, Tryz.ntmps54
    go_wp2
    go_ret
    exact ⟨by rw [HR.out]; rfl, HB0.out⟩
  have d2 : decide (500 < (n : Int)) = false := by simp; omega
  have HBAD := Lib.hid (fun k r (hr : l[k]? = some r) hb => PatchP.bad_run ⟨p, fr, l⟩ (k := k) (r := r) hr hb)
  have HGOOD := Lib.hid (fun (h : PatchP.Okay l n) => PatchP.right_yes ⟨p, fr, l⟩ ⟨by show 0 ≤ p; omega, by show p ≤ 65535; omega, by show l.length ≤ 500; omega, by show PatchP.Okay l l.length; rw [hlen]; exact h⟩)
  clear c0 c1
  go_enter Tryz.func54, Tryz.ntmps54
  go_wp2
  go_loopw [3] (fun iv wr => ∃ k : Nat, k ≤ n ∧ iv = .int .i64 (k : Int) ∧ Hid (PatchP.Okay l k) ∧ Hid (Below w.heap.size w wr) ∧ Hid (Str wr w.heap.size #[.int .i64 p, .bool fr, .slice A n c])) (fun iv _ => n - (intOf iv).toNat)
  case atStart => exact ⟨0, Nat.zero_le _, rfl, Lib.hid (PatchP.okay_zero l), HB0, HS0⟩
  case round =>
    obtain ⟨k, hk, rfl, HK, HB, HS⟩ := hrel
    have hwr := HB.out.size
    have hend := PatchP.endOf_lo HK.out (Nat.le_refl k)
    clear g0 hl0 HB0 HS0
    have g0 := str3 HS.out
    have hl0 := HS.out.lt
    by_cases hlt : k < n
    · have hd : decide ((k : Int) < (n : Int)) = true := by simp; omega
      obtain ⟨b, o, r, A2, n2, c2, rfl, hb, hr, hy, hir, q0, q1⟩ := run_at HE.out hlt
      have hyl := hy.len
      have hym : n2 ≤ maxLen := Nat.le_trans hy.2.1 hy.2.2.1
      replace q0 := (HB.out.cell (p := ⟨b, o + k * 2, none⟩) (by show b < _; omega)).trans q0
      replace q1 := (HB.out.cell (p := ⟨b, o + k * 2 + 1, none⟩) (by show b < _; omega)).trans q1
      have hst : PatchP.stop r = r.at_ + (n2 : Nat) := by unfold PatchP.stop; rw [hyl]
      have HR := Lib.hid hr
      have hbw : b < wr.heap.size := by omega
      have HQ := Lib.hid (And.intro q0 q1)
      obtain ⟨rp, rd⟩ := r
      dsimp only at *
      clear q0 q1 hy hr
      by_cases hW : PatchP.Within ⟨rp, rd⟩
      · have HWI := Lib.hid (PatchP.within_yes _ hW)
        have hw3 : rp + (n2 : Int) ≤ 512 := by have := hW.2.2; omega
        have hw4 : 12 ≤ rp := hW.2.1
        by_cases hk0 : k = 0
        · subst hk0
          have HK2 : Hid (PatchP.Okay l (0 + 1)) := Lib.hid (PatchP.okay_step HK.out HR.out hW (by show (-1 : Int) < rp; omega))
          clear hW hst hd
          go_wp2_with fail
          refine Reg.wp_region_vals (R := ext) (W := wr) [Reg.eqv (.pointer (some ⟨w.heap.size, 2, none⟩)), Reg.eqv (.slice (some ⟨b, o, none⟩) n c), Reg.eqv (.int .i64 0), Reg.eqv (.pointer (some ⟨b, o, none⟩)), Reg.eqv (.agg #[.int .i64 rp, .slice A2 n2 c2]), Reg.eqv (.bool true), Reg.eqv (.bool false), Reg.eqv (.bool false), Reg.eqv (.int .i64 0), Reg.eqv (.bool false), Reg.eqv (.bool false), Reg.eqv undef, Reg.eqv undef, Reg.eqv undef, Reg.eqv undef, Reg.eqv undef, Reg.eqv undef, Reg.eqv undef, Reg.eqv undef, Reg.eqv undef, Reg.eqv undef, Reg.eqv undef, Reg.eqv undef, Reg.eqv undef, Reg.eqv undef, Reg.eqv undef, Reg.eqv undef, Reg.eqv undef, Reg.eqv undef, Reg.eqv undef, Reg.eqv undef, Reg.eqv undef, Reg.eqv undef, Reg.eqv undef, Reg.eqv (.bool false), Reg.eqv (.bool false)] 61 [[(1, none)], [(25, some 0)], [(3, none)], [(26, some 1), (27, some 2)], [(28, some 3)], [(29, some 4)], [(30, some 5)], [(31, some 6)], [(3, none), (32, some 7)], [(33, some 8), (32, some 7)], [(34, some 9), (32, some 7)], [(1, none), (35, some 10)], [(36, some 11), (35, some 10)], [(3, none), (35, some 10)], [(37, some 12), (38, some 13), (35, some 10)], [(39, some 14), (35, some 10)], [(40, some 15), (35, some 10)], [(1, none), (35, some 10)], [(42, some 17), (35, some 10)], [(3, none), (35, some 10)], [(44, some 19), (35, some 10)], [(43, some 18), (45, some 20), (35, some 10)], [(46, some 21), (35, some 10)], [(47, some 22), (35, some 10)], [(1, none), (35, some 10)], [(49, some 24), (35, some 10)], [(3, none), (35, some 10)], [(51, some 26), (35, some 10)], [(50, some 25), (52, some 27), (35, some 10)], [(53, some 28), (35, some 10)], [(54, some 29), (35, some 10)], [(55, some 30), (35, some 10)], [(48, some 23), (56, some 31), (35, some 10)], [(41, some 16), (57, some 32), (35, some 10)], [(35, some 10), (58, some 33), (32, some 7)], [(32, some 7), (59, some 34)]] rfl (by kernel_rfl) (by kernel_rfl) (by kernel_rfl) ?_ [some 25, some 26, some 27, some 28, some 29, some 30, some 31, some 32, some 33, some 34, some 35, some 36, some 37, some 38, some 39, some 40, some 41, some 42, some 43, some 44, some 45, some 46, some 47, some 48, some 49, some 50, some 51, some 52, some 53, some 54, some 55, some 56, some 57, some 58, some 59, some 60] (by kernel_rfl) ?_
          · refine ⟨?_, ?_, ?_, ?_, ?_, ?_, ?_, ?_, ?_, ?_, ?_, ?_, ?_, ?_, ?_, ?_, ?_, ?_, ?_, ?_, ?_, ?_, ?_, ?_, ?_, ?_, ?_, ?_, ?_, ?_, ?_, ?_, ?_, ?_, ?_, ?_, trivial⟩
            · intro ax wx hx hs
              obtain ⟨e1, -⟩ := hs
              have g1 := Reg.ev (v := .pointer (some ⟨w.heap.size, 0, none⟩)) e1
              exact Reg.obl_free rfl (Reg.wp_eqv (Option.some_ne_none _) (by go_simp) rfl)
            · intro ax wx hx hs
              obtain ⟨e25, -⟩ := hs
              have g25 := Reg.ev (v := .pointer (some ⟨w.heap.size, 2, none⟩)) e25
              have hx' : Below wr.heap.size wr wx := hx
              have l0 := str3 (HS.out.next hx')
              have l1 := (hx'.cell (p := ⟨b, o + 0 * 2, none⟩) hbw).trans HQ.out.1
              have l2 := (hx'.cell (p := ⟨b, o + 0 * 2 + 1, none⟩) hbw).trans HQ.out.2
              simp only [Nat.zero_mul, Nat.add_zero] at l1 l2
              exact Reg.obl_free rfl (Reg.wp_eqv (Option.some_ne_none _) (by go_simp) rfl)
            · intro ax wx hx hs
              obtain ⟨e3, -⟩ := hs
              have g3 := Reg.ev (v := .int .i64 0) e3
              exact Reg.obl_free rfl (Reg.wp_eqv (Option.some_ne_none _) (by go_simp) rfl)
            · intro ax wx hx hs
              obtain ⟨e26, e27, -⟩ := hs
              have g26 := Reg.ev (v := .slice (some ⟨b, o, none⟩) n c) e26
              have g27 := Reg.ev (v := .int .i64 0) e27
              refine Reg.obl_free rfl ?_
              exact Reg.wp_eqv (Option.some_ne_none _) (by go_simp; first | done | (intro hq; omega)) rfl
            · intro ax wx hx hs
              obtain ⟨e28, -⟩ := hs
              have g28 := Reg.ev (v := .pointer (some ⟨b, o, none⟩)) e28
              have hx' : Below wr.heap.size wr wx := hx
              have l0 := str3 (HS.out.next hx')
              have l1 := (hx'.cell (p := ⟨b, o + 0 * 2, none⟩) hbw).trans HQ.out.1
              have l2 := (hx'.cell (p := ⟨b, o + 0 * 2 + 1, none⟩) hbw).trans HQ.out.2
              simp only [Nat.zero_mul, Nat.add_zero] at l1 l2
              exact Reg.obl_free rfl (Reg.wp_eqv (Option.some_ne_none _) (by go_simp) rfl)
            · intro ax wx hx hs
              obtain ⟨e29, -⟩ := hs
              have g29 := Reg.ev (v := .agg #[.int .i64 rp, .slice A2 n2 c2]) e29
              refine Reg.obl_free rfl ?_
              have hx' : Below wr.heap.size wr wx := hx
              go_simp
              refine (within_any ⟨rp, rd⟩ A2 n2 c2 hyl hym hir wx).mono ?_
              rintro e wy ⟨rfl, hby⟩
              rw [HWI.out]
              exact Reg.done (Option.some_ne_none _) rfl hby
            · intro ax wx hx hs
              obtain ⟨e30, -⟩ := hs
              have g30 := Reg.ev (v := .bool true) e30
              exact Reg.obl_free rfl (Reg.wp_eqv (Option.some_ne_none _) (by go_simp) rfl)
            · intro ax wx hx hs
              obtain ⟨e31, -⟩ := hs
              have g31 := Reg.ev (v := .bool false) e31
              exact Reg.obl_free rfl (Reg.wp_eqv (Option.some_ne_none _) (by go_simp) rfl)
            · intro ax wx hx hs
              obtain ⟨e3, e32, -⟩ := hs
              have g3 := Reg.ev (v := .int .i64 0) e3
              have g32 := Reg.ev (v := .bool false) e32
              exact Reg.obl_want rfl rfl e32 (Reg.wp_eqv (Option.some_ne_none _) (by go_simp) rfl)
            · intro ax wx hx hs
              obtain ⟨e33, e32, -⟩ := hs
              have g33 := Reg.ev (v := .int .i64 0) e33
              have g32 := Reg.ev (v := .bool false) e32
              exact Reg.obl_want rfl rfl e32 (Reg.wp_eqv (Option.some_ne_none _) (by go_simp) rfl)
            · intro ax wx hx hs
              obtain ⟨e34, e32, -⟩ := hs
              have g34 := Reg.ev (v := .bool false) e34
              have g32 := Reg.ev (v := .bool false) e32
              exact Reg.obl_want rfl rfl e32 (Reg.wp_eqv (Option.some_ne_none _) (by go_simp) rfl)
            · intro ax wx hx hs
              obtain ⟨e1, e35, -⟩ := hs
              have g1 := Reg.ev (v := .pointer (some ⟨w.heap.size, 0, none⟩)) e1
              have g35 := Reg.ev (v := .bool false) e35
              exact Reg.obl_skip rfl rfl e35 rfl rfl
            · intro ax wx hx hs
              obtain ⟨e36, e35, -⟩ := hs
              have g36 := Reg.ev (v := undef) e36
              have g35 := Reg.ev (v := .bool false) e35
              exact Reg.obl_skip rfl rfl e35 rfl rfl
            · intro ax wx hx hs
              obtain ⟨e3, e35, -⟩ := hs
              have g3 := Reg.ev (v := .int .i64 0) e3
              have g35 := Reg.ev (v := .bool false) e35
              exact Reg.obl_skip rfl rfl e35 rfl rfl
            · intro ax wx hx hs
              obtain ⟨e37, e38, e35, -⟩ := hs
              have g37 := Reg.ev (v := undef) e37
              have g38 := Reg.ev (v := undef) e38
              have g35 := Reg.ev (v := .bool false) e35
              exact Reg.obl_skip rfl rfl e35 rfl rfl
            · intro ax wx hx hs
              obtain ⟨e39, e35, -⟩ := hs
              have g39 := Reg.ev (v := undef) e39
              have g35 := Reg.ev (v := .bool false) e35
              exact Reg.obl_skip rfl rfl e35 rfl rfl
            · intro ax wx hx hs
              obtain ⟨e40, e35, -⟩ := hs
              have g40 := Reg.ev (v := undef) e40
              have g35 := Reg.ev (v := .bool false) e35
              exact Reg.obl_skip rfl rfl e35 rfl rfl
            · intro ax wx hx hs
              obtain ⟨e1, e35, -⟩ := hs
              have g1 := Reg.ev (v := .pointer (some ⟨w.heap.size, 0, none⟩)) e1
              have g35 := Reg.ev (v := .bool false) e35
              exact Reg.obl_skip rfl rfl e35 rfl rfl
            · intro ax wx hx hs
              obtain ⟨e42, e35, -⟩ := hs
              have g42 := Reg.ev (v := undef) e42
              have g35 := Reg.ev (v := .bool false) e35
              exact Reg.obl_skip rfl rfl e35 rfl rfl
            · intro ax wx hx hs
              obtain ⟨e3, e35, -⟩ := hs
              have g3 := Reg.ev (v := .int .i64 0) e3
              have g35 := Reg.ev (v := .bool false) e35
              exact Reg.obl_skip rfl rfl e35 rfl rfl
            · intro ax wx hx hs
              obtain ⟨e44, e35, -⟩ := hs
              have g44 := Reg.ev (v := undef) e44
              have g35 := Reg.ev (v := .bool false) e35
              exact Reg.obl_skip rfl rfl e35 rfl rfl
            · intro ax wx hx hs
              obtain ⟨e43, e45, e35, -⟩ := hs
              have g43 := Reg.ev (v := undef) e43
              have g45 := Reg.ev (v := undef) e45
              have g35 := Reg.ev (v := .bool false) e35
              exact Reg.obl_skip rfl rfl e35 rfl rfl
            · intro ax wx hx hs
              obtain ⟨e46, e35, -⟩ := hs
              have g46 := Reg.ev (v := undef) e46
              have g35 := Reg.ev (v := .bool false) e35
              exact Reg.obl_skip rfl rfl e35 rfl rfl
            · intro ax wx hx hs
              obtain ⟨e47, e35, -⟩ := hs
              have g47 := Reg.ev (v := undef) e47
              have g35 := Reg.ev (v := .bool false) e35
              exact Reg.obl_skip rfl rfl e35 rfl rfl
            · intro ax wx hx hs
              obtain ⟨e1, e35, -⟩ := hs
              have g1 := Reg.ev (v := .pointer (some ⟨w.heap.size, 0, none⟩)) e1
              have g35 := Reg.ev (v := .bool false) e35
              exact Reg.obl_skip rfl rfl e35 rfl rfl
            · intro ax wx hx hs
              obtain ⟨e49, e35, -⟩ := hs
              have g49 := Reg.ev (v := undef) e49
              have g35 := Reg.ev (v := .bool false) e35
              exact Reg.obl_skip rfl rfl e35 rfl rfl
            · intro ax wx hx hs
              obtain ⟨e3, e35, -⟩ := hs
              have g3 := Reg.ev (v := .int .i64 0) e3
              have g35 := Reg.ev (v := .bool false) e35
              exact Reg.obl_skip rfl rfl e35 rfl rfl
            · intro ax wx hx hs
              obtain ⟨e51, e35, -⟩ := hs
              have g51 := Reg.ev (v := undef) e51
              have g35 := Reg.ev (v := .bool false) e35
              exact Reg.obl_skip rfl rfl e35 rfl rfl
            · intro ax wx hx hs
              obtain ⟨e50, e52, e35, -⟩ := hs
              have g50 := Reg.ev (v := undef) e50
              have g52 := Reg.ev (v := undef) e52
              have g35 := Reg.ev (v := .bool false) e35
              exact Reg.obl_skip rfl rfl e35 rfl rfl
            · intro ax wx hx hs
              obtain ⟨e53, e35, -⟩ := hs
              have g53 := Reg.ev (v := undef) e53
              have g35 := Reg.ev (v := .bool false) e35
              exact Reg.obl_skip rfl rfl e35 rfl rfl
            · intro ax wx hx hs
              obtain ⟨e54, e35, -⟩ := hs
              have g54 := Reg.ev (v := undef) e54
              have g35 := Reg.ev (v := .bool false) e35
              exact Reg.obl_skip rfl rfl e35 rfl rfl
            · intro ax wx hx hs
              obtain ⟨e55, e35, -⟩ := hs
              have g55 := Reg.ev (v := undef) e55
              have g35 := Reg.ev (v := .bool false) e35
              exact Reg.obl_skip rfl rfl e35 rfl rfl
            · intro ax wx hx hs
              obtain ⟨e48, e56, e35, -⟩ := hs
              have g48 := Reg.ev (v := undef) e48
              have g56 := Reg.ev (v := undef) e56
              have g35 := Reg.ev (v := .bool false) e35
              exact Reg.obl_skip rfl rfl e35 rfl rfl
            · intro ax wx hx hs
              obtain ⟨e41, e57, e35, -⟩ := hs
              have g41 := Reg.ev (v := undef) e41
              have g57 := Reg.ev (v := undef) e57
              have g35 := Reg.ev (v := .bool false) e35
              exact Reg.obl_skip rfl rfl e35 rfl rfl
            · intro ax wx hx hs
              obtain ⟨e35, e58, e32, -⟩ := hs
              have g35 := Reg.ev (v := .bool false) e35
              have g58 := Reg.ev (v := undef) e58
              have g32 := Reg.ev (v := .bool false) e32
              exact Reg.obl_want rfl rfl e32 (Reg.wp_eqv (Option.some_ne_none _) (by go_simp) rfl)
            · intro ax wx hx hs
              obtain ⟨e32, e59, -⟩ := hs
              have g32 := Reg.ev (v := .bool false) e32
              have g59 := Reg.ev (v := .bool false) e59
              exact Reg.obl_free rfl (Reg.wp_eqv (Option.some_ne_none _) (by go_simp) rfl)
          · intro W2 hwf
            simp only [Reg.Fin]
            rintro _ rfl _ rfl _ rfl _ rfl _ rfl _ rfl _ rfl _ rfl _ rfl _ rfl _ rfl _ rfl _ rfl _ rfl _ rfl _ rfl _ rfl _ rfl _ rfl _ rfl _ rfl _ rfl _ rfl _ rfl _ rfl _ rfl _ rfl _ rfl _ rfl _ rfl _ rfl _ rfl _ rfl _ rfl _ rfl _ rfl
            go_simp
            have hwf' : Below wr.heap.size wr W2 := hwf
            have HB2 := Lib.hid (bstep HB.out hwf')
            have HS2 := Lib.hid (HS.out.next hwf')
            clear hwf hwf' g0 hl0
            go_wp2
            go_roundw
            case rel => exact ⟨0 + 1, by omega, by first | rfl | go_num, HK2, HB2, HS2⟩
            case measure => first | (simp [intOf]; done) | (simp [intOf]; omega)
        · obtain ⟨j, rfl⟩ : ∃ j, k = j + 1 := ⟨k - 1, by omega⟩
          obtain ⟨b', o', r2, A3, n3, c3, e', hb', hr2, hy2, hir2, q2, q3⟩ := run_at HE.out (show j < n by omega)
          cases e'
          have hyl2 := hy2.len
          have hym2 : n3 ≤ maxLen := Nat.le_trans hy2.2.1 hy2.2.2.1
          unfold maxLen at hym2
          replace q2 := (HB.out.cell (p := ⟨b, o + j * 2, none⟩) (by show b < _; omega)).trans q2
          replace q3 := (HB.out.cell (p := ⟨b, o + j * 2 + 1, none⟩) (by show b < _; omega)).trans q3
          have HQ2 := Lib.hid (And.intro q2 q3)
          have hen : PatchP.endOf l (j + 1) = r2.at_ + (n3 : Int) := (PatchP.endOf_succ l j _ hr2).trans (by unfold PatchP.stop; rw [hyl2])
          rw [hen] at hend
          obtain ⟨sp, sd⟩ := r2
          dsimp only at *
          clear q2 q3 hy2 hr2
          obtain ⟨hs1, hs2⟩ := hir2
          by_cases he : PatchP.endOf l (j + 1) < rp
          · have HK2 : Hid (PatchP.Okay l (j + 1 + 1)) := Lib.hid (PatchP.okay_step HK.out HR.out hW he)
            rw [hen] at he
            have hd2 : decide (rp ≤ sp + (n3 : Int)) = false := by simp; omega
            have HD2 := Lib.hid hd2
            clear hW hst hen hd hd2
            go_wp2_with fail
            refine Reg.wp_region_vals (R := ext) (W := wr) [Reg.eqv (.pointer (some ⟨w.heap.size, 2, none⟩)), Reg.eqv (.slice (some ⟨b, o, none⟩) n c), Reg.eqv (.int .i64 (((j + 1 : Nat) : Int))), Reg.eqv (.pointer (some ⟨b, o + (j + 1) * 2, none⟩)), Reg.eqv (.agg #[.int .i64 rp, .slice A2 n2 c2]), Reg.eqv (.bool true), Reg.eqv (.bool false), Reg.eqv (.bool false), Reg.eqv (.int .i64 (((j + 1 : Nat) : Int))), Reg.eqv (.bool true), Reg.eqv (.bool true), Reg.eqv (.pointer (some ⟨w.heap.size, 2, none⟩)), Reg.eqv (.slice (some ⟨b, o, none⟩) n c), Reg.eqv (.int .i64 (((j + 1 : Nat) : Int))), Reg.eqv (.pointer (some ⟨b, o + (j + 1) * 2, none⟩)), Reg.eqv (.pointer (some ⟨b, o + (j + 1) * 2, none⟩)), Reg.eqv (.int .i64 rp), Reg.eqv (.pointer (some ⟨w.heap.size, 2, none⟩)), Reg.eqv (.slice (some ⟨b, o, none⟩) n c), Reg.eqv (.int .i64 (((j + 1 : Nat) : Int))), Reg.eqv (.int .i64 (j : Int)), Reg.eqv (.pointer (some ⟨b, o + j * 2, none⟩)), Reg.eqv (.pointer (some ⟨b, o + j * 2, none⟩)), Reg.eqv (.int .i64 sp), Reg.eqv (.pointer (some ⟨w.heap.size, 2, none⟩)), Reg.eqv (.slice (some ⟨b, o, none⟩) n c), Reg.eqv (.int .i64 (((j + 1 : Nat) : Int))), Reg.eqv (.int .i64 (j : Int)), Reg.eqv (.pointer (some ⟨b, o + j * 2, none⟩)), Reg.eqv (.pointer (some ⟨b, o + j * 2 + 1, none⟩)), Reg.eqv (.slice A3 n3 c3), Reg.eqv (.int .i64 (n3 : Int)), Reg.eqv (.int .i64 (sp + (n3 : Int))), Reg.eqv (.bool false), Reg.eqv (.bool false), Reg.eqv (.bool false)] 61 [[(1, none)], [(25, some 0)], [(3, none)], [(26, some 1), (27, some 2)], [(28, some 3)], [(29, some 4)], [(30, some 5)], [(31, some 6)], [(3, none), (32, some 7)], [(33, some 8), (32, some 7)], [(34, some 9), (32, some 7)], [(1, none), (35, some 10)], [(36, some 11), (35, some 10)], [(3, none), (35, some 10)], [(37, some 12), (38, some 13), (35, some 10)], [(39, some 14), (35, some 10)], [(40, some 15), (35, some 10)], [(1, none), (35, some 10)], [(42, some 17), (35, some 10)], [(3, none), (35, some 10)], [(44, some 19), (35, some 10)], [(43, some 18), (45, some 20), (35, some 10)], [(46, some 21), (35, some 10)], [(47, some 22), (35, some 10)], [(1, none), (35, some 10)], [(49, some 24), (35, some 10)], [(3, none), (35, some 10)], [(51, some 26), (35, some 10)], [(50, some 25), (52, some 27), (35, some 10)], [(53, some 28), (35, some 10)], [(54, some 29), (35, some 10)], [(55, some 30), (35, some 10)], [(48, some 23), (56, some 31), (35, some 10)], [(41, some 16), (57, some 32), (35, some 10)], [(35, some 10), (58, some 33), (32, some 7)], [(32, some 7), (59, some 34)]] rfl (by kernel_rfl) (by kernel_rfl) (by kernel_rfl) ?_ [some 25, some 26, some 27, some 28, some 29, some 30, some 31, some 32, some 33, some 34, some 35, some 36, some 37, some 38, some 39, some 40, some 41, some 42, some 43, some 44, some 45, some 46, some 47, some 48, some 49, some 50, some 51, some 52, some 53, some 54, some 55, some 56, some 57, some 58, some 59, some 60] (by kernel_rfl) ?_
            · refine ⟨?_, ?_, ?_, ?_, ?_, ?_, ?_, ?_, ?_, ?_, ?_, ?_, ?_, ?_, ?_, ?_, ?_, ?_, ?_, ?_, ?_, ?_, ?_, ?_, ?_, ?_, ?_, ?_, ?_, ?_, ?_, ?_, ?_, ?_, ?_, ?_, trivial⟩
              · intro ax wx hx hs
                obtain ⟨e1, -⟩ := hs
                have g1 := Reg.ev (v := .pointer (some ⟨w.heap.size, 0, none⟩)) e1
                exact Reg.obl_free rfl (Reg.wp_eqv (Option.some_ne_none _) (by go_simp) rfl)
              · intro ax wx hx hs
                obtain ⟨e25, -⟩ := hs
                have g25 := Reg.ev (v := .pointer (some ⟨w.heap.size, 2, none⟩)) e25
                have hx' : Below wr.heap.size wr wx := hx
                have l0 := str3 (HS.out.next hx')
                have l1 := (hx'.cell (p := ⟨b, o + (j + 1) * 2, none⟩) hbw).trans HQ.out.1
                have l2 := (hx'.cell (p := ⟨b, o + (j + 1) * 2 + 1, none⟩) hbw).trans HQ.out.2
                have l3 := (hx'.cell (p := ⟨b, o + j * 2, none⟩) hbw).trans HQ2.out.1
                have l4 := (hx'.cell (p := ⟨b, o + j * 2 + 1, none⟩) hbw).trans HQ2.out.2
                exact Reg.obl_free rfl (Reg.wp_eqv (Option.some_ne_none _) (by go_simp) rfl)
              · intro ax wx hx hs
                obtain ⟨e3, -⟩ := hs
                have g3 := Reg.ev (v := .int .i64 (((j + 1 : Nat) : Int))) e3
                exact Reg.obl_free rfl (Reg.wp_eqv (Option.some_ne_none _) (by go_simp) rfl)
              · intro ax wx hx hs
                obtain ⟨e26, e27, -⟩ := hs
                have g26 := Reg.ev (v := .slice (some ⟨b, o, none⟩) n c) e26
                have g27 := Reg.ev (v := .int .i64 (((j + 1 : Nat) : Int))) e27
                refine Reg.obl_free rfl ?_
                exact Reg.wp_eqv (Option.some_ne_none _) (by go_simp; first | done | (intro hq; omega)) rfl
              · intro ax wx hx hs
                obtain ⟨e28, -⟩ := hs
                have g28 := Reg.ev (v := .pointer (some ⟨b, o + (j + 1) * 2, none⟩)) e28
                have hx' : Below wr.heap.size wr wx := hx
                have l0 := str3 (HS.out.next hx')
                have l1 := (hx'.cell (p := ⟨b, o + (j + 1) * 2, none⟩) hbw).trans HQ.out.1
                have l2 := (hx'.cell (p := ⟨b, o + (j + 1) * 2 + 1, none⟩) hbw).trans HQ.out.2
                have l3 := (hx'.cell (p := ⟨b, o + j * 2, none⟩) hbw).trans HQ2.out.1
                have l4 := (hx'.cell (p := ⟨b, o + j * 2 + 1, none⟩) hbw).trans HQ2.out.2
                exact Reg.obl_free rfl (Reg.wp_eqv (Option.some_ne_none _) (by go_simp) rfl)
              · intro ax wx hx hs
                obtain ⟨e29, -⟩ := hs
                have g29 := Reg.ev (v := .agg #[.int .i64 rp, .slice A2 n2 c2]) e29
                refine Reg.obl_free rfl ?_
                have hx' : Below wr.heap.size wr wx := hx
                go_simp
                refine (within_any ⟨rp, rd⟩ A2 n2 c2 hyl hym hir wx).mono ?_
                rintro e wy ⟨rfl, hby⟩
                rw [HWI.out]
                exact Reg.done (Option.some_ne_none _) rfl hby
              · intro ax wx hx hs
                obtain ⟨e30, -⟩ := hs
                have g30 := Reg.ev (v := .bool true) e30
                exact Reg.obl_free rfl (Reg.wp_eqv (Option.some_ne_none _) (by go_simp) rfl)
              · intro ax wx hx hs
                obtain ⟨e31, -⟩ := hs
                have g31 := Reg.ev (v := .bool false) e31
                exact Reg.obl_free rfl (Reg.wp_eqv (Option.some_ne_none _) (by go_simp) rfl)
              · intro ax wx hx hs
                obtain ⟨e3, e32, -⟩ := hs
                have g3 := Reg.ev (v := .int .i64 (((j + 1 : Nat) : Int))) e3
                have g32 := Reg.ev (v := .bool false) e32
                exact Reg.obl_want rfl rfl e32 (Reg.wp_eqv (Option.some_ne_none _) (by go_simp) rfl)
              · intro ax wx hx hs
                obtain ⟨e33, e32, -⟩ := hs
                have g33 := Reg.ev (v := .int .i64 (((j + 1 : Nat) : Int))) e33
                have g32 := Reg.ev (v := .bool false) e32
                exact Reg.obl_want rfl rfl e32 (Reg.wp_eqv (Option.some_ne_none _) (by go_simp) rfl)
              · intro ax wx hx hs
                obtain ⟨e34, e32, -⟩ := hs
                have g34 := Reg.ev (v := .bool true) e34
                have g32 := Reg.ev (v := .bool false) e32
                exact Reg.obl_want rfl rfl e32 (Reg.wp_eqv (Option.some_ne_none _) (by go_simp) rfl)
              · intro ax wx hx hs
                obtain ⟨e1, e35, -⟩ := hs
                have g1 := Reg.ev (v := .pointer (some ⟨w.heap.size, 0, none⟩)) e1
                have g35 := Reg.ev (v := .bool true) e35
                exact Reg.obl_want rfl rfl e35 (Reg.wp_eqv (Option.some_ne_none _) (by go_simp) rfl)
              · intro ax wx hx hs
                obtain ⟨e36, e35, -⟩ := hs
                have g36 := Reg.ev (v := .pointer (some ⟨w.heap.size, 2, none⟩)) e36
                have g35 := Reg.ev (v := .bool true) e35
                have hx' : Below wr.heap.size wr wx := hx
                have l0 := str3 (HS.out.next hx')
                have l1 := (hx'.cell (p := ⟨b, o + (j + 1) * 2, none⟩) hbw).trans HQ.out.1
                have l2 := (hx'.cell (p := ⟨b, o + (j + 1) * 2 + 1, none⟩) hbw).trans HQ.out.2
                have l3 := (hx'.cell (p := ⟨b, o + j * 2, none⟩) hbw).trans HQ2.out.1
                have l4 := (hx'.cell (p := ⟨b, o + j * 2 + 1, none⟩) hbw).trans HQ2.out.2
                exact Reg.obl_want rfl rfl e35 (Reg.wp_eqv (Option.some_ne_none _) (by go_simp) rfl)
              · intro ax wx hx hs
                obtain ⟨e3, e35, -⟩ := hs
                have g3 := Reg.ev (v := .int .i64 (((j + 1 : Nat) : Int))) e3
                have g35 := Reg.ev (v := .bool true) e35
                exact Reg.obl_want rfl rfl e35 (Reg.wp_eqv (Option.some_ne_none _) (by go_simp) rfl)
              · intro ax wx hx hs
                obtain ⟨e37, e38, e35, -⟩ := hs
                have g37 := Reg.ev (v := .slice (some ⟨b, o, none⟩) n c) e37
                have g38 := Reg.ev (v := .int .i64 (((j + 1 : Nat) : Int))) e38
                have g35 := Reg.ev (v := .bool true) e35
                refine Reg.obl_want rfl rfl e35 ?_
                exact Reg.wp_eqv (Option.some_ne_none _) (by go_simp; first | done | (intro hq; omega)) rfl
              · intro ax wx hx hs
                obtain ⟨e39, e35, -⟩ := hs
                have g39 := Reg.ev (v := .pointer (some ⟨b, o + (j + 1) * 2, none⟩)) e39
                have g35 := Reg.ev (v := .bool true) e35
                exact Reg.obl_want rfl rfl e35 (Reg.wp_eqv (Option.some_ne_none _) (by go_simp) rfl)
              · intro ax wx hx hs
                obtain ⟨e40, e35, -⟩ := hs
                have g40 := Reg.ev (v := .pointer (some ⟨b, o + (j + 1) * 2, none⟩)) e40
                have g35 := Reg.ev (v := .bool true) e35
                have hx' : Below wr.heap.size wr wx := hx
                have l0 := str3 (HS.out.next hx')
                have l1 := (hx'.cell (p := ⟨b, o + (j + 1) * 2, none⟩) hbw).trans HQ.out.1
                have l2 := (hx'.cell (p := ⟨b, o + (j + 1) * 2 + 1, none⟩) hbw).trans HQ.out.2
                have l3 := (hx'.cell (p := ⟨b, o + j * 2, none⟩) hbw).trans HQ2.out.1
                have l4 := (hx'.cell (p := ⟨b, o + j * 2 + 1, none⟩) hbw).trans HQ2.out.2
                exact Reg.obl_want rfl rfl e35 (Reg.wp_eqv (Option.some_ne_none _) (by go_simp) rfl)
              · intro ax wx hx hs
                obtain ⟨e1, e35, -⟩ := hs
                have g1 := Reg.ev (v := .pointer (some ⟨w.heap.size, 0, none⟩)) e1
                have g35 := Reg.ev (v := .bool true) e35
                exact Reg.obl_want rfl rfl e35 (Reg.wp_eqv (Option.some_ne_none _) (by go_simp) rfl)
              · intro ax wx hx hs
                obtain ⟨e42, e35, -⟩ := hs
                have g42 := Reg.ev (v := .pointer (some ⟨w.heap.size, 2, none⟩)) e42
                have g35 := Reg.ev (v := .bool true) e35
                have hx' : Below wr.heap.size wr wx := hx
                have l0 := str3 (HS.out.next hx')
                have l1 := (hx'.cell (p := ⟨b, o + (j + 1) * 2, none⟩) hbw).trans HQ.out.1
                have l2 := (hx'.cell (p := ⟨b, o + (j + 1) * 2 + 1, none⟩) hbw).trans HQ.out.2
                have l3 := (hx'.cell (p := ⟨b, o + j * 2, none⟩) hbw).trans HQ2.out.1
                have l4 := (hx'.cell (p := ⟨b, o + j * 2 + 1, none⟩) hbw).trans HQ2.out.2
                exact Reg.obl_want rfl rfl e35 (Reg.wp_eqv (Option.some_ne_none _) (by go_simp) rfl)
              · intro ax wx hx hs
                obtain ⟨e3, e35, -⟩ := hs
                have g3 := Reg.ev (v := .int .i64 (((j + 1 : Nat) : Int))) e3
                have g35 := Reg.ev (v := .bool true) e35
                exact Reg.obl_want rfl rfl e35 (Reg.wp_eqv (Option.some_ne_none _) (by go_simp) rfl)
              · intro ax wx hx hs
                obtain ⟨e44, e35, -⟩ := hs
                have g44 := Reg.ev (v := .int .i64 (((j + 1 : Nat) : Int))) e44
                have g35 := Reg.ev (v := .bool true) e35
                refine Reg.obl_want rfl rfl e35 ?_
                exact Reg.wp_eqv (Option.some_ne_none _) (by go_simp; exact IntWalk.i64_in _ (by omega)) rfl
              · intro ax wx hx hs
                obtain ⟨e43, e45, e35, -⟩ := hs
                have g43 := Reg.ev (v := .slice (some ⟨b, o, none⟩) n c) e43
                have g45 := Reg.ev (v := .int .i64 (j : Int)) e45
                have g35 := Reg.ev (v := .bool true) e35
                refine Reg.obl_want rfl rfl e35 ?_
                exact Reg.wp_eqv (Option.some_ne_none _) (by go_simp; first | done | (intro hq; omega)) rfl
              · intro ax wx hx hs
                obtain ⟨e46, e35, -⟩ := hs
                have g46 := Reg.ev (v := .pointer (some ⟨b, o + j * 2, none⟩)) e46
                have g35 := Reg.ev (v := .bool true) e35
                exact Reg.obl_want rfl rfl e35 (Reg.wp_eqv (Option.some_ne_none _) (by go_simp) rfl)
              · intro ax wx hx hs
                obtain ⟨e47, e35, -⟩ := hs
                have g47 := Reg.ev (v := .pointer (some ⟨b, o + j * 2, none⟩)) e47
                have g35 := Reg.ev (v := .bool true) e35
                have hx' : Below wr.heap.size wr wx := hx
                have l0 := str3 (HS.out.next hx')
                have l1 := (hx'.cell (p := ⟨b, o + (j + 1) * 2, none⟩) hbw).trans HQ.out.1
                have l2 := (hx'.cell (p := ⟨b, o + (j + 1) * 2 + 1, none⟩) hbw).trans HQ.out.2
                have l3 := (hx'.cell (p := ⟨b, o + j * 2, none⟩) hbw).trans HQ2.out.1
                have l4 := (hx'.cell (p := ⟨b, o + j * 2 + 1, none⟩) hbw).trans HQ2.out.2
                exact Reg.obl_want rfl rfl e35 (Reg.wp_eqv (Option.some_ne_none _) (by go_simp) rfl)
              · intro ax wx hx hs
                obtain ⟨e1, e35, -⟩ := hs
                have g1 := Reg.ev (v := .pointer (some ⟨w.heap.size, 0, none⟩)) e1
                have g35 := Reg.ev (v := .bool true) e35
                exact Reg.obl_want rfl rfl e35 (Reg.wp_eqv (Option.some_ne_none _) (by go_simp) rfl)
              · intro ax wx hx hs
                obtain ⟨e49, e35, -⟩ := hs
                have g49 := Reg.ev (v := .pointer (some ⟨w.heap.size, 2, none⟩)) e49
                have g35 := Reg.ev (v := .bool true) e35
                have hx' : Below wr.heap.size wr wx := hx
                have l0 := str3 (HS.out.next hx')
                have l1 := (hx'.cell (p := ⟨b, o + (j + 1) * 2, none⟩) hbw).trans HQ.out.1
                have l2 := (hx'.cell (p := ⟨b, o + (j + 1) * 2 + 1, none⟩) hbw).trans HQ.out.2
                have l3 := (hx'.cell (p := ⟨b, o + j * 2, none⟩) hbw).trans HQ2.out.1
                have l4 := (hx'.cell (p := ⟨b, o + j * 2 + 1, none⟩) hbw).trans HQ2.out.2
                exact Reg.obl_want rfl rfl e35 (Reg.wp_eqv (Option.some_ne_none _) (by go_simp) rfl)
              · intro ax wx hx hs
                obtain ⟨e3, e35, -⟩ := hs
                have g3 := Reg.ev (v := .int .i64 (((j + 1 : Nat) : Int))) e3
                have g35 := Reg.ev (v := .bool true) e35
                exact Reg.obl_want rfl rfl e35 (Reg.wp_eqv (Option.some_ne_none _) (by go_simp) rfl)
              · intro ax wx hx hs
                obtain ⟨e51, e35, -⟩ := hs
                have g51 := Reg.ev (v := .int .i64 (((j + 1 : Nat) : Int))) e51
                have g35 := Reg.ev (v := .bool true) e35
                refine Reg.obl_want rfl rfl e35 ?_
                exact Reg.wp_eqv (Option.some_ne_none _) (by go_simp; exact IntWalk.i64_in _ (by omega)) rfl
              · intro ax wx hx hs
                obtain ⟨e50, e52, e35, -⟩ := hs
                have g50 := Reg.ev (v := .slice (some ⟨b, o, none⟩) n c) e50
                have g52 := Reg.ev (v := .int .i64 (j : Int)) e52
                have g35 := Reg.ev (v := .bool true) e35
                refine Reg.obl_want rfl rfl e35 ?_
                exact Reg.wp_eqv (Option.some_ne_none _) (by go_simp; first | done | (intro hq; omega)) rfl
              · intro ax wx hx hs
                obtain ⟨e53, e35, -⟩ := hs
                have g53 := Reg.ev (v := .pointer (some ⟨b, o + j * 2, none⟩)) e53
                have g35 := Reg.ev (v := .bool true) e35
                exact Reg.obl_want rfl rfl e35 (Reg.wp_eqv (Option.some_ne_none _) (by go_simp) rfl)
              · intro ax wx hx hs
                obtain ⟨e54, e35, -⟩ := hs
                have g54 := Reg.ev (v := .pointer (some ⟨b, o + j * 2 + 1, none⟩)) e54
                have g35 := Reg.ev (v := .bool true) e35
                have hx' : Below wr.heap.size wr wx := hx
                have l0 := str3 (HS.out.next hx')
                have l1 := (hx'.cell (p := ⟨b, o + (j + 1) * 2, none⟩) hbw).trans HQ.out.1
                have l2 := (hx'.cell (p := ⟨b, o + (j + 1) * 2 + 1, none⟩) hbw).trans HQ.out.2
                have l3 := (hx'.cell (p := ⟨b, o + j * 2, none⟩) hbw).trans HQ2.out.1
                have l4 := (hx'.cell (p := ⟨b, o + j * 2 + 1, none⟩) hbw).trans HQ2.out.2
                exact Reg.obl_want rfl rfl e35 (Reg.wp_eqv (Option.some_ne_none _) (by go_simp) rfl)
              · intro ax wx hx hs
                obtain ⟨e55, e35, -⟩ := hs
                have g55 := Reg.ev (v := .slice A3 n3 c3) e55
                have g35 := Reg.ev (v := .bool true) e35
                exact Reg.obl_want rfl rfl e35 (Reg.wp_eqv (Option.some_ne_none _) (by go_simp) rfl)
              · intro ax wx hx hs
                obtain ⟨e48, e56, e35, -⟩ := hs
                have g48 := Reg.ev (v := .int .i64 sp) e48
                have g56 := Reg.ev (v := .int .i64 (n3 : Int)) e56
                have g35 := Reg.ev (v := .bool true) e35
                refine Reg.obl_want rfl rfl e35 ?_
                exact Reg.wp_eqv (Option.some_ne_none _) (by go_simp; exact IntWalk.i64_in _ (by omega)) rfl
              · intro ax wx hx hs
                obtain ⟨e41, e57, e35, -⟩ := hs
                have g41 := Reg.ev (v := .int .i64 rp) e41
                have g57 := Reg.ev (v := .int .i64 (sp + (n3 : Int))) e57
                have g35 := Reg.ev (v := .bool true) e35
                exact Reg.obl_want rfl rfl e35 (Reg.wp_eqv (Option.some_ne_none _) (by go_simp) rfl)
              · intro ax wx hx hs
                obtain ⟨e35, e58, e32, -⟩ := hs
                have g35 := Reg.ev (v := .bool true) e35
                have g58 := Reg.ev (v := .bool false) e58
                have g32 := Reg.ev (v := .bool false) e32
                exact Reg.obl_want rfl rfl e32 (Reg.wp_eqv (Option.some_ne_none _) (by go_simp) rfl)
              · intro ax wx hx hs
                obtain ⟨e32, e59, -⟩ := hs
                have g32 := Reg.ev (v := .bool false) e32
                have g59 := Reg.ev (v := .bool false) e59
                exact Reg.obl_free rfl (Reg.wp_eqv (Option.some_ne_none _) (by go_simp) rfl)
            · intro W2 hwf
              simp only [Reg.Fin]
              rintro _ rfl _ rfl _ rfl _ rfl _ rfl _ rfl _ rfl _ rfl _ rfl _ rfl _ rfl _ rfl _ rfl _ rfl _ rfl _ rfl _ rfl _ rfl _ rfl _ rfl _ rfl _ rfl _ rfl _ rfl _ rfl _ rfl _ rfl _ rfl _ rfl _ rfl _ rfl _ rfl _ rfl _ rfl _ rfl _ rfl
              go_simp
              have hwf' : Below wr.heap.size wr W2 := hwf
              have HB2 := Lib.hid (bstep HB.out hwf')
              have HS2 := Lib.hid (HS.out.next hwf')
              clear hwf hwf' g0 hl0
              go_wp2
              go_roundw
              case rel => exact ⟨(j + 1) + 1, by omega, by first | rfl | go_num, HK2, HB2, HS2⟩
              case measure => first | (simp [intOf]; done) | (simp [intOf]; omega)
          · have HRR := Lib.hid (HBAD.out (j + 1) _ HR.out (fun h => he h.2))
            rw [hen] at he
            have hd2 : decide (rp ≤ sp + (n3 : Int)) = true := by simp; omega
            have HD2 := Lib.hid hd2
            clear hW hst hen hd hd2
            go_wp2_with fail
            refine Reg.wp_region_vals (R := ext) (W := wr) [Reg.eqv (.pointer (some ⟨w.heap.size, 2, none⟩)), Reg.eqv (.slice (some ⟨b, o, none⟩) n c), Reg.eqv (.int .i64 (((j + 1 : Nat) : Int))), Reg.eqv (.pointer (some ⟨b, o + (j + 1) * 2, none⟩)), Reg.eqv (.agg #[.int .i64 rp, .slice A2 n2 c2]), Reg.eqv (.bool true), Reg.eqv (.bool false), Reg.eqv (.bool false), Reg.eqv (.int .i64 (((j + 1 : Nat) : Int))), Reg.eqv (.bool true), Reg.eqv (.bool true), Reg.eqv (.pointer (some ⟨w.heap.size, 2, none⟩)), Reg.eqv (.slice (some ⟨b, o, none⟩) n c), Reg.eqv (.int .i64 (((j + 1 : Nat) : Int))), Reg.eqv (.pointer (some ⟨b, o + (j + 1) * 2, none⟩)), Reg.eqv (.pointer (some ⟨b, o + (j + 1) * 2, none⟩)), Reg.eqv (.int .i64 rp), Reg.eqv (.pointer (some ⟨w.heap.size, 2, none⟩)), Reg.eqv (.slice (some ⟨b, o, none⟩) n c), Reg.eqv (.int .i64 (((j + 1 : Nat) : Int))), Reg.eqv (.int .i64 (j : Int)), Reg.eqv (.pointer (some ⟨b, o + j * 2, none⟩)), Reg.eqv (.pointer (some ⟨b, o + j * 2, none⟩)), Reg.eqv (.int .i64 sp), Reg.eqv (.pointer (some ⟨w.heap.size, 2, none⟩)), Reg.eqv (.slice (some ⟨b, o, none⟩) n c), Reg.eqv (.int .i64 (((j + 1 : Nat) : Int))), Reg.eqv (.int .i64 (j : Int)), Reg.eqv (.pointer (some ⟨b, o + j * 2, none⟩)), Reg.eqv (.pointer (some ⟨b, o + j * 2 + 1, none⟩)), Reg.eqv (.slice A3 n3 c3), Reg.eqv (.int .i64 (n3 : Int)), Reg.eqv (.int .i64 (sp + (n3 : Int))), Reg.eqv (.bool true), Reg.eqv (.bool true), Reg.eqv (.bool true)] 61 [[(1, none)], [(25, some 0)], [(3, none)], [(26, some 1), (27, some 2)], [(28, some 3)], [(29, some 4)], [(30, some 5)], [(31, some 6)], [(3, none), (32, some 7)], [(33, some 8), (32, some 7)], [(34, some 9), (32, some 7)], [(1, none), (35, some 10)], [(36, some 11), (35, some 10)], [(3, none), (35, some 10)], [(37, some 12), (38, some 13), (35, some 10)], [(39, some 14), (35, some 10)], [(40, some 15), (35, some 10)], [(1, none), (35, some 10)], [(42, some 17), (35, some 10)], [(3, none), (35, some 10)], [(44, some 19), (35, some 10)], [(43, some 18), (45, some 20), (35, some 10)], [(46, some 21), (35, some 10)], [(47, some 22), (35, some 10)], [(1, none), (35, some 10)], [(49, some 24), (35, some 10)], [(3, none), (35, some 10)], [(51, some 26), (35, some 10)], [(50, some 25), (52, some 27), (35, some 10)], [(53, some 28), (35, some 10)], [(54, some 29), (35, some 10)], [(55, some 30), (35, some 10)], [(48, some 23), (56, some 31), (35, some 10)], [(41, some 16), (57, some 32), (35, some 10)], [(35, some 10), (58, some 33), (32, some 7)], [(32, some 7), (59, some 34)]] rfl (by kernel_rfl) (by kernel_rfl) (by kernel_rfl) ?_ [some 25, some 26, some 27, some 28, some 29, some 30, some 31, some 32, some 33, some 34, some 35, some 36, some 37, some 38, some 39, some 40, some 41, some 42, some 43, some 44, some 45, some 46, some 47, some 48, some 49, some 50, some 51, some 52, some 53, some 54, some 55, some 56, some 57, some 58, some 59, some 60] (by kernel_rfl) ?_
            · refine ⟨?_, ?_, ?_, ?_, ?_, ?_, ?_, ?_, ?_, ?_, ?_, ?_, ?_, ?_, ?_, ?_, ?_, ?_, ?_, ?_, ?_, ?_, ?_, ?_, ?_, ?_, ?_, ?_, ?_, ?_, ?_, ?_, ?_, ?_, ?_, ?_, trivial⟩
              · intro ax wx hx hs
                obtain ⟨e1, -⟩ := hs
                have g1 := Reg.ev (v := .pointer (some ⟨w.heap.size, 0, none⟩)) e1
                exact Reg.obl_free rfl (Reg.wp_eqv (Option.some_ne_none _) (by go_simp) rfl)
              · intro ax wx hx hs
                obtain ⟨e25, -⟩ := hs
                have g25 := Reg.ev (v := .pointer (some ⟨w.heap.size, 2, none⟩)) e25
                have hx' : Below wr.heap.size wr wx := hx
                have l0 := str3 (HS.out.next hx')
                have l1 := (hx'.cell (p := ⟨b, o + (j + 1) * 2, none⟩) hbw).trans HQ.out.1
                have l2 := (hx'.cell (p := ⟨b, o + (j + 1) * 2 + 1, none⟩) hbw).trans HQ.out.2
                have l3 := (hx'.cell (p := ⟨b, o + j * 2, none⟩) hbw).trans HQ2.out.1
                have l4 := (hx'.cell (p := ⟨b, o + j * 2 + 1, none⟩) hbw).trans HQ2.out.2
                exact Reg.obl_free rfl (Reg.wp_eqv (Option.some_ne_none _) (by go_simp) rfl)
              · intro ax wx hx hs
                obtain ⟨e3, -⟩ := hs
                have g3 := Reg.ev (v := .int .i64 (((j + 1 : Nat) : Int))) e3
                exact Reg.obl_free rfl (Reg.wp_eqv (Option.some_ne_none _) (by go_simp) rfl)
              · intro ax wx hx hs
                obtain ⟨e26, e27, -⟩ := hs
                have g26 := Reg.ev (v := .slice (some ⟨b, o, none⟩) n c) e26
                have g27 := Reg.ev (v := .int .i64 (((j + 1 : Nat) : Int))) e27
                refine Reg.obl_free rfl ?_
                exact Reg.wp_eqv (Option.some_ne_none _) (by go_simp; first | done | (intro hq; omega)) rfl
              · intro ax wx hx hs
                obtain ⟨e28, -⟩ := hs
                have g28 := Reg.ev (v := .pointer (some ⟨b, o + (j + 1) * 2, none⟩)) e28
                have hx' : Below wr.heap.size wr wx := hx
                have l0 := str3 (HS.out.next hx')
                have l1 := (hx'.cell (p := ⟨b, o + (j + 1) * 2, none⟩) hbw).trans HQ.out.1
                have l2 := (hx'.cell (p := ⟨b, o + (j + 1) * 2 + 1, none⟩) hbw).trans HQ.out.2
                have l3 := (hx'.cell (p := ⟨b, o + j * 2, none⟩) hbw).trans HQ2.out.1
                have l4 := (hx'.cell (p := ⟨b, o + j * 2 + 1, none⟩) hbw).trans HQ2.out.2
                exact Reg.obl_free rfl (Reg.wp_eqv (Option.some_ne_none _) (by go_simp) rfl)
              · intro ax wx hx hs
                obtain ⟨e29, -⟩ := hs
                have g29 := Reg.ev (v := .agg #[.int .i64 rp, .slice A2 n2 c2]) e29
                refine Reg.obl_free rfl ?_
                have hx' : Below wr.heap.size wr wx := hx
                go_simp
                refine (within_any ⟨rp, rd⟩ A2 n2 c2 hyl hym hir wx).mono ?_
                rintro e wy ⟨rfl, hby⟩
                rw [HWI.out]
                exact Reg.done (Option.some_ne_none _) rfl hby
              · intro ax wx hx hs
                obtain ⟨e30, -⟩ := hs
                have g30 := Reg.ev (v := .bool true) e30
                exact Reg.obl_free rfl (Reg.wp_eqv (Option.some_ne_none _) (by go_simp) rfl)
              · intro ax wx hx hs
                obtain ⟨e31, -⟩ := hs
                have g31 := Reg.ev (v := .bool false) e31
                exact Reg.obl_free rfl (Reg.wp_eqv (Option.some_ne_none _) (by go_simp) rfl)
              · intro ax wx hx hs
                obtain ⟨e3, e32, -⟩ := hs
                have g3 := Reg.ev (v := .int .i64 (((j + 1 : Nat) : Int))) e3
                have g32 := Reg.ev (v := .bool false) e32
                exact Reg.obl_want rfl rfl e32 (Reg.wp_eqv (Option.some_ne_none _) (by go_simp) rfl)
              · intro ax wx hx hs
                obtain ⟨e33, e32, -⟩ := hs
                have g33 := Reg.ev (v := .int .i64 (((j + 1 : Nat) : Int))) e33
                have g32 := Reg.ev (v := .bool false) e32
                exact Reg.obl_want rfl rfl e32 (Reg.wp_eqv (Option.some_ne_none _) (by go_simp) rfl)
              · intro ax wx hx hs
                obtain ⟨e34, e32, -⟩ := hs
                have g34 := Reg.ev (v := .bool true) e34
                have g32 := Reg.ev (v := .bool false) e32
                exact Reg.obl_want rfl rfl e32 (Reg.wp_eqv (Option.some_ne_none _) (by go_simp) rfl)
              · intro ax wx hx hs
                obtain ⟨e1, e35, -⟩ := hs
                have g1 := Reg.ev (v := .pointer (some ⟨w.heap.size, 0, none⟩)) e1
                have g35 := Reg.ev (v := .bool true) e35
                exact Reg.obl_want rfl rfl e35 (Reg.wp_eqv (Option.some_ne_none _) (by go_simp) rfl)
              · intro ax wx hx hs
                obtain ⟨e36, e35, -⟩ := hs
                have g36 := Reg.ev (v := .pointer (some ⟨w.heap.size, 2, none⟩)) e36
                have g35 := Reg.ev (v := .bool true) e35
                have hx' : Below wr.heap.size wr wx := hx
                have l0 := str3 (HS.out.next hx')
                have l1 := (hx'.cell (p := ⟨b, o + (j + 1) * 2, none⟩) hbw).trans HQ.out.1
                have l2 := (hx'.cell (p := ⟨b, o + (j + 1) * 2 + 1, none⟩) hbw).trans HQ.out.2
                have l3 := (hx'.cell (p := ⟨b, o + j * 2, none⟩) hbw).trans HQ2.out.1
                have l4 := (hx'.cell (p := ⟨b, o + j * 2 + 1, none⟩) hbw).trans HQ2.out.2
                exact Reg.obl_want rfl rfl e35 (Reg.wp_eqv (Option.some_ne_none _) (by go_simp) rfl)
              · intro ax wx hx hs
                obtain ⟨e3, e35, -⟩ := hs
                have g3 := Reg.ev (v := .int .i64 (((j + 1 : Nat) : Int))) e3
                have g35 := Reg.ev (v := .bool true) e35
                exact Reg.obl_want rfl rfl e35 (Reg.wp_eqv (Option.some_ne_none _) (by go_simp) rfl)
              · intro ax wx hx hs
                obtain ⟨e37, e38, e35, -⟩ := hs
                have g37 := Reg.ev (v := .slice (some ⟨b, o, none⟩) n c) e37
                have g38 := Reg.ev (v := .int .i64 (((j + 1 : Nat) : Int))) e38
                have g35 := Reg.ev (v := .bool true) e35
                refine Reg.obl_want rfl rfl e35 ?_
                exact Reg.wp_eqv (Option.some_ne_none _) (by go_simp; first | done | (intro hq; omega)) rfl
              · intro ax wx hx hs
                obtain ⟨e39, e35, -⟩ := hs
                have g39 := Reg.ev (v := .pointer (some ⟨b, o + (j + 1) * 2, none⟩)) e39
                have g35 := Reg.ev (v := .bool true) e35
                exact Reg.obl_want rfl rfl e35 (Reg.wp_eqv (Option.some_ne_none _) (by go_simp) rfl)
              · intro ax wx hx hs
                obtain ⟨e40, e35, -⟩ := hs
                have g40 := Reg.ev (v := .pointer (some ⟨b, o + (j + 1) * 2, none⟩)) e40
                have g35 := Reg.ev (v := .bool true) e35
                have hx' : Below wr.heap.size wr wx := hx
                have l0 := str3 (HS.out.next hx')
                have l1 := (hx'.cell (p := ⟨b, o + (j + 1) * 2, none⟩) hbw).trans HQ.out.1
                have l2 := (hx'.cell (p := ⟨b, o + (j + 1) * 2 + 1, none⟩) hbw).trans HQ.out.2
                have l3 := (hx'.cell (p := ⟨b, o + j * 2, none⟩) hbw).trans HQ2.out.1
                have l4 := (hx'.cell (p := ⟨b, o + j * 2 + 1, none⟩) hbw).trans HQ2.out.2
                exact Reg.obl_want rfl rfl e35 (Reg.wp_eqv (Option.some_ne_none _) (by go_simp) rfl)
              · intro ax wx hx hs
                obtain ⟨e1, e35, -⟩ := hs
                have g1 := Reg.ev (v := .pointer (some ⟨w.heap.size, 0, none⟩)) e1
                have g35 := Reg.ev (v := .bool true) e35
                exact Reg.obl_want rfl rfl e35 (Reg.wp_eqv (Option.some_ne_none _) (by go_simp) rfl)
              · intro ax wx hx hs
                obtain ⟨e42, e35, -⟩ := hs
                have g42 := Reg.ev (v := .pointer (some ⟨w.heap.size, 2, none⟩)) e42
                have g35 := Reg.ev (v := .bool true) e35
                have hx' : Below wr.heap.size wr wx := hx
                have l0 := str3 (HS.out.next hx')
                have l1 := (hx'.cell (p := ⟨b, o + (j + 1) * 2, none⟩) hbw).trans HQ.out.1
                have l2 := (hx'.cell (p := ⟨b, o + (j + 1) * 2 + 1, none⟩) hbw).trans HQ.out.2
                have l3 := (hx'.cell (p := ⟨b, o + j * 2, none⟩) hbw).trans HQ2.out.1
                have l4 := (hx'.cell (p := ⟨b, o + j * 2 + 1, none⟩) hbw).trans HQ2.out.2
                exact Reg.obl_want rfl rfl e35 (Reg.wp_eqv (Option.some_ne_none _) (by go_simp) rfl)
              · intro ax wx hx hs
                obtain ⟨e3, e35, -⟩ := hs
                have g3 := Reg.ev (v := .int .i64 (((j + 1 : Nat) : Int))) e3
                have g35 := Reg.ev (v := .bool true) e35
                exact Reg.obl_want rfl rfl e35 (Reg.wp_eqv (Option.some_ne_none _) (by go_simp) rfl)
              · intro ax wx hx hs
                obtain ⟨e44, e35, -⟩ := hs
                have g44 := Reg.ev (v := .int .i64 (((j + 1 : Nat) : Int))) e44
                have g35 := Reg.ev (v := .bool true) e35
                refine Reg.obl_want rfl rfl e35 ?_
                exact Reg.wp_eqv (Option.some_ne_none _) (by go_simp; exact IntWalk.i64_in _ (by omega)) rfl
              · intro ax wx hx hs
                obtain ⟨e43, e45, e35, -⟩ := hs
                have g43 := Reg.ev (v := .slice (some ⟨b, o, none⟩) n c) e43
                have g45 := Reg.ev (v := .int .i64 (j : Int)) e45
                have g35 := Reg.ev (v := .bool true) e35
                refine Reg.obl_want rfl rfl e35 ?_
                exact Reg.wp_eqv (Option.some_ne_none _) (by go_simp; first | done | (intro hq; omega)) rfl
              · intro ax wx hx hs
                obtain ⟨e46, e35, -⟩ := hs
                have g46 := Reg.ev (v := .pointer (some ⟨b, o + j * 2, none⟩)) e46
                have g35 := Reg.ev (v := .bool true) e35
                exact Reg.obl_want rfl rfl e35 (Reg.wp_eqv (Option.some_ne_none _) (by go_simp) rfl)
              · intro ax wx hx hs
                obtain ⟨e47, e35, -⟩ := hs
                have g47 := Reg.ev (v := .pointer (some ⟨b, o + j * 2, none⟩)) e47
                have g35 := Reg.ev (v := .bool true) e35
                have hx' : Below wr.heap.size wr wx := hx
                have l0 := str3 (HS.out.next hx')
                have l1 := (hx'.cell (p := ⟨b, o + (j + 1) * 2, none⟩) hbw).trans HQ.out.1
                have l2 := (hx'.cell (p := ⟨b, o + (j + 1) * 2 + 1, none⟩) hbw).trans HQ.out.2
                have l3 := (hx'.cell (p := ⟨b, o + j * 2, none⟩) hbw).trans HQ2.out.1
                have l4 := (hx'.cell (p := ⟨b, o + j * 2 + 1, none⟩) hbw).trans HQ2.out.2
                exact Reg.obl_want rfl rfl e35 (Reg.wp_eqv (Option.some_ne_none _) (by go_simp) rfl)
              · intro ax wx hx hs
                obtain ⟨e1, e35, -⟩ := hs
                have g1 := Reg.ev (v := .pointer (some ⟨w.heap.size, 0, none⟩)) e1
                have g35 := Reg.ev (v := .bool true) e35
                exact Reg.obl_want rfl rfl e35 (Reg.wp_eqv (Option.some_ne_none _) (by go_simp) rfl)
              · intro ax wx hx hs
                obtain ⟨e49, e35, -⟩ := hs
                have g49 := Reg.ev (v := .pointer (some ⟨w.heap.size, 2, none⟩)) e49
                have g35 := Reg.ev (v := .bool true) e35
                have hx' : Below wr.heap.size wr wx := hx
                have l0 := str3 (HS.out.next hx')
                have l1 := (hx'.cell (p := ⟨b, o + (j + 1) * 2, none⟩) hbw).trans HQ.out.1
                have l2 := (hx'.cell (p := ⟨b, o + (j + 1) * 2 + 1, none⟩) hbw).trans HQ.out.2
                have l3 := (hx'.cell (p := ⟨b, o + j * 2, none⟩) hbw).trans HQ2.out.1
                have l4 := (hx'.cell (p := ⟨b, o + j * 2 + 1, none⟩) hbw).trans HQ2.out.2
                exact Reg.obl_want rfl rfl e35 (Reg.wp_eqv (Option.some_ne_none _) (by go_simp) rfl)
              · intro ax wx hx hs
                obtain ⟨e3, e35, -⟩ := hs
                have g3 := Reg.ev (v := .int .i64 (((j + 1 : Nat) : Int))) e3
                have g35 := Reg.ev (v := .bool true) e35
                exact Reg.obl_want rfl rfl e35 (Reg.wp_eqv (Option.some_ne_none _) (by go_simp) rfl)
              · intro ax wx hx hs
                obtain ⟨e51, e35, -⟩ := hs
                have g51 := Reg.ev (v := .int .i64 (((j + 1 : Nat) : Int))) e51
                have g35 := Reg.ev (v := .bool true) e35
                refine Reg.obl_want rfl rfl e35 ?_
                exact Reg.wp_eqv (Option.some_ne_none _) (by go_simp; exact IntWalk.i64_in _ (by omega)) rfl
              · intro ax wx hx hs
                obtain ⟨e50, e52, e35, -⟩ := hs
                have g50 := Reg.ev (v := .slice (some ⟨b, o, none⟩) n c) e50
                have g52 := Reg.ev (v := .int .i64 (j : Int)) e52
                have g35 := Reg.ev (v := .bool true) e35
                refine Reg.obl_want rfl rfl e35 ?_
                exact Reg.wp_eqv (Option.some_ne_none _) (by go_simp; first | done | (intro hq; omega)) rfl
              · intro ax wx hx hs
                obtain ⟨e53, e35, -⟩ := hs
                have g53 := Reg.ev (v := .pointer (some ⟨b, o + j * 2, none⟩)) e53
                have g35 := Reg.ev (v := .bool true) e35
                exact Reg.obl_want rfl rfl e35 (Reg.wp_eqv (Option.some_ne_none _) (by go_simp) rfl)
              · intro ax wx hx hs
                obtain ⟨e54, e35, -⟩ := hs
                have g54 := Reg.ev (v := .pointer (some ⟨b, o + j * 2 + 1, none⟩)) e54
                have g35 := Reg.ev (v := .bool true) e35
                have hx' : Below wr.heap.size wr wx := hx
                have l0 := str3 (HS.out.next hx')
                have l1 := (hx'.cell (p := ⟨b, o + (j + 1) * 2, none⟩) hbw).trans HQ.out.1
                have l2 := (hx'.cell (p := ⟨b, o + (j + 1) * 2 + 1, none⟩) hbw).trans HQ.out.2
                have l3 := (hx'.cell (p := ⟨b, o + j * 2, none⟩) hbw).trans HQ2.out.1
                have l4 := (hx'.cell (p := ⟨b, o + j * 2 + 1, none⟩) hbw).trans HQ2.out.2
                exact Reg.obl_want rfl rfl e35 (Reg.wp_eqv (Option.some_ne_none _) (by go_simp) rfl)
              · intro ax wx hx hs
                obtain ⟨e55, e35, -⟩ := hs
                have g55 := Reg.ev (v := .slice A3 n3 c3) e55
                have g35 := Reg.ev (v := .bool true) e35
                exact Reg.obl_want rfl rfl e35 (Reg.wp_eqv (Option.some_ne_none _) (by go_simp) rfl)
              · intro ax wx hx hs
                obtain ⟨e48, e56, e35, -⟩ := hs
                have g48 := Reg.ev (v := .int .i64 sp) e48
                have g56 := Reg.ev (v := .int .i64 (n3 : Int)) e56
                have g35 := Reg.ev (v := .bool true) e35
                refine Reg.obl_want rfl rfl e35 ?_
                exact Reg.wp_eqv (Option.some_ne_none _) (by go_simp; exact IntWalk.i64_in _ (by omega)) rfl
              · intro ax wx hx hs
                obtain ⟨e41, e57, e35, -⟩ := hs
                have g41 := Reg.ev (v := .int .i64 rp) e41
                have g57 := Reg.ev (v := .int .i64 (sp + (n3 : Int))) e57
                have g35 := Reg.ev (v := .bool true) e35
                exact Reg.obl_want rfl rfl e35 (Reg.wp_eqv (Option.some_ne_none _) (by go_simp) rfl)
              · intro ax wx hx hs
                obtain ⟨e35, e58, e32, -⟩ := hs
                have g35 := Reg.ev (v := .bool true) e35
                have g58 := Reg.ev (v := .bool true) e58
                have g32 := Reg.ev (v := .bool false) e32
                exact Reg.obl_want rfl rfl e32 (Reg.wp_eqv (Option.some_ne_none _) (by go_simp) rfl)
              · intro ax wx hx hs
                obtain ⟨e32, e59, -⟩ := hs
                have g32 := Reg.ev (v := .bool false) e32
                have g59 := Reg.ev (v := .bool true) e59
                exact Reg.obl_free rfl (Reg.wp_eqv (Option.some_ne_none _) (by go_simp) rfl)
            · intro W2 hwf
              simp only [Reg.Fin]
              rintro _ rfl _ rfl _ rfl _ rfl _ rfl _ rfl _ rfl _ rfl _ rfl _ rfl _ rfl _ rfl _ rfl _ rfl _ rfl _ rfl _ rfl _ rfl _ rfl _ rfl _ rfl _ rfl _ rfl _ rfl _ rfl _ rfl _ rfl _ rfl _ rfl _ rfl _ rfl _ rfl _ rfl _ rfl _ rfl _ rfl
              go_simp
              have hwf' : Below wr.heap.size wr W2 := hwf
              have HB2 := Lib.hid (bstep HB.out hwf')
              have HS2 := Lib.hid (HS.out.next hwf')
              clear hwf hwf' g0 hl0
              go_wp2
              go_ret
              exact ⟨by rw [HRR.out]; rfl, HB2.out⟩
      · have HWI := Lib.hid (PatchP.within_no _ hW)
        have HRR := Lib.hid (HBAD.out k _ HR.out (fun h => hW h.1))
        clear hW hst hd
        go_wp2_with fail
        refine Reg.wp_region_vals (R := ext) (W := wr) [Reg.eqv (.pointer (some ⟨w.heap.size, 2, none⟩)), Reg.eqv (.slice (some ⟨b, o, none⟩) n c), Reg.eqv (.int .i64 ((k : Int))), Reg.eqv (.pointer (some ⟨b, o + k * 2, none⟩)), Reg.eqv (.agg #[.int .i64 rp, .slice A2 n2 c2]), Reg.eqv (.bool false), Reg.eqv (.bool true), Reg.eqv (.bool true), Reg.eqv undef, Reg.eqv undef, Reg.eqv undef, Reg.eqv undef, Reg.eqv undef, Reg.eqv undef, Reg.eqv undef, Reg.eqv undef, Reg.eqv undef, Reg.eqv undef, Reg.eqv undef, Reg.eqv undef, Reg.eqv undef, Reg.eqv undef, Reg.eqv undef, Reg.eqv undef, Reg.eqv undef, Reg.eqv undef, Reg.eqv undef, Reg.eqv undef, Reg.eqv undef, Reg.eqv undef, Reg.eqv undef, Reg.eqv undef, Reg.eqv undef, Reg.eqv undef, Reg.eqv undef, Reg.eqv (.bool true)] 61 [[(1, none)], [(25, some 0)], [(3, none)], [(26, some 1), (27, some 2)], [(28, some 3)], [(29, some 4)], [(30, some 5)], [(31, some 6)], [(3, none), (32, some 7)], [(33, some 8), (32, some 7)], [(34, some 9), (32, some 7)], [(1, none), (35, some 10)], [(36, some 11), (35, some 10)], [(3, none), (35, some 10)], [(37, some 12), (38, some 13), (35, some 10)], [(39, some 14), (35, some 10)], [(40, some 15), (35, some 10)], [(1, none), (35, some 10)], [(42, some 17), (35, some 10)], [(3, none), (35, some 10)], [(44, some 19), (35, some 10)], [(43, some 18), (45, some 20), (35, some 10)], [(46, some 21), (35, some 10)], [(47, some 22), (35, some 10)], [(1, none), (35, some 10)], [(49, some 24), (35, some 10)], [(3, none), (35, some 10)], [(51, some 26), (35, some 10)], [(50, some 25), (52, some 27), (35, some 10)], [(53, some 28), (35, some 10)], [(54, some 29), (35, some 10)], [(55, some 30), (35, some 10)], [(48, some 23), (56, some 31), (35, some 10)], [(41, some 16), (57, some 32), (35, some 10)], [(35, some 10), (58, some 33), (32, some 7)], [(32, some 7), (59, some 34)]] rfl (by kernel_rfl) (by kernel_rfl) (by kernel_rfl) ?_ [some 25, some 26, some 27, some 28, some 29, some 30, some 31, some 32, some 33, some 34, some 35, some 36, some 37, some 38, some 39, some 40, some 41, some 42, some 43, some 44, some 45, some 46, some 47, some 48, some 49, some 50, some 51, some 52, some 53, some 54, some 55, some 56, some 57, some 58, some 59, some 60] (by kernel_rfl) ?_
        · refine ⟨?_, ?_, ?_, ?_, ?_, ?_, ?_, ?_, ?_, ?_, ?_, ?_, ?_, ?_, ?_, ?_, ?_, ?_, ?_, ?_, ?_, ?_, ?_, ?_, ?_, ?_, ?_, ?_, ?_, ?_, ?_, ?_, ?_, ?_, ?_, ?_, trivial⟩
          · intro ax wx hx hs
            obtain ⟨e1, -⟩ := hs
            have g1 := Reg.ev (v := .pointer (some ⟨w.heap.size, 0, none⟩)) e1
            exact Reg.obl_free rfl (Reg.wp_eqv (Option.some_ne_none _) (by go_simp) rfl)
          · intro ax wx hx hs
            obtain ⟨e25, -⟩ := hs
            have g25 := Reg.ev (v := .pointer (some ⟨w.heap.size, 2, none⟩)) e25
            have hx' : Below wr.heap.size wr wx := hx
            have l0 := str3 (HS.out.next hx')
            have l1 := (hx'.cell (p := ⟨b, o + k * 2, none⟩) hbw).trans HQ.out.1
            have l2 := (hx'.cell (p := ⟨b, o + k * 2 + 1, none⟩) hbw).trans HQ.out.2
            exact Reg.obl_free rfl (Reg.wp_eqv (Option.some_ne_none _) (by go_simp) rfl)
          · intro ax wx hx hs
            obtain ⟨e3, -⟩ := hs
            have g3 := Reg.ev (v := .int .i64 ((k : Int))) e3
            exact Reg.obl_free rfl (Reg.wp_eqv (Option.some_ne_none _) (by go_simp) rfl)
          · intro ax wx hx hs
            obtain ⟨e26, e27, -⟩ := hs
            have g26 := Reg.ev (v := .slice (some ⟨b, o, none⟩) n c) e26
            have g27 := Reg.ev (v := .int .i64 ((k : Int))) e27
            refine Reg.obl_free rfl ?_
            exact Reg.wp_eqv (Option.some_ne_none _) (by go_simp; first | done | (intro hq; omega)) rfl
          · intro ax wx hx hs
            obtain ⟨e28, -⟩ := hs
            have g28 := Reg.ev (v := .pointer (some ⟨b, o + k * 2, none⟩)) e28
            have hx' : Below wr.heap.size wr wx := hx
            have l0 := str3 (HS.out.next hx')
            have l1 := (hx'.cell (p := ⟨b, o + k * 2, none⟩) hbw).trans HQ.out.1
            have l2 := (hx'.cell (p := ⟨b, o + k * 2 + 1, none⟩) hbw).trans HQ.out.2
            exact Reg.obl_free rfl (Reg.wp_eqv (Option.some_ne_none _) (by go_simp) rfl)
          · intro ax wx hx hs
            obtain ⟨e29, -⟩ := hs
            have g29 := Reg.ev (v := .agg #[.int .i64 rp, .slice A2 n2 c2]) e29
            refine Reg.obl_free rfl ?_
            have hx' : Below wr.heap.size wr wx := hx
            go_simp
            refine (within_any ⟨rp, rd⟩ A2 n2 c2 hyl hym hir wx).mono ?_
            rintro e wy ⟨rfl, hby⟩
            rw [HWI.out]
            exact Reg.done (Option.some_ne_none _) rfl hby
          · intro ax wx hx hs
            obtain ⟨e30, -⟩ := hs
            have g30 := Reg.ev (v := .bool false) e30
            exact Reg.obl_free rfl (Reg.wp_eqv (Option.some_ne_none _) (by go_simp) rfl)
          · intro ax wx hx hs
            obtain ⟨e31, -⟩ := hs
            have g31 := Reg.ev (v := .bool true) e31
            exact Reg.obl_free rfl (Reg.wp_eqv (Option.some_ne_none _) (by go_simp) rfl)
          · intro ax wx hx hs
            obtain ⟨e3, e32, -⟩ := hs
            have g3 := Reg.ev (v := .int .i64 ((k : Int))) e3
            have g32 := Reg.ev (v := .bool true) e32
            exact Reg.obl_skip rfl rfl e32 rfl rfl
          · intro ax wx hx hs
            obtain ⟨e33, e32, -⟩ := hs
            have g33 := Reg.ev (v := undef) e33
            have g32 := Reg.ev (v := .bool true) e32
            exact Reg.obl_skip rfl rfl e32 rfl rfl
          · intro ax wx hx hs
            obtain ⟨e34, e32, -⟩ := hs
            have g34 := Reg.ev (v := undef) e34
            have g32 := Reg.ev (v := .bool true) e32
            exact Reg.obl_skip rfl rfl e32 rfl rfl
          · intro ax wx hx hs
            obtain ⟨e1, e35, -⟩ := hs
            have g1 := Reg.ev (v := .pointer (some ⟨w.heap.size, 0, none⟩)) e1
            have g35 := Reg.ev (v := undef) e35
            exact Reg.obl_skipU rfl rfl e35 rfl
          · intro ax wx hx hs
            obtain ⟨e36, e35, -⟩ := hs
            have g36 := Reg.ev (v := undef) e36
            have g35 := Reg.ev (v := undef) e35
            exact Reg.obl_skipU rfl rfl e35 rfl
          · intro ax wx hx hs
            obtain ⟨e3, e35, -⟩ := hs
            have g3 := Reg.ev (v := .int .i64 ((k : Int))) e3
            have g35 := Reg.ev (v := undef) e35
            exact Reg.obl_skipU rfl rfl e35 rfl
          · intro ax wx hx hs
            obtain ⟨e37, e38, e35, -⟩ := hs
            have g37 := Reg.ev (v := undef) e37
            have g38 := Reg.ev (v := undef) e38
            have g35 := Reg.ev (v := undef) e35
            exact Reg.obl_skipU rfl rfl e35 rfl
          · intro ax wx hx hs
            obtain ⟨e39, e35, -⟩ := hs
            have g39 := Reg.ev (v := undef) e39
            have g35 := Reg.ev (v := undef) e35
            exact Reg.obl_skipU rfl rfl e35 rfl
          · intro ax wx hx hs
            obtain ⟨e40, e35, -⟩ := hs
            have g40 := Reg.ev (v := undef) e40
            have g35 := Reg.ev (v := undef) e35
            exact Reg.obl_skipU rfl rfl e35 rfl
          · intro ax wx hx hs
            obtain ⟨e1, e35, -⟩ := hs
            have g1 := Reg.ev (v := .pointer (some ⟨w.heap.size, 0, none⟩)) e1
            have g35 := Reg.ev (v := undef) e35
            exact Reg.obl_skipU rfl rfl e35 rfl
          · intro ax wx hx hs
            obtain ⟨e42, e35, -⟩ := hs
            have g42 := Reg.ev (v := undef) e42
            have g35 := Reg.ev (v := undef) e35
            exact Reg.obl_skipU rfl rfl e35 rfl
          · intro ax wx hx hs
            obtain ⟨e3, e35, -⟩ := hs
            have g3 := Reg.ev (v := .int .i64 ((k : Int))) e3
            have g35 := Reg.ev (v := undef) e35
            exact Reg.obl_skipU rfl rfl e35 rfl
          · intro ax wx hx hs
            obtain ⟨e44, e35, -⟩ := hs
            have g44 := Reg.ev (v := undef) e44
            have g35 := Reg.ev (v := undef) e35
            exact Reg.obl_skipU rfl rfl e35 rfl
          · intro ax wx hx hs
            obtain ⟨e43, e45, e35, -⟩ := hs
            have g43 := Reg.ev (v := undef) e43
            have g45 := Reg.ev (v := undef) e45
            have g35 := Reg.ev (v := undef) e35
            exact Reg.obl_skipU rfl rfl e35 rfl
          · intro ax wx hx hs
            obtain ⟨e46, e35, -⟩ := hs
            have g46 := Reg.ev (v := undef) e46
            have g35 := Reg.ev (v := undef) e35
            exact Reg.obl_skipU rfl rfl e35 rfl
          · intro ax wx hx hs
            obtain ⟨e47, e35, -⟩ := hs
            have g47 := Reg.ev (v := undef) e47
            have g35 := Reg.ev (v := undef) e35
            exact Reg.obl_skipU rfl rfl e35 rfl
          · intro ax wx hx hs
            obtain ⟨e1, e35, -⟩ := hs
            have g1 := Reg.ev (v := .pointer (some ⟨w.heap.size, 0, none⟩)) e1
            have g35 := Reg.ev (v := undef) e35
            exact Reg.obl_skipU rfl rfl e35 rfl
          · intro ax wx hx hs
            obtain ⟨e49, e35, -⟩ := hs
            have g49 := Reg.ev (v := undef) e49
            have g35 := Reg.ev (v := undef) e35
            exact Reg.obl_skipU rfl rfl e35 rfl
          · intro ax wx hx hs
            obtain ⟨e3, e35, -⟩ := hs
            have g3 := Reg.ev (v := .int .i64 ((k : Int))) e3
            have g35 := Reg.ev (v := undef) e35
            exact Reg.obl_skipU rfl rfl e35 rfl
          · intro ax wx hx hs
            obtain ⟨e51, e35, -⟩ := hs
            have g51 := Reg.ev (v := undef) e51
            have g35 := Reg.ev (v := undef) e35
            exact Reg.obl_skipU rfl rfl e35 rfl
          · intro ax wx hx hs
            obtain ⟨e50, e52, e35, -⟩ := hs
            have g50 := Reg.ev (v := undef) e50
            have g52 := Reg.ev (v := undef) e52
            have g35 := Reg.ev (v := undef) e35
            exact Reg.obl_skipU rfl rfl e35 rfl
          · intro ax wx hx hs
            obtain ⟨e53, e35, -⟩ := hs
            have g53 := Reg.ev (v := undef) e53
            have g35 := Reg.ev (v := undef) e35
            exact Reg.obl_skipU rfl rfl e35 rfl
          · intro ax wx hx hs
            obtain ⟨e54, e35, -⟩ := hs
            have g54 := Reg.ev (v := undef) e54
            have g35 := Reg.ev (v := undef) e35
            exact Reg.obl_skipU rfl rfl e35 rfl
          · intro ax wx hx hs
            obtain ⟨e55, e35, -⟩ := hs
            have g55 := Reg.ev (v := undef) e55
            have g35 := Reg.ev (v := undef) e35
            exact Reg.obl_skipU rfl rfl e35 rfl
          · intro ax wx hx hs
            obtain ⟨e48, e56, e35, -⟩ := hs
            have g48 := Reg.ev (v := undef) e48
            have g56 := Reg.ev (v := undef) e56
            have g35 := Reg.ev (v := undef) e35
            exact Reg.obl_skipU rfl rfl e35 rfl
          · intro ax wx hx hs
            obtain ⟨e41, e57, e35, -⟩ := hs
            have g41 := Reg.ev (v := undef) e41
            have g57 := Reg.ev (v := undef) e57
            have g35 := Reg.ev (v := undef) e35
            exact Reg.obl_skipU rfl rfl e35 rfl
          · intro ax wx hx hs
            obtain ⟨e35, e58, e32, -⟩ := hs
            have g35 := Reg.ev (v := undef) e35
            have g58 := Reg.ev (v := undef) e58
            have g32 := Reg.ev (v := .bool true) e32
            exact Reg.obl_skip rfl rfl e32 rfl rfl
          · intro ax wx hx hs
            obtain ⟨e32, e59, -⟩ := hs
            have g32 := Reg.ev (v := .bool true) e32
            have g59 := Reg.ev (v := undef) e59
            exact Reg.obl_free rfl (Reg.wp_eqv (Option.some_ne_none _) (by go_simp) rfl)
        · intro W2 hwf
          simp only [Reg.Fin]
          rintro _ rfl _ rfl _ rfl _ rfl _ rfl _ rfl _ rfl _ rfl _ rfl _ rfl _ rfl _ rfl _ rfl _ rfl _ rfl _ rfl _ rfl _ rfl _ rfl _ rfl _ rfl _ rfl _ rfl _ rfl _ rfl _ rfl _ rfl _ rfl _ rfl _ rfl _ rfl _ rfl _ rfl _ rfl _ rfl _ rfl
          go_simp
          have hwf' : Below wr.heap.size wr W2 := hwf
          have HB2 := Lib.hid (bstep HB.out hwf')
          have HS2 := Lib.hid (HS.out.next hwf')
          clear hwf hwf' g0 hl0
          go_wp2
          go_ret
          exact ⟨by rw [HRR.out]; rfl, HB2.out⟩
    · have hd : decide ((k : Int) < (n : Int)) = false := by simp; omega
      have hkn : k = n := by omega
      subst hkn
      have HRR := Lib.hid (HGOOD.out HK.out)
      go_wp2
      go_ret
      exact ⟨by rw [HRR.out]; rfl, HB.out⟩
end Go.Proofs.YtpklclnehlgcpaaGreat.RefPatch
end
