/-
  Parts of the proof of WalStays.
-/
import Derived.Test.YtpdfnlhhnodnjaaGreatWsG4
section
namespace Go.Proofs.YtpdfnlhhnodnjaaGreat.PatchP
theorem sameRuns_len {l m : List RunX} (h : l.length ≠ m.length) : sameRuns l m = false := by
  unfold sameRuns
  simp only [decide_eq_false_iff_not]
  intro e; exact h (by rw [e])
theorem sameRuns_at {l m : List RunX} {k : Nat} {r q : RunX} (hr : l[k]? = some r) (hq : m[k]? = some q) (h : ¬ (r.at_ = q.at_ ∧ r.data = q.data)) : sameRuns l m = false := by
  unfold sameRuns
  simp only [decide_eq_false_iff_not]
  intro e
  rw [e, hq] at hr
  cases hr
  exact h ⟨rfl, rfl⟩
theorem sameRuns_all {l m : List RunX} {k : Nat} (h : l.take k = m.take k) (h1 : l.length = k) (h2 : m.length = k) : sameRuns l m = true := by
  unfold sameRuns
  simp only [decide_eq_true_eq]
  rwa [List.take_of_length_le (by omega), List.take_of_length_le (by omega)] at h
theorem take_same {l m : List RunX} {k : Nat} {r q : RunX} (h : l.take k = m.take k) (hr : l[k]? = some r) (hq : m[k]? = some q) (h1 : r.at_ = q.at_) (h2 : r.data = q.data) : l.take (k + 1) = m.take (k + 1) := by
  obtain ⟨i1, e1⟩ := List.getElem?_eq_some_iff.1 hr
  obtain ⟨i2, e2⟩ := List.getElem?_eq_some_iff.1 hq
  rw [List.take_succ_eq_append_getElem i1, List.take_succ_eq_append_getElem i2, h, e1, e2]
  obtain ⟨ra, rd⟩ := r
  obtain ⟨qa, qd⟩ := q
  cases h1; cases h2; rfl
theorem same_eq (x y : PatchX) : same x y = ((x.page == y.page) && ((x.fresh == y.fresh) && sameRuns x.runs y.runs)) := by
  unfold same sameRuns
  rw [Bool.eq_iff_iff]
  simp only [decide_eq_true_eq, Bool.and_eq_true, beq_iff_eq]
  constructor
  · intro e; subst e; exact ⟨rfl, rfl, rfl⟩
  · obtain ⟨a, b, c⟩ := x
    obtain ⟨d, e, f⟩ := y
    rintro ⟨h1, h2, h3⟩
    cases h1; cases h2; cases h3; rfl
/-- no more than is asked -/
def Asked (l : List RunX) : Prop := l.length ≤ 60 ∧ ∀ r ∈ l, r.data.length ≤ 600
end Go.Proofs.YtpdfnlhhnodnjaaGreat.PatchP
namespace Go.Proofs.YtpdfnlhhnodnjaaGreat.RefPatch
open Go.RowKit
set_option linter.unusedVariables false
set_option linter.unusedSimpArgs false
set_option maxRecDepth 100000 in
set_option maxHeartbeats 4000000 in
theorem sameRuns_any (A A' : Option Addr) (n c n' c' B B' : Nat) (l m : List RunX) (w : World) (hE : Elems RunE w B A n c l) (hB : B ≤ w.heap.size) (hE2 : Elems RunE w B' A' n' c' m) (hB2 : B' ≤ w.heap.size) :
    Calls Tryz.prog 53 #[.slice A n c, .slice A' n' c'] w fun e w' => e = .returned (.bool (PatchP.sameRuns l m)) ∧ Below w.heap.size w w' := by
  have HE := Lib.hid hE
  have HE2 := Lib.hid hE2
  have hlen := hE.len
  have hlen2 := hE2.len
  have hcap := hE.cap
  have hcm := hcap.2
  have hcap2 := hE2.cap
  have hcm2 := hcap2.2
  unfold maxLen at hcm hcm2
  clear hE hE2
  by_cases hn : n = n'
  rotate_left
  · have HR := Lib.hid (PatchP.sameRuns_len (l := l) (m := m) (by rw [hlen, hlen2]; exact hn))
    have hd : ((n : Int) != (n' : Int)) = true := by simp; omega
    clear hn
    go_enter Tryz.func53, Tryz.ntmps53
    go_wp2
    go_ret
    exact ⟨by rw [HR.out]; rfl, bsame w⟩
  subst hn
  have hd0 : ((n : Int) != (n : Int)) = false := by simp
  go_enter Tryz.func53, Tryz.ntmps53
  go_wp2
  go_loopw [5] (fun iv wr => ∃ k : Nat, k ≤ n ∧ iv = .int .i64 (k : Int) ∧ Hid (l.take k = m.take k) ∧ Hid (Below w.heap.size w wr)) (fun iv _ => n - (intOf iv).toNat)
  case atStart => exact ⟨0, Nat.zero_le _, rfl, Lib.hid (by simp), Lib.hid (bsame w)⟩
  case round =>
    obtain ⟨k, hk, rfl, HK, HB⟩ := hrel
    have hwr := HB.out.size
    by_cases hlt : k < n
    · have hd : decide ((k : Int) < (n : Int)) = true := by simp; omega
      obtain ⟨b, o, r, A2, n2, c2, rfl, hb, hr, hy, hir, q0, q1⟩ := run_at HE.out hlt
      obtain ⟨b', o', q, A3, n3, c3, rfl, hb', hq, hy', hiq, q2, q3⟩ := run_at HE2.out hlt
      replace q0 := (HB.out.cell (p := ⟨b, o + k * 2, none⟩) (by show b < _; omega)).trans q0
      replace q1 := (HB.out.cell (p := ⟨b, o + k * 2 + 1, none⟩) (by show b < _; omega)).trans q1
      replace q2 := (HB.out.cell (p := ⟨b', o' + k * 2, none⟩) (by show b' < _; omega)).trans q2
      replace q3 := (HB.out.cell (p := ⟨b', o' + k * 2 + 1, none⟩) (by show b' < _; omega)).trans q3
      have HQ := Lib.hid (And.intro (And.intro q0 q1) (And.intro q2 q3))
      have HY := Lib.hid ((hy.below (HB.out.mono hB)).more (Nat.le_trans hB hwr))
      have HY2 := Lib.hid ((hy'.below (HB.out.mono hB2)).more (Nat.le_trans hB2 hwr))
      have hbw : b < wr.heap.size := by omega
      have hbw' : b' < wr.heap.size := by omega
      have hrq := And.intro hr hq
      have HRQ := Lib.hid hrq
      obtain ⟨rp, rd⟩ := r
      obtain ⟨sp, sd⟩ := q
      dsimp only at *
      clear q0 q1 q2 q3 hy hy' hr hq hrq hd
      by_cases ha : rp = sp
      · have hda : (rp != sp) = false := by simpa using ha
        by_cases he : rd = sd
        · have HK2 : Hid (l.take (k + 1) = m.take (k + 1)) := Lib.hid (PatchP.take_same HK.out HRQ.out.1 HRQ.out.2 ha he)
          have HEQ : Hid ((rd == sd) = true) := Lib.hid (by simpa using he)
          clear ha he
          go_wp2_with fail
          refine Reg.wp_region_vals (R := ext) (W := wr) [Reg.eqv (.slice (some ⟨b, o, none⟩) n c), Reg.eqv (.int .i64 (k : Int)), Reg.eqv (.pointer (some ⟨b, o + k * 2, none⟩)), Reg.eqv (.pointer (some ⟨b, o + k * 2, none⟩)), Reg.eqv (.int .i64 rp), Reg.eqv (.slice (some ⟨b', o', none⟩) n c'), Reg.eqv (.int .i64 (k : Int)), Reg.eqv (.pointer (some ⟨b', o' + k * 2, none⟩)), Reg.eqv (.pointer (some ⟨b', o' + k * 2, none⟩)), Reg.eqv (.int .i64 sp), Reg.eqv (.bool false), Reg.eqv (.bool false), Reg.eqv (.slice (some ⟨b, o, none⟩) n c), Reg.eqv (.int .i64 (k : Int)), Reg.eqv (.pointer (some ⟨b, o + k * 2, none⟩)), Reg.eqv (.pointer (some ⟨b, o + k * 2 + 1, none⟩)), Reg.eqv (.slice A2 n2 c2), Reg.eqv (.slice (some ⟨b', o', none⟩) n c'), Reg.eqv (.int .i64 (k : Int)), Reg.eqv (.pointer (some ⟨b', o' + k * 2, none⟩)), Reg.eqv (.pointer (some ⟨b', o' + k * 2 + 1, none⟩)), Reg.eqv (.slice A3 n3 c3), Reg.eqv (.bool true), Reg.eqv (.bool false), Reg.eqv (.bool false)] 42 [[(0, none)], [(5, none)], [(17, some 0), (18, some 1)], [(19, some 2)], [(20, some 3)], [(1, none)], [(5, none)], [(22, some 5), (23, some 6)], [(24, some 7)], [(25, some 8)], [(21, some 4), (26, some 9)], [(27, some 10)], [(0, none), (28, some 11)], [(5, none), (28, some 11)], [(29, some 12), (30, some 13), (28, some 11)], [(31, some 14), (28, some 11)], [(32, some 15), (28, some 11)], [(1, none), (28, some 11)], [(5, none), (28, some 11)], [(34, some 17), (35, some 18), (28, some 11)], [(36, some 19), (28, some 11)], [(37, some 20), (28, some 11)], [(33, some 16), (38, some 21), (28, some 11)], [(39, some 22), (28, some 11)], [(28, some 11), (40, some 23)]] rfl (by kernel_rfl) (by kernel_rfl) (by kernel_rfl) ?_ [some 17, some 18, some 19, some 20, some 21, some 22, some 23, some 24, some 25, some 26, some 27, some 28, some 29, some 30, some 31, some 32, some 33, some 34, some 35, some 36, some 37, some 38, some 39, some 40, some 41] (by kernel_rfl) ?_
          · refine ⟨?_, ?_, ?_, ?_, ?_, ?_, ?_, ?_, ?_, ?_, ?_, ?_, ?_, ?_, ?_, ?_, ?_, ?_, ?_, ?_, ?_, ?_, ?_, ?_, ?_, trivial⟩
            · intro ax wx hx hs
              obtain ⟨e0, -⟩ := hs
              have g0 := Reg.ev (v := .slice (some ⟨b, o, none⟩) n c) e0
              exact Reg.obl_free rfl (Reg.wp_eqv (Option.some_ne_none _) (by go_simp) rfl)
            · intro ax wx hx hs
              obtain ⟨e5, -⟩ := hs
              have g5 := Reg.ev (v := .int .i64 (k : Int)) e5
              exact Reg.obl_free rfl (Reg.wp_eqv (Option.some_ne_none _) (by go_simp) rfl)
            · intro ax wx hx hs
              obtain ⟨e17, e18, -⟩ := hs
              have g17 := Reg.ev (v := .slice (some ⟨b, o, none⟩) n c) e17
              have g18 := Reg.ev (v := .int .i64 (k : Int)) e18
              refine Reg.obl_free rfl ?_
              exact Reg.wp_eqv (Option.some_ne_none _) (by go_simp; first | done | (intro hq; omega)) rfl
            · intro ax wx hx hs
              obtain ⟨e19, -⟩ := hs
              have g19 := Reg.ev (v := .pointer (some ⟨b, o + k * 2, none⟩)) e19
              exact Reg.obl_free rfl (Reg.wp_eqv (Option.some_ne_none _) (by go_simp) rfl)
            · intro ax wx hx hs
              obtain ⟨e20, -⟩ := hs
              have g20 := Reg.ev (v := .pointer (some ⟨b, o + k * 2, none⟩)) e20
              have hx' : Below wr.heap.size wr wx := hx
              have l1 := (hx'.cell (p := ⟨b, o + k * 2, none⟩) hbw).trans HQ.out.1.1
              have l2 := (hx'.cell (p := ⟨b, o + k * 2 + 1, none⟩) hbw).trans HQ.out.1.2
              have l3 := (hx'.cell (p := ⟨b', o' + k * 2, none⟩) hbw').trans HQ.out.2.1
              have l4 := (hx'.cell (p := ⟨b', o' + k * 2 + 1, none⟩) hbw').trans HQ.out.2.2
              exact Reg.obl_free rfl (Reg.wp_eqv (Option.some_ne_none _) (by go_simp) rfl)
            · intro ax wx hx hs
              obtain ⟨e1, -⟩ := hs
              have g1 := Reg.ev (v := .slice (some ⟨b', o', none⟩) n c') e1
              exact Reg.obl_free rfl (Reg.wp_eqv (Option.some_ne_none _) (by go_simp) rfl)
            · intro ax wx hx hs
              obtain ⟨e5, -⟩ := hs
              have g5 := Reg.ev (v := .int .i64 (k : Int)) e5
              exact Reg.obl_free rfl (Reg.wp_eqv (Option.some_ne_none _) (by go_simp) rfl)
            · intro ax wx hx hs
              obtain ⟨e22, e23, -⟩ := hs
              have g22 := Reg.ev (v := .slice (some ⟨b', o', none⟩) n c') e22
              have g23 := Reg.ev (v := .int .i64 (k : Int)) e23
              refine Reg.obl_free rfl ?_
              exact Reg.wp_eqv (Option.some_ne_none _) (by go_simp; first | done | (intro hq; omega)) rfl
            · intro ax wx hx hs
              obtain ⟨e24, -⟩ := hs
              have g24 := Reg.ev (v := .pointer (some ⟨b', o' + k * 2, none⟩)) e24
              exact Reg.obl_free rfl (Reg.wp_eqv (Option.some_ne_none _) (by go_simp) rfl)
            · intro ax wx hx hs
              obtain ⟨e25, -⟩ := hs
              have g25 := Reg.ev (v := .pointer (some ⟨b', o' + k * 2, none⟩)) e25
              have hx' : Below wr.heap.size wr wx := hx
              have l1 := (hx'.cell (p := ⟨b, o + k * 2, none⟩) hbw).trans HQ.out.1.1
              have l2 := (hx'.cell (p := ⟨b, o + k * 2 + 1, none⟩) hbw).trans HQ.out.1.2
              have l3 := (hx'.cell (p := ⟨b', o' + k * 2, none⟩) hbw').trans HQ.out.2.1
              have l4 := (hx'.cell (p := ⟨b', o' + k * 2 + 1, none⟩) hbw').trans HQ.out.2.2
              exact Reg.obl_free rfl (Reg.wp_eqv (Option.some_ne_none _) (by go_simp) rfl)
            · intro ax wx hx hs
              obtain ⟨e21, e26, -⟩ := hs
              have g21 := Reg.ev (v := .int .i64 rp) e21
              have g26 := Reg.ev (v := .int .i64 sp) e26
              exact Reg.obl_free rfl (Reg.wp_eqv (Option.some_ne_none _) (by go_simp) rfl)
            · intro ax wx hx hs
              obtain ⟨e27, -⟩ := hs
              have g27 := Reg.ev (v := .bool false) e27
              exact Reg.obl_free rfl (Reg.wp_eqv (Option.some_ne_none _) (by go_simp) rfl)
            · intro ax wx hx hs
              obtain ⟨e0, e28, -⟩ := hs
              have g0 := Reg.ev (v := .slice (some ⟨b, o, none⟩) n c) e0
              have g28 := Reg.ev (v := .bool false) e28
              exact Reg.obl_want rfl rfl e28 (Reg.wp_eqv (Option.some_ne_none _) (by go_simp) rfl)
            · intro ax wx hx hs
              obtain ⟨e5, e28, -⟩ := hs
              have g5 := Reg.ev (v := .int .i64 (k : Int)) e5
              have g28 := Reg.ev (v := .bool false) e28
              exact Reg.obl_want rfl rfl e28 (Reg.wp_eqv (Option.some_ne_none _) (by go_simp) rfl)
            · intro ax wx hx hs
              obtain ⟨e29, e30, e28, -⟩ := hs
              have g29 := Reg.ev (v := .slice (some ⟨b, o, none⟩) n c) e29
              have g30 := Reg.ev (v := .int .i64 (k : Int)) e30
              have g28 := Reg.ev (v := .bool false) e28
              refine Reg.obl_want rfl rfl e28 ?_
              exact Reg.wp_eqv (Option.some_ne_none _) (by go_simp; first | done | (intro hq; omega)) rfl
            · intro ax wx hx hs
              obtain ⟨e31, e28, -⟩ := hs
              have g31 := Reg.ev (v := .pointer (some ⟨b, o + k * 2, none⟩)) e31
              have g28 := Reg.ev (v := .bool false) e28
              exact Reg.obl_want rfl rfl e28 (Reg.wp_eqv (Option.some_ne_none _) (by go_simp) rfl)
            · intro ax wx hx hs
              obtain ⟨e32, e28, -⟩ := hs
              have g32 := Reg.ev (v := .pointer (some ⟨b, o + k * 2 + 1, none⟩)) e32
              have g28 := Reg.ev (v := .bool false) e28
              have hx' : Below wr.heap.size wr wx := hx
              have l1 := (hx'.cell (p := ⟨b, o + k * 2, none⟩) hbw).trans HQ.out.1.1
              have l2 := (hx'.cell (p := ⟨b, o + k * 2 + 1, none⟩) hbw).trans HQ.out.1.2
              have l3 := (hx'.cell (p := ⟨b', o' + k * 2, none⟩) hbw').trans HQ.out.2.1
              have l4 := (hx'.cell (p := ⟨b', o' + k * 2 + 1, none⟩) hbw').trans HQ.out.2.2
              exact Reg.obl_want rfl rfl e28 (Reg.wp_eqv (Option.some_ne_none _) (by go_simp) rfl)
            · intro ax wx hx hs
              obtain ⟨e1, e28, -⟩ := hs
              have g1 := Reg.ev (v := .slice (some ⟨b', o', none⟩) n c') e1
              have g28 := Reg.ev (v := .bool false) e28
              exact Reg.obl_want rfl rfl e28 (Reg.wp_eqv (Option.some_ne_none _) (by go_simp) rfl)
            · intro ax wx hx hs
              obtain ⟨e5, e28, -⟩ := hs
              have g5 := Reg.ev (v := .int .i64 (k : Int)) e5
              have g28 := Reg.ev (v := .bool false) e28
              exact Reg.obl_want rfl rfl e28 (Reg.wp_eqv (Option.some_ne_none _) (by go_simp) rfl)
            · intro ax wx hx hs
              obtain ⟨e34, e35, e28, -⟩ := hs
              have g34 := Reg.ev (v := .slice (some ⟨b', o', none⟩) n c') e34
              have g35 := Reg.ev (v := .int .i64 (k : Int)) e35
              have g28 := Reg.ev (v := .bool false) e28
              refine Reg.obl_want rfl rfl e28 ?_
              exact Reg.wp_eqv (Option.some_ne_none _) (by go_simp; first | done | (intro hq; omega)) rfl
            · intro ax wx hx hs
              obtain ⟨e36, e28, -⟩ := hs
              have g36 := Reg.ev (v := .pointer (some ⟨b', o' + k * 2, none⟩)) e36
              have g28 := Reg.ev (v := .bool false) e28
              exact Reg.obl_want rfl rfl e28 (Reg.wp_eqv (Option.some_ne_none _) (by go_simp) rfl)
            · intro ax wx hx hs
              obtain ⟨e37, e28, -⟩ := hs
              have g37 := Reg.ev (v := .pointer (some ⟨b', o' + k * 2 + 1, none⟩)) e37
              have g28 := Reg.ev (v := .bool false) e28
              have hx' : Below wr.heap.size wr wx := hx
              have l1 := (hx'.cell (p := ⟨b, o + k * 2, none⟩) hbw).trans HQ.out.1.1
              have l2 := (hx'.cell (p := ⟨b, o + k * 2 + 1, none⟩) hbw).trans HQ.out.1.2
              have l3 := (hx'.cell (p := ⟨b', o' + k * 2, none⟩) hbw').trans HQ.out.2.1
              have l4 := (hx'.cell (p := ⟨b', o' + k * 2 + 1, none⟩) hbw').trans HQ.out.2.2
              exact Reg.obl_want rfl rfl e28 (Reg.wp_eqv (Option.some_ne_none _) (by go_simp) rfl)
            · intro ax wx hx hs
              obtain ⟨e33, e38, e28, -⟩ := hs
              have g33 := Reg.ev (v := .slice A2 n2 c2) e33
              have g38 := Reg.ev (v := .slice A3 n3 c3) e38
              have g28 := Reg.ev (v := .bool false) e28
              refine Reg.obl_want rfl rfl e28 ?_
              have hx' : Below wr.heap.size wr wx := hx
              go_simp
              refine (Same.same_any _ _ _ _ _ _ _ _ rd sd wx (HY.out.next hx') (HY2.out.next hx')).mono ?_
              rintro e wy ⟨rfl, rfl⟩
              rw [HEQ.out]
              exact Reg.done (Option.some_ne_none _) rfl (bsame _)
            · intro ax wx hx hs
              obtain ⟨e39, e28, -⟩ := hs
              have g39 := Reg.ev (v := .bool true) e39
              have g28 := Reg.ev (v := .bool false) e28
              exact Reg.obl_want rfl rfl e28 (Reg.wp_eqv (Option.some_ne_none _) (by go_simp) rfl)
            · intro ax wx hx hs
              obtain ⟨e28, e40, -⟩ := hs
              have g28 := Reg.ev (v := .bool false) e28
              have g40 := Reg.ev (v := .bool false) e40
              exact Reg.obl_free rfl (Reg.wp_eqv (Option.some_ne_none _) (by go_simp) rfl)
          · intro W2 hwf
            simp only [Reg.Fin]
            rintro _ rfl _ rfl _ rfl _ rfl _ rfl _ rfl _ rfl _ rfl _ rfl _ rfl _ rfl _ rfl _ rfl _ rfl _ rfl _ rfl _ rfl _ rfl _ rfl _ rfl _ rfl _ rfl _ rfl _ rfl _ rfl
            go_simp
            have hwf' : Below wr.heap.size wr W2 := hwf
            have HB2 := Lib.hid (bstep HB.out hwf')
            clear hwf hwf'
            go_wp2
            go_roundw
            case rel => exact ⟨k + 1, by omega, by first | rfl | go_num, HK2, HB2⟩
            case measure => simp [intOf]; omega
        · have HRR := Lib.hid (PatchP.sameRuns_at HRQ.out.1 HRQ.out.2 (fun h => he h.2))
          have HEQ : Hid ((rd == sd) = false) := Lib.hid (by simpa using he)
          clear ha he
          go_wp2_with fail
          refine Reg.wp_region_vals (R := ext) (W := wr) [Reg.eqv (.slice (some ⟨b, o, none⟩) n c), Reg.eqv (.int .i64 (k : Int)), Reg.eqv (.pointer (some ⟨b, o + k * 2, none⟩)), Reg.eqv (.pointer (some ⟨b, o + k * 2, none⟩)), Reg.eqv (.int .i64 rp), Reg.eqv (.slice (some ⟨b', o', none⟩) n c'), Reg.eqv (.int .i64 (k : Int)), Reg.eqv (.pointer (some ⟨b', o' + k * 2, none⟩)), Reg.eqv (.pointer (some ⟨b', o' + k * 2, none⟩)), Reg.eqv (.int .i64 sp), Reg.eqv (.bool false), Reg.eqv (.bool false), Reg.eqv (.slice (some ⟨b, o, none⟩) n c), Reg.eqv (.int .i64 (k : Int)), Reg.eqv (.pointer (some ⟨b, o + k * 2, none⟩)), Reg.eqv (.pointer (some ⟨b, o + k * 2 + 1, none⟩)), Reg.eqv (.slice A2 n2 c2), Reg.eqv (.slice (some ⟨b', o', none⟩) n c'), Reg.eqv (.int .i64 (k : Int)), Reg.eqv (.pointer (some ⟨b', o' + k * 2, none⟩)), Reg.eqv (.pointer (some ⟨b', o' + k * 2 + 1, none⟩)), Reg.eqv (.slice A3 n3 c3), Reg.eqv (.bool false), Reg.eqv (.bool true), Reg.eqv (.bool true)] 42 [[(0, none)], [(5, none)], [(17, some 0), (18, some 1)], [(19, some 2)], [(20, some 3)], [(1, none)], [(5, none)], [(22, some 5), (23, some 6)], [(24, some 7)], [(25, some 8)], [(21, some 4), (26, some 9)], [(27, some 10)], [(0, none), (28, some 11)], [(5, none), (28, some 11)], [(29, some 12), (30, some 13), (28, some 11)], [(31, some 14), (28, some 11)], [(32, some 15), (28, some 11)], [(1, none), (28, some 11)], [(5, none), (28, some 11)], [(34, some 17), (35, some 18), (28, some 11)], [(36, some 19), (28, some 11)], [(37, some 20), (28, some 11)], [(33, some 16), (38, some 21), (28, some 11)], [(39, some 22), (28, some 11)], [(28, some 11), (40, some 23)]] rfl (by kernel_rfl) (by kernel_rfl) (by kernel_rfl) ?_ [some 17, some 18, some 19, some 20, some 21, some 22, some 23, some 24, some 25, some 26, some 27, some 28, some 29, some 30, some 31, some 32, some 33, some 34, some 35, some 36, some 37, some 38, some 39, some 40, some 41] (by kernel_rfl) ?_
          · refine ⟨?_, ?_, ?_, ?_, ?_, ?_, ?_, ?_, ?_, ?_, ?_, ?_, ?_, ?_, ?_, ?_, ?_, ?_, ?_, ?_, ?_, ?_, ?_, ?_, ?_, trivial⟩
            · intro ax wx hx hs
              obtain ⟨e0, -⟩ := hs
              have g0 := Reg.ev (v := .slice (some ⟨b, o, none⟩) n c) e0
              exact Reg.obl_free rfl (Reg.wp_eqv (Option.some_ne_none _) (by go_simp) rfl)
            · intro ax wx hx hs
              obtain ⟨e5, -⟩ := hs
              have g5 := Reg.ev (v := .int .i64 (k : Int)) e5
              exact Reg.obl_free rfl (Reg.wp_eqv (Option.some_ne_none _) (by go_simp) rfl)
            · intro ax wx hx hs
              obtain ⟨e17, e18, -⟩ := hs
              have g17 := Reg.ev (v := .slice (some ⟨b, o, none⟩) n c) e17
              have g18 := Reg.ev (v := .int .i64 (k : Int)) e18
              refine Reg.obl_free rfl ?_
              exact Reg.wp_eqv (Option.some_ne_none _) (by go_simp; first | done | (intro hq; omega)) rfl
            · intro ax wx hx hs
              obtain ⟨e19, -⟩ := hs
              have g19 := Reg.ev (v := .pointer (some ⟨b, o + k * 2, none⟩)) e19
              exact Reg.obl_free rfl (Reg.wp_eqv (Option.some_ne_none _) (by go_simp) rfl)
            · intro ax wx hx hs
              obtain ⟨e20, -⟩ := hs
              have g20 := Reg.ev (v := .pointer (some ⟨b, o + k * 2, none⟩)) e20
              have hx' : Below wr.heap.size wr wx := hx
              have l1 := (hx'.cell (p := ⟨b, o + k * 2, none⟩) hbw).trans HQ.out.1.1
              have l2 := (hx'.cell (p := ⟨b, o + k * 2 + 1, none⟩) hbw).trans HQ.out.1.2
              have l3 := (hx'.cell (p := ⟨b', o' + k * 2, none⟩) hbw').trans HQ.out.2.1
              have l4 := (hx'.cell (p := ⟨b', o' + k * 2 + 1, none⟩) hbw').trans HQ.out.2.2
              exact Reg.obl_free rfl (Reg.wp_eqv (Option.some_ne_none _) (by go_simp) rfl)
            · intro ax wx hx hs
              obtain ⟨e1, -⟩ := hs
              have g1 := Reg.ev (v := .slice (some ⟨b', o', none⟩) n c') e1
              exact Reg.obl_free rfl (Reg.wp_eqv (Option.some_ne_none _) (by go_simp) rfl)
            · intro ax wx hx hs
              obtain ⟨e5, -⟩ := hs
              have g5 := Reg.ev (v := .int .i64 (k : Int)) e5
              exact Reg.obl_free rfl (Reg.wp_eqv (Option.some_ne_none _) (by go_simp) rfl)
            · intro ax wx hx hs
              obtain ⟨e22, e23, -⟩ := hs
              have g22 := Reg.ev (v := .slice (some ⟨b', o', none⟩) n c') e22
              have g23 := Reg.ev (v := .int .i64 (k : Int)) e23
              refine Reg.obl_free rfl ?_
              exact Reg.wp_eqv (Option.some_ne_none _) (by go_simp; first | done | (intro hq; omega)) rfl
            · intro ax wx hx hs
              obtain ⟨e24, -⟩ := hs
              have g24 := Reg.ev (v := .pointer (some ⟨b', o' + k * 2, none⟩)) e24
              exact Reg.obl_free rfl (Reg.wp_eqv (Option.some_ne_none _) (by go_simp) rfl)
            · intro ax wx hx hs
              obtain ⟨e25, -⟩ := hs
              have g25 := Reg.ev (v := .pointer (some ⟨b', o' + k * 2, none⟩)) e25
              have hx' : Below wr.heap.size wr wx := hx
              have l1 := (hx'.cell (p := ⟨b, o + k * 2, none⟩) hbw).trans HQ.out.1.1
              have l2 := (hx'.cell (p := ⟨b, o + k * 2 + 1, none⟩) hbw).trans HQ.out.1.2
              have l3 := (hx'.cell (p := ⟨b', o' + k * 2, none⟩) hbw').trans HQ.out.2.1
              have l4 := (hx'.cell (p := ⟨b', o' + k * 2 + 1, none⟩) hbw').trans HQ.out.2.2
              exact Reg.obl_free rfl (Reg.wp_eqv (Option.some_ne_none _) (by go_simp) rfl)
            · intro ax wx hx hs
              obtain ⟨e21, e26, -⟩ := hs
              have g21 := Reg.ev (v := .int .i64 rp) e21
              have g26 := Reg.ev (v := .int .i64 sp) e26
              exact Reg.obl_free rfl (Reg.wp_eqv (Option.some_ne_none _) (by go_simp) rfl)
            · intro ax wx hx hs
              obtain ⟨e27, -⟩ := hs
              have g27 := Reg.ev (v := .bool false) e27
              exact Reg.obl_free rfl (Reg.wp_eqv (Option.some_ne_none _) (by go_simp) rfl)
            · intro ax wx hx hs
              obtain ⟨e0, e28, -⟩ := hs
              have g0 := Reg.ev (v := .slice (some ⟨b, o, none⟩) n c) e0
              have g28 := Reg.ev (v := .bool false) e28
              exact Reg.obl_want rfl rfl e28 (Reg.wp_eqv (Option.some_ne_none _) (by go_simp) rfl)
            · intro ax wx hx hs
              obtain ⟨e5, e28, -⟩ := hs
              have g5 := Reg.ev (v := .int .i64 (k : Int)) e5
              have g28 := Reg.ev (v := .bool false) e28
              exact Reg.obl_want rfl rfl e28 (Reg.wp_eqv (Option.some_ne_none _) (by go_simp) rfl)
            · intro ax wx hx hs
              obtain ⟨e29, e30, e28, -⟩ := hs
              have g29 := Reg.ev (v := .slice (some ⟨b, o, none⟩) n c) e29
              have g30 := Reg.ev (v := .int .i64 (k : Int)) e30
              have g28 := Reg.ev (v := .bool false) e28
              refine Reg.obl_want rfl rfl e28 ?_
              exact Reg.wp_eqv (Option.some_ne_none _) (by go_simp; first | done | (intro hq; omega)) rfl
            · intro ax wx hx hs
              obtain ⟨e31, e28, -⟩ := hs
              have g31 := Reg.ev (v := .pointer (some ⟨b, o + k * 2, none⟩)) e31
              have g28 := Reg.ev (v := .bool false) e28
              exact Reg.obl_want rfl rfl e28 (Reg.wp_eqv (Option.some_ne_none _) (by go_simp) rfl)
            · intro ax wx hx hs
              obtain ⟨e32, e28, -⟩ := hs
              have g32 := Reg.ev (v := .pointer (some ⟨b, o + k * 2 + 1, none⟩)) e32
              have g28 := Reg.ev (v := .bool false) e28
              have hx' : Below wr.heap.size wr wx := hx
              have l1 := (hx'.cell (p := ⟨b, o + k * 2, none⟩) hbw).trans HQ.out.1.1
              have l2 := (hx'.cell (p := ⟨b, o + k * 2 + 1, none⟩) hbw).trans HQ.out.1.2
              have l3 := (hx'.cell (p := ⟨b', o' + k * 2, none⟩) hbw').trans HQ.out.2.1
              have l4 := (hx'.cell (p := ⟨b', o' + k * 2 + 1, none⟩) hbw').trans HQ.out.2.2
              exact Reg.obl_want rfl rfl e28 (Reg.wp_eqv (Option.some_ne_none _) (by go_simp) rfl)
            · intro ax wx hx hs
              obtain ⟨e1, e28, -⟩ := hs
              have g1 := Reg.ev (v := .slice (some ⟨b', o', none⟩) n c') e1
              have g28 := Reg.ev (v := .bool false) e28
              exact Reg.obl_want rfl rfl e28 (Reg.wp_eqv (Option.some_ne_none _) (by go_simp) rfl)
            · intro ax wx hx hs
              obtain ⟨e5, e28, -⟩ := hs
              have g5 := Reg.ev (v := .int .i64 (k : Int)) e5
              have g28 := Reg.ev (v := .bool false) e28
              exact Reg.obl_want rfl rfl e28 (Reg.wp_eqv (Option.some_ne_none _) (by go_simp) rfl)
            · intro ax wx hx hs
              obtain ⟨e34, e35, e28, -⟩ := hs
              have g34 := Reg.ev (v := .slice (some ⟨b', o', none⟩) n c') e34
              have g35 := Reg.ev (v := .int .i64 (k : Int)) e35
              have g28 := Reg.ev (v := .bool false) e28
              refine Reg.obl_want rfl rfl e28 ?_
              exact Reg.wp_eqv (Option.some_ne_none _) (by go_simp; first | done | (intro hq; omega)) rfl
            · intro ax wx hx hs
              obtain ⟨e36, e28, -⟩ := hs
              have g36 := Reg.ev (v := .pointer (some ⟨b', o' + k * 2, none⟩)) e36
              have g28 := Reg.ev (v := .bool false) e28
              exact Reg.obl_want rfl rfl e28 (Reg.wp_eqv (Option.some_ne_none _) (by go_simp) rfl)
            · intro ax wx hx hs
              obtain ⟨e37, e28, -⟩ := hs
              have g37 := Reg.ev (v := .pointer (some ⟨b', o' + k * 2 + 1, none⟩)) e37
              have g28 := Reg.ev (v := .bool false) e28
              have hx' : Below wr.heap.size wr wx := hx
              have l1 := (hx'.cell (p := ⟨b, o + k * 2, none⟩) hbw).trans HQ.out.1.1
              have l2 := (hx'.cell (p := ⟨b, o + k * 2 + 1, none⟩) hbw).trans HQ.out.1.2
              have l3 := (hx'.cell (p := ⟨b', o' + k * 2, none⟩) hbw').trans HQ.out.2.1
              have l4 := (hx'.cell (p := ⟨b', o' + k * 2 + 1, none⟩) hbw').trans HQ.out.2.2
              exact Reg.obl_want rfl rfl e28 (Reg.wp_eqv (Option.some_ne_none _) (by go_simp) rfl)
            · intro ax wx hx hs
              obtain ⟨e33, e38, e28, -⟩ := hs
              have g33 := Reg.ev (v := .slice A2 n2 c2) e33
              have g38 := Reg.ev (v := .slice A3 n3 c3) e38
              have g28 := Reg.ev (v := .bool false) e28
              refine Reg.obl_want rfl rfl e28 ?_
              have hx' : Below wr.heap.size wr wx := hx
              go_simp
              refine (Same.same_any _ _ _ _ _ _ _ _ rd sd wx (HY.out.next hx') (HY2.out.next hx')).mono ?_
              rintro e wy ⟨rfl, rfl⟩
              rw [HEQ.out]
              exact Reg.done (Option.some_ne_none _) rfl (bsame _)
            · intro ax wx hx hs
              obtain ⟨e39, e28, -⟩ := hs
              have g39 := Reg.ev (v := .bool false) e39
              have g28 := Reg.ev (v := .bool false) e28
              exact Reg.obl_want rfl rfl e28 (Reg.wp_eqv (Option.some_ne_none _) (by go_simp) rfl)
            · intro ax wx hx hs
              obtain ⟨e28, e40, -⟩ := hs
              have g28 := Reg.ev (v := .bool false) e28
              have g40 := Reg.ev (v := .bool true) e40
              exact Reg.obl_free rfl (Reg.wp_eqv (Option.some_ne_none _) (by go_simp) rfl)
          · intro W2 hwf
            simp only [Reg.Fin]
            rintro _ rfl _ rfl _ rfl _ rfl _ rfl _ rfl _ rfl _ rfl _ rfl _ rfl _ rfl _ rfl _ rfl _ rfl _ rfl _ rfl _ rfl _ rfl _ rfl _ rfl _ rfl _ rfl _ rfl _ rfl _ rfl
            go_simp
            have hwf' : Below wr.heap.size wr W2 := hwf
            have HB2 := Lib.hid (bstep HB.out hwf')
            clear hwf hwf'
            go_wp2
            go_ret
            exact ⟨by rw [HRR.out]; rfl, HB2.out⟩
      · have hda : (rp != sp) = true := by simpa using ha
        have HRR := Lib.hid (PatchP.sameRuns_at HRQ.out.1 HRQ.out.2 (fun h => ha h.1))
        clear ha
        go_wp2_with fail
        refine Reg.wp_region_vals (R := ext) (W := wr) [Reg.eqv (.slice (some ⟨b, o, none⟩) n c), Reg.eqv (.int .i64 (k : Int)), Reg.eqv (.pointer (some ⟨b, o + k * 2, none⟩)), Reg.eqv (.pointer (some ⟨b, o + k * 2, none⟩)), Reg.eqv (.int .i64 rp), Reg.eqv (.slice (some ⟨b', o', none⟩) n c'), Reg.eqv (.int .i64 (k : Int)), Reg.eqv (.pointer (some ⟨b', o' + k * 2, none⟩)), Reg.eqv (.pointer (some ⟨b', o' + k * 2, none⟩)), Reg.eqv (.int .i64 sp), Reg.eqv (.bool true), Reg.eqv (.bool true), Reg.eqv undef, Reg.eqv undef, Reg.eqv undef, Reg.eqv undef, Reg.eqv undef, Reg.eqv undef, Reg.eqv undef, Reg.eqv undef, Reg.eqv undef, Reg.eqv undef, Reg.eqv undef, Reg.eqv undef, Reg.eqv (.bool true)] 42 [[(0, none)], [(5, none)], [(17, some 0), (18, some 1)], [(19, some 2)], [(20, some 3)], [(1, none)], [(5, none)], [(22, some 5), (23, some 6)], [(24, some 7)], [(25, some 8)], [(21, some 4), (26, some 9)], [(27, some 10)], [(0, none), (28, some 11)], [(5, none), (28, some 11)], [(29, some 12), (30, some 13), (28, some 11)], [(31, some 14), (28, some 11)], [(32, some 15), (28, some 11)], [(1, none), (28, some 11)], [(5, none), (28, some 11)], [(34, some 17), (35, some 18), (28, some 11)], [(36, some 19), (28, some 11)], [(37, some 20), (28, some 11)], [(33, some 16), (38, some 21), (28, some 11)], [(39, some 22), (28, some 11)], [(28, some 11), (40, some 23)]] rfl (by kernel_rfl) (by kernel_rfl) (by kernel_rfl) ?_ [some 17, some 18, some 19, some 20, some 21, some 22, some 23, some 24, some 25, some 26, some 27, some 28, some 29, some 30, some 31, some 32, some 33, some 34, some 35, some 36, some 37, some 38, some 39, some 40, some 41] (by kernel_rfl) ?_
        · refine ⟨?_, ?_, ?_, ?_, ?_, ?_, ?_, ?_, ?_, ?_, ?_, ?_, ?_, ?_, ?_, ?_, ?_, ?_, ?_, ?_, ?_, ?_, ?_, ?_, ?_, trivial⟩
          · intro ax wx hx hs
            obtain ⟨e0, -⟩ := hs
            have g0 := Reg.ev (v := .slice (some ⟨b, o, none⟩) n c) e0
            exact Reg.obl_free rfl (Reg.wp_eqv (Option.some_ne_none _) (by go_simp) rfl)
          · intro ax wx hx hs
            obtain ⟨e5, -⟩ := hs
            have g5 := Reg.ev (v := .int .i64 (k : Int)) e5
            exact Reg.obl_free rfl (Reg.wp_eqv (Option.some_ne_none _) (by go_simp) rfl)
          · intro ax wx hx hs
            obtain ⟨e17, e18, -⟩ := hs
            have g17 := Reg.ev (v := .slice (some ⟨b, o, none⟩) n c) e17
            have g18 := Reg.ev (v := .int .i64 (k : Int)) e18
            refine Reg.obl_free rfl ?_
            exact Reg.wp_eqv (Option.some_ne_none _) (by go_simp; first | done | (intro hq; omega)) rfl
          · intro ax wx hx hs
            obtain ⟨e19, -⟩ := hs
            have g19 := Reg.ev (v := .pointer (some ⟨b, o + k * 2, none⟩)) e19
            exact Reg.obl_free rfl (Reg.wp_eqv (Option.some_ne_none _) (by go_simp) rfl)
          · intro ax wx hx hs
            obtain ⟨e20, -⟩ := hs
            have g20 := Reg.ev (v := .pointer (some ⟨b, o + k * 2, none⟩)) e20
            have hx' : Below wr.heap.size wr wx := hx
            have l1 := (hx'.cell (p := ⟨b, o + k * 2, none⟩) hbw).trans HQ.out.1.1
            have l2 := (hx'.cell (p := ⟨b, o + k * 2 + 1, none⟩) hbw).trans HQ.out.1.2
            have l3 := (hx'.cell (p := ⟨b', o' + k * 2, none⟩) hbw').trans HQ.out.2.1
            have l4 := (hx'.cell (p := ⟨b', o' + k * 2 + 1, none⟩) hbw').trans HQ.out.2.2
            exact Reg.obl_free rfl (Reg.wp_eqv (Option.some_ne_none _) (by go_simp) rfl)
          · intro ax wx hx hs
            obtain ⟨e1, -⟩ := hs
            have g1 := Reg.ev (v := .slice (some ⟨b', o', none⟩) n c') e1
            exact Reg.obl_free rfl (Reg.wp_eqv (Option.some_ne_none _) (by go_simp) rfl)
          · intro ax wx hx hs
            obtain ⟨e5, -⟩ := hs
            have g5 := Reg.ev (v := .int .i64 (k : Int)) e5
            exact Reg.obl_free rfl (Reg.wp_eqv (Option.some_ne_none _) (by go_simp) rfl)
          · intro ax wx hx hs
            obtain ⟨e22, e23, -⟩ := hs
            have g22 := Reg.ev (v := .slice (some ⟨b', o', none⟩) n c') e22
            have g23 := Reg.ev (v := .int .i64 (k : Int)) e23
            refine Reg.obl_free rfl ?_
            exact Reg.wp_eqv (Option.some_ne_none _) (by go_simp; first | done | (intro hq; omega)) rfl
          · intro ax wx hx hs
            obtain ⟨e24, -⟩ := hs
            have g24 := Reg.ev (v := .pointer (some ⟨b', o' + k * 2, none⟩)) e24
            exact Reg.obl_free rfl (Reg.wp_eqv (Option.some_ne_none _) (by go_simp) rfl)
          · intro ax wx hx hs
            obtain ⟨e25, -⟩ := hs
            have g25 := Reg.ev (v := .pointer (some ⟨b', o' + k * 2, none⟩)) e25
            have hx' : Below wr.heap.size wr wx := hx
            have l1 := (hx'.cell (p := ⟨b, o + k * 2, none⟩) hbw).trans HQ.out.1.1
            have l2 := (hx'.cell (p := ⟨b, o + k * 2 + 1, none⟩) hbw).trans HQ.out.1.2
            have l3 := (hx'.cell (p := ⟨b', o' + k * 2, none⟩) hbw').trans HQ.out.2.1
            have l4 := (hx'.cell (p := ⟨b', o' + k * 2 + 1, none⟩) hbw').trans HQ.out.2.2
            exact Reg.obl_free rfl (Reg.wp_eqv (Option.some_ne_none _) (by go_simp) rfl)
          · intro ax wx hx hs
            obtain ⟨e21, e26, -⟩ := hs
            have g21 := Reg.ev (v := .int .i64 rp) e21
            have g26 := Reg.ev (v := .int .i64 sp) e26
            exact Reg.obl_free rfl (Reg.wp_eqv (Option.some_ne_none _) (by go_simp) rfl)
          · intro ax wx hx hs
            obtain ⟨e27, -⟩ := hs
            have g27 := Reg.ev (v := .bool true) e27
            exact Reg.obl_free rfl (Reg.wp_eqv (Option.some_ne_none _) (by go_simp) rfl)
          · intro ax wx hx hs
            obtain ⟨e0, e28, -⟩ := hs
            have g0 := Reg.ev (v := .slice (some ⟨b, o, none⟩) n c) e0
            have g28 := Reg.ev (v := .bool true) e28
            exact Reg.obl_skip rfl rfl e28 rfl rfl
          · intro ax wx hx hs
            obtain ⟨e5, e28, -⟩ := hs
            have g5 := Reg.ev (v := .int .i64 (k : Int)) e5
            have g28 := Reg.ev (v := .bool true) e28
            exact Reg.obl_skip rfl rfl e28 rfl rfl
          · intro ax wx hx hs
            obtain ⟨e29, e30, e28, -⟩ := hs
            have g29 := Reg.ev (v := undef) e29
            have g30 := Reg.ev (v := undef) e30
            have g28 := Reg.ev (v := .bool true) e28
            exact Reg.obl_skip rfl rfl e28 rfl rfl
          · intro ax wx hx hs
            obtain ⟨e31, e28, -⟩ := hs
            have g31 := Reg.ev (v := undef) e31
            have g28 := Reg.ev (v := .bool true) e28
            exact Reg.obl_skip rfl rfl e28 rfl rfl
          · intro ax wx hx hs
            obtain ⟨e32, e28, -⟩ := hs
            have g32 := Reg.ev (v := undef) e32
            have g28 := Reg.ev (v := .bool true) e28
            exact Reg.obl_skip rfl rfl e28 rfl rfl
          · intro ax wx hx hs
            obtain ⟨e1, e28, -⟩ := hs
            have g1 := Reg.ev (v := .slice (some ⟨b', o', none⟩) n c') e1
            have g28 := Reg.ev (v := .bool true) e28
            exact Reg.obl_skip rfl rfl e28 rfl rfl
          · intro ax wx hx hs
            obtain ⟨e5, e28, -⟩ := hs
            have g5 := Reg.ev (v := .int .i64 (k : Int)) e5
            have g28 := Reg.ev (v := .bool true) e28
            exact Reg.obl_skip rfl rfl e28 rfl rfl
          · intro ax wx hx hs
            obtain ⟨e34, e35, e28, -⟩ := hs
            have g34 := Reg.ev (v := undef) e34
            have g35 := Reg.ev (v := undef) e35
            have g28 := Reg.ev (v := .bool true) e28
            exact Reg.obl_skip rfl rfl e28 rfl rfl
          · intro ax wx hx hs
            obtain ⟨e36, e28, -⟩ := hs
            have g36 := Reg.ev (v := undef) e36
            have g28 := Reg.ev (v := .bool true) e28
            exact Reg.obl_skip rfl rfl e28 rfl rfl
          · intro ax wx hx hs
            obtain ⟨e37, e28, -⟩ := hs
            have g37 := Reg.ev (v := undef) e37
            have g28 := Reg.ev (v := .bool true) e28
            exact Reg.obl_skip rfl rfl e28 rfl rfl
          · intro ax wx hx hs
            obtain ⟨e33, e38, e28, -⟩ := hs
            have g33 := Reg.ev (v := undef) e33
            have g38 := Reg.ev (v := undef) e38
            have g28 := Reg.ev (v := .bool true) e28
            exact Reg.obl_skip rfl rfl e28 rfl rfl
          · intro ax wx hx hs
            obtain ⟨e39, e28, -⟩ := hs
            have g39 := Reg.ev (v := undef) e39
            have g28 := Reg.ev (v := .bool true) e28
            exact Reg.obl_skip rfl rfl e28 rfl rfl
          · intro ax wx hx hs
            obtain ⟨e28, e40, -⟩ := hs
            have g28 := Reg.ev (v := .bool true) e28
            have g40 := Reg.ev (v := undef) e40
            exact Reg.obl_free rfl (Reg.wp_eqv (Option.some_ne_none _) (by go_simp) rfl)
        · intro W2 hwf
          simp only [Reg.Fin]
          rintro _ rfl _ rfl _ rfl _ rfl _ rfl _ rfl _ rfl _ rfl _ rfl _ rfl _ rfl _ rfl _ rfl _ rfl _ rfl _ rfl _ rfl _ rfl _ rfl _ rfl _ rfl _ rfl _ rfl _ rfl _ rfl
          go_simp
          have hwf' : Below wr.heap.size wr W2 := hwf
          have HB2 := Lib.hid (bstep HB.out hwf')
          clear hwf hwf'
          go_wp2
          go_ret
          exact ⟨by rw [HRR.out]; rfl, HB2.out⟩
    · have hd : decide ((k : Int) < (n : Int)) = false := by simp; omega
      have hkn : k = n := by omega
      subst hkn
      have HRR := Lib.hid (PatchP.sameRuns_all HK.out hlen hlen2)
      go_wp2
      go_ret
      exact ⟨by rw [HRR.out]; rfl, HB.out⟩
set_option maxRecDepth 100000 in
set_option maxHeartbeats 1000000 in
theorem same_any (x y : PatchX) (A A' : Option Addr) (n c n' c' B B' : Nat) (w : World) (hE : Elems RunE w B A n c x.runs) (hB : B ≤ w.heap.size) (hE2 : Elems RunE w B' A' n' c' y.runs) (hB2 : B' ≤ w.heap.size) :
    Calls Tryz.prog 32 #[.agg #[.int .i64 x.page, .bool x.fresh, .slice A n c], .agg #[.int .i64 y.page, .bool y.fresh, .slice A' n' c']] w fun e w' => e = .returned (.bool (PatchP.same x y)) ∧ Below w.heap.size w w' := by
  have HS : Hid (PatchP.same x y = _) := Lib.hid (PatchP.same_eq x y)
  have HE := Lib.hid hE
  have HE2 := Lib.hid hE2
  have hlen := hE.len
  have hlen2 := hE2.len
  have hcap := hE.cap
  have hcm := hcap.2
  have hcap2 := hE2.cap
  have hcm2 := hcap2.2
  unfold maxLen at hcm hcm2
  clear hE hE2
  obtain ⟨p, fr, l⟩ := x
  obtain ⟨p2, fr2, m⟩ := y
  dsimp only at *
  obtain ⟨W0, hW0⟩ : ∃ W, (w.alloc (.cells #[.int .i64 p, .bool fr, .slice A n c] 68)).alloc (.cells #[.int .i64 p2, .bool fr2, .slice A' n' c'] 68) = W := ⟨_, rfl⟩
  obtain ⟨HS0, HS1, HB0, hw0, hz0⟩ := new2 hW0
  have g0 := str3 HS0.out
  have hl0 := HS0.out.lt
  have g1 := str3 HS1.out
  have hl1 := HS1.out.lt
  clear hz0
  by_cases ha : p = p2
  rotate_left
  · have HF : Hid ((p == p2) = false) := Lib.hid (by simpa using ha)
    have d0 : (p == p2) = false := HF.out
    have d1 : (p != p2) = true := by simpa using ha
    clear ha
    go_enter Tryz.func32, Tryz.ntmps32
    go_wp2
    go_ret
    exact ⟨by rw [HS.out, HF.out]; rfl, HB0.out⟩
  subst ha
  have d0 : (p == p) = true := by simp
  have d1 : (p != p) = false := by simp
  by_cases hf : fr = fr2
  rotate_left
  · have HF : Hid ((fr == fr2) = false) := Lib.hid (by simpa using hf)
    have d2 : (fr == fr2) = false := HF.out
    have d3 : (fr != fr2) = true := by simpa using hf
    clear hf
    go_enter Tryz.func32, Tryz.ntmps32
    go_wp2
    go_ret
    exact ⟨by rw [HS.out, beq_self_eq_true, HF.out]; rfl, HB0.out⟩
  subst hf
  have d2 : (fr == fr) = true := by simp
  have d3 : (fr != fr) = false := by simp
  have HSE : Hid (PatchP.same ⟨p, fr, l⟩ ⟨p, fr, m⟩ = PatchP.sameRuns l m) := Lib.hid (by rw [HS.out, beq_self_eq_true, beq_self_eq_true]; rfl)
  clear HS
  go_enter Tryz.func32, Tryz.ntmps32
  go_wp2_with fail
  refine (sameRuns_any A A' n c n' c' B B' l m W0 (HE.out.below (HB0.out.mono hB)) (by omega) (HE2.out.below (HB0.out.mono hB2)) (by omega)).mono ?_
  rintro e W1 ⟨rfl, hb1⟩
  go_wp2
  go_ret
  exact ⟨by rw [HSE.out]; rfl, bstep HB0.out hb1⟩
end Go.Proofs.YtpdfnlhhnodnjaaGreat.RefPatch
namespace Go.Proofs.YtpdfnlhhnodnjaaGreat.PatchW
open Go.RowKit
set_option linter.unusedVariables false
set_option linter.unusedSimpArgs false
end Go.Proofs.YtpdfnlhhnodnjaaGreat.PatchW
end
