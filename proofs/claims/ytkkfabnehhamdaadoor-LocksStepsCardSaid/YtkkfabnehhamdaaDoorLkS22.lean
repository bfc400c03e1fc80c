/-
  Parts of the proof of LocksSteps.
-/
import Derived.Test.YtkkfabnehhamdaaDoorLkS20
import Derived.Test.YtkkfabnehhamdaaDoorLkS21
section
namespace Go.Proofs.YtkkfabnehhamdaaDoor
open Go.RowKit
def Reg.intS (l : List Int) : SP ext := ⟨fun v w => ∃ A n c, v = .slice A n c ∧ Elems IntE w w.heap.size A n c l, fun _ _ _ hb ⟨A, n, c, e, h⟩ => ⟨A, n, c, e, h.next hb⟩⟩
namespace RefL
open ModesP LockP
set_option linter.unusedVariables false
set_option linter.unusedSimpArgs false
attribute [local go_sem ↓] app_fold cut_fold
set_option maxRecDepth 100000 in
set_option maxHeartbeats 4000000 in
theorem blocks_any (A A2 : Option Addr) (n c n2 c2 : Nat) (x : RT) (u : Int) (w : World) (hH : Elems H3E w w.heap.size A n c x.h) (hW : Elems H3E w w.heap.size A2 n2 c2 x.w) (hm : Modes3 x.h) (hn : n ≤ 100000) (hn2 : n2 ≤ 100000) :
    Calls Tryd.prog 26 #[.agg #[.slice A n c, .slice A2 n2 c2], .int .i64 u] w (GivesN w (blocksR x u)) := by
  obtain ⟨W1, hW1⟩ : ∃ W, w.alloc (.cells #[.slice A n c, .slice A2 n2 c2] 43) = W := ⟨_, rfl⟩
  have hb1 : Below w.heap.size w W1 := by rw [← hW1]; exact balloc (bsame _) _
  have hs1 : Str W1 w.heap.size #[.slice A n c, .slice A2 n2 c2] := by rw [← hW1]; exact Str.new _ _ _
  have HB1 := Lib.hid hb1
  have HS1 := Lib.hid hs1
  have HH := Lib.hid hH
  have HW := Lib.hid hW
  have HM := Lib.hid hm
  have hln2 := hW.len
  have hp := place_any (A := A) (n := n) (c := c) (x := x) u W1 (hW.next hb1) (by omega)
  have g1 := str2 hs1
  have gl1 := hs1.lt
  have hz1 := hb1.size
  clear hH hW hm hb1 hs1
  go_enter Tryd.func26, Tryd.ntmps26
  go_wp2_with fail
  refine hp.mono ?_
  rintro e9 W2 ⟨rfl, hb2⟩
  have HB2 := Lib.hid (bstep HB1.out hb2)
  have HS2 := Lib.hid (HS1.out.next hb2)
  clear hb2 hW1 g1 gl1 hp
  cases hpl : placeR x.w u with
  | none =>
    have HR : Hid (blocksR x u = []) := Lib.hid (by unfold blocksR; rw [hpl])
    have hpi : placeI x.w u = -1 := by unfold placeI; rw [hpl]
    rw [hpi]
    clear hpl hpi
    go_wp2_with fail
    go_ret
    rw [HR.out]
    exact ⟨none, 0, 0, rfl, Elems.none_ _ _ _, HB2.out⟩
  | some i =>
    have hpi : placeI x.w u = (i : Int) := by unfold placeI; rw [hpl]
    obtain ⟨e, post, -, hi, -, -⟩ := place_some hpl
    have hil := (List.getElem?_eq_some_iff.1 hi).1
    have HR : Hid (blocksR x u = againstR x e i) := Lib.hid (by unfold blocksR; rw [hpl]; dsimp only; rw [hi])
    have hin : i < n2 := by omega
    obtain ⟨b, o, p, rfl, hb, hx, q0, q1, q2⟩ := h3_at HW.out hin
    rw [hi] at hx
    cases hx
    rw [hpi]
    have hd1 : decide ((i : Int) < 0) = false := by simp
    have k1 : ¬ (i : Int) < 0 := by omega
    have hbl : b < W2.heap.size := by have := HB2.out.size; omega
    have HQ := Lib.hid (And.intro ((HB2.out.cell (p := ⟨b, o + i * 3, none⟩) hb).trans q0) (And.intro ((HB2.out.cell (p := ⟨b, o + i * 3 + 1, none⟩) hb).trans q1) ((HB2.out.cell (p := ⟨b, o + i * 3 + 2, none⟩) hb).trans q2)))
    clear hpl hpi hi q0 q1 q2
    go_wp2_with fail
    refine Reg.wp_region_vals (R := ext) (W := W2) [Reg.eqv (.agg #[.slice A n c, .slice (some ⟨b, o, none⟩) n2 c2]), Reg.eqv (.pointer (some ⟨w.heap.size, 1, none⟩)), Reg.eqv (.slice (some ⟨b, o, none⟩) n2 c2), Reg.eqv (.int .i64 (i : Int)), Reg.eqv (.pointer (some ⟨b, o + i * 3, none⟩)), Reg.eqv (.agg #[.int .i64 e.txn, .string e.key, .int .i64 e.mode]), Reg.eqv (.int .i64 (i : Int)), Reg.intS (againstR x e i), Reg.intS (againstR x e i)] 19 [[(2, none)], [(2, none)], [(12, some 1)], [(5, none)], [(13, some 2), (14, some 3)], [(15, some 4)], [(5, none)], [(11, some 0), (16, some 5), (17, some 6)], [(18, some 7)]] rfl (by kernel_rfl) (by kernel_rfl) (by kernel_rfl) ?_ [some 11, some 12, some 13, some 14, some 15, some 16, some 17, some 18, some 4] (by kernel_rfl) ?_
    · refine ⟨?_, ?_, ?_, ?_, ?_, ?_, ?_, ?_, ?_, trivial⟩
      · intro ax wx hx hs
        obtain ⟨e2, -⟩ := hs
        have g2 := Reg.ev (v := .pointer (some ⟨w.heap.size, 0, none⟩)) e2
        have l0 := str2 (HS2.out.next hx)
        have hx2 : Below W2.heap.size W2 wx := hx
        have l2 := (hx2.cell (p := ⟨b, o + i * 3, none⟩) hbl).trans HQ.out.1
        have l3 := (hx2.cell (p := ⟨b, o + i * 3 + 1, none⟩) hbl).trans HQ.out.2.1
        have l4 := (hx2.cell (p := ⟨b, o + i * 3 + 2, none⟩) hbl).trans HQ.out.2.2
        exact Reg.obl_free rfl (Reg.wp_eqv (Option.some_ne_none _) (by go_simp) rfl)
      · intro ax wx hx hs
        obtain ⟨e2, -⟩ := hs
        have g2 := Reg.ev (v := .pointer (some ⟨w.heap.size, 0, none⟩)) e2
        exact Reg.obl_free rfl (Reg.wp_eqv (Option.some_ne_none _) (by go_simp) rfl)
      · intro ax wx hx hs
        obtain ⟨e12, -⟩ := hs
        have g12 := Reg.ev (v := .pointer (some ⟨w.heap.size, 1, none⟩)) e12
        have l0 := str2 (HS2.out.next hx)
        have hx2 : Below W2.heap.size W2 wx := hx
        have l2 := (hx2.cell (p := ⟨b, o + i * 3, none⟩) hbl).trans HQ.out.1
        have l3 := (hx2.cell (p := ⟨b, o + i * 3 + 1, none⟩) hbl).trans HQ.out.2.1
        have l4 := (hx2.cell (p := ⟨b, o + i * 3 + 2, none⟩) hbl).trans HQ.out.2.2
        exact Reg.obl_free rfl (Reg.wp_eqv (Option.some_ne_none _) (by go_simp) rfl)
      · intro ax wx hx hs
        obtain ⟨e5, -⟩ := hs
        have g5 := Reg.ev (v := .int .i64 (i : Int)) e5
        exact Reg.obl_free rfl (Reg.wp_eqv (Option.some_ne_none _) (by go_simp) rfl)
      · intro ax wx hx hs
        obtain ⟨e13, e14, -⟩ := hs
        have g13 := Reg.ev (v := .slice (some ⟨b, o, none⟩) n2 c2) e13
        have g14 := Reg.ev (v := .int .i64 (i : Int)) e14
        exact Reg.obl_free rfl (Reg.wp_eqv (Option.some_ne_none _) (by go_simp) rfl)
      · intro ax wx hx hs
        obtain ⟨e15, -⟩ := hs
        have g15 := Reg.ev (v := .pointer (some ⟨b, o + i * 3, none⟩)) e15
        have l0 := str2 (HS2.out.next hx)
        have hx2 : Below W2.heap.size W2 wx := hx
        have l2 := (hx2.cell (p := ⟨b, o + i * 3, none⟩) hbl).trans HQ.out.1
        have l3 := (hx2.cell (p := ⟨b, o + i * 3 + 1, none⟩) hbl).trans HQ.out.2.1
        have l4 := (hx2.cell (p := ⟨b, o + i * 3 + 2, none⟩) hbl).trans HQ.out.2.2
        exact Reg.obl_free rfl (Reg.wp_eqv (Option.some_ne_none _) (by go_simp) rfl)
      · intro ax wx hx hs
        obtain ⟨e5, -⟩ := hs
        have g5 := Reg.ev (v := .int .i64 (i : Int)) e5
        exact Reg.obl_free rfl (Reg.wp_eqv (Option.some_ne_none _) (by go_simp) rfl)
      · intro ax wx hx hs
        obtain ⟨e11, e16, e17, -⟩ := hs
        have g11 := Reg.ev (v := .agg #[.slice A n c, .slice (some ⟨b, o, none⟩) n2 c2]) e11
        have g16 := Reg.ev (v := .agg #[.int .i64 e.txn, .string e.key, .int .i64 e.mode]) e16
        have g17 := Reg.ev (v := .int .i64 (i : Int)) e17
        refine Reg.obl_free rfl ?_
        have hx' : Below W2.heap.size W2 wx := hx
        go_simp
        refine (against_any A (some ⟨b, o, none⟩) n c n2 c2 x e i wx (HH.out.next (bstep HB2.out hx')) (HW.out.next (bstep HB2.out hx')) HM.out hn hn2 (by omega)).mono ?_
        rintro r wy ⟨A8, n8, c8, rfl, hE8, hby⟩
        exact Reg.done (Option.some_ne_none _) ⟨A8, n8, c8, rfl, hE8⟩ hby
      · intro ax wx hx hs
        obtain ⟨e18, -⟩ := hs
        refine Reg.obl_free rfl ?_
        obtain ⟨A8, n8, c8, e18, hE8⟩ := e18
        have g18 := Reg.ev e18
        go_simp
        exact Reg.done (Option.some_ne_none _) ⟨A8, n8, c8, rfl, hE8⟩ (bsame _)
    · intro W3 hwf
      simp only [Reg.Fin]
      rintro _ rfl _ rfl _ rfl _ rfl _ rfl _ rfl _ rfl v18 h18 v4 h4
      go_simp
      obtain ⟨A8, n8, c8, rfl, hE8⟩ := h4
      have HE8 := Lib.hid hE8
      have HB8 := Lib.hid (bstep HB2.out hwf)
      clear hwf hE8
      go_wp2_with fail
      go_ret
      rw [HR.out]
      exact ⟨A8, n8, c8, rfl, HE8.out, HB8.out⟩
/-- none ahead is its like -/
def newR (h : List H3) (i : Nat) (e : H3) : Bool := !(h.take i).any fun p => decide (p.txn = e.txn) && decide (p.key = e.key)
theorem newR_next {h : List H3} {j : Nat} {p e : H3} (hp : h[j]? = some p) : newR h (j + 1) e = (newR h j e && !(decide (p.txn = e.txn) && decide (p.key = e.key))) := by
  unfold newR
  rw [take_next hp, List.any_append]
  simp
theorem uniq_up {h : List H3} {i : Nat} {e : H3} (hi : h[i]? = some e) : (uniq (h.take (i + 1))).length = (uniq (h.take i)).length + if newR h i e = true then 1 else 0 := by
  rw [uniq_next hi]
  unfold newR
  cases (h.take i).any fun p => decide (p.txn = e.txn) && decide (p.key = e.key) <;> simp
theorem uniq_len (h : List H3) : ∀ i, (uniq (h.take i)).length ≤ i
  | 0 => by simp [uniq]
  | i + 1 => by
    have ih := uniq_len h i
    cases hx : h[i]? with
    | none =>
      have : h.take (i + 1) = h.take i := by rw [List.take_add_one, hx]; simp
      rw [this]; omega
    | some e =>
      rw [uniq_up hx]
      split <;> omega
set_option maxRecDepth 100000 in
set_option maxHeartbeats 4000000 in
theorem len_any (A A2 : Option Addr) (n c n2 c2 : Nat) (x : RT) (w : World) (hH : Elems H3E w w.heap.size A n c x.h) (hn : n ≤ 100000) :
    Calls Tryd.prog 20 #[.agg #[.slice A n c, .slice A2 n2 c2]] w fun e w' => e = .returned (.int .i64 (lenR x : Nat)) ∧ Below w.heap.size w w' := by
  obtain ⟨W1, hW1⟩ : ∃ W, w.alloc (.cells #[.slice A n c, .slice A2 n2 c2] 43) = W := ⟨_, rfl⟩
  have hb1 : Below w.heap.size w W1 := by rw [← hW1]; exact balloc (bsame _) _
  have hs1 : Str W1 w.heap.size #[.slice A n c, .slice A2 n2 c2] := by rw [← hW1]; exact Str.new _ _ _
  have HB1 := Lib.hid hb1
  have HS1 := Lib.hid hs1
  have HH := Lib.hid (hH.next hb1)
  have hln := hH.len
  have g1 := str2 hs1
  have gl1 := hs1.lt
  clear hH hb1
  go_enter Tryd.func20, Tryd.ntmps20
  go_wp2_with fail
  clear hW1 g1 gl1 hs1
  go_loopw [3, 4] (fun cv iv wr => ∃ i : Nat, i ≤ n ∧ cv = .int .i64 ((uniq (x.h.take i)).length : Nat) ∧ iv = .int .i64 (i : Int) ∧ Hid (Below W1.heap.size W1 wr)) (fun _ iv _ => n - (intOf iv).toNat)
  case atStart => exact ⟨0, Nat.zero_le _, rfl, rfl, Lib.hid (bsame W1)⟩
  case round =>
    obtain ⟨i, hi, rfl, rfl, HB⟩ := hrel
    have HT := Lib.hid (HS1.out.next HB.out)
    have g1 := str2 HT.out
    have gl1 := HT.out.lt
    by_cases hlt : i < n
    · have hd : decide ((i : Int) < (n : Int)) = true := by simpa using hlt
      have k1 : ¬ (i : Int) < 0 := by omega
      obtain ⟨b, o, e, rfl, hb, hx, q0, q1, -⟩ := h3_at HH.out hlt
      have HX := Lib.hid hx
      have HQ := Lib.hid (And.intro q0 q1)
      have hul := uniq_len x.h i
      have hup := uniq_up hx
      clear hx q0 q1
      go_wp2_with fail
      obtain ⟨wo, rfl⟩ : ∃ wo : World, wo = wr := ⟨_, rfl⟩
      have hwo := HB.out.size
      clear g1 gl1
      go_loopw [5, 6] (fun fv jv wr => ∃ j : Nat, j ≤ i ∧ fv = .bool (newR x.h j e) ∧ jv = .int .i64 (j : Int) ∧ Hid (Below wo.heap.size wo wr)) (fun _ jv _ => i - (intOf jv).toNat)
      case atStart => exact ⟨0, Nat.zero_le _, rfl, rfl, Lib.hid (bsame wo)⟩
      case round =>
        obtain ⟨j, hj, rfl, rfl, HB2⟩ := hrel
        by_cases hji : j < i
        · have hd2 : decide ((j : Int) < (i : Int)) = true := by simpa using hji
          have k2 : ¬ (j : Int) < 0 := by omega
          have hjn : j < n := by omega
          obtain ⟨b2, o2, p, ep, hb2, hp, p0, p1, -⟩ := h3_at HH.out hjn
          cases ep
          have hbb := bstep HB.out HB2.out
          have hbl : b < wr.heap.size := by have := hbb.size; omega
          have HC := Lib.hid (And.intro ((hbb.cell (p := ⟨b, o + i * 3, none⟩) hb).trans HQ.out.1) ((hbb.cell (p := ⟨b, o + i * 3 + 1, none⟩) hb).trans HQ.out.2))
          have HP := Lib.hid (And.intro ((hbb.cell (p := ⟨b, o + j * 3, none⟩) hb).trans p0) ((hbb.cell (p := ⟨b, o + j * 3 + 1, none⟩) hb).trans p1))
          have hnx := newR_next (e := e) hp
          have HT2 := Lib.hid (HT.out.next HB2.out)
          clear hbb hp p0 p1
          by_cases hu : p.txn = e.txn
          · have hd3 : (p.txn == e.txn) = true := by simpa using hu
            by_cases hk : p.key = e.key
            · have hd4 : (p.key.toList == e.key.toList) = true := by rw [hk]; exact beq_self_eq_true _
              have hnx' : newR x.h (j + 1) e = false := by rw [hnx]; simp [hu, hk]
              clear hnx hu hk
              go_wp2_with fail
              refine Reg.wp_region_vals (R := ext) (W := wr) [Reg.eqv (.pointer (some ⟨w.heap.size, 0, none⟩)), Reg.eqv (.slice (some ⟨b, o, none⟩) n c), Reg.eqv (.int .i64 (j : Int)), Reg.eqv (.pointer (some ⟨b, o + j * 3, none⟩)), Reg.eqv (.pointer (some ⟨b, o + j * 3, none⟩)), Reg.eqv (.int .i64 p.txn), Reg.eqv (.pointer (some ⟨w.heap.size, 0, none⟩)), Reg.eqv (.slice (some ⟨b, o, none⟩) n c), Reg.eqv (.int .i64 (i : Int)), Reg.eqv (.pointer (some ⟨b, o + i * 3, none⟩)), Reg.eqv (.pointer (some ⟨b, o + i * 3, none⟩)), Reg.eqv (.int .i64 e.txn), Reg.eqv (.bool true), Reg.eqv (.bool true), Reg.eqv (.pointer (some ⟨w.heap.size, 0, none⟩)), Reg.eqv (.slice (some ⟨b, o, none⟩) n c), Reg.eqv (.int .i64 (j : Int)), Reg.eqv (.pointer (some ⟨b, o + j * 3, none⟩)), Reg.eqv (.pointer (some ⟨b, o + j * 3 + 1, none⟩)), Reg.eqv (.string p.key), Reg.eqv (.pointer (some ⟨w.heap.size, 0, none⟩)), Reg.eqv (.slice (some ⟨b, o, none⟩) n c), Reg.eqv (.int .i64 (i : Int)), Reg.eqv (.pointer (some ⟨b, o + i * 3, none⟩)), Reg.eqv (.pointer (some ⟨b, o + i * 3 + 1, none⟩)), Reg.eqv (.string e.key), Reg.eqv (.bool true), Reg.eqv (.bool true)] 51 [[(1, none)], [(19, some 0)], [(6, none)], [(20, some 1), (21, some 2)], [(22, some 3)], [(23, some 4)], [(1, none)], [(25, some 6)], [(4, none)], [(26, some 7), (27, some 8)], [(28, some 9)], [(29, some 10)], [(24, some 5), (30, some 11)], [(31, some 12)], [(1, none), (32, some 13)], [(33, some 14), (32, some 13)], [(6, none), (32, some 13)], [(34, some 15), (35, some 16), (32, some 13)], [(36, some 17), (32, some 13)], [(37, some 18), (32, some 13)], [(1, none), (32, some 13)], [(39, some 20), (32, some 13)], [(4, none), (32, some 13)], [(40, some 21), (41, some 22), (32, some 13)], [(42, some 23), (32, some 13)], [(43, some 24), (32, some 13)], [(38, some 19), (44, some 25), (32, some 13)], [(32, some 13), (45, some 26)]] rfl (by kernel_rfl) (by kernel_rfl) (by kernel_rfl) ?_ [some 19, some 20, some 21, some 22, some 23, some 24, some 25, some 26, some 27, some 28, some 29, some 30, some 31, some 32, some 33, some 34, some 35, some 36, some 37, some 38, some 39, some 40, some 41, some 42, some 43, some 44, some 45, some 46] (by kernel_rfl) ?_
              · refine ⟨?_, ?_, ?_, ?_, ?_, ?_, ?_, ?_, ?_, ?_, ?_, ?_, ?_, ?_, ?_, ?_, ?_, ?_, ?_, ?_, ?_, ?_, ?_, ?_, ?_, ?_, ?_, ?_, trivial⟩
                · intro ax wx hx hs
                  obtain ⟨e1, -⟩ := hs
                  have g1 := Reg.ev (v := .pointer (some ⟨w.heap.size, 0, none⟩)) e1
                  exact Reg.obl_free rfl (Reg.wp_eqv (Option.some_ne_none _) (by go_simp) rfl)
                · intro ax wx hx hs
                  obtain ⟨e19, -⟩ := hs
                  have g19 := Reg.ev (v := .pointer (some ⟨w.heap.size, 0, none⟩)) e19
                  have l0 := str2 (HT2.out.next hx)
                  have hx2 : Below wr.heap.size wr wx := hx
                  have l2 := (hx2.cell (p := ⟨b, o + i * 3, none⟩) hbl).trans HC.out.1
                  have l3 := (hx2.cell (p := ⟨b, o + i * 3 + 1, none⟩) hbl).trans HC.out.2
                  have l4 := (hx2.cell (p := ⟨b, o + j * 3, none⟩) hbl).trans HP.out.1
                  have l5 := (hx2.cell (p := ⟨b, o + j * 3 + 1, none⟩) hbl).trans HP.out.2
                  exact Reg.obl_free rfl (Reg.wp_eqv (Option.some_ne_none _) (by go_simp) rfl)
                · intro ax wx hx hs
                  obtain ⟨e6, -⟩ := hs
                  have g6 := Reg.ev (v := .int .i64 (j : Int)) e6
                  exact Reg.obl_free rfl (Reg.wp_eqv (Option.some_ne_none _) (by go_simp) rfl)
                · intro ax wx hx hs
                  obtain ⟨e20, e21, -⟩ := hs
                  have g20 := Reg.ev (v := .slice (some ⟨b, o, none⟩) n c) e20
                  have g21 := Reg.ev (v := .int .i64 (j : Int)) e21
                  exact Reg.obl_free rfl (Reg.wp_eqv (Option.some_ne_none _) (by go_simp) rfl)
                · intro ax wx hx hs
                  obtain ⟨e22, -⟩ := hs
                  have g22 := Reg.ev (v := .pointer (some ⟨b, o + j * 3, none⟩)) e22
                  exact Reg.obl_free rfl (Reg.wp_eqv (Option.some_ne_none _) (by go_simp) rfl)
                · intro ax wx hx hs
                  obtain ⟨e23, -⟩ := hs
                  have g23 := Reg.ev (v := .pointer (some ⟨b, o + j * 3, none⟩)) e23
                  have l0 := str2 (HT2.out.next hx)
                  have hx2 : Below wr.heap.size wr wx := hx
                  have l2 := (hx2.cell (p := ⟨b, o + i * 3, none⟩) hbl).trans HC.out.1
                  have l3 := (hx2.cell (p := ⟨b, o + i * 3 + 1, none⟩) hbl).trans HC.out.2
                  have l4 := (hx2.cell (p := ⟨b, o + j * 3, none⟩) hbl).trans HP.out.1
                  have l5 := (hx2.cell (p := ⟨b, o + j * 3 + 1, none⟩) hbl).trans HP.out.2
                  exact Reg.obl_free rfl (Reg.wp_eqv (Option.some_ne_none _) (by go_simp) rfl)
                · intro ax wx hx hs
                  obtain ⟨e1, -⟩ := hs
                  have g1 := Reg.ev (v := .pointer (some ⟨w.heap.size, 0, none⟩)) e1
                  exact Reg.obl_free rfl (Reg.wp_eqv (Option.some_ne_none _) (by go_simp) rfl)
                · intro ax wx hx hs
                  obtain ⟨e25, -⟩ := hs
                  have g25 := Reg.ev (v := .pointer (some ⟨w.heap.size, 0, none⟩)) e25
                  have l0 := str2 (HT2.out.next hx)
                  have hx2 : Below wr.heap.size wr wx := hx
                  have l2 := (hx2.cell (p := ⟨b, o + i * 3, none⟩) hbl).trans HC.out.1
                  have l3 := (hx2.cell (p := ⟨b, o + i * 3 + 1, none⟩) hbl).trans HC.out.2
                  have l4 := (hx2.cell (p := ⟨b, o + j * 3, none⟩) hbl).trans HP.out.1
                  have l5 := (hx2.cell (p := ⟨b, o + j * 3 + 1, none⟩) hbl).trans HP.out.2
                  exact Reg.obl_free rfl (Reg.wp_eqv (Option.some_ne_none _) (by go_simp) rfl)
                · intro ax wx hx hs
                  obtain ⟨e4, -⟩ := hs
                  have g4 := Reg.ev (v := .int .i64 (i : Int)) e4
                  exact Reg.obl_free rfl (Reg.wp_eqv (Option.some_ne_none _) (by go_simp) rfl)
                · intro ax wx hx hs
                  obtain ⟨e26, e27, -⟩ := hs
                  have g26 := Reg.ev (v := .slice (some ⟨b, o, none⟩) n c) e26
                  have g27 := Reg.ev (v := .int .i64 (i : Int)) e27
                  exact Reg.obl_free rfl (Reg.wp_eqv (Option.some_ne_none _) (by go_simp) rfl)
                · intro ax wx hx hs
                  obtain ⟨e28, -⟩ := hs
                  have g28 := Reg.ev (v := .pointer (some ⟨b, o + i * 3, none⟩)) e28
                  exact Reg.obl_free rfl (Reg.wp_eqv (Option.some_ne_none _) (by go_simp) rfl)
                · intro ax wx hx hs
                  obtain ⟨e29, -⟩ := hs
                  have g29 := Reg.ev (v := .pointer (some ⟨b, o + i * 3, none⟩)) e29
                  have l0 := str2 (HT2.out.next hx)
                  have hx2 : Below wr.heap.size wr wx := hx
                  have l2 := (hx2.cell (p := ⟨b, o + i * 3, none⟩) hbl).trans HC.out.1
                  have l3 := (hx2.cell (p := ⟨b, o + i * 3 + 1, none⟩) hbl).trans HC.out.2
                  have l4 := (hx2.cell (p := ⟨b, o + j * 3, none⟩) hbl).trans HP.out.1
                  have l5 := (hx2.cell (p := ⟨b, o + j * 3 + 1, none⟩) hbl).trans HP.out.2
                  exact Reg.obl_free rfl (Reg.wp_eqv (Option.some_ne_none _) (by go_simp) rfl)
                · intro ax wx hx hs
                  obtain ⟨e24, e30, -⟩ := hs
                  have g24 := Reg.ev (v := .int .i64 p.txn) e24
                  have g30 := Reg.ev (v := .int .i64 e.txn) e30
                  exact Reg.obl_free rfl (Reg.wp_eqv (Option.some_ne_none _) (by go_simp) rfl)
                · intro ax wx hx hs
                  obtain ⟨e31, -⟩ := hs
                  have g31 := Reg.ev (v := .bool true) e31
                  exact Reg.obl_free rfl (Reg.wp_eqv (Option.some_ne_none _) (by go_simp) rfl)
                · intro ax wx hx hs
                  obtain ⟨e1, e32, -⟩ := hs
                  have g1 := Reg.ev (v := .pointer (some ⟨w.heap.size, 0, none⟩)) e1
                  have g32 := Reg.ev (v := .bool true) e32
                  exact Reg.obl_want rfl rfl e32 (Reg.wp_eqv (Option.some_ne_none _) (by go_simp) rfl)
                · intro ax wx hx hs
                  obtain ⟨e33, e32, -⟩ := hs
                  have g33 := Reg.ev (v := .pointer (some ⟨w.heap.size, 0, none⟩)) e33
                  have g32 := Reg.ev (v := .bool true) e32
                  have l0 := str2 (HT2.out.next hx)
                  have hx2 : Below wr.heap.size wr wx := hx
                  have l2 := (hx2.cell (p := ⟨b, o + i * 3, none⟩) hbl).trans HC.out.1
                  have l3 := (hx2.cell (p := ⟨b, o + i * 3 + 1, none⟩) hbl).trans HC.out.2
                  have l4 := (hx2.cell (p := ⟨b, o + j * 3, none⟩) hbl).trans HP.out.1
                  have l5 := (hx2.cell (p := ⟨b, o + j * 3 + 1, none⟩) hbl).trans HP.out.2
                  exact Reg.obl_want rfl rfl e32 (Reg.wp_eqv (Option.some_ne_none _) (by go_simp) rfl)
                · intro ax wx hx hs
                  obtain ⟨e6, e32, -⟩ := hs
                  have g6 := Reg.ev (v := .int .i64 (j : Int)) e6
                  have g32 := Reg.ev (v := .bool true) e32
                  exact Reg.obl_want rfl rfl e32 (Reg.wp_eqv (Option.some_ne_none _) (by go_simp) rfl)
                · intro ax wx hx hs
                  obtain ⟨e34, e35, e32, -⟩ := hs
                  have g34 := Reg.ev (v := .slice (some ⟨b, o, none⟩) n c) e34
                  have g35 := Reg.ev (v := .int .i64 (j : Int)) e35
                  have g32 := Reg.ev (v := .bool true) e32
                  exact Reg.obl_want rfl rfl e32 (Reg.wp_eqv (Option.some_ne_none _) (by go_simp) rfl)
                · intro ax wx hx hs
                  obtain ⟨e36, e32, -⟩ := hs
                  have g36 := Reg.ev (v := .pointer (some ⟨b, o + j * 3, none⟩)) e36
                  have g32 := Reg.ev (v := .bool true) e32
                  exact Reg.obl_want rfl rfl e32 (Reg.wp_eqv (Option.some_ne_none _) (by go_simp) rfl)
                · intro ax wx hx hs
                  obtain ⟨e37, e32, -⟩ := hs
                  have g37 := Reg.ev (v := .pointer (some ⟨b, o + j * 3 + 1, none⟩)) e37
                  have g32 := Reg.ev (v := .bool true) e32
                  have l0 := str2 (HT2.out.next hx)
                  have hx2 : Below wr.heap.size wr wx := hx
                  have l2 := (hx2.cell (p := ⟨b, o + i * 3, none⟩) hbl).trans HC.out.1
                  have l3 := (hx2.cell (p := ⟨b, o + i * 3 + 1, none⟩) hbl).trans HC.out.2
                  have l4 := (hx2.cell (p := ⟨b, o + j * 3, none⟩) hbl).trans HP.out.1
                  have l5 := (hx2.cell (p := ⟨b, o + j * 3 + 1, none⟩) hbl).trans HP.out.2
                  exact Reg.obl_want rfl rfl e32 (Reg.wp_eqv (Option.some_ne_none _) (by go_simp) rfl)
                · intro ax wx hx hs
                  obtain ⟨e1, e32, -⟩ := hs
                  have g1 := Reg.ev (v := .pointer (some ⟨w.heap.size, 0, none⟩)) e1
                  have g32 := Reg.ev (v := .bool true) e32
                  exact Reg.obl_want rfl rfl e32 (Reg.wp_eqv (Option.some_ne_none _) (by go_simp) rfl)
                · intro ax wx hx hs
                  obtain ⟨e39, e32, -⟩ := hs
                  have g39 := Reg.ev (v := .pointer (some ⟨w.heap.size, 0, none⟩)) e39
                  have g32 := Reg.ev (v := .bool true) e32
                  have l0 := str2 (HT2.out.next hx)
                  have hx2 : Below wr.heap.size wr wx := hx
                  have l2 := (hx2.cell (p := ⟨b, o + i * 3, none⟩) hbl).trans HC.out.1
                  have l3 := (hx2.cell (p := ⟨b, o + i * 3 + 1, none⟩) hbl).trans HC.out.2
                  have l4 := (hx2.cell (p := ⟨b, o + j * 3, none⟩) hbl).trans HP.out.1
                  have l5 := (hx2.cell (p := ⟨b, o + j * 3 + 1, none⟩) hbl).trans HP.out.2
                  exact Reg.obl_want rfl rfl e32 (Reg.wp_eqv (Option.some_ne_none _) (by go_simp) rfl)
                · intro ax wx hx hs
                  obtain ⟨e4, e32, -⟩ := hs
                  have g4 := Reg.ev (v := .int .i64 (i : Int)) e4
                  have g32 := Reg.ev (v := .bool true) e32
                  exact Reg.obl_want rfl rfl e32 (Reg.wp_eqv (Option.some_ne_none _) (by go_simp) rfl)
                · intro ax wx hx hs
                  obtain ⟨e40, e41, e32, -⟩ := hs
                  have g40 := Reg.ev (v := .slice (some ⟨b, o, none⟩) n c) e40
                  have g41 := Reg.ev (v := .int .i64 (i : Int)) e41
                  have g32 := Reg.ev (v := .bool true) e32
                  exact Reg.obl_want rfl rfl e32 (Reg.wp_eqv (Option.some_ne_none _) (by go_simp) rfl)
                · intro ax wx hx hs
                  obtain ⟨e42, e32, -⟩ := hs
                  have g42 := Reg.ev (v := .pointer (some ⟨b, o + i * 3, none⟩)) e42
                  have g32 := Reg.ev (v := .bool true) e32
                  exact Reg.obl_want rfl rfl e32 (Reg.wp_eqv (Option.some_ne_none _) (by go_simp) rfl)
                · intro ax wx hx hs
                  obtain ⟨e43, e32, -⟩ := hs
                  have g43 := Reg.ev (v := .pointer (some ⟨b, o + i * 3 + 1, none⟩)) e43
                  have g32 := Reg.ev (v := .bool true) e32
                  have l0 := str2 (HT2.out.next hx)
                  have hx2 : Below wr.heap.size wr wx := hx
                  have l2 := (hx2.cell (p := ⟨b, o + i * 3, none⟩) hbl).trans HC.out.1
                  have l3 := (hx2.cell (p := ⟨b, o + i * 3 + 1, none⟩) hbl).trans HC.out.2
                  have l4 := (hx2.cell (p := ⟨b, o + j * 3, none⟩) hbl).trans HP.out.1
                  have l5 := (hx2.cell (p := ⟨b, o + j * 3 + 1, none⟩) hbl).trans HP.out.2
                  exact Reg.obl_want rfl rfl e32 (Reg.wp_eqv (Option.some_ne_none _) (by go_simp) rfl)
                · intro ax wx hx hs
                  obtain ⟨e38, e44, e32, -⟩ := hs
                  have g38 := Reg.ev (v := .string p.key) e38
                  have g44 := Reg.ev (v := .string e.key) e44
                  have g32 := Reg.ev (v := .bool true) e32
                  exact Reg.obl_want rfl rfl e32 (Reg.wp_eqv (Option.some_ne_none _) (by go_simp) rfl)
                · intro ax wx hx hs
                  obtain ⟨e32, e45, -⟩ := hs
                  have g32 := Reg.ev (v := .bool true) e32
                  have g45 := Reg.ev (v := .bool true) e45
                  exact Reg.obl_free rfl (Reg.wp_eqv (Option.some_ne_none _) (by go_simp) rfl)
              · intro W3 hwf
                simp only [Reg.Fin]
                rintro _ rfl _ rfl _ rfl _ rfl _ rfl _ rfl _ rfl _ rfl _ rfl _ rfl _ rfl _ rfl _ rfl _ rfl _ rfl _ rfl _ rfl _ rfl _ rfl _ rfl _ rfl _ rfl _ rfl _ rfl _ rfl _ rfl _ rfl _ rfl
                go_simp
                have HB3 := Lib.hid (bstep HB2.out hwf)
                clear hwf
                go_wp2_with fail
                go_roundw
                case rel => exact ⟨j + 1, by omega, by rw [hnx'], by go_num, HB3⟩
                case measure => simp [intOf]; omega
            · have hd4 := str_ne hk
              have hnx' : newR x.h (j + 1) e = newR x.h j e := by rw [hnx]; simp [hk]
              clear hnx hu hk
              go_wp2_with fail
              refine Reg.wp_region_vals (R := ext) (W := wr) [Reg.eqv (.pointer (some ⟨w.heap.size, 0, none⟩)), Reg.eqv (.slice (some ⟨b, o, none⟩) n c), Reg.eqv (.int .i64 (j : Int)), Reg.eqv (.pointer (some ⟨b, o + j * 3, none⟩)), Reg.eqv (.pointer (some ⟨b, o + j * 3, none⟩)), Reg.eqv (.int .i64 p.txn), Reg.eqv (.pointer (some ⟨w.heap.size, 0, none⟩)), Reg.eqv (.slice (some ⟨b, o, none⟩) n c), Reg.eqv (.int .i64 (i : Int)), Reg.eqv (.pointer (some ⟨b, o + i * 3, none⟩)), Reg.eqv (.pointer (some ⟨b, o + i * 3, none⟩)), Reg.eqv (.int .i64 e.txn), Reg.eqv (.bool true), Reg.eqv (.bool true), Reg.eqv (.pointer (some ⟨w.heap.size, 0, none⟩)), Reg.eqv (.slice (some ⟨b, o, none⟩) n c), Reg.eqv (.int .i64 (j : Int)), Reg.eqv (.pointer (some ⟨b, o + j * 3, none⟩)), Reg.eqv (.pointer (some ⟨b, o + j * 3 + 1, none⟩)), Reg.eqv (.string p.key), Reg.eqv (.pointer (some ⟨w.heap.size, 0, none⟩)), Reg.eqv (.slice (some ⟨b, o, none⟩) n c), Reg.eqv (.int .i64 (i : Int)), Reg.eqv (.pointer (some ⟨b, o + i * 3, none⟩)), Reg.eqv (.pointer (some ⟨b, o + i * 3 + 1, none⟩)), Reg.eqv (.string e.key), Reg.eqv (.bool false), Reg.eqv (.bool false)] 51 [[(1, none)], [(19, some 0)], [(6, none)], [(20, some 1), (21, some 2)], [(22, some 3)], [(23, some 4)], [(1, none)], [(25, some 6)], [(4, none)], [(26, some 7), (27, some 8)], [(28, some 9)], [(29, some 10)], [(24, some 5), (30, some 11)], [(31, some 12)], [(1, none), (32, some 13)], [(33, some 14), (32, some 13)], [(6, none), (32, some 13)], [(34, some 15), (35, some 16), (32, some 13)], [(36, some 17), (32, some 13)], [(37, some 18), (32, some 13)], [(1, none), (32, some 13)], [(39, some 20), (32, some 13)], [(4, none), (32, some 13)], [(40, some 21), (41, some 22), (32, some 13)], [(42, some 23), (32, some 13)], [(43, some 24), (32, some 13)], [(38, some 19), (44, some 25), (32, some 13)], [(32, some 13), (45, some 26)]] rfl (by kernel_rfl) (by kernel_rfl) (by kernel_rfl) ?_ [some 19, some 20, some 21, some 22, some 23, some 24, some 25, some 26, some 27, some 28, some 29, some 30, some 31, some 32, some 33, some 34, some 35, some 36, some 37, some 38, some 39, some 40, some 41, some 42, some 43, some 44, some 45, some 46] (by kernel_rfl) ?_
              · refine ⟨?_, ?_, ?_, ?_, ?_, ?_, ?_, ?_, ?_, ?_, ?_, ?_, ?_, ?_, ?_, ?_, ?_, ?_, ?_, ?_, ?_, ?_, ?_, ?_, ?_, ?_, ?_, ?_, trivial⟩
                · intro ax wx hx hs
                  obtain ⟨e1, -⟩ := hs
                  have g1 := Reg.ev (v := .pointer (some ⟨w.heap.size, 0, none⟩)) e1
                  exact Reg.obl_free rfl (Reg.wp_eqv (Option.some_ne_none _) (by go_simp) rfl)
                · intro ax wx hx hs
                  obtain ⟨e19, -⟩ := hs
                  have g19 := Reg.ev (v := .pointer (some ⟨w.heap.size, 0, none⟩)) e19
                  have l0 := str2 (HT2.out.next hx)
                  have hx2 : Below wr.heap.size wr wx := hx
                  have l2 := (hx2.cell (p := ⟨b, o + i * 3, none⟩) hbl).trans HC.out.1
                  have l3 := (hx2.cell (p := ⟨b, o + i * 3 + 1, none⟩) hbl).trans HC.out.2
                  have l4 := (hx2.cell (p := ⟨b, o + j * 3, none⟩) hbl).trans HP.out.1
                  have l5 := (hx2.cell (p := ⟨b, o + j * 3 + 1, none⟩) hbl).trans HP.out.2
                  exact Reg.obl_free rfl (Reg.wp_eqv (Option.some_ne_none _) (by go_simp) rfl)
                · intro ax wx hx hs
                  obtain ⟨e6, -⟩ := hs
                  have g6 := Reg.ev (v := .int .i64 (j : Int)) e6
                  exact Reg.obl_free rfl (Reg.wp_eqv (Option.some_ne_none _) (by go_simp) rfl)
                · intro ax wx hx hs
                  obtain ⟨e20, e21, -⟩ := hs
                  have g20 := Reg.ev (v := .slice (some ⟨b, o, none⟩) n c) e20
                  have g21 := Reg.ev (v := .int .i64 (j : Int)) e21
                  exact Reg.obl_free rfl (Reg.wp_eqv (Option.some_ne_none _) (by go_simp) rfl)
                · intro ax wx hx hs
                  obtain ⟨e22, -⟩ := hs
                  have g22 := Reg.ev (v := .pointer (some ⟨b, o + j * 3, none⟩)) e22
                  exact Reg.obl_free rfl (Reg.wp_eqv (Option.some_ne_none _) (by go_simp) rfl)
                · intro ax wx hx hs
                  obtain ⟨e23, -⟩ := hs
                  have g23 := Reg.ev (v := .pointer (some ⟨b, o + j * 3, none⟩)) e23
                  have l0 := str2 (HT2.out.next hx)
                  have hx2 : Below wr.heap.size wr wx := hx
                  have l2 := (hx2.cell (p := ⟨b, o + i * 3, none⟩) hbl).trans HC.out.1
                  have l3 := (hx2.cell (p := ⟨b, o + i * 3 + 1, none⟩) hbl).trans HC.out.2
                  have l4 := (hx2.cell (p := ⟨b, o + j * 3, none⟩) hbl).trans HP.out.1
                  have l5 := (hx2.cell (p := ⟨b, o + j * 3 + 1, none⟩) hbl).trans HP.out.2
                  exact Reg.obl_free rfl (Reg.wp_eqv (Option.some_ne_none _) (by go_simp) rfl)
                · intro ax wx hx hs
                  obtain ⟨e1, -⟩ := hs
                  have g1 := Reg.ev (v := .pointer (some ⟨w.heap.size, 0, none⟩)) e1
                  exact Reg.obl_free rfl (Reg.wp_eqv (Option.some_ne_none _) (by go_simp) rfl)
                · intro ax wx hx hs
                  obtain ⟨e25, -⟩ := hs
                  have g25 := Reg.ev (v := .pointer (some ⟨w.heap.size, 0, none⟩)) e25
                  have l0 := str2 (HT2.out.next hx)
                  have hx2 : Below wr.heap.size wr wx := hx
                  have l2 := (hx2.cell (p := ⟨b, o + i * 3, none⟩) hbl).trans HC.out.1
                  have l3 := (hx2.cell (p := ⟨b, o + i * 3 + 1, none⟩) hbl).trans HC.out.2
                  have l4 := (hx2.cell (p := ⟨b, o + j * 3, none⟩) hbl).trans HP.out.1
                  have l5 := (hx2.cell (p := ⟨b, o + j * 3 + 1, none⟩) hbl).trans HP.out.2
                  exact Reg.obl_free rfl (Reg.wp_eqv (Option.some_ne_none _) (by go_simp) rfl)
                · intro ax wx hx hs
                  obtain ⟨e4, -⟩ := hs
                  have g4 := Reg.ev (v := .int .i64 (i : Int)) e4
                  exact Reg.obl_free rfl (Reg.wp_eqv (Option.some_ne_none _) (by go_simp) rfl)
                · intro ax wx hx hs
                  obtain ⟨e26, e27, -⟩ := hs
                  have g26 := Reg.ev (v := .slice (some ⟨b, o, none⟩) n c) e26
                  have g27 := Reg.ev (v := .int .i64 (i : Int)) e27
                  exact Reg.obl_free rfl (Reg.wp_eqv (Option.some_ne_none _) (by go_simp) rfl)
                · intro ax wx hx hs
                  obtain ⟨e28, -⟩ := hs
                  have g28 := Reg.ev (v := .pointer (some ⟨b, o + i * 3, none⟩)) e28
                  exact Reg.obl_free rfl (Reg.wp_eqv (Option.some_ne_none _) (by go_simp) rfl)
                · intro ax wx hx hs
                  obtain ⟨e29, -⟩ := hs
                  have g29 := Reg.ev (v := .pointer (some ⟨b, o + i * 3, none⟩)) e29
                  have l0 := str2 (HT2.out.next hx)
                  have hx2 : Below wr.heap.size wr wx := hx
                  have l2 := (hx2.cell (p := ⟨b, o + i * 3, none⟩) hbl).trans HC.out.1
                  have l3 := (hx2.cell (p := ⟨b, o + i * 3 + 1, none⟩) hbl).trans HC.out.2
                  have l4 := (hx2.cell (p := ⟨b, o + j * 3, none⟩) hbl).trans HP.out.1
                  have l5 := (hx2.cell (p := ⟨b, o + j * 3 + 1, none⟩) hbl).trans HP.out.2
                  exact Reg.obl_free rfl (Reg.wp_eqv (Option.some_ne_none _) (by go_simp) rfl)
                · intro ax wx hx hs
                  obtain ⟨e24, e30, -⟩ := hs
                  have g24 := Reg.ev (v := .int .i64 p.txn) e24
                  have g30 := Reg.ev (v := .int .i64 e.txn) e30
                  exact Reg.obl_free rfl (Reg.wp_eqv (Option.some_ne_none _) (by go_simp) rfl)
                · intro ax wx hx hs
                  obtain ⟨e31, -⟩ := hs
                  have g31 := Reg.ev (v := .bool true) e31
                  exact Reg.obl_free rfl (Reg.wp_eqv (Option.some_ne_none _) (by go_simp) rfl)
                · intro ax wx hx hs
                  obtain ⟨e1, e32, -⟩ := hs
                  have g1 := Reg.ev (v := .pointer (some ⟨w.heap.size, 0, none⟩)) e1
                  have g32 := Reg.ev (v := .bool true) e32
                  exact Reg.obl_want rfl rfl e32 (Reg.wp_eqv (Option.some_ne_none _) (by go_simp) rfl)
                · intro ax wx hx hs
                  obtain ⟨e33, e32, -⟩ := hs
                  have g33 := Reg.ev (v := .pointer (some ⟨w.heap.size, 0, none⟩)) e33
                  have g32 := Reg.ev (v := .bool true) e32
                  have l0 := str2 (HT2.out.next hx)
                  have hx2 : Below wr.heap.size wr wx := hx
                  have l2 := (hx2.cell (p := ⟨b, o + i * 3, none⟩) hbl).trans HC.out.1
                  have l3 := (hx2.cell (p := ⟨b, o + i * 3 + 1, none⟩) hbl).trans HC.out.2
                  have l4 := (hx2.cell (p := ⟨b, o + j * 3, none⟩) hbl).trans HP.out.1
                  have l5 := (hx2.cell (p := ⟨b, o + j * 3 + 1, none⟩) hbl).trans HP.out.2
                  exact Reg.obl_want rfl rfl e32 (Reg.wp_eqv (Option.some_ne_none _) (by go_simp) rfl)
                · intro ax wx hx hs
                  obtain ⟨e6, e32, -⟩ := hs
                  have g6 := Reg.ev (v := .int .i64 (j : Int)) e6
                  have g32 := Reg.ev (v := .bool true) e32
                  exact Reg.obl_want rfl rfl e32 (Reg.wp_eqv (Option.some_ne_none _) (by go_simp) rfl)
                · intro ax wx hx hs
                  obtain ⟨e34, e35, e32, -⟩ := hs
                  have g34 := Reg.ev (v := .slice (some ⟨b, o, none⟩) n c) e34
                  have g35 := Reg.ev (v := .int .i64 (j : Int)) e35
                  have g32 := Reg.ev (v := .bool true) e32
                  exact Reg.obl_want rfl rfl e32 (Reg.wp_eqv (Option.some_ne_none _) (by go_simp) rfl)
                · intro ax wx hx hs
                  obtain ⟨e36, e32, -⟩ := hs
                  have g36 := Reg.ev (v := .pointer (some ⟨b, o + j * 3, none⟩)) e36
                  have g32 := Reg.ev (v := .bool true) e32
                  exact Reg.obl_want rfl rfl e32 (Reg.wp_eqv (Option.some_ne_none _) (by go_simp) rfl)
                · intro ax wx hx hs
                  obtain ⟨e37, e32, -⟩ := hs
                  have g37 := Reg.ev (v := .pointer (some ⟨b, o + j * 3 + 1, none⟩)) e37
                  have g32 := Reg.ev (v := .bool true) e32
                  have l0 := str2 (HT2.out.next hx)
                  have hx2 : Below wr.heap.size wr wx := hx
                  have l2 := (hx2.cell (p := ⟨b, o + i * 3, none⟩) hbl).trans HC.out.1
                  have l3 := (hx2.cell (p := ⟨b, o + i * 3 + 1, none⟩) hbl).trans HC.out.2
                  have l4 := (hx2.cell (p := ⟨b, o + j * 3, none⟩) hbl).trans HP.out.1
                  have l5 := (hx2.cell (p := ⟨b, o + j * 3 + 1, none⟩) hbl).trans HP.out.2
                  exact Reg.obl_want rfl rfl e32 (Reg.wp_eqv (Option.some_ne_none _) (by go_simp) rfl)
                · intro ax wx hx hs
                  obtain ⟨e1, e32, -⟩ := hs
                  have g1 := Reg.ev (v := .pointer (some ⟨w.heap.size, 0, none⟩)) e1
                  have g32 := Reg.ev (v := .bool true) e32
                  exact Reg.obl_want rfl rfl e32 (Reg.wp_eqv (Option.some_ne_none _) (by go_simp) rfl)
                · intro ax wx hx hs
                  obtain ⟨e39, e32, -⟩ := hs
                  have g39 := Reg.ev (v := .pointer (some ⟨w.heap.size, 0, none⟩)) e39
                  have g32 := Reg.ev (v := .bool true) e32
                  have l0 := str2 (HT2.out.next hx)
                  have hx2 : Below wr.heap.size wr wx := hx
                  have l2 := (hx2.cell (p := ⟨b, o + i * 3, none⟩) hbl).trans HC.out.1
                  have l3 := (hx2.cell (p := ⟨b, o + i * 3 + 1, none⟩) hbl).trans HC.out.2
                  have l4 := (hx2.cell (p := ⟨b, o + j * 3, none⟩) hbl).trans HP.out.1
                  have l5 := (hx2.cell (p := ⟨b, o + j * 3 + 1, none⟩) hbl).trans HP.out.2
                  exact Reg.obl_want rfl rfl e32 (Reg.wp_eqv (Option.some_ne_none _) (by go_simp) rfl)
                · intro ax wx hx hs
                  obtain ⟨e4, e32, -⟩ := hs
                  have g4 := Reg.ev (v := .int .i64 (i : Int)) e4
                  have g32 := Reg.ev (v := .bool true) e32
                  exact Reg.obl_want rfl rfl e32 (Reg.wp_eqv (Option.some_ne_none _) (by go_simp) rfl)
                · intro ax wx hx hs
                  obtain ⟨e40, e41, e32, -⟩ := hs
                  have g40 := Reg.ev (v := .slice (some ⟨b, o, none⟩) n c) e40
                  have g41 := Reg.ev (v := .int .i64 (i : Int)) e41
                  have g32 := Reg.ev (v := .bool true) e32
                  exact Reg.obl_want rfl rfl e32 (Reg.wp_eqv (Option.some_ne_none _) (by go_simp) rfl)
                · intro ax wx hx hs
                  obtain ⟨e42, e32, -⟩ := hs
                  have g42 := Reg.ev (v := .pointer (some ⟨b, o + i * 3, none⟩)) e42
                  have g32 := Reg.ev (v := .bool true) e32
                  exact Reg.obl_want rfl rfl e32 (Reg.wp_eqv (Option.some_ne_none _) (by go_simp) rfl)
                · intro ax wx hx hs
                  obtain ⟨e43, e32, -⟩ := hs
                  have g43 := Reg.ev (v := .pointer (some ⟨b, o + i * 3 + 1, none⟩)) e43
                  have g32 := Reg.ev (v := .bool true) e32
                  have l0 := str2 (HT2.out.next hx)
                  have hx2 : Below wr.heap.size wr wx := hx
                  have l2 := (hx2.cell (p := ⟨b, o + i * 3, none⟩) hbl).trans HC.out.1
                  have l3 := (hx2.cell (p := ⟨b, o + i * 3 + 1, none⟩) hbl).trans HC.out.2
                  have l4 := (hx2.cell (p := ⟨b, o + j * 3, none⟩) hbl).trans HP.out.1
                  have l5 := (hx2.cell (p := ⟨b, o + j * 3 + 1, none⟩) hbl).trans HP.out.2
                  exact Reg.obl_want rfl rfl e32 (Reg.wp_eqv (Option.some_ne_none _) (by go_simp) rfl)
                · intro ax wx hx hs
                  obtain ⟨e38, e44, e32, -⟩ := hs
                  have g38 := Reg.ev (v := .string p.key) e38
                  have g44 := Reg.ev (v := .string e.key) e44
                  have g32 := Reg.ev (v := .bool true) e32
                  exact Reg.obl_want rfl rfl e32 (Reg.wp_eqv (Option.some_ne_none _) (by go_simp) rfl)
                · intro ax wx hx hs
                  obtain ⟨e32, e45, -⟩ := hs
                  have g32 := Reg.ev (v := .bool true) e32
                  have g45 := Reg.ev (v := .bool false) e45
                  exact Reg.obl_free rfl (Reg.wp_eqv (Option.some_ne_none _) (by go_simp) rfl)
              · intro W3 hwf
                simp only [Reg.Fin]
                rintro _ rfl _ rfl _ rfl _ rfl _ rfl _ rfl _ rfl _ rfl _ rfl _ rfl _ rfl _ rfl _ rfl _ rfl _ rfl _ rfl _ rfl _ rfl _ rfl _ rfl _ rfl _ rfl _ rfl _ rfl _ rfl _ rfl _ rfl _ rfl
                go_simp
                have HB3 := Lib.hid (bstep HB2.out hwf)
                clear hwf
                go_wp2_with fail
                go_roundw
                case rel => exact ⟨j + 1, by omega, by rw [hnx'], by go_num, HB3⟩
                case measure => simp [intOf]; omega
          · have hd3 : (p.txn == e.txn) = false := by simpa using hu
            have hnx' : newR x.h (j + 1) e = newR x.h j e := by rw [hnx]; simp [hu]
            clear hnx hu
            go_wp2_with fail
            refine Reg.wp_region_vals (R := ext) (W := wr) [Reg.eqv (.pointer (some ⟨w.heap.size, 0, none⟩)), Reg.eqv (.slice (some ⟨b, o, none⟩) n c), Reg.eqv (.int .i64 (j : Int)), Reg.eqv (.pointer (some ⟨b, o + j * 3, none⟩)), Reg.eqv (.pointer (some ⟨b, o + j * 3, none⟩)), Reg.eqv (.int .i64 p.txn), Reg.eqv (.pointer (some ⟨w.heap.size, 0, none⟩)), Reg.eqv (.slice (some ⟨b, o, none⟩) n c), Reg.eqv (.int .i64 (i : Int)), Reg.eqv (.pointer (some ⟨b, o + i * 3, none⟩)), Reg.eqv (.pointer (some ⟨b, o + i * 3, none⟩)), Reg.eqv (.int .i64 e.txn), Reg.eqv (.bool false), Reg.eqv (.bool false), Reg.eqv undef, Reg.eqv undef, Reg.eqv undef, Reg.eqv undef, Reg.eqv undef, Reg.eqv undef, Reg.eqv undef, Reg.eqv undef, Reg.eqv undef, Reg.eqv undef, Reg.eqv undef, Reg.eqv undef, Reg.eqv undef, Reg.eqv (.bool false)] 51 [[(1, none)], [(19, some 0)], [(6, none)], [(20, some 1), (21, some 2)], [(22, some 3)], [(23, some 4)], [(1, none)], [(25, some 6)], [(4, none)], [(26, some 7), (27, some 8)], [(28, some 9)], [(29, some 10)], [(24, some 5), (30, some 11)], [(31, some 12)], [(1, none), (32, some 13)], [(33, some 14), (32, some 13)], [(6, none), (32, some 13)], [(34, some 15), (35, some 16), (32, some 13)], [(36, some 17), (32, some 13)], [(37, some 18), (32, some 13)], [(1, none), (32, some 13)], [(39, some 20), (32, some 13)], [(4, none), (32, some 13)], [(40, some 21), (41, some 22), (32, some 13)], [(42, some 23), (32, some 13)], [(43, some 24), (32, some 13)], [(38, some 19), (44, some 25), (32, some 13)], [(32, some 13), (45, some 26)]] rfl (by kernel_rfl) (by kernel_rfl) (by kernel_rfl) ?_ [some 19, some 20, some 21, some 22, some 23, some 24, some 25, some 26, some 27, some 28, some 29, some 30, some 31, some 32, some 33, some 34, some 35, some 36, some 37, some 38, some 39, some 40, some 41, some 42, some 43, some 44, some 45, some 46] (by kernel_rfl) ?_
            · refine ⟨?_, ?_, ?_, ?_, ?_, ?_, ?_, ?_, ?_, ?_, ?_, ?_, ?_, ?_, ?_, ?_, ?_, ?_, ?_, ?_, ?_, ?_, ?_, ?_, ?_, ?_, ?_, ?_, trivial⟩
              · intro ax wx hx hs
                obtain ⟨e1, -⟩ := hs
                have g1 := Reg.ev (v := .pointer (some ⟨w.heap.size, 0, none⟩)) e1
                exact Reg.obl_free rfl (Reg.wp_eqv (Option.some_ne_none _) (by go_simp) rfl)
              · intro ax wx hx hs
                obtain ⟨e19, -⟩ := hs
                have g19 := Reg.ev (v := .pointer (some ⟨w.heap.size, 0, none⟩)) e19
                have l0 := str2 (HT2.out.next hx)
                have hx2 : Below wr.heap.size wr wx := hx
                have l2 := (hx2.cell (p := ⟨b, o + i * 3, none⟩) hbl).trans HC.out.1
                have l3 := (hx2.cell (p := ⟨b, o + i * 3 + 1, none⟩) hbl).trans HC.out.2
                have l4 := (hx2.cell (p := ⟨b, o + j * 3, none⟩) hbl).trans HP.out.1
                have l5 := (hx2.cell (p := ⟨b, o + j * 3 + 1, none⟩) hbl).trans HP.out.2
                exact Reg.obl_free rfl (Reg.wp_eqv (Option.some_ne_none _) (by go_simp) rfl)
              · intro ax wx hx hs
                obtain ⟨e6, -⟩ := hs
                have g6 := Reg.ev (v := .int .i64 (j : Int)) e6
                exact Reg.obl_free rfl (Reg.wp_eqv (Option.some_ne_none _) (by go_simp) rfl)
              · intro ax wx hx hs
                obtain ⟨e20, e21, -⟩ := hs
                have g20 := Reg.ev (v := .slice (some ⟨b, o, none⟩) n c) e20
                have g21 := Reg.ev (v := .int .i64 (j : Int)) e21
                exact Reg.obl_free rfl (Reg.wp_eqv (Option.some_ne_none _) (by go_simp) rfl)
              · intro ax wx hx hs
                obtain ⟨e22, -⟩ := hs
                have g22 := Reg.ev (v := .pointer (some ⟨b, o + j * 3, none⟩)) e22
                exact Reg.obl_free rfl (Reg.wp_eqv (Option.some_ne_none _) (by go_simp) rfl)
              · intro ax wx hx hs
                obtain ⟨e23, -⟩ := hs
                have g23 := Reg.ev (v := .pointer (some ⟨b, o + j * 3, none⟩)) e23
                have l0 := str2 (HT2.out.next hx)
                have hx2 : Below wr.heap.size wr wx := hx
                have l2 := (hx2.cell (p := ⟨b, o + i * 3, none⟩) hbl).trans HC.out.1
                have l3 := (hx2.cell (p := ⟨b, o + i * 3 + 1, none⟩) hbl).trans HC.out.2
                have l4 := (hx2.cell (p := ⟨b, o + j * 3, none⟩) hbl).trans HP.out.1
                have l5 := (hx2.cell (p := ⟨b, o + j * 3 + 1, none⟩) hbl).trans HP.out.2
                exact Reg.obl_free rfl (Reg.wp_eqv (Option.some_ne_none _) (by go_simp) rfl)
              · intro ax wx hx hs
                obtain ⟨e1, -⟩ := hs
                have g1 := Reg.ev (v := .pointer (some ⟨w.heap.size, 0, none⟩)) e1
                exact Reg.obl_free rfl (Reg.wp_eqv (Option.some_ne_none _) (by go_simp) rfl)
              · intro ax wx hx hs
                obtain ⟨e25, -⟩ := hs
                have g25 := Reg.ev (v := .pointer (some ⟨w.heap.size, 0, none⟩)) e25
                have l0 := str2 (HT2.out.next hx)
                have hx2 : Below wr.heap.size wr wx := hx
                have l2 := (hx2.cell (p := ⟨b, o + i * 3, none⟩) hbl).trans HC.out.1
                have l3 := (hx2.cell (p := ⟨b, o + i * 3 + 1, none⟩) hbl).trans HC.out.2
                have l4 := (hx2.cell (p := ⟨b, o + j * 3, none⟩) hbl).trans HP.out.1
                have l5 := (hx2.cell (p := ⟨b, o + j * 3 + 1, none⟩) hbl).trans HP.out.2
                exact Reg.obl_free rfl (Reg.wp_eqv (Option.some_ne_none _) (by go_simp) rfl)
              · intro ax wx hx hs
                obtain ⟨e4, -⟩ := hs
                have g4 := Reg.ev (v := .int .i64 (i : Int)) e4
                exact Reg.obl_free rfl (Reg.wp_eqv (Option.some_ne_none _) (by go_simp) rfl)
              · intro ax wx hx hs
                obtain ⟨e26, e27, -⟩ := hs
                have g26 := Reg.ev (v := .slice (some ⟨b, o, none⟩) n c) e26
                have g27 := Reg.ev (v := .int .i64 (i : Int)) e27
                exact Reg.obl_free rfl (Reg.wp_eqv (Option.some_ne_none _) (by go_simp) rfl)
              · intro ax wx hx hs
                obtain ⟨e28, -⟩ := hs
                have g28 := Reg.ev (v := .pointer (some ⟨b, o + i * 3, none⟩)) e28
                exact Reg.obl_free rfl (Reg.wp_eqv (Option.some_ne_none _) (by go_simp) rfl)
              · intro ax wx hx hs
                obtain ⟨e29, -⟩ := hs
                have g29 := Reg.ev (v := .pointer (some ⟨b, o + i * 3, none⟩)) e29
                have l0 := str2 (HT2.out.next hx)
                have hx2 : Below wr.heap.size wr wx := hx
                have l2 := (hx2.cell (p := ⟨b, o + i * 3, none⟩) hbl).trans HC.out.1
                have l3 := (hx2.cell (p := ⟨b, o + i * 3 + 1, none⟩) hbl).trans HC.out.2
                have l4 := (hx2.cell (p := ⟨b, o + j * 3, none⟩) hbl).trans HP.out.1
                have l5 := (hx2.cell (p := ⟨b, o + j * 3 + 1, none⟩) hbl).trans HP.out.2
                exact Reg.obl_free rfl (Reg.wp_eqv (Option.some_ne_none _) (by go_simp) rfl)
              · intro ax wx hx hs
                obtain ⟨e24, e30, -⟩ := hs
                have g24 := Reg.ev (v := .int .i64 p.txn) e24
                have g30 := Reg.ev (v := .int .i64 e.txn) e30
                exact Reg.obl_free rfl (Reg.wp_eqv (Option.some_ne_none _) (by go_simp) rfl)
              · intro ax wx hx hs
                obtain ⟨e31, -⟩ := hs
                have g31 := Reg.ev (v := .bool false) e31
                exact Reg.obl_free rfl (Reg.wp_eqv (Option.some_ne_none _) (by go_simp) rfl)
              · intro ax wx hx hs
                obtain ⟨e1, e32, -⟩ := hs
                have g1 := Reg.ev (v := .pointer (some ⟨w.heap.size, 0, none⟩)) e1
                have g32 := Reg.ev (v := .bool false) e32
                exact Reg.obl_skip rfl rfl e32 rfl rfl
              · intro ax wx hx hs
                obtain ⟨e33, e32, -⟩ := hs
                have g33 := Reg.ev (v := undef) e33
                have g32 := Reg.ev (v := .bool false) e32
                exact Reg.obl_skip rfl rfl e32 rfl rfl
              · intro ax wx hx hs
                obtain ⟨e6, e32, -⟩ := hs
                have g6 := Reg.ev (v := .int .i64 (j : Int)) e6
                have g32 := Reg.ev (v := .bool false) e32
                exact Reg.obl_skip rfl rfl e32 rfl rfl
              · intro ax wx hx hs
                obtain ⟨e34, e35, e32, -⟩ := hs
                have g34 := Reg.ev (v := undef) e34
                have g35 := Reg.ev (v := undef) e35
                have g32 := Reg.ev (v := .bool false) e32
                exact Reg.obl_skip rfl rfl e32 rfl rfl
              · intro ax wx hx hs
                obtain ⟨e36, e32, -⟩ := hs
                have g36 := Reg.ev (v := undef) e36
                have g32 := Reg.ev (v := .bool false) e32
                exact Reg.obl_skip rfl rfl e32 rfl rfl
              · intro ax wx hx hs
                obtain ⟨e37, e32, -⟩ := hs
                have g37 := Reg.ev (v := undef) e37
                have g32 := Reg.ev (v := .bool false) e32
                exact Reg.obl_skip rfl rfl e32 rfl rfl
              · intro ax wx hx hs
                obtain ⟨e1, e32, -⟩ := hs
                have g1 := Reg.ev (v := .pointer (some ⟨w.heap.size, 0, none⟩)) e1
                have g32 := Reg.ev (v := .bool false) e32
                exact Reg.obl_skip rfl rfl e32 rfl rfl
              · intro ax wx hx hs
                obtain ⟨e39, e32, -⟩ := hs
                have g39 := Reg.ev (v := undef) e39
                have g32 := Reg.ev (v := .bool false) e32
                exact Reg.obl_skip rfl rfl e32 rfl rfl
              · intro ax wx hx hs
                obtain ⟨e4, e32, -⟩ := hs
                have g4 := Reg.ev (v := .int .i64 (i : Int)) e4
                have g32 := Reg.ev (v := .bool false) e32
                exact Reg.obl_skip rfl rfl e32 rfl rfl
              · intro ax wx hx hs
                obtain ⟨e40, e41, e32, -⟩ := hs
                have g40 := Reg.ev (v := undef) e40
                have g41 := Reg.ev (v := undef) e41
                have g32 := Reg.ev (v := .bool false) e32
                exact Reg.obl_skip rfl rfl e32 rfl rfl
              · intro ax wx hx hs
                obtain ⟨e42, e32, -⟩ := hs
                have g42 := Reg.ev (v := undef) e42
                have g32 := Reg.ev (v := .bool false) e32
                exact Reg.obl_skip rfl rfl e32 rfl rfl
              · intro ax wx hx hs
                obtain ⟨e43, e32, -⟩ := hs
                have g43 := Reg.ev (v := undef) e43
                have g32 := Reg.ev (v := .bool false) e32
                exact Reg.obl_skip rfl rfl e32 rfl rfl
              · intro ax wx hx hs
                obtain ⟨e38, e44, e32, -⟩ := hs
                have g38 := Reg.ev (v := undef) e38
                have g44 := Reg.ev (v := undef) e44
                have g32 := Reg.ev (v := .bool false) e32
                exact Reg.obl_skip rfl rfl e32 rfl rfl
              · intro ax wx hx hs
                obtain ⟨e32, e45, -⟩ := hs
                have g32 := Reg.ev (v := .bool false) e32
                have g45 := Reg.ev (v := undef) e45
                exact Reg.obl_free rfl (Reg.wp_eqv (Option.some_ne_none _) (by go_simp) rfl)
            · intro W3 hwf
              simp only [Reg.Fin]
              rintro _ rfl _ rfl _ rfl _ rfl _ rfl _ rfl _ rfl _ rfl _ rfl _ rfl _ rfl _ rfl _ rfl _ rfl _ rfl _ rfl _ rfl _ rfl _ rfl _ rfl _ rfl _ rfl _ rfl _ rfl _ rfl _ rfl _ rfl _ rfl
              go_simp
              have HB3 := Lib.hid (bstep HB2.out hwf)
              clear hwf
              go_wp2_with fail
              go_roundw
              case rel => exact ⟨j + 1, by omega, by rw [hnx'], by go_num, HB3⟩
              case measure => simp [intOf]; omega
        · have hd2 : decide ((j : Int) < (i : Int)) = false := by simp; omega
          obtain rfl : j = i := by omega
          have HB3 := Lib.hid (bstep HB.out HB2.out)
          cases hf : newR x.h j e with
          | true =>
            rw [hf, if_pos rfl] at hup
            clear hf
            go_wp2_with fail
            go_roundw
            case rel => exact ⟨j + 1, by omega, by rw [hup]; go_num, by go_num, HB3⟩
            case measure => simp [intOf]; omega
          | false =>
            rw [hf, if_neg (by decide)] at hup
            clear hf
            go_wp2_with fail
            go_roundw
            case rel => exact ⟨j + 1, by omega, by rw [hup]; rfl, by go_num, HB3⟩
            case measure => simp [intOf]; omega
    · have hd : decide ((i : Int) < (n : Int)) = false := by simp; omega
      obtain rfl : i = n := by omega
      rw [List.take_of_length_le (by omega)]
      go_wp2_with fail
      go_ret
      exact ⟨rfl, bstep HB1.out HB.out⟩
end RefL
end Go.Proofs.YtkkfabnehhamdaaDoor
end
