/-
  Parts of the proof of LocksSteps.
-/
import Derived.Test.YtkkfabnehhamdaaDoorLkS19
section
namespace Go.Proofs.YtkkfabnehhamdaaDoor.RefL
open Go.RowKit ModesP LockP
set_option linter.unusedVariables false
set_option linter.unusedSimpArgs false
attribute [local go_sem ↓] app_fold cut_fold
def cA (e p : H3) : Bool := on3 e.key p && !decide (p.txn = e.txn) && !compat p.mode e.mode
def cB (e p : H3) : Bool := on3 e.key p && !compat p.mode e.mode
def f1 (l : List H3) (e : H3) : List Int := (l.filter (cA e)).map (·.txn)
def f2 (l : List H3) (e : H3) : List Int := (l.filter (cB e)).map (·.txn)
theorem f1_yes {l : List H3} {i : Nat} {p e : H3} (h : l[i]? = some p) (hc : cA e p = true) : f1 (l.take (i + 1)) e = f1 (l.take i) e ++ [p.txn] := by rw [take_next h]; unfold f1; rw [List.filter_append, List.map_append]; simp [hc]
theorem f1_no {l : List H3} {i : Nat} {p e : H3} (h : l[i]? = some p) (hc : cA e p = false) : f1 (l.take (i + 1)) e = f1 (l.take i) e := by rw [take_next h]; unfold f1; rw [List.filter_append, List.map_append]; simp [hc]
theorem f2_yes {l : List H3} {i : Nat} {p e : H3} (h : l[i]? = some p) (hc : cB e p = true) : f2 (l.take (i + 1)) e = f2 (l.take i) e ++ [p.txn] := by rw [take_next h]; unfold f2; rw [List.filter_append, List.map_append]; simp [hc]
theorem f2_no {l : List H3} {i : Nat} {p e : H3} (h : l[i]? = some p) (hc : cB e p = false) : f2 (l.take (i + 1)) e = f2 (l.take i) e := by rw [take_next h]; unfold f2; rw [List.filter_append, List.map_append]; simp [hc]
theorem blk_set {h w : List H3} {e : H3} (hs : setR h e.txn e.key = 0) : blkR h w e = f1 h e ++ f2 w e := by unfold blkR; rw [if_pos hs]; rfl
theorem blk_none {h w : List H3} {e : H3} (hs : setR h e.txn e.key ≠ 0) : blkR h w e = f1 h e := by unfold blkR; rw [if_neg hs]; exact List.append_nil _
theorem f1_len (l : List H3) (e : H3) : (f1 l e).length ≤ l.length := by unfold f1; rw [List.length_map]; exact List.length_filter_le _ _
theorem f2_len (l : List H3) (e : H3) : (f2 l e).length ≤ l.length := by unfold f2; rw [List.length_map]; exact List.length_filter_le _ _
theorem str3 {w : World} {b : Nat} {v0 v1 v2 : Value} (h : Str w b #[v0, v1, v2]) : w.cell? ⟨b, 0, none⟩ = some v0 ∧ w.cell? ⟨b, 1, none⟩ = some v1 ∧ w.cell? ⟨b, 2, none⟩ = some v2 := ⟨h.cell 0, h.cell 1, h.cell 2⟩
set_option maxRecDepth 100000 in
set_option maxHeartbeats 8000000 in
theorem against_any (A A2 : Option Addr) (n c n2 c2 : Nat) (x : RT) (e : H3) (m : Nat) (w : World) (hH : Elems H3E w w.heap.size A n c x.h) (hW : Elems H3E w w.heap.size A2 n2 c2 x.w) (hm : Modes3 x.h) (hn : n ≤ 100000) (hn2 : n2 ≤ 100000) (hmn : m ≤ n2) :
    Calls Tryd.prog 41 #[.agg #[.slice A n c, .slice A2 n2 c2], .agg #[.int .i64 e.txn, .string e.key, .int .i64 e.mode], .int .i64 (m : Int)] w (GivesN w (againstR x e m)) := by
  obtain ⟨eu, ek, em⟩ := e
  dsimp only
  obtain ⟨W1, hW1⟩ : ∃ W, (w.alloc (.cells #[.slice A n c, .slice A2 n2 c2] 43)).alloc (.cells #[.int .i64 eu, .string ek, .int .i64 em] 28) = W := ⟨_, rfl⟩
  have hb1 : Below w.heap.size w W1 := by rw [← hW1]; exact balloc (balloc (bsame _) _) _
  have hs1 : Str W1 w.heap.size #[.slice A n c, .slice A2 n2 c2] := by rw [← hW1]; exact (Str.new _ _ _).alloc _
  have hs2 : Str W1 (w.heap.size + 1) #[.int .i64 eu, .string ek, .int .i64 em] := by rw [← hW1]; have := Str.new (w.alloc (.cells #[.slice A n c, .slice A2 n2 c2] 43)) #[.int .i64 eu, .string ek, .int .i64 em] 28; simpa using this
  have HB1 := Lib.hid hb1
  have HS1 := Lib.hid hs1
  have HS2 := Lib.hid hs2
  have HH := Lib.hid hH
  have HW := Lib.hid hW
  have HM := Lib.hid hm
  have hln := hH.len
  have hln2 := hW.len
  have HSN : Hid (SortI.sort [] = []) := Lib.hid SortI.sort_nil
  have g1 := str2 hs1
  have gl1 := hs1.lt
  have g2 := str3 hs2
  have gl2 := hs2.lt
  clear hH hW hb1 hs1 hs2 hm
  go_enter Tryd.func41, Tryd.ntmps41
  go_wp2_with fail
  clear hW1 g1 gl1 g2 gl2
  go_loopw [7, 8] (fun sv iv wr => ∃ (i m9 c9 : Nat) (A9 : Option Addr), i ≤ n ∧ m9 ≤ i ∧ sv = .slice A9 m9 c9 ∧ iv = .int .i64 (i : Int) ∧ Hid (Below W1.heap.size W1 wr ∧ Elems IntE wr wr.heap.size A9 m9 c9 (SortI.sort (f1 (x.h.take i) ⟨eu, ek, em⟩)))) (fun _ iv _ => n - (intOf iv).toNat)
  case atStart => exact ⟨0, 0, 0, none, Nat.zero_le _, Nat.le_refl _, rfl, rfl, Lib.hid ⟨bsame W1, by rw [List.take_zero]; show Elems IntE W1 _ none 0 0 (SortI.sort []); rw [HSN.out]; exact Elems.none_ _ _ _⟩⟩
  case round =>
    obtain ⟨i, m9, c9, A9, hi, hmi, rfl, rfl, HK⟩ := hrel
    have HT := Lib.hid (HS1.out.next HK.out.1)
    have HE := Lib.hid (HS2.out.next HK.out.1)
    have g1 := str2 HT.out
    have gl1 := HT.out.lt
    by_cases hlt : i < n
    · have hd : decide ((i : Int) < (n : Int)) = true := by simpa using hlt
      have k1 : ¬ (i : Int) < 0 := by omega
      obtain ⟨b, o, p, rfl, hb, hx, q0, q1, q2⟩ := h3_at HH.out hlt
      have hbb := bstep HB1.out HK.out.1
      have hbl : b < wr.heap.size := by have := hbb.size; omega
      replace q0 := (hbb.cell (p := ⟨b, o + i * 3, none⟩) hb).trans q0
      replace q1 := (hbb.cell (p := ⟨b, o + i * 3 + 1, none⟩) hb).trans q1
      replace q2 := (hbb.cell (p := ⟨b, o + i * 3 + 2, none⟩) hb).trans q2
      have HX := Lib.hid hx
      have HQ := Lib.hid (And.intro q0 (And.intro q1 q2))
      clear hx hbb q0 q1 q2
      by_cases hk : p.key = ek
      · subst hk
        by_cases hu : p.txn = eu
        · have hd1 : (p.txn != eu) = false := by simpa using hu
          have HN : Hid (f1 (x.h.take (i + 1)) ⟨eu, p.key, em⟩ = f1 (x.h.take i) ⟨eu, p.key, em⟩) := Lib.hid (f1_no HX.out (by simp [cA, hu]))
          clear hu
          go_wp2_with fail
          refine Reg.wp_region_vals (R := ext) (W := wr) [Reg.eqv (.pointer (some ⟨w.heap.size, 0, none⟩)), Reg.eqv (.slice (some ⟨b, o, none⟩) n c), Reg.eqv (.int .i64 (i : Int)), Reg.eqv (.pointer (some ⟨b, o + i * 3, none⟩)), Reg.eqv (.pointer (some ⟨b, o + i * 3 + 1, none⟩)), Reg.eqv (.string p.key), Reg.eqv (.pointer (some ⟨(w.heap.size + 1), 1, none⟩)), Reg.eqv (.string p.key), Reg.eqv (.bool true), Reg.eqv (.bool true), Reg.eqv (.pointer (some ⟨w.heap.size, 0, none⟩)), Reg.eqv (.slice (some ⟨b, o, none⟩) n c), Reg.eqv (.int .i64 (i : Int)), Reg.eqv (.pointer (some ⟨b, o + i * 3, none⟩)), Reg.eqv (.pointer (some ⟨b, o + i * 3, none⟩)), Reg.eqv (.int .i64 p.txn), Reg.eqv (.pointer (some ⟨(w.heap.size + 1), 0, none⟩)), Reg.eqv (.int .i64 eu), Reg.eqv (.bool false), Reg.eqv (.bool false), Reg.eqv (.bool false), Reg.eqv undef, Reg.eqv undef, Reg.eqv undef, Reg.eqv undef, Reg.eqv undef, Reg.eqv undef, Reg.eqv undef, Reg.eqv undef, Reg.eqv undef, Reg.eqv undef, Reg.eqv (.bool false)] 101 [[(3, none)], [(17, some 0)], [(8, none)], [(18, some 1), (19, some 2)], [(20, some 3)], [(21, some 4)], [(4, none)], [(23, some 6)], [(22, some 5), (24, some 7)], [(25, some 8)], [(3, none), (26, some 9)], [(27, some 10), (26, some 9)], [(8, none), (26, some 9)], [(28, some 11), (29, some 12), (26, some 9)], [(30, some 13), (26, some 9)], [(31, some 14), (26, some 9)], [(4, none), (26, some 9)], [(33, some 16), (26, some 9)], [(32, some 15), (34, some 17), (26, some 9)], [(26, some 9), (35, some 18)], [(36, some 19)], [(3, none), (37, some 20)], [(38, some 21), (37, some 20)], [(8, none), (37, some 20)], [(39, some 22), (40, some 23), (37, some 20)], [(41, some 24), (37, some 20)], [(42, some 25), (37, some 20)], [(4, none), (37, some 20)], [(44, some 27), (37, some 20)], [(43, some 26), (45, some 28), (37, some 20)], [(46, some 29), (37, some 20)], [(37, some 20), (47, some 30)]] rfl (by kernel_rfl) (by kernel_rfl) (by kernel_rfl) ?_ [some 17, some 18, some 19, some 20, some 21, some 22, some 23, some 24, some 25, some 26, some 27, some 28, some 29, some 30, some 31, some 32, some 33, some 34, some 35, some 36, some 37, some 38, some 39, some 40, some 41, some 42, some 43, some 44, some 45, some 46, some 47, some 48] (by kernel_rfl) ?_
          · refine ⟨?_, ?_, ?_, ?_, ?_, ?_, ?_, ?_, ?_, ?_, ?_, ?_, ?_, ?_, ?_, ?_, ?_, ?_, ?_, ?_, ?_, ?_, ?_, ?_, ?_, ?_, ?_, ?_, ?_, ?_, ?_, ?_, trivial⟩
            · intro ax wx hx hs
              obtain ⟨e3, -⟩ := hs
              have g3 := Reg.ev (v := .pointer (some ⟨w.heap.size, 0, none⟩)) e3
              exact Reg.obl_free rfl (Reg.wp_eqv (Option.some_ne_none _) (by go_simp) rfl)
            · intro ax wx hx hs
              obtain ⟨e17, -⟩ := hs
              have g17 := Reg.ev (v := .pointer (some ⟨w.heap.size, 0, none⟩)) e17
              have l0 := str2 (HT.out.next hx)
              have l1 := str3 (HE.out.next hx)
              have hx2 : Below wr.heap.size wr wx := hx
              have l2 := (hx2.cell (p := ⟨b, o + i * 3, none⟩) hbl).trans HQ.out.1
              have l3 := (hx2.cell (p := ⟨b, o + i * 3 + 1, none⟩) hbl).trans HQ.out.2.1
              have l4 := (hx2.cell (p := ⟨b, o + i * 3 + 2, none⟩) hbl).trans HQ.out.2.2
              exact Reg.obl_free rfl (Reg.wp_eqv (Option.some_ne_none _) (by go_simp) rfl)
            · intro ax wx hx hs
              obtain ⟨e8, -⟩ := hs
              have g8 := Reg.ev (v := .int .i64 (i : Int)) e8
              exact Reg.obl_free rfl (Reg.wp_eqv (Option.some_ne_none _) (by go_simp) rfl)
            · intro ax wx hx hs
              obtain ⟨e18, e19, -⟩ := hs
              have g18 := Reg.ev (v := .slice (some ⟨b, o, none⟩) n c) e18
              have g19 := Reg.ev (v := .int .i64 (i : Int)) e19
              exact Reg.obl_free rfl (Reg.wp_eqv (Option.some_ne_none _) (by go_simp) rfl)
            · intro ax wx hx hs
              obtain ⟨e20, -⟩ := hs
              have g20 := Reg.ev (v := .pointer (some ⟨b, o + i * 3, none⟩)) e20
              exact Reg.obl_free rfl (Reg.wp_eqv (Option.some_ne_none _) (by go_simp) rfl)
            · intro ax wx hx hs
              obtain ⟨e21, -⟩ := hs
              have g21 := Reg.ev (v := .pointer (some ⟨b, o + i * 3 + 1, none⟩)) e21
              have l0 := str2 (HT.out.next hx)
              have l1 := str3 (HE.out.next hx)
              have hx2 : Below wr.heap.size wr wx := hx
              have l2 := (hx2.cell (p := ⟨b, o + i * 3, none⟩) hbl).trans HQ.out.1
              have l3 := (hx2.cell (p := ⟨b, o + i * 3 + 1, none⟩) hbl).trans HQ.out.2.1
              have l4 := (hx2.cell (p := ⟨b, o + i * 3 + 2, none⟩) hbl).trans HQ.out.2.2
              exact Reg.obl_free rfl (Reg.wp_eqv (Option.some_ne_none _) (by go_simp) rfl)
            · intro ax wx hx hs
              obtain ⟨e4, -⟩ := hs
              have g4 := Reg.ev (v := .pointer (some ⟨(w.heap.size + 1), 0, none⟩)) e4
              exact Reg.obl_free rfl (Reg.wp_eqv (Option.some_ne_none _) (by go_simp) rfl)
            · intro ax wx hx hs
              obtain ⟨e23, -⟩ := hs
              have g23 := Reg.ev (v := .pointer (some ⟨(w.heap.size + 1), 1, none⟩)) e23
              have l0 := str2 (HT.out.next hx)
              have l1 := str3 (HE.out.next hx)
              have hx2 : Below wr.heap.size wr wx := hx
              have l2 := (hx2.cell (p := ⟨b, o + i * 3, none⟩) hbl).trans HQ.out.1
              have l3 := (hx2.cell (p := ⟨b, o + i * 3 + 1, none⟩) hbl).trans HQ.out.2.1
              have l4 := (hx2.cell (p := ⟨b, o + i * 3 + 2, none⟩) hbl).trans HQ.out.2.2
              exact Reg.obl_free rfl (Reg.wp_eqv (Option.some_ne_none _) (by go_simp) rfl)
            · intro ax wx hx hs
              obtain ⟨e22, e24, -⟩ := hs
              have g22 := Reg.ev (v := .string p.key) e22
              have g24 := Reg.ev (v := .string p.key) e24
              exact Reg.obl_free rfl (Reg.wp_eqv (Option.some_ne_none _) (by go_simp) rfl)
            · intro ax wx hx hs
              obtain ⟨e25, -⟩ := hs
              have g25 := Reg.ev (v := .bool true) e25
              exact Reg.obl_free rfl (Reg.wp_eqv (Option.some_ne_none _) (by go_simp) rfl)
            · intro ax wx hx hs
              obtain ⟨e3, e26, -⟩ := hs
              have g3 := Reg.ev (v := .pointer (some ⟨w.heap.size, 0, none⟩)) e3
              have g26 := Reg.ev (v := .bool true) e26
              exact Reg.obl_want rfl rfl e26 (Reg.wp_eqv (Option.some_ne_none _) (by go_simp) rfl)
            · intro ax wx hx hs
              obtain ⟨e27, e26, -⟩ := hs
              have g27 := Reg.ev (v := .pointer (some ⟨w.heap.size, 0, none⟩)) e27
              have g26 := Reg.ev (v := .bool true) e26
              have l0 := str2 (HT.out.next hx)
              have l1 := str3 (HE.out.next hx)
              have hx2 : Below wr.heap.size wr wx := hx
              have l2 := (hx2.cell (p := ⟨b, o + i * 3, none⟩) hbl).trans HQ.out.1
              have l3 := (hx2.cell (p := ⟨b, o + i * 3 + 1, none⟩) hbl).trans HQ.out.2.1
              have l4 := (hx2.cell (p := ⟨b, o + i * 3 + 2, none⟩) hbl).trans HQ.out.2.2
              exact Reg.obl_want rfl rfl e26 (Reg.wp_eqv (Option.some_ne_none _) (by go_simp) rfl)
            · intro ax wx hx hs
              obtain ⟨e8, e26, -⟩ := hs
              have g8 := Reg.ev (v := .int .i64 (i : Int)) e8
              have g26 := Reg.ev (v := .bool true) e26
              exact Reg.obl_want rfl rfl e26 (Reg.wp_eqv (Option.some_ne_none _) (by go_simp) rfl)
            · intro ax wx hx hs
              obtain ⟨e28, e29, e26, -⟩ := hs
              have g28 := Reg.ev (v := .slice (some ⟨b, o, none⟩) n c) e28
              have g29 := Reg.ev (v := .int .i64 (i : Int)) e29
              have g26 := Reg.ev (v := .bool true) e26
              exact Reg.obl_want rfl rfl e26 (Reg.wp_eqv (Option.some_ne_none _) (by go_simp) rfl)
            · intro ax wx hx hs
              obtain ⟨e30, e26, -⟩ := hs
              have g30 := Reg.ev (v := .pointer (some ⟨b, o + i * 3, none⟩)) e30
              have g26 := Reg.ev (v := .bool true) e26
              exact Reg.obl_want rfl rfl e26 (Reg.wp_eqv (Option.some_ne_none _) (by go_simp) rfl)
            · intro ax wx hx hs
              obtain ⟨e31, e26, -⟩ := hs
              have g31 := Reg.ev (v := .pointer (some ⟨b, o + i * 3, none⟩)) e31
              have g26 := Reg.ev (v := .bool true) e26
              have l0 := str2 (HT.out.next hx)
              have l1 := str3 (HE.out.next hx)
              have hx2 : Below wr.heap.size wr wx := hx
              have l2 := (hx2.cell (p := ⟨b, o + i * 3, none⟩) hbl).trans HQ.out.1
              have l3 := (hx2.cell (p := ⟨b, o + i * 3 + 1, none⟩) hbl).trans HQ.out.2.1
              have l4 := (hx2.cell (p := ⟨b, o + i * 3 + 2, none⟩) hbl).trans HQ.out.2.2
              exact Reg.obl_want rfl rfl e26 (Reg.wp_eqv (Option.some_ne_none _) (by go_simp) rfl)
            · intro ax wx hx hs
              obtain ⟨e4, e26, -⟩ := hs
              have g4 := Reg.ev (v := .pointer (some ⟨(w.heap.size + 1), 0, none⟩)) e4
              have g26 := Reg.ev (v := .bool true) e26
              exact Reg.obl_want rfl rfl e26 (Reg.wp_eqv (Option.some_ne_none _) (by go_simp) rfl)
            · intro ax wx hx hs
              obtain ⟨e33, e26, -⟩ := hs
              have g33 := Reg.ev (v := .pointer (some ⟨(w.heap.size + 1), 0, none⟩)) e33
              have g26 := Reg.ev (v := .bool true) e26
              have l0 := str2 (HT.out.next hx)
              have l1 := str3 (HE.out.next hx)
              have hx2 : Below wr.heap.size wr wx := hx
              have l2 := (hx2.cell (p := ⟨b, o + i * 3, none⟩) hbl).trans HQ.out.1
              have l3 := (hx2.cell (p := ⟨b, o + i * 3 + 1, none⟩) hbl).trans HQ.out.2.1
              have l4 := (hx2.cell (p := ⟨b, o + i * 3 + 2, none⟩) hbl).trans HQ.out.2.2
              exact Reg.obl_want rfl rfl e26 (Reg.wp_eqv (Option.some_ne_none _) (by go_simp) rfl)
            · intro ax wx hx hs
              obtain ⟨e32, e34, e26, -⟩ := hs
              have g32 := Reg.ev (v := .int .i64 p.txn) e32
              have g34 := Reg.ev (v := .int .i64 eu) e34
              have g26 := Reg.ev (v := .bool true) e26
              exact Reg.obl_want rfl rfl e26 (Reg.wp_eqv (Option.some_ne_none _) (by go_simp) rfl)
            · intro ax wx hx hs
              obtain ⟨e26, e35, -⟩ := hs
              have g26 := Reg.ev (v := .bool true) e26
              have g35 := Reg.ev (v := .bool false) e35
              exact Reg.obl_free rfl (Reg.wp_eqv (Option.some_ne_none _) (by go_simp) rfl)
            · intro ax wx hx hs
              obtain ⟨e36, -⟩ := hs
              have g36 := Reg.ev (v := .bool false) e36
              exact Reg.obl_free rfl (Reg.wp_eqv (Option.some_ne_none _) (by go_simp) rfl)
            · intro ax wx hx hs
              obtain ⟨e3, e37, -⟩ := hs
              have g3 := Reg.ev (v := .pointer (some ⟨w.heap.size, 0, none⟩)) e3
              have g37 := Reg.ev (v := .bool false) e37
              exact Reg.obl_skip rfl rfl e37 rfl rfl
            · intro ax wx hx hs
              obtain ⟨e38, e37, -⟩ := hs
              have g38 := Reg.ev (v := undef) e38
              have g37 := Reg.ev (v := .bool false) e37
              exact Reg.obl_skip rfl rfl e37 rfl rfl
            · intro ax wx hx hs
              obtain ⟨e8, e37, -⟩ := hs
              have g8 := Reg.ev (v := .int .i64 (i : Int)) e8
              have g37 := Reg.ev (v := .bool false) e37
              exact Reg.obl_skip rfl rfl e37 rfl rfl
            · intro ax wx hx hs
              obtain ⟨e39, e40, e37, -⟩ := hs
              have g39 := Reg.ev (v := undef) e39
              have g40 := Reg.ev (v := undef) e40
              have g37 := Reg.ev (v := .bool false) e37
              exact Reg.obl_skip rfl rfl e37 rfl rfl
            · intro ax wx hx hs
              obtain ⟨e41, e37, -⟩ := hs
              have g41 := Reg.ev (v := undef) e41
              have g37 := Reg.ev (v := .bool false) e37
              exact Reg.obl_skip rfl rfl e37 rfl rfl
            · intro ax wx hx hs
              obtain ⟨e42, e37, -⟩ := hs
              have g42 := Reg.ev (v := undef) e42
              have g37 := Reg.ev (v := .bool false) e37
              exact Reg.obl_skip rfl rfl e37 rfl rfl
            · intro ax wx hx hs
              obtain ⟨e4, e37, -⟩ := hs
              have g4 := Reg.ev (v := .pointer (some ⟨(w.heap.size + 1), 0, none⟩)) e4
              have g37 := Reg.ev (v := .bool false) e37
              exact Reg.obl_skip rfl rfl e37 rfl rfl
            · intro ax wx hx hs
              obtain ⟨e44, e37, -⟩ := hs
              have g44 := Reg.ev (v := undef) e44
              have g37 := Reg.ev (v := .bool false) e37
              exact Reg.obl_skip rfl rfl e37 rfl rfl
            · intro ax wx hx hs
              obtain ⟨e43, e45, e37, -⟩ := hs
              have g43 := Reg.ev (v := undef) e43
              have g45 := Reg.ev (v := undef) e45
              have g37 := Reg.ev (v := .bool false) e37
              exact Reg.obl_skip rfl rfl e37 rfl rfl
            · intro ax wx hx hs
              obtain ⟨e46, e37, -⟩ := hs
              have g46 := Reg.ev (v := undef) e46
              have g37 := Reg.ev (v := .bool false) e37
              exact Reg.obl_skip rfl rfl e37 rfl rfl
            · intro ax wx hx hs
              obtain ⟨e37, e47, -⟩ := hs
              have g37 := Reg.ev (v := .bool false) e37
              have g47 := Reg.ev (v := undef) e47
              exact Reg.obl_free rfl (Reg.wp_eqv (Option.some_ne_none _) (by go_simp) rfl)
          · intro WX hwf
            simp only [Reg.Fin]
            rintro _ rfl _ rfl _ rfl _ rfl _ rfl _ rfl _ rfl _ rfl _ rfl _ rfl _ rfl _ rfl _ rfl _ rfl _ rfl _ rfl _ rfl _ rfl _ rfl _ rfl _ rfl _ rfl _ rfl _ rfl _ rfl _ rfl _ rfl _ rfl _ rfl _ rfl _ rfl _ rfl
            go_simp
            have HK2 := Lib.hid (And.intro (bstep HK.out.1 hwf) (HK.out.2.next hwf))
            clear hwf
            go_wp2_with fail
            go_roundw
            case rel => exact ⟨i + 1, m9, c9, A9, by omega, by omega, rfl, by go_num, Lib.hid ⟨HK2.out.1, by rw [HN.out]; exact HK2.out.2⟩⟩
            case measure => simp [intOf]; omega
        · have hd1 : (p.txn != eu) = true := by simpa using hu
          cases hc : compat p.mode em with
          | true =>
            have HC := Lib.hid hc
            have HN : Hid (f1 (x.h.take (i + 1)) ⟨eu, p.key, em⟩ = f1 (x.h.take i) ⟨eu, p.key, em⟩) := Lib.hid (f1_no HX.out (by simp [cA, hc]))
            clear hu hc
            go_wp2_with fail
            refine Reg.wp_region_vals (R := ext) (W := wr) [Reg.eqv (.pointer (some ⟨w.heap.size, 0, none⟩)), Reg.eqv (.slice (some ⟨b, o, none⟩) n c), Reg.eqv (.int .i64 (i : Int)), Reg.eqv (.pointer (some ⟨b, o + i * 3, none⟩)), Reg.eqv (.pointer (some ⟨b, o + i * 3 + 1, none⟩)), Reg.eqv (.string p.key), Reg.eqv (.pointer (some ⟨(w.heap.size + 1), 1, none⟩)), Reg.eqv (.string p.key), Reg.eqv (.bool true), Reg.eqv (.bool true), Reg.eqv (.pointer (some ⟨w.heap.size, 0, none⟩)), Reg.eqv (.slice (some ⟨b, o, none⟩) n c), Reg.eqv (.int .i64 (i : Int)), Reg.eqv (.pointer (some ⟨b, o + i * 3, none⟩)), Reg.eqv (.pointer (some ⟨b, o + i * 3, none⟩)), Reg.eqv (.int .i64 p.txn), Reg.eqv (.pointer (some ⟨(w.heap.size + 1), 0, none⟩)), Reg.eqv (.int .i64 eu), Reg.eqv (.bool true), Reg.eqv (.bool true), Reg.eqv (.bool true), Reg.eqv (.pointer (some ⟨w.heap.size, 0, none⟩)), Reg.eqv (.slice (some ⟨b, o, none⟩) n c), Reg.eqv (.int .i64 (i : Int)), Reg.eqv (.pointer (some ⟨b, o + i * 3, none⟩)), Reg.eqv (.pointer (some ⟨b, o + i * 3 + 2, none⟩)), Reg.eqv (.int .i64 p.mode), Reg.eqv (.pointer (some ⟨(w.heap.size + 1), 2, none⟩)), Reg.eqv (.int .i64 em), Reg.eqv (.bool true), Reg.eqv (.bool false), Reg.eqv (.bool false)] 101 [[(3, none)], [(17, some 0)], [(8, none)], [(18, some 1), (19, some 2)], [(20, some 3)], [(21, some 4)], [(4, none)], [(23, some 6)], [(22, some 5), (24, some 7)], [(25, some 8)], [(3, none), (26, some 9)], [(27, some 10), (26, some 9)], [(8, none), (26, some 9)], [(28, some 11), (29, some 12), (26, some 9)], [(30, some 13), (26, some 9)], [(31, some 14), (26, some 9)], [(4, none), (26, some 9)], [(33, some 16), (26, some 9)], [(32, some 15), (34, some 17), (26, some 9)], [(26, some 9), (35, some 18)], [(36, some 19)], [(3, none), (37, some 20)], [(38, some 21), (37, some 20)], [(8, none), (37, some 20)], [(39, some 22), (40, some 23), (37, some 20)], [(41, some 24), (37, some 20)], [(42, some 25), (37, some 20)], [(4, none), (37, some 20)], [(44, some 27), (37, some 20)], [(43, some 26), (45, some 28), (37, some 20)], [(46, some 29), (37, some 20)], [(37, some 20), (47, some 30)]] rfl (by kernel_rfl) (by kernel_rfl) (by kernel_rfl) ?_ [some 17, some 18, some 19, some 20, some 21, some 22, some 23, some 24, some 25, some 26, some 27, some 28, some 29, some 30, some 31, some 32, some 33, some 34, some 35, some 36, some 37, some 38, some 39, some 40, some 41, some 42, some 43, some 44, some 45, some 46, some 47, some 48] (by kernel_rfl) ?_
            · refine ⟨?_, ?_, ?_, ?_, ?_, ?_, ?_, ?_, ?_, ?_, ?_, ?_, ?_, ?_, ?_, ?_, ?_, ?_, ?_, ?_, ?_, ?_, ?_, ?_, ?_, ?_, ?_, ?_, ?_, ?_, ?_, ?_, trivial⟩
              · intro ax wx hx hs
                obtain ⟨e3, -⟩ := hs
                have g3 := Reg.ev (v := .pointer (some ⟨w.heap.size, 0, none⟩)) e3
                exact Reg.obl_free rfl (Reg.wp_eqv (Option.some_ne_none _) (by go_simp) rfl)
              · intro ax wx hx hs
                obtain ⟨e17, -⟩ := hs
                have g17 := Reg.ev (v := .pointer (some ⟨w.heap.size, 0, none⟩)) e17
                have l0 := str2 (HT.out.next hx)
                have l1 := str3 (HE.out.next hx)
                have hx2 : Below wr.heap.size wr wx := hx
                have l2 := (hx2.cell (p := ⟨b, o + i * 3, none⟩) hbl).trans HQ.out.1
                have l3 := (hx2.cell (p := ⟨b, o + i * 3 + 1, none⟩) hbl).trans HQ.out.2.1
                have l4 := (hx2.cell (p := ⟨b, o + i * 3 + 2, none⟩) hbl).trans HQ.out.2.2
                exact Reg.obl_free rfl (Reg.wp_eqv (Option.some_ne_none _) (by go_simp) rfl)
              · intro ax wx hx hs
                obtain ⟨e8, -⟩ := hs
                have g8 := Reg.ev (v := .int .i64 (i : Int)) e8
                exact Reg.obl_free rfl (Reg.wp_eqv (Option.some_ne_none _) (by go_simp) rfl)
              · intro ax wx hx hs
                obtain ⟨e18, e19, -⟩ := hs
                have g18 := Reg.ev (v := .slice (some ⟨b, o, none⟩) n c) e18
                have g19 := Reg.ev (v := .int .i64 (i : Int)) e19
                exact Reg.obl_free rfl (Reg.wp_eqv (Option.some_ne_none _) (by go_simp) rfl)
              · intro ax wx hx hs
                obtain ⟨e20, -⟩ := hs
                have g20 := Reg.ev (v := .pointer (some ⟨b, o + i * 3, none⟩)) e20
                exact Reg.obl_free rfl (Reg.wp_eqv (Option.some_ne_none _) (by go_simp) rfl)
              · intro ax wx hx hs
                obtain ⟨e21, -⟩ := hs
                have g21 := Reg.ev (v := .pointer (some ⟨b, o + i * 3 + 1, none⟩)) e21
                have l0 := str2 (HT.out.next hx)
                have l1 := str3 (HE.out.next hx)
                have hx2 : Below wr.heap.size wr wx := hx
                have l2 := (hx2.cell (p := ⟨b, o + i * 3, none⟩) hbl).trans HQ.out.1
                have l3 := (hx2.cell (p := ⟨b, o + i * 3 + 1, none⟩) hbl).trans HQ.out.2.1
                have l4 := (hx2.cell (p := ⟨b, o + i * 3 + 2, none⟩) hbl).trans HQ.out.2.2
                exact Reg.obl_free rfl (Reg.wp_eqv (Option.some_ne_none _) (by go_simp) rfl)
              · intro ax wx hx hs
                obtain ⟨e4, -⟩ := hs
                have g4 := Reg.ev (v := .pointer (some ⟨(w.heap.size + 1), 0, none⟩)) e4
                exact Reg.obl_free rfl (Reg.wp_eqv (Option.some_ne_none _) (by go_simp) rfl)
              · intro ax wx hx hs
                obtain ⟨e23, -⟩ := hs
                have g23 := Reg.ev (v := .pointer (some ⟨(w.heap.size + 1), 1, none⟩)) e23
                have l0 := str2 (HT.out.next hx)
                have l1 := str3 (HE.out.next hx)
                have hx2 : Below wr.heap.size wr wx := hx
                have l2 := (hx2.cell (p := ⟨b, o + i * 3, none⟩) hbl).trans HQ.out.1
                have l3 := (hx2.cell (p := ⟨b, o + i * 3 + 1, none⟩) hbl).trans HQ.out.2.1
                have l4 := (hx2.cell (p := ⟨b, o + i * 3 + 2, none⟩) hbl).trans HQ.out.2.2
                exact Reg.obl_free rfl (Reg.wp_eqv (Option.some_ne_none _) (by go_simp) rfl)
              · intro ax wx hx hs
                obtain ⟨e22, e24, -⟩ := hs
                have g22 := Reg.ev (v := .string p.key) e22
                have g24 := Reg.ev (v := .string p.key) e24
                exact Reg.obl_free rfl (Reg.wp_eqv (Option.some_ne_none _) (by go_simp) rfl)
              · intro ax wx hx hs
                obtain ⟨e25, -⟩ := hs
                have g25 := Reg.ev (v := .bool true) e25
                exact Reg.obl_free rfl (Reg.wp_eqv (Option.some_ne_none _) (by go_simp) rfl)
              · intro ax wx hx hs
                obtain ⟨e3, e26, -⟩ := hs
                have g3 := Reg.ev (v := .pointer (some ⟨w.heap.size, 0, none⟩)) e3
                have g26 := Reg.ev (v := .bool true) e26
                exact Reg.obl_want rfl rfl e26 (Reg.wp_eqv (Option.some_ne_none _) (by go_simp) rfl)
              · intro ax wx hx hs
                obtain ⟨e27, e26, -⟩ := hs
                have g27 := Reg.ev (v := .pointer (some ⟨w.heap.size, 0, none⟩)) e27
                have g26 := Reg.ev (v := .bool true) e26
                have l0 := str2 (HT.out.next hx)
                have l1 := str3 (HE.out.next hx)
                have hx2 : Below wr.heap.size wr wx := hx
                have l2 := (hx2.cell (p := ⟨b, o + i * 3, none⟩) hbl).trans HQ.out.1
                have l3 := (hx2.cell (p := ⟨b, o + i * 3 + 1, none⟩) hbl).trans HQ.out.2.1
                have l4 := (hx2.cell (p := ⟨b, o + i * 3 + 2, none⟩) hbl).trans HQ.out.2.2
                exact Reg.obl_want rfl rfl e26 (Reg.wp_eqv (Option.some_ne_none _) (by go_simp) rfl)
              · intro ax wx hx hs
                obtain ⟨e8, e26, -⟩ := hs
                have g8 := Reg.ev (v := .int .i64 (i : Int)) e8
                have g26 := Reg.ev (v := .bool true) e26
                exact Reg.obl_want rfl rfl e26 (Reg.wp_eqv (Option.some_ne_none _) (by go_simp) rfl)
              · intro ax wx hx hs
                obtain ⟨e28, e29, e26, -⟩ := hs
                have g28 := Reg.ev (v := .slice (some ⟨b, o, none⟩) n c) e28
                have g29 := Reg.ev (v := .int .i64 (i : Int)) e29
                have g26 := Reg.ev (v := .bool true) e26
                exact Reg.obl_want rfl rfl e26 (Reg.wp_eqv (Option.some_ne_none _) (by go_simp) rfl)
              · intro ax wx hx hs
                obtain ⟨e30, e26, -⟩ := hs
                have g30 := Reg.ev (v := .pointer (some ⟨b, o + i * 3, none⟩)) e30
                have g26 := Reg.ev (v := .bool true) e26
                exact Reg.obl_want rfl rfl e26 (Reg.wp_eqv (Option.some_ne_none _) (by go_simp) rfl)
              · intro ax wx hx hs
                obtain ⟨e31, e26, -⟩ := hs
                have g31 := Reg.ev (v := .pointer (some ⟨b, o + i * 3, none⟩)) e31
                have g26 := Reg.ev (v := .bool true) e26
                have l0 := str2 (HT.out.next hx)
                have l1 := str3 (HE.out.next hx)
                have hx2 : Below wr.heap.size wr wx := hx
                have l2 := (hx2.cell (p := ⟨b, o + i * 3, none⟩) hbl).trans HQ.out.1
                have l3 := (hx2.cell (p := ⟨b, o + i * 3 + 1, none⟩) hbl).trans HQ.out.2.1
                have l4 := (hx2.cell (p := ⟨b, o + i * 3 + 2, none⟩) hbl).trans HQ.out.2.2
                exact Reg.obl_want rfl rfl e26 (Reg.wp_eqv (Option.some_ne_none _) (by go_simp) rfl)
              · intro ax wx hx hs
                obtain ⟨e4, e26, -⟩ := hs
                have g4 := Reg.ev (v := .pointer (some ⟨(w.heap.size + 1), 0, none⟩)) e4
                have g26 := Reg.ev (v := .bool true) e26
                exact Reg.obl_want rfl rfl e26 (Reg.wp_eqv (Option.some_ne_none _) (by go_simp) rfl)
              · intro ax wx hx hs
                obtain ⟨e33, e26, -⟩ := hs
                have g33 := Reg.ev (v := .pointer (some ⟨(w.heap.size + 1), 0, none⟩)) e33
                have g26 := Reg.ev (v := .bool true) e26
                have l0 := str2 (HT.out.next hx)
                have l1 := str3 (HE.out.next hx)
                have hx2 : Below wr.heap.size wr wx := hx
                have l2 := (hx2.cell (p := ⟨b, o + i * 3, none⟩) hbl).trans HQ.out.1
                have l3 := (hx2.cell (p := ⟨b, o + i * 3 + 1, none⟩) hbl).trans HQ.out.2.1
                have l4 := (hx2.cell (p := ⟨b, o + i * 3 + 2, none⟩) hbl).trans HQ.out.2.2
                exact Reg.obl_want rfl rfl e26 (Reg.wp_eqv (Option.some_ne_none _) (by go_simp) rfl)
              · intro ax wx hx hs
                obtain ⟨e32, e34, e26, -⟩ := hs
                have g32 := Reg.ev (v := .int .i64 p.txn) e32
                have g34 := Reg.ev (v := .int .i64 eu) e34
                have g26 := Reg.ev (v := .bool true) e26
                exact Reg.obl_want rfl rfl e26 (Reg.wp_eqv (Option.some_ne_none _) (by go_simp) rfl)
              · intro ax wx hx hs
                obtain ⟨e26, e35, -⟩ := hs
                have g26 := Reg.ev (v := .bool true) e26
                have g35 := Reg.ev (v := .bool true) e35
                exact Reg.obl_free rfl (Reg.wp_eqv (Option.some_ne_none _) (by go_simp) rfl)
              · intro ax wx hx hs
                obtain ⟨e36, -⟩ := hs
                have g36 := Reg.ev (v := .bool true) e36
                exact Reg.obl_free rfl (Reg.wp_eqv (Option.some_ne_none _) (by go_simp) rfl)
              · intro ax wx hx hs
                obtain ⟨e3, e37, -⟩ := hs
                have g3 := Reg.ev (v := .pointer (some ⟨w.heap.size, 0, none⟩)) e3
                have g37 := Reg.ev (v := .bool true) e37
                exact Reg.obl_want rfl rfl e37 (Reg.wp_eqv (Option.some_ne_none _) (by go_simp) rfl)
              · intro ax wx hx hs
                obtain ⟨e38, e37, -⟩ := hs
                have g38 := Reg.ev (v := .pointer (some ⟨w.heap.size, 0, none⟩)) e38
                have g37 := Reg.ev (v := .bool true) e37
                have l0 := str2 (HT.out.next hx)
                have l1 := str3 (HE.out.next hx)
                have hx2 : Below wr.heap.size wr wx := hx
                have l2 := (hx2.cell (p := ⟨b, o + i * 3, none⟩) hbl).trans HQ.out.1
                have l3 := (hx2.cell (p := ⟨b, o + i * 3 + 1, none⟩) hbl).trans HQ.out.2.1
                have l4 := (hx2.cell (p := ⟨b, o + i * 3 + 2, none⟩) hbl).trans HQ.out.2.2
                exact Reg.obl_want rfl rfl e37 (Reg.wp_eqv (Option.some_ne_none _) (by go_simp) rfl)
              · intro ax wx hx hs
                obtain ⟨e8, e37, -⟩ := hs
                have g8 := Reg.ev (v := .int .i64 (i : Int)) e8
                have g37 := Reg.ev (v := .bool true) e37
                exact Reg.obl_want rfl rfl e37 (Reg.wp_eqv (Option.some_ne_none _) (by go_simp) rfl)
              · intro ax wx hx hs
                obtain ⟨e39, e40, e37, -⟩ := hs
                have g39 := Reg.ev (v := .slice (some ⟨b, o, none⟩) n c) e39
                have g40 := Reg.ev (v := .int .i64 (i : Int)) e40
                have g37 := Reg.ev (v := .bool true) e37
                exact Reg.obl_want rfl rfl e37 (Reg.wp_eqv (Option.some_ne_none _) (by go_simp) rfl)
              · intro ax wx hx hs
                obtain ⟨e41, e37, -⟩ := hs
                have g41 := Reg.ev (v := .pointer (some ⟨b, o + i * 3, none⟩)) e41
                have g37 := Reg.ev (v := .bool true) e37
                exact Reg.obl_want rfl rfl e37 (Reg.wp_eqv (Option.some_ne_none _) (by go_simp) rfl)
              · intro ax wx hx hs
                obtain ⟨e42, e37, -⟩ := hs
                have g42 := Reg.ev (v := .pointer (some ⟨b, o + i * 3 + 2, none⟩)) e42
                have g37 := Reg.ev (v := .bool true) e37
                have l0 := str2 (HT.out.next hx)
                have l1 := str3 (HE.out.next hx)
                have hx2 : Below wr.heap.size wr wx := hx
                have l2 := (hx2.cell (p := ⟨b, o + i * 3, none⟩) hbl).trans HQ.out.1
                have l3 := (hx2.cell (p := ⟨b, o + i * 3 + 1, none⟩) hbl).trans HQ.out.2.1
                have l4 := (hx2.cell (p := ⟨b, o + i * 3 + 2, none⟩) hbl).trans HQ.out.2.2
                exact Reg.obl_want rfl rfl e37 (Reg.wp_eqv (Option.some_ne_none _) (by go_simp) rfl)
              · intro ax wx hx hs
                obtain ⟨e4, e37, -⟩ := hs
                have g4 := Reg.ev (v := .pointer (some ⟨(w.heap.size + 1), 0, none⟩)) e4
                have g37 := Reg.ev (v := .bool true) e37
                exact Reg.obl_want rfl rfl e37 (Reg.wp_eqv (Option.some_ne_none _) (by go_simp) rfl)
              · intro ax wx hx hs
                obtain ⟨e44, e37, -⟩ := hs
                have g44 := Reg.ev (v := .pointer (some ⟨(w.heap.size + 1), 2, none⟩)) e44
                have g37 := Reg.ev (v := .bool true) e37
                have l0 := str2 (HT.out.next hx)
                have l1 := str3 (HE.out.next hx)
                have hx2 : Below wr.heap.size wr wx := hx
                have l2 := (hx2.cell (p := ⟨b, o + i * 3, none⟩) hbl).trans HQ.out.1
                have l3 := (hx2.cell (p := ⟨b, o + i * 3 + 1, none⟩) hbl).trans HQ.out.2.1
                have l4 := (hx2.cell (p := ⟨b, o + i * 3 + 2, none⟩) hbl).trans HQ.out.2.2
                exact Reg.obl_want rfl rfl e37 (Reg.wp_eqv (Option.some_ne_none _) (by go_simp) rfl)
              · intro ax wx hx hs
                obtain ⟨e43, e45, e37, -⟩ := hs
                have g43 := Reg.ev (v := .int .i64 p.mode) e43
                have g45 := Reg.ev (v := .int .i64 em) e45
                have g37 := Reg.ev (v := .bool true) e37
                refine Reg.obl_want rfl rfl e37 ?_
                go_simp
                refine (RefModes.compat_any p.mode em wx).mono ?_
                rintro r wy ⟨rfl, rfl⟩
                rw [HC.out]
                exact Reg.done (Option.some_ne_none _) rfl (bsame _)
              · intro ax wx hx hs
                obtain ⟨e46, e37, -⟩ := hs
                have g46 := Reg.ev (v := .bool true) e46
                have g37 := Reg.ev (v := .bool true) e37
                exact Reg.obl_want rfl rfl e37 (Reg.wp_eqv (Option.some_ne_none _) (by go_simp) rfl)
              · intro ax wx hx hs
                obtain ⟨e37, e47, -⟩ := hs
                have g37 := Reg.ev (v := .bool true) e37
                have g47 := Reg.ev (v := .bool false) e47
                exact Reg.obl_free rfl (Reg.wp_eqv (Option.some_ne_none _) (by go_simp) rfl)
            · intro WX hwf
              simp only [Reg.Fin]
              rintro _ rfl _ rfl _ rfl _ rfl _ rfl _ rfl _ rfl _ rfl _ rfl _ rfl _ rfl _ rfl _ rfl _ rfl _ rfl _ rfl _ rfl _ rfl _ rfl _ rfl _ rfl _ rfl _ rfl _ rfl _ rfl _ rfl _ rfl _ rfl _ rfl _ rfl _ rfl _ rfl
              go_simp
              have HK2 := Lib.hid (And.intro (bstep HK.out.1 hwf) (HK.out.2.next hwf))
              clear hwf
              go_wp2_with fail
              go_roundw
              case rel => exact ⟨i + 1, m9, c9, A9, by omega, by omega, rfl, by go_num, Lib.hid ⟨HK2.out.1, by rw [HN.out]; exact HK2.out.2⟩⟩
              case measure => simp [intOf]; omega
          | false =>
            have HC := Lib.hid hc
            have HN : Hid (f1 (x.h.take (i + 1)) ⟨eu, p.key, em⟩ = f1 (x.h.take i) ⟨eu, p.key, em⟩ ++ [p.txn]) := Lib.hid (f1_yes HX.out (by simp [cA, on3, hu, hc]))
            clear hu hc
            go_wp2_with fail
            refine Reg.wp_region_vals (R := ext) (W := wr) [Reg.eqv (.pointer (some ⟨w.heap.size, 0, none⟩)), Reg.eqv (.slice (some ⟨b, o, none⟩) n c), Reg.eqv (.int .i64 (i : Int)), Reg.eqv (.pointer (some ⟨b, o + i * 3, none⟩)), Reg.eqv (.pointer (some ⟨b, o + i * 3 + 1, none⟩)), Reg.eqv (.string p.key), Reg.eqv (.pointer (some ⟨(w.heap.size + 1), 1, none⟩)), Reg.eqv (.string p.key), Reg.eqv (.bool true), Reg.eqv (.bool true), Reg.eqv (.pointer (some ⟨w.heap.size, 0, none⟩)), Reg.eqv (.slice (some ⟨b, o, none⟩) n c), Reg.eqv (.int .i64 (i : Int)), Reg.eqv (.pointer (some ⟨b, o + i * 3, none⟩)), Reg.eqv (.pointer (some ⟨b, o + i * 3, none⟩)), Reg.eqv (.int .i64 p.txn), Reg.eqv (.pointer (some ⟨(w.heap.size + 1), 0, none⟩)), Reg.eqv (.int .i64 eu), Reg.eqv (.bool true), Reg.eqv (.bool true), Reg.eqv (.bool true), Reg.eqv (.pointer (some ⟨w.heap.size, 0, none⟩)), Reg.eqv (.slice (some ⟨b, o, none⟩) n c), Reg.eqv (.int .i64 (i : Int)), Reg.eqv (.pointer (some ⟨b, o + i * 3, none⟩)), Reg.eqv (.pointer (some ⟨b, o + i * 3 + 2, none⟩)), Reg.eqv (.int .i64 p.mode), Reg.eqv (.pointer (some ⟨(w.heap.size + 1), 2, none⟩)), Reg.eqv (.int .i64 em), Reg.eqv (.bool false), Reg.eqv (.bool true), Reg.eqv (.bool true)] 101 [[(3, none)], [(17, some 0)], [(8, none)], [(18, some 1), (19, some 2)], [(20, some 3)], [(21, some 4)], [(4, none)], [(23, some 6)], [(22, some 5), (24, some 7)], [(25, some 8)], [(3, none), (26, some 9)], [(27, some 10), (26, some 9)], [(8, none), (26, some 9)], [(28, some 11), (29, some 12), (26, some 9)], [(30, some 13), (26, some 9)], [(31, some 14), (26, some 9)], [(4, none), (26, some 9)], [(33, some 16), (26, some 9)], [(32, some 15), (34, some 17), (26, some 9)], [(26, some 9), (35, some 18)], [(36, some 19)], [(3, none), (37, some 20)], [(38, some 21), (37, some 20)], [(8, none), (37, some 20)], [(39, some 22), (40, some 23), (37, some 20)], [(41, some 24), (37, some 20)], [(42, some 25), (37, some 20)], [(4, none), (37, some 20)], [(44, some 27), (37, some 20)], [(43, some 26), (45, some 28), (37, some 20)], [(46, some 29), (37, some 20)], [(37, some 20), (47, some 30)]] rfl (by kernel_rfl) (by kernel_rfl) (by kernel_rfl) ?_ [some 17, some 18, some 19, some 20, some 21, some 22, some 23, some 24, some 25, some 26, some 27, some 28, some 29, some 30, some 31, some 32, some 33, some 34, some 35, some 36, some 37, some 38, some 39, some 40, some 41, some 42, some 43, some 44, some 45, some 46, some 47, some 48] (by kernel_rfl) ?_
            · refine ⟨?_, ?_, ?_, ?_, ?_, ?_, ?_, ?_, ?_, ?_, ?_, ?_, ?_, ?_, ?_, ?_, ?_, ?_, ?_, ?_, ?_, ?_, ?_, ?_, ?_, ?_, ?_, ?_, ?_, ?_, ?_, ?_, trivial⟩
              · intro ax wx hx hs
                obtain ⟨e3, -⟩ := hs
                have g3 := Reg.ev (v := .pointer (some ⟨w.heap.size, 0, none⟩)) e3
                exact Reg.obl_free rfl (Reg.wp_eqv (Option.some_ne_none _) (by go_simp) rfl)
              · intro ax wx hx hs
                obtain ⟨e17, -⟩ := hs
                have g17 := Reg.ev (v := .pointer (some ⟨w.heap.size, 0, none⟩)) e17
                have l0 := str2 (HT.out.next hx)
                have l1 := str3 (HE.out.next hx)
                have hx2 : Below wr.heap.size wr wx := hx
                have l2 := (hx2.cell (p := ⟨b, o + i * 3, none⟩) hbl).trans HQ.out.1
                have l3 := (hx2.cell (p := ⟨b, o + i * 3 + 1, none⟩) hbl).trans HQ.out.2.1
                have l4 := (hx2.cell (p := ⟨b, o + i * 3 + 2, none⟩) hbl).trans HQ.out.2.2
                exact Reg.obl_free rfl (Reg.wp_eqv (Option.some_ne_none _) (by go_simp) rfl)
              · intro ax wx hx hs
                obtain ⟨e8, -⟩ := hs
                have g8 := Reg.ev (v := .int .i64 (i : Int)) e8
                exact Reg.obl_free rfl (Reg.wp_eqv (Option.some_ne_none _) (by go_simp) rfl)
              · intro ax wx hx hs
                obtain ⟨e18, e19, -⟩ := hs
                have g18 := Reg.ev (v := .slice (some ⟨b, o, none⟩) n c) e18
                have g19 := Reg.ev (v := .int .i64 (i : Int)) e19
                exact Reg.obl_free rfl (Reg.wp_eqv (Option.some_ne_none _) (by go_simp) rfl)
              · intro ax wx hx hs
                obtain ⟨e20, -⟩ := hs
                have g20 := Reg.ev (v := .pointer (some ⟨b, o + i * 3, none⟩)) e20
                exact Reg.obl_free rfl (Reg.wp_eqv (Option.some_ne_none _) (by go_simp) rfl)
              · intro ax wx hx hs
                obtain ⟨e21, -⟩ := hs
                have g21 := Reg.ev (v := .pointer (some ⟨b, o + i * 3 + 1, none⟩)) e21
                have l0 := str2 (HT.out.next hx)
                have l1 := str3 (HE.out.next hx)
                have hx2 : Below wr.heap.size wr wx := hx
                have l2 := (hx2.cell (p := ⟨b, o + i * 3, none⟩) hbl).trans HQ.out.1
                have l3 := (hx2.cell (p := ⟨b, o + i * 3 + 1, none⟩) hbl).trans HQ.out.2.1
                have l4 := (hx2.cell (p := ⟨b, o + i * 3 + 2, none⟩) hbl).trans HQ.out.2.2
                exact Reg.obl_free rfl (Reg.wp_eqv (Option.some_ne_none _) (by go_simp) rfl)
              · intro ax wx hx hs
                obtain ⟨e4, -⟩ := hs
                have g4 := Reg.ev (v := .pointer (some ⟨(w.heap.size + 1), 0, none⟩)) e4
                exact Reg.obl_free rfl (Reg.wp_eqv (Option.some_ne_none _) (by go_simp) rfl)
              · intro ax wx hx hs
                obtain ⟨e23, -⟩ := hs
                have g23 := Reg.ev (v := .pointer (some ⟨(w.heap.size + 1), 1, none⟩)) e23
                have l0 := str2 (HT.out.next hx)
                have l1 := str3 (HE.out.next hx)
                have hx2 : Below wr.heap.size wr wx := hx
                have l2 := (hx2.cell (p := ⟨b, o + i * 3, none⟩) hbl).trans HQ.out.1
                have l3 := (hx2.cell (p := ⟨b, o + i * 3 + 1, none⟩) hbl).trans HQ.out.2.1
                have l4 := (hx2.cell (p := ⟨b, o + i * 3 + 2, none⟩) hbl).trans HQ.out.2.2
                exact Reg.obl_free rfl (Reg.wp_eqv (Option.some_ne_none _) (by go_simp) rfl)
              · intro ax wx hx hs
                obtain ⟨e22, e24, -⟩ := hs
                have g22 := Reg.ev (v := .string p.key) e22
                have g24 := Reg.ev (v := .string p.key) e24
                exact Reg.obl_free rfl (Reg.wp_eqv (Option.some_ne_none _) (by go_simp) rfl)
              · intro ax wx hx hs
                obtain ⟨e25, -⟩ := hs
                have g25 := Reg.ev (v := .bool true) e25
                exact Reg.obl_free rfl (Reg.wp_eqv (Option.some_ne_none _) (by go_simp) rfl)
              · intro ax wx hx hs
                obtain ⟨e3, e26, -⟩ := hs
                have g3 := Reg.ev (v := .pointer (some ⟨w.heap.size, 0, none⟩)) e3
                have g26 := Reg.ev (v := .bool true) e26
                exact Reg.obl_want rfl rfl e26 (Reg.wp_eqv (Option.some_ne_none _) (by go_simp) rfl)
              · intro ax wx hx hs
                obtain ⟨e27, e26, -⟩ := hs
                have g27 := Reg.ev (v := .pointer (some ⟨w.heap.size, 0, none⟩)) e27
                have g26 := Reg.ev (v := .bool true) e26
                have l0 := str2 (HT.out.next hx)
                have l1 := str3 (HE.out.next hx)
                have hx2 : Below wr.heap.size wr wx := hx
                have l2 := (hx2.cell (p := ⟨b, o + i * 3, none⟩) hbl).trans HQ.out.1
                have l3 := (hx2.cell (p := ⟨b, o + i * 3 + 1, none⟩) hbl).trans HQ.out.2.1
                have l4 := (hx2.cell (p := ⟨b, o + i * 3 + 2, none⟩) hbl).trans HQ.out.2.2
                exact Reg.obl_want rfl rfl e26 (Reg.wp_eqv (Option.some_ne_none _) (by go_simp) rfl)
              · intro ax wx hx hs
                obtain ⟨e8, e26, -⟩ := hs
                have g8 := Reg.ev (v := .int .i64 (i : Int)) e8
                have g26 := Reg.ev (v := .bool true) e26
                exact Reg.obl_want rfl rfl e26 (Reg.wp_eqv (Option.some_ne_none _) (by go_simp) rfl)
              · intro ax wx hx hs
                obtain ⟨e28, e29, e26, -⟩ := hs
                have g28 := Reg.ev (v := .slice (some ⟨b, o, none⟩) n c) e28
                have g29 := Reg.ev (v := .int .i64 (i : Int)) e29
                have g26 := Reg.ev (v := .bool true) e26
                exact Reg.obl_want rfl rfl e26 (Reg.wp_eqv (Option.some_ne_none _) (by go_simp) rfl)
              · intro ax wx hx hs
                obtain ⟨e30, e26, -⟩ := hs
                have g30 := Reg.ev (v := .pointer (some ⟨b, o + i * 3, none⟩)) e30
                have g26 := Reg.ev (v := .bool true) e26
                exact Reg.obl_want rfl rfl e26 (Reg.wp_eqv (Option.some_ne_none _) (by go_simp) rfl)
              · intro ax wx hx hs
                obtain ⟨e31, e26, -⟩ := hs
                have g31 := Reg.ev (v := .pointer (some ⟨b, o + i * 3, none⟩)) e31
                have g26 := Reg.ev (v := .bool true) e26
                have l0 := str2 (HT.out.next hx)
                have l1 := str3 (HE.out.next hx)
                have hx2 : Below wr.heap.size wr wx := hx
                have l2 := (hx2.cell (p := ⟨b, o + i * 3, none⟩) hbl).trans HQ.out.1
                have l3 := (hx2.cell (p := ⟨b, o + i * 3 + 1, none⟩) hbl).trans HQ.out.2.1
                have l4 := (hx2.cell (p := ⟨b, o + i * 3 + 2, none⟩) hbl).trans HQ.out.2.2
                exact Reg.obl_want rfl rfl e26 (Reg.wp_eqv (Option.some_ne_none _) (by go_simp) rfl)
              · intro ax wx hx hs
                obtain ⟨e4, e26, -⟩ := hs
                have g4 := Reg.ev (v := .pointer (some ⟨(w.heap.size + 1), 0, none⟩)) e4
                have g26 := Reg.ev (v := .bool true) e26
                exact Reg.obl_want rfl rfl e26 (Reg.wp_eqv (Option.some_ne_none _) (by go_simp) rfl)
              · intro ax wx hx hs
                obtain ⟨e33, e26, -⟩ := hs
                have g33 := Reg.ev (v := .pointer (some ⟨(w.heap.size + 1), 0, none⟩)) e33
                have g26 := Reg.ev (v := .bool true) e26
                have l0 := str2 (HT.out.next hx)
                have l1 := str3 (HE.out.next hx)
                have hx2 : Below wr.heap.size wr wx := hx
                have l2 := (hx2.cell (p := ⟨b, o + i * 3, none⟩) hbl).trans HQ.out.1
                have l3 := (hx2.cell (p := ⟨b, o + i * 3 + 1, none⟩) hbl).trans HQ.out.2.1
                have l4 := (hx2.cell (p := ⟨b, o + i * 3 + 2, none⟩) hbl).trans HQ.out.2.2
                exact Reg.obl_want rfl rfl e26 (Reg.wp_eqv (Option.some_ne_none _) (by go_simp) rfl)
              · intro ax wx hx hs
                obtain ⟨e32, e34, e26, -⟩ := hs
                have g32 := Reg.ev (v := .int .i64 p.txn) e32
                have g34 := Reg.ev (v := .int .i64 eu) e34
                have g26 := Reg.ev (v := .bool true) e26
                exact Reg.obl_want rfl rfl e26 (Reg.wp_eqv (Option.some_ne_none _) (by go_simp) rfl)
              · intro ax wx hx hs
                obtain ⟨e26, e35, -⟩ := hs
                have g26 := Reg.ev (v := .bool true) e26
                have g35 := Reg.ev (v := .bool true) e35
                exact Reg.obl_free rfl (Reg.wp_eqv (Option.some_ne_none _) (by go_simp) rfl)
              · intro ax wx hx hs
                obtain ⟨e36, -⟩ := hs
                have g36 := Reg.ev (v := .bool true) e36
                exact Reg.obl_free rfl (Reg.wp_eqv (Option.some_ne_none _) (by go_simp) rfl)
              · intro ax wx hx hs
                obtain ⟨e3, e37, -⟩ := hs
                have g3 := Reg.ev (v := .pointer (some ⟨w.heap.size, 0, none⟩)) e3
                have g37 := Reg.ev (v := .bool true) e37
                exact Reg.obl_want rfl rfl e37 (Reg.wp_eqv (Option.some_ne_none _) (by go_simp) rfl)
              · intro ax wx hx hs
                obtain ⟨e38, e37, -⟩ := hs
                have g38 := Reg.ev (v := .pointer (some ⟨w.heap.size, 0, none⟩)) e38
                have g37 := Reg.ev (v := .bool true) e37
                have l0 := str2 (HT.out.next hx)
                have l1 := str3 (HE.out.next hx)
                have hx2 : Below wr.heap.size wr wx := hx
                have l2 := (hx2.cell (p := ⟨b, o + i * 3, none⟩) hbl).trans HQ.out.1
                have l3 := (hx2.cell (p := ⟨b, o + i * 3 + 1, none⟩) hbl).trans HQ.out.2.1
                have l4 := (hx2.cell (p := ⟨b, o + i * 3 + 2, none⟩) hbl).trans HQ.out.2.2
                exact Reg.obl_want rfl rfl e37 (Reg.wp_eqv (Option.some_ne_none _) (by go_simp) rfl)
              · intro ax wx hx hs
                obtain ⟨e8, e37, -⟩ := hs
                have g8 := Reg.ev (v := .int .i64 (i : Int)) e8
                have g37 := Reg.ev (v := .bool true) e37
                exact Reg.obl_want rfl rfl e37 (Reg.wp_eqv (Option.some_ne_none _) (by go_simp) rfl)
              · intro ax wx hx hs
                obtain ⟨e39, e40, e37, -⟩ := hs
                have g39 := Reg.ev (v := .slice (some ⟨b, o, none⟩) n c) e39
                have g40 := Reg.ev (v := .int .i64 (i : Int)) e40
                have g37 := Reg.ev (v := .bool true) e37
                exact Reg.obl_want rfl rfl e37 (Reg.wp_eqv (Option.some_ne_none _) (by go_simp) rfl)
              · intro ax wx hx hs
                obtain ⟨e41, e37, -⟩ := hs
                have g41 := Reg.ev (v := .pointer (some ⟨b, o + i * 3, none⟩)) e41
                have g37 := Reg.ev (v := .bool true) e37
                exact Reg.obl_want rfl rfl e37 (Reg.wp_eqv (Option.some_ne_none _) (by go_simp) rfl)
              · intro ax wx hx hs
                obtain ⟨e42, e37, -⟩ := hs
                have g42 := Reg.ev (v := .pointer (some ⟨b, o + i * 3 + 2, none⟩)) e42
                have g37 := Reg.ev (v := .bool true) e37
                have l0 := str2 (HT.out.next hx)
                have l1 := str3 (HE.out.next hx)
                have hx2 : Below wr.heap.size wr wx := hx
                have l2 := (hx2.cell (p := ⟨b, o + i * 3, none⟩) hbl).trans HQ.out.1
                have l3 := (hx2.cell (p := ⟨b, o + i * 3 + 1, none⟩) hbl).trans HQ.out.2.1
                have l4 := (hx2.cell (p := ⟨b, o + i * 3 + 2, none⟩) hbl).trans HQ.out.2.2
                exact Reg.obl_want rfl rfl e37 (Reg.wp_eqv (Option.some_ne_none _) (by go_simp) rfl)
              · intro ax wx hx hs
                obtain ⟨e4, e37, -⟩ := hs
                have g4 := Reg.ev (v := .pointer (some ⟨(w.heap.size + 1), 0, none⟩)) e4
                have g37 := Reg.ev (v := .bool true) e37
                exact Reg.obl_want rfl rfl e37 (Reg.wp_eqv (Option.some_ne_none _) (by go_simp) rfl)
              · intro ax wx hx hs
                obtain ⟨e44, e37, -⟩ := hs
                have g44 := Reg.ev (v := .pointer (some ⟨(w.heap.size + 1), 2, none⟩)) e44
                have g37 := Reg.ev (v := .bool true) e37
                have l0 := str2 (HT.out.next hx)
                have l1 := str3 (HE.out.next hx)
                have hx2 : Below wr.heap.size wr wx := hx
                have l2 := (hx2.cell (p := ⟨b, o + i * 3, none⟩) hbl).trans HQ.out.1
                have l3 := (hx2.cell (p := ⟨b, o + i * 3 + 1, none⟩) hbl).trans HQ.out.2.1
                have l4 := (hx2.cell (p := ⟨b, o + i * 3 + 2, none⟩) hbl).trans HQ.out.2.2
                exact Reg.obl_want rfl rfl e37 (Reg.wp_eqv (Option.some_ne_none _) (by go_simp) rfl)
              · intro ax wx hx hs
                obtain ⟨e43, e45, e37, -⟩ := hs
                have g43 := Reg.ev (v := .int .i64 p.mode) e43
                have g45 := Reg.ev (v := .int .i64 em) e45
                have g37 := Reg.ev (v := .bool true) e37
                refine Reg.obl_want rfl rfl e37 ?_
                go_simp
                refine (RefModes.compat_any p.mode em wx).mono ?_
                rintro r wy ⟨rfl, rfl⟩
                rw [HC.out]
                exact Reg.done (Option.some_ne_none _) rfl (bsame _)
              · intro ax wx hx hs
                obtain ⟨e46, e37, -⟩ := hs
                have g46 := Reg.ev (v := .bool false) e46
                have g37 := Reg.ev (v := .bool true) e37
                exact Reg.obl_want rfl rfl e37 (Reg.wp_eqv (Option.some_ne_none _) (by go_simp) rfl)
              · intro ax wx hx hs
                obtain ⟨e37, e47, -⟩ := hs
                have g37 := Reg.ev (v := .bool true) e37
                have g47 := Reg.ev (v := .bool true) e47
                exact Reg.obl_free rfl (Reg.wp_eqv (Option.some_ne_none _) (by go_simp) rfl)
            · intro WX hwf
              simp only [Reg.Fin]
              rintro _ rfl _ rfl _ rfl _ rfl _ rfl _ rfl _ rfl _ rfl _ rfl _ rfl _ rfl _ rfl _ rfl _ rfl _ rfl _ rfl _ rfl _ rfl _ rfl _ rfl _ rfl _ rfl _ rfl _ rfl _ rfl _ rfl _ rfl _ rfl _ rfl _ rfl _ rfl _ rfl
              go_simp
              have HK2 := Lib.hid (And.intro (bstep HK.out.1 hwf) (HK.out.2.next hwf))
              have g1 := str2 (HT.out.next hwf)
              have gl1 := (HT.out.next hwf).lt
              have q0 := (hwf.cell (p := ⟨b, o + i * 3, none⟩) hbl).trans HQ.out.1
              clear hwf
              go_wp2_with fail
              refine (add_any A9 m9 c9 _ p.txn WX HK2.out.2 (by omega)).mono ?_
              rintro e9 w9 ⟨A8, n8, c8, rfl, hE8, hb8⟩
              have hl8 := sort_len (f1 (x.h.take i) ⟨eu, p.key, em⟩ ++ [p.txn])
              have hl9 := hE8.len
              rw [← HN.out] at hE8 hl8
              have hlf := f1_len (x.h.take (i + 1)) ⟨eu, p.key, em⟩
              rw [List.length_take] at hlf
              rw [← HN.out] at hl9
              have HK8 := Lib.hid (And.intro (bstep HK2.out.1 hb8) hE8)
              have h8i : n8 ≤ i + 1 := by omega
              clear hE8 hb8
              go_wp2_with fail
              go_roundw
              case rel => exact ⟨i + 1, n8, c8, A8, by omega, h8i, rfl, by go_num, HK8⟩
              case measure => simp [intOf]; omega
      · have hd1 := str_ne hk
        have HN : Hid (f1 (x.h.take (i + 1)) ⟨eu, ek, em⟩ = f1 (x.h.take i) ⟨eu, ek, em⟩) := Lib.hid (f1_no HX.out (by simp [cA, on3, hk]))
        clear hk
        go_wp2_with fail
        refine Reg.wp_region_vals (R := ext) (W := wr) [Reg.eqv (.pointer (some ⟨w.heap.size, 0, none⟩)), Reg.eqv (.slice (some ⟨b, o, none⟩) n c), Reg.eqv (.int .i64 (i : Int)), Reg.eqv (.pointer (some ⟨b, o + i * 3, none⟩)), Reg.eqv (.pointer (some ⟨b, o + i * 3 + 1, none⟩)), Reg.eqv (.string p.key), Reg.eqv (.pointer (some ⟨(w.heap.size + 1), 1, none⟩)), Reg.eqv (.string ek), Reg.eqv (.bool false), Reg.eqv (.bool false), Reg.eqv undef, Reg.eqv undef, Reg.eqv undef, Reg.eqv undef, Reg.eqv undef, Reg.eqv undef, Reg.eqv undef, Reg.eqv undef, Reg.eqv undef, Reg.eqv (.bool false), Reg.eqv (.bool false), Reg.eqv undef, Reg.eqv undef, Reg.eqv undef, Reg.eqv undef, Reg.eqv undef, Reg.eqv undef, Reg.eqv undef, Reg.eqv undef, Reg.eqv undef, Reg.eqv undef, Reg.eqv (.bool false)] 101 [[(3, none)], [(17, some 0)], [(8, none)], [(18, some 1), (19, some 2)], [(20, some 3)], [(21, some 4)], [(4, none)], [(23, some 6)], [(22, some 5), (24, some 7)], [(25, some 8)], [(3, none), (26, some 9)], [(27, some 10), (26, some 9)], [(8, none), (26, some 9)], [(28, some 11), (29, some 12), (26, some 9)], [(30, some 13), (26, some 9)], [(31, some 14), (26, some 9)], [(4, none), (26, some 9)], [(33, some 16), (26, some 9)], [(32, some 15), (34, some 17), (26, some 9)], [(26, some 9), (35, some 18)], [(36, some 19)], [(3, none), (37, some 20)], [(38, some 21), (37, some 20)], [(8, none), (37, some 20)], [(39, some 22), (40, some 23), (37, some 20)], [(41, some 24), (37, some 20)], [(42, some 25), (37, some 20)], [(4, none), (37, some 20)], [(44, some 27), (37, some 20)], [(43, some 26), (45, some 28), (37, some 20)], [(46, some 29), (37, some 20)], [(37, some 20), (47, some 30)]] rfl (by kernel_rfl) (by kernel_rfl) (by kernel_rfl) ?_ [some 17, some 18, some 19, some 20, some 21, some 22, some 23, some 24, some 25, some 26, some 27, some 28, some 29, some 30, some 31, some 32, some 33, some 34, some 35, some 36, some 37, some 38, some 39, some 40, some 41, some 42, some 43, some 44, some 45, some 46, some 47, some 48] (by kernel_rfl) ?_
        · refine ⟨?_, ?_, ?_, ?_, ?_, ?_, ?_, ?_, ?_, ?_, ?_, ?_, ?_, ?_, ?_, ?_, ?_, ?_, ?_, ?_, ?_, ?_, ?_, ?_, ?_, ?_, ?_, ?_, ?_, ?_, ?_, ?_, trivial⟩
          · intro ax wx hx hs
            obtain ⟨e3, -⟩ := hs
            have g3 := Reg.ev (v := .pointer (some ⟨w.heap.size, 0, none⟩)) e3
            exact Reg.obl_free rfl (Reg.wp_eqv (Option.some_ne_none _) (by go_simp) rfl)
          · intro ax wx hx hs
            obtain ⟨e17, -⟩ := hs
            have g17 := Reg.ev (v := .pointer (some ⟨w.heap.size, 0, none⟩)) e17
            have l0 := str2 (HT.out.next hx)
            have l1 := str3 (HE.out.next hx)
            have hx2 : Below wr.heap.size wr wx := hx
            have l2 := (hx2.cell (p := ⟨b, o + i * 3, none⟩) hbl).trans HQ.out.1
            have l3 := (hx2.cell (p := ⟨b, o + i * 3 + 1, none⟩) hbl).trans HQ.out.2.1
            have l4 := (hx2.cell (p := ⟨b, o + i * 3 + 2, none⟩) hbl).trans HQ.out.2.2
            exact Reg.obl_free rfl (Reg.wp_eqv (Option.some_ne_none _) (by go_simp) rfl)
          · intro ax wx hx hs
            obtain ⟨e8, -⟩ := hs
            have g8 := Reg.ev (v := .int .i64 (i : Int)) e8
            exact Reg.obl_free rfl (Reg.wp_eqv (Option.some_ne_none _) (by go_simp) rfl)
          · intro ax wx hx hs
            obtain ⟨e18, e19, -⟩ := hs
            have g18 := Reg.ev (v := .slice (some ⟨b, o, none⟩) n c) e18
            have g19 := Reg.ev (v := .int .i64 (i : Int)) e19
            exact Reg.obl_free rfl (Reg.wp_eqv (Option.some_ne_none _) (by go_simp) rfl)
          · intro ax wx hx hs
            obtain ⟨e20, -⟩ := hs
            have g20 := Reg.ev (v := .pointer (some ⟨b, o + i * 3, none⟩)) e20
            exact Reg.obl_free rfl (Reg.wp_eqv (Option.some_ne_none _) (by go_simp) rfl)
          · intro ax wx hx hs
            obtain ⟨e21, -⟩ := hs
            have g21 := Reg.ev (v := .pointer (some ⟨b, o + i * 3 + 1, none⟩)) e21
            have l0 := str2 (HT.out.next hx)
            have l1 := str3 (HE.out.next hx)
            have hx2 : Below wr.heap.size wr wx := hx
            have l2 := (hx2.cell (p := ⟨b, o + i * 3, none⟩) hbl).trans HQ.out.1
            have l3 := (hx2.cell (p := ⟨b, o + i * 3 + 1, none⟩) hbl).trans HQ.out.2.1
            have l4 := (hx2.cell (p := ⟨b, o + i * 3 + 2, none⟩) hbl).trans HQ.out.2.2
            exact Reg.obl_free rfl (Reg.wp_eqv (Option.some_ne_none _) (by go_simp) rfl)
          · intro ax wx hx hs
            obtain ⟨e4, -⟩ := hs
            have g4 := Reg.ev (v := .pointer (some ⟨(w.heap.size + 1), 0, none⟩)) e4
            exact Reg.obl_free rfl (Reg.wp_eqv (Option.some_ne_none _) (by go_simp) rfl)
          · intro ax wx hx hs
            obtain ⟨e23, -⟩ := hs
            have g23 := Reg.ev (v := .pointer (some ⟨(w.heap.size + 1), 1, none⟩)) e23
            have l0 := str2 (HT.out.next hx)
            have l1 := str3 (HE.out.next hx)
            have hx2 : Below wr.heap.size wr wx := hx
            have l2 := (hx2.cell (p := ⟨b, o + i * 3, none⟩) hbl).trans HQ.out.1
            have l3 := (hx2.cell (p := ⟨b, o + i * 3 + 1, none⟩) hbl).trans HQ.out.2.1
            have l4 := (hx2.cell (p := ⟨b, o + i * 3 + 2, none⟩) hbl).trans HQ.out.2.2
            exact Reg.obl_free rfl (Reg.wp_eqv (Option.some_ne_none _) (by go_simp) rfl)
          · intro ax wx hx hs
            obtain ⟨e22, e24, -⟩ := hs
            have g22 := Reg.ev (v := .string p.key) e22
            have g24 := Reg.ev (v := .string ek) e24
            exact Reg.obl_free rfl (Reg.wp_eqv (Option.some_ne_none _) (by go_simp) rfl)
          · intro ax wx hx hs
            obtain ⟨e25, -⟩ := hs
            have g25 := Reg.ev (v := .bool false) e25
            exact Reg.obl_free rfl (Reg.wp_eqv (Option.some_ne_none _) (by go_simp) rfl)
          · intro ax wx hx hs
            obtain ⟨e3, e26, -⟩ := hs
            have g3 := Reg.ev (v := .pointer (some ⟨w.heap.size, 0, none⟩)) e3
            have g26 := Reg.ev (v := .bool false) e26
            exact Reg.obl_skip rfl rfl e26 rfl rfl
          · intro ax wx hx hs
            obtain ⟨e27, e26, -⟩ := hs
            have g27 := Reg.ev (v := undef) e27
            have g26 := Reg.ev (v := .bool false) e26
            exact Reg.obl_skip rfl rfl e26 rfl rfl
          · intro ax wx hx hs
            obtain ⟨e8, e26, -⟩ := hs
            have g8 := Reg.ev (v := .int .i64 (i : Int)) e8
            have g26 := Reg.ev (v := .bool false) e26
            exact Reg.obl_skip rfl rfl e26 rfl rfl
          · intro ax wx hx hs
            obtain ⟨e28, e29, e26, -⟩ := hs
            have g28 := Reg.ev (v := undef) e28
            have g29 := Reg.ev (v := undef) e29
            have g26 := Reg.ev (v := .bool false) e26
            exact Reg.obl_skip rfl rfl e26 rfl rfl
          · intro ax wx hx hs
            obtain ⟨e30, e26, -⟩ := hs
            have g30 := Reg.ev (v := undef) e30
            have g26 := Reg.ev (v := .bool false) e26
            exact Reg.obl_skip rfl rfl e26 rfl rfl
          · intro ax wx hx hs
            obtain ⟨e31, e26, -⟩ := hs
            have g31 := Reg.ev (v := undef) e31
            have g26 := Reg.ev (v := .bool false) e26
            exact Reg.obl_skip rfl rfl e26 rfl rfl
          · intro ax wx hx hs
            obtain ⟨e4, e26, -⟩ := hs
            have g4 := Reg.ev (v := .pointer (some ⟨(w.heap.size + 1), 0, none⟩)) e4
            have g26 := Reg.ev (v := .bool false) e26
            exact Reg.obl_skip rfl rfl e26 rfl rfl
          · intro ax wx hx hs
            obtain ⟨e33, e26, -⟩ := hs
            have g33 := Reg.ev (v := undef) e33
            have g26 := Reg.ev (v := .bool false) e26
            exact Reg.obl_skip rfl rfl e26 rfl rfl
          · intro ax wx hx hs
            obtain ⟨e32, e34, e26, -⟩ := hs
            have g32 := Reg.ev (v := undef) e32
            have g34 := Reg.ev (v := undef) e34
            have g26 := Reg.ev (v := .bool false) e26
            exact Reg.obl_skip rfl rfl e26 rfl rfl
          · intro ax wx hx hs
            obtain ⟨e26, e35, -⟩ := hs
            have g26 := Reg.ev (v := .bool false) e26
            have g35 := Reg.ev (v := undef) e35
            exact Reg.obl_free rfl (Reg.wp_eqv (Option.some_ne_none _) (by go_simp) rfl)
          · intro ax wx hx hs
            obtain ⟨e36, -⟩ := hs
            have g36 := Reg.ev (v := .bool false) e36
            exact Reg.obl_free rfl (Reg.wp_eqv (Option.some_ne_none _) (by go_simp) rfl)
          · intro ax wx hx hs
            obtain ⟨e3, e37, -⟩ := hs
            have g3 := Reg.ev (v := .pointer (some ⟨w.heap.size, 0, none⟩)) e3
            have g37 := Reg.ev (v := .bool false) e37
            exact Reg.obl_skip rfl rfl e37 rfl rfl
          · intro ax wx hx hs
            obtain ⟨e38, e37, -⟩ := hs
            have g38 := Reg.ev (v := undef) e38
            have g37 := Reg.ev (v := .bool false) e37
            exact Reg.obl_skip rfl rfl e37 rfl rfl
          · intro ax wx hx hs
            obtain ⟨e8, e37, -⟩ := hs
            have g8 := Reg.ev (v := .int .i64 (i : Int)) e8
            have g37 := Reg.ev (v := .bool false) e37
            exact Reg.obl_skip rfl rfl e37 rfl rfl
          · intro ax wx hx hs
            obtain ⟨e39, e40, e37, -⟩ := hs
            have g39 := Reg.ev (v := undef) e39
            have g40 := Reg.ev (v := undef) e40
            have g37 := Reg.ev (v := .bool false) e37
            exact Reg.obl_skip rfl rfl e37 rfl rfl
          · intro ax wx hx hs
            obtain ⟨e41, e37, -⟩ := hs
            have g41 := Reg.ev (v := undef) e41
            have g37 := Reg.ev (v := .bool false) e37
            exact Reg.obl_skip rfl rfl e37 rfl rfl
          · intro ax wx hx hs
            obtain ⟨e42, e37, -⟩ := hs
            have g42 := Reg.ev (v := undef) e42
            have g37 := Reg.ev (v := .bool false) e37
            exact Reg.obl_skip rfl rfl e37 rfl rfl
          · intro ax wx hx hs
            obtain ⟨e4, e37, -⟩ := hs
            have g4 := Reg.ev (v := .pointer (some ⟨(w.heap.size + 1), 0, none⟩)) e4
            have g37 := Reg.ev (v := .bool false) e37
            exact Reg.obl_skip rfl rfl e37 rfl rfl
          · intro ax wx hx hs
            obtain ⟨e44, e37, -⟩ := hs
            have g44 := Reg.ev (v := undef) e44
            have g37 := Reg.ev (v := .bool false) e37
            exact Reg.obl_skip rfl rfl e37 rfl rfl
          · intro ax wx hx hs
            obtain ⟨e43, e45, e37, -⟩ := hs
            have g43 := Reg.ev (v := undef) e43
            have g45 := Reg.ev (v := undef) e45
            have g37 := Reg.ev (v := .bool false) e37
            exact Reg.obl_skip rfl rfl e37 rfl rfl
          · intro ax wx hx hs
            obtain ⟨e46, e37, -⟩ := hs
            have g46 := Reg.ev (v := undef) e46
            have g37 := Reg.ev (v := .bool false) e37
            exact Reg.obl_skip rfl rfl e37 rfl rfl
          · intro ax wx hx hs
            obtain ⟨e37, e47, -⟩ := hs
            have g37 := Reg.ev (v := .bool false) e37
            have g47 := Reg.ev (v := undef) e47
            exact Reg.obl_free rfl (Reg.wp_eqv (Option.some_ne_none _) (by go_simp) rfl)
        · intro WX hwf
          simp only [Reg.Fin]
          rintro _ rfl _ rfl _ rfl _ rfl _ rfl _ rfl _ rfl _ rfl _ rfl _ rfl _ rfl _ rfl _ rfl _ rfl _ rfl _ rfl _ rfl _ rfl _ rfl _ rfl _ rfl _ rfl _ rfl _ rfl _ rfl _ rfl _ rfl _ rfl _ rfl _ rfl _ rfl _ rfl
          go_simp
          have HK2 := Lib.hid (And.intro (bstep HK.out.1 hwf) (HK.out.2.next hwf))
          clear hwf
          go_wp2_with fail
          go_roundw
          case rel => exact ⟨i + 1, m9, c9, A9, by omega, by omega, rfl, by go_num, Lib.hid ⟨HK2.out.1, by rw [HN.out]; exact HK2.out.2⟩⟩
          case measure => simp [intOf]; omega
    · have hd : decide ((i : Int) < (n : Int)) = false := by simp; omega
      obtain rfl : i = n := by omega
      go_wp2_with fail
      have hE := HK.out.2
      rw [List.take_of_length_le (by omega)] at hE
      have HE1 := Lib.hid hE
      have HBW := Lib.hid HK.out.1
      clear hE HK HT HE g1 gl1 hlt hd
      obtain ⟨wo, rfl⟩ : ∃ wo : World, wo = wr := ⟨_, rfl⟩
      go_loopw [7, 9] (fun sv iv wq => ∃ (j m9 c9 : Nat) (A9 : Option Addr), j ≤ m ∧ m9 ≤ i + j ∧ sv = .slice A9 m9 c9 ∧ iv = .int .i64 (j : Int) ∧ Hid (Below wo.heap.size wo wq ∧ Elems IntE wq wq.heap.size A9 m9 c9 (SortI.sort (f1 x.h ⟨eu, ek, em⟩ ++ f2 (x.w.take j) ⟨eu, ek, em⟩)) ∧ (0 < j → setR x.h eu ek = 0))) (fun _ iv _ => m - (intOf iv).toNat)
      case atStart => exact ⟨0, m9, c9, A9, Nat.zero_le _, by omega, rfl, rfl, Lib.hid ⟨bsame wo, by rw [List.take_zero]; show Elems IntE wo _ A9 m9 c9 (SortI.sort (f1 x.h ⟨eu, ek, em⟩ ++ [])); rw [List.append_nil]; exact HE1.out, fun h => absurd h (by omega)⟩⟩
      case round =>
        clear HE1
        obtain ⟨j, m8, c8, A8, hj, hmj, rfl, rfl, HK⟩ := hrel
        have hb9 := bstep (bstep HB1.out HBW.out) HK.out.1
        have HB9 := Lib.hid hb9
        have HT := Lib.hid (HS1.out.next (bstep HBW.out HK.out.1))
        have HE := Lib.hid (HS2.out.next (bstep HBW.out HK.out.1))
        have g1 := str2 HT.out
        have gl1 := HT.out.lt
        have g2 := str3 HE.out
        have gl2 := HE.out.lt
        have hsw := hb9.size
        clear hb9
        by_cases hlt : j < m
        · have hd : decide ((j : Int) < (m : Int)) = true := by simpa using hlt
          have k1 : ¬ (j : Int) < 0 := by omega
          have hlt2 : j < n2 := by omega
          go_wp2_with fail
          refine (set_any (x := x) (A2 := A2) (n2 := n2) (c2 := c2) eu ek wr (HH.out.next HB9.out) HM.out (by omega)).mono ?_
          rintro e9 w9 ⟨rfl, hs9⟩
          have HS9 := Lib.hid hs9
          have HT9 := Lib.hid (HT.out.next hs9)
          have HE9 := Lib.hid (HE.out.next hs9)
          have hz9 := hs9.size
          clear g1 gl1 g2 gl2 hs9
          by_cases hs : setR x.h eu ek = 0
          · have hd5 : (setR x.h eu ek == 0) = true := by simpa using hs
            obtain ⟨b, o, p, rfl, hb, hx, q0, q1, q2⟩ := h3_at HW.out (show j < n2 by omega)
            have hbb := bstep HB9.out HS9.out
            have hbl : b < w9.heap.size := by omega
            replace q0 := (hbb.cell (p := ⟨b, o + j * 3, none⟩) hb).trans q0
            replace q1 := (hbb.cell (p := ⟨b, o + j * 3 + 1, none⟩) hb).trans q1
            replace q2 := (hbb.cell (p := ⟨b, o + j * 3 + 2, none⟩) hb).trans q2
            have HX := Lib.hid hx
            have HQ := Lib.hid (And.intro q0 (And.intro q1 q2))
            clear hx hbb q0 q1 q2
            by_cases hk : p.key = ek
            · subst hk
              cases hc : compat p.mode em with
              | true =>
                have HC := Lib.hid hc
                have HN : Hid (f2 (x.w.take (j + 1)) ⟨eu, p.key, em⟩ = f2 (x.w.take j) ⟨eu, p.key, em⟩) := Lib.hid (f2_no HX.out (by simp [cB, hc]))
                clear hc
                go_wp2_with fail
                refine Reg.wp_region_vals (R := ext) (W := w9) [Reg.eqv (.pointer (some ⟨w.heap.size, 1, none⟩)), Reg.eqv (.slice (some ⟨b, o, none⟩) n2 c2), Reg.eqv (.int .i64 (j : Int)), Reg.eqv (.pointer (some ⟨b, o + j * 3, none⟩)), Reg.eqv (.pointer (some ⟨b, o + j * 3 + 1, none⟩)), Reg.eqv (.string p.key), Reg.eqv (.pointer (some ⟨(w.heap.size + 1), 1, none⟩)), Reg.eqv (.string p.key), Reg.eqv (.bool true), Reg.eqv (.bool true), Reg.eqv (.pointer (some ⟨w.heap.size, 1, none⟩)), Reg.eqv (.slice (some ⟨b, o, none⟩) n2 c2), Reg.eqv (.int .i64 (j : Int)), Reg.eqv (.pointer (some ⟨b, o + j * 3, none⟩)), Reg.eqv (.pointer (some ⟨b, o + j * 3 + 2, none⟩)), Reg.eqv (.int .i64 p.mode), Reg.eqv (.pointer (some ⟨(w.heap.size + 1), 2, none⟩)), Reg.eqv (.int .i64 em), Reg.eqv (.bool true), Reg.eqv (.bool false), Reg.eqv (.bool false)] 101 [[(3, none)], [(71, some 0)], [(9, none)], [(72, some 1), (73, some 2)], [(74, some 3)], [(75, some 4)], [(4, none)], [(77, some 6)], [(76, some 5), (78, some 7)], [(79, some 8)], [(3, none), (80, some 9)], [(81, some 10), (80, some 9)], [(9, none), (80, some 9)], [(82, some 11), (83, some 12), (80, some 9)], [(84, some 13), (80, some 9)], [(85, some 14), (80, some 9)], [(4, none), (80, some 9)], [(87, some 16), (80, some 9)], [(86, some 15), (88, some 17), (80, some 9)], [(89, some 18), (80, some 9)], [(80, some 9), (90, some 19)]] rfl (by kernel_rfl) (by kernel_rfl) (by kernel_rfl) ?_ [some 71, some 72, some 73, some 74, some 75, some 76, some 77, some 78, some 79, some 80, some 81, some 82, some 83, some 84, some 85, some 86, some 87, some 88, some 89, some 90, some 91] (by kernel_rfl) ?_
                · refine ⟨?_, ?_, ?_, ?_, ?_, ?_, ?_, ?_, ?_, ?_, ?_, ?_, ?_, ?_, ?_, ?_, ?_, ?_, ?_, ?_, ?_, trivial⟩
                  · intro ax wx hx hs
                    obtain ⟨e3, -⟩ := hs
                    have g3 := Reg.ev (v := .pointer (some ⟨w.heap.size, 0, none⟩)) e3
                    exact Reg.obl_free rfl (Reg.wp_eqv (Option.some_ne_none _) (by go_simp) rfl)
                  · intro ax wx hx hs
                    obtain ⟨e71, -⟩ := hs
                    have g71 := Reg.ev (v := .pointer (some ⟨w.heap.size, 1, none⟩)) e71
                    have l0 := str2 (HT9.out.next hx)
                    have l1 := str3 (HE9.out.next hx)
                    have hx2 : Below w9.heap.size w9 wx := hx
                    have l2 := (hx2.cell (p := ⟨b, o + j * 3, none⟩) hbl).trans HQ.out.1
                    have l3 := (hx2.cell (p := ⟨b, o + j * 3 + 1, none⟩) hbl).trans HQ.out.2.1
                    have l4 := (hx2.cell (p := ⟨b, o + j * 3 + 2, none⟩) hbl).trans HQ.out.2.2
                    exact Reg.obl_free rfl (Reg.wp_eqv (Option.some_ne_none _) (by go_simp) rfl)
                  · intro ax wx hx hs
                    obtain ⟨e9, -⟩ := hs
                    have g9 := Reg.ev (v := .int .i64 (j : Int)) e9
                    exact Reg.obl_free rfl (Reg.wp_eqv (Option.some_ne_none _) (by go_simp) rfl)
                  · intro ax wx hx hs
                    obtain ⟨e72, e73, -⟩ := hs
                    have g72 := Reg.ev (v := .slice (some ⟨b, o, none⟩) n2 c2) e72
                    have g73 := Reg.ev (v := .int .i64 (j : Int)) e73
                    exact Reg.obl_free rfl (Reg.wp_eqv (Option.some_ne_none _) (by go_simp) rfl)
                  · intro ax wx hx hs
                    obtain ⟨e74, -⟩ := hs
                    have g74 := Reg.ev (v := .pointer (some ⟨b, o + j * 3, none⟩)) e74
                    exact Reg.obl_free rfl (Reg.wp_eqv (Option.some_ne_none _) (by go_simp) rfl)
                  · intro ax wx hx hs
                    obtain ⟨e75, -⟩ := hs
                    have g75 := Reg.ev (v := .pointer (some ⟨b, o + j * 3 + 1, none⟩)) e75
                    have l0 := str2 (HT9.out.next hx)
                    have l1 := str3 (HE9.out.next hx)
                    have hx2 : Below w9.heap.size w9 wx := hx
                    have l2 := (hx2.cell (p := ⟨b, o + j * 3, none⟩) hbl).trans HQ.out.1
                    have l3 := (hx2.cell (p := ⟨b, o + j * 3 + 1, none⟩) hbl).trans HQ.out.2.1
                    have l4 := (hx2.cell (p := ⟨b, o + j * 3 + 2, none⟩) hbl).trans HQ.out.2.2
                    exact Reg.obl_free rfl (Reg.wp_eqv (Option.some_ne_none _) (by go_simp) rfl)
                  · intro ax wx hx hs
                    obtain ⟨e4, -⟩ := hs
                    have g4 := Reg.ev (v := .pointer (some ⟨(w.heap.size + 1), 0, none⟩)) e4
                    exact Reg.obl_free rfl (Reg.wp_eqv (Option.some_ne_none _) (by go_simp) rfl)
                  · intro ax wx hx hs
                    obtain ⟨e77, -⟩ := hs
                    have g77 := Reg.ev (v := .pointer (some ⟨(w.heap.size + 1), 1, none⟩)) e77
                    have l0 := str2 (HT9.out.next hx)
                    have l1 := str3 (HE9.out.next hx)
                    have hx2 : Below w9.heap.size w9 wx := hx
                    have l2 := (hx2.cell (p := ⟨b, o + j * 3, none⟩) hbl).trans HQ.out.1
                    have l3 := (hx2.cell (p := ⟨b, o + j * 3 + 1, none⟩) hbl).trans HQ.out.2.1
                    have l4 := (hx2.cell (p := ⟨b, o + j * 3 + 2, none⟩) hbl).trans HQ.out.2.2
                    exact Reg.obl_free rfl (Reg.wp_eqv (Option.some_ne_none _) (by go_simp) rfl)
                  · intro ax wx hx hs
                    obtain ⟨e76, e78, -⟩ := hs
                    have g76 := Reg.ev (v := .string p.key) e76
                    have g78 := Reg.ev (v := .string p.key) e78
                    exact Reg.obl_free rfl (Reg.wp_eqv (Option.some_ne_none _) (by go_simp) rfl)
                  · intro ax wx hx hs
                    obtain ⟨e79, -⟩ := hs
                    have g79 := Reg.ev (v := .bool true) e79
                    exact Reg.obl_free rfl (Reg.wp_eqv (Option.some_ne_none _) (by go_simp) rfl)
                  · intro ax wx hx hs
                    obtain ⟨e3, e80, -⟩ := hs
                    have g3 := Reg.ev (v := .pointer (some ⟨w.heap.size, 0, none⟩)) e3
                    have g80 := Reg.ev (v := .bool true) e80
                    exact Reg.obl_want rfl rfl e80 (Reg.wp_eqv (Option.some_ne_none _) (by go_simp) rfl)
                  · intro ax wx hx hs
                    obtain ⟨e81, e80, -⟩ := hs
                    have g81 := Reg.ev (v := .pointer (some ⟨w.heap.size, 1, none⟩)) e81
                    have g80 := Reg.ev (v := .bool true) e80
                    have l0 := str2 (HT9.out.next hx)
                    have l1 := str3 (HE9.out.next hx)
                    have hx2 : Below w9.heap.size w9 wx := hx
                    have l2 := (hx2.cell (p := ⟨b, o + j * 3, none⟩) hbl).trans HQ.out.1
                    have l3 := (hx2.cell (p := ⟨b, o + j * 3 + 1, none⟩) hbl).trans HQ.out.2.1
                    have l4 := (hx2.cell (p := ⟨b, o + j * 3 + 2, none⟩) hbl).trans HQ.out.2.2
                    exact Reg.obl_want rfl rfl e80 (Reg.wp_eqv (Option.some_ne_none _) (by go_simp) rfl)
                  · intro ax wx hx hs
                    obtain ⟨e9, e80, -⟩ := hs
                    have g9 := Reg.ev (v := .int .i64 (j : Int)) e9
                    have g80 := Reg.ev (v := .bool true) e80
                    exact Reg.obl_want rfl rfl e80 (Reg.wp_eqv (Option.some_ne_none _) (by go_simp) rfl)
                  · intro ax wx hx hs
                    obtain ⟨e82, e83, e80, -⟩ := hs
                    have g82 := Reg.ev (v := .slice (some ⟨b, o, none⟩) n2 c2) e82
                    have g83 := Reg.ev (v := .int .i64 (j : Int)) e83
                    have g80 := Reg.ev (v := .bool true) e80
                    exact Reg.obl_want rfl rfl e80 (Reg.wp_eqv (Option.some_ne_none _) (by go_simp) rfl)
                  · intro ax wx hx hs
                    obtain ⟨e84, e80, -⟩ := hs
                    have g84 := Reg.ev (v := .pointer (some ⟨b, o + j * 3, none⟩)) e84
                    have g80 := Reg.ev (v := .bool true) e80
                    exact Reg.obl_want rfl rfl e80 (Reg.wp_eqv (Option.some_ne_none _) (by go_simp) rfl)
                  · intro ax wx hx hs
                    obtain ⟨e85, e80, -⟩ := hs
                    have g85 := Reg.ev (v := .pointer (some ⟨b, o + j * 3 + 2, none⟩)) e85
                    have g80 := Reg.ev (v := .bool true) e80
                    have l0 := str2 (HT9.out.next hx)
                    have l1 := str3 (HE9.out.next hx)
                    have hx2 : Below w9.heap.size w9 wx := hx
                    have l2 := (hx2.cell (p := ⟨b, o + j * 3, none⟩) hbl).trans HQ.out.1
                    have l3 := (hx2.cell (p := ⟨b, o + j * 3 + 1, none⟩) hbl).trans HQ.out.2.1
                    have l4 := (hx2.cell (p := ⟨b, o + j * 3 + 2, none⟩) hbl).trans HQ.out.2.2
                    exact Reg.obl_want rfl rfl e80 (Reg.wp_eqv (Option.some_ne_none _) (by go_simp) rfl)
                  · intro ax wx hx hs
                    obtain ⟨e4, e80, -⟩ := hs
                    have g4 := Reg.ev (v := .pointer (some ⟨(w.heap.size + 1), 0, none⟩)) e4
                    have g80 := Reg.ev (v := .bool true) e80
                    exact Reg.obl_want rfl rfl e80 (Reg.wp_eqv (Option.some_ne_none _) (by go_simp) rfl)
                  · intro ax wx hx hs
                    obtain ⟨e87, e80, -⟩ := hs
                    have g87 := Reg.ev (v := .pointer (some ⟨(w.heap.size + 1), 2, none⟩)) e87
                    have g80 := Reg.ev (v := .bool true) e80
                    have l0 := str2 (HT9.out.next hx)
                    have l1 := str3 (HE9.out.next hx)
                    have hx2 : Below w9.heap.size w9 wx := hx
                    have l2 := (hx2.cell (p := ⟨b, o + j * 3, none⟩) hbl).trans HQ.out.1
                    have l3 := (hx2.cell (p := ⟨b, o + j * 3 + 1, none⟩) hbl).trans HQ.out.2.1
                    have l4 := (hx2.cell (p := ⟨b, o + j * 3 + 2, none⟩) hbl).trans HQ.out.2.2
                    exact Reg.obl_want rfl rfl e80 (Reg.wp_eqv (Option.some_ne_none _) (by go_simp) rfl)
                  · intro ax wx hx hs
                    obtain ⟨e86, e88, e80, -⟩ := hs
                    have g86 := Reg.ev (v := .int .i64 p.mode) e86
                    have g88 := Reg.ev (v := .int .i64 em) e88
                    have g80 := Reg.ev (v := .bool true) e80
                    refine Reg.obl_want rfl rfl e80 ?_
                    go_simp
                    refine (RefModes.compat_any p.mode em wx).mono ?_
                    rintro r wy ⟨rfl, rfl⟩
                    rw [HC.out]
                    exact Reg.done (Option.some_ne_none _) rfl (bsame _)
                  · intro ax wx hx hs
                    obtain ⟨e89, e80, -⟩ := hs
                    have g89 := Reg.ev (v := .bool true) e89
                    have g80 := Reg.ev (v := .bool true) e80
                    exact Reg.obl_want rfl rfl e80 (Reg.wp_eqv (Option.some_ne_none _) (by go_simp) rfl)
                  · intro ax wx hx hs
                    obtain ⟨e80, e90, -⟩ := hs
                    have g80 := Reg.ev (v := .bool true) e80
                    have g90 := Reg.ev (v := .bool false) e90
                    exact Reg.obl_free rfl (Reg.wp_eqv (Option.some_ne_none _) (by go_simp) rfl)
                · intro WX hwf
                  simp only [Reg.Fin]
                  rintro _ rfl _ rfl _ rfl _ rfl _ rfl _ rfl _ rfl _ rfl _ rfl _ rfl _ rfl _ rfl _ rfl _ rfl _ rfl _ rfl _ rfl _ rfl _ rfl _ rfl _ rfl
                  go_simp
                  have HK2 := Lib.hid (And.intro (bstep (bstep HK.out.1 HS9.out) hwf) (HK.out.2.1.next (bstep HS9.out hwf)))
                  clear hwf
                  go_wp2_with fail
                  go_roundw
                  case rel => exact ⟨j + 1, m8, c8, A8, by omega, by omega, rfl, by go_num, Lib.hid ⟨HK2.out.1, by rw [HN.out]; exact HK2.out.2, fun _ => hs⟩⟩
                  case measure => simp [intOf]; omega
              | false =>
                have HC := Lib.hid hc
                have HN : Hid (f2 (x.w.take (j + 1)) ⟨eu, p.key, em⟩ = f2 (x.w.take j) ⟨eu, p.key, em⟩ ++ [p.txn]) := Lib.hid (f2_yes HX.out (by simp [cB, on3, hc]))
                clear hc
                go_wp2_with fail
                refine Reg.wp_region_vals (R := ext) (W := w9) [Reg.eqv (.pointer (some ⟨w.heap.size, 1, none⟩)), Reg.eqv (.slice (some ⟨b, o, none⟩) n2 c2), Reg.eqv (.int .i64 (j : Int)), Reg.eqv (.pointer (some ⟨b, o + j * 3, none⟩)), Reg.eqv (.pointer (some ⟨b, o + j * 3 + 1, none⟩)), Reg.eqv (.string p.key), Reg.eqv (.pointer (some ⟨(w.heap.size + 1), 1, none⟩)), Reg.eqv (.string p.key), Reg.eqv (.bool true), Reg.eqv (.bool true), Reg.eqv (.pointer (some ⟨w.heap.size, 1, none⟩)), Reg.eqv (.slice (some ⟨b, o, none⟩) n2 c2), Reg.eqv (.int .i64 (j : Int)), Reg.eqv (.pointer (some ⟨b, o + j * 3, none⟩)), Reg.eqv (.pointer (some ⟨b, o + j * 3 + 2, none⟩)), Reg.eqv (.int .i64 p.mode), Reg.eqv (.pointer (some ⟨(w.heap.size + 1), 2, none⟩)), Reg.eqv (.int .i64 em), Reg.eqv (.bool false), Reg.eqv (.bool true), Reg.eqv (.bool true)] 101 [[(3, none)], [(71, some 0)], [(9, none)], [(72, some 1), (73, some 2)], [(74, some 3)], [(75, some 4)], [(4, none)], [(77, some 6)], [(76, some 5), (78, some 7)], [(79, some 8)], [(3, none), (80, some 9)], [(81, some 10), (80, some 9)], [(9, none), (80, some 9)], [(82, some 11), (83, some 12), (80, some 9)], [(84, some 13), (80, some 9)], [(85, some 14), (80, some 9)], [(4, none), (80, some 9)], [(87, some 16), (80, some 9)], [(86, some 15), (88, some 17), (80, some 9)], [(89, some 18), (80, some 9)], [(80, some 9), (90, some 19)]] rfl (by kernel_rfl) (by kernel_rfl) (by kernel_rfl) ?_ [some 71, some 72, some 73, some 74, some 75, some 76, some 77, some 78, some 79, some 80, some 81, some 82, some 83, some 84, some 85, some 86, some 87, some 88, some 89, some 90, some 91] (by kernel_rfl) ?_
                · refine ⟨?_, ?_, ?_, ?_, ?_, ?_, ?_, ?_, ?_, ?_, ?_, ?_, ?_, ?_, ?_, ?_, ?_, ?_, ?_, ?_, ?_, trivial⟩
                  · intro ax wx hx hs
                    obtain ⟨e3, -⟩ := hs
                    have g3 := Reg.ev (v := .pointer (some ⟨w.heap.size, 0, none⟩)) e3
                    exact Reg.obl_free rfl (Reg.wp_eqv (Option.some_ne_none _) (by go_simp) rfl)
                  · intro ax wx hx hs
                    obtain ⟨e71, -⟩ := hs
                    have g71 := Reg.ev (v := .pointer (some ⟨w.heap.size, 1, none⟩)) e71
                    have l0 := str2 (HT9.out.next hx)
                    have l1 := str3 (HE9.out.next hx)
                    have hx2 : Below w9.heap.size w9 wx := hx
                    have l2 := (hx2.cell (p := ⟨b, o + j * 3, none⟩) hbl).trans HQ.out.1
                    have l3 := (hx2.cell (p := ⟨b, o + j * 3 + 1, none⟩) hbl).trans HQ.out.2.1
                    have l4 := (hx2.cell (p := ⟨b, o + j * 3 + 2, none⟩) hbl).trans HQ.out.2.2
                    exact Reg.obl_free rfl (Reg.wp_eqv (Option.some_ne_none _) (by go_simp) rfl)
                  · intro ax wx hx hs
                    obtain ⟨e9, -⟩ := hs
                    have g9 := Reg.ev (v := .int .i64 (j : Int)) e9
                    exact Reg.obl_free rfl (Reg.wp_eqv (Option.some_ne_none _) (by go_simp) rfl)
                  · intro ax wx hx hs
                    obtain ⟨e72, e73, -⟩ := hs
                    have g72 := Reg.ev (v := .slice (some ⟨b, o, none⟩) n2 c2) e72
                    have g73 := Reg.ev (v := .int .i64 (j : Int)) e73
                    exact Reg.obl_free rfl (Reg.wp_eqv (Option.some_ne_none _) (by go_simp) rfl)
                  · intro ax wx hx hs
                    obtain ⟨e74, -⟩ := hs
                    have g74 := Reg.ev (v := .pointer (some ⟨b, o + j * 3, none⟩)) e74
                    exact Reg.obl_free rfl (Reg.wp_eqv (Option.some_ne_none _) (by go_simp) rfl)
                  · intro ax wx hx hs
                    obtain ⟨e75, -⟩ := hs
                    have g75 := Reg.ev (v := .pointer (some ⟨b, o + j * 3 + 1, none⟩)) e75
                    have l0 := str2 (HT9.out.next hx)
                    have l1 := str3 (HE9.out.next hx)
                    have hx2 : Below w9.heap.size w9 wx := hx
                    have l2 := (hx2.cell (p := ⟨b, o + j * 3, none⟩) hbl).trans HQ.out.1
                    have l3 := (hx2.cell (p := ⟨b, o + j * 3 + 1, none⟩) hbl).trans HQ.out.2.1
                    have l4 := (hx2.cell (p := ⟨b, o + j * 3 + 2, none⟩) hbl).trans HQ.out.2.2
                    exact Reg.obl_free rfl (Reg.wp_eqv (Option.some_ne_none _) (by go_simp) rfl)
                  · intro ax wx hx hs
                    obtain ⟨e4, -⟩ := hs
                    have g4 := Reg.ev (v := .pointer (some ⟨(w.heap.size + 1), 0, none⟩)) e4
                    exact Reg.obl_free rfl (Reg.wp_eqv (Option.some_ne_none _) (by go_simp) rfl)
                  · intro ax wx hx hs
                    obtain ⟨e77, -⟩ := hs
                    have g77 := Reg.ev (v := .pointer (some ⟨(w.heap.size + 1), 1, none⟩)) e77
                    have l0 := str2 (HT9.out.next hx)
                    have l1 := str3 (HE9.out.next hx)
                    have hx2 : Below w9.heap.size w9 wx := hx
                    have l2 := (hx2.cell (p := ⟨b, o + j * 3, none⟩) hbl).trans HQ.out.1
                    have l3 := (hx2.cell (p := ⟨b, o + j * 3 + 1, none⟩) hbl).trans HQ.out.2.1
                    have l4 := (hx2.cell (p := ⟨b, o + j * 3 + 2, none⟩) hbl).trans HQ.out.2.2
                    exact Reg.obl_free rfl (Reg.wp_eqv (Option.some_ne_none _) (by go_simp) rfl)
                  · intro ax wx hx hs
                    obtain ⟨e76, e78, -⟩ := hs
                    have g76 := Reg.ev (v := .string p.key) e76
                    have g78 := Reg.ev (v := .string p.key) e78
                    exact Reg.obl_free rfl (Reg.wp_eqv (Option.some_ne_none _) (by go_simp) rfl)
                  · intro ax wx hx hs
                    obtain ⟨e79, -⟩ := hs
                    have g79 := Reg.ev (v := .bool true) e79
                    exact Reg.obl_free rfl (Reg.wp_eqv (Option.some_ne_none _) (by go_simp) rfl)
                  · intro ax wx hx hs
                    obtain ⟨e3, e80, -⟩ := hs
                    have g3 := Reg.ev (v := .pointer (some ⟨w.heap.size, 0, none⟩)) e3
                    have g80 := Reg.ev (v := .bool true) e80
                    exact Reg.obl_want rfl rfl e80 (Reg.wp_eqv (Option.some_ne_none _) (by go_simp) rfl)
                  · intro ax wx hx hs
                    obtain ⟨e81, e80, -⟩ := hs
                    have g81 := Reg.ev (v := .pointer (some ⟨w.heap.size, 1, none⟩)) e81
                    have g80 := Reg.ev (v := .bool true) e80
                    have l0 := str2 (HT9.out.next hx)
                    have l1 := str3 (HE9.out.next hx)
                    have hx2 : Below w9.heap.size w9 wx := hx
                    have l2 := (hx2.cell (p := ⟨b, o + j * 3, none⟩) hbl).trans HQ.out.1
                    have l3 := (hx2.cell (p := ⟨b, o + j * 3 + 1, none⟩) hbl).trans HQ.out.2.1
                    have l4 := (hx2.cell (p := ⟨b, o + j * 3 + 2, none⟩) hbl).trans HQ.out.2.2
                    exact Reg.obl_want rfl rfl e80 (Reg.wp_eqv (Option.some_ne_none _) (by go_simp) rfl)
                  · intro ax wx hx hs
                    obtain ⟨e9, e80, -⟩ := hs
                    have g9 := Reg.ev (v := .int .i64 (j : Int)) e9
                    have g80 := Reg.ev (v := .bool true) e80
                    exact Reg.obl_want rfl rfl e80 (Reg.wp_eqv (Option.some_ne_none _) (by go_simp) rfl)
                  · intro ax wx hx hs
                    obtain ⟨e82, e83, e80, -⟩ := hs
                    have g82 := Reg.ev (v := .slice (some ⟨b, o, none⟩) n2 c2) e82
                    have g83 := Reg.ev (v := .int .i64 (j : Int)) e83
                    have g80 := Reg.ev (v := .bool true) e80
                    exact Reg.obl_want rfl rfl e80 (Reg.wp_eqv (Option.some_ne_none _) (by go_simp) rfl)
                  · intro ax wx hx hs
                    obtain ⟨e84, e80, -⟩ := hs
                    have g84 := Reg.ev (v := .pointer (some ⟨b, o + j * 3, none⟩)) e84
                    have g80 := Reg.ev (v := .bool true) e80
                    exact Reg.obl_want rfl rfl e80 (Reg.wp_eqv (Option.some_ne_none _) (by go_simp) rfl)
                  · intro ax wx hx hs
                    obtain ⟨e85, e80, -⟩ := hs
                    have g85 := Reg.ev (v := .pointer (some ⟨b, o + j * 3 + 2, none⟩)) e85
                    have g80 := Reg.ev (v := .bool true) e80
                    have l0 := str2 (HT9.out.next hx)
                    have l1 := str3 (HE9.out.next hx)
                    have hx2 : Below w9.heap.size w9 wx := hx
                    have l2 := (hx2.cell (p := ⟨b, o + j * 3, none⟩) hbl).trans HQ.out.1
                    have l3 := (hx2.cell (p := ⟨b, o + j * 3 + 1, none⟩) hbl).trans HQ.out.2.1
                    have l4 := (hx2.cell (p := ⟨b, o + j * 3 + 2, none⟩) hbl).trans HQ.out.2.2
                    exact Reg.obl_want rfl rfl e80 (Reg.wp_eqv (Option.some_ne_none _) (by go_simp) rfl)
                  · intro ax wx hx hs
                    obtain ⟨e4, e80, -⟩ := hs
                    have g4 := Reg.ev (v := .pointer (some ⟨(w.heap.size + 1), 0, none⟩)) e4
                    have g80 := Reg.ev (v := .bool true) e80
                    exact Reg.obl_want rfl rfl e80 (Reg.wp_eqv (Option.some_ne_none _) (by go_simp) rfl)
                  · intro ax wx hx hs
                    obtain ⟨e87, e80, -⟩ := hs
                    have g87 := Reg.ev (v := .pointer (some ⟨(w.heap.size + 1), 2, none⟩)) e87
                    have g80 := Reg.ev (v := .bool true) e80
                    have l0 := str2 (HT9.out.next hx)
                    have l1 := str3 (HE9.out.next hx)
                    have hx2 : Below w9.heap.size w9 wx := hx
                    have l2 := (hx2.cell (p := ⟨b, o + j * 3, none⟩) hbl).trans HQ.out.1
                    have l3 := (hx2.cell (p := ⟨b, o + j * 3 + 1, none⟩) hbl).trans HQ.out.2.1
                    have l4 := (hx2.cell (p := ⟨b, o + j * 3 + 2, none⟩) hbl).trans HQ.out.2.2
                    exact Reg.obl_want rfl rfl e80 (Reg.wp_eqv (Option.some_ne_none _) (by go_simp) rfl)
                  · intro ax wx hx hs
                    obtain ⟨e86, e88, e80, -⟩ := hs
                    have g86 := Reg.ev (v := .int .i64 p.mode) e86
                    have g88 := Reg.ev (v := .int .i64 em) e88
                    have g80 := Reg.ev (v := .bool true) e80
                    refine Reg.obl_want rfl rfl e80 ?_
                    go_simp
                    refine (RefModes.compat_any p.mode em wx).mono ?_
                    rintro r wy ⟨rfl, rfl⟩
                    rw [HC.out]
                    exact Reg.done (Option.some_ne_none _) rfl (bsame _)
                  · intro ax wx hx hs
                    obtain ⟨e89, e80, -⟩ := hs
                    have g89 := Reg.ev (v := .bool false) e89
                    have g80 := Reg.ev (v := .bool true) e80
                    exact Reg.obl_want rfl rfl e80 (Reg.wp_eqv (Option.some_ne_none _) (by go_simp) rfl)
                  · intro ax wx hx hs
                    obtain ⟨e80, e90, -⟩ := hs
                    have g80 := Reg.ev (v := .bool true) e80
                    have g90 := Reg.ev (v := .bool true) e90
                    exact Reg.obl_free rfl (Reg.wp_eqv (Option.some_ne_none _) (by go_simp) rfl)
                · intro WX hwf
                  simp only [Reg.Fin]
                  rintro _ rfl _ rfl _ rfl _ rfl _ rfl _ rfl _ rfl _ rfl _ rfl _ rfl _ rfl _ rfl _ rfl _ rfl _ rfl _ rfl _ rfl _ rfl _ rfl _ rfl _ rfl
                  go_simp
                  have HK2 := Lib.hid (And.intro (bstep (bstep HK.out.1 HS9.out) hwf) (HK.out.2.1.next (bstep HS9.out hwf)))
                  have g1 := str2 (HT9.out.next hwf)
                  have gl1 := (HT9.out.next hwf).lt
                  have q0 := (hwf.cell (p := ⟨b, o + j * 3, none⟩) hbl).trans HQ.out.1
                  clear hwf
                  go_wp2_with fail
                  refine (add_any A8 m8 c8 _ p.txn WX HK2.out.2 (by omega)).mono ?_
                  rintro e9 w7 ⟨A7, n7, c7, rfl, hE7, hb7⟩
                  have hl8 := sort_len ((f1 x.h ⟨eu, p.key, em⟩ ++ f2 (x.w.take j) ⟨eu, p.key, em⟩) ++ [p.txn])
                  have hl9 := hE7.len
                  rw [List.append_assoc, ← HN.out] at hE7 hl8 hl9
                  have hlf := f1_len x.h ⟨eu, p.key, em⟩
                  have hlf2 := f2_len (x.w.take (j + 1)) ⟨eu, p.key, em⟩
                  rw [List.length_take] at hlf2
                  rw [List.length_append] at hl8
                  have HK8 := Lib.hid (And.intro (bstep HK2.out.1 hb7) hE7)
                  have h8i : n7 ≤ i + (j + 1) := by omega
                  clear hE7 hb7
                  go_wp2_with fail
                  go_roundw
                  case rel => exact ⟨j + 1, n7, c7, A7, by omega, h8i, rfl, by go_num, Lib.hid ⟨HK8.out.1, HK8.out.2, fun _ => hs⟩⟩
                  case measure => simp [intOf]; omega
            · have hd1 := str_ne hk
              have HN : Hid (f2 (x.w.take (j + 1)) ⟨eu, ek, em⟩ = f2 (x.w.take j) ⟨eu, ek, em⟩) := Lib.hid (f2_no HX.out (by simp [cB, on3, hk]))
              clear hk
              go_wp2_with fail
              refine Reg.wp_region_vals (R := ext) (W := w9) [Reg.eqv (.pointer (some ⟨w.heap.size, 1, none⟩)), Reg.eqv (.slice (some ⟨b, o, none⟩) n2 c2), Reg.eqv (.int .i64 (j : Int)), Reg.eqv (.pointer (some ⟨b, o + j * 3, none⟩)), Reg.eqv (.pointer (some ⟨b, o + j * 3 + 1, none⟩)), Reg.eqv (.string p.key), Reg.eqv (.pointer (some ⟨(w.heap.size + 1), 1, none⟩)), Reg.eqv (.string ek), Reg.eqv (.bool false), Reg.eqv (.bool false), Reg.eqv undef, Reg.eqv undef, Reg.eqv undef, Reg.eqv undef, Reg.eqv undef, Reg.eqv undef, Reg.eqv undef, Reg.eqv undef, Reg.eqv undef, Reg.eqv undef, Reg.eqv (.bool false)] 101 [[(3, none)], [(71, some 0)], [(9, none)], [(72, some 1), (73, some 2)], [(74, some 3)], [(75, some 4)], [(4, none)], [(77, some 6)], [(76, some 5), (78, some 7)], [(79, some 8)], [(3, none), (80, some 9)], [(81, some 10), (80, some 9)], [(9, none), (80, some 9)], [(82, some 11), (83, some 12), (80, some 9)], [(84, some 13), (80, some 9)], [(85, some 14), (80, some 9)], [(4, none), (80, some 9)], [(87, some 16), (80, some 9)], [(86, some 15), (88, some 17), (80, some 9)], [(89, some 18), (80, some 9)], [(80, some 9), (90, some 19)]] rfl (by kernel_rfl) (by kernel_rfl) (by kernel_rfl) ?_ [some 71, some 72, some 73, some 74, some 75, some 76, some 77, some 78, some 79, some 80, some 81, some 82, some 83, some 84, some 85, some 86, some 87, some 88, some 89, some 90, some 91] (by kernel_rfl) ?_
              · refine ⟨?_, ?_, ?_, ?_, ?_, ?_, ?_, ?_, ?_, ?_, ?_, ?_, ?_, ?_, ?_, ?_, ?_, ?_, ?_, ?_, ?_, trivial⟩
                · intro ax wx hx hs
                  obtain ⟨e3, -⟩ := hs
                  have g3 := Reg.ev (v := .pointer (some ⟨w.heap.size, 0, none⟩)) e3
                  exact Reg.obl_free rfl (Reg.wp_eqv (Option.some_ne_none _) (by go_simp) rfl)
                · intro ax wx hx hs
                  obtain ⟨e71, -⟩ := hs
                  have g71 := Reg.ev (v := .pointer (some ⟨w.heap.size, 1, none⟩)) e71
                  have l0 := str2 (HT9.out.next hx)
                  have l1 := str3 (HE9.out.next hx)
                  have hx2 : Below w9.heap.size w9 wx := hx
                  have l2 := (hx2.cell (p := ⟨b, o + j * 3, none⟩) hbl).trans HQ.out.1
                  have l3 := (hx2.cell (p := ⟨b, o + j * 3 + 1, none⟩) hbl).trans HQ.out.2.1
                  have l4 := (hx2.cell (p := ⟨b, o + j * 3 + 2, none⟩) hbl).trans HQ.out.2.2
                  exact Reg.obl_free rfl (Reg.wp_eqv (Option.some_ne_none _) (by go_simp) rfl)
                · intro ax wx hx hs
                  obtain ⟨e9, -⟩ := hs
                  have g9 := Reg.ev (v := .int .i64 (j : Int)) e9
                  exact Reg.obl_free rfl (Reg.wp_eqv (Option.some_ne_none _) (by go_simp) rfl)
                · intro ax wx hx hs
                  obtain ⟨e72, e73, -⟩ := hs
                  have g72 := Reg.ev (v := .slice (some ⟨b, o, none⟩) n2 c2) e72
                  have g73 := Reg.ev (v := .int .i64 (j : Int)) e73
                  exact Reg.obl_free rfl (Reg.wp_eqv (Option.some_ne_none _) (by go_simp) rfl)
                · intro ax wx hx hs
                  obtain ⟨e74, -⟩ := hs
                  have g74 := Reg.ev (v := .pointer (some ⟨b, o + j * 3, none⟩)) e74
                  exact Reg.obl_free rfl (Reg.wp_eqv (Option.some_ne_none _) (by go_simp) rfl)
                · intro ax wx hx hs
                  obtain ⟨e75, -⟩ := hs
                  have g75 := Reg.ev (v := .pointer (some ⟨b, o + j * 3 + 1, none⟩)) e75
                  have l0 := str2 (HT9.out.next hx)
                  have l1 := str3 (HE9.out.next hx)
                  have hx2 : Below w9.heap.size w9 wx := hx
                  have l2 := (hx2.cell (p := ⟨b, o + j * 3, none⟩) hbl).trans HQ.out.1
                  have l3 := (hx2.cell (p := ⟨b, o + j * 3 + 1, none⟩) hbl).trans HQ.out.2.1
                  have l4 := (hx2.cell (p := ⟨b, o + j * 3 + 2, none⟩) hbl).trans HQ.out.2.2
                  exact Reg.obl_free rfl (Reg.wp_eqv (Option.some_ne_none _) (by go_simp) rfl)
                · intro ax wx hx hs
                  obtain ⟨e4, -⟩ := hs
                  have g4 := Reg.ev (v := .pointer (some ⟨(w.heap.size + 1), 0, none⟩)) e4
                  exact Reg.obl_free rfl (Reg.wp_eqv (Option.some_ne_none _) (by go_simp) rfl)
                · intro ax wx hx hs
                  obtain ⟨e77, -⟩ := hs
                  have g77 := Reg.ev (v := .pointer (some ⟨(w.heap.size + 1), 1, none⟩)) e77
                  have l0 := str2 (HT9.out.next hx)
                  have l1 := str3 (HE9.out.next hx)
                  have hx2 : Below w9.heap.size w9 wx := hx
                  have l2 := (hx2.cell (p := ⟨b, o + j * 3, none⟩) hbl).trans HQ.out.1
                  have l3 := (hx2.cell (p := ⟨b, o + j * 3 + 1, none⟩) hbl).trans HQ.out.2.1
                  have l4 := (hx2.cell (p := ⟨b, o + j * 3 + 2, none⟩) hbl).trans HQ.out.2.2
                  exact Reg.obl_free rfl (Reg.wp_eqv (Option.some_ne_none _) (by go_simp) rfl)
                · intro ax wx hx hs
                  obtain ⟨e76, e78, -⟩ := hs
                  have g76 := Reg.ev (v := .string p.key) e76
                  have g78 := Reg.ev (v := .string ek) e78
                  exact Reg.obl_free rfl (Reg.wp_eqv (Option.some_ne_none _) (by go_simp) rfl)
                · intro ax wx hx hs
                  obtain ⟨e79, -⟩ := hs
                  have g79 := Reg.ev (v := .bool false) e79
                  exact Reg.obl_free rfl (Reg.wp_eqv (Option.some_ne_none _) (by go_simp) rfl)
                · intro ax wx hx hs
                  obtain ⟨e3, e80, -⟩ := hs
                  have g3 := Reg.ev (v := .pointer (some ⟨w.heap.size, 0, none⟩)) e3
                  have g80 := Reg.ev (v := .bool false) e80
                  exact Reg.obl_skip rfl rfl e80 rfl rfl
                · intro ax wx hx hs
                  obtain ⟨e81, e80, -⟩ := hs
                  have g81 := Reg.ev (v := undef) e81
                  have g80 := Reg.ev (v := .bool false) e80
                  exact Reg.obl_skip rfl rfl e80 rfl rfl
                · intro ax wx hx hs
                  obtain ⟨e9, e80, -⟩ := hs
                  have g9 := Reg.ev (v := .int .i64 (j : Int)) e9
                  have g80 := Reg.ev (v := .bool false) e80
                  exact Reg.obl_skip rfl rfl e80 rfl rfl
                · intro ax wx hx hs
                  obtain ⟨e82, e83, e80, -⟩ := hs
                  have g82 := Reg.ev (v := undef) e82
                  have g83 := Reg.ev (v := undef) e83
                  have g80 := Reg.ev (v := .bool false) e80
                  exact Reg.obl_skip rfl rfl e80 rfl rfl
                · intro ax wx hx hs
                  obtain ⟨e84, e80, -⟩ := hs
                  have g84 := Reg.ev (v := undef) e84
                  have g80 := Reg.ev (v := .bool false) e80
                  exact Reg.obl_skip rfl rfl e80 rfl rfl
                · intro ax wx hx hs
                  obtain ⟨e85, e80, -⟩ := hs
                  have g85 := Reg.ev (v := undef) e85
                  have g80 := Reg.ev (v := .bool false) e80
                  exact Reg.obl_skip rfl rfl e80 rfl rfl
                · intro ax wx hx hs
                  obtain ⟨e4, e80, -⟩ := hs
                  have g4 := Reg.ev (v := .pointer (some ⟨(w.heap.size + 1), 0, none⟩)) e4
                  have g80 := Reg.ev (v := .bool false) e80
                  exact Reg.obl_skip rfl rfl e80 rfl rfl
                · intro ax wx hx hs
                  obtain ⟨e87, e80, -⟩ := hs
                  have g87 := Reg.ev (v := undef) e87
                  have g80 := Reg.ev (v := .bool false) e80
                  exact Reg.obl_skip rfl rfl e80 rfl rfl
                · intro ax wx hx hs
                  obtain ⟨e86, e88, e80, -⟩ := hs
                  have g86 := Reg.ev (v := undef) e86
                  have g88 := Reg.ev (v := undef) e88
                  have g80 := Reg.ev (v := .bool false) e80
                  exact Reg.obl_skip rfl rfl e80 rfl rfl
                · intro ax wx hx hs
                  obtain ⟨e89, e80, -⟩ := hs
                  have g89 := Reg.ev (v := undef) e89
                  have g80 := Reg.ev (v := .bool false) e80
                  exact Reg.obl_skip rfl rfl e80 rfl rfl
                · intro ax wx hx hs
                  obtain ⟨e80, e90, -⟩ := hs
                  have g80 := Reg.ev (v := .bool false) e80
                  have g90 := Reg.ev (v := undef) e90
                  exact Reg.obl_free rfl (Reg.wp_eqv (Option.some_ne_none _) (by go_simp) rfl)
              · intro WX hwf
                simp only [Reg.Fin]
                rintro _ rfl _ rfl _ rfl _ rfl _ rfl _ rfl _ rfl _ rfl _ rfl _ rfl _ rfl _ rfl _ rfl _ rfl _ rfl _ rfl _ rfl _ rfl _ rfl _ rfl _ rfl
                go_simp
                have HK2 := Lib.hid (And.intro (bstep (bstep HK.out.1 HS9.out) hwf) (HK.out.2.1.next (bstep HS9.out hwf)))
                clear hwf
                go_wp2_with fail
                go_roundw
                case rel => exact ⟨j + 1, m8, c8, A8, by omega, by omega, rfl, by go_num, Lib.hid ⟨HK2.out.1, by rw [HN.out]; exact HK2.out.2, fun _ => hs⟩⟩
                case measure => simp [intOf]; omega
          · have hd5 : (setR x.h eu ek == 0) = false := by simpa using hs
            have hj0 : j = 0 := by
              rcases Nat.eq_zero_or_pos j with h | h
              · exact h
              · exact absurd (HK.out.2.2 h) hs
            subst hj0
            have hE := HK.out.2.1
            rw [List.take_zero, show f2 [] ⟨eu, ek, em⟩ = [] from rfl, List.append_nil] at hE
            have HRES : Hid (GivesN w (againstR x ⟨eu, ek, em⟩ m) (.returned (.slice A8 m8 c8)) w9) := Lib.hid ⟨A8, m8, c8, rfl, by unfold againstR; rw [blk_none (e := ⟨eu, ek, em⟩) hs]; exact hE.next HS9.out, bstep HB9.out HS9.out⟩
            clear hE
            go_wp2_with fail
            go_ret
            exact HRES.out
        · have hd : decide ((j : Int) < (m : Int)) = false := by simp; omega
          obtain rfl : j = m := by omega
          have HRES : Hid (GivesN w (againstR x ⟨eu, ek, em⟩ j) (.returned (.slice A8 m8 c8)) wr) := Lib.hid ⟨A8, m8, c8, rfl, by
            unfold againstR
            by_cases hs : setR x.h eu ek = 0
            · rw [blk_set (e := ⟨eu, ek, em⟩) hs]; exact HK.out.2.1
            · have hj0 : j = 0 := by
                rcases Nat.eq_zero_or_pos j with h | h
                · exact h
                · exact absurd (HK.out.2.2 h) hs
              subst hj0
              rw [blk_none (e := ⟨eu, ek, em⟩) hs]
              have hE := HK.out.2.1
              rwa [List.take_zero, show f2 [] ⟨eu, ek, em⟩ = [] from rfl, List.append_nil] at hE, HB9.out⟩
          go_wp2_with fail
          go_ret
          exact HRES.out
end Go.Proofs.YtkkfabnehhamdaaDoor.RefL
end
