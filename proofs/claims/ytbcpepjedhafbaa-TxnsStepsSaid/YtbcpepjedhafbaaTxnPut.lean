/-
  The walk of (*Table).Put at a table that is there.
-/
import Derived.Test.YtbcpepjedhafbaaTxnW
import Derived.BigQuiet
namespace Go.Proofs.Ytbcpepjedhafbaa.TxnW
open Go.RowKit Go.Maps
set_option linter.unusedVariables false
set_option linter.unusedSimpArgs false
variable {tb bm n : Nat} {nx : Int} {L : List TxnX}
/-- what Put tells -/
def mayPut (L : List TxnX) (nx k : Int) : Bool := decide (1 ≤ k) && decide (k < nx) && !TxnP.has L k
set_option maxRecDepth 100000 in
set_option maxHeartbeats 1000000 in
theorem put_low (t : TxnX) (w : World) (hT : Tab w tb bm n nx L) (hn : n < maxLen) (hk : In64 t.id) (h1 : 1 ≤ nx) (h2 : nx ≤ 1000000000000000) (hl : t.id < 1) :
    Calls Try.prog 10 #[.pointer (some ⟨tb, 0, none⟩), .agg #[.int .i64 t.id, .int .i64 t.first, .int .i64 t.last, .int .i64 t.kept]] w fun e w' => e = .returned (.bool false) ∧ Tab w' tb bm n nx L ∧ Kept tb bm w w' := by
  have HT := Lib.hid hT
  have HK := Lib.hid hk
  have ht0 := hT.lt
  have hm0 := hT.mlt
  clear hT hk
  obtain ⟨c0, c1⟩ := str2 HT.out.box
  have d1 : decide (t.id < 1) = true := by simpa using hl
  go_enter Try.func10, Try.ntmps10
  go_wp2_with fail
  generalize hW0 : (w).alloc (.cells #[.int .i64 t.id, .int .i64 t.first, .int .i64 t.last, .int .i64 t.kept] 38) = W0
  obtain ⟨HS0_0, HB_0, hw_0, hz0⟩ := new1 hW0
  clear hW0 hz0
  have f0_0 := str4 HS0_0.out
  have hl0_0 := HS0_0.out.lt
  have d0 := (HT.out.below HB_0.out).box
  replace c0 := (str2 d0).1
  replace c1 := (str2 d0).2
  clear d0
  go_wp2_with (first | go_quiet (fail) | go_in)
  go_wp2
  go_ret
  exact ⟨rfl, HT.out.below (drewN_below HB_0.out _), Reg.KeepB.of (drewN_below HB_0.out _)⟩
set_option maxRecDepth 100000 in
set_option maxHeartbeats 1000000 in
theorem put_high (t : TxnX) (w : World) (hT : Tab w tb bm n nx L) (hn : n < maxLen) (hk : In64 t.id) (h1 : 1 ≤ nx) (h2 : nx ≤ 1000000000000000) (hl : 1 ≤ t.id) (hh : nx ≤ t.id) :
    Calls Try.prog 10 #[.pointer (some ⟨tb, 0, none⟩), .agg #[.int .i64 t.id, .int .i64 t.first, .int .i64 t.last, .int .i64 t.kept]] w fun e w' => e = .returned (.bool false) ∧ Tab w' tb bm n nx L ∧ Kept tb bm w w' := by
  have HT := Lib.hid hT
  have HK := Lib.hid hk
  have ht0 := hT.lt
  have hm0 := hT.mlt
  clear hT hk
  obtain ⟨c0, c1⟩ := str2 HT.out.box
  have d1 : decide (t.id < 1) = false := by simp; omega
  have d2 : decide (nx - 1 < t.id) = true := by simp; omega
  go_enter Try.func10, Try.ntmps10
  go_wp2_with fail
  generalize hW0 : (w).alloc (.cells #[.int .i64 t.id, .int .i64 t.first, .int .i64 t.last, .int .i64 t.kept] 38) = W0
  obtain ⟨HS0_0, HB_0, hw_0, hz0⟩ := new1 hW0
  clear hW0 hz0
  have f0_0 := str4 HS0_0.out
  have hl0_0 := HS0_0.out.lt
  have d0 := (HT.out.below HB_0.out).box
  replace c0 := (str2 d0).1
  replace c1 := (str2 d0).2
  clear d0
  go_wp2_with (first | go_quiet (fail) | go_in)
  go_wp2
  go_ret
  exact ⟨rfl, HT.out.below (drewN_below HB_0.out _), Reg.KeepB.of (drewN_below HB_0.out _)⟩
set_option maxRecDepth 100000 in
set_option maxHeartbeats 1000000 in
theorem put_has (t : TxnX) (w : World) (hT : Tab w tb bm n nx L) (hn : n < maxLen) (hk : In64 t.id) (h1 : 1 ≤ nx) (h2 : nx ≤ 1000000000000000) (hl : 1 ≤ t.id) (hh : t.id < nx) (hb : TxnP.has L t.id = true) :
    Calls Try.prog 10 #[.pointer (some ⟨tb, 0, none⟩), .agg #[.int .i64 t.id, .int .i64 t.first, .int .i64 t.last, .int .i64 t.kept]] w fun e w' => e = .returned (.bool false) ∧ Tab w' tb bm n nx L ∧ Kept tb bm w w' := by
  have HT := Lib.hid hT
  have HK := Lib.hid hk
  have ht0 := hT.lt
  have hm0 := hT.mlt
  clear hT hk
  obtain ⟨c0, c1⟩ := str2 HT.out.box
  have d1 : decide (t.id < 1) = false := by simp; omega
  have d2 : decide (nx - 1 < t.id) = false := by simp; omega
  obtain ⟨u, hu⟩ : ∃ u, TxnP.get L t.id = u := ⟨_, rfl⟩
  go_enter Try.func10, Try.ntmps10
  go_wp2_with fail
  generalize hW0 : (w).alloc (.cells #[.int .i64 t.id, .int .i64 t.first, .int .i64 t.last, .int .i64 t.kept] 38) = W0
  obtain ⟨HS0_0, HB_0, hw_0, hz0⟩ := new1 hW0
  clear hW0 hz0
  have f0_0 := str4 HS0_0.out
  have hl0_0 := HS0_0.out.lt
  have d0 := (HT.out.below HB_0.out).box
  replace c0 := (str2 d0).1
  replace c1 := (str2 d0).2
  clear d0
  go_wp2_with (first | go_quiet (fail) | go_in)
  generalize hW1 : W0.drewN _ = W1
  have hb1 : Below W0.heap.size W0 W1 := by rw [← hW1]; exact drewN_below (bsame _) _
  clear hW1 c0 c1 d1 d2
  have HS0_1 := Lib.hid (HS0_0.out.next hb1)
  have HB_1 := Lib.hid (bstep HB_0.out hb1)
  have hw_1 := HB_1.out.size
  have hws_1 := (hb1).size
  clear f0_0 HS0_0
  clear hb1
  have f0_1 := str4 HS0_1.out
  have hl0_1 := HS0_1.out.lt
  have HT1 := Lib.hid (HT.out.below HB_1.out)
  have HLK : Hid (∀ wx, Below W1.heap.size W1 wx → (Instr.lookup 50 (.map (some bm)) (.int .i64 t.id) true).run Try.prog wx = .ok (.tuple #[.agg #[.int .i64 u.id, .int .i64 u.first, .int .i64 u.last, .int .i64 u.kept], .bool true]) wx) := Lib.hid (fun wx hx => by have h := MapT.look (MapT.below HT1.out.map hx) HK.out; rw [hu, hb] at h; exact h)
  clear hu hb
  have hOK : Reg.okS W1.heap.size (Reg.BxS.mk [(10, 5, 11)] (fun t => if t = 5 then #[.int .i64 0, .int .i64 0, .int .i64 0, .int .i64 0] else #[]) (fun t => if t = 5 then (Reg.rowM (Reg.eqM (.agg #[.int .i64 u.id, .int .i64 u.first, .int .i64 u.last, .int .i64 u.kept]))) else (Reg.rowM (Reg.eqM undef))) [] (fun t => (Reg.eqM undef)) []) := Reg.okS_of rfl List.Pairwise.nil (fun k hk => by cases hk)
  refine Reg.wp_region_box (R := (Reg.extB W1.heap.size (Reg.BxS.b0 (Reg.BxS.mk [(10, 5, 11)] (fun t => if t = 5 then #[.int .i64 0, .int .i64 0, .int .i64 0, .int .i64 0] else #[]) (fun t => if t = 5 then (Reg.rowM (Reg.eqM (.agg #[.int .i64 u.id, .int .i64 u.first, .int .i64 u.last, .int .i64 u.kept]))) else (Reg.rowM (Reg.eqM undef))) [] (fun t => (Reg.eqM undef)) [])))) (W := W1) (Reg.BJ W1.heap.size (Reg.BxS.mk [(10, 5, 11)] (fun t => if t = 5 then #[.int .i64 0, .int .i64 0, .int .i64 0, .int .i64 0] else #[]) (fun t => if t = 5 then (Reg.rowM (Reg.eqM (.agg #[.int .i64 u.id, .int .i64 u.first, .int .i64 u.last, .int .i64 u.kept]))) else (Reg.rowM (Reg.eqM undef))) [] (fun t => (Reg.eqM undef)) [])) [Reg.eqv (.pointer (some ⟨tb, 0, none⟩)), Reg.eqv (.pointer (some ⟨tb, 0, none⟩)), Reg.eqv (.pointer (some ⟨tb, 1, none⟩)), Reg.eqv (.map (some bm)), Reg.eqv (.pointer (some ⟨w.heap.size, 0, none⟩)), Reg.eqv (.int .i64 t.id), Reg.eqv (.tuple #[.agg #[.int .i64 u.id, .int .i64 u.first, .int .i64 u.last, .int .i64 u.kept], .bool true]), Reg.eqv (.tuple #[.agg #[.int .i64 u.id, .int .i64 u.first, .int .i64 u.last, .int .i64 u.kept], .bool true]), Reg.eqv (.agg #[.int .i64 u.id, .int .i64 u.first, .int .i64 u.last, .int .i64 u.kept]), Reg.eqv (.bool true), Reg.any, Reg.any, Reg.eqv (.bool true)] 38 [[(0, none)], [(25, some 0)], [(26, some 1)], [(27, some 2)], [(3, none)], [(29, some 4)], [(28, some 3), (30, some 5)], [(31, some 6)], [(24, some 7)], [(24, some 7)], [], [(5, some 10), (32, some 8)], [(33, some 9)]] rfl (by kernel_rfl) (by kernel_rfl) (fun _ h => Reg.bj_zero (fun k hk => by cases hk) h) (by kernel_rfl) ?_ [some 25, some 26, some 27, some 28, some 29, some 30, some 31, some 24, some 32, some 33, some 5, none, some 6] (by kernel_rfl) ?_
  · refine ⟨?_, ?_, ?_, ?_, ?_, ?_, ?_, ?_, ?_, ?_, ?_, ?_, ?_, trivial⟩
    · refine Reg.oblB_pure rfl rfl rfl ?_
      intro ax wx hx hs hmm
      replace hx : Below W1.heap.size W1 wx := hx.below (Nat.le_refl _) (fun b hb => by cases hb)
      obtain ⟨e0, -⟩ := hs
      have g0 := Reg.ev (v := .pointer (some ⟨tb, 0, none⟩)) e0
      exact (Reg.wp_eqvB (Option.some_ne_none _) (by go_simp) rfl)
    · refine Reg.oblB_pure rfl rfl rfl ?_
      intro ax wx hx hs hmm
      replace hx : Below W1.heap.size W1 wx := hx.below (Nat.le_refl _) (fun b hb => by cases hb)
      obtain ⟨e25, -⟩ := hs
      have g25 := Reg.ev (v := .pointer (some ⟨tb, 0, none⟩)) e25
      exact (Reg.wp_eqvB (Option.some_ne_none _) (by go_simp) rfl)
    · refine Reg.oblB_pure rfl rfl rfl ?_
      intro ax wx hx hs hmm
      replace hx : Below W1.heap.size W1 wx := hx.below (Nat.le_refl _) (fun b hb => by cases hb)
      obtain ⟨e26, -⟩ := hs
      have g26 := Reg.ev (v := .pointer (some ⟨tb, 0, none⟩)) e26
      exact (Reg.wp_eqvB (Option.some_ne_none _) (by go_simp) rfl)
    · refine Reg.oblB_pure rfl rfl rfl ?_
      intro ax wx hx hs hmm
      replace hx : Below W1.heap.size W1 wx := hx.below (Nat.le_refl _) (fun b hb => by cases hb)
      obtain ⟨e27, -⟩ := hs
      have g27 := Reg.ev (v := .pointer (some ⟨tb, 1, none⟩)) e27
      obtain ⟨l0_0, l0_1, l0_2, l0_3⟩ := str4 ((HS0_1.out.next hx))
      obtain ⟨q0, q1⟩ := str2 (HT1.out.box.next hx)
      exact (Reg.wp_eqvB (Option.some_ne_none _) (by go_simp) rfl)
    · refine Reg.oblB_pure rfl rfl rfl ?_
      intro ax wx hx hs hmm
      replace hx : Below W1.heap.size W1 wx := hx.below (Nat.le_refl _) (fun b hb => by cases hb)
      obtain ⟨e3, -⟩ := hs
      have g3 := Reg.ev (v := .pointer (some ⟨w.heap.size, 0, none⟩)) e3
      exact (Reg.wp_eqvB (Option.some_ne_none _) (by go_simp) rfl)
    · refine Reg.oblB_pure rfl rfl rfl ?_
      intro ax wx hx hs hmm
      replace hx : Below W1.heap.size W1 wx := hx.below (Nat.le_refl _) (fun b hb => by cases hb)
      obtain ⟨e29, -⟩ := hs
      have g29 := Reg.ev (v := .pointer (some ⟨w.heap.size, 0, none⟩)) e29
      obtain ⟨l0_0, l0_1, l0_2, l0_3⟩ := str4 ((HS0_1.out.next hx))
      obtain ⟨q0, q1⟩ := str2 (HT1.out.box.next hx)
      exact (Reg.wp_eqvB (Option.some_ne_none _) (by go_simp) rfl)
    · refine Reg.oblB_pure rfl rfl rfl ?_
      intro ax wx hx hs hmm
      replace hx : Below W1.heap.size W1 wx := hx.below (Nat.le_refl _) (fun b hb => by cases hb)
      obtain ⟨e28, e30, -⟩ := hs
      have g28 := Reg.ev (v := .map (some bm)) e28
      have g30 := Reg.ev (v := .int .i64 t.id) e30
      have hlk := HLK.out wx hx
      exact Reg.wp_eqvB (Option.some_ne_none _) (by go_simp) rfl
    · refine Reg.oblB_pure rfl rfl rfl ?_
      intro ax wx hx hs hmm
      replace hx : Below W1.heap.size W1 wx := hx.below (Nat.le_refl _) (fun b hb => by cases hb)
      obtain ⟨e31, -⟩ := hs
      have g31 := Reg.ev (v := .tuple #[.agg #[.int .i64 u.id, .int .i64 u.first, .int .i64 u.last, .int .i64 u.kept], .bool true]) e31
      exact (Reg.wp_eqvB (Option.some_ne_none _) (by go_simp) rfl)
    · refine Reg.oblB_pure rfl rfl rfl ?_
      intro ax wx hx hs hmm
      replace hx : Below W1.heap.size W1 wx := hx.below (Nat.le_refl _) (fun b hb => by cases hb)
      obtain ⟨e24, -⟩ := hs
      have g24 := Reg.ev (v := .tuple #[.agg #[.int .i64 u.id, .int .i64 u.first, .int .i64 u.last, .int .i64 u.kept], .bool true]) e24
      exact (Reg.wp_eqvB (Option.some_ne_none _) (by go_simp) rfl)
    · refine Reg.oblB_pure rfl rfl rfl ?_
      intro ax wx hx hs hmm
      replace hx : Below W1.heap.size W1 wx := hx.below (Nat.le_refl _) (fun b hb => by cases hb)
      obtain ⟨e24, -⟩ := hs
      have g24 := Reg.ev (v := .tuple #[.agg #[.int .i64 u.id, .int .i64 u.first, .int .i64 u.last, .int .i64 u.kept], .bool true]) e24
      exact (Reg.wp_eqvB (Option.some_ne_none _) (by go_simp) rfl)
    · refine Reg.oblB_alloc rfl rfl hOK (t := 5) (js := 11) (List.mem_of_getElem? (i := 0) rfl) rfl (by show 5 < 38; decide) (by show 10 < 13; decide) (fun _ _ => trivial) (by rfl) ?_
      intro ax wx hx
      replace hx : Below W1.heap.size W1 wx := hx.below (Nat.le_refl _) (fun b hb => by cases hb)
      exact Reg.al_box rfl (by kernel_rfl)
    · refine Reg.oblB_store rfl rfl hOK (t := 5) (ja := 10) (List.mem_of_getElem? (i := 0) rfl) rfl (by show 11 < 13; decide) (by kernel_rfl) (fun _ _ => trivial) ?_
      intro ax wx rb g hx hrb hs hmm he hS
      replace hx : Below W1.heap.size W1 wx := hx.below (Nat.le_refl _) (fun b hb => by cases hb)
      obtain ⟨e5, e32, -⟩ := hs
      have g32 := Reg.ev (v := .agg #[.int .i64 u.id, .int .i64 u.first, .int .i64 u.last, .int .i64 u.kept]) e32
      exact Reg.st_box rfl (Reg.run_st_box rfl he e32 hS rfl (by kernel_rfl) rfl) rfl rfl
    · refine Reg.oblB_pure rfl rfl rfl ?_
      intro ax wx hx hs hmm
      replace hx : Below W1.heap.size W1 wx := hx.below (Nat.le_refl _) (fun b hb => by cases hb)
      obtain ⟨e33, -⟩ := hs
      have g33 := Reg.ev (v := .bool true) e33
      exact (Reg.wp_eqvB (Option.some_ne_none _) (by go_simp) rfl)
  · intro W2 listed hwf hall
    simp only [Reg.Fin]
    rintro _ rfl _ rfl _ rfl _ rfl _ rfl _ rfl _ rfl _ rfl _ rfl _ rfl v5 h5 vn11 hn11 _ rfl
    intro hJ
    obtain ⟨hJM, hJB, hJN, hJ0⟩ := Reg.bj_end (n := 13) hall (by show ∀ b ∈ ([(10, 5, 11)] : List (Nat × Tmp × Nat)), b.1 < 13 ∧ b.2.2 < 13; decide) (by show ∀ m ∈ ([] : List (Nat × Tmp)), m.1 < 13; decide) (by show ∀ k ∈ ([] : List Nat), k < 13; decide) hJ
    obtain ⟨b5, cs5, eb5, hb5, hS5, hX5⟩ := hJB (10, 5, 11) (List.mem_of_getElem? (i := 0) rfl)
    have ec5 : v5 = .pointer (some ⟨b5, 0, none⟩) := by simpa [Act.eval, Act.put] using eb5
    have hX5 : (Reg.rowM (Reg.eqM (.agg #[.int .i64 u.id, .int .i64 u.first, .int .i64 u.last, .int .i64 u.kept]))).pred cs5 W2 W2.heap.size := hX5
    clear hJM hJB hJN hJ0 hJ hall eb5
    subst ec5
    go_simp
    replace hwf : Below W1.heap.size W1 W2 := Reg.KeepB.below hwf (Nat.le_refl _) (fun b hb => by cases hb)
    have hbw : Below w.heap.size W1 W2 := hwf.mono (by omega)
    have HS0_2 := Lib.hid (HS0_1.out.next hwf)
    have HB_2 := Lib.hid (HB_1.out.trans hbw)
    have hw_2 := HB_2.out.size
    have hws_2 := hbw.size
    have HSn5 := Lib.hid hS5
    clear hS5
    clear f0_1 HS0_1
    clear hwf hbw hOK
    have f0_2 := str4 HS0_2.out
    have hl0_2 := HS0_2.out.lt
    clear HSn5 hX5
    go_wp2_with fail
    go_ret
    exact ⟨rfl, HT.out.below HB_2.out, Reg.KeepB.of HB_2.out⟩
set_option maxRecDepth 100000 in
set_option maxHeartbeats 1000000 in
theorem put_new (t : TxnX) (w : World) (hT : Tab w tb bm n nx L) (hn : n < maxLen) (hk : In64 t.id) (h1 : 1 ≤ nx) (h2 : nx ≤ 1000000000000000) (hl : 1 ≤ t.id) (hh : t.id < nx) (hb : TxnP.has L t.id = false) :
    Calls Try.prog 10 #[.pointer (some ⟨tb, 0, none⟩), .agg #[.int .i64 t.id, .int .i64 t.first, .int .i64 t.last, .int .i64 t.kept]] w fun e w' => e = .returned (.bool true) ∧ Tab w' tb bm (n + 1) nx (TxnP.put L t) ∧ Kept tb bm w w' := by
  have HT := Lib.hid hT
  have HK := Lib.hid hk
  have ht0 := hT.lt
  have hm0 := hT.mlt
  clear hT hk
  obtain ⟨c0, c1⟩ := str2 HT.out.box
  have d1 : decide (t.id < 1) = false := by simp; omega
  have d2 : decide (nx - 1 < t.id) = false := by simp; omega
  obtain ⟨u, hu⟩ : ∃ u, TxnP.get L t.id = u := ⟨_, rfl⟩
  go_enter Try.func10, Try.ntmps10
  go_wp2_with fail
  generalize hW0 : (w).alloc (.cells #[.int .i64 t.id, .int .i64 t.first, .int .i64 t.last, .int .i64 t.kept] 38) = W0
  obtain ⟨HS0_0, HB_0, hw_0, hz0⟩ := new1 hW0
  clear hW0 hz0
  have f0_0 := str4 HS0_0.out
  have hl0_0 := HS0_0.out.lt
  have d0 := (HT.out.below HB_0.out).box
  replace c0 := (str2 d0).1
  replace c1 := (str2 d0).2
  clear d0
  go_wp2_with (first | go_quiet (fail) | go_in)
  generalize hW1 : W0.drewN _ = W1
  have hb1 : Below W0.heap.size W0 W1 := by rw [← hW1]; exact drewN_below (bsame _) _
  clear hW1 c0 c1 d1 d2
  have HS0_1 := Lib.hid (HS0_0.out.next hb1)
  have HB_1 := Lib.hid (bstep HB_0.out hb1)
  have hw_1 := HB_1.out.size
  have hws_1 := (hb1).size
  clear f0_0 HS0_0
  clear hb1
  have f0_1 := str4 HS0_1.out
  have hl0_1 := HS0_1.out.lt
  have HT1 := Lib.hid (HT.out.below HB_1.out)
  have HLK : Hid (∀ wx, Below W1.heap.size W1 wx → (Instr.lookup 50 (.map (some bm)) (.int .i64 t.id) true).run Try.prog wx = .ok (.tuple #[.agg #[.int .i64 u.id, .int .i64 u.first, .int .i64 u.last, .int .i64 u.kept], .bool false]) wx) := Lib.hid (fun wx hx => by have h := MapT.look (MapT.below HT1.out.map hx) HK.out; rw [hu, hb] at h; exact h)
  clear hu hb
  have hOK : Reg.okS W1.heap.size (Reg.BxS.mk [(10, 5, 11)] (fun t => if t = 5 then #[.int .i64 0, .int .i64 0, .int .i64 0, .int .i64 0] else #[]) (fun t => if t = 5 then (Reg.rowM (Reg.eqM (.agg #[.int .i64 u.id, .int .i64 u.first, .int .i64 u.last, .int .i64 u.kept]))) else (Reg.rowM (Reg.eqM undef))) [] (fun t => (Reg.eqM undef)) []) := Reg.okS_of rfl List.Pairwise.nil (fun k hk => by cases hk)
  refine Reg.wp_region_box (R := (Reg.extB W1.heap.size (Reg.BxS.b0 (Reg.BxS.mk [(10, 5, 11)] (fun t => if t = 5 then #[.int .i64 0, .int .i64 0, .int .i64 0, .int .i64 0] else #[]) (fun t => if t = 5 then (Reg.rowM (Reg.eqM (.agg #[.int .i64 u.id, .int .i64 u.first, .int .i64 u.last, .int .i64 u.kept]))) else (Reg.rowM (Reg.eqM undef))) [] (fun t => (Reg.eqM undef)) [])))) (W := W1) (Reg.BJ W1.heap.size (Reg.BxS.mk [(10, 5, 11)] (fun t => if t = 5 then #[.int .i64 0, .int .i64 0, .int .i64 0, .int .i64 0] else #[]) (fun t => if t = 5 then (Reg.rowM (Reg.eqM (.agg #[.int .i64 u.id, .int .i64 u.first, .int .i64 u.last, .int .i64 u.kept]))) else (Reg.rowM (Reg.eqM undef))) [] (fun t => (Reg.eqM undef)) [])) [Reg.eqv (.pointer (some ⟨tb, 0, none⟩)), Reg.eqv (.pointer (some ⟨tb, 0, none⟩)), Reg.eqv (.pointer (some ⟨tb, 1, none⟩)), Reg.eqv (.map (some bm)), Reg.eqv (.pointer (some ⟨w.heap.size, 0, none⟩)), Reg.eqv (.int .i64 t.id), Reg.eqv (.tuple #[.agg #[.int .i64 u.id, .int .i64 u.first, .int .i64 u.last, .int .i64 u.kept], .bool false]), Reg.eqv (.tuple #[.agg #[.int .i64 u.id, .int .i64 u.first, .int .i64 u.last, .int .i64 u.kept], .bool false]), Reg.eqv (.agg #[.int .i64 u.id, .int .i64 u.first, .int .i64 u.last, .int .i64 u.kept]), Reg.eqv (.bool false), Reg.any, Reg.any, Reg.eqv (.bool false)] 38 [[(0, none)], [(25, some 0)], [(26, some 1)], [(27, some 2)], [(3, none)], [(29, some 4)], [(28, some 3), (30, some 5)], [(31, some 6)], [(24, some 7)], [(24, some 7)], [], [(5, some 10), (32, some 8)], [(33, some 9)]] rfl (by kernel_rfl) (by kernel_rfl) (fun _ h => Reg.bj_zero (fun k hk => by cases hk) h) (by kernel_rfl) ?_ [some 25, some 26, some 27, some 28, some 29, some 30, some 31, some 24, some 32, some 33, some 5, none, some 6] (by kernel_rfl) ?_
  · refine ⟨?_, ?_, ?_, ?_, ?_, ?_, ?_, ?_, ?_, ?_, ?_, ?_, ?_, trivial⟩
    · refine Reg.oblB_pure rfl rfl rfl ?_
      intro ax wx hx hs hmm
      replace hx : Below W1.heap.size W1 wx := hx.below (Nat.le_refl _) (fun b hb => by cases hb)
      obtain ⟨e0, -⟩ := hs
      have g0 := Reg.ev (v := .pointer (some ⟨tb, 0, none⟩)) e0
      exact (Reg.wp_eqvB (Option.some_ne_none _) (by go_simp) rfl)
    · refine Reg.oblB_pure rfl rfl rfl ?_
      intro ax wx hx hs hmm
      replace hx : Below W1.heap.size W1 wx := hx.below (Nat.le_refl _) (fun b hb => by cases hb)
      obtain ⟨e25, -⟩ := hs
      have g25 := Reg.ev (v := .pointer (some ⟨tb, 0, none⟩)) e25
      exact (Reg.wp_eqvB (Option.some_ne_none _) (by go_simp) rfl)
    · refine Reg.oblB_pure rfl rfl rfl ?_
      intro ax wx hx hs hmm
      replace hx : Below W1.heap.size W1 wx := hx.below (Nat.le_refl _) (fun b hb => by cases hb)
      obtain ⟨e26, -⟩ := hs
      have g26 := Reg.ev (v := .pointer (some ⟨tb, 0, none⟩)) e26
      exact (Reg.wp_eqvB (Option.some_ne_none _) (by go_simp) rfl)
    · refine Reg.oblB_pure rfl rfl rfl ?_
      intro ax wx hx hs hmm
      replace hx : Below W1.heap.size W1 wx := hx.below (Nat.le_refl _) (fun b hb => by cases hb)
      obtain ⟨e27, -⟩ := hs
      have g27 := Reg.ev (v := .pointer (some ⟨tb, 1, none⟩)) e27
      obtain ⟨l0_0, l0_1, l0_2, l0_3⟩ := str4 ((HS0_1.out.next hx))
      obtain ⟨q0, q1⟩ := str2 (HT1.out.box.next hx)
      exact (Reg.wp_eqvB (Option.some_ne_none _) (by go_simp) rfl)
    · refine Reg.oblB_pure rfl rfl rfl ?_
      intro ax wx hx hs hmm
      replace hx : Below W1.heap.size W1 wx := hx.below (Nat.le_refl _) (fun b hb => by cases hb)
      obtain ⟨e3, -⟩ := hs
      have g3 := Reg.ev (v := .pointer (some ⟨w.heap.size, 0, none⟩)) e3
      exact (Reg.wp_eqvB (Option.some_ne_none _) (by go_simp) rfl)
    · refine Reg.oblB_pure rfl rfl rfl ?_
      intro ax wx hx hs hmm
      replace hx : Below W1.heap.size W1 wx := hx.below (Nat.le_refl _) (fun b hb => by cases hb)
      obtain ⟨e29, -⟩ := hs
      have g29 := Reg.ev (v := .pointer (some ⟨w.heap.size, 0, none⟩)) e29
      obtain ⟨l0_0, l0_1, l0_2, l0_3⟩ := str4 ((HS0_1.out.next hx))
      obtain ⟨q0, q1⟩ := str2 (HT1.out.box.next hx)
      exact (Reg.wp_eqvB (Option.some_ne_none _) (by go_simp) rfl)
    · refine Reg.oblB_pure rfl rfl rfl ?_
      intro ax wx hx hs hmm
      replace hx : Below W1.heap.size W1 wx := hx.below (Nat.le_refl _) (fun b hb => by cases hb)
      obtain ⟨e28, e30, -⟩ := hs
      have g28 := Reg.ev (v := .map (some bm)) e28
      have g30 := Reg.ev (v := .int .i64 t.id) e30
      have hlk := HLK.out wx hx
      exact Reg.wp_eqvB (Option.some_ne_none _) (by go_simp) rfl
    · refine Reg.oblB_pure rfl rfl rfl ?_
      intro ax wx hx hs hmm
      replace hx : Below W1.heap.size W1 wx := hx.below (Nat.le_refl _) (fun b hb => by cases hb)
      obtain ⟨e31, -⟩ := hs
      have g31 := Reg.ev (v := .tuple #[.agg #[.int .i64 u.id, .int .i64 u.first, .int .i64 u.last, .int .i64 u.kept], .bool false]) e31
      exact (Reg.wp_eqvB (Option.some_ne_none _) (by go_simp) rfl)
    · refine Reg.oblB_pure rfl rfl rfl ?_
      intro ax wx hx hs hmm
      replace hx : Below W1.heap.size W1 wx := hx.below (Nat.le_refl _) (fun b hb => by cases hb)
      obtain ⟨e24, -⟩ := hs
      have g24 := Reg.ev (v := .tuple #[.agg #[.int .i64 u.id, .int .i64 u.first, .int .i64 u.last, .int .i64 u.kept], .bool false]) e24
      exact (Reg.wp_eqvB (Option.some_ne_none _) (by go_simp) rfl)
    · refine Reg.oblB_pure rfl rfl rfl ?_
      intro ax wx hx hs hmm
      replace hx : Below W1.heap.size W1 wx := hx.below (Nat.le_refl _) (fun b hb => by cases hb)
      obtain ⟨e24, -⟩ := hs
      have g24 := Reg.ev (v := .tuple #[.agg #[.int .i64 u.id, .int .i64 u.first, .int .i64 u.last, .int .i64 u.kept], .bool false]) e24
      exact (Reg.wp_eqvB (Option.some_ne_none _) (by go_simp) rfl)
    · refine Reg.oblB_alloc rfl rfl hOK (t := 5) (js := 11) (List.mem_of_getElem? (i := 0) rfl) rfl (by show 5 < 38; decide) (by show 10 < 13; decide) (fun _ _ => trivial) (by rfl) ?_
      intro ax wx hx
      replace hx : Below W1.heap.size W1 wx := hx.below (Nat.le_refl _) (fun b hb => by cases hb)
      exact Reg.al_box rfl (by kernel_rfl)
    · refine Reg.oblB_store rfl rfl hOK (t := 5) (ja := 10) (List.mem_of_getElem? (i := 0) rfl) rfl (by show 11 < 13; decide) (by kernel_rfl) (fun _ _ => trivial) ?_
      intro ax wx rb g hx hrb hs hmm he hS
      replace hx : Below W1.heap.size W1 wx := hx.below (Nat.le_refl _) (fun b hb => by cases hb)
      obtain ⟨e5, e32, -⟩ := hs
      have g32 := Reg.ev (v := .agg #[.int .i64 u.id, .int .i64 u.first, .int .i64 u.last, .int .i64 u.kept]) e32
      exact Reg.st_box rfl (Reg.run_st_box rfl he e32 hS rfl (by kernel_rfl) rfl) rfl rfl
    · refine Reg.oblB_pure rfl rfl rfl ?_
      intro ax wx hx hs hmm
      replace hx : Below W1.heap.size W1 wx := hx.below (Nat.le_refl _) (fun b hb => by cases hb)
      obtain ⟨e33, -⟩ := hs
      have g33 := Reg.ev (v := .bool false) e33
      exact (Reg.wp_eqvB (Option.some_ne_none _) (by go_simp) rfl)
  · intro W2 listed hwf hall
    simp only [Reg.Fin]
    rintro _ rfl _ rfl _ rfl _ rfl _ rfl _ rfl _ rfl _ rfl _ rfl _ rfl v5 h5 vn11 hn11 _ rfl
    intro hJ
    obtain ⟨hJM, hJB, hJN, hJ0⟩ := Reg.bj_end (n := 13) hall (by show ∀ b ∈ ([(10, 5, 11)] : List (Nat × Tmp × Nat)), b.1 < 13 ∧ b.2.2 < 13; decide) (by show ∀ m ∈ ([] : List (Nat × Tmp)), m.1 < 13; decide) (by show ∀ k ∈ ([] : List Nat), k < 13; decide) hJ
    obtain ⟨b5, cs5, eb5, hb5, hS5, hX5⟩ := hJB (10, 5, 11) (List.mem_of_getElem? (i := 0) rfl)
    have ec5 : v5 = .pointer (some ⟨b5, 0, none⟩) := by simpa [Act.eval, Act.put] using eb5
    have hX5 : (Reg.rowM (Reg.eqM (.agg #[.int .i64 u.id, .int .i64 u.first, .int .i64 u.last, .int .i64 u.kept]))).pred cs5 W2 W2.heap.size := hX5
    clear hJM hJB hJN hJ0 hJ hall eb5
    subst ec5
    go_simp
    replace hwf : Below W1.heap.size W1 W2 := Reg.KeepB.below hwf (Nat.le_refl _) (fun b hb => by cases hb)
    have hbw : Below w.heap.size W1 W2 := hwf.mono (by omega)
    have HS0_2 := Lib.hid (HS0_1.out.next hwf)
    have HB_2 := Lib.hid (HB_1.out.trans hbw)
    have hw_2 := HB_2.out.size
    have hws_2 := hbw.size
    have HSn5 := Lib.hid hS5
    clear hS5
    clear f0_1 HS0_1
    clear hwf hbw hOK
    have f0_2 := str4 HS0_2.out
    have hl0_2 := HS0_2.out.lt
    clear HSn5 hX5
    go_wp2_with fail
    refine (keep_any t _ (HT.out.below HB_2.out) hn HK.out).mono ?_
    rintro e W3 ⟨rfl, hT3, hk3⟩
    have HT3 := Lib.hid hT3
    have HK3 := Lib.hid ((Reg.KeepB.of (b0 := [tb, bm]) HB_2.out).trans (hk3.more (by simp)) hw_2)
    clear hT3 hk3
    go_wp2_with fail
    go_ret
    exact ⟨rfl, HT3.out, HK3.out⟩
theorem put_any (t : TxnX) (w : World) (hT : Tab w tb bm n nx L) (hn : n < maxLen) (hk : In64 t.id) (h1 : 1 ≤ nx) (h2 : nx ≤ 1000000000000000) :
    Calls Try.prog 10 #[.pointer (some ⟨tb, 0, none⟩), .agg #[.int .i64 t.id, .int .i64 t.first, .int .i64 t.last, .int .i64 t.kept]] w fun e w' => e = .returned (.bool (mayPut L nx t.id)) ∧ Tab w' tb bm (n + 1) nx (if mayPut L nx t.id = true then TxnP.put L t else L) ∧ Kept tb bm w w' := by
  unfold mayPut
  by_cases hl : t.id < 1
  · rw [show decide (1 ≤ t.id) = false from by simp; omega]
    simp only [Bool.false_and, Bool.false_eq_true, if_false]
    exact (put_low t w hT hn hk h1 h2 hl).mono fun e w' ⟨a, b, c⟩ => ⟨a, b.mono (Nat.le_succ _), c⟩
  · rw [show decide (1 ≤ t.id) = true from by simp; omega]
    by_cases hh : nx ≤ t.id
    · rw [show decide (t.id < nx) = false from by simp; omega]
      simp only [Bool.false_and, Bool.and_false, Bool.false_eq_true, if_false]
      exact (put_high t w hT hn hk h1 h2 (by omega) hh).mono fun e w' ⟨a, b, c⟩ => ⟨a, b.mono (Nat.le_succ _), c⟩
    · rw [show decide (t.id < nx) = true from by simp; omega]
      cases hb : TxnP.has L t.id with
      | true =>
        simp only [Bool.true_and, Bool.not_true, Bool.false_eq_true, if_false]
        exact (put_has t w hT hn hk h1 h2 (by omega) (by omega) hb).mono fun e w' ⟨a, b, c⟩ => ⟨a, b.mono (Nat.le_succ _), c⟩
      | false =>
        simp only [Bool.true_and, Bool.not_false, if_true]
        exact put_new t w hT hn hk h1 h2 (by omega) (by omega) hb
end Go.Proofs.Ytbcpepjedhafbaa.TxnW
