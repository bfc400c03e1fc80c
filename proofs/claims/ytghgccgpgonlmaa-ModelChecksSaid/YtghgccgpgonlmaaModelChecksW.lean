/-
  The walk of ModelChecks: the Go text returns true for every input, and writes nothing that was there.
-/
import Derived.Test.YtghgccgpgonlmaaLive09
import Derived.Test.YtghgccgpgonlmaaOpenM
import Derived.Test.YtghgccgpgonlmaaRegC
import Derived.Test.YtghgccgpgonlmaaModelJ
namespace Go.Proofs.Ytghgccgpgonlmaa.modelChecks
open Go.RowKit ModelW
set_option linter.unusedVariables false
set_option maxRecDepth 100000 in
set_option maxHeartbeats 1000000 in
theorem way_much (act : Int) (xk : ByteArray) (xdata : List UInt8) (xlo xhi xn : Int) (A : Option Addr) (n c : Nat) (w : World) (hx : Bytes w w.heap.size A n c xdata) (hk : xk.size ≤ maxLen) (hin : In64 act ∧ In64 xlo ∧ In64 xhi ∧ In64 xn) (hm : ModelP.muchL [⟨act, xk, xdata, xlo, xhi, xn⟩] = true) :
    Calls Try.prog 3 #[.agg #[.int .i64 act, .string xk, .slice A n c, .int .i64 xlo, .int .i64 xhi, .int .i64 xn]] w fun e w' => e = .returned (.bool true) ∧ Below w.heap.size w w' := by
  have HX := Lib.hid hx
  have HM := Lib.hid hm
  have hl := hx.len
  clear hx hm
  go_enter Try.func3, Try.ntmps3
  go_wp2_with fail
  generalize hW0 : (w).alloc (.cells #[.int .i64 act, .string xk, .slice A n c, .int .i64 xlo, .int .i64 xhi, .int .i64 xn] 24) = W0
  have HS0_0 : Hid (Str W0 (w.heap.size) #[.int .i64 act, .string xk, .slice A n c, .int .i64 xlo, .int .i64 xhi, .int .i64 xn]) := Lib.hid (by rw [← hW0]; have := Str.new (w) #[.int .i64 act, .string xk, .slice A n c, .int .i64 xlo, .int .i64 xhi, .int .i64 xn] 24; simpa using this)
  have HB_0 : Hid (Below w.heap.size w W0) := Lib.hid (by rw [← hW0]; exact balloc (bsame w) _)
  have hw_0 := HB_0.out.size
  have hz0 : W0.heap.size = w.heap.size + 1 := by rw [← hW0]; simp
  clear hW0
  obtain ⟨f0_0_0, f0_0_1, f0_0_2, f0_0_3, f0_0_4, f0_0_5⟩ := str6 HS0_0.out
  have hl0_0 := HS0_0.out.lt
  have hf0_0 := fun j => HS0_0.out.frozen j
  have HYx_0 := Lib.hid (HX.out.next HB_0.out)
  generalize hW1 : W0.alloc (.cells #[.int .i64 act, .string xk, .slice A n c, .int .i64 xlo, .int .i64 xhi, .int .i64 xn] 24) = W1
  have HS0_1 : Hid (Str W1 (w.heap.size) #[.int .i64 act, .string xk, .slice A n c, .int .i64 xlo, .int .i64 xhi, .int .i64 xn]) := Lib.hid (by rw [← hW1]; exact HS0_0.out.alloc _)
  have HS1_1 : Hid (Str W1 W0.heap.size #[.int .i64 act, .string xk, .slice A n c, .int .i64 xlo, .int .i64 xhi, .int .i64 xn]) := Lib.hid (by rw [← hW1]; exact Str.new W0 #[.int .i64 act, .string xk, .slice A n c, .int .i64 xlo, .int .i64 xhi, .int .i64 xn] 24)
  have hba1 : Below W0.heap.size W0 W1 := by rw [← hW1]; exact balloc (bsame _) _
  have HB_1 := Lib.hid (bstep HB_0.out hba1)
  have hw_1 := HB_1.out.size
  have hws_1 := hba1.size
  have HYx_1 := Lib.hid (HYx_0.out.next hba1)
  clear HYx_0
  clear hW1
  clear f0_0_0 f0_0_1 f0_0_2 f0_0_3 f0_0_4 f0_0_5 HS0_0 hf0_0
  obtain ⟨f0_1_0, f0_1_1, f0_1_2, f0_1_3, f0_1_4, f0_1_5⟩ := str6 HS0_1.out
  have hl0_1 := HS0_1.out.lt
  have hf0_1 := fun j => HS0_1.out.frozen j
  obtain ⟨f1_1_0, f1_1_1, f1_1_2, f1_1_3, f1_1_4, f1_1_5⟩ := str6 HS1_1.out
  have hl1_1 := HS1_1.out.lt
  simp only [hz0] at *
  clear hz0
  refine (much_any (some ⟨w.heap.size + 1, 0, none⟩) 1 1 W1.heap.size [⟨act, xk, xdata, xlo, xhi, xn⟩] _ (op_lit HS1_1.out HYx_1.out (Nat.le_refl _) hk hin) (Nat.le_refl _)).mono ?_
  rintro e W2 ⟨rfl, hb2⟩
  rw [HM.out]
  have HS0_2 := Lib.hid (HS0_1.out.next hb2)
  have HS1_2 := Lib.hid (HS1_1.out.next hb2)
  have HB_2 := Lib.hid (bstep HB_1.out hb2)
  have hw_2 := HB_2.out.size
  have hws_2 := (hb2).size
  have HYx_2 := Lib.hid (HYx_1.out.next hb2)
  clear HYx_1
  clear f0_1_0 f0_1_1 f0_1_2 f0_1_3 f0_1_4 f0_1_5 HS0_1 hf0_1 f1_1_0 f1_1_1 f1_1_2 f1_1_3 f1_1_4 f1_1_5 HS1_1
  clear hb2
  obtain ⟨f0_2_0, f0_2_1, f0_2_2, f0_2_3, f0_2_4, f0_2_5⟩ := str6 HS0_2.out
  have hl0_2 := HS0_2.out.lt
  have hf0_2 := fun j => HS0_2.out.frozen j
  obtain ⟨f1_2_0, f1_2_1, f1_2_2, f1_2_3, f1_2_4, f1_2_5⟩ := str6 HS1_2.out
  have hl1_2 := HS1_2.out.lt
  go_wp2_with fail
  refine (Live09.live_any _).mono ?_
  rintro e W3 ⟨rfl, hb3⟩
  have HS0_3 := Lib.hid (HS0_2.out.next hb3)
  have HS1_3 := Lib.hid (HS1_2.out.next hb3)
  have HB_3 := Lib.hid (bstep HB_2.out hb3)
  have hw_3 := HB_3.out.size
  have hws_3 := (hb3).size
  have HYx_3 := Lib.hid (HYx_2.out.next hb3)
  clear HYx_2
  clear f0_2_0 f0_2_1 f0_2_2 f0_2_3 f0_2_4 f0_2_5 HS0_2 hf0_2 f1_2_0 f1_2_1 f1_2_2 f1_2_3 f1_2_4 f1_2_5 HS1_2
  clear hb3
  obtain ⟨f0_3_0, f0_3_1, f0_3_2, f0_3_3, f0_3_4, f0_3_5⟩ := str6 HS0_3.out
  have hl0_3 := HS0_3.out.lt
  have hf0_3 := fun j => HS0_3.out.frozen j
  obtain ⟨f1_3_0, f1_3_1, f1_3_2, f1_3_3, f1_3_4, f1_3_5⟩ := str6 HS1_3.out
  have hl1_3 := HS1_3.out.lt
  go_wp2_with fail
  go_ret
  exact ⟨rfl, HB_3.out⟩
set_option maxRecDepth 100000 in
set_option maxHeartbeats 1000000 in
theorem way_true (act : Int) (xk : ByteArray) (xdata : List UInt8) (xlo xhi xn : Int) (A : Option Addr) (n c : Nat) (w : World) (hx : Bytes w w.heap.size A n c xdata) (hk : xk.size ≤ maxLen) (hin : In64 act ∧ In64 xlo ∧ In64 xhi ∧ In64 xn) (hm : ModelP.muchL [⟨act, xk, xdata, xlo, xhi, xn⟩] = false) (hg : ModelP.good ⟨act, xk, xdata, xlo, xhi, xn⟩ = true) :
    Calls Try.prog 3 #[.agg #[.int .i64 act, .string xk, .slice A n c, .int .i64 xlo, .int .i64 xhi, .int .i64 xn]] w fun e w' => e = .returned (.bool true) ∧ Below w.heap.size w w' := by
  have HX := Lib.hid hx
  have HM := Lib.hid hm
  have hl := hx.len
  have hn : n ≤ 300 := by rw [← hl]; exact ((ModelP.muchL_no hm).2 _ (List.mem_singleton.2 rfl)).2
  have HG := Lib.hid hg
  have HCO : Hid (ModelP.code (ModelP.good ⟨act, xk, xdata, xlo, xhi, xn⟩) = 0) := Lib.hid (by rw [hg]; rfl)
  clear hg
  clear hx hm
  go_enter Try.func3, Try.ntmps3
  go_wp2_with fail
  generalize hW0 : (w).alloc (.cells #[.int .i64 act, .string xk, .slice A n c, .int .i64 xlo, .int .i64 xhi, .int .i64 xn] 24) = W0
  have HS0_0 : Hid (Str W0 (w.heap.size) #[.int .i64 act, .string xk, .slice A n c, .int .i64 xlo, .int .i64 xhi, .int .i64 xn]) := Lib.hid (by rw [← hW0]; have := Str.new (w) #[.int .i64 act, .string xk, .slice A n c, .int .i64 xlo, .int .i64 xhi, .int .i64 xn] 24; simpa using this)
  have HB_0 : Hid (Below w.heap.size w W0) := Lib.hid (by rw [← hW0]; exact balloc (bsame w) _)
  have hw_0 := HB_0.out.size
  have hz0 : W0.heap.size = w.heap.size + 1 := by rw [← hW0]; simp
  clear hW0
  obtain ⟨f0_0_0, f0_0_1, f0_0_2, f0_0_3, f0_0_4, f0_0_5⟩ := str6 HS0_0.out
  have hl0_0 := HS0_0.out.lt
  have hf0_0 := fun j => HS0_0.out.frozen j
  have HYx_0 := Lib.hid (HX.out.next HB_0.out)
  generalize hW1 : W0.alloc (.cells #[.int .i64 act, .string xk, .slice A n c, .int .i64 xlo, .int .i64 xhi, .int .i64 xn] 24) = W1
  have HS0_1 : Hid (Str W1 (w.heap.size) #[.int .i64 act, .string xk, .slice A n c, .int .i64 xlo, .int .i64 xhi, .int .i64 xn]) := Lib.hid (by rw [← hW1]; exact HS0_0.out.alloc _)
  have HS1_1 : Hid (Str W1 W0.heap.size #[.int .i64 act, .string xk, .slice A n c, .int .i64 xlo, .int .i64 xhi, .int .i64 xn]) := Lib.hid (by rw [← hW1]; exact Str.new W0 #[.int .i64 act, .string xk, .slice A n c, .int .i64 xlo, .int .i64 xhi, .int .i64 xn] 24)
  have hba1 : Below W0.heap.size W0 W1 := by rw [← hW1]; exact balloc (bsame _) _
  have HB_1 := Lib.hid (bstep HB_0.out hba1)
  have hw_1 := HB_1.out.size
  have hws_1 := hba1.size
  have HYx_1 := Lib.hid (HYx_0.out.next hba1)
  clear HYx_0
  clear hW1
  clear f0_0_0 f0_0_1 f0_0_2 f0_0_3 f0_0_4 f0_0_5 HS0_0 hf0_0
  obtain ⟨f0_1_0, f0_1_1, f0_1_2, f0_1_3, f0_1_4, f0_1_5⟩ := str6 HS0_1.out
  have hl0_1 := HS0_1.out.lt
  have hf0_1 := fun j => HS0_1.out.frozen j
  obtain ⟨f1_1_0, f1_1_1, f1_1_2, f1_1_3, f1_1_4, f1_1_5⟩ := str6 HS1_1.out
  have hl1_1 := HS1_1.out.lt
  simp only [hz0] at *
  clear hz0
  refine (much_any (some ⟨w.heap.size + 1, 0, none⟩) 1 1 W1.heap.size [⟨act, xk, xdata, xlo, xhi, xn⟩] _ (op_lit HS1_1.out HYx_1.out (Nat.le_refl _) hk hin) (Nat.le_refl _)).mono ?_
  rintro e W2 ⟨rfl, hb2⟩
  rw [HM.out]
  have HS0_2 := Lib.hid (HS0_1.out.next hb2)
  have HS1_2 := Lib.hid (HS1_1.out.next hb2)
  have HB_2 := Lib.hid (bstep HB_1.out hb2)
  have hw_2 := HB_2.out.size
  have hws_2 := (hb2).size
  have HYx_2 := Lib.hid (HYx_1.out.next hb2)
  clear HYx_1
  clear f0_1_0 f0_1_1 f0_1_2 f0_1_3 f0_1_4 f0_1_5 HS0_1 hf0_1 f1_1_0 f1_1_1 f1_1_2 f1_1_3 f1_1_4 f1_1_5 HS1_1
  clear hb2
  obtain ⟨f0_2_0, f0_2_1, f0_2_2, f0_2_3, f0_2_4, f0_2_5⟩ := str6 HS0_2.out
  have hl0_2 := HS0_2.out.lt
  have hf0_2 := fun j => HS0_2.out.frozen j
  obtain ⟨f1_2_0, f1_2_1, f1_2_2, f1_2_3, f1_2_4, f1_2_5⟩ := str6 HS1_2.out
  have hl1_2 := HS1_2.out.lt
  go_wp2_with fail
  refine (check_any ⟨act, xk, xdata, xlo, xhi, xn⟩ A n c _ hl hk).mono ?_
  rintro e W3 ⟨rfl, hb3⟩
  rw [HCO.out]
  have HS0_3 := Lib.hid (HS0_2.out.next hb3)
  have HS1_3 := Lib.hid (HS1_2.out.next hb3)
  have HB_3 := Lib.hid (bstep HB_2.out hb3)
  have hw_3 := HB_3.out.size
  have hws_3 := (hb3).size
  have HYx_3 := Lib.hid (HYx_2.out.next hb3)
  clear HYx_2
  clear f0_2_0 f0_2_1 f0_2_2 f0_2_3 f0_2_4 f0_2_5 HS0_2 hf0_2 f1_2_0 f1_2_1 f1_2_2 f1_2_3 f1_2_4 f1_2_5 HS1_2
  clear hb3
  obtain ⟨f0_3_0, f0_3_1, f0_3_2, f0_3_3, f0_3_4, f0_3_5⟩ := str6 HS0_3.out
  have hl0_3 := HS0_3.out.lt
  have hf0_3 := fun j => HS0_3.out.frozen j
  obtain ⟨f1_3_0, f1_3_1, f1_3_2, f1_3_3, f1_3_4, f1_3_5⟩ := str6 HS1_3.out
  have hl1_3 := HS1_3.out.lt
  go_wp2_with fail
  refine (Live09.code_any _ _).mono ?_
  rintro e W3_ ⟨rfl, rfl⟩
  go_wp2_with fail
  refine Reg.wp_region_vals (R := ext) (W := W3) [Reg.eqv (.int .i64 0), Reg.eqv (.bool true), Reg.eqv (.agg #[.int .i64 act, .string xk, .slice A n c, .int .i64 xlo, .int .i64 xhi, .int .i64 xn]), Reg.eqv (.bool true), Reg.eqv (.bool true), Reg.eqv (.bool true), Reg.eqv (.int .i64 0), Reg.eqv (.bool true), Reg.eqv (.bool true), Reg.eqv undef, Reg.eqv undef, Reg.eqv (.bool true), Reg.eqv (.bool true), Reg.eqv (.bool true), Reg.eqv (.agg #[.int .i64 act, .string xk, .slice A n c, .int .i64 xlo, .int .i64 xhi, .int .i64 xn]), Reg.opS (ModelP.plain ⟨act, xk, xdata, xlo, xhi, xn⟩), Reg.eqv (.agg #[.int .i64 act, .string xk, .slice A n c, .int .i64 xlo, .int .i64 xhi, .int .i64 xn]), Reg.opS (ModelP.plain ⟨act, xk, xdata, xlo, xhi, xn⟩), Reg.eqv (.bool true), Reg.eqv (.bool true), Reg.eqv (.bool true), Reg.eqv (.bool true), Reg.eqv (.bool true), Reg.eqv (.bool true)] 34 [[(3, none)], [(11, some 0)], [(1, none)], [(13, some 2)], [(12, some 1), (14, some 3)], [(15, some 4)], [(3, none), (16, some 5)], [(17, some 6), (16, some 5)], [(18, some 7), (16, some 5)], [(3, none), (19, some 8)], [(20, some 9), (19, some 8)], [(19, some 8), (21, some 10), (16, some 5)], [(16, some 5), (22, some 11)], [(23, some 12)], [(1, none), (24, some 13)], [(25, some 14), (24, some 13)], [(1, none), (24, some 13)], [(27, some 16), (24, some 13)], [(26, some 15), (28, some 17), (24, some 13)], [(24, some 13), (29, some 18)], [(30, some 19)], [(31, some 20)], [(31, some 20), (32, some 21)], [(33, some 22)]] rfl (by kernel_rfl) (by kernel_rfl) (by kernel_rfl) ?_ [some 11, some 12, some 13, some 14, some 15, some 16, some 17, some 18, some 19, some 20, some 21, some 22, some 23, some 24, some 25, some 26, some 27, some 28, some 29, some 30, some 31, some 32, some 33, some 2] (by kernel_rfl) ?_
  · refine ⟨?_, ?_, ?_, ?_, ?_, ?_, ?_, ?_, ?_, ?_, ?_, ?_, ?_, ?_, ?_, ?_, ?_, ?_, ?_, ?_, ?_, ?_, ?_, ?_, trivial⟩
    · intro ax wx hx hs
      obtain ⟨e3, -⟩ := hs
      have g3 := Reg.ev (v := .int .i64 0) e3
      exact Reg.obl_free rfl (Reg.wp_eqv (Option.some_ne_none _) (by go_simp) rfl)
    · intro ax wx hx hs
      obtain ⟨e11, -⟩ := hs
      have g11 := Reg.ev (v := .int .i64 0) e11
      exact Reg.obl_free rfl (Reg.wp_eqv (Option.some_ne_none _) (by go_simp) rfl)
    · intro ax wx hx hs
      obtain ⟨e1, -⟩ := hs
      have g1 := Reg.ev (v := .pointer (some ⟨w.heap.size, 0, none⟩)) e1
      obtain ⟨l0, l1, l2, l3, l4, l5⟩ := str6 (HS0_3.out.next hx)
      exact Reg.obl_free rfl (Reg.wp_eqv (Option.some_ne_none _) (by go_simp) rfl)
    · intro ax wx hx hs
      obtain ⟨e13, -⟩ := hs
      have g13 := Reg.ev (v := .agg #[.int .i64 act, .string xk, .slice A n c, .int .i64 xlo, .int .i64 xhi, .int .i64 xn]) e13
      refine Reg.obl_free rfl ?_
      go_simp
      refine (good_any ⟨act, xk, xdata, xlo, xhi, xn⟩ A n c _ hk hl).mono ?_
      rintro e wy ⟨rfl, hby⟩
      rw [HG.out]
      exact Reg.done (Option.some_ne_none _) rfl hby
    · intro ax wx hx hs
      obtain ⟨e12, e14, -⟩ := hs
      have g12 := Reg.ev (v := .bool true) e12
      have g14 := Reg.ev (v := .bool true) e14
      exact Reg.obl_free rfl (Reg.wp_eqv (Option.some_ne_none _) (by go_simp) rfl)
    · intro ax wx hx hs
      obtain ⟨e15, -⟩ := hs
      have g15 := Reg.ev (v := .bool true) e15
      exact Reg.obl_free rfl (Reg.wp_eqv (Option.some_ne_none _) (by go_simp) rfl)
    · intro ax wx hx hs
      obtain ⟨e3, e16, -⟩ := hs
      have g3 := Reg.ev (v := .int .i64 0) e3
      have g16 := Reg.ev (v := .bool true) e16
      exact Reg.obl_want rfl rfl e16 (Reg.wp_eqv (Option.some_ne_none _) (by go_simp) rfl)
    · intro ax wx hx hs
      obtain ⟨e17, e16, -⟩ := hs
      have g17 := Reg.ev (v := .int .i64 0) e17
      have g16 := Reg.ev (v := .bool true) e16
      exact Reg.obl_want rfl rfl e16 (Reg.wp_eqv (Option.some_ne_none _) (by go_simp) rfl)
    · intro ax wx hx hs
      obtain ⟨e18, e16, -⟩ := hs
      have g18 := Reg.ev (v := .bool true) e18
      have g16 := Reg.ev (v := .bool true) e16
      exact Reg.obl_want rfl rfl e16 (Reg.wp_eqv (Option.some_ne_none _) (by go_simp) rfl)
    · intro ax wx hx hs
      obtain ⟨e3, e19, -⟩ := hs
      have g3 := Reg.ev (v := .int .i64 0) e3
      have g19 := Reg.ev (v := .bool true) e19
      exact Reg.obl_skip rfl rfl e19 rfl rfl
    · intro ax wx hx hs
      obtain ⟨e20, e19, -⟩ := hs
      have g20 := Reg.ev (v := undef) e20
      have g19 := Reg.ev (v := .bool true) e19
      exact Reg.obl_skip rfl rfl e19 rfl rfl
    · intro ax wx hx hs
      obtain ⟨e19, e21, e16, -⟩ := hs
      have g19 := Reg.ev (v := .bool true) e19
      have g21 := Reg.ev (v := undef) e21
      have g16 := Reg.ev (v := .bool true) e16
      exact Reg.obl_want rfl rfl e16 (Reg.wp_eqv (Option.some_ne_none _) (by go_simp) rfl)
    · intro ax wx hx hs
      obtain ⟨e16, e22, -⟩ := hs
      have g16 := Reg.ev (v := .bool true) e16
      have g22 := Reg.ev (v := .bool true) e22
      exact Reg.obl_free rfl (Reg.wp_eqv (Option.some_ne_none _) (by go_simp) rfl)
    · intro ax wx hx hs
      obtain ⟨e23, -⟩ := hs
      have g23 := Reg.ev (v := .bool true) e23
      exact Reg.obl_free rfl (Reg.wp_eqv (Option.some_ne_none _) (by go_simp) rfl)
    · intro ax wx hx hs
      obtain ⟨e1, e24, -⟩ := hs
      have g1 := Reg.ev (v := .pointer (some ⟨w.heap.size, 0, none⟩)) e1
      have g24 := Reg.ev (v := .bool true) e24
      obtain ⟨l0, l1, l2, l3, l4, l5⟩ := str6 (HS0_3.out.next hx)
      exact Reg.obl_want rfl rfl e24 (Reg.wp_eqv (Option.some_ne_none _) (by go_simp) rfl)
    · intro ax wx hx hs
      obtain ⟨e25, e24, -⟩ := hs
      have g25 := Reg.ev (v := .agg #[.int .i64 act, .string xk, .slice A n c, .int .i64 xlo, .int .i64 xhi, .int .i64 xn]) e25
      have g24 := Reg.ev (v := .bool true) e24
      refine Reg.obl_want rfl rfl e24 ?_
      have hx' : Below W3.heap.size W3 wx := hx
      go_simp
      refine (Plain_any ⟨act, xk, xdata, xlo, xhi, xn⟩ A n c W3.heap.size _ (HYx_3.out.below hx') hx'.size (by omega)).mono ?_
      rintro e wy ⟨A2, n2, c2, rfl, hy2, hby⟩
      exact Reg.done (Option.some_ne_none _) ⟨A2, n2, c2, rfl, hy2⟩ hby
    · intro ax wx hx hs
      obtain ⟨e1, e24, -⟩ := hs
      have g1 := Reg.ev (v := .pointer (some ⟨w.heap.size, 0, none⟩)) e1
      have g24 := Reg.ev (v := .bool true) e24
      obtain ⟨l0, l1, l2, l3, l4, l5⟩ := str6 (HS0_3.out.next hx)
      exact Reg.obl_want rfl rfl e24 (Reg.wp_eqv (Option.some_ne_none _) (by go_simp) rfl)
    · intro ax wx hx hs
      obtain ⟨e27, e24, -⟩ := hs
      have g27 := Reg.ev (v := .agg #[.int .i64 act, .string xk, .slice A n c, .int .i64 xlo, .int .i64 xhi, .int .i64 xn]) e27
      have g24 := Reg.ev (v := .bool true) e24
      refine Reg.obl_want rfl rfl e24 ?_
      have hx' : Below W3.heap.size W3 wx := hx
      go_simp
      refine (refPlain_any ⟨act, xk, xdata, xlo, xhi, xn⟩ A n c W3.heap.size _ (HYx_3.out.below hx') hx'.size (by omega)).mono ?_
      rintro e wy ⟨A2, n2, c2, rfl, hy2, hby⟩
      exact Reg.done (Option.some_ne_none _) ⟨A2, n2, c2, rfl, hy2⟩ hby
    · intro ax wx hx hs
      obtain ⟨e26, e28, e24, -⟩ := hs
      have g24 := Reg.ev (v := .bool true) e24
      refine Reg.obl_want rfl rfl e24 ?_
      obtain ⟨A2, n2, c2, e26, hy2⟩ := e26
      obtain ⟨A3, n3, c3, e28, hy3⟩ := e28
      have g26 := Reg.ev e26
      have g28 := Reg.ev e28
      go_simp
      refine (exact_any (ModelP.plain ⟨act, xk, xdata, xlo, xhi, xn⟩) (ModelP.plain ⟨act, xk, xdata, xlo, xhi, xn⟩) A2 A3 n2 c2 n3 c3 wx.heap.size wx.heap.size _ hy2 (Nat.le_refl _) hy3 (Nat.le_refl _)).mono ?_
      rw [ModelP.same_self']
      rintro e wy ⟨rfl, hby⟩
      exact Reg.done (Option.some_ne_none _) rfl hby
    · intro ax wx hx hs
      obtain ⟨e24, e29, -⟩ := hs
      have g24 := Reg.ev (v := .bool true) e24
      have g29 := Reg.ev (v := .bool true) e29
      exact Reg.obl_free rfl (Reg.wp_eqv (Option.some_ne_none _) (by go_simp) rfl)
    · intro ax wx hx hs
      obtain ⟨e30, -⟩ := hs
      have g30 := Reg.ev (v := .bool true) e30
      exact Reg.obl_free rfl (Reg.wp_eqv (Option.some_ne_none _) (by go_simp) rfl)
    · intro ax wx hx hs
      obtain ⟨e31, -⟩ := hs
      have g31 := Reg.ev (v := .bool true) e31
      refine Reg.obl_want rfl rfl e31 ?_
      go_simp
      refine (Live09.live_any _).mono ?_
      rintro e wy ⟨rfl, hby⟩
      exact Reg.done (Option.some_ne_none _) rfl hby
    · intro ax wx hx hs
      obtain ⟨e31, e32, -⟩ := hs
      have g31 := Reg.ev (v := .bool true) e31
      have g32 := Reg.ev (v := .bool true) e32
      exact Reg.obl_free rfl (Reg.wp_eqv (Option.some_ne_none _) (by go_simp) rfl)
    · intro ax wx hx hs
      obtain ⟨e33, -⟩ := hs
      have g33 := Reg.ev (v := .bool true) e33
      exact Reg.obl_free rfl (Reg.wp_eqv (Option.some_ne_none _) (by go_simp) rfl)
  · intro W4 hwf
    simp only [Reg.Fin]
    rintro _ rfl _ rfl _ rfl _ rfl _ rfl _ rfl _ rfl _ rfl _ rfl _ rfl _ rfl _ rfl _ rfl _ rfl _ rfl v26 h26 _ rfl v28 h28 _ rfl _ rfl _ rfl _ rfl _ rfl _ rfl
    go_simp
    have hwf' : Below W3.heap.size W3 W4 := hwf
    have HBe := bstep HB_3.out hwf'
    clear hwf hwf'
    go_wp2_with fail
    go_ret
    exact ⟨rfl, HBe⟩
set_option maxRecDepth 100000 in
set_option maxHeartbeats 1000000 in
theorem way_false (act : Int) (xk : ByteArray) (xdata : List UInt8) (xlo xhi xn : Int) (A : Option Addr) (n c : Nat) (w : World) (hx : Bytes w w.heap.size A n c xdata) (hk : xk.size ≤ maxLen) (hin : In64 act ∧ In64 xlo ∧ In64 xhi ∧ In64 xn) (hm : ModelP.muchL [⟨act, xk, xdata, xlo, xhi, xn⟩] = false) (hg : ModelP.good ⟨act, xk, xdata, xlo, xhi, xn⟩ = false) :
    Calls Try.prog 3 #[.agg #[.int .i64 act, .string xk, .slice A n c, .int .i64 xlo, .int .i64 xhi, .int .i64 xn]] w fun e w' => e = .returned (.bool true) ∧ Below w.heap.size w w' := by
  have HX := Lib.hid hx
  have HM := Lib.hid hm
  have hl := hx.len
  have hn : n ≤ 300 := by rw [← hl]; exact ((ModelP.muchL_no hm).2 _ (List.mem_singleton.2 rfl)).2
  have HG := Lib.hid hg
  have HCO : Hid (ModelP.code (ModelP.good ⟨act, xk, xdata, xlo, xhi, xn⟩) = 1) := Lib.hid (by rw [hg]; rfl)
  clear hg
  clear hx hm
  go_enter Try.func3, Try.ntmps3
  go_wp2_with fail
  generalize hW0 : (w).alloc (.cells #[.int .i64 act, .string xk, .slice A n c, .int .i64 xlo, .int .i64 xhi, .int .i64 xn] 24) = W0
  have HS0_0 : Hid (Str W0 (w.heap.size) #[.int .i64 act, .string xk, .slice A n c, .int .i64 xlo, .int .i64 xhi, .int .i64 xn]) := Lib.hid (by rw [← hW0]; have := Str.new (w) #[.int .i64 act, .string xk, .slice A n c, .int .i64 xlo, .int .i64 xhi, .int .i64 xn] 24; simpa using this)
  have HB_0 : Hid (Below w.heap.size w W0) := Lib.hid (by rw [← hW0]; exact balloc (bsame w) _)
  have hw_0 := HB_0.out.size
  have hz0 : W0.heap.size = w.heap.size + 1 := by rw [← hW0]; simp
  clear hW0
  obtain ⟨f0_0_0, f0_0_1, f0_0_2, f0_0_3, f0_0_4, f0_0_5⟩ := str6 HS0_0.out
  have hl0_0 := HS0_0.out.lt
  have hf0_0 := fun j => HS0_0.out.frozen j
  have HYx_0 := Lib.hid (HX.out.next HB_0.out)
  generalize hW1 : W0.alloc (.cells #[.int .i64 act, .string xk, .slice A n c, .int .i64 xlo, .int .i64 xhi, .int .i64 xn] 24) = W1
  have HS0_1 : Hid (Str W1 (w.heap.size) #[.int .i64 act, .string xk, .slice A n c, .int .i64 xlo, .int .i64 xhi, .int .i64 xn]) := Lib.hid (by rw [← hW1]; exact HS0_0.out.alloc _)
  have HS1_1 : Hid (Str W1 W0.heap.size #[.int .i64 act, .string xk, .slice A n c, .int .i64 xlo, .int .i64 xhi, .int .i64 xn]) := Lib.hid (by rw [← hW1]; exact Str.new W0 #[.int .i64 act, .string xk, .slice A n c, .int .i64 xlo, .int .i64 xhi, .int .i64 xn] 24)
  have hba1 : Below W0.heap.size W0 W1 := by rw [← hW1]; exact balloc (bsame _) _
  have HB_1 := Lib.hid (bstep HB_0.out hba1)
  have hw_1 := HB_1.out.size
  have hws_1 := hba1.size
  have HYx_1 := Lib.hid (HYx_0.out.next hba1)
  clear HYx_0
  clear hW1
  clear f0_0_0 f0_0_1 f0_0_2 f0_0_3 f0_0_4 f0_0_5 HS0_0 hf0_0
  obtain ⟨f0_1_0, f0_1_1, f0_1_2, f0_1_3, f0_1_4, f0_1_5⟩ := str6 HS0_1.out
  have hl0_1 := HS0_1.out.lt
  have hf0_1 := fun j => HS0_1.out.frozen j
  obtain ⟨f1_1_0, f1_1_1, f1_1_2, f1_1_3, f1_1_4, f1_1_5⟩ := str6 HS1_1.out
  have hl1_1 := HS1_1.out.lt
  simp only [hz0] at *
  clear hz0
  refine (much_any (some ⟨w.heap.size + 1, 0, none⟩) 1 1 W1.heap.size [⟨act, xk, xdata, xlo, xhi, xn⟩] _ (op_lit HS1_1.out HYx_1.out (Nat.le_refl _) hk hin) (Nat.le_refl _)).mono ?_
  rintro e W2 ⟨rfl, hb2⟩
  rw [HM.out]
  have HS0_2 := Lib.hid (HS0_1.out.next hb2)
  have HS1_2 := Lib.hid (HS1_1.out.next hb2)
  have HB_2 := Lib.hid (bstep HB_1.out hb2)
  have hw_2 := HB_2.out.size
  have hws_2 := (hb2).size
  have HYx_2 := Lib.hid (HYx_1.out.next hb2)
  clear HYx_1
  clear f0_1_0 f0_1_1 f0_1_2 f0_1_3 f0_1_4 f0_1_5 HS0_1 hf0_1 f1_1_0 f1_1_1 f1_1_2 f1_1_3 f1_1_4 f1_1_5 HS1_1
  clear hb2
  obtain ⟨f0_2_0, f0_2_1, f0_2_2, f0_2_3, f0_2_4, f0_2_5⟩ := str6 HS0_2.out
  have hl0_2 := HS0_2.out.lt
  have hf0_2 := fun j => HS0_2.out.frozen j
  obtain ⟨f1_2_0, f1_2_1, f1_2_2, f1_2_3, f1_2_4, f1_2_5⟩ := str6 HS1_2.out
  have hl1_2 := HS1_2.out.lt
  go_wp2_with fail
  refine (check_any ⟨act, xk, xdata, xlo, xhi, xn⟩ A n c _ hl hk).mono ?_
  rintro e W3 ⟨rfl, hb3⟩
  rw [HCO.out]
  have HS0_3 := Lib.hid (HS0_2.out.next hb3)
  have HS1_3 := Lib.hid (HS1_2.out.next hb3)
  have HB_3 := Lib.hid (bstep HB_2.out hb3)
  have hw_3 := HB_3.out.size
  have hws_3 := (hb3).size
  have HYx_3 := Lib.hid (HYx_2.out.next hb3)
  clear HYx_2
  clear f0_2_0 f0_2_1 f0_2_2 f0_2_3 f0_2_4 f0_2_5 HS0_2 hf0_2 f1_2_0 f1_2_1 f1_2_2 f1_2_3 f1_2_4 f1_2_5 HS1_2
  clear hb3
  obtain ⟨f0_3_0, f0_3_1, f0_3_2, f0_3_3, f0_3_4, f0_3_5⟩ := str6 HS0_3.out
  have hl0_3 := HS0_3.out.lt
  have hf0_3 := fun j => HS0_3.out.frozen j
  obtain ⟨f1_3_0, f1_3_1, f1_3_2, f1_3_3, f1_3_4, f1_3_5⟩ := str6 HS1_3.out
  have hl1_3 := HS1_3.out.lt
  go_wp2_with fail
  refine (Live09.code_any _ _).mono ?_
  rintro e W3_ ⟨rfl, rfl⟩
  go_wp2_with fail
  refine Reg.wp_region_vals (R := ext) (W := W3) [Reg.eqv (.int .i64 1), Reg.eqv (.bool false), Reg.eqv (.agg #[.int .i64 act, .string xk, .slice A n c, .int .i64 xlo, .int .i64 xhi, .int .i64 xn]), Reg.eqv (.bool false), Reg.eqv (.bool true), Reg.eqv (.bool true), Reg.eqv (.int .i64 1), Reg.eqv (.bool false), Reg.eqv (.bool false), Reg.eqv (.int .i64 1), Reg.eqv (.bool true), Reg.eqv (.bool true), Reg.eqv (.bool true), Reg.eqv (.bool true), Reg.eqv (.agg #[.int .i64 act, .string xk, .slice A n c, .int .i64 xlo, .int .i64 xhi, .int .i64 xn]), Reg.opS (ModelP.plain ⟨act, xk, xdata, xlo, xhi, xn⟩), Reg.eqv (.agg #[.int .i64 act, .string xk, .slice A n c, .int .i64 xlo, .int .i64 xhi, .int .i64 xn]), Reg.opS (ModelP.plain ⟨act, xk, xdata, xlo, xhi, xn⟩), Reg.eqv (.bool true), Reg.eqv (.bool true), Reg.eqv (.bool true), Reg.eqv (.bool true), Reg.eqv (.bool true), Reg.eqv (.bool true)] 34 [[(3, none)], [(11, some 0)], [(1, none)], [(13, some 2)], [(12, some 1), (14, some 3)], [(15, some 4)], [(3, none), (16, some 5)], [(17, some 6), (16, some 5)], [(18, some 7), (16, some 5)], [(3, none), (19, some 8)], [(20, some 9), (19, some 8)], [(19, some 8), (21, some 10), (16, some 5)], [(16, some 5), (22, some 11)], [(23, some 12)], [(1, none), (24, some 13)], [(25, some 14), (24, some 13)], [(1, none), (24, some 13)], [(27, some 16), (24, some 13)], [(26, some 15), (28, some 17), (24, some 13)], [(24, some 13), (29, some 18)], [(30, some 19)], [(31, some 20)], [(31, some 20), (32, some 21)], [(33, some 22)]] rfl (by kernel_rfl) (by kernel_rfl) (by kernel_rfl) ?_ [some 11, some 12, some 13, some 14, some 15, some 16, some 17, some 18, some 19, some 20, some 21, some 22, some 23, some 24, some 25, some 26, some 27, some 28, some 29, some 30, some 31, some 32, some 33, some 2] (by kernel_rfl) ?_
  · refine ⟨?_, ?_, ?_, ?_, ?_, ?_, ?_, ?_, ?_, ?_, ?_, ?_, ?_, ?_, ?_, ?_, ?_, ?_, ?_, ?_, ?_, ?_, ?_, ?_, trivial⟩
    · intro ax wx hx hs
      obtain ⟨e3, -⟩ := hs
      have g3 := Reg.ev (v := .int .i64 1) e3
      exact Reg.obl_free rfl (Reg.wp_eqv (Option.some_ne_none _) (by go_simp) rfl)
    · intro ax wx hx hs
      obtain ⟨e11, -⟩ := hs
      have g11 := Reg.ev (v := .int .i64 1) e11
      exact Reg.obl_free rfl (Reg.wp_eqv (Option.some_ne_none _) (by go_simp) rfl)
    · intro ax wx hx hs
      obtain ⟨e1, -⟩ := hs
      have g1 := Reg.ev (v := .pointer (some ⟨w.heap.size, 0, none⟩)) e1
      obtain ⟨l0, l1, l2, l3, l4, l5⟩ := str6 (HS0_3.out.next hx)
      exact Reg.obl_free rfl (Reg.wp_eqv (Option.some_ne_none _) (by go_simp) rfl)
    · intro ax wx hx hs
      obtain ⟨e13, -⟩ := hs
      have g13 := Reg.ev (v := .agg #[.int .i64 act, .string xk, .slice A n c, .int .i64 xlo, .int .i64 xhi, .int .i64 xn]) e13
      refine Reg.obl_free rfl ?_
      go_simp
      refine (good_any ⟨act, xk, xdata, xlo, xhi, xn⟩ A n c _ hk hl).mono ?_
      rintro e wy ⟨rfl, hby⟩
      rw [HG.out]
      exact Reg.done (Option.some_ne_none _) rfl hby
    · intro ax wx hx hs
      obtain ⟨e12, e14, -⟩ := hs
      have g12 := Reg.ev (v := .bool false) e12
      have g14 := Reg.ev (v := .bool false) e14
      exact Reg.obl_free rfl (Reg.wp_eqv (Option.some_ne_none _) (by go_simp) rfl)
    · intro ax wx hx hs
      obtain ⟨e15, -⟩ := hs
      have g15 := Reg.ev (v := .bool true) e15
      exact Reg.obl_free rfl (Reg.wp_eqv (Option.some_ne_none _) (by go_simp) rfl)
    · intro ax wx hx hs
      obtain ⟨e3, e16, -⟩ := hs
      have g3 := Reg.ev (v := .int .i64 1) e3
      have g16 := Reg.ev (v := .bool true) e16
      exact Reg.obl_want rfl rfl e16 (Reg.wp_eqv (Option.some_ne_none _) (by go_simp) rfl)
    · intro ax wx hx hs
      obtain ⟨e17, e16, -⟩ := hs
      have g17 := Reg.ev (v := .int .i64 1) e17
      have g16 := Reg.ev (v := .bool true) e16
      exact Reg.obl_want rfl rfl e16 (Reg.wp_eqv (Option.some_ne_none _) (by go_simp) rfl)
    · intro ax wx hx hs
      obtain ⟨e18, e16, -⟩ := hs
      have g18 := Reg.ev (v := .bool false) e18
      have g16 := Reg.ev (v := .bool true) e16
      exact Reg.obl_want rfl rfl e16 (Reg.wp_eqv (Option.some_ne_none _) (by go_simp) rfl)
    · intro ax wx hx hs
      obtain ⟨e3, e19, -⟩ := hs
      have g3 := Reg.ev (v := .int .i64 1) e3
      have g19 := Reg.ev (v := .bool false) e19
      exact Reg.obl_want rfl rfl e19 (Reg.wp_eqv (Option.some_ne_none _) (by go_simp) rfl)
    · intro ax wx hx hs
      obtain ⟨e20, e19, -⟩ := hs
      have g20 := Reg.ev (v := .int .i64 1) e20
      have g19 := Reg.ev (v := .bool false) e19
      exact Reg.obl_want rfl rfl e19 (Reg.wp_eqv (Option.some_ne_none _) (by go_simp) rfl)
    · intro ax wx hx hs
      obtain ⟨e19, e21, e16, -⟩ := hs
      have g19 := Reg.ev (v := .bool false) e19
      have g21 := Reg.ev (v := .bool true) e21
      have g16 := Reg.ev (v := .bool true) e16
      exact Reg.obl_want rfl rfl e16 (Reg.wp_eqv (Option.some_ne_none _) (by go_simp) rfl)
    · intro ax wx hx hs
      obtain ⟨e16, e22, -⟩ := hs
      have g16 := Reg.ev (v := .bool true) e16
      have g22 := Reg.ev (v := .bool true) e22
      exact Reg.obl_free rfl (Reg.wp_eqv (Option.some_ne_none _) (by go_simp) rfl)
    · intro ax wx hx hs
      obtain ⟨e23, -⟩ := hs
      have g23 := Reg.ev (v := .bool true) e23
      exact Reg.obl_free rfl (Reg.wp_eqv (Option.some_ne_none _) (by go_simp) rfl)
    · intro ax wx hx hs
      obtain ⟨e1, e24, -⟩ := hs
      have g1 := Reg.ev (v := .pointer (some ⟨w.heap.size, 0, none⟩)) e1
      have g24 := Reg.ev (v := .bool true) e24
      obtain ⟨l0, l1, l2, l3, l4, l5⟩ := str6 (HS0_3.out.next hx)
      exact Reg.obl_want rfl rfl e24 (Reg.wp_eqv (Option.some_ne_none _) (by go_simp) rfl)
    · intro ax wx hx hs
      obtain ⟨e25, e24, -⟩ := hs
      have g25 := Reg.ev (v := .agg #[.int .i64 act, .string xk, .slice A n c, .int .i64 xlo, .int .i64 xhi, .int .i64 xn]) e25
      have g24 := Reg.ev (v := .bool true) e24
      refine Reg.obl_want rfl rfl e24 ?_
      have hx' : Below W3.heap.size W3 wx := hx
      go_simp
      refine (Plain_any ⟨act, xk, xdata, xlo, xhi, xn⟩ A n c W3.heap.size _ (HYx_3.out.below hx') hx'.size (by omega)).mono ?_
      rintro e wy ⟨A2, n2, c2, rfl, hy2, hby⟩
      exact Reg.done (Option.some_ne_none _) ⟨A2, n2, c2, rfl, hy2⟩ hby
    · intro ax wx hx hs
      obtain ⟨e1, e24, -⟩ := hs
      have g1 := Reg.ev (v := .pointer (some ⟨w.heap.size, 0, none⟩)) e1
      have g24 := Reg.ev (v := .bool true) e24
      obtain ⟨l0, l1, l2, l3, l4, l5⟩ := str6 (HS0_3.out.next hx)
      exact Reg.obl_want rfl rfl e24 (Reg.wp_eqv (Option.some_ne_none _) (by go_simp) rfl)
    · intro ax wx hx hs
      obtain ⟨e27, e24, -⟩ := hs
      have g27 := Reg.ev (v := .agg #[.int .i64 act, .string xk, .slice A n c, .int .i64 xlo, .int .i64 xhi, .int .i64 xn]) e27
      have g24 := Reg.ev (v := .bool true) e24
      refine Reg.obl_want rfl rfl e24 ?_
      have hx' : Below W3.heap.size W3 wx := hx
      go_simp
      refine (refPlain_any ⟨act, xk, xdata, xlo, xhi, xn⟩ A n c W3.heap.size _ (HYx_3.out.below hx') hx'.size (by omega)).mono ?_
      rintro e wy ⟨A2, n2, c2, rfl, hy2, hby⟩
      exact Reg.done (Option.some_ne_none _) ⟨A2, n2, c2, rfl, hy2⟩ hby
    · intro ax wx hx hs
      obtain ⟨e26, e28, e24, -⟩ := hs
      have g24 := Reg.ev (v := .bool true) e24
      refine Reg.obl_want rfl rfl e24 ?_
      obtain ⟨A2, n2, c2, e26, hy2⟩ := e26
      obtain ⟨A3, n3, c3, e28, hy3⟩ := e28
      have g26 := Reg.ev e26
      have g28 := Reg.ev e28
      go_simp
      refine (exact_any (ModelP.plain ⟨act, xk, xdata, xlo, xhi, xn⟩) (ModelP.plain ⟨act, xk, xdata, xlo, xhi, xn⟩) A2 A3 n2 c2 n3 c3 wx.heap.size wx.heap.size _ hy2 (Nat.le_refl _) hy3 (Nat.le_refl _)).mono ?_
      rw [ModelP.same_self']
      rintro e wy ⟨rfl, hby⟩
      exact Reg.done (Option.some_ne_none _) rfl hby
    · intro ax wx hx hs
      obtain ⟨e24, e29, -⟩ := hs
      have g24 := Reg.ev (v := .bool true) e24
      have g29 := Reg.ev (v := .bool true) e29
      exact Reg.obl_free rfl (Reg.wp_eqv (Option.some_ne_none _) (by go_simp) rfl)
    · intro ax wx hx hs
      obtain ⟨e30, -⟩ := hs
      have g30 := Reg.ev (v := .bool true) e30
      exact Reg.obl_free rfl (Reg.wp_eqv (Option.some_ne_none _) (by go_simp) rfl)
    · intro ax wx hx hs
      obtain ⟨e31, -⟩ := hs
      have g31 := Reg.ev (v := .bool true) e31
      refine Reg.obl_want rfl rfl e31 ?_
      go_simp
      refine (Live09.live_any _).mono ?_
      rintro e wy ⟨rfl, hby⟩
      exact Reg.done (Option.some_ne_none _) rfl hby
    · intro ax wx hx hs
      obtain ⟨e31, e32, -⟩ := hs
      have g31 := Reg.ev (v := .bool true) e31
      have g32 := Reg.ev (v := .bool true) e32
      exact Reg.obl_free rfl (Reg.wp_eqv (Option.some_ne_none _) (by go_simp) rfl)
    · intro ax wx hx hs
      obtain ⟨e33, -⟩ := hs
      have g33 := Reg.ev (v := .bool true) e33
      exact Reg.obl_free rfl (Reg.wp_eqv (Option.some_ne_none _) (by go_simp) rfl)
  · intro W4 hwf
    simp only [Reg.Fin]
    rintro _ rfl _ rfl _ rfl _ rfl _ rfl _ rfl _ rfl _ rfl _ rfl _ rfl _ rfl _ rfl _ rfl _ rfl _ rfl v26 h26 _ rfl v28 h28 _ rfl _ rfl _ rfl _ rfl _ rfl _ rfl
    go_simp
    have hwf' : Below W3.heap.size W3 W4 := hwf
    have HBe := bstep HB_3.out hwf'
    clear hwf hwf'
    go_wp2_with fail
    go_ret
    exact ⟨rfl, HBe⟩
theorem walk (v0 : Value) (a0 : OpX) (w : World) (g0 : ROp w w.heap.size v0 a0) :
    Calls Try.prog 3 #[v0] w fun e w' => e = .returned (.bool true) ∧ Below w.heap.size w w' := by
  obtain ⟨A, n, c, rfl, hx, hk, h1, h2, h3, h4⟩ := g0
  obtain ⟨act, xk, xdata, xlo, xhi, xn⟩ := a0
  cases hm : ModelP.muchL [⟨act, xk, xdata, xlo, xhi, xn⟩] with
  | true => exact way_much act xk xdata xlo xhi xn A n c w hx hk ⟨h1, h2, h3, h4⟩ hm
  | false =>
    cases hg : ModelP.good ⟨act, xk, xdata, xlo, xhi, xn⟩ with
    | true => exact way_true act xk xdata xlo xhi xn A n c w hx hk ⟨h1, h2, h3, h4⟩ hm hg
    | false => exact way_false act xk xdata xlo xhi xn A n c w hx hk ⟨h1, h2, h3, h4⟩ hm hg
end Go.Proofs.Ytghgccgpgonlmaa.modelChecks
