/-
  The walks of undo.Of and undo.Apply.
-/
import Derived.Test.YtghgccgpgonlmaaUndo
namespace Go.Proofs.Ytghgccgpgonlmaa.UndoW
open Go.RowKit
set_option linter.unusedVariables false
/-- the call hands back an undo -/
def GivesUndo (w : World) (u : Undo) (e : Ending) (w' : World) : Prop := ∃ A n cap, e = .returned (.agg #[.int .i64 u.act, .string u.key, .int .i64 u.item.state, .string u.item.key, .int .i64 u.item.cell.kind, .slice A n cap, .int .i64 u.item.cell.lo, .int .i64 u.item.cell.hi, .int .i64 u.item.cell.val, .int .i64 u.n]) ∧ Bytes w' w'.heap.size A n cap u.item.cell.data ∧ Below w.heap.size w w'

set_option maxRecDepth 100000 in
set_option maxHeartbeats 1000000 in
theorem of_inc (Ax : Option Addr) (nx cx : Nat) (act : Int) (xk : ByteArray) (xda : List UInt8) (xlo xhi xn : Int) (Ap : Option Addr) (np cp Bp : Nat) (pst : Int) (pk : ByteArray) (pkd : Int) (pda : List UInt8) (plo phi pva : Int) (Aq : Option Addr) (nq cq Bq : Nat) (qst : Int) (qk : ByteArray) (qkd : Int) (qda : List UInt8) (qlo qhi qva : Int) (w : World) (hp : Bytes w Bp Ap np cp pda) (hBp : Bp ≤ w.heap.size) (hnp : np ≤ 140737488355328) (hq : Bytes w Bq Aq nq cq qda) (hBq : Bq ≤ w.heap.size) (hnq : nq ≤ 140737488355328) (ha : act = 4) : Calls Try.prog 40 #[.agg #[.int .i64 act, .string xk, .slice Ax nx cx, .int .i64 xlo, .int .i64 xhi, .int .i64 xn], .agg #[.int .i64 pst, .string pk, .int .i64 pkd, .slice Ap np cp, .int .i64 plo, .int .i64 phi, .int .i64 pva], .agg #[.int .i64 qst, .string qk, .int .i64 qkd, .slice Aq nq cq, .int .i64 qlo, .int .i64 qhi, .int .i64 qva]] w (GivesUndo w (UndoP.of ⟨act, xk, xda, xlo, xhi, xn⟩ ⟨pst, pk, ⟨pkd, pda, plo, phi, pva⟩⟩ ⟨qst, qk, ⟨qkd, qda, qlo, qhi, qva⟩⟩)) := by
  subst ha
  rw [UndoP.of_inc _ _ _ rfl]
  go_enter Try.func40, Try.ntmps40
  go_wp2_with fail
  exact bodyPost_ret (v := .agg #[.int .i64 3, .string xk, .int .i64 0, .string ⟨#[]⟩, .int .i64 0, .slice none 0 0, .int .i64 0, .int .i64 0, .int .i64 0, .int .i64 xn]) (by simp [results, Try.results40, go_sem]) rfl ⟨none, 0, 0, rfl, Bytes.none_ _ _, balloc (balloc (balloc (balloc (bsame w) _) _) _) _⟩

set_option maxRecDepth 100000 in
set_option maxHeartbeats 1000000 in
theorem of_dec (Ax : Option Addr) (nx cx : Nat) (act : Int) (xk : ByteArray) (xda : List UInt8) (xlo xhi xn : Int) (Ap : Option Addr) (np cp Bp : Nat) (pst : Int) (pk : ByteArray) (pkd : Int) (pda : List UInt8) (plo phi pva : Int) (Aq : Option Addr) (nq cq Bq : Nat) (qst : Int) (qk : ByteArray) (qkd : Int) (qda : List UInt8) (qlo qhi qva : Int) (w : World) (hp : Bytes w Bp Ap np cp pda) (hBp : Bp ≤ w.heap.size) (hnp : np ≤ 140737488355328) (hq : Bytes w Bq Aq nq cq qda) (hBq : Bq ≤ w.heap.size) (hnq : nq ≤ 140737488355328) (ha : act = 5) : Calls Try.prog 40 #[.agg #[.int .i64 act, .string xk, .slice Ax nx cx, .int .i64 xlo, .int .i64 xhi, .int .i64 xn], .agg #[.int .i64 pst, .string pk, .int .i64 pkd, .slice Ap np cp, .int .i64 plo, .int .i64 phi, .int .i64 pva], .agg #[.int .i64 qst, .string qk, .int .i64 qkd, .slice Aq nq cq, .int .i64 qlo, .int .i64 qhi, .int .i64 qva]] w (GivesUndo w (UndoP.of ⟨act, xk, xda, xlo, xhi, xn⟩ ⟨pst, pk, ⟨pkd, pda, plo, phi, pva⟩⟩ ⟨qst, qk, ⟨qkd, qda, qlo, qhi, qva⟩⟩)) := by
  subst ha
  rw [UndoP.of_dec _ _ _ rfl]
  go_enter Try.func40, Try.ntmps40
  go_wp2_with fail
  exact bodyPost_ret (v := .agg #[.int .i64 2, .string xk, .int .i64 0, .string ⟨#[]⟩, .int .i64 0, .slice none 0 0, .int .i64 0, .int .i64 0, .int .i64 0, .int .i64 xn]) (by simp [results, Try.results40, go_sem]) rfl ⟨none, 0, 0, rfl, Bytes.none_ _ _, balloc (balloc (balloc (balloc (bsame w) _) _) _) _⟩

set_option maxRecDepth 100000 in
set_option maxHeartbeats 1000000 in
theorem of_none (Ax : Option Addr) (nx cx : Nat) (act : Int) (xk : ByteArray) (xda : List UInt8) (xlo xhi xn : Int) (Ap : Option Addr) (np cp Bp : Nat) (pst : Int) (pk : ByteArray) (pkd : Int) (pda : List UInt8) (plo phi pva : Int) (Aq : Option Addr) (nq cq Bq : Nat) (qst : Int) (qk : ByteArray) (qkd : Int) (qda : List UInt8) (qlo qhi qva : Int) (w : World) (hp : Bytes w Bp Ap np cp pda) (hBp : Bp ≤ w.heap.size) (hnp : np ≤ 140737488355328) (hq : Bytes w Bq Aq nq cq qda) (hBq : Bq ≤ w.heap.size) (hnq : nq ≤ 140737488355328) (h1 : ¬ act = 1) (h2 : ¬ act = 2) (h3 : ¬ act = 3) (h4 : ¬ act = 4) (h5 : ¬ act = 5) : Calls Try.prog 40 #[.agg #[.int .i64 act, .string xk, .slice Ax nx cx, .int .i64 xlo, .int .i64 xhi, .int .i64 xn], .agg #[.int .i64 pst, .string pk, .int .i64 pkd, .slice Ap np cp, .int .i64 plo, .int .i64 phi, .int .i64 pva], .agg #[.int .i64 qst, .string qk, .int .i64 qkd, .slice Aq nq cq, .int .i64 qlo, .int .i64 qhi, .int .i64 qva]] w (GivesUndo w (UndoP.of ⟨act, xk, xda, xlo, xhi, xn⟩ ⟨pst, pk, ⟨pkd, pda, plo, phi, pva⟩⟩ ⟨qst, qk, ⟨qkd, qda, qlo, qhi, qva⟩⟩)) := by
  rw [UndoP.of_none _ _ _ (by simp; omega)]
  go_enter Try.func40, Try.ntmps40
  go_wp2_with fail
  exact bodyPost_ret (v := .agg #[.int .i64 0, .string ⟨#[]⟩, .int .i64 0, .string ⟨#[]⟩, .int .i64 0, .slice none 0 0, .int .i64 0, .int .i64 0, .int .i64 0, .int .i64 0]) (by simp [results, Try.results40, go_sem]) rfl ⟨none, 0, 0, rfl, Bytes.none_ _ _, balloc (balloc (balloc (balloc (bsame w) _) _) _) _⟩

set_option maxRecDepth 100000 in
set_option maxHeartbeats 1000000 in
theorem of1_s1k (Ax : Option Addr) (nx cx : Nat) (xda : List UInt8) (xlo xhi xn : Int) (Ap : Option Addr) (np cp Bp : Nat) (pk : ByteArray) (pkd : Int) (pda : List UInt8) (plo phi pva : Int) (Aq : Option Addr) (nq cq Bq : Nat) (qst : Int) (qk : ByteArray) (qkd : Int) (qda : List UInt8) (qlo qhi qva : Int) (w : World) (hp : Bytes w Bp Ap np cp pda) (hBp : Bp ≤ w.heap.size) (hnp : np ≤ 140737488355328) (hq : Bytes w Bq Aq nq cq qda) (hBq : Bq ≤ w.heap.size) (hnq : nq ≤ 140737488355328)  : Calls Try.prog 40 #[.agg #[.int .i64 1, .string pk, .slice Ax nx cx, .int .i64 xlo, .int .i64 xhi, .int .i64 xn], .agg #[.int .i64 1, .string pk, .int .i64 pkd, .slice Ap np cp, .int .i64 plo, .int .i64 phi, .int .i64 pva], .agg #[.int .i64 qst, .string qk, .int .i64 qkd, .slice Aq nq cq, .int .i64 qlo, .int .i64 qhi, .int .i64 qva]] w (GivesUndo w (UndoP.of ⟨1, pk, xda, xlo, xhi, xn⟩ ⟨1, pk, ⟨pkd, pda, plo, phi, pva⟩⟩ ⟨qst, qk, ⟨qkd, qda, qlo, qhi, qva⟩⟩)) := by
  rw [UndoP.of_was _ _ _ (by simp) ⟨.inl rfl, rfl⟩]
  have Hp := Lib.hid hp
  have Hq := Lib.hid hq
  clear hp hq
  go_enter Try.func40, Try.ntmps40
  go_wp2_with fail
  generalize hW0 : ((((w).alloc (.cells #[.int .i64 1, .string pk, .slice Ax nx cx, .int .i64 xlo, .int .i64 xhi, .int .i64 xn] 24)).alloc (.cells #[.int .i64 1, .string pk, .int .i64 pkd, .slice Ap np cp, .int .i64 plo, .int .i64 phi, .int .i64 pva] 54)).alloc (.cells #[.int .i64 qst, .string qk, .int .i64 qkd, .slice Aq nq cq, .int .i64 qlo, .int .i64 qhi, .int .i64 qva] 54)).alloc (.cells #[.int .i64 0, .string ⟨#[]⟩, .int .i64 0, .string ⟨#[]⟩, .int .i64 0, .slice none 0 0, .int .i64 0, .int .i64 0, .int .i64 0, .int .i64 0] 62) = W0
  have HS0_0 : Hid (Str W0 (w.heap.size) #[.int .i64 1, .string pk, .slice Ax nx cx, .int .i64 xlo, .int .i64 xhi, .int .i64 xn]) := Lib.hid (by rw [← hW0]; have := (((Str.new (w) #[.int .i64 1, .string pk, .slice Ax nx cx, .int .i64 xlo, .int .i64 xhi, .int .i64 xn] 24).alloc (.cells #[.int .i64 1, .string pk, .int .i64 pkd, .slice Ap np cp, .int .i64 plo, .int .i64 phi, .int .i64 pva] 54)).alloc (.cells #[.int .i64 qst, .string qk, .int .i64 qkd, .slice Aq nq cq, .int .i64 qlo, .int .i64 qhi, .int .i64 qva] 54)).alloc (.cells #[.int .i64 0, .string ⟨#[]⟩, .int .i64 0, .string ⟨#[]⟩, .int .i64 0, .slice none 0 0, .int .i64 0, .int .i64 0, .int .i64 0, .int .i64 0] 62); simpa using this)
  have HS1_0 : Hid (Str W0 (w.heap.size + 1) #[.int .i64 1, .string pk, .int .i64 pkd, .slice Ap np cp, .int .i64 plo, .int .i64 phi, .int .i64 pva]) := Lib.hid (by rw [← hW0]; have := ((Str.new ((w).alloc (.cells #[.int .i64 1, .string pk, .slice Ax nx cx, .int .i64 xlo, .int .i64 xhi, .int .i64 xn] 24)) #[.int .i64 1, .string pk, .int .i64 pkd, .slice Ap np cp, .int .i64 plo, .int .i64 phi, .int .i64 pva] 54).alloc (.cells #[.int .i64 qst, .string qk, .int .i64 qkd, .slice Aq nq cq, .int .i64 qlo, .int .i64 qhi, .int .i64 qva] 54)).alloc (.cells #[.int .i64 0, .string ⟨#[]⟩, .int .i64 0, .string ⟨#[]⟩, .int .i64 0, .slice none 0 0, .int .i64 0, .int .i64 0, .int .i64 0, .int .i64 0] 62); simpa using this)
  have HS2_0 : Hid (Str W0 (w.heap.size + 1 + 1) #[.int .i64 qst, .string qk, .int .i64 qkd, .slice Aq nq cq, .int .i64 qlo, .int .i64 qhi, .int .i64 qva]) := Lib.hid (by rw [← hW0]; have := (Str.new (((w).alloc (.cells #[.int .i64 1, .string pk, .slice Ax nx cx, .int .i64 xlo, .int .i64 xhi, .int .i64 xn] 24)).alloc (.cells #[.int .i64 1, .string pk, .int .i64 pkd, .slice Ap np cp, .int .i64 plo, .int .i64 phi, .int .i64 pva] 54)) #[.int .i64 qst, .string qk, .int .i64 qkd, .slice Aq nq cq, .int .i64 qlo, .int .i64 qhi, .int .i64 qva] 54).alloc (.cells #[.int .i64 0, .string ⟨#[]⟩, .int .i64 0, .string ⟨#[]⟩, .int .i64 0, .slice none 0 0, .int .i64 0, .int .i64 0, .int .i64 0, .int .i64 0] 62); simpa using this)
  have HS3_0 : Hid (Str W0 (w.heap.size + 1 + 1 + 1) #[.int .i64 0, .string ⟨#[]⟩, .int .i64 0, .string ⟨#[]⟩, .int .i64 0, .slice none 0 0, .int .i64 0, .int .i64 0, .int .i64 0, .int .i64 0]) := Lib.hid (by rw [← hW0]; have := Str.new ((((w).alloc (.cells #[.int .i64 1, .string pk, .slice Ax nx cx, .int .i64 xlo, .int .i64 xhi, .int .i64 xn] 24)).alloc (.cells #[.int .i64 1, .string pk, .int .i64 pkd, .slice Ap np cp, .int .i64 plo, .int .i64 phi, .int .i64 pva] 54)).alloc (.cells #[.int .i64 qst, .string qk, .int .i64 qkd, .slice Aq nq cq, .int .i64 qlo, .int .i64 qhi, .int .i64 qva] 54)) #[.int .i64 0, .string ⟨#[]⟩, .int .i64 0, .string ⟨#[]⟩, .int .i64 0, .slice none 0 0, .int .i64 0, .int .i64 0, .int .i64 0, .int .i64 0] 62; simpa using this)
  have HB_0 : Hid (Below w.heap.size w W0) := Lib.hid (by rw [← hW0]; exact balloc (balloc (balloc (balloc (bsame w) _) _) _) _)
  have hw_0 := HB_0.out.size
  clear hW0
  obtain ⟨f0_0_0, f0_0_1, f0_0_2, f0_0_3, f0_0_4, f0_0_5⟩ := str6 HS0_0.out
  have hl0_0 := HS0_0.out.lt
  obtain ⟨f1_0_0, f1_0_1, f1_0_2, f1_0_3, f1_0_4, f1_0_5, f1_0_6⟩ := str7 HS1_0.out
  have hl1_0 := HS1_0.out.lt
  obtain ⟨f2_0_0, f2_0_1, f2_0_2, f2_0_3, f2_0_4, f2_0_5, f2_0_6⟩ := str7 HS2_0.out
  have hl2_0 := HS2_0.out.lt
  obtain ⟨f3_0_0, f3_0_1, f3_0_2, f3_0_3, f3_0_4, f3_0_5, f3_0_6, f3_0_7, f3_0_8, f3_0_9⟩ := str10 HS3_0.out
  have hl3_0 := HS3_0.out.lt
  have hf3_0 := fun j => HS3_0.out.frozen j
  refine Reg.wp_region_tail (R := ext) (W := W0) [Reg.eqv (.pointer (some ⟨w.heap.size, 1, none⟩)), Reg.eqv (.string pk), Reg.eqv (.agg #[.int .i64 1, .string pk, .int .i64 pkd, .slice Ap np cp, .int .i64 plo, .int .i64 phi, .int .i64 pva]), Reg.itemS ⟨1, pk, ⟨pkd, pda, plo, phi, pva⟩⟩, Reg.undoS ⟨1, pk, ⟨1, pk, ⟨pkd, pda, plo, phi, pva⟩⟩, 0⟩] 56 5 _ [[(3, none)], [(34, some 0)], [(4, none)], [(36, some 2)], [(35, some 1), (37, some 3)]] rfl (by kernel_rfl) (by kernel_rfl) (by rfl) (by rfl) rfl (by kernel_rfl) ?_ [some 34, some 35, some 36, some 37, some 38] (by kernel_rfl) ?_
  · refine ⟨?_, ?_, ?_, ?_, ?_, trivial⟩
    · intro ax wx hx hs
      obtain ⟨e3, -⟩ := hs
      have g3 := Reg.ev (v := .pointer (some ⟨w.heap.size, 0, none⟩)) e3
      exact Reg.obl_free rfl (Reg.wp_eqv (Option.some_ne_none _) (by go_simp) rfl)
    · intro ax wx hx hs
      obtain ⟨e34, -⟩ := hs
      have g34 := Reg.ev (v := .pointer (some ⟨w.heap.size, 1, none⟩)) e34
      obtain ⟨hc, -⟩ := bcell hx
      exact Reg.obl_free rfl (Reg.wp_eqv (Option.some_ne_none _) (by go_simp) rfl)
    · intro ax wx hx hs
      obtain ⟨e4, -⟩ := hs
      have g4 := Reg.ev (v := .pointer (some ⟨w.heap.size + 1, 0, none⟩)) e4
      obtain ⟨hc, -⟩ := bcell hx
      exact Reg.obl_free rfl (Reg.wp_eqv (Option.some_ne_none _) (by go_simp) rfl)
    · intro ax wx hx hs
      obtain ⟨e36, -⟩ := hs
      have g36 := Reg.ev (v := .agg #[.int .i64 1, .string pk, .int .i64 pkd, .slice Ap np cp, .int .i64 plo, .int .i64 phi, .int .i64 pva]) e36
      refine Reg.obl_free rfl ?_
      have hx' : Below W0.heap.size W0 wx := hx
      have hsz := (bstep HB_0.out hx').size
      go_simp
      refine (own_any _ _ _ Bp _ _ _ pda _ _ _ _ (Hp.out.below ((bstep HB_0.out hx').mono hBp)) (by omega) hnp).mono ?_
      rintro e wy ⟨A1, n1, c1, rfl, hy1, hby⟩
      exact Reg.done (Option.some_ne_none _) ⟨A1, n1, c1, rfl, hy1⟩ hby
    · intro ax wx hx hs
      obtain ⟨e35, e37, -⟩ := hs
      have g35 := Reg.ev (v := .string pk) e35
      refine Reg.obl_free rfl ?_
      obtain ⟨A1, n1, c1, e37, hy1⟩ := e37
      have g37 := Reg.ev e37
      exact Reg.wp_same (Option.some_ne_none _) (by go_simp) ⟨A1, n1, c1, rfl, hy1⟩
  · intro W1 hwf
    simp only [Reg.Fin]
    rintro _ rfl _ rfl _ rfl v37 h37 v38 h38
    obtain ⟨A1, n1, c1, rfl, hy1⟩ := h38
    clear h37
    have hwf' : Below W0.heap.size W0 W1 := hwf
    clear hwf
    have HS0_1 := Lib.hid (HS0_0.out.next hwf')
    have HS1_1 := Lib.hid (HS1_0.out.next hwf')
    have HS2_1 := Lib.hid (HS2_0.out.next hwf')
    have HS3_1 := Lib.hid (HS3_0.out.next hwf')
    have HB_1 := Lib.hid (bstep HB_0.out hwf')
    have hw_1 := HB_1.out.size
    have hws_1 := (hwf').size
    clear f0_0_0 f0_0_1 f0_0_2 f0_0_3 f0_0_4 f0_0_5 HS0_0 f1_0_0 f1_0_1 f1_0_2 f1_0_3 f1_0_4 f1_0_5 f1_0_6 HS1_0 f2_0_0 f2_0_1 f2_0_2 f2_0_3 f2_0_4 f2_0_5 f2_0_6 HS2_0 f3_0_0 f3_0_1 f3_0_2 f3_0_3 f3_0_4 f3_0_5 f3_0_6 f3_0_7 f3_0_8 f3_0_9 HS3_0 hf3_0
    clear hwf'
    obtain ⟨f0_1_0, f0_1_1, f0_1_2, f0_1_3, f0_1_4, f0_1_5⟩ := str6 HS0_1.out
    have hl0_1 := HS0_1.out.lt
    obtain ⟨f1_1_0, f1_1_1, f1_1_2, f1_1_3, f1_1_4, f1_1_5, f1_1_6⟩ := str7 HS1_1.out
    have hl1_1 := HS1_1.out.lt
    obtain ⟨f2_1_0, f2_1_1, f2_1_2, f2_1_3, f2_1_4, f2_1_5, f2_1_6⟩ := str7 HS2_1.out
    have hl2_1 := HS2_1.out.lt
    obtain ⟨f3_1_0, f3_1_1, f3_1_2, f3_1_3, f3_1_4, f3_1_5, f3_1_6, f3_1_7, f3_1_8, f3_1_9⟩ := str10 HS3_1.out
    have hl3_1 := HS3_1.out.lt
    have hf3_1 := fun j => HS3_1.out.frozen j
    have HYx_1 := Lib.hid (hy1)
    clear hy1
    refine Reg.Goal.mk ?_
    go_simp
    go_wp2_with fail
    generalize hW2 : ((((((((((W1).setCell ⟨w.heap.size + 1 + 1 + 1, 0, none⟩ (.int .i64 1)).setCell ⟨w.heap.size + 1 + 1 + 1, 1, none⟩ (.string pk)).setCell ⟨w.heap.size + 1 + 1 + 1, 2, none⟩ (.int .i64 1)).setCell ⟨w.heap.size + 1 + 1 + 1, 3, none⟩ (.string pk)).setCell ⟨w.heap.size + 1 + 1 + 1, 4, none⟩ (.int .i64 pkd)).setCell ⟨w.heap.size + 1 + 1 + 1, 5, none⟩ (.slice A1 n1 c1)).setCell ⟨w.heap.size + 1 + 1 + 1, 6, none⟩ (.int .i64 plo)).setCell ⟨w.heap.size + 1 + 1 + 1, 7, none⟩ (.int .i64 phi)).setCell ⟨w.heap.size + 1 + 1 + 1, 8, none⟩ (.int .i64 pva)).setCell ⟨w.heap.size + 1 + 1 + 1, 9, none⟩ (.int .i64 0) = W2
    have HS0_2 : Hid (Str W2 (w.heap.size) #[.int .i64 1, .string pk, .slice Ax nx cx, .int .i64 xlo, .int .i64 xhi, .int .i64 xn]) := Lib.hid (by rw [← hW2]; exact ((((((((((HS0_1.out).other 0 _ (by omega)).other 1 _ (by omega)).other 2 _ (by omega)).other 3 _ (by omega)).other 4 _ (by omega)).other 5 _ (by omega)).other 6 _ (by omega)).other 7 _ (by omega)).other 8 _ (by omega)).other 9 _ (by omega))
    have HS1_2 : Hid (Str W2 (w.heap.size + 1) #[.int .i64 1, .string pk, .int .i64 pkd, .slice Ap np cp, .int .i64 plo, .int .i64 phi, .int .i64 pva]) := Lib.hid (by rw [← hW2]; exact ((((((((((HS1_1.out).other 0 _ (by omega)).other 1 _ (by omega)).other 2 _ (by omega)).other 3 _ (by omega)).other 4 _ (by omega)).other 5 _ (by omega)).other 6 _ (by omega)).other 7 _ (by omega)).other 8 _ (by omega)).other 9 _ (by omega))
    have HS2_2 : Hid (Str W2 (w.heap.size + 1 + 1) #[.int .i64 qst, .string qk, .int .i64 qkd, .slice Aq nq cq, .int .i64 qlo, .int .i64 qhi, .int .i64 qva]) := Lib.hid (by rw [← hW2]; exact ((((((((((HS2_1.out).other 0 _ (by omega)).other 1 _ (by omega)).other 2 _ (by omega)).other 3 _ (by omega)).other 4 _ (by omega)).other 5 _ (by omega)).other 6 _ (by omega)).other 7 _ (by omega)).other 8 _ (by omega)).other 9 _ (by omega))
    have HS3_2 : Hid (Str W2 (w.heap.size + 1 + 1 + 1) #[.int .i64 1, .string pk, .int .i64 1, .string pk, .int .i64 pkd, .slice A1 n1 c1, .int .i64 plo, .int .i64 phi, .int .i64 pva, .int .i64 0]) := Lib.hid (by rw [← hW2]; have := ((((((((((HS3_1.out).set 0 (.int .i64 1)).set 1 (.string pk)).set 2 (.int .i64 1)).set 3 (.string pk)).set 4 (.int .i64 pkd)).set 5 (.slice A1 n1 c1)).set 6 (.int .i64 plo)).set 7 (.int .i64 phi)).set 8 (.int .i64 pva)).set 9 (.int .i64 0); simpa using this)
    have hgr2 : W1.grownBy W2 (some (w.heap.size + 1 + 1 + 1)) := by rw [← hW2]; exact grown_set (grown_set (grown_set (grown_set (grown_set (grown_set (grown_set (grown_set (grown_set (grown_set (grown_refl W1 (w.heap.size + 1 + 1 + 1)) 0 (.int .i64 1)) 1 (.string pk)) 2 (.int .i64 1)) 3 (.string pk)) 4 (.int .i64 pkd)) 5 (.slice A1 n1 c1)) 6 (.int .i64 plo)) 7 (.int .i64 phi)) 8 (.int .i64 pva)) 9 (.int .i64 0)
    have HB_2 := Lib.hid (below_grown HB_1.out hgr2 (by omega))
    have hw_2 := HB_2.out.size
    have hws_2 := hgr2.size
    have HYx_2 := Lib.hid ((Bytes.grown HYx_1.out (Nat.le_refl _) HS3_1.out rfl hgr2).more hws_2)
    clear HYx_1
    clear hW2
    clear f0_1_0 f0_1_1 f0_1_2 f0_1_3 f0_1_4 f0_1_5 HS0_1 f1_1_0 f1_1_1 f1_1_2 f1_1_3 f1_1_4 f1_1_5 f1_1_6 HS1_1 f2_1_0 f2_1_1 f2_1_2 f2_1_3 f2_1_4 f2_1_5 f2_1_6 HS2_1 f3_1_0 f3_1_1 f3_1_2 f3_1_3 f3_1_4 f3_1_5 f3_1_6 f3_1_7 f3_1_8 f3_1_9 HS3_1 hf3_1
    clear hgr2
    obtain ⟨f0_2_0, f0_2_1, f0_2_2, f0_2_3, f0_2_4, f0_2_5⟩ := str6 HS0_2.out
    have hl0_2 := HS0_2.out.lt
    obtain ⟨f1_2_0, f1_2_1, f1_2_2, f1_2_3, f1_2_4, f1_2_5, f1_2_6⟩ := str7 HS1_2.out
    have hl1_2 := HS1_2.out.lt
    obtain ⟨f2_2_0, f2_2_1, f2_2_2, f2_2_3, f2_2_4, f2_2_5, f2_2_6⟩ := str7 HS2_2.out
    have hl2_2 := HS2_2.out.lt
    obtain ⟨f3_2_0, f3_2_1, f3_2_2, f3_2_3, f3_2_4, f3_2_5, f3_2_6, f3_2_7, f3_2_8, f3_2_9⟩ := str10 HS3_2.out
    have hl3_2 := HS3_2.out.lt
    have hf3_2 := fun j => HS3_2.out.frozen j
    exact bodyPost_ret (v := .agg #[.int .i64 1, .string pk, .int .i64 1, .string pk, .int .i64 pkd, .slice A1 n1 c1, .int .i64 plo, .int .i64 phi, .int .i64 pva, .int .i64 0]) (by simp [results, Try.results40, go_sem, *]) rfl ⟨A1, n1, c1, rfl, HYx_2.out, HB_2.out⟩

set_option maxRecDepth 100000 in
set_option maxHeartbeats 1000000 in
theorem of1_s1n (Ax : Option Addr) (nx cx : Nat) (xk : ByteArray) (xda : List UInt8) (xlo xhi xn : Int) (Ap : Option Addr) (np cp Bp : Nat) (pk : ByteArray) (pkd : Int) (pda : List UInt8) (plo phi pva : Int) (Aq : Option Addr) (nq cq Bq : Nat) (qst : Int) (qk : ByteArray) (qkd : Int) (qda : List UInt8) (qlo qhi qva : Int) (w : World) (hp : Bytes w Bp Ap np cp pda) (hBp : Bp ≤ w.heap.size) (hnp : np ≤ 140737488355328) (hq : Bytes w Bq Aq nq cq qda) (hBq : Bq ≤ w.heap.size) (hnq : nq ≤ 140737488355328) (hk : ¬ pk = xk) : Calls Try.prog 40 #[.agg #[.int .i64 1, .string xk, .slice Ax nx cx, .int .i64 xlo, .int .i64 xhi, .int .i64 xn], .agg #[.int .i64 1, .string pk, .int .i64 pkd, .slice Ap np cp, .int .i64 plo, .int .i64 phi, .int .i64 pva], .agg #[.int .i64 qst, .string qk, .int .i64 qkd, .slice Aq nq cq, .int .i64 qlo, .int .i64 qhi, .int .i64 qva]] w (GivesUndo w (UndoP.of ⟨1, xk, xda, xlo, xhi, xn⟩ ⟨1, pk, ⟨pkd, pda, plo, phi, pva⟩⟩ ⟨qst, qk, ⟨qkd, qda, qlo, qhi, qva⟩⟩)) := by
  rw [UndoP.of_then _ _ _ (by simp) (fun h => hk h.2)]
  have Hp := Lib.hid hp
  have Hq := Lib.hid hq
  clear hp hq
  replace hk := key_ne hk
  go_enter Try.func40, Try.ntmps40
  go_wp2_with fail
  show Code.wp _ _ _ _ (((((w).alloc (.cells #[.int .i64 1, .string xk, .slice Ax nx cx, .int .i64 xlo, .int .i64 xhi, .int .i64 xn] 24)).alloc (.cells #[.int .i64 1, .string pk, .int .i64 pkd, .slice Ap np cp, .int .i64 plo, .int .i64 phi, .int .i64 pva] 54)).alloc (.cells #[.int .i64 2, .string qk, .int .i64 qkd, .slice Aq nq cq, .int .i64 qlo, .int .i64 qhi, .int .i64 qva] 54)).alloc (.cells #[.int .i64 0, .string ⟨#[]⟩, .int .i64 0, .string ⟨#[]⟩, .int .i64 0, .slice none 0 0, .int .i64 0, .int .i64 0, .int .i64 0, .int .i64 0] 62))
  generalize hW0 : ((((w).alloc (.cells #[.int .i64 1, .string xk, .slice Ax nx cx, .int .i64 xlo, .int .i64 xhi, .int .i64 xn] 24)).alloc (.cells #[.int .i64 1, .string pk, .int .i64 pkd, .slice Ap np cp, .int .i64 plo, .int .i64 phi, .int .i64 pva] 54)).alloc (.cells #[.int .i64 2, .string qk, .int .i64 qkd, .slice Aq nq cq, .int .i64 qlo, .int .i64 qhi, .int .i64 qva] 54)).alloc (.cells #[.int .i64 0, .string ⟨#[]⟩, .int .i64 0, .string ⟨#[]⟩, .int .i64 0, .slice none 0 0, .int .i64 0, .int .i64 0, .int .i64 0, .int .i64 0] 62) = W0
  have HS0_0 : Hid (Str W0 (w.heap.size) #[.int .i64 1, .string xk, .slice Ax nx cx, .int .i64 xlo, .int .i64 xhi, .int .i64 xn]) := Lib.hid (by rw [← hW0]; have := (((Str.new (w) #[.int .i64 1, .string xk, .slice Ax nx cx, .int .i64 xlo, .int .i64 xhi, .int .i64 xn] 24).alloc (.cells #[.int .i64 1, .string pk, .int .i64 pkd, .slice Ap np cp, .int .i64 plo, .int .i64 phi, .int .i64 pva] 54)).alloc (.cells #[.int .i64 2, .string qk, .int .i64 qkd, .slice Aq nq cq, .int .i64 qlo, .int .i64 qhi, .int .i64 qva] 54)).alloc (.cells #[.int .i64 0, .string ⟨#[]⟩, .int .i64 0, .string ⟨#[]⟩, .int .i64 0, .slice none 0 0, .int .i64 0, .int .i64 0, .int .i64 0, .int .i64 0] 62); simpa using this)
  have HS1_0 : Hid (Str W0 (w.heap.size + 1) #[.int .i64 1, .string pk, .int .i64 pkd, .slice Ap np cp, .int .i64 plo, .int .i64 phi, .int .i64 pva]) := Lib.hid (by rw [← hW0]; have := ((Str.new ((w).alloc (.cells #[.int .i64 1, .string xk, .slice Ax nx cx, .int .i64 xlo, .int .i64 xhi, .int .i64 xn] 24)) #[.int .i64 1, .string pk, .int .i64 pkd, .slice Ap np cp, .int .i64 plo, .int .i64 phi, .int .i64 pva] 54).alloc (.cells #[.int .i64 2, .string qk, .int .i64 qkd, .slice Aq nq cq, .int .i64 qlo, .int .i64 qhi, .int .i64 qva] 54)).alloc (.cells #[.int .i64 0, .string ⟨#[]⟩, .int .i64 0, .string ⟨#[]⟩, .int .i64 0, .slice none 0 0, .int .i64 0, .int .i64 0, .int .i64 0, .int .i64 0] 62); simpa using this)
  have HS2_0 : Hid (Str W0 (w.heap.size + 1 + 1) #[.int .i64 2, .string qk, .int .i64 qkd, .slice Aq nq cq, .int .i64 qlo, .int .i64 qhi, .int .i64 qva]) := Lib.hid (by rw [← hW0]; have := (Str.new (((w).alloc (.cells #[.int .i64 1, .string xk, .slice Ax nx cx, .int .i64 xlo, .int .i64 xhi, .int .i64 xn] 24)).alloc (.cells #[.int .i64 1, .string pk, .int .i64 pkd, .slice Ap np cp, .int .i64 plo, .int .i64 phi, .int .i64 pva] 54)) #[.int .i64 2, .string qk, .int .i64 qkd, .slice Aq nq cq, .int .i64 qlo, .int .i64 qhi, .int .i64 qva] 54).alloc (.cells #[.int .i64 0, .string ⟨#[]⟩, .int .i64 0, .string ⟨#[]⟩, .int .i64 0, .slice none 0 0, .int .i64 0, .int .i64 0, .int .i64 0, .int .i64 0] 62); simpa using this)
  have HS3_0 : Hid (Str W0 (w.heap.size + 1 + 1 + 1) #[.int .i64 0, .string ⟨#[]⟩, .int .i64 0, .string ⟨#[]⟩, .int .i64 0, .slice none 0 0, .int .i64 0, .int .i64 0, .int .i64 0, .int .i64 0]) := Lib.hid (by rw [← hW0]; have := Str.new ((((w).alloc (.cells #[.int .i64 1, .string xk, .slice Ax nx cx, .int .i64 xlo, .int .i64 xhi, .int .i64 xn] 24)).alloc (.cells #[.int .i64 1, .string pk, .int .i64 pkd, .slice Ap np cp, .int .i64 plo, .int .i64 phi, .int .i64 pva] 54)).alloc (.cells #[.int .i64 2, .string qk, .int .i64 qkd, .slice Aq nq cq, .int .i64 qlo, .int .i64 qhi, .int .i64 qva] 54)) #[.int .i64 0, .string ⟨#[]⟩, .int .i64 0, .string ⟨#[]⟩, .int .i64 0, .slice none 0 0, .int .i64 0, .int .i64 0, .int .i64 0, .int .i64 0] 62; simpa using this)
  have HB_0 : Hid (Below w.heap.size w W0) := Lib.hid (by rw [← hW0]; exact balloc (balloc (balloc (balloc (bsame w) _) _) _) _)
  have hw_0 := HB_0.out.size
  clear hW0
  obtain ⟨f0_0_0, f0_0_1, f0_0_2, f0_0_3, f0_0_4, f0_0_5⟩ := str6 HS0_0.out
  have hl0_0 := HS0_0.out.lt
  obtain ⟨f1_0_0, f1_0_1, f1_0_2, f1_0_3, f1_0_4, f1_0_5, f1_0_6⟩ := str7 HS1_0.out
  have hl1_0 := HS1_0.out.lt
  obtain ⟨f2_0_0, f2_0_1, f2_0_2, f2_0_3, f2_0_4, f2_0_5, f2_0_6⟩ := str7 HS2_0.out
  have hl2_0 := HS2_0.out.lt
  obtain ⟨f3_0_0, f3_0_1, f3_0_2, f3_0_3, f3_0_4, f3_0_5, f3_0_6, f3_0_7, f3_0_8, f3_0_9⟩ := str10 HS3_0.out
  have hl3_0 := HS3_0.out.lt
  have hf3_0 := fun j => HS3_0.out.frozen j
  refine Reg.wp_region_tail (R := ext) (W := W0) [Reg.eqv (.pointer (some ⟨w.heap.size, 1, none⟩)), Reg.eqv (.string xk), Reg.eqv (.agg #[.int .i64 2, .string qk, .int .i64 qkd, .slice Aq nq cq, .int .i64 qlo, .int .i64 qhi, .int .i64 qva]), Reg.itemS ⟨2, qk, ⟨qkd, qda, qlo, qhi, qva⟩⟩, Reg.undoS ⟨1, xk, ⟨2, qk, ⟨qkd, qda, qlo, qhi, qva⟩⟩, 0⟩] 56 5 _ [[(3, none)], [(40, some 0)], [(5, none)], [(42, some 2)], [(41, some 1), (43, some 3)]] rfl (by kernel_rfl) (by kernel_rfl) (by rfl) (by rfl) rfl (by kernel_rfl) ?_ [some 40, some 41, some 42, some 43, some 44] (by kernel_rfl) ?_
  · refine ⟨?_, ?_, ?_, ?_, ?_, trivial⟩
    · intro ax wx hx hs
      obtain ⟨e3, -⟩ := hs
      have g3 := Reg.ev (v := .pointer (some ⟨w.heap.size, 0, none⟩)) e3
      exact Reg.obl_free rfl (Reg.wp_eqv (Option.some_ne_none _) (by go_simp) rfl)
    · intro ax wx hx hs
      obtain ⟨e40, -⟩ := hs
      have g40 := Reg.ev (v := .pointer (some ⟨w.heap.size, 1, none⟩)) e40
      obtain ⟨hc, -⟩ := bcell hx
      exact Reg.obl_free rfl (Reg.wp_eqv (Option.some_ne_none _) (by go_simp) rfl)
    · intro ax wx hx hs
      obtain ⟨e5, -⟩ := hs
      have g5 := Reg.ev (v := .pointer (some ⟨w.heap.size + 1 + 1, 0, none⟩)) e5
      obtain ⟨hc, -⟩ := bcell hx
      exact Reg.obl_free rfl (Reg.wp_eqv (Option.some_ne_none _) (by go_simp) rfl)
    · intro ax wx hx hs
      obtain ⟨e42, -⟩ := hs
      have g42 := Reg.ev (v := .agg #[.int .i64 2, .string qk, .int .i64 qkd, .slice Aq nq cq, .int .i64 qlo, .int .i64 qhi, .int .i64 qva]) e42
      refine Reg.obl_free rfl ?_
      have hx' : Below W0.heap.size W0 wx := hx
      have hsz := (bstep HB_0.out hx').size
      go_simp
      refine (own_any _ _ _ Bq _ _ _ qda _ _ _ _ (Hq.out.below ((bstep HB_0.out hx').mono hBq)) (by omega) hnq).mono ?_
      rintro e wy ⟨A1, n1, c1, rfl, hy1, hby⟩
      exact Reg.done (Option.some_ne_none _) ⟨A1, n1, c1, rfl, hy1⟩ hby
    · intro ax wx hx hs
      obtain ⟨e41, e43, -⟩ := hs
      have g41 := Reg.ev (v := .string xk) e41
      refine Reg.obl_free rfl ?_
      obtain ⟨A1, n1, c1, e43, hy1⟩ := e43
      have g43 := Reg.ev e43
      exact Reg.wp_same (Option.some_ne_none _) (by go_simp) ⟨A1, n1, c1, rfl, hy1⟩
  · intro W1 hwf
    simp only [Reg.Fin]
    rintro _ rfl _ rfl _ rfl v43 h43 v44 h44
    obtain ⟨A1, n1, c1, rfl, hy1⟩ := h44
    clear h43
    have hwf' : Below W0.heap.size W0 W1 := hwf
    clear hwf
    have HS0_1 := Lib.hid (HS0_0.out.next hwf')
    have HS1_1 := Lib.hid (HS1_0.out.next hwf')
    have HS2_1 := Lib.hid (HS2_0.out.next hwf')
    have HS3_1 := Lib.hid (HS3_0.out.next hwf')
    have HB_1 := Lib.hid (bstep HB_0.out hwf')
    have hw_1 := HB_1.out.size
    have hws_1 := (hwf').size
    clear f0_0_0 f0_0_1 f0_0_2 f0_0_3 f0_0_4 f0_0_5 HS0_0 f1_0_0 f1_0_1 f1_0_2 f1_0_3 f1_0_4 f1_0_5 f1_0_6 HS1_0 f2_0_0 f2_0_1 f2_0_2 f2_0_3 f2_0_4 f2_0_5 f2_0_6 HS2_0 f3_0_0 f3_0_1 f3_0_2 f3_0_3 f3_0_4 f3_0_5 f3_0_6 f3_0_7 f3_0_8 f3_0_9 HS3_0 hf3_0
    clear hwf'
    obtain ⟨f0_1_0, f0_1_1, f0_1_2, f0_1_3, f0_1_4, f0_1_5⟩ := str6 HS0_1.out
    have hl0_1 := HS0_1.out.lt
    obtain ⟨f1_1_0, f1_1_1, f1_1_2, f1_1_3, f1_1_4, f1_1_5, f1_1_6⟩ := str7 HS1_1.out
    have hl1_1 := HS1_1.out.lt
    obtain ⟨f2_1_0, f2_1_1, f2_1_2, f2_1_3, f2_1_4, f2_1_5, f2_1_6⟩ := str7 HS2_1.out
    have hl2_1 := HS2_1.out.lt
    obtain ⟨f3_1_0, f3_1_1, f3_1_2, f3_1_3, f3_1_4, f3_1_5, f3_1_6, f3_1_7, f3_1_8, f3_1_9⟩ := str10 HS3_1.out
    have hl3_1 := HS3_1.out.lt
    have hf3_1 := fun j => HS3_1.out.frozen j
    have HYx_1 := Lib.hid (hy1)
    clear hy1
    refine Reg.Goal.mk ?_
    go_simp
    go_wp2_with fail
    generalize hW2 : ((((((((((W1).setCell ⟨w.heap.size + 1 + 1 + 1, 0, none⟩ (.int .i64 1)).setCell ⟨w.heap.size + 1 + 1 + 1, 1, none⟩ (.string xk)).setCell ⟨w.heap.size + 1 + 1 + 1, 2, none⟩ (.int .i64 2)).setCell ⟨w.heap.size + 1 + 1 + 1, 3, none⟩ (.string qk)).setCell ⟨w.heap.size + 1 + 1 + 1, 4, none⟩ (.int .i64 qkd)).setCell ⟨w.heap.size + 1 + 1 + 1, 5, none⟩ (.slice A1 n1 c1)).setCell ⟨w.heap.size + 1 + 1 + 1, 6, none⟩ (.int .i64 qlo)).setCell ⟨w.heap.size + 1 + 1 + 1, 7, none⟩ (.int .i64 qhi)).setCell ⟨w.heap.size + 1 + 1 + 1, 8, none⟩ (.int .i64 qva)).setCell ⟨w.heap.size + 1 + 1 + 1, 9, none⟩ (.int .i64 0) = W2
    have HS0_2 : Hid (Str W2 (w.heap.size) #[.int .i64 1, .string xk, .slice Ax nx cx, .int .i64 xlo, .int .i64 xhi, .int .i64 xn]) := Lib.hid (by rw [← hW2]; exact ((((((((((HS0_1.out).other 0 _ (by omega)).other 1 _ (by omega)).other 2 _ (by omega)).other 3 _ (by omega)).other 4 _ (by omega)).other 5 _ (by omega)).other 6 _ (by omega)).other 7 _ (by omega)).other 8 _ (by omega)).other 9 _ (by omega))
    have HS1_2 : Hid (Str W2 (w.heap.size + 1) #[.int .i64 1, .string pk, .int .i64 pkd, .slice Ap np cp, .int .i64 plo, .int .i64 phi, .int .i64 pva]) := Lib.hid (by rw [← hW2]; exact ((((((((((HS1_1.out).other 0 _ (by omega)).other 1 _ (by omega)).other 2 _ (by omega)).other 3 _ (by omega)).other 4 _ (by omega)).other 5 _ (by omega)).other 6 _ (by omega)).other 7 _ (by omega)).other 8 _ (by omega)).other 9 _ (by omega))
    have HS2_2 : Hid (Str W2 (w.heap.size + 1 + 1) #[.int .i64 2, .string qk, .int .i64 qkd, .slice Aq nq cq, .int .i64 qlo, .int .i64 qhi, .int .i64 qva]) := Lib.hid (by rw [← hW2]; exact ((((((((((HS2_1.out).other 0 _ (by omega)).other 1 _ (by omega)).other 2 _ (by omega)).other 3 _ (by omega)).other 4 _ (by omega)).other 5 _ (by omega)).other 6 _ (by omega)).other 7 _ (by omega)).other 8 _ (by omega)).other 9 _ (by omega))
    have HS3_2 : Hid (Str W2 (w.heap.size + 1 + 1 + 1) #[.int .i64 1, .string xk, .int .i64 2, .string qk, .int .i64 qkd, .slice A1 n1 c1, .int .i64 qlo, .int .i64 qhi, .int .i64 qva, .int .i64 0]) := Lib.hid (by rw [← hW2]; have := ((((((((((HS3_1.out).set 0 (.int .i64 1)).set 1 (.string xk)).set 2 (.int .i64 2)).set 3 (.string qk)).set 4 (.int .i64 qkd)).set 5 (.slice A1 n1 c1)).set 6 (.int .i64 qlo)).set 7 (.int .i64 qhi)).set 8 (.int .i64 qva)).set 9 (.int .i64 0); simpa using this)
    have hgr2 : W1.grownBy W2 (some (w.heap.size + 1 + 1 + 1)) := by rw [← hW2]; exact grown_set (grown_set (grown_set (grown_set (grown_set (grown_set (grown_set (grown_set (grown_set (grown_set (grown_refl W1 (w.heap.size + 1 + 1 + 1)) 0 (.int .i64 1)) 1 (.string xk)) 2 (.int .i64 2)) 3 (.string qk)) 4 (.int .i64 qkd)) 5 (.slice A1 n1 c1)) 6 (.int .i64 qlo)) 7 (.int .i64 qhi)) 8 (.int .i64 qva)) 9 (.int .i64 0)
    have HB_2 := Lib.hid (below_grown HB_1.out hgr2 (by omega))
    have hw_2 := HB_2.out.size
    have hws_2 := hgr2.size
    have HYx_2 := Lib.hid ((Bytes.grown HYx_1.out (Nat.le_refl _) HS3_1.out rfl hgr2).more hws_2)
    clear HYx_1
    clear hW2
    clear f0_1_0 f0_1_1 f0_1_2 f0_1_3 f0_1_4 f0_1_5 HS0_1 f1_1_0 f1_1_1 f1_1_2 f1_1_3 f1_1_4 f1_1_5 f1_1_6 HS1_1 f2_1_0 f2_1_1 f2_1_2 f2_1_3 f2_1_4 f2_1_5 f2_1_6 HS2_1 f3_1_0 f3_1_1 f3_1_2 f3_1_3 f3_1_4 f3_1_5 f3_1_6 f3_1_7 f3_1_8 f3_1_9 HS3_1 hf3_1
    clear hgr2
    obtain ⟨f0_2_0, f0_2_1, f0_2_2, f0_2_3, f0_2_4, f0_2_5⟩ := str6 HS0_2.out
    have hl0_2 := HS0_2.out.lt
    obtain ⟨f1_2_0, f1_2_1, f1_2_2, f1_2_3, f1_2_4, f1_2_5, f1_2_6⟩ := str7 HS1_2.out
    have hl1_2 := HS1_2.out.lt
    obtain ⟨f2_2_0, f2_2_1, f2_2_2, f2_2_3, f2_2_4, f2_2_5, f2_2_6⟩ := str7 HS2_2.out
    have hl2_2 := HS2_2.out.lt
    obtain ⟨f3_2_0, f3_2_1, f3_2_2, f3_2_3, f3_2_4, f3_2_5, f3_2_6, f3_2_7, f3_2_8, f3_2_9⟩ := str10 HS3_2.out
    have hl3_2 := HS3_2.out.lt
    have hf3_2 := fun j => HS3_2.out.frozen j
    exact bodyPost_ret (v := .agg #[.int .i64 1, .string xk, .int .i64 2, .string qk, .int .i64 qkd, .slice A1 n1 c1, .int .i64 qlo, .int .i64 qhi, .int .i64 qva, .int .i64 0]) (by simp [results, Try.results40, go_sem, *]) rfl ⟨A1, n1, c1, rfl, HYx_2.out, HB_2.out⟩

set_option maxRecDepth 100000 in
set_option maxHeartbeats 1000000 in
theorem of1_s2k (Ax : Option Addr) (nx cx : Nat) (xda : List UInt8) (xlo xhi xn : Int) (Ap : Option Addr) (np cp Bp : Nat) (pk : ByteArray) (pkd : Int) (pda : List UInt8) (plo phi pva : Int) (Aq : Option Addr) (nq cq Bq : Nat) (qst : Int) (qk : ByteArray) (qkd : Int) (qda : List UInt8) (qlo qhi qva : Int) (w : World) (hp : Bytes w Bp Ap np cp pda) (hBp : Bp ≤ w.heap.size) (hnp : np ≤ 140737488355328) (hq : Bytes w Bq Aq nq cq qda) (hBq : Bq ≤ w.heap.size) (hnq : nq ≤ 140737488355328)  : Calls Try.prog 40 #[.agg #[.int .i64 1, .string pk, .slice Ax nx cx, .int .i64 xlo, .int .i64 xhi, .int .i64 xn], .agg #[.int .i64 2, .string pk, .int .i64 pkd, .slice Ap np cp, .int .i64 plo, .int .i64 phi, .int .i64 pva], .agg #[.int .i64 qst, .string qk, .int .i64 qkd, .slice Aq nq cq, .int .i64 qlo, .int .i64 qhi, .int .i64 qva]] w (GivesUndo w (UndoP.of ⟨1, pk, xda, xlo, xhi, xn⟩ ⟨2, pk, ⟨pkd, pda, plo, phi, pva⟩⟩ ⟨qst, qk, ⟨qkd, qda, qlo, qhi, qva⟩⟩)) := by
  rw [UndoP.of_was _ _ _ (by simp) ⟨.inr rfl, rfl⟩]
  have Hp := Lib.hid hp
  have Hq := Lib.hid hq
  clear hp hq
  go_enter Try.func40, Try.ntmps40
  go_wp2_with fail
  generalize hW0 : ((((w).alloc (.cells #[.int .i64 1, .string pk, .slice Ax nx cx, .int .i64 xlo, .int .i64 xhi, .int .i64 xn] 24)).alloc (.cells #[.int .i64 2, .string pk, .int .i64 pkd, .slice Ap np cp, .int .i64 plo, .int .i64 phi, .int .i64 pva] 54)).alloc (.cells #[.int .i64 qst, .string qk, .int .i64 qkd, .slice Aq nq cq, .int .i64 qlo, .int .i64 qhi, .int .i64 qva] 54)).alloc (.cells #[.int .i64 0, .string ⟨#[]⟩, .int .i64 0, .string ⟨#[]⟩, .int .i64 0, .slice none 0 0, .int .i64 0, .int .i64 0, .int .i64 0, .int .i64 0] 62) = W0
  have HS0_0 : Hid (Str W0 (w.heap.size) #[.int .i64 1, .string pk, .slice Ax nx cx, .int .i64 xlo, .int .i64 xhi, .int .i64 xn]) := Lib.hid (by rw [← hW0]; have := (((Str.new (w) #[.int .i64 1, .string pk, .slice Ax nx cx, .int .i64 xlo, .int .i64 xhi, .int .i64 xn] 24).alloc (.cells #[.int .i64 2, .string pk, .int .i64 pkd, .slice Ap np cp, .int .i64 plo, .int .i64 phi, .int .i64 pva] 54)).alloc (.cells #[.int .i64 qst, .string qk, .int .i64 qkd, .slice Aq nq cq, .int .i64 qlo, .int .i64 qhi, .int .i64 qva] 54)).alloc (.cells #[.int .i64 0, .string ⟨#[]⟩, .int .i64 0, .string ⟨#[]⟩, .int .i64 0, .slice none 0 0, .int .i64 0, .int .i64 0, .int .i64 0, .int .i64 0] 62); simpa using this)
  have HS1_0 : Hid (Str W0 (w.heap.size + 1) #[.int .i64 2, .string pk, .int .i64 pkd, .slice Ap np cp, .int .i64 plo, .int .i64 phi, .int .i64 pva]) := Lib.hid (by rw [← hW0]; have := ((Str.new ((w).alloc (.cells #[.int .i64 1, .string pk, .slice Ax nx cx, .int .i64 xlo, .int .i64 xhi, .int .i64 xn] 24)) #[.int .i64 2, .string pk, .int .i64 pkd, .slice Ap np cp, .int .i64 plo, .int .i64 phi, .int .i64 pva] 54).alloc (.cells #[.int .i64 qst, .string qk, .int .i64 qkd, .slice Aq nq cq, .int .i64 qlo, .int .i64 qhi, .int .i64 qva] 54)).alloc (.cells #[.int .i64 0, .string ⟨#[]⟩, .int .i64 0, .string ⟨#[]⟩, .int .i64 0, .slice none 0 0, .int .i64 0, .int .i64 0, .int .i64 0, .int .i64 0] 62); simpa using this)
  have HS2_0 : Hid (Str W0 (w.heap.size + 1 + 1) #[.int .i64 qst, .string qk, .int .i64 qkd, .slice Aq nq cq, .int .i64 qlo, .int .i64 qhi, .int .i64 qva]) := Lib.hid (by rw [← hW0]; have := (Str.new (((w).alloc (.cells #[.int .i64 1, .string pk, .slice Ax nx cx, .int .i64 xlo, .int .i64 xhi, .int .i64 xn] 24)).alloc (.cells #[.int .i64 2, .string pk, .int .i64 pkd, .slice Ap np cp, .int .i64 plo, .int .i64 phi, .int .i64 pva] 54)) #[.int .i64 qst, .string qk, .int .i64 qkd, .slice Aq nq cq, .int .i64 qlo, .int .i64 qhi, .int .i64 qva] 54).alloc (.cells #[.int .i64 0, .string ⟨#[]⟩, .int .i64 0, .string ⟨#[]⟩, .int .i64 0, .slice none 0 0, .int .i64 0, .int .i64 0, .int .i64 0, .int .i64 0] 62); simpa using this)
  have HS3_0 : Hid (Str W0 (w.heap.size + 1 + 1 + 1) #[.int .i64 0, .string ⟨#[]⟩, .int .i64 0, .string ⟨#[]⟩, .int .i64 0, .slice none 0 0, .int .i64 0, .int .i64 0, .int .i64 0, .int .i64 0]) := Lib.hid (by rw [← hW0]; have := Str.new ((((w).alloc (.cells #[.int .i64 1, .string pk, .slice Ax nx cx, .int .i64 xlo, .int .i64 xhi, .int .i64 xn] 24)).alloc (.cells #[.int .i64 2, .string pk, .int .i64 pkd, .slice Ap np cp, .int .i64 plo, .int .i64 phi, .int .i64 pva] 54)).alloc (.cells #[.int .i64 qst, .string qk, .int .i64 qkd, .slice Aq nq cq, .int .i64 qlo, .int .i64 qhi, .int .i64 qva] 54)) #[.int .i64 0, .string ⟨#[]⟩, .int .i64 0, .string ⟨#[]⟩, .int .i64 0, .slice none 0 0, .int .i64 0, .int .i64 0, .int .i64 0, .int .i64 0] 62; simpa using this)
  have HB_0 : Hid (Below w.heap.size w W0) := Lib.hid (by rw [← hW0]; exact balloc (balloc (balloc (balloc (bsame w) _) _) _) _)
  have hw_0 := HB_0.out.size
  clear hW0
  obtain ⟨f0_0_0, f0_0_1, f0_0_2, f0_0_3, f0_0_4, f0_0_5⟩ := str6 HS0_0.out
  have hl0_0 := HS0_0.out.lt
  obtain ⟨f1_0_0, f1_0_1, f1_0_2, f1_0_3, f1_0_4, f1_0_5, f1_0_6⟩ := str7 HS1_0.out
  have hl1_0 := HS1_0.out.lt
  obtain ⟨f2_0_0, f2_0_1, f2_0_2, f2_0_3, f2_0_4, f2_0_5, f2_0_6⟩ := str7 HS2_0.out
  have hl2_0 := HS2_0.out.lt
  obtain ⟨f3_0_0, f3_0_1, f3_0_2, f3_0_3, f3_0_4, f3_0_5, f3_0_6, f3_0_7, f3_0_8, f3_0_9⟩ := str10 HS3_0.out
  have hl3_0 := HS3_0.out.lt
  have hf3_0 := fun j => HS3_0.out.frozen j
  refine Reg.wp_region_tail (R := ext) (W := W0) [Reg.eqv (.pointer (some ⟨w.heap.size, 1, none⟩)), Reg.eqv (.string pk), Reg.eqv (.agg #[.int .i64 2, .string pk, .int .i64 pkd, .slice Ap np cp, .int .i64 plo, .int .i64 phi, .int .i64 pva]), Reg.itemS ⟨2, pk, ⟨pkd, pda, plo, phi, pva⟩⟩, Reg.undoS ⟨1, pk, ⟨2, pk, ⟨pkd, pda, plo, phi, pva⟩⟩, 0⟩] 56 5 _ [[(3, none)], [(34, some 0)], [(4, none)], [(36, some 2)], [(35, some 1), (37, some 3)]] rfl (by kernel_rfl) (by kernel_rfl) (by rfl) (by rfl) rfl (by kernel_rfl) ?_ [some 34, some 35, some 36, some 37, some 38] (by kernel_rfl) ?_
  · refine ⟨?_, ?_, ?_, ?_, ?_, trivial⟩
    · intro ax wx hx hs
      obtain ⟨e3, -⟩ := hs
      have g3 := Reg.ev (v := .pointer (some ⟨w.heap.size, 0, none⟩)) e3
      exact Reg.obl_free rfl (Reg.wp_eqv (Option.some_ne_none _) (by go_simp) rfl)
    · intro ax wx hx hs
      obtain ⟨e34, -⟩ := hs
      have g34 := Reg.ev (v := .pointer (some ⟨w.heap.size, 1, none⟩)) e34
      obtain ⟨hc, -⟩ := bcell hx
      exact Reg.obl_free rfl (Reg.wp_eqv (Option.some_ne_none _) (by go_simp) rfl)
    · intro ax wx hx hs
      obtain ⟨e4, -⟩ := hs
      have g4 := Reg.ev (v := .pointer (some ⟨w.heap.size + 1, 0, none⟩)) e4
      obtain ⟨hc, -⟩ := bcell hx
      exact Reg.obl_free rfl (Reg.wp_eqv (Option.some_ne_none _) (by go_simp) rfl)
    · intro ax wx hx hs
      obtain ⟨e36, -⟩ := hs
      have g36 := Reg.ev (v := .agg #[.int .i64 2, .string pk, .int .i64 pkd, .slice Ap np cp, .int .i64 plo, .int .i64 phi, .int .i64 pva]) e36
      refine Reg.obl_free rfl ?_
      have hx' : Below W0.heap.size W0 wx := hx
      have hsz := (bstep HB_0.out hx').size
      go_simp
      refine (own_any _ _ _ Bp _ _ _ pda _ _ _ _ (Hp.out.below ((bstep HB_0.out hx').mono hBp)) (by omega) hnp).mono ?_
      rintro e wy ⟨A1, n1, c1, rfl, hy1, hby⟩
      exact Reg.done (Option.some_ne_none _) ⟨A1, n1, c1, rfl, hy1⟩ hby
    · intro ax wx hx hs
      obtain ⟨e35, e37, -⟩ := hs
      have g35 := Reg.ev (v := .string pk) e35
      refine Reg.obl_free rfl ?_
      obtain ⟨A1, n1, c1, e37, hy1⟩ := e37
      have g37 := Reg.ev e37
      exact Reg.wp_same (Option.some_ne_none _) (by go_simp) ⟨A1, n1, c1, rfl, hy1⟩
  · intro W1 hwf
    simp only [Reg.Fin]
    rintro _ rfl _ rfl _ rfl v37 h37 v38 h38
    obtain ⟨A1, n1, c1, rfl, hy1⟩ := h38
    clear h37
    have hwf' : Below W0.heap.size W0 W1 := hwf
    clear hwf
    have HS0_1 := Lib.hid (HS0_0.out.next hwf')
    have HS1_1 := Lib.hid (HS1_0.out.next hwf')
    have HS2_1 := Lib.hid (HS2_0.out.next hwf')
    have HS3_1 := Lib.hid (HS3_0.out.next hwf')
    have HB_1 := Lib.hid (bstep HB_0.out hwf')
    have hw_1 := HB_1.out.size
    have hws_1 := (hwf').size
    clear f0_0_0 f0_0_1 f0_0_2 f0_0_3 f0_0_4 f0_0_5 HS0_0 f1_0_0 f1_0_1 f1_0_2 f1_0_3 f1_0_4 f1_0_5 f1_0_6 HS1_0 f2_0_0 f2_0_1 f2_0_2 f2_0_3 f2_0_4 f2_0_5 f2_0_6 HS2_0 f3_0_0 f3_0_1 f3_0_2 f3_0_3 f3_0_4 f3_0_5 f3_0_6 f3_0_7 f3_0_8 f3_0_9 HS3_0 hf3_0
    clear hwf'
    obtain ⟨f0_1_0, f0_1_1, f0_1_2, f0_1_3, f0_1_4, f0_1_5⟩ := str6 HS0_1.out
    have hl0_1 := HS0_1.out.lt
    obtain ⟨f1_1_0, f1_1_1, f1_1_2, f1_1_3, f1_1_4, f1_1_5, f1_1_6⟩ := str7 HS1_1.out
    have hl1_1 := HS1_1.out.lt
    obtain ⟨f2_1_0, f2_1_1, f2_1_2, f2_1_3, f2_1_4, f2_1_5, f2_1_6⟩ := str7 HS2_1.out
    have hl2_1 := HS2_1.out.lt
    obtain ⟨f3_1_0, f3_1_1, f3_1_2, f3_1_3, f3_1_4, f3_1_5, f3_1_6, f3_1_7, f3_1_8, f3_1_9⟩ := str10 HS3_1.out
    have hl3_1 := HS3_1.out.lt
    have hf3_1 := fun j => HS3_1.out.frozen j
    have HYx_1 := Lib.hid (hy1)
    clear hy1
    refine Reg.Goal.mk ?_
    go_simp
    go_wp2_with fail
    generalize hW2 : ((((((((((W1).setCell ⟨w.heap.size + 1 + 1 + 1, 0, none⟩ (.int .i64 1)).setCell ⟨w.heap.size + 1 + 1 + 1, 1, none⟩ (.string pk)).setCell ⟨w.heap.size + 1 + 1 + 1, 2, none⟩ (.int .i64 2)).setCell ⟨w.heap.size + 1 + 1 + 1, 3, none⟩ (.string pk)).setCell ⟨w.heap.size + 1 + 1 + 1, 4, none⟩ (.int .i64 pkd)).setCell ⟨w.heap.size + 1 + 1 + 1, 5, none⟩ (.slice A1 n1 c1)).setCell ⟨w.heap.size + 1 + 1 + 1, 6, none⟩ (.int .i64 plo)).setCell ⟨w.heap.size + 1 + 1 + 1, 7, none⟩ (.int .i64 phi)).setCell ⟨w.heap.size + 1 + 1 + 1, 8, none⟩ (.int .i64 pva)).setCell ⟨w.heap.size + 1 + 1 + 1, 9, none⟩ (.int .i64 0) = W2
    have HS0_2 : Hid (Str W2 (w.heap.size) #[.int .i64 1, .string pk, .slice Ax nx cx, .int .i64 xlo, .int .i64 xhi, .int .i64 xn]) := Lib.hid (by rw [← hW2]; exact ((((((((((HS0_1.out).other 0 _ (by omega)).other 1 _ (by omega)).other 2 _ (by omega)).other 3 _ (by omega)).other 4 _ (by omega)).other 5 _ (by omega)).other 6 _ (by omega)).other 7 _ (by omega)).other 8 _ (by omega)).other 9 _ (by omega))
    have HS1_2 : Hid (Str W2 (w.heap.size + 1) #[.int .i64 2, .string pk, .int .i64 pkd, .slice Ap np cp, .int .i64 plo, .int .i64 phi, .int .i64 pva]) := Lib.hid (by rw [← hW2]; exact ((((((((((HS1_1.out).other 0 _ (by omega)).other 1 _ (by omega)).other 2 _ (by omega)).other 3 _ (by omega)).other 4 _ (by omega)).other 5 _ (by omega)).other 6 _ (by omega)).other 7 _ (by omega)).other 8 _ (by omega)).other 9 _ (by omega))
    have HS2_2 : Hid (Str W2 (w.heap.size + 1 + 1) #[.int .i64 qst, .string qk, .int .i64 qkd, .slice Aq nq cq, .int .i64 qlo, .int .i64 qhi, .int .i64 qva]) := Lib.hid (by rw [← hW2]; exact ((((((((((HS2_1.out).other 0 _ (by omega)).other 1 _ (by omega)).other 2 _ (by omega)).other 3 _ (by omega)).other 4 _ (by omega)).other 5 _ (by omega)).other 6 _ (by omega)).other 7 _ (by omega)).other 8 _ (by omega)).other 9 _ (by omega))
    have HS3_2 : Hid (Str W2 (w.heap.size + 1 + 1 + 1) #[.int .i64 1, .string pk, .int .i64 2, .string pk, .int .i64 pkd, .slice A1 n1 c1, .int .i64 plo, .int .i64 phi, .int .i64 pva, .int .i64 0]) := Lib.hid (by rw [← hW2]; have := ((((((((((HS3_1.out).set 0 (.int .i64 1)).set 1 (.string pk)).set 2 (.int .i64 2)).set 3 (.string pk)).set 4 (.int .i64 pkd)).set 5 (.slice A1 n1 c1)).set 6 (.int .i64 plo)).set 7 (.int .i64 phi)).set 8 (.int .i64 pva)).set 9 (.int .i64 0); simpa using this)
    have hgr2 : W1.grownBy W2 (some (w.heap.size + 1 + 1 + 1)) := by rw [← hW2]; exact grown_set (grown_set (grown_set (grown_set (grown_set (grown_set (grown_set (grown_set (grown_set (grown_set (grown_refl W1 (w.heap.size + 1 + 1 + 1)) 0 (.int .i64 1)) 1 (.string pk)) 2 (.int .i64 2)) 3 (.string pk)) 4 (.int .i64 pkd)) 5 (.slice A1 n1 c1)) 6 (.int .i64 plo)) 7 (.int .i64 phi)) 8 (.int .i64 pva)) 9 (.int .i64 0)
    have HB_2 := Lib.hid (below_grown HB_1.out hgr2 (by omega))
    have hw_2 := HB_2.out.size
    have hws_2 := hgr2.size
    have HYx_2 := Lib.hid ((Bytes.grown HYx_1.out (Nat.le_refl _) HS3_1.out rfl hgr2).more hws_2)
    clear HYx_1
    clear hW2
    clear f0_1_0 f0_1_1 f0_1_2 f0_1_3 f0_1_4 f0_1_5 HS0_1 f1_1_0 f1_1_1 f1_1_2 f1_1_3 f1_1_4 f1_1_5 f1_1_6 HS1_1 f2_1_0 f2_1_1 f2_1_2 f2_1_3 f2_1_4 f2_1_5 f2_1_6 HS2_1 f3_1_0 f3_1_1 f3_1_2 f3_1_3 f3_1_4 f3_1_5 f3_1_6 f3_1_7 f3_1_8 f3_1_9 HS3_1 hf3_1
    clear hgr2
    obtain ⟨f0_2_0, f0_2_1, f0_2_2, f0_2_3, f0_2_4, f0_2_5⟩ := str6 HS0_2.out
    have hl0_2 := HS0_2.out.lt
    obtain ⟨f1_2_0, f1_2_1, f1_2_2, f1_2_3, f1_2_4, f1_2_5, f1_2_6⟩ := str7 HS1_2.out
    have hl1_2 := HS1_2.out.lt
    obtain ⟨f2_2_0, f2_2_1, f2_2_2, f2_2_3, f2_2_4, f2_2_5, f2_2_6⟩ := str7 HS2_2.out
    have hl2_2 := HS2_2.out.lt
    obtain ⟨f3_2_0, f3_2_1, f3_2_2, f3_2_3, f3_2_4, f3_2_5, f3_2_6, f3_2_7, f3_2_8, f3_2_9⟩ := str10 HS3_2.out
    have hl3_2 := HS3_2.out.lt
    have hf3_2 := fun j => HS3_2.out.frozen j
    exact bodyPost_ret (v := .agg #[.int .i64 1, .string pk, .int .i64 2, .string pk, .int .i64 pkd, .slice A1 n1 c1, .int .i64 plo, .int .i64 phi, .int .i64 pva, .int .i64 0]) (by simp [results, Try.results40, go_sem, *]) rfl ⟨A1, n1, c1, rfl, HYx_2.out, HB_2.out⟩

set_option maxRecDepth 100000 in
set_option maxHeartbeats 1000000 in
theorem of1_s2n (Ax : Option Addr) (nx cx : Nat) (xk : ByteArray) (xda : List UInt8) (xlo xhi xn : Int) (Ap : Option Addr) (np cp Bp : Nat) (pk : ByteArray) (pkd : Int) (pda : List UInt8) (plo phi pva : Int) (Aq : Option Addr) (nq cq Bq : Nat) (qst : Int) (qk : ByteArray) (qkd : Int) (qda : List UInt8) (qlo qhi qva : Int) (w : World) (hp : Bytes w Bp Ap np cp pda) (hBp : Bp ≤ w.heap.size) (hnp : np ≤ 140737488355328) (hq : Bytes w Bq Aq nq cq qda) (hBq : Bq ≤ w.heap.size) (hnq : nq ≤ 140737488355328) (hk : ¬ pk = xk) : Calls Try.prog 40 #[.agg #[.int .i64 1, .string xk, .slice Ax nx cx, .int .i64 xlo, .int .i64 xhi, .int .i64 xn], .agg #[.int .i64 2, .string pk, .int .i64 pkd, .slice Ap np cp, .int .i64 plo, .int .i64 phi, .int .i64 pva], .agg #[.int .i64 qst, .string qk, .int .i64 qkd, .slice Aq nq cq, .int .i64 qlo, .int .i64 qhi, .int .i64 qva]] w (GivesUndo w (UndoP.of ⟨1, xk, xda, xlo, xhi, xn⟩ ⟨2, pk, ⟨pkd, pda, plo, phi, pva⟩⟩ ⟨qst, qk, ⟨qkd, qda, qlo, qhi, qva⟩⟩)) := by
  rw [UndoP.of_then _ _ _ (by simp) (fun h => hk h.2)]
  have Hp := Lib.hid hp
  have Hq := Lib.hid hq
  clear hp hq
  replace hk := key_ne hk
  go_enter Try.func40, Try.ntmps40
  go_wp2_with fail
  show Code.wp _ _ _ _ (((((w).alloc (.cells #[.int .i64 1, .string xk, .slice Ax nx cx, .int .i64 xlo, .int .i64 xhi, .int .i64 xn] 24)).alloc (.cells #[.int .i64 2, .string pk, .int .i64 pkd, .slice Ap np cp, .int .i64 plo, .int .i64 phi, .int .i64 pva] 54)).alloc (.cells #[.int .i64 2, .string qk, .int .i64 qkd, .slice Aq nq cq, .int .i64 qlo, .int .i64 qhi, .int .i64 qva] 54)).alloc (.cells #[.int .i64 0, .string ⟨#[]⟩, .int .i64 0, .string ⟨#[]⟩, .int .i64 0, .slice none 0 0, .int .i64 0, .int .i64 0, .int .i64 0, .int .i64 0] 62))
  generalize hW0 : ((((w).alloc (.cells #[.int .i64 1, .string xk, .slice Ax nx cx, .int .i64 xlo, .int .i64 xhi, .int .i64 xn] 24)).alloc (.cells #[.int .i64 2, .string pk, .int .i64 pkd, .slice Ap np cp, .int .i64 plo, .int .i64 phi, .int .i64 pva] 54)).alloc (.cells #[.int .i64 2, .string qk, .int .i64 qkd, .slice Aq nq cq, .int .i64 qlo, .int .i64 qhi, .int .i64 qva] 54)).alloc (.cells #[.int .i64 0, .string ⟨#[]⟩, .int .i64 0, .string ⟨#[]⟩, .int .i64 0, .slice none 0 0, .int .i64 0, .int .i64 0, .int .i64 0, .int .i64 0] 62) = W0
  have HS0_0 : Hid (Str W0 (w.heap.size) #[.int .i64 1, .string xk, .slice Ax nx cx, .int .i64 xlo, .int .i64 xhi, .int .i64 xn]) := Lib.hid (by rw [← hW0]; have := (((Str.new (w) #[.int .i64 1, .string xk, .slice Ax nx cx, .int .i64 xlo, .int .i64 xhi, .int .i64 xn] 24).alloc (.cells #[.int .i64 2, .string pk, .int .i64 pkd, .slice Ap np cp, .int .i64 plo, .int .i64 phi, .int .i64 pva] 54)).alloc (.cells #[.int .i64 2, .string qk, .int .i64 qkd, .slice Aq nq cq, .int .i64 qlo, .int .i64 qhi, .int .i64 qva] 54)).alloc (.cells #[.int .i64 0, .string ⟨#[]⟩, .int .i64 0, .string ⟨#[]⟩, .int .i64 0, .slice none 0 0, .int .i64 0, .int .i64 0, .int .i64 0, .int .i64 0] 62); simpa using this)
  have HS1_0 : Hid (Str W0 (w.heap.size + 1) #[.int .i64 2, .string pk, .int .i64 pkd, .slice Ap np cp, .int .i64 plo, .int .i64 phi, .int .i64 pva]) := Lib.hid (by rw [← hW0]; have := ((Str.new ((w).alloc (.cells #[.int .i64 1, .string xk, .slice Ax nx cx, .int .i64 xlo, .int .i64 xhi, .int .i64 xn] 24)) #[.int .i64 2, .string pk, .int .i64 pkd, .slice Ap np cp, .int .i64 plo, .int .i64 phi, .int .i64 pva] 54).alloc (.cells #[.int .i64 2, .string qk, .int .i64 qkd, .slice Aq nq cq, .int .i64 qlo, .int .i64 qhi, .int .i64 qva] 54)).alloc (.cells #[.int .i64 0, .string ⟨#[]⟩, .int .i64 0, .string ⟨#[]⟩, .int .i64 0, .slice none 0 0, .int .i64 0, .int .i64 0, .int .i64 0, .int .i64 0] 62); simpa using this)
  have HS2_0 : Hid (Str W0 (w.heap.size + 1 + 1) #[.int .i64 2, .string qk, .int .i64 qkd, .slice Aq nq cq, .int .i64 qlo, .int .i64 qhi, .int .i64 qva]) := Lib.hid (by rw [← hW0]; have := (Str.new (((w).alloc (.cells #[.int .i64 1, .string xk, .slice Ax nx cx, .int .i64 xlo, .int .i64 xhi, .int .i64 xn] 24)).alloc (.cells #[.int .i64 2, .string pk, .int .i64 pkd, .slice Ap np cp, .int .i64 plo, .int .i64 phi, .int .i64 pva] 54)) #[.int .i64 2, .string qk, .int .i64 qkd, .slice Aq nq cq, .int .i64 qlo, .int .i64 qhi, .int .i64 qva] 54).alloc (.cells #[.int .i64 0, .string ⟨#[]⟩, .int .i64 0, .string ⟨#[]⟩, .int .i64 0, .slice none 0 0, .int .i64 0, .int .i64 0, .int .i64 0, .int .i64 0] 62); simpa using this)
  have HS3_0 : Hid (Str W0 (w.heap.size + 1 + 1 + 1) #[.int .i64 0, .string ⟨#[]⟩, .int .i64 0, .string ⟨#[]⟩, .int .i64 0, .slice none 0 0, .int .i64 0, .int .i64 0, .int .i64 0, .int .i64 0]) := Lib.hid (by rw [← hW0]; have := Str.new ((((w).alloc (.cells #[.int .i64 1, .string xk, .slice Ax nx cx, .int .i64 xlo, .int .i64 xhi, .int .i64 xn] 24)).alloc (.cells #[.int .i64 2, .string pk, .int .i64 pkd, .slice Ap np cp, .int .i64 plo, .int .i64 phi, .int .i64 pva] 54)).alloc (.cells #[.int .i64 2, .string qk, .int .i64 qkd, .slice Aq nq cq, .int .i64 qlo, .int .i64 qhi, .int .i64 qva] 54)) #[.int .i64 0, .string ⟨#[]⟩, .int .i64 0, .string ⟨#[]⟩, .int .i64 0, .slice none 0 0, .int .i64 0, .int .i64 0, .int .i64 0, .int .i64 0] 62; simpa using this)
  have HB_0 : Hid (Below w.heap.size w W0) := Lib.hid (by rw [← hW0]; exact balloc (balloc (balloc (balloc (bsame w) _) _) _) _)
  have hw_0 := HB_0.out.size
  clear hW0
  obtain ⟨f0_0_0, f0_0_1, f0_0_2, f0_0_3, f0_0_4, f0_0_5⟩ := str6 HS0_0.out
  have hl0_0 := HS0_0.out.lt
  obtain ⟨f1_0_0, f1_0_1, f1_0_2, f1_0_3, f1_0_4, f1_0_5, f1_0_6⟩ := str7 HS1_0.out
  have hl1_0 := HS1_0.out.lt
  obtain ⟨f2_0_0, f2_0_1, f2_0_2, f2_0_3, f2_0_4, f2_0_5, f2_0_6⟩ := str7 HS2_0.out
  have hl2_0 := HS2_0.out.lt
  obtain ⟨f3_0_0, f3_0_1, f3_0_2, f3_0_3, f3_0_4, f3_0_5, f3_0_6, f3_0_7, f3_0_8, f3_0_9⟩ := str10 HS3_0.out
  have hl3_0 := HS3_0.out.lt
  have hf3_0 := fun j => HS3_0.out.frozen j
  refine Reg.wp_region_tail (R := ext) (W := W0) [Reg.eqv (.pointer (some ⟨w.heap.size, 1, none⟩)), Reg.eqv (.string xk), Reg.eqv (.agg #[.int .i64 2, .string qk, .int .i64 qkd, .slice Aq nq cq, .int .i64 qlo, .int .i64 qhi, .int .i64 qva]), Reg.itemS ⟨2, qk, ⟨qkd, qda, qlo, qhi, qva⟩⟩, Reg.undoS ⟨1, xk, ⟨2, qk, ⟨qkd, qda, qlo, qhi, qva⟩⟩, 0⟩] 56 5 _ [[(3, none)], [(40, some 0)], [(5, none)], [(42, some 2)], [(41, some 1), (43, some 3)]] rfl (by kernel_rfl) (by kernel_rfl) (by rfl) (by rfl) rfl (by kernel_rfl) ?_ [some 40, some 41, some 42, some 43, some 44] (by kernel_rfl) ?_
  · refine ⟨?_, ?_, ?_, ?_, ?_, trivial⟩
    · intro ax wx hx hs
      obtain ⟨e3, -⟩ := hs
      have g3 := Reg.ev (v := .pointer (some ⟨w.heap.size, 0, none⟩)) e3
      exact Reg.obl_free rfl (Reg.wp_eqv (Option.some_ne_none _) (by go_simp) rfl)
    · intro ax wx hx hs
      obtain ⟨e40, -⟩ := hs
      have g40 := Reg.ev (v := .pointer (some ⟨w.heap.size, 1, none⟩)) e40
      obtain ⟨hc, -⟩ := bcell hx
      exact Reg.obl_free rfl (Reg.wp_eqv (Option.some_ne_none _) (by go_simp) rfl)
    · intro ax wx hx hs
      obtain ⟨e5, -⟩ := hs
      have g5 := Reg.ev (v := .pointer (some ⟨w.heap.size + 1 + 1, 0, none⟩)) e5
      obtain ⟨hc, -⟩ := bcell hx
      exact Reg.obl_free rfl (Reg.wp_eqv (Option.some_ne_none _) (by go_simp) rfl)
    · intro ax wx hx hs
      obtain ⟨e42, -⟩ := hs
      have g42 := Reg.ev (v := .agg #[.int .i64 2, .string qk, .int .i64 qkd, .slice Aq nq cq, .int .i64 qlo, .int .i64 qhi, .int .i64 qva]) e42
      refine Reg.obl_free rfl ?_
      have hx' : Below W0.heap.size W0 wx := hx
      have hsz := (bstep HB_0.out hx').size
      go_simp
      refine (own_any _ _ _ Bq _ _ _ qda _ _ _ _ (Hq.out.below ((bstep HB_0.out hx').mono hBq)) (by omega) hnq).mono ?_
      rintro e wy ⟨A1, n1, c1, rfl, hy1, hby⟩
      exact Reg.done (Option.some_ne_none _) ⟨A1, n1, c1, rfl, hy1⟩ hby
    · intro ax wx hx hs
      obtain ⟨e41, e43, -⟩ := hs
      have g41 := Reg.ev (v := .string xk) e41
      refine Reg.obl_free rfl ?_
      obtain ⟨A1, n1, c1, e43, hy1⟩ := e43
      have g43 := Reg.ev e43
      exact Reg.wp_same (Option.some_ne_none _) (by go_simp) ⟨A1, n1, c1, rfl, hy1⟩
  · intro W1 hwf
    simp only [Reg.Fin]
    rintro _ rfl _ rfl _ rfl v43 h43 v44 h44
    obtain ⟨A1, n1, c1, rfl, hy1⟩ := h44
    clear h43
    have hwf' : Below W0.heap.size W0 W1 := hwf
    clear hwf
    have HS0_1 := Lib.hid (HS0_0.out.next hwf')
    have HS1_1 := Lib.hid (HS1_0.out.next hwf')
    have HS2_1 := Lib.hid (HS2_0.out.next hwf')
    have HS3_1 := Lib.hid (HS3_0.out.next hwf')
    have HB_1 := Lib.hid (bstep HB_0.out hwf')
    have hw_1 := HB_1.out.size
    have hws_1 := (hwf').size
    clear f0_0_0 f0_0_1 f0_0_2 f0_0_3 f0_0_4 f0_0_5 HS0_0 f1_0_0 f1_0_1 f1_0_2 f1_0_3 f1_0_4 f1_0_5 f1_0_6 HS1_0 f2_0_0 f2_0_1 f2_0_2 f2_0_3 f2_0_4 f2_0_5 f2_0_6 HS2_0 f3_0_0 f3_0_1 f3_0_2 f3_0_3 f3_0_4 f3_0_5 f3_0_6 f3_0_7 f3_0_8 f3_0_9 HS3_0 hf3_0
    clear hwf'
    obtain ⟨f0_1_0, f0_1_1, f0_1_2, f0_1_3, f0_1_4, f0_1_5⟩ := str6 HS0_1.out
    have hl0_1 := HS0_1.out.lt
    obtain ⟨f1_1_0, f1_1_1, f1_1_2, f1_1_3, f1_1_4, f1_1_5, f1_1_6⟩ := str7 HS1_1.out
    have hl1_1 := HS1_1.out.lt
    obtain ⟨f2_1_0, f2_1_1, f2_1_2, f2_1_3, f2_1_4, f2_1_5, f2_1_6⟩ := str7 HS2_1.out
    have hl2_1 := HS2_1.out.lt
    obtain ⟨f3_1_0, f3_1_1, f3_1_2, f3_1_3, f3_1_4, f3_1_5, f3_1_6, f3_1_7, f3_1_8, f3_1_9⟩ := str10 HS3_1.out
    have hl3_1 := HS3_1.out.lt
    have hf3_1 := fun j => HS3_1.out.frozen j
    have HYx_1 := Lib.hid (hy1)
    clear hy1
    refine Reg.Goal.mk ?_
    go_simp
    go_wp2_with fail
    generalize hW2 : ((((((((((W1).setCell ⟨w.heap.size + 1 + 1 + 1, 0, none⟩ (.int .i64 1)).setCell ⟨w.heap.size + 1 + 1 + 1, 1, none⟩ (.string xk)).setCell ⟨w.heap.size + 1 + 1 + 1, 2, none⟩ (.int .i64 2)).setCell ⟨w.heap.size + 1 + 1 + 1, 3, none⟩ (.string qk)).setCell ⟨w.heap.size + 1 + 1 + 1, 4, none⟩ (.int .i64 qkd)).setCell ⟨w.heap.size + 1 + 1 + 1, 5, none⟩ (.slice A1 n1 c1)).setCell ⟨w.heap.size + 1 + 1 + 1, 6, none⟩ (.int .i64 qlo)).setCell ⟨w.heap.size + 1 + 1 + 1, 7, none⟩ (.int .i64 qhi)).setCell ⟨w.heap.size + 1 + 1 + 1, 8, none⟩ (.int .i64 qva)).setCell ⟨w.heap.size + 1 + 1 + 1, 9, none⟩ (.int .i64 0) = W2
    have HS0_2 : Hid (Str W2 (w.heap.size) #[.int .i64 1, .string xk, .slice Ax nx cx, .int .i64 xlo, .int .i64 xhi, .int .i64 xn]) := Lib.hid (by rw [← hW2]; exact ((((((((((HS0_1.out).other 0 _ (by omega)).other 1 _ (by omega)).other 2 _ (by omega)).other 3 _ (by omega)).other 4 _ (by omega)).other 5 _ (by omega)).other 6 _ (by omega)).other 7 _ (by omega)).other 8 _ (by omega)).other 9 _ (by omega))
    have HS1_2 : Hid (Str W2 (w.heap.size + 1) #[.int .i64 2, .string pk, .int .i64 pkd, .slice Ap np cp, .int .i64 plo, .int .i64 phi, .int .i64 pva]) := Lib.hid (by rw [← hW2]; exact ((((((((((HS1_1.out).other 0 _ (by omega)).other 1 _ (by omega)).other 2 _ (by omega)).other 3 _ (by omega)).other 4 _ (by omega)).other 5 _ (by omega)).other 6 _ (by omega)).other 7 _ (by omega)).other 8 _ (by omega)).other 9 _ (by omega))
    have HS2_2 : Hid (Str W2 (w.heap.size + 1 + 1) #[.int .i64 2, .string qk, .int .i64 qkd, .slice Aq nq cq, .int .i64 qlo, .int .i64 qhi, .int .i64 qva]) := Lib.hid (by rw [← hW2]; exact ((((((((((HS2_1.out).other 0 _ (by omega)).other 1 _ (by omega)).other 2 _ (by omega)).other 3 _ (by omega)).other 4 _ (by omega)).other 5 _ (by omega)).other 6 _ (by omega)).other 7 _ (by omega)).other 8 _ (by omega)).other 9 _ (by omega))
    have HS3_2 : Hid (Str W2 (w.heap.size + 1 + 1 + 1) #[.int .i64 1, .string xk, .int .i64 2, .string qk, .int .i64 qkd, .slice A1 n1 c1, .int .i64 qlo, .int .i64 qhi, .int .i64 qva, .int .i64 0]) := Lib.hid (by rw [← hW2]; have := ((((((((((HS3_1.out).set 0 (.int .i64 1)).set 1 (.string xk)).set 2 (.int .i64 2)).set 3 (.string qk)).set 4 (.int .i64 qkd)).set 5 (.slice A1 n1 c1)).set 6 (.int .i64 qlo)).set 7 (.int .i64 qhi)).set 8 (.int .i64 qva)).set 9 (.int .i64 0); simpa using this)
    have hgr2 : W1.grownBy W2 (some (w.heap.size + 1 + 1 + 1)) := by rw [← hW2]; exact grown_set (grown_set (grown_set (grown_set (grown_set (grown_set (grown_set (grown_set (grown_set (grown_set (grown_refl W1 (w.heap.size + 1 + 1 + 1)) 0 (.int .i64 1)) 1 (.string xk)) 2 (.int .i64 2)) 3 (.string qk)) 4 (.int .i64 qkd)) 5 (.slice A1 n1 c1)) 6 (.int .i64 qlo)) 7 (.int .i64 qhi)) 8 (.int .i64 qva)) 9 (.int .i64 0)
    have HB_2 := Lib.hid (below_grown HB_1.out hgr2 (by omega))
    have hw_2 := HB_2.out.size
    have hws_2 := hgr2.size
    have HYx_2 := Lib.hid ((Bytes.grown HYx_1.out (Nat.le_refl _) HS3_1.out rfl hgr2).more hws_2)
    clear HYx_1
    clear hW2
    clear f0_1_0 f0_1_1 f0_1_2 f0_1_3 f0_1_4 f0_1_5 HS0_1 f1_1_0 f1_1_1 f1_1_2 f1_1_3 f1_1_4 f1_1_5 f1_1_6 HS1_1 f2_1_0 f2_1_1 f2_1_2 f2_1_3 f2_1_4 f2_1_5 f2_1_6 HS2_1 f3_1_0 f3_1_1 f3_1_2 f3_1_3 f3_1_4 f3_1_5 f3_1_6 f3_1_7 f3_1_8 f3_1_9 HS3_1 hf3_1
    clear hgr2
    obtain ⟨f0_2_0, f0_2_1, f0_2_2, f0_2_3, f0_2_4, f0_2_5⟩ := str6 HS0_2.out
    have hl0_2 := HS0_2.out.lt
    obtain ⟨f1_2_0, f1_2_1, f1_2_2, f1_2_3, f1_2_4, f1_2_5, f1_2_6⟩ := str7 HS1_2.out
    have hl1_2 := HS1_2.out.lt
    obtain ⟨f2_2_0, f2_2_1, f2_2_2, f2_2_3, f2_2_4, f2_2_5, f2_2_6⟩ := str7 HS2_2.out
    have hl2_2 := HS2_2.out.lt
    obtain ⟨f3_2_0, f3_2_1, f3_2_2, f3_2_3, f3_2_4, f3_2_5, f3_2_6, f3_2_7, f3_2_8, f3_2_9⟩ := str10 HS3_2.out
    have hl3_2 := HS3_2.out.lt
    have hf3_2 := fun j => HS3_2.out.frozen j
    exact bodyPost_ret (v := .agg #[.int .i64 1, .string xk, .int .i64 2, .string qk, .int .i64 qkd, .slice A1 n1 c1, .int .i64 qlo, .int .i64 qhi, .int .i64 qva, .int .i64 0]) (by simp [results, Try.results40, go_sem, *]) rfl ⟨A1, n1, c1, rfl, HYx_2.out, HB_2.out⟩

set_option maxRecDepth 100000 in
set_option maxHeartbeats 1000000 in
theorem of1_no (Ax : Option Addr) (nx cx : Nat) (xk : ByteArray) (xda : List UInt8) (xlo xhi xn : Int) (Ap : Option Addr) (np cp Bp : Nat) (pst : Int) (pk : ByteArray) (pkd : Int) (pda : List UInt8) (plo phi pva : Int) (Aq : Option Addr) (nq cq Bq : Nat) (qst : Int) (qk : ByteArray) (qkd : Int) (qda : List UInt8) (qlo qhi qva : Int) (w : World) (hp : Bytes w Bp Ap np cp pda) (hBp : Bp ≤ w.heap.size) (hnp : np ≤ 140737488355328) (hq : Bytes w Bq Aq nq cq qda) (hBq : Bq ≤ w.heap.size) (hnq : nq ≤ 140737488355328) (hs1 : ¬ pst = 1) (hs2 : ¬ pst = 2) : Calls Try.prog 40 #[.agg #[.int .i64 1, .string xk, .slice Ax nx cx, .int .i64 xlo, .int .i64 xhi, .int .i64 xn], .agg #[.int .i64 pst, .string pk, .int .i64 pkd, .slice Ap np cp, .int .i64 plo, .int .i64 phi, .int .i64 pva], .agg #[.int .i64 qst, .string qk, .int .i64 qkd, .slice Aq nq cq, .int .i64 qlo, .int .i64 qhi, .int .i64 qva]] w (GivesUndo w (UndoP.of ⟨1, xk, xda, xlo, xhi, xn⟩ ⟨pst, pk, ⟨pkd, pda, plo, phi, pva⟩⟩ ⟨qst, qk, ⟨qkd, qda, qlo, qhi, qva⟩⟩)) := by
  rw [UndoP.of_then _ _ _ (by simp) (fun h => h.1.elim hs1 hs2)]
  have Hp := Lib.hid hp
  have Hq := Lib.hid hq
  clear hp hq
  go_enter Try.func40, Try.ntmps40
  go_wp2_with fail
  show Code.wp _ _ _ _ (((((w).alloc (.cells #[.int .i64 1, .string xk, .slice Ax nx cx, .int .i64 xlo, .int .i64 xhi, .int .i64 xn] 24)).alloc (.cells #[.int .i64 pst, .string pk, .int .i64 pkd, .slice Ap np cp, .int .i64 plo, .int .i64 phi, .int .i64 pva] 54)).alloc (.cells #[.int .i64 2, .string qk, .int .i64 qkd, .slice Aq nq cq, .int .i64 qlo, .int .i64 qhi, .int .i64 qva] 54)).alloc (.cells #[.int .i64 0, .string ⟨#[]⟩, .int .i64 0, .string ⟨#[]⟩, .int .i64 0, .slice none 0 0, .int .i64 0, .int .i64 0, .int .i64 0, .int .i64 0] 62))
  generalize hW0 : ((((w).alloc (.cells #[.int .i64 1, .string xk, .slice Ax nx cx, .int .i64 xlo, .int .i64 xhi, .int .i64 xn] 24)).alloc (.cells #[.int .i64 pst, .string pk, .int .i64 pkd, .slice Ap np cp, .int .i64 plo, .int .i64 phi, .int .i64 pva] 54)).alloc (.cells #[.int .i64 2, .string qk, .int .i64 qkd, .slice Aq nq cq, .int .i64 qlo, .int .i64 qhi, .int .i64 qva] 54)).alloc (.cells #[.int .i64 0, .string ⟨#[]⟩, .int .i64 0, .string ⟨#[]⟩, .int .i64 0, .slice none 0 0, .int .i64 0, .int .i64 0, .int .i64 0, .int .i64 0] 62) = W0
  have HS0_0 : Hid (Str W0 (w.heap.size) #[.int .i64 1, .string xk, .slice Ax nx cx, .int .i64 xlo, .int .i64 xhi, .int .i64 xn]) := Lib.hid (by rw [← hW0]; have := (((Str.new (w) #[.int .i64 1, .string xk, .slice Ax nx cx, .int .i64 xlo, .int .i64 xhi, .int .i64 xn] 24).alloc (.cells #[.int .i64 pst, .string pk, .int .i64 pkd, .slice Ap np cp, .int .i64 plo, .int .i64 phi, .int .i64 pva] 54)).alloc (.cells #[.int .i64 2, .string qk, .int .i64 qkd, .slice Aq nq cq, .int .i64 qlo, .int .i64 qhi, .int .i64 qva] 54)).alloc (.cells #[.int .i64 0, .string ⟨#[]⟩, .int .i64 0, .string ⟨#[]⟩, .int .i64 0, .slice none 0 0, .int .i64 0, .int .i64 0, .int .i64 0, .int .i64 0] 62); simpa using this)
  have HS1_0 : Hid (Str W0 (w.heap.size + 1) #[.int .i64 pst, .string pk, .int .i64 pkd, .slice Ap np cp, .int .i64 plo, .int .i64 phi, .int .i64 pva]) := Lib.hid (by rw [← hW0]; have := ((Str.new ((w).alloc (.cells #[.int .i64 1, .string xk, .slice Ax nx cx, .int .i64 xlo, .int .i64 xhi, .int .i64 xn] 24)) #[.int .i64 pst, .string pk, .int .i64 pkd, .slice Ap np cp, .int .i64 plo, .int .i64 phi, .int .i64 pva] 54).alloc (.cells #[.int .i64 2, .string qk, .int .i64 qkd, .slice Aq nq cq, .int .i64 qlo, .int .i64 qhi, .int .i64 qva] 54)).alloc (.cells #[.int .i64 0, .string ⟨#[]⟩, .int .i64 0, .string ⟨#[]⟩, .int .i64 0, .slice none 0 0, .int .i64 0, .int .i64 0, .int .i64 0, .int .i64 0] 62); simpa using this)
  have HS2_0 : Hid (Str W0 (w.heap.size + 1 + 1) #[.int .i64 2, .string qk, .int .i64 qkd, .slice Aq nq cq, .int .i64 qlo, .int .i64 qhi, .int .i64 qva]) := Lib.hid (by rw [← hW0]; have := (Str.new (((w).alloc (.cells #[.int .i64 1, .string xk, .slice Ax nx cx, .int .i64 xlo, .int .i64 xhi, .int .i64 xn] 24)).alloc (.cells #[.int .i64 pst, .string pk, .int .i64 pkd, .slice Ap np cp, .int .i64 plo, .int .i64 phi, .int .i64 pva] 54)) #[.int .i64 2, .string qk, .int .i64 qkd, .slice Aq nq cq, .int .i64 qlo, .int .i64 qhi, .int .i64 qva] 54).alloc (.cells #[.int .i64 0, .string ⟨#[]⟩, .int .i64 0, .string ⟨#[]⟩, .int .i64 0, .slice none 0 0, .int .i64 0, .int .i64 0, .int .i64 0, .int .i64 0] 62); simpa using this)
  have HS3_0 : Hid (Str W0 (w.heap.size + 1 + 1 + 1) #[.int .i64 0, .string ⟨#[]⟩, .int .i64 0, .string ⟨#[]⟩, .int .i64 0, .slice none 0 0, .int .i64 0, .int .i64 0, .int .i64 0, .int .i64 0]) := Lib.hid (by rw [← hW0]; have := Str.new ((((w).alloc (.cells #[.int .i64 1, .string xk, .slice Ax nx cx, .int .i64 xlo, .int .i64 xhi, .int .i64 xn] 24)).alloc (.cells #[.int .i64 pst, .string pk, .int .i64 pkd, .slice Ap np cp, .int .i64 plo, .int .i64 phi, .int .i64 pva] 54)).alloc (.cells #[.int .i64 2, .string qk, .int .i64 qkd, .slice Aq nq cq, .int .i64 qlo, .int .i64 qhi, .int .i64 qva] 54)) #[.int .i64 0, .string ⟨#[]⟩, .int .i64 0, .string ⟨#[]⟩, .int .i64 0, .slice none 0 0, .int .i64 0, .int .i64 0, .int .i64 0, .int .i64 0] 62; simpa using this)
  have HB_0 : Hid (Below w.heap.size w W0) := Lib.hid (by rw [← hW0]; exact balloc (balloc (balloc (balloc (bsame w) _) _) _) _)
  have hw_0 := HB_0.out.size
  clear hW0
  obtain ⟨f0_0_0, f0_0_1, f0_0_2, f0_0_3, f0_0_4, f0_0_5⟩ := str6 HS0_0.out
  have hl0_0 := HS0_0.out.lt
  obtain ⟨f1_0_0, f1_0_1, f1_0_2, f1_0_3, f1_0_4, f1_0_5, f1_0_6⟩ := str7 HS1_0.out
  have hl1_0 := HS1_0.out.lt
  obtain ⟨f2_0_0, f2_0_1, f2_0_2, f2_0_3, f2_0_4, f2_0_5, f2_0_6⟩ := str7 HS2_0.out
  have hl2_0 := HS2_0.out.lt
  obtain ⟨f3_0_0, f3_0_1, f3_0_2, f3_0_3, f3_0_4, f3_0_5, f3_0_6, f3_0_7, f3_0_8, f3_0_9⟩ := str10 HS3_0.out
  have hl3_0 := HS3_0.out.lt
  have hf3_0 := fun j => HS3_0.out.frozen j
  refine Reg.wp_region_tail (R := ext) (W := W0) [Reg.eqv (.pointer (some ⟨w.heap.size, 1, none⟩)), Reg.eqv (.string xk), Reg.eqv (.agg #[.int .i64 2, .string qk, .int .i64 qkd, .slice Aq nq cq, .int .i64 qlo, .int .i64 qhi, .int .i64 qva]), Reg.itemS ⟨2, qk, ⟨qkd, qda, qlo, qhi, qva⟩⟩, Reg.undoS ⟨1, xk, ⟨2, qk, ⟨qkd, qda, qlo, qhi, qva⟩⟩, 0⟩] 56 5 _ [[(3, none)], [(40, some 0)], [(5, none)], [(42, some 2)], [(41, some 1), (43, some 3)]] rfl (by kernel_rfl) (by kernel_rfl) (by rfl) (by rfl) rfl (by kernel_rfl) ?_ [some 40, some 41, some 42, some 43, some 44] (by kernel_rfl) ?_
  · refine ⟨?_, ?_, ?_, ?_, ?_, trivial⟩
    · intro ax wx hx hs
      obtain ⟨e3, -⟩ := hs
      have g3 := Reg.ev (v := .pointer (some ⟨w.heap.size, 0, none⟩)) e3
      exact Reg.obl_free rfl (Reg.wp_eqv (Option.some_ne_none _) (by go_simp) rfl)
    · intro ax wx hx hs
      obtain ⟨e40, -⟩ := hs
      have g40 := Reg.ev (v := .pointer (some ⟨w.heap.size, 1, none⟩)) e40
      obtain ⟨hc, -⟩ := bcell hx
      exact Reg.obl_free rfl (Reg.wp_eqv (Option.some_ne_none _) (by go_simp) rfl)
    · intro ax wx hx hs
      obtain ⟨e5, -⟩ := hs
      have g5 := Reg.ev (v := .pointer (some ⟨w.heap.size + 1 + 1, 0, none⟩)) e5
      obtain ⟨hc, -⟩ := bcell hx
      exact Reg.obl_free rfl (Reg.wp_eqv (Option.some_ne_none _) (by go_simp) rfl)
    · intro ax wx hx hs
      obtain ⟨e42, -⟩ := hs
      have g42 := Reg.ev (v := .agg #[.int .i64 2, .string qk, .int .i64 qkd, .slice Aq nq cq, .int .i64 qlo, .int .i64 qhi, .int .i64 qva]) e42
      refine Reg.obl_free rfl ?_
      have hx' : Below W0.heap.size W0 wx := hx
      have hsz := (bstep HB_0.out hx').size
      go_simp
      refine (own_any _ _ _ Bq _ _ _ qda _ _ _ _ (Hq.out.below ((bstep HB_0.out hx').mono hBq)) (by omega) hnq).mono ?_
      rintro e wy ⟨A1, n1, c1, rfl, hy1, hby⟩
      exact Reg.done (Option.some_ne_none _) ⟨A1, n1, c1, rfl, hy1⟩ hby
    · intro ax wx hx hs
      obtain ⟨e41, e43, -⟩ := hs
      have g41 := Reg.ev (v := .string xk) e41
      refine Reg.obl_free rfl ?_
      obtain ⟨A1, n1, c1, e43, hy1⟩ := e43
      have g43 := Reg.ev e43
      exact Reg.wp_same (Option.some_ne_none _) (by go_simp) ⟨A1, n1, c1, rfl, hy1⟩
  · intro W1 hwf
    simp only [Reg.Fin]
    rintro _ rfl _ rfl _ rfl v43 h43 v44 h44
    obtain ⟨A1, n1, c1, rfl, hy1⟩ := h44
    clear h43
    have hwf' : Below W0.heap.size W0 W1 := hwf
    clear hwf
    have HS0_1 := Lib.hid (HS0_0.out.next hwf')
    have HS1_1 := Lib.hid (HS1_0.out.next hwf')
    have HS2_1 := Lib.hid (HS2_0.out.next hwf')
    have HS3_1 := Lib.hid (HS3_0.out.next hwf')
    have HB_1 := Lib.hid (bstep HB_0.out hwf')
    have hw_1 := HB_1.out.size
    have hws_1 := (hwf').size
    clear f0_0_0 f0_0_1 f0_0_2 f0_0_3 f0_0_4 f0_0_5 HS0_0 f1_0_0 f1_0_1 f1_0_2 f1_0_3 f1_0_4 f1_0_5 f1_0_6 HS1_0 f2_0_0 f2_0_1 f2_0_2 f2_0_3 f2_0_4 f2_0_5 f2_0_6 HS2_0 f3_0_0 f3_0_1 f3_0_2 f3_0_3 f3_0_4 f3_0_5 f3_0_6 f3_0_7 f3_0_8 f3_0_9 HS3_0 hf3_0
    clear hwf'
    obtain ⟨f0_1_0, f0_1_1, f0_1_2, f0_1_3, f0_1_4, f0_1_5⟩ := str6 HS0_1.out
    have hl0_1 := HS0_1.out.lt
    obtain ⟨f1_1_0, f1_1_1, f1_1_2, f1_1_3, f1_1_4, f1_1_5, f1_1_6⟩ := str7 HS1_1.out
    have hl1_1 := HS1_1.out.lt
    obtain ⟨f2_1_0, f2_1_1, f2_1_2, f2_1_3, f2_1_4, f2_1_5, f2_1_6⟩ := str7 HS2_1.out
    have hl2_1 := HS2_1.out.lt
    obtain ⟨f3_1_0, f3_1_1, f3_1_2, f3_1_3, f3_1_4, f3_1_5, f3_1_6, f3_1_7, f3_1_8, f3_1_9⟩ := str10 HS3_1.out
    have hl3_1 := HS3_1.out.lt
    have hf3_1 := fun j => HS3_1.out.frozen j
    have HYx_1 := Lib.hid (hy1)
    clear hy1
    refine Reg.Goal.mk ?_
    go_simp
    go_wp2_with fail
    generalize hW2 : ((((((((((W1).setCell ⟨w.heap.size + 1 + 1 + 1, 0, none⟩ (.int .i64 1)).setCell ⟨w.heap.size + 1 + 1 + 1, 1, none⟩ (.string xk)).setCell ⟨w.heap.size + 1 + 1 + 1, 2, none⟩ (.int .i64 2)).setCell ⟨w.heap.size + 1 + 1 + 1, 3, none⟩ (.string qk)).setCell ⟨w.heap.size + 1 + 1 + 1, 4, none⟩ (.int .i64 qkd)).setCell ⟨w.heap.size + 1 + 1 + 1, 5, none⟩ (.slice A1 n1 c1)).setCell ⟨w.heap.size + 1 + 1 + 1, 6, none⟩ (.int .i64 qlo)).setCell ⟨w.heap.size + 1 + 1 + 1, 7, none⟩ (.int .i64 qhi)).setCell ⟨w.heap.size + 1 + 1 + 1, 8, none⟩ (.int .i64 qva)).setCell ⟨w.heap.size + 1 + 1 + 1, 9, none⟩ (.int .i64 0) = W2
    have HS0_2 : Hid (Str W2 (w.heap.size) #[.int .i64 1, .string xk, .slice Ax nx cx, .int .i64 xlo, .int .i64 xhi, .int .i64 xn]) := Lib.hid (by rw [← hW2]; exact ((((((((((HS0_1.out).other 0 _ (by omega)).other 1 _ (by omega)).other 2 _ (by omega)).other 3 _ (by omega)).other 4 _ (by omega)).other 5 _ (by omega)).other 6 _ (by omega)).other 7 _ (by omega)).other 8 _ (by omega)).other 9 _ (by omega))
    have HS1_2 : Hid (Str W2 (w.heap.size + 1) #[.int .i64 pst, .string pk, .int .i64 pkd, .slice Ap np cp, .int .i64 plo, .int .i64 phi, .int .i64 pva]) := Lib.hid (by rw [← hW2]; exact ((((((((((HS1_1.out).other 0 _ (by omega)).other 1 _ (by omega)).other 2 _ (by omega)).other 3 _ (by omega)).other 4 _ (by omega)).other 5 _ (by omega)).other 6 _ (by omega)).other 7 _ (by omega)).other 8 _ (by omega)).other 9 _ (by omega))
    have HS2_2 : Hid (Str W2 (w.heap.size + 1 + 1) #[.int .i64 2, .string qk, .int .i64 qkd, .slice Aq nq cq, .int .i64 qlo, .int .i64 qhi, .int .i64 qva]) := Lib.hid (by rw [← hW2]; exact ((((((((((HS2_1.out).other 0 _ (by omega)).other 1 _ (by omega)).other 2 _ (by omega)).other 3 _ (by omega)).other 4 _ (by omega)).other 5 _ (by omega)).other 6 _ (by omega)).other 7 _ (by omega)).other 8 _ (by omega)).other 9 _ (by omega))
    have HS3_2 : Hid (Str W2 (w.heap.size + 1 + 1 + 1) #[.int .i64 1, .string xk, .int .i64 2, .string qk, .int .i64 qkd, .slice A1 n1 c1, .int .i64 qlo, .int .i64 qhi, .int .i64 qva, .int .i64 0]) := Lib.hid (by rw [← hW2]; have := ((((((((((HS3_1.out).set 0 (.int .i64 1)).set 1 (.string xk)).set 2 (.int .i64 2)).set 3 (.string qk)).set 4 (.int .i64 qkd)).set 5 (.slice A1 n1 c1)).set 6 (.int .i64 qlo)).set 7 (.int .i64 qhi)).set 8 (.int .i64 qva)).set 9 (.int .i64 0); simpa using this)
    have hgr2 : W1.grownBy W2 (some (w.heap.size + 1 + 1 + 1)) := by rw [← hW2]; exact grown_set (grown_set (grown_set (grown_set (grown_set (grown_set (grown_set (grown_set (grown_set (grown_set (grown_refl W1 (w.heap.size + 1 + 1 + 1)) 0 (.int .i64 1)) 1 (.string xk)) 2 (.int .i64 2)) 3 (.string qk)) 4 (.int .i64 qkd)) 5 (.slice A1 n1 c1)) 6 (.int .i64 qlo)) 7 (.int .i64 qhi)) 8 (.int .i64 qva)) 9 (.int .i64 0)
    have HB_2 := Lib.hid (below_grown HB_1.out hgr2 (by omega))
    have hw_2 := HB_2.out.size
    have hws_2 := hgr2.size
    have HYx_2 := Lib.hid ((Bytes.grown HYx_1.out (Nat.le_refl _) HS3_1.out rfl hgr2).more hws_2)
    clear HYx_1
    clear hW2
    clear f0_1_0 f0_1_1 f0_1_2 f0_1_3 f0_1_4 f0_1_5 HS0_1 f1_1_0 f1_1_1 f1_1_2 f1_1_3 f1_1_4 f1_1_5 f1_1_6 HS1_1 f2_1_0 f2_1_1 f2_1_2 f2_1_3 f2_1_4 f2_1_5 f2_1_6 HS2_1 f3_1_0 f3_1_1 f3_1_2 f3_1_3 f3_1_4 f3_1_5 f3_1_6 f3_1_7 f3_1_8 f3_1_9 HS3_1 hf3_1
    clear hgr2
    obtain ⟨f0_2_0, f0_2_1, f0_2_2, f0_2_3, f0_2_4, f0_2_5⟩ := str6 HS0_2.out
    have hl0_2 := HS0_2.out.lt
    obtain ⟨f1_2_0, f1_2_1, f1_2_2, f1_2_3, f1_2_4, f1_2_5, f1_2_6⟩ := str7 HS1_2.out
    have hl1_2 := HS1_2.out.lt
    obtain ⟨f2_2_0, f2_2_1, f2_2_2, f2_2_3, f2_2_4, f2_2_5, f2_2_6⟩ := str7 HS2_2.out
    have hl2_2 := HS2_2.out.lt
    obtain ⟨f3_2_0, f3_2_1, f3_2_2, f3_2_3, f3_2_4, f3_2_5, f3_2_6, f3_2_7, f3_2_8, f3_2_9⟩ := str10 HS3_2.out
    have hl3_2 := HS3_2.out.lt
    have hf3_2 := fun j => HS3_2.out.frozen j
    exact bodyPost_ret (v := .agg #[.int .i64 1, .string xk, .int .i64 2, .string qk, .int .i64 qkd, .slice A1 n1 c1, .int .i64 qlo, .int .i64 qhi, .int .i64 qva, .int .i64 0]) (by simp [results, Try.results40, go_sem, *]) rfl ⟨A1, n1, c1, rfl, HYx_2.out, HB_2.out⟩

set_option maxRecDepth 100000 in
set_option maxHeartbeats 1000000 in
theorem of2_s1k (Ax : Option Addr) (nx cx : Nat) (xda : List UInt8) (xlo xhi xn : Int) (Ap : Option Addr) (np cp Bp : Nat) (pk : ByteArray) (pkd : Int) (pda : List UInt8) (plo phi pva : Int) (Aq : Option Addr) (nq cq Bq : Nat) (qst : Int) (qk : ByteArray) (qkd : Int) (qda : List UInt8) (qlo qhi qva : Int) (w : World) (hp : Bytes w Bp Ap np cp pda) (hBp : Bp ≤ w.heap.size) (hnp : np ≤ 140737488355328) (hq : Bytes w Bq Aq nq cq qda) (hBq : Bq ≤ w.heap.size) (hnq : nq ≤ 140737488355328)  : Calls Try.prog 40 #[.agg #[.int .i64 2, .string pk, .slice Ax nx cx, .int .i64 xlo, .int .i64 xhi, .int .i64 xn], .agg #[.int .i64 1, .string pk, .int .i64 pkd, .slice Ap np cp, .int .i64 plo, .int .i64 phi, .int .i64 pva], .agg #[.int .i64 qst, .string qk, .int .i64 qkd, .slice Aq nq cq, .int .i64 qlo, .int .i64 qhi, .int .i64 qva]] w (GivesUndo w (UndoP.of ⟨2, pk, xda, xlo, xhi, xn⟩ ⟨1, pk, ⟨pkd, pda, plo, phi, pva⟩⟩ ⟨qst, qk, ⟨qkd, qda, qlo, qhi, qva⟩⟩)) := by
  rw [UndoP.of_was _ _ _ (by simp) ⟨.inl rfl, rfl⟩]
  have Hp := Lib.hid hp
  have Hq := Lib.hid hq
  clear hp hq
  go_enter Try.func40, Try.ntmps40
  go_wp2_with fail
  generalize hW0 : ((((w).alloc (.cells #[.int .i64 2, .string pk, .slice Ax nx cx, .int .i64 xlo, .int .i64 xhi, .int .i64 xn] 24)).alloc (.cells #[.int .i64 1, .string pk, .int .i64 pkd, .slice Ap np cp, .int .i64 plo, .int .i64 phi, .int .i64 pva] 54)).alloc (.cells #[.int .i64 qst, .string qk, .int .i64 qkd, .slice Aq nq cq, .int .i64 qlo, .int .i64 qhi, .int .i64 qva] 54)).alloc (.cells #[.int .i64 0, .string ⟨#[]⟩, .int .i64 0, .string ⟨#[]⟩, .int .i64 0, .slice none 0 0, .int .i64 0, .int .i64 0, .int .i64 0, .int .i64 0] 62) = W0
  have HS0_0 : Hid (Str W0 (w.heap.size) #[.int .i64 2, .string pk, .slice Ax nx cx, .int .i64 xlo, .int .i64 xhi, .int .i64 xn]) := Lib.hid (by rw [← hW0]; have := (((Str.new (w) #[.int .i64 2, .string pk, .slice Ax nx cx, .int .i64 xlo, .int .i64 xhi, .int .i64 xn] 24).alloc (.cells #[.int .i64 1, .string pk, .int .i64 pkd, .slice Ap np cp, .int .i64 plo, .int .i64 phi, .int .i64 pva] 54)).alloc (.cells #[.int .i64 qst, .string qk, .int .i64 qkd, .slice Aq nq cq, .int .i64 qlo, .int .i64 qhi, .int .i64 qva] 54)).alloc (.cells #[.int .i64 0, .string ⟨#[]⟩, .int .i64 0, .string ⟨#[]⟩, .int .i64 0, .slice none 0 0, .int .i64 0, .int .i64 0, .int .i64 0, .int .i64 0] 62); simpa using this)
  have HS1_0 : Hid (Str W0 (w.heap.size + 1) #[.int .i64 1, .string pk, .int .i64 pkd, .slice Ap np cp, .int .i64 plo, .int .i64 phi, .int .i64 pva]) := Lib.hid (by rw [← hW0]; have := ((Str.new ((w).alloc (.cells #[.int .i64 2, .string pk, .slice Ax nx cx, .int .i64 xlo, .int .i64 xhi, .int .i64 xn] 24)) #[.int .i64 1, .string pk, .int .i64 pkd, .slice Ap np cp, .int .i64 plo, .int .i64 phi, .int .i64 pva] 54).alloc (.cells #[.int .i64 qst, .string qk, .int .i64 qkd, .slice Aq nq cq, .int .i64 qlo, .int .i64 qhi, .int .i64 qva] 54)).alloc (.cells #[.int .i64 0, .string ⟨#[]⟩, .int .i64 0, .string ⟨#[]⟩, .int .i64 0, .slice none 0 0, .int .i64 0, .int .i64 0, .int .i64 0, .int .i64 0] 62); simpa using this)
  have HS2_0 : Hid (Str W0 (w.heap.size + 1 + 1) #[.int .i64 qst, .string qk, .int .i64 qkd, .slice Aq nq cq, .int .i64 qlo, .int .i64 qhi, .int .i64 qva]) := Lib.hid (by rw [← hW0]; have := (Str.new (((w).alloc (.cells #[.int .i64 2, .string pk, .slice Ax nx cx, .int .i64 xlo, .int .i64 xhi, .int .i64 xn] 24)).alloc (.cells #[.int .i64 1, .string pk, .int .i64 pkd, .slice Ap np cp, .int .i64 plo, .int .i64 phi, .int .i64 pva] 54)) #[.int .i64 qst, .string qk, .int .i64 qkd, .slice Aq nq cq, .int .i64 qlo, .int .i64 qhi, .int .i64 qva] 54).alloc (.cells #[.int .i64 0, .string ⟨#[]⟩, .int .i64 0, .string ⟨#[]⟩, .int .i64 0, .slice none 0 0, .int .i64 0, .int .i64 0, .int .i64 0, .int .i64 0] 62); simpa using this)
  have HS3_0 : Hid (Str W0 (w.heap.size + 1 + 1 + 1) #[.int .i64 0, .string ⟨#[]⟩, .int .i64 0, .string ⟨#[]⟩, .int .i64 0, .slice none 0 0, .int .i64 0, .int .i64 0, .int .i64 0, .int .i64 0]) := Lib.hid (by rw [← hW0]; have := Str.new ((((w).alloc (.cells #[.int .i64 2, .string pk, .slice Ax nx cx, .int .i64 xlo, .int .i64 xhi, .int .i64 xn] 24)).alloc (.cells #[.int .i64 1, .string pk, .int .i64 pkd, .slice Ap np cp, .int .i64 plo, .int .i64 phi, .int .i64 pva] 54)).alloc (.cells #[.int .i64 qst, .string qk, .int .i64 qkd, .slice Aq nq cq, .int .i64 qlo, .int .i64 qhi, .int .i64 qva] 54)) #[.int .i64 0, .string ⟨#[]⟩, .int .i64 0, .string ⟨#[]⟩, .int .i64 0, .slice none 0 0, .int .i64 0, .int .i64 0, .int .i64 0, .int .i64 0] 62; simpa using this)
  have HB_0 : Hid (Below w.heap.size w W0) := Lib.hid (by rw [← hW0]; exact balloc (balloc (balloc (balloc (bsame w) _) _) _) _)
  have hw_0 := HB_0.out.size
  clear hW0
  obtain ⟨f0_0_0, f0_0_1, f0_0_2, f0_0_3, f0_0_4, f0_0_5⟩ := str6 HS0_0.out
  have hl0_0 := HS0_0.out.lt
  obtain ⟨f1_0_0, f1_0_1, f1_0_2, f1_0_3, f1_0_4, f1_0_5, f1_0_6⟩ := str7 HS1_0.out
  have hl1_0 := HS1_0.out.lt
  obtain ⟨f2_0_0, f2_0_1, f2_0_2, f2_0_3, f2_0_4, f2_0_5, f2_0_6⟩ := str7 HS2_0.out
  have hl2_0 := HS2_0.out.lt
  obtain ⟨f3_0_0, f3_0_1, f3_0_2, f3_0_3, f3_0_4, f3_0_5, f3_0_6, f3_0_7, f3_0_8, f3_0_9⟩ := str10 HS3_0.out
  have hl3_0 := HS3_0.out.lt
  have hf3_0 := fun j => HS3_0.out.frozen j
  refine Reg.wp_region_tail (R := ext) (W := W0) [Reg.eqv (.pointer (some ⟨w.heap.size, 1, none⟩)), Reg.eqv (.string pk), Reg.eqv (.agg #[.int .i64 1, .string pk, .int .i64 pkd, .slice Ap np cp, .int .i64 plo, .int .i64 phi, .int .i64 pva]), Reg.itemS ⟨1, pk, ⟨pkd, pda, plo, phi, pva⟩⟩, Reg.undoS ⟨1, pk, ⟨1, pk, ⟨pkd, pda, plo, phi, pva⟩⟩, 0⟩] 56 5 _ [[(3, none)], [(34, some 0)], [(4, none)], [(36, some 2)], [(35, some 1), (37, some 3)]] rfl (by kernel_rfl) (by kernel_rfl) (by rfl) (by rfl) rfl (by kernel_rfl) ?_ [some 34, some 35, some 36, some 37, some 38] (by kernel_rfl) ?_
  · refine ⟨?_, ?_, ?_, ?_, ?_, trivial⟩
    · intro ax wx hx hs
      obtain ⟨e3, -⟩ := hs
      have g3 := Reg.ev (v := .pointer (some ⟨w.heap.size, 0, none⟩)) e3
      exact Reg.obl_free rfl (Reg.wp_eqv (Option.some_ne_none _) (by go_simp) rfl)
    · intro ax wx hx hs
      obtain ⟨e34, -⟩ := hs
      have g34 := Reg.ev (v := .pointer (some ⟨w.heap.size, 1, none⟩)) e34
      obtain ⟨hc, -⟩ := bcell hx
      exact Reg.obl_free rfl (Reg.wp_eqv (Option.some_ne_none _) (by go_simp) rfl)
    · intro ax wx hx hs
      obtain ⟨e4, -⟩ := hs
      have g4 := Reg.ev (v := .pointer (some ⟨w.heap.size + 1, 0, none⟩)) e4
      obtain ⟨hc, -⟩ := bcell hx
      exact Reg.obl_free rfl (Reg.wp_eqv (Option.some_ne_none _) (by go_simp) rfl)
    · intro ax wx hx hs
      obtain ⟨e36, -⟩ := hs
      have g36 := Reg.ev (v := .agg #[.int .i64 1, .string pk, .int .i64 pkd, .slice Ap np cp, .int .i64 plo, .int .i64 phi, .int .i64 pva]) e36
      refine Reg.obl_free rfl ?_
      have hx' : Below W0.heap.size W0 wx := hx
      have hsz := (bstep HB_0.out hx').size
      go_simp
      refine (own_any _ _ _ Bp _ _ _ pda _ _ _ _ (Hp.out.below ((bstep HB_0.out hx').mono hBp)) (by omega) hnp).mono ?_
      rintro e wy ⟨A1, n1, c1, rfl, hy1, hby⟩
      exact Reg.done (Option.some_ne_none _) ⟨A1, n1, c1, rfl, hy1⟩ hby
    · intro ax wx hx hs
      obtain ⟨e35, e37, -⟩ := hs
      have g35 := Reg.ev (v := .string pk) e35
      refine Reg.obl_free rfl ?_
      obtain ⟨A1, n1, c1, e37, hy1⟩ := e37
      have g37 := Reg.ev e37
      exact Reg.wp_same (Option.some_ne_none _) (by go_simp) ⟨A1, n1, c1, rfl, hy1⟩
  · intro W1 hwf
    simp only [Reg.Fin]
    rintro _ rfl _ rfl _ rfl v37 h37 v38 h38
    obtain ⟨A1, n1, c1, rfl, hy1⟩ := h38
    clear h37
    have hwf' : Below W0.heap.size W0 W1 := hwf
    clear hwf
    have HS0_1 := Lib.hid (HS0_0.out.next hwf')
    have HS1_1 := Lib.hid (HS1_0.out.next hwf')
    have HS2_1 := Lib.hid (HS2_0.out.next hwf')
    have HS3_1 := Lib.hid (HS3_0.out.next hwf')
    have HB_1 := Lib.hid (bstep HB_0.out hwf')
    have hw_1 := HB_1.out.size
    have hws_1 := (hwf').size
    clear f0_0_0 f0_0_1 f0_0_2 f0_0_3 f0_0_4 f0_0_5 HS0_0 f1_0_0 f1_0_1 f1_0_2 f1_0_3 f1_0_4 f1_0_5 f1_0_6 HS1_0 f2_0_0 f2_0_1 f2_0_2 f2_0_3 f2_0_4 f2_0_5 f2_0_6 HS2_0 f3_0_0 f3_0_1 f3_0_2 f3_0_3 f3_0_4 f3_0_5 f3_0_6 f3_0_7 f3_0_8 f3_0_9 HS3_0 hf3_0
    clear hwf'
    obtain ⟨f0_1_0, f0_1_1, f0_1_2, f0_1_3, f0_1_4, f0_1_5⟩ := str6 HS0_1.out
    have hl0_1 := HS0_1.out.lt
    obtain ⟨f1_1_0, f1_1_1, f1_1_2, f1_1_3, f1_1_4, f1_1_5, f1_1_6⟩ := str7 HS1_1.out
    have hl1_1 := HS1_1.out.lt
    obtain ⟨f2_1_0, f2_1_1, f2_1_2, f2_1_3, f2_1_4, f2_1_5, f2_1_6⟩ := str7 HS2_1.out
    have hl2_1 := HS2_1.out.lt
    obtain ⟨f3_1_0, f3_1_1, f3_1_2, f3_1_3, f3_1_4, f3_1_5, f3_1_6, f3_1_7, f3_1_8, f3_1_9⟩ := str10 HS3_1.out
    have hl3_1 := HS3_1.out.lt
    have hf3_1 := fun j => HS3_1.out.frozen j
    have HYx_1 := Lib.hid (hy1)
    clear hy1
    refine Reg.Goal.mk ?_
    go_simp
    go_wp2_with fail
    generalize hW2 : ((((((((((W1).setCell ⟨w.heap.size + 1 + 1 + 1, 0, none⟩ (.int .i64 1)).setCell ⟨w.heap.size + 1 + 1 + 1, 1, none⟩ (.string pk)).setCell ⟨w.heap.size + 1 + 1 + 1, 2, none⟩ (.int .i64 1)).setCell ⟨w.heap.size + 1 + 1 + 1, 3, none⟩ (.string pk)).setCell ⟨w.heap.size + 1 + 1 + 1, 4, none⟩ (.int .i64 pkd)).setCell ⟨w.heap.size + 1 + 1 + 1, 5, none⟩ (.slice A1 n1 c1)).setCell ⟨w.heap.size + 1 + 1 + 1, 6, none⟩ (.int .i64 plo)).setCell ⟨w.heap.size + 1 + 1 + 1, 7, none⟩ (.int .i64 phi)).setCell ⟨w.heap.size + 1 + 1 + 1, 8, none⟩ (.int .i64 pva)).setCell ⟨w.heap.size + 1 + 1 + 1, 9, none⟩ (.int .i64 0) = W2
    have HS0_2 : Hid (Str W2 (w.heap.size) #[.int .i64 2, .string pk, .slice Ax nx cx, .int .i64 xlo, .int .i64 xhi, .int .i64 xn]) := Lib.hid (by rw [← hW2]; exact ((((((((((HS0_1.out).other 0 _ (by omega)).other 1 _ (by omega)).other 2 _ (by omega)).other 3 _ (by omega)).other 4 _ (by omega)).other 5 _ (by omega)).other 6 _ (by omega)).other 7 _ (by omega)).other 8 _ (by omega)).other 9 _ (by omega))
    have HS1_2 : Hid (Str W2 (w.heap.size + 1) #[.int .i64 1, .string pk, .int .i64 pkd, .slice Ap np cp, .int .i64 plo, .int .i64 phi, .int .i64 pva]) := Lib.hid (by rw [← hW2]; exact ((((((((((HS1_1.out).other 0 _ (by omega)).other 1 _ (by omega)).other 2 _ (by omega)).other 3 _ (by omega)).other 4 _ (by omega)).other 5 _ (by omega)).other 6 _ (by omega)).other 7 _ (by omega)).other 8 _ (by omega)).other 9 _ (by omega))
    have HS2_2 : Hid (Str W2 (w.heap.size + 1 + 1) #[.int .i64 qst, .string qk, .int .i64 qkd, .slice Aq nq cq, .int .i64 qlo, .int .i64 qhi, .int .i64 qva]) := Lib.hid (by rw [← hW2]; exact ((((((((((HS2_1.out).other 0 _ (by omega)).other 1 _ (by omega)).other 2 _ (by omega)).other 3 _ (by omega)).other 4 _ (by omega)).other 5 _ (by omega)).other 6 _ (by omega)).other 7 _ (by omega)).other 8 _ (by omega)).other 9 _ (by omega))
    have HS3_2 : Hid (Str W2 (w.heap.size + 1 + 1 + 1) #[.int .i64 1, .string pk, .int .i64 1, .string pk, .int .i64 pkd, .slice A1 n1 c1, .int .i64 plo, .int .i64 phi, .int .i64 pva, .int .i64 0]) := Lib.hid (by rw [← hW2]; have := ((((((((((HS3_1.out).set 0 (.int .i64 1)).set 1 (.string pk)).set 2 (.int .i64 1)).set 3 (.string pk)).set 4 (.int .i64 pkd)).set 5 (.slice A1 n1 c1)).set 6 (.int .i64 plo)).set 7 (.int .i64 phi)).set 8 (.int .i64 pva)).set 9 (.int .i64 0); simpa using this)
    have hgr2 : W1.grownBy W2 (some (w.heap.size + 1 + 1 + 1)) := by rw [← hW2]; exact grown_set (grown_set (grown_set (grown_set (grown_set (grown_set (grown_set (grown_set (grown_set (grown_set (grown_refl W1 (w.heap.size + 1 + 1 + 1)) 0 (.int .i64 1)) 1 (.string pk)) 2 (.int .i64 1)) 3 (.string pk)) 4 (.int .i64 pkd)) 5 (.slice A1 n1 c1)) 6 (.int .i64 plo)) 7 (.int .i64 phi)) 8 (.int .i64 pva)) 9 (.int .i64 0)
    have HB_2 := Lib.hid (below_grown HB_1.out hgr2 (by omega))
    have hw_2 := HB_2.out.size
    have hws_2 := hgr2.size
    have HYx_2 := Lib.hid ((Bytes.grown HYx_1.out (Nat.le_refl _) HS3_1.out rfl hgr2).more hws_2)
    clear HYx_1
    clear hW2
    clear f0_1_0 f0_1_1 f0_1_2 f0_1_3 f0_1_4 f0_1_5 HS0_1 f1_1_0 f1_1_1 f1_1_2 f1_1_3 f1_1_4 f1_1_5 f1_1_6 HS1_1 f2_1_0 f2_1_1 f2_1_2 f2_1_3 f2_1_4 f2_1_5 f2_1_6 HS2_1 f3_1_0 f3_1_1 f3_1_2 f3_1_3 f3_1_4 f3_1_5 f3_1_6 f3_1_7 f3_1_8 f3_1_9 HS3_1 hf3_1
    clear hgr2
    obtain ⟨f0_2_0, f0_2_1, f0_2_2, f0_2_3, f0_2_4, f0_2_5⟩ := str6 HS0_2.out
    have hl0_2 := HS0_2.out.lt
    obtain ⟨f1_2_0, f1_2_1, f1_2_2, f1_2_3, f1_2_4, f1_2_5, f1_2_6⟩ := str7 HS1_2.out
    have hl1_2 := HS1_2.out.lt
    obtain ⟨f2_2_0, f2_2_1, f2_2_2, f2_2_3, f2_2_4, f2_2_5, f2_2_6⟩ := str7 HS2_2.out
    have hl2_2 := HS2_2.out.lt
    obtain ⟨f3_2_0, f3_2_1, f3_2_2, f3_2_3, f3_2_4, f3_2_5, f3_2_6, f3_2_7, f3_2_8, f3_2_9⟩ := str10 HS3_2.out
    have hl3_2 := HS3_2.out.lt
    have hf3_2 := fun j => HS3_2.out.frozen j
    exact bodyPost_ret (v := .agg #[.int .i64 1, .string pk, .int .i64 1, .string pk, .int .i64 pkd, .slice A1 n1 c1, .int .i64 plo, .int .i64 phi, .int .i64 pva, .int .i64 0]) (by simp [results, Try.results40, go_sem, *]) rfl ⟨A1, n1, c1, rfl, HYx_2.out, HB_2.out⟩

set_option maxRecDepth 100000 in
set_option maxHeartbeats 1000000 in
theorem of2_s1n (Ax : Option Addr) (nx cx : Nat) (xk : ByteArray) (xda : List UInt8) (xlo xhi xn : Int) (Ap : Option Addr) (np cp Bp : Nat) (pk : ByteArray) (pkd : Int) (pda : List UInt8) (plo phi pva : Int) (Aq : Option Addr) (nq cq Bq : Nat) (qst : Int) (qk : ByteArray) (qkd : Int) (qda : List UInt8) (qlo qhi qva : Int) (w : World) (hp : Bytes w Bp Ap np cp pda) (hBp : Bp ≤ w.heap.size) (hnp : np ≤ 140737488355328) (hq : Bytes w Bq Aq nq cq qda) (hBq : Bq ≤ w.heap.size) (hnq : nq ≤ 140737488355328) (hk : ¬ pk = xk) : Calls Try.prog 40 #[.agg #[.int .i64 2, .string xk, .slice Ax nx cx, .int .i64 xlo, .int .i64 xhi, .int .i64 xn], .agg #[.int .i64 1, .string pk, .int .i64 pkd, .slice Ap np cp, .int .i64 plo, .int .i64 phi, .int .i64 pva], .agg #[.int .i64 qst, .string qk, .int .i64 qkd, .slice Aq nq cq, .int .i64 qlo, .int .i64 qhi, .int .i64 qva]] w (GivesUndo w (UndoP.of ⟨2, xk, xda, xlo, xhi, xn⟩ ⟨1, pk, ⟨pkd, pda, plo, phi, pva⟩⟩ ⟨qst, qk, ⟨qkd, qda, qlo, qhi, qva⟩⟩)) := by
  rw [UndoP.of_then _ _ _ (by simp) (fun h => hk h.2)]
  have Hp := Lib.hid hp
  have Hq := Lib.hid hq
  clear hp hq
  replace hk := key_ne hk
  go_enter Try.func40, Try.ntmps40
  go_wp2_with fail
  show Code.wp _ _ _ _ (((((w).alloc (.cells #[.int .i64 2, .string xk, .slice Ax nx cx, .int .i64 xlo, .int .i64 xhi, .int .i64 xn] 24)).alloc (.cells #[.int .i64 1, .string pk, .int .i64 pkd, .slice Ap np cp, .int .i64 plo, .int .i64 phi, .int .i64 pva] 54)).alloc (.cells #[.int .i64 2, .string qk, .int .i64 qkd, .slice Aq nq cq, .int .i64 qlo, .int .i64 qhi, .int .i64 qva] 54)).alloc (.cells #[.int .i64 0, .string ⟨#[]⟩, .int .i64 0, .string ⟨#[]⟩, .int .i64 0, .slice none 0 0, .int .i64 0, .int .i64 0, .int .i64 0, .int .i64 0] 62))
  generalize hW0 : ((((w).alloc (.cells #[.int .i64 2, .string xk, .slice Ax nx cx, .int .i64 xlo, .int .i64 xhi, .int .i64 xn] 24)).alloc (.cells #[.int .i64 1, .string pk, .int .i64 pkd, .slice Ap np cp, .int .i64 plo, .int .i64 phi, .int .i64 pva] 54)).alloc (.cells #[.int .i64 2, .string qk, .int .i64 qkd, .slice Aq nq cq, .int .i64 qlo, .int .i64 qhi, .int .i64 qva] 54)).alloc (.cells #[.int .i64 0, .string ⟨#[]⟩, .int .i64 0, .string ⟨#[]⟩, .int .i64 0, .slice none 0 0, .int .i64 0, .int .i64 0, .int .i64 0, .int .i64 0] 62) = W0
  have HS0_0 : Hid (Str W0 (w.heap.size) #[.int .i64 2, .string xk, .slice Ax nx cx, .int .i64 xlo, .int .i64 xhi, .int .i64 xn]) := Lib.hid (by rw [← hW0]; have := (((Str.new (w) #[.int .i64 2, .string xk, .slice Ax nx cx, .int .i64 xlo, .int .i64 xhi, .int .i64 xn] 24).alloc (.cells #[.int .i64 1, .string pk, .int .i64 pkd, .slice Ap np cp, .int .i64 plo, .int .i64 phi, .int .i64 pva] 54)).alloc (.cells #[.int .i64 2, .string qk, .int .i64 qkd, .slice Aq nq cq, .int .i64 qlo, .int .i64 qhi, .int .i64 qva] 54)).alloc (.cells #[.int .i64 0, .string ⟨#[]⟩, .int .i64 0, .string ⟨#[]⟩, .int .i64 0, .slice none 0 0, .int .i64 0, .int .i64 0, .int .i64 0, .int .i64 0] 62); simpa using this)
  have HS1_0 : Hid (Str W0 (w.heap.size + 1) #[.int .i64 1, .string pk, .int .i64 pkd, .slice Ap np cp, .int .i64 plo, .int .i64 phi, .int .i64 pva]) := Lib.hid (by rw [← hW0]; have := ((Str.new ((w).alloc (.cells #[.int .i64 2, .string xk, .slice Ax nx cx, .int .i64 xlo, .int .i64 xhi, .int .i64 xn] 24)) #[.int .i64 1, .string pk, .int .i64 pkd, .slice Ap np cp, .int .i64 plo, .int .i64 phi, .int .i64 pva] 54).alloc (.cells #[.int .i64 2, .string qk, .int .i64 qkd, .slice Aq nq cq, .int .i64 qlo, .int .i64 qhi, .int .i64 qva] 54)).alloc (.cells #[.int .i64 0, .string ⟨#[]⟩, .int .i64 0, .string ⟨#[]⟩, .int .i64 0, .slice none 0 0, .int .i64 0, .int .i64 0, .int .i64 0, .int .i64 0] 62); simpa using this)
  have HS2_0 : Hid (Str W0 (w.heap.size + 1 + 1) #[.int .i64 2, .string qk, .int .i64 qkd, .slice Aq nq cq, .int .i64 qlo, .int .i64 qhi, .int .i64 qva]) := Lib.hid (by rw [← hW0]; have := (Str.new (((w).alloc (.cells #[.int .i64 2, .string xk, .slice Ax nx cx, .int .i64 xlo, .int .i64 xhi, .int .i64 xn] 24)).alloc (.cells #[.int .i64 1, .string pk, .int .i64 pkd, .slice Ap np cp, .int .i64 plo, .int .i64 phi, .int .i64 pva] 54)) #[.int .i64 2, .string qk, .int .i64 qkd, .slice Aq nq cq, .int .i64 qlo, .int .i64 qhi, .int .i64 qva] 54).alloc (.cells #[.int .i64 0, .string ⟨#[]⟩, .int .i64 0, .string ⟨#[]⟩, .int .i64 0, .slice none 0 0, .int .i64 0, .int .i64 0, .int .i64 0, .int .i64 0] 62); simpa using this)
  have HS3_0 : Hid (Str W0 (w.heap.size + 1 + 1 + 1) #[.int .i64 0, .string ⟨#[]⟩, .int .i64 0, .string ⟨#[]⟩, .int .i64 0, .slice none 0 0, .int .i64 0, .int .i64 0, .int .i64 0, .int .i64 0]) := Lib.hid (by rw [← hW0]; have := Str.new ((((w).alloc (.cells #[.int .i64 2, .string xk, .slice Ax nx cx, .int .i64 xlo, .int .i64 xhi, .int .i64 xn] 24)).alloc (.cells #[.int .i64 1, .string pk, .int .i64 pkd, .slice Ap np cp, .int .i64 plo, .int .i64 phi, .int .i64 pva] 54)).alloc (.cells #[.int .i64 2, .string qk, .int .i64 qkd, .slice Aq nq cq, .int .i64 qlo, .int .i64 qhi, .int .i64 qva] 54)) #[.int .i64 0, .string ⟨#[]⟩, .int .i64 0, .string ⟨#[]⟩, .int .i64 0, .slice none 0 0, .int .i64 0, .int .i64 0, .int .i64 0, .int .i64 0] 62; simpa using this)
  have HB_0 : Hid (Below w.heap.size w W0) := Lib.hid (by rw [← hW0]; exact balloc (balloc (balloc (balloc (bsame w) _) _) _) _)
  have hw_0 := HB_0.out.size
  clear hW0
  obtain ⟨f0_0_0, f0_0_1, f0_0_2, f0_0_3, f0_0_4, f0_0_5⟩ := str6 HS0_0.out
  have hl0_0 := HS0_0.out.lt
  obtain ⟨f1_0_0, f1_0_1, f1_0_2, f1_0_3, f1_0_4, f1_0_5, f1_0_6⟩ := str7 HS1_0.out
  have hl1_0 := HS1_0.out.lt
  obtain ⟨f2_0_0, f2_0_1, f2_0_2, f2_0_3, f2_0_4, f2_0_5, f2_0_6⟩ := str7 HS2_0.out
  have hl2_0 := HS2_0.out.lt
  obtain ⟨f3_0_0, f3_0_1, f3_0_2, f3_0_3, f3_0_4, f3_0_5, f3_0_6, f3_0_7, f3_0_8, f3_0_9⟩ := str10 HS3_0.out
  have hl3_0 := HS3_0.out.lt
  have hf3_0 := fun j => HS3_0.out.frozen j
  refine Reg.wp_region_tail (R := ext) (W := W0) [Reg.eqv (.pointer (some ⟨w.heap.size, 1, none⟩)), Reg.eqv (.string xk), Reg.eqv (.agg #[.int .i64 2, .string qk, .int .i64 qkd, .slice Aq nq cq, .int .i64 qlo, .int .i64 qhi, .int .i64 qva]), Reg.itemS ⟨2, qk, ⟨qkd, qda, qlo, qhi, qva⟩⟩, Reg.undoS ⟨1, xk, ⟨2, qk, ⟨qkd, qda, qlo, qhi, qva⟩⟩, 0⟩] 56 5 _ [[(3, none)], [(40, some 0)], [(5, none)], [(42, some 2)], [(41, some 1), (43, some 3)]] rfl (by kernel_rfl) (by kernel_rfl) (by rfl) (by rfl) rfl (by kernel_rfl) ?_ [some 40, some 41, some 42, some 43, some 44] (by kernel_rfl) ?_
  · refine ⟨?_, ?_, ?_, ?_, ?_, trivial⟩
    · intro ax wx hx hs
      obtain ⟨e3, -⟩ := hs
      have g3 := Reg.ev (v := .pointer (some ⟨w.heap.size, 0, none⟩)) e3
      exact Reg.obl_free rfl (Reg.wp_eqv (Option.some_ne_none _) (by go_simp) rfl)
    · intro ax wx hx hs
      obtain ⟨e40, -⟩ := hs
      have g40 := Reg.ev (v := .pointer (some ⟨w.heap.size, 1, none⟩)) e40
      obtain ⟨hc, -⟩ := bcell hx
      exact Reg.obl_free rfl (Reg.wp_eqv (Option.some_ne_none _) (by go_simp) rfl)
    · intro ax wx hx hs
      obtain ⟨e5, -⟩ := hs
      have g5 := Reg.ev (v := .pointer (some ⟨w.heap.size + 1 + 1, 0, none⟩)) e5
      obtain ⟨hc, -⟩ := bcell hx
      exact Reg.obl_free rfl (Reg.wp_eqv (Option.some_ne_none _) (by go_simp) rfl)
    · intro ax wx hx hs
      obtain ⟨e42, -⟩ := hs
      have g42 := Reg.ev (v := .agg #[.int .i64 2, .string qk, .int .i64 qkd, .slice Aq nq cq, .int .i64 qlo, .int .i64 qhi, .int .i64 qva]) e42
      refine Reg.obl_free rfl ?_
      have hx' : Below W0.heap.size W0 wx := hx
      have hsz := (bstep HB_0.out hx').size
      go_simp
      refine (own_any _ _ _ Bq _ _ _ qda _ _ _ _ (Hq.out.below ((bstep HB_0.out hx').mono hBq)) (by omega) hnq).mono ?_
      rintro e wy ⟨A1, n1, c1, rfl, hy1, hby⟩
      exact Reg.done (Option.some_ne_none _) ⟨A1, n1, c1, rfl, hy1⟩ hby
    · intro ax wx hx hs
      obtain ⟨e41, e43, -⟩ := hs
      have g41 := Reg.ev (v := .string xk) e41
      refine Reg.obl_free rfl ?_
      obtain ⟨A1, n1, c1, e43, hy1⟩ := e43
      have g43 := Reg.ev e43
      exact Reg.wp_same (Option.some_ne_none _) (by go_simp) ⟨A1, n1, c1, rfl, hy1⟩
  · intro W1 hwf
    simp only [Reg.Fin]
    rintro _ rfl _ rfl _ rfl v43 h43 v44 h44
    obtain ⟨A1, n1, c1, rfl, hy1⟩ := h44
    clear h43
    have hwf' : Below W0.heap.size W0 W1 := hwf
    clear hwf
    have HS0_1 := Lib.hid (HS0_0.out.next hwf')
    have HS1_1 := Lib.hid (HS1_0.out.next hwf')
    have HS2_1 := Lib.hid (HS2_0.out.next hwf')
    have HS3_1 := Lib.hid (HS3_0.out.next hwf')
    have HB_1 := Lib.hid (bstep HB_0.out hwf')
    have hw_1 := HB_1.out.size
    have hws_1 := (hwf').size
    clear f0_0_0 f0_0_1 f0_0_2 f0_0_3 f0_0_4 f0_0_5 HS0_0 f1_0_0 f1_0_1 f1_0_2 f1_0_3 f1_0_4 f1_0_5 f1_0_6 HS1_0 f2_0_0 f2_0_1 f2_0_2 f2_0_3 f2_0_4 f2_0_5 f2_0_6 HS2_0 f3_0_0 f3_0_1 f3_0_2 f3_0_3 f3_0_4 f3_0_5 f3_0_6 f3_0_7 f3_0_8 f3_0_9 HS3_0 hf3_0
    clear hwf'
    obtain ⟨f0_1_0, f0_1_1, f0_1_2, f0_1_3, f0_1_4, f0_1_5⟩ := str6 HS0_1.out
    have hl0_1 := HS0_1.out.lt
    obtain ⟨f1_1_0, f1_1_1, f1_1_2, f1_1_3, f1_1_4, f1_1_5, f1_1_6⟩ := str7 HS1_1.out
    have hl1_1 := HS1_1.out.lt
    obtain ⟨f2_1_0, f2_1_1, f2_1_2, f2_1_3, f2_1_4, f2_1_5, f2_1_6⟩ := str7 HS2_1.out
    have hl2_1 := HS2_1.out.lt
    obtain ⟨f3_1_0, f3_1_1, f3_1_2, f3_1_3, f3_1_4, f3_1_5, f3_1_6, f3_1_7, f3_1_8, f3_1_9⟩ := str10 HS3_1.out
    have hl3_1 := HS3_1.out.lt
    have hf3_1 := fun j => HS3_1.out.frozen j
    have HYx_1 := Lib.hid (hy1)
    clear hy1
    refine Reg.Goal.mk ?_
    go_simp
    go_wp2_with fail
    generalize hW2 : ((((((((((W1).setCell ⟨w.heap.size + 1 + 1 + 1, 0, none⟩ (.int .i64 1)).setCell ⟨w.heap.size + 1 + 1 + 1, 1, none⟩ (.string xk)).setCell ⟨w.heap.size + 1 + 1 + 1, 2, none⟩ (.int .i64 2)).setCell ⟨w.heap.size + 1 + 1 + 1, 3, none⟩ (.string qk)).setCell ⟨w.heap.size + 1 + 1 + 1, 4, none⟩ (.int .i64 qkd)).setCell ⟨w.heap.size + 1 + 1 + 1, 5, none⟩ (.slice A1 n1 c1)).setCell ⟨w.heap.size + 1 + 1 + 1, 6, none⟩ (.int .i64 qlo)).setCell ⟨w.heap.size + 1 + 1 + 1, 7, none⟩ (.int .i64 qhi)).setCell ⟨w.heap.size + 1 + 1 + 1, 8, none⟩ (.int .i64 qva)).setCell ⟨w.heap.size + 1 + 1 + 1, 9, none⟩ (.int .i64 0) = W2
    have HS0_2 : Hid (Str W2 (w.heap.size) #[.int .i64 2, .string xk, .slice Ax nx cx, .int .i64 xlo, .int .i64 xhi, .int .i64 xn]) := Lib.hid (by rw [← hW2]; exact ((((((((((HS0_1.out).other 0 _ (by omega)).other 1 _ (by omega)).other 2 _ (by omega)).other 3 _ (by omega)).other 4 _ (by omega)).other 5 _ (by omega)).other 6 _ (by omega)).other 7 _ (by omega)).other 8 _ (by omega)).other 9 _ (by omega))
    have HS1_2 : Hid (Str W2 (w.heap.size + 1) #[.int .i64 1, .string pk, .int .i64 pkd, .slice Ap np cp, .int .i64 plo, .int .i64 phi, .int .i64 pva]) := Lib.hid (by rw [← hW2]; exact ((((((((((HS1_1.out).other 0 _ (by omega)).other 1 _ (by omega)).other 2 _ (by omega)).other 3 _ (by omega)).other 4 _ (by omega)).other 5 _ (by omega)).other 6 _ (by omega)).other 7 _ (by omega)).other 8 _ (by omega)).other 9 _ (by omega))
    have HS2_2 : Hid (Str W2 (w.heap.size + 1 + 1) #[.int .i64 2, .string qk, .int .i64 qkd, .slice Aq nq cq, .int .i64 qlo, .int .i64 qhi, .int .i64 qva]) := Lib.hid (by rw [← hW2]; exact ((((((((((HS2_1.out).other 0 _ (by omega)).other 1 _ (by omega)).other 2 _ (by omega)).other 3 _ (by omega)).other 4 _ (by omega)).other 5 _ (by omega)).other 6 _ (by omega)).other 7 _ (by omega)).other 8 _ (by omega)).other 9 _ (by omega))
    have HS3_2 : Hid (Str W2 (w.heap.size + 1 + 1 + 1) #[.int .i64 1, .string xk, .int .i64 2, .string qk, .int .i64 qkd, .slice A1 n1 c1, .int .i64 qlo, .int .i64 qhi, .int .i64 qva, .int .i64 0]) := Lib.hid (by rw [← hW2]; have := ((((((((((HS3_1.out).set 0 (.int .i64 1)).set 1 (.string xk)).set 2 (.int .i64 2)).set 3 (.string qk)).set 4 (.int .i64 qkd)).set 5 (.slice A1 n1 c1)).set 6 (.int .i64 qlo)).set 7 (.int .i64 qhi)).set 8 (.int .i64 qva)).set 9 (.int .i64 0); simpa using this)
    have hgr2 : W1.grownBy W2 (some (w.heap.size + 1 + 1 + 1)) := by rw [← hW2]; exact grown_set (grown_set (grown_set (grown_set (grown_set (grown_set (grown_set (grown_set (grown_set (grown_set (grown_refl W1 (w.heap.size + 1 + 1 + 1)) 0 (.int .i64 1)) 1 (.string xk)) 2 (.int .i64 2)) 3 (.string qk)) 4 (.int .i64 qkd)) 5 (.slice A1 n1 c1)) 6 (.int .i64 qlo)) 7 (.int .i64 qhi)) 8 (.int .i64 qva)) 9 (.int .i64 0)
    have HB_2 := Lib.hid (below_grown HB_1.out hgr2 (by omega))
    have hw_2 := HB_2.out.size
    have hws_2 := hgr2.size
    have HYx_2 := Lib.hid ((Bytes.grown HYx_1.out (Nat.le_refl _) HS3_1.out rfl hgr2).more hws_2)
    clear HYx_1
    clear hW2
    clear f0_1_0 f0_1_1 f0_1_2 f0_1_3 f0_1_4 f0_1_5 HS0_1 f1_1_0 f1_1_1 f1_1_2 f1_1_3 f1_1_4 f1_1_5 f1_1_6 HS1_1 f2_1_0 f2_1_1 f2_1_2 f2_1_3 f2_1_4 f2_1_5 f2_1_6 HS2_1 f3_1_0 f3_1_1 f3_1_2 f3_1_3 f3_1_4 f3_1_5 f3_1_6 f3_1_7 f3_1_8 f3_1_9 HS3_1 hf3_1
    clear hgr2
    obtain ⟨f0_2_0, f0_2_1, f0_2_2, f0_2_3, f0_2_4, f0_2_5⟩ := str6 HS0_2.out
    have hl0_2 := HS0_2.out.lt
    obtain ⟨f1_2_0, f1_2_1, f1_2_2, f1_2_3, f1_2_4, f1_2_5, f1_2_6⟩ := str7 HS1_2.out
    have hl1_2 := HS1_2.out.lt
    obtain ⟨f2_2_0, f2_2_1, f2_2_2, f2_2_3, f2_2_4, f2_2_5, f2_2_6⟩ := str7 HS2_2.out
    have hl2_2 := HS2_2.out.lt
    obtain ⟨f3_2_0, f3_2_1, f3_2_2, f3_2_3, f3_2_4, f3_2_5, f3_2_6, f3_2_7, f3_2_8, f3_2_9⟩ := str10 HS3_2.out
    have hl3_2 := HS3_2.out.lt
    have hf3_2 := fun j => HS3_2.out.frozen j
    exact bodyPost_ret (v := .agg #[.int .i64 1, .string xk, .int .i64 2, .string qk, .int .i64 qkd, .slice A1 n1 c1, .int .i64 qlo, .int .i64 qhi, .int .i64 qva, .int .i64 0]) (by simp [results, Try.results40, go_sem, *]) rfl ⟨A1, n1, c1, rfl, HYx_2.out, HB_2.out⟩

set_option maxRecDepth 100000 in
set_option maxHeartbeats 1000000 in
theorem of2_s2k (Ax : Option Addr) (nx cx : Nat) (xda : List UInt8) (xlo xhi xn : Int) (Ap : Option Addr) (np cp Bp : Nat) (pk : ByteArray) (pkd : Int) (pda : List UInt8) (plo phi pva : Int) (Aq : Option Addr) (nq cq Bq : Nat) (qst : Int) (qk : ByteArray) (qkd : Int) (qda : List UInt8) (qlo qhi qva : Int) (w : World) (hp : Bytes w Bp Ap np cp pda) (hBp : Bp ≤ w.heap.size) (hnp : np ≤ 140737488355328) (hq : Bytes w Bq Aq nq cq qda) (hBq : Bq ≤ w.heap.size) (hnq : nq ≤ 140737488355328)  : Calls Try.prog 40 #[.agg #[.int .i64 2, .string pk, .slice Ax nx cx, .int .i64 xlo, .int .i64 xhi, .int .i64 xn], .agg #[.int .i64 2, .string pk, .int .i64 pkd, .slice Ap np cp, .int .i64 plo, .int .i64 phi, .int .i64 pva], .agg #[.int .i64 qst, .string qk, .int .i64 qkd, .slice Aq nq cq, .int .i64 qlo, .int .i64 qhi, .int .i64 qva]] w (GivesUndo w (UndoP.of ⟨2, pk, xda, xlo, xhi, xn⟩ ⟨2, pk, ⟨pkd, pda, plo, phi, pva⟩⟩ ⟨qst, qk, ⟨qkd, qda, qlo, qhi, qva⟩⟩)) := by
  rw [UndoP.of_was _ _ _ (by simp) ⟨.inr rfl, rfl⟩]
  have Hp := Lib.hid hp
  have Hq := Lib.hid hq
  clear hp hq
  go_enter Try.func40, Try.ntmps40
  go_wp2_with fail
  generalize hW0 : ((((w).alloc (.cells #[.int .i64 2, .string pk, .slice Ax nx cx, .int .i64 xlo, .int .i64 xhi, .int .i64 xn] 24)).alloc (.cells #[.int .i64 2, .string pk, .int .i64 pkd, .slice Ap np cp, .int .i64 plo, .int .i64 phi, .int .i64 pva] 54)).alloc (.cells #[.int .i64 qst, .string qk, .int .i64 qkd, .slice Aq nq cq, .int .i64 qlo, .int .i64 qhi, .int .i64 qva] 54)).alloc (.cells #[.int .i64 0, .string ⟨#[]⟩, .int .i64 0, .string ⟨#[]⟩, .int .i64 0, .slice none 0 0, .int .i64 0, .int .i64 0, .int .i64 0, .int .i64 0] 62) = W0
  have HS0_0 : Hid (Str W0 (w.heap.size) #[.int .i64 2, .string pk, .slice Ax nx cx, .int .i64 xlo, .int .i64 xhi, .int .i64 xn]) := Lib.hid (by rw [← hW0]; have := (((Str.new (w) #[.int .i64 2, .string pk, .slice Ax nx cx, .int .i64 xlo, .int .i64 xhi, .int .i64 xn] 24).alloc (.cells #[.int .i64 2, .string pk, .int .i64 pkd, .slice Ap np cp, .int .i64 plo, .int .i64 phi, .int .i64 pva] 54)).alloc (.cells #[.int .i64 qst, .string qk, .int .i64 qkd, .slice Aq nq cq, .int .i64 qlo, .int .i64 qhi, .int .i64 qva] 54)).alloc (.cells #[.int .i64 0, .string ⟨#[]⟩, .int .i64 0, .string ⟨#[]⟩, .int .i64 0, .slice none 0 0, .int .i64 0, .int .i64 0, .int .i64 0, .int .i64 0] 62); simpa using this)
  have HS1_0 : Hid (Str W0 (w.heap.size + 1) #[.int .i64 2, .string pk, .int .i64 pkd, .slice Ap np cp, .int .i64 plo, .int .i64 phi, .int .i64 pva]) := Lib.hid (by rw [← hW0]; have := ((Str.new ((w).alloc (.cells #[.int .i64 2, .string pk, .slice Ax nx cx, .int .i64 xlo, .int .i64 xhi, .int .i64 xn] 24)) #[.int .i64 2, .string pk, .int .i64 pkd, .slice Ap np cp, .int .i64 plo, .int .i64 phi, .int .i64 pva] 54).alloc (.cells #[.int .i64 qst, .string qk, .int .i64 qkd, .slice Aq nq cq, .int .i64 qlo, .int .i64 qhi, .int .i64 qva] 54)).alloc (.cells #[.int .i64 0, .string ⟨#[]⟩, .int .i64 0, .string ⟨#[]⟩, .int .i64 0, .slice none 0 0, .int .i64 0, .int .i64 0, .int .i64 0, .int .i64 0] 62); simpa using this)
  have HS2_0 : Hid (Str W0 (w.heap.size + 1 + 1) #[.int .i64 qst, .string qk, .int .i64 qkd, .slice Aq nq cq, .int .i64 qlo, .int .i64 qhi, .int .i64 qva]) := Lib.hid (by rw [← hW0]; have := (Str.new (((w).alloc (.cells #[.int .i64 2, .string pk, .slice Ax nx cx, .int .i64 xlo, .int .i64 xhi, .int .i64 xn] 24)).alloc (.cells #[.int .i64 2, .string pk, .int .i64 pkd, .slice Ap np cp, .int .i64 plo, .int .i64 phi, .int .i64 pva] 54)) #[.int .i64 qst, .string qk, .int .i64 qkd, .slice Aq nq cq, .int .i64 qlo, .int .i64 qhi, .int .i64 qva] 54).alloc (.cells #[.int .i64 0, .string ⟨#[]⟩, .int .i64 0, .string ⟨#[]⟩, .int .i64 0, .slice none 0 0, .int .i64 0, .int .i64 0, .int .i64 0, .int .i64 0] 62); simpa using this)
  have HS3_0 : Hid (Str W0 (w.heap.size + 1 + 1 + 1) #[.int .i64 0, .string ⟨#[]⟩, .int .i64 0, .string ⟨#[]⟩, .int .i64 0, .slice none 0 0, .int .i64 0, .int .i64 0, .int .i64 0, .int .i64 0]) := Lib.hid (by rw [← hW0]; have := Str.new ((((w).alloc (.cells #[.int .i64 2, .string pk, .slice Ax nx cx, .int .i64 xlo, .int .i64 xhi, .int .i64 xn] 24)).alloc (.cells #[.int .i64 2, .string pk, .int .i64 pkd, .slice Ap np cp, .int .i64 plo, .int .i64 phi, .int .i64 pva] 54)).alloc (.cells #[.int .i64 qst, .string qk, .int .i64 qkd, .slice Aq nq cq, .int .i64 qlo, .int .i64 qhi, .int .i64 qva] 54)) #[.int .i64 0, .string ⟨#[]⟩, .int .i64 0, .string ⟨#[]⟩, .int .i64 0, .slice none 0 0, .int .i64 0, .int .i64 0, .int .i64 0, .int .i64 0] 62; simpa using this)
  have HB_0 : Hid (Below w.heap.size w W0) := Lib.hid (by rw [← hW0]; exact balloc (balloc (balloc (balloc (bsame w) _) _) _) _)
  have hw_0 := HB_0.out.size
  clear hW0
  obtain ⟨f0_0_0, f0_0_1, f0_0_2, f0_0_3, f0_0_4, f0_0_5⟩ := str6 HS0_0.out
  have hl0_0 := HS0_0.out.lt
  obtain ⟨f1_0_0, f1_0_1, f1_0_2, f1_0_3, f1_0_4, f1_0_5, f1_0_6⟩ := str7 HS1_0.out
  have hl1_0 := HS1_0.out.lt
  obtain ⟨f2_0_0, f2_0_1, f2_0_2, f2_0_3, f2_0_4, f2_0_5, f2_0_6⟩ := str7 HS2_0.out
  have hl2_0 := HS2_0.out.lt
  obtain ⟨f3_0_0, f3_0_1, f3_0_2, f3_0_3, f3_0_4, f3_0_5, f3_0_6, f3_0_7, f3_0_8, f3_0_9⟩ := str10 HS3_0.out
  have hl3_0 := HS3_0.out.lt
  have hf3_0 := fun j => HS3_0.out.frozen j
  refine Reg.wp_region_tail (R := ext) (W := W0) [Reg.eqv (.pointer (some ⟨w.heap.size, 1, none⟩)), Reg.eqv (.string pk), Reg.eqv (.agg #[.int .i64 2, .string pk, .int .i64 pkd, .slice Ap np cp, .int .i64 plo, .int .i64 phi, .int .i64 pva]), Reg.itemS ⟨2, pk, ⟨pkd, pda, plo, phi, pva⟩⟩, Reg.undoS ⟨1, pk, ⟨2, pk, ⟨pkd, pda, plo, phi, pva⟩⟩, 0⟩] 56 5 _ [[(3, none)], [(34, some 0)], [(4, none)], [(36, some 2)], [(35, some 1), (37, some 3)]] rfl (by kernel_rfl) (by kernel_rfl) (by rfl) (by rfl) rfl (by kernel_rfl) ?_ [some 34, some 35, some 36, some 37, some 38] (by kernel_rfl) ?_
  · refine ⟨?_, ?_, ?_, ?_, ?_, trivial⟩
    · intro ax wx hx hs
      obtain ⟨e3, -⟩ := hs
      have g3 := Reg.ev (v := .pointer (some ⟨w.heap.size, 0, none⟩)) e3
      exact Reg.obl_free rfl (Reg.wp_eqv (Option.some_ne_none _) (by go_simp) rfl)
    · intro ax wx hx hs
      obtain ⟨e34, -⟩ := hs
      have g34 := Reg.ev (v := .pointer (some ⟨w.heap.size, 1, none⟩)) e34
      obtain ⟨hc, -⟩ := bcell hx
      exact Reg.obl_free rfl (Reg.wp_eqv (Option.some_ne_none _) (by go_simp) rfl)
    · intro ax wx hx hs
      obtain ⟨e4, -⟩ := hs
      have g4 := Reg.ev (v := .pointer (some ⟨w.heap.size + 1, 0, none⟩)) e4
      obtain ⟨hc, -⟩ := bcell hx
      exact Reg.obl_free rfl (Reg.wp_eqv (Option.some_ne_none _) (by go_simp) rfl)
    · intro ax wx hx hs
      obtain ⟨e36, -⟩ := hs
      have g36 := Reg.ev (v := .agg #[.int .i64 2, .string pk, .int .i64 pkd, .slice Ap np cp, .int .i64 plo, .int .i64 phi, .int .i64 pva]) e36
      refine Reg.obl_free rfl ?_
      have hx' : Below W0.heap.size W0 wx := hx
      have hsz := (bstep HB_0.out hx').size
      go_simp
      refine (own_any _ _ _ Bp _ _ _ pda _ _ _ _ (Hp.out.below ((bstep HB_0.out hx').mono hBp)) (by omega) hnp).mono ?_
      rintro e wy ⟨A1, n1, c1, rfl, hy1, hby⟩
      exact Reg.done (Option.some_ne_none _) ⟨A1, n1, c1, rfl, hy1⟩ hby
    · intro ax wx hx hs
      obtain ⟨e35, e37, -⟩ := hs
      have g35 := Reg.ev (v := .string pk) e35
      refine Reg.obl_free rfl ?_
      obtain ⟨A1, n1, c1, e37, hy1⟩ := e37
      have g37 := Reg.ev e37
      exact Reg.wp_same (Option.some_ne_none _) (by go_simp) ⟨A1, n1, c1, rfl, hy1⟩
  · intro W1 hwf
    simp only [Reg.Fin]
    rintro _ rfl _ rfl _ rfl v37 h37 v38 h38
    obtain ⟨A1, n1, c1, rfl, hy1⟩ := h38
    clear h37
    have hwf' : Below W0.heap.size W0 W1 := hwf
    clear hwf
    have HS0_1 := Lib.hid (HS0_0.out.next hwf')
    have HS1_1 := Lib.hid (HS1_0.out.next hwf')
    have HS2_1 := Lib.hid (HS2_0.out.next hwf')
    have HS3_1 := Lib.hid (HS3_0.out.next hwf')
    have HB_1 := Lib.hid (bstep HB_0.out hwf')
    have hw_1 := HB_1.out.size
    have hws_1 := (hwf').size
    clear f0_0_0 f0_0_1 f0_0_2 f0_0_3 f0_0_4 f0_0_5 HS0_0 f1_0_0 f1_0_1 f1_0_2 f1_0_3 f1_0_4 f1_0_5 f1_0_6 HS1_0 f2_0_0 f2_0_1 f2_0_2 f2_0_3 f2_0_4 f2_0_5 f2_0_6 HS2_0 f3_0_0 f3_0_1 f3_0_2 f3_0_3 f3_0_4 f3_0_5 f3_0_6 f3_0_7 f3_0_8 f3_0_9 HS3_0 hf3_0
    clear hwf'
    obtain ⟨f0_1_0, f0_1_1, f0_1_2, f0_1_3, f0_1_4, f0_1_5⟩ := str6 HS0_1.out
    have hl0_1 := HS0_1.out.lt
    obtain ⟨f1_1_0, f1_1_1, f1_1_2, f1_1_3, f1_1_4, f1_1_5, f1_1_6⟩ := str7 HS1_1.out
    have hl1_1 := HS1_1.out.lt
    obtain ⟨f2_1_0, f2_1_1, f2_1_2, f2_1_3, f2_1_4, f2_1_5, f2_1_6⟩ := str7 HS2_1.out
    have hl2_1 := HS2_1.out.lt
    obtain ⟨f3_1_0, f3_1_1, f3_1_2, f3_1_3, f3_1_4, f3_1_5, f3_1_6, f3_1_7, f3_1_8, f3_1_9⟩ := str10 HS3_1.out
    have hl3_1 := HS3_1.out.lt
    have hf3_1 := fun j => HS3_1.out.frozen j
    have HYx_1 := Lib.hid (hy1)
    clear hy1
    refine Reg.Goal.mk ?_
    go_simp
    go_wp2_with fail
    generalize hW2 : ((((((((((W1).setCell ⟨w.heap.size + 1 + 1 + 1, 0, none⟩ (.int .i64 1)).setCell ⟨w.heap.size + 1 + 1 + 1, 1, none⟩ (.string pk)).setCell ⟨w.heap.size + 1 + 1 + 1, 2, none⟩ (.int .i64 2)).setCell ⟨w.heap.size + 1 + 1 + 1, 3, none⟩ (.string pk)).setCell ⟨w.heap.size + 1 + 1 + 1, 4, none⟩ (.int .i64 pkd)).setCell ⟨w.heap.size + 1 + 1 + 1, 5, none⟩ (.slice A1 n1 c1)).setCell ⟨w.heap.size + 1 + 1 + 1, 6, none⟩ (.int .i64 plo)).setCell ⟨w.heap.size + 1 + 1 + 1, 7, none⟩ (.int .i64 phi)).setCell ⟨w.heap.size + 1 + 1 + 1, 8, none⟩ (.int .i64 pva)).setCell ⟨w.heap.size + 1 + 1 + 1, 9, none⟩ (.int .i64 0) = W2
    have HS0_2 : Hid (Str W2 (w.heap.size) #[.int .i64 2, .string pk, .slice Ax nx cx, .int .i64 xlo, .int .i64 xhi, .int .i64 xn]) := Lib.hid (by rw [← hW2]; exact ((((((((((HS0_1.out).other 0 _ (by omega)).other 1 _ (by omega)).other 2 _ (by omega)).other 3 _ (by omega)).other 4 _ (by omega)).other 5 _ (by omega)).other 6 _ (by omega)).other 7 _ (by omega)).other 8 _ (by omega)).other 9 _ (by omega))
    have HS1_2 : Hid (Str W2 (w.heap.size + 1) #[.int .i64 2, .string pk, .int .i64 pkd, .slice Ap np cp, .int .i64 plo, .int .i64 phi, .int .i64 pva]) := Lib.hid (by rw [← hW2]; exact ((((((((((HS1_1.out).other 0 _ (by omega)).other 1 _ (by omega)).other 2 _ (by omega)).other 3 _ (by omega)).other 4 _ (by omega)).other 5 _ (by omega)).other 6 _ (by omega)).other 7 _ (by omega)).other 8 _ (by omega)).other 9 _ (by omega))
    have HS2_2 : Hid (Str W2 (w.heap.size + 1 + 1) #[.int .i64 qst, .string qk, .int .i64 qkd, .slice Aq nq cq, .int .i64 qlo, .int .i64 qhi, .int .i64 qva]) := Lib.hid (by rw [← hW2]; exact ((((((((((HS2_1.out).other 0 _ (by omega)).other 1 _ (by omega)).other 2 _ (by omega)).other 3 _ (by omega)).other 4 _ (by omega)).other 5 _ (by omega)).other 6 _ (by omega)).other 7 _ (by omega)).other 8 _ (by omega)).other 9 _ (by omega))
    have HS3_2 : Hid (Str W2 (w.heap.size + 1 + 1 + 1) #[.int .i64 1, .string pk, .int .i64 2, .string pk, .int .i64 pkd, .slice A1 n1 c1, .int .i64 plo, .int .i64 phi, .int .i64 pva, .int .i64 0]) := Lib.hid (by rw [← hW2]; have := ((((((((((HS3_1.out).set 0 (.int .i64 1)).set 1 (.string pk)).set 2 (.int .i64 2)).set 3 (.string pk)).set 4 (.int .i64 pkd)).set 5 (.slice A1 n1 c1)).set 6 (.int .i64 plo)).set 7 (.int .i64 phi)).set 8 (.int .i64 pva)).set 9 (.int .i64 0); simpa using this)
    have hgr2 : W1.grownBy W2 (some (w.heap.size + 1 + 1 + 1)) := by rw [← hW2]; exact grown_set (grown_set (grown_set (grown_set (grown_set (grown_set (grown_set (grown_set (grown_set (grown_set (grown_refl W1 (w.heap.size + 1 + 1 + 1)) 0 (.int .i64 1)) 1 (.string pk)) 2 (.int .i64 2)) 3 (.string pk)) 4 (.int .i64 pkd)) 5 (.slice A1 n1 c1)) 6 (.int .i64 plo)) 7 (.int .i64 phi)) 8 (.int .i64 pva)) 9 (.int .i64 0)
    have HB_2 := Lib.hid (below_grown HB_1.out hgr2 (by omega))
    have hw_2 := HB_2.out.size
    have hws_2 := hgr2.size
    have HYx_2 := Lib.hid ((Bytes.grown HYx_1.out (Nat.le_refl _) HS3_1.out rfl hgr2).more hws_2)
    clear HYx_1
    clear hW2
    clear f0_1_0 f0_1_1 f0_1_2 f0_1_3 f0_1_4 f0_1_5 HS0_1 f1_1_0 f1_1_1 f1_1_2 f1_1_3 f1_1_4 f1_1_5 f1_1_6 HS1_1 f2_1_0 f2_1_1 f2_1_2 f2_1_3 f2_1_4 f2_1_5 f2_1_6 HS2_1 f3_1_0 f3_1_1 f3_1_2 f3_1_3 f3_1_4 f3_1_5 f3_1_6 f3_1_7 f3_1_8 f3_1_9 HS3_1 hf3_1
    clear hgr2
    obtain ⟨f0_2_0, f0_2_1, f0_2_2, f0_2_3, f0_2_4, f0_2_5⟩ := str6 HS0_2.out
    have hl0_2 := HS0_2.out.lt
    obtain ⟨f1_2_0, f1_2_1, f1_2_2, f1_2_3, f1_2_4, f1_2_5, f1_2_6⟩ := str7 HS1_2.out
    have hl1_2 := HS1_2.out.lt
    obtain ⟨f2_2_0, f2_2_1, f2_2_2, f2_2_3, f2_2_4, f2_2_5, f2_2_6⟩ := str7 HS2_2.out
    have hl2_2 := HS2_2.out.lt
    obtain ⟨f3_2_0, f3_2_1, f3_2_2, f3_2_3, f3_2_4, f3_2_5, f3_2_6, f3_2_7, f3_2_8, f3_2_9⟩ := str10 HS3_2.out
    have hl3_2 := HS3_2.out.lt
    have hf3_2 := fun j => HS3_2.out.frozen j
    exact bodyPost_ret (v := .agg #[.int .i64 1, .string pk, .int .i64 2, .string pk, .int .i64 pkd, .slice A1 n1 c1, .int .i64 plo, .int .i64 phi, .int .i64 pva, .int .i64 0]) (by simp [results, Try.results40, go_sem, *]) rfl ⟨A1, n1, c1, rfl, HYx_2.out, HB_2.out⟩

set_option maxRecDepth 100000 in
set_option maxHeartbeats 1000000 in
theorem of2_s2n (Ax : Option Addr) (nx cx : Nat) (xk : ByteArray) (xda : List UInt8) (xlo xhi xn : Int) (Ap : Option Addr) (np cp Bp : Nat) (pk : ByteArray) (pkd : Int) (pda : List UInt8) (plo phi pva : Int) (Aq : Option Addr) (nq cq Bq : Nat) (qst : Int) (qk : ByteArray) (qkd : Int) (qda : List UInt8) (qlo qhi qva : Int) (w : World) (hp : Bytes w Bp Ap np cp pda) (hBp : Bp ≤ w.heap.size) (hnp : np ≤ 140737488355328) (hq : Bytes w Bq Aq nq cq qda) (hBq : Bq ≤ w.heap.size) (hnq : nq ≤ 140737488355328) (hk : ¬ pk = xk) : Calls Try.prog 40 #[.agg #[.int .i64 2, .string xk, .slice Ax nx cx, .int .i64 xlo, .int .i64 xhi, .int .i64 xn], .agg #[.int .i64 2, .string pk, .int .i64 pkd, .slice Ap np cp, .int .i64 plo, .int .i64 phi, .int .i64 pva], .agg #[.int .i64 qst, .string qk, .int .i64 qkd, .slice Aq nq cq, .int .i64 qlo, .int .i64 qhi, .int .i64 qva]] w (GivesUndo w (UndoP.of ⟨2, xk, xda, xlo, xhi, xn⟩ ⟨2, pk, ⟨pkd, pda, plo, phi, pva⟩⟩ ⟨qst, qk, ⟨qkd, qda, qlo, qhi, qva⟩⟩)) := by
  rw [UndoP.of_then _ _ _ (by simp) (fun h => hk h.2)]
  have Hp := Lib.hid hp
  have Hq := Lib.hid hq
  clear hp hq
  replace hk := key_ne hk
  go_enter Try.func40, Try.ntmps40
  go_wp2_with fail
  show Code.wp _ _ _ _ (((((w).alloc (.cells #[.int .i64 2, .string xk, .slice Ax nx cx, .int .i64 xlo, .int .i64 xhi, .int .i64 xn] 24)).alloc (.cells #[.int .i64 2, .string pk, .int .i64 pkd, .slice Ap np cp, .int .i64 plo, .int .i64 phi, .int .i64 pva] 54)).alloc (.cells #[.int .i64 2, .string qk, .int .i64 qkd, .slice Aq nq cq, .int .i64 qlo, .int .i64 qhi, .int .i64 qva] 54)).alloc (.cells #[.int .i64 0, .string ⟨#[]⟩, .int .i64 0, .string ⟨#[]⟩, .int .i64 0, .slice none 0 0, .int .i64 0, .int .i64 0, .int .i64 0, .int .i64 0] 62))
  generalize hW0 : ((((w).alloc (.cells #[.int .i64 2, .string xk, .slice Ax nx cx, .int .i64 xlo, .int .i64 xhi, .int .i64 xn] 24)).alloc (.cells #[.int .i64 2, .string pk, .int .i64 pkd, .slice Ap np cp, .int .i64 plo, .int .i64 phi, .int .i64 pva] 54)).alloc (.cells #[.int .i64 2, .string qk, .int .i64 qkd, .slice Aq nq cq, .int .i64 qlo, .int .i64 qhi, .int .i64 qva] 54)).alloc (.cells #[.int .i64 0, .string ⟨#[]⟩, .int .i64 0, .string ⟨#[]⟩, .int .i64 0, .slice none 0 0, .int .i64 0, .int .i64 0, .int .i64 0, .int .i64 0] 62) = W0
  have HS0_0 : Hid (Str W0 (w.heap.size) #[.int .i64 2, .string xk, .slice Ax nx cx, .int .i64 xlo, .int .i64 xhi, .int .i64 xn]) := Lib.hid (by rw [← hW0]; have := (((Str.new (w) #[.int .i64 2, .string xk, .slice Ax nx cx, .int .i64 xlo, .int .i64 xhi, .int .i64 xn] 24).alloc (.cells #[.int .i64 2, .string pk, .int .i64 pkd, .slice Ap np cp, .int .i64 plo, .int .i64 phi, .int .i64 pva] 54)).alloc (.cells #[.int .i64 2, .string qk, .int .i64 qkd, .slice Aq nq cq, .int .i64 qlo, .int .i64 qhi, .int .i64 qva] 54)).alloc (.cells #[.int .i64 0, .string ⟨#[]⟩, .int .i64 0, .string ⟨#[]⟩, .int .i64 0, .slice none 0 0, .int .i64 0, .int .i64 0, .int .i64 0, .int .i64 0] 62); simpa using this)
  have HS1_0 : Hid (Str W0 (w.heap.size + 1) #[.int .i64 2, .string pk, .int .i64 pkd, .slice Ap np cp, .int .i64 plo, .int .i64 phi, .int .i64 pva]) := Lib.hid (by rw [← hW0]; have := ((Str.new ((w).alloc (.cells #[.int .i64 2, .string xk, .slice Ax nx cx, .int .i64 xlo, .int .i64 xhi, .int .i64 xn] 24)) #[.int .i64 2, .string pk, .int .i64 pkd, .slice Ap np cp, .int .i64 plo, .int .i64 phi, .int .i64 pva] 54).alloc (.cells #[.int .i64 2, .string qk, .int .i64 qkd, .slice Aq nq cq, .int .i64 qlo, .int .i64 qhi, .int .i64 qva] 54)).alloc (.cells #[.int .i64 0, .string ⟨#[]⟩, .int .i64 0, .string ⟨#[]⟩, .int .i64 0, .slice none 0 0, .int .i64 0, .int .i64 0, .int .i64 0, .int .i64 0] 62); simpa using this)
  have HS2_0 : Hid (Str W0 (w.heap.size + 1 + 1) #[.int .i64 2, .string qk, .int .i64 qkd, .slice Aq nq cq, .int .i64 qlo, .int .i64 qhi, .int .i64 qva]) := Lib.hid (by rw [← hW0]; have := (Str.new (((w).alloc (.cells #[.int .i64 2, .string xk, .slice Ax nx cx, .int .i64 xlo, .int .i64 xhi, .int .i64 xn] 24)).alloc (.cells #[.int .i64 2, .string pk, .int .i64 pkd, .slice Ap np cp, .int .i64 plo, .int .i64 phi, .int .i64 pva] 54)) #[.int .i64 2, .string qk, .int .i64 qkd, .slice Aq nq cq, .int .i64 qlo, .int .i64 qhi, .int .i64 qva] 54).alloc (.cells #[.int .i64 0, .string ⟨#[]⟩, .int .i64 0, .string ⟨#[]⟩, .int .i64 0, .slice none 0 0, .int .i64 0, .int .i64 0, .int .i64 0, .int .i64 0] 62); simpa using this)
  have HS3_0 : Hid (Str W0 (w.heap.size + 1 + 1 + 1) #[.int .i64 0, .string ⟨#[]⟩, .int .i64 0, .string ⟨#[]⟩, .int .i64 0, .slice none 0 0, .int .i64 0, .int .i64 0, .int .i64 0, .int .i64 0]) := Lib.hid (by rw [← hW0]; have := Str.new ((((w).alloc (.cells #[.int .i64 2, .string xk, .slice Ax nx cx, .int .i64 xlo, .int .i64 xhi, .int .i64 xn] 24)).alloc (.cells #[.int .i64 2, .string pk, .int .i64 pkd, .slice Ap np cp, .int .i64 plo, .int .i64 phi, .int .i64 pva] 54)).alloc (.cells #[.int .i64 2, .string qk, .int .i64 qkd, .slice Aq nq cq, .int .i64 qlo, .int .i64 qhi, .int .i64 qva] 54)) #[.int .i64 0, .string ⟨#[]⟩, .int .i64 0, .string ⟨#[]⟩, .int .i64 0, .slice none 0 0, .int .i64 0, .int .i64 0, .int .i64 0, .int .i64 0] 62; simpa using this)
  have HB_0 : Hid (Below w.heap.size w W0) := Lib.hid (by rw [← hW0]; exact balloc (balloc (balloc (balloc (bsame w) _) _) _) _)
  have hw_0 := HB_0.out.size
  clear hW0
  obtain ⟨f0_0_0, f0_0_1, f0_0_2, f0_0_3, f0_0_4, f0_0_5⟩ := str6 HS0_0.out
  have hl0_0 := HS0_0.out.lt
  obtain ⟨f1_0_0, f1_0_1, f1_0_2, f1_0_3, f1_0_4, f1_0_5, f1_0_6⟩ := str7 HS1_0.out
  have hl1_0 := HS1_0.out.lt
  obtain ⟨f2_0_0, f2_0_1, f2_0_2, f2_0_3, f2_0_4, f2_0_5, f2_0_6⟩ := str7 HS2_0.out
  have hl2_0 := HS2_0.out.lt
  obtain ⟨f3_0_0, f3_0_1, f3_0_2, f3_0_3, f3_0_4, f3_0_5, f3_0_6, f3_0_7, f3_0_8, f3_0_9⟩ := str10 HS3_0.out
  have hl3_0 := HS3_0.out.lt
  have hf3_0 := fun j => HS3_0.out.frozen j
  refine Reg.wp_region_tail (R := ext) (W := W0) [Reg.eqv (.pointer (some ⟨w.heap.size, 1, none⟩)), Reg.eqv (.string xk), Reg.eqv (.agg #[.int .i64 2, .string qk, .int .i64 qkd, .slice Aq nq cq, .int .i64 qlo, .int .i64 qhi, .int .i64 qva]), Reg.itemS ⟨2, qk, ⟨qkd, qda, qlo, qhi, qva⟩⟩, Reg.undoS ⟨1, xk, ⟨2, qk, ⟨qkd, qda, qlo, qhi, qva⟩⟩, 0⟩] 56 5 _ [[(3, none)], [(40, some 0)], [(5, none)], [(42, some 2)], [(41, some 1), (43, some 3)]] rfl (by kernel_rfl) (by kernel_rfl) (by rfl) (by rfl) rfl (by kernel_rfl) ?_ [some 40, some 41, some 42, some 43, some 44] (by kernel_rfl) ?_
  · refine ⟨?_, ?_, ?_, ?_, ?_, trivial⟩
    · intro ax wx hx hs
      obtain ⟨e3, -⟩ := hs
      have g3 := Reg.ev (v := .pointer (some ⟨w.heap.size, 0, none⟩)) e3
      exact Reg.obl_free rfl (Reg.wp_eqv (Option.some_ne_none _) (by go_simp) rfl)
    · intro ax wx hx hs
      obtain ⟨e40, -⟩ := hs
      have g40 := Reg.ev (v := .pointer (some ⟨w.heap.size, 1, none⟩)) e40
      obtain ⟨hc, -⟩ := bcell hx
      exact Reg.obl_free rfl (Reg.wp_eqv (Option.some_ne_none _) (by go_simp) rfl)
    · intro ax wx hx hs
      obtain ⟨e5, -⟩ := hs
      have g5 := Reg.ev (v := .pointer (some ⟨w.heap.size + 1 + 1, 0, none⟩)) e5
      obtain ⟨hc, -⟩ := bcell hx
      exact Reg.obl_free rfl (Reg.wp_eqv (Option.some_ne_none _) (by go_simp) rfl)
    · intro ax wx hx hs
      obtain ⟨e42, -⟩ := hs
      have g42 := Reg.ev (v := .agg #[.int .i64 2, .string qk, .int .i64 qkd, .slice Aq nq cq, .int .i64 qlo, .int .i64 qhi, .int .i64 qva]) e42
      refine Reg.obl_free rfl ?_
      have hx' : Below W0.heap.size W0 wx := hx
      have hsz := (bstep HB_0.out hx').size
      go_simp
      refine (own_any _ _ _ Bq _ _ _ qda _ _ _ _ (Hq.out.below ((bstep HB_0.out hx').mono hBq)) (by omega) hnq).mono ?_
      rintro e wy ⟨A1, n1, c1, rfl, hy1, hby⟩
      exact Reg.done (Option.some_ne_none _) ⟨A1, n1, c1, rfl, hy1⟩ hby
    · intro ax wx hx hs
      obtain ⟨e41, e43, -⟩ := hs
      have g41 := Reg.ev (v := .string xk) e41
      refine Reg.obl_free rfl ?_
      obtain ⟨A1, n1, c1, e43, hy1⟩ := e43
      have g43 := Reg.ev e43
      exact Reg.wp_same (Option.some_ne_none _) (by go_simp) ⟨A1, n1, c1, rfl, hy1⟩
  · intro W1 hwf
    simp only [Reg.Fin]
    rintro _ rfl _ rfl _ rfl v43 h43 v44 h44
    obtain ⟨A1, n1, c1, rfl, hy1⟩ := h44
    clear h43
    have hwf' : Below W0.heap.size W0 W1 := hwf
    clear hwf
    have HS0_1 := Lib.hid (HS0_0.out.next hwf')
    have HS1_1 := Lib.hid (HS1_0.out.next hwf')
    have HS2_1 := Lib.hid (HS2_0.out.next hwf')
    have HS3_1 := Lib.hid (HS3_0.out.next hwf')
    have HB_1 := Lib.hid (bstep HB_0.out hwf')
    have hw_1 := HB_1.out.size
    have hws_1 := (hwf').size
    clear f0_0_0 f0_0_1 f0_0_2 f0_0_3 f0_0_4 f0_0_5 HS0_0 f1_0_0 f1_0_1 f1_0_2 f1_0_3 f1_0_4 f1_0_5 f1_0_6 HS1_0 f2_0_0 f2_0_1 f2_0_2 f2_0_3 f2_0_4 f2_0_5 f2_0_6 HS2_0 f3_0_0 f3_0_1 f3_0_2 f3_0_3 f3_0_4 f3_0_5 f3_0_6 f3_0_7 f3_0_8 f3_0_9 HS3_0 hf3_0
    clear hwf'
    obtain ⟨f0_1_0, f0_1_1, f0_1_2, f0_1_3, f0_1_4, f0_1_5⟩ := str6 HS0_1.out
    have hl0_1 := HS0_1.out.lt
    obtain ⟨f1_1_0, f1_1_1, f1_1_2, f1_1_3, f1_1_4, f1_1_5, f1_1_6⟩ := str7 HS1_1.out
    have hl1_1 := HS1_1.out.lt
    obtain ⟨f2_1_0, f2_1_1, f2_1_2, f2_1_3, f2_1_4, f2_1_5, f2_1_6⟩ := str7 HS2_1.out
    have hl2_1 := HS2_1.out.lt
    obtain ⟨f3_1_0, f3_1_1, f3_1_2, f3_1_3, f3_1_4, f3_1_5, f3_1_6, f3_1_7, f3_1_8, f3_1_9⟩ := str10 HS3_1.out
    have hl3_1 := HS3_1.out.lt
    have hf3_1 := fun j => HS3_1.out.frozen j
    have HYx_1 := Lib.hid (hy1)
    clear hy1
    refine Reg.Goal.mk ?_
    go_simp
    go_wp2_with fail
    generalize hW2 : ((((((((((W1).setCell ⟨w.heap.size + 1 + 1 + 1, 0, none⟩ (.int .i64 1)).setCell ⟨w.heap.size + 1 + 1 + 1, 1, none⟩ (.string xk)).setCell ⟨w.heap.size + 1 + 1 + 1, 2, none⟩ (.int .i64 2)).setCell ⟨w.heap.size + 1 + 1 + 1, 3, none⟩ (.string qk)).setCell ⟨w.heap.size + 1 + 1 + 1, 4, none⟩ (.int .i64 qkd)).setCell ⟨w.heap.size + 1 + 1 + 1, 5, none⟩ (.slice A1 n1 c1)).setCell ⟨w.heap.size + 1 + 1 + 1, 6, none⟩ (.int .i64 qlo)).setCell ⟨w.heap.size + 1 + 1 + 1, 7, none⟩ (.int .i64 qhi)).setCell ⟨w.heap.size + 1 + 1 + 1, 8, none⟩ (.int .i64 qva)).setCell ⟨w.heap.size + 1 + 1 + 1, 9, none⟩ (.int .i64 0) = W2
    have HS0_2 : Hid (Str W2 (w.heap.size) #[.int .i64 2, .string xk, .slice Ax nx cx, .int .i64 xlo, .int .i64 xhi, .int .i64 xn]) := Lib.hid (by rw [← hW2]; exact ((((((((((HS0_1.out).other 0 _ (by omega)).other 1 _ (by omega)).other 2 _ (by omega)).other 3 _ (by omega)).other 4 _ (by omega)).other 5 _ (by omega)).other 6 _ (by omega)).other 7 _ (by omega)).other 8 _ (by omega)).other 9 _ (by omega))
    have HS1_2 : Hid (Str W2 (w.heap.size + 1) #[.int .i64 2, .string pk, .int .i64 pkd, .slice Ap np cp, .int .i64 plo, .int .i64 phi, .int .i64 pva]) := Lib.hid (by rw [← hW2]; exact ((((((((((HS1_1.out).other 0 _ (by omega)).other 1 _ (by omega)).other 2 _ (by omega)).other 3 _ (by omega)).other 4 _ (by omega)).other 5 _ (by omega)).other 6 _ (by omega)).other 7 _ (by omega)).other 8 _ (by omega)).other 9 _ (by omega))
    have HS2_2 : Hid (Str W2 (w.heap.size + 1 + 1) #[.int .i64 2, .string qk, .int .i64 qkd, .slice Aq nq cq, .int .i64 qlo, .int .i64 qhi, .int .i64 qva]) := Lib.hid (by rw [← hW2]; exact ((((((((((HS2_1.out).other 0 _ (by omega)).other 1 _ (by omega)).other 2 _ (by omega)).other 3 _ (by omega)).other 4 _ (by omega)).other 5 _ (by omega)).other 6 _ (by omega)).other 7 _ (by omega)).other 8 _ (by omega)).other 9 _ (by omega))
    have HS3_2 : Hid (Str W2 (w.heap.size + 1 + 1 + 1) #[.int .i64 1, .string xk, .int .i64 2, .string qk, .int .i64 qkd, .slice A1 n1 c1, .int .i64 qlo, .int .i64 qhi, .int .i64 qva, .int .i64 0]) := Lib.hid (by rw [← hW2]; have := ((((((((((HS3_1.out).set 0 (.int .i64 1)).set 1 (.string xk)).set 2 (.int .i64 2)).set 3 (.string qk)).set 4 (.int .i64 qkd)).set 5 (.slice A1 n1 c1)).set 6 (.int .i64 qlo)).set 7 (.int .i64 qhi)).set 8 (.int .i64 qva)).set 9 (.int .i64 0); simpa using this)
    have hgr2 : W1.grownBy W2 (some (w.heap.size + 1 + 1 + 1)) := by rw [← hW2]; exact grown_set (grown_set (grown_set (grown_set (grown_set (grown_set (grown_set (grown_set (grown_set (grown_set (grown_refl W1 (w.heap.size + 1 + 1 + 1)) 0 (.int .i64 1)) 1 (.string xk)) 2 (.int .i64 2)) 3 (.string qk)) 4 (.int .i64 qkd)) 5 (.slice A1 n1 c1)) 6 (.int .i64 qlo)) 7 (.int .i64 qhi)) 8 (.int .i64 qva)) 9 (.int .i64 0)
    have HB_2 := Lib.hid (below_grown HB_1.out hgr2 (by omega))
    have hw_2 := HB_2.out.size
    have hws_2 := hgr2.size
    have HYx_2 := Lib.hid ((Bytes.grown HYx_1.out (Nat.le_refl _) HS3_1.out rfl hgr2).more hws_2)
    clear HYx_1
    clear hW2
    clear f0_1_0 f0_1_1 f0_1_2 f0_1_3 f0_1_4 f0_1_5 HS0_1 f1_1_0 f1_1_1 f1_1_2 f1_1_3 f1_1_4 f1_1_5 f1_1_6 HS1_1 f2_1_0 f2_1_1 f2_1_2 f2_1_3 f2_1_4 f2_1_5 f2_1_6 HS2_1 f3_1_0 f3_1_1 f3_1_2 f3_1_3 f3_1_4 f3_1_5 f3_1_6 f3_1_7 f3_1_8 f3_1_9 HS3_1 hf3_1
    clear hgr2
    obtain ⟨f0_2_0, f0_2_1, f0_2_2, f0_2_3, f0_2_4, f0_2_5⟩ := str6 HS0_2.out
    have hl0_2 := HS0_2.out.lt
    obtain ⟨f1_2_0, f1_2_1, f1_2_2, f1_2_3, f1_2_4, f1_2_5, f1_2_6⟩ := str7 HS1_2.out
    have hl1_2 := HS1_2.out.lt
    obtain ⟨f2_2_0, f2_2_1, f2_2_2, f2_2_3, f2_2_4, f2_2_5, f2_2_6⟩ := str7 HS2_2.out
    have hl2_2 := HS2_2.out.lt
    obtain ⟨f3_2_0, f3_2_1, f3_2_2, f3_2_3, f3_2_4, f3_2_5, f3_2_6, f3_2_7, f3_2_8, f3_2_9⟩ := str10 HS3_2.out
    have hl3_2 := HS3_2.out.lt
    have hf3_2 := fun j => HS3_2.out.frozen j
    exact bodyPost_ret (v := .agg #[.int .i64 1, .string xk, .int .i64 2, .string qk, .int .i64 qkd, .slice A1 n1 c1, .int .i64 qlo, .int .i64 qhi, .int .i64 qva, .int .i64 0]) (by simp [results, Try.results40, go_sem, *]) rfl ⟨A1, n1, c1, rfl, HYx_2.out, HB_2.out⟩

set_option maxRecDepth 100000 in
set_option maxHeartbeats 1000000 in
theorem of2_no (Ax : Option Addr) (nx cx : Nat) (xk : ByteArray) (xda : List UInt8) (xlo xhi xn : Int) (Ap : Option Addr) (np cp Bp : Nat) (pst : Int) (pk : ByteArray) (pkd : Int) (pda : List UInt8) (plo phi pva : Int) (Aq : Option Addr) (nq cq Bq : Nat) (qst : Int) (qk : ByteArray) (qkd : Int) (qda : List UInt8) (qlo qhi qva : Int) (w : World) (hp : Bytes w Bp Ap np cp pda) (hBp : Bp ≤ w.heap.size) (hnp : np ≤ 140737488355328) (hq : Bytes w Bq Aq nq cq qda) (hBq : Bq ≤ w.heap.size) (hnq : nq ≤ 140737488355328) (hs1 : ¬ pst = 1) (hs2 : ¬ pst = 2) : Calls Try.prog 40 #[.agg #[.int .i64 2, .string xk, .slice Ax nx cx, .int .i64 xlo, .int .i64 xhi, .int .i64 xn], .agg #[.int .i64 pst, .string pk, .int .i64 pkd, .slice Ap np cp, .int .i64 plo, .int .i64 phi, .int .i64 pva], .agg #[.int .i64 qst, .string qk, .int .i64 qkd, .slice Aq nq cq, .int .i64 qlo, .int .i64 qhi, .int .i64 qva]] w (GivesUndo w (UndoP.of ⟨2, xk, xda, xlo, xhi, xn⟩ ⟨pst, pk, ⟨pkd, pda, plo, phi, pva⟩⟩ ⟨qst, qk, ⟨qkd, qda, qlo, qhi, qva⟩⟩)) := by
  rw [UndoP.of_then _ _ _ (by simp) (fun h => h.1.elim hs1 hs2)]
  have Hp := Lib.hid hp
  have Hq := Lib.hid hq
  clear hp hq
  go_enter Try.func40, Try.ntmps40
  go_wp2_with fail
  show Code.wp _ _ _ _ (((((w).alloc (.cells #[.int .i64 2, .string xk, .slice Ax nx cx, .int .i64 xlo, .int .i64 xhi, .int .i64 xn] 24)).alloc (.cells #[.int .i64 pst, .string pk, .int .i64 pkd, .slice Ap np cp, .int .i64 plo, .int .i64 phi, .int .i64 pva] 54)).alloc (.cells #[.int .i64 2, .string qk, .int .i64 qkd, .slice Aq nq cq, .int .i64 qlo, .int .i64 qhi, .int .i64 qva] 54)).alloc (.cells #[.int .i64 0, .string ⟨#[]⟩, .int .i64 0, .string ⟨#[]⟩, .int .i64 0, .slice none 0 0, .int .i64 0, .int .i64 0, .int .i64 0, .int .i64 0] 62))
  generalize hW0 : ((((w).alloc (.cells #[.int .i64 2, .string xk, .slice Ax nx cx, .int .i64 xlo, .int .i64 xhi, .int .i64 xn] 24)).alloc (.cells #[.int .i64 pst, .string pk, .int .i64 pkd, .slice Ap np cp, .int .i64 plo, .int .i64 phi, .int .i64 pva] 54)).alloc (.cells #[.int .i64 2, .string qk, .int .i64 qkd, .slice Aq nq cq, .int .i64 qlo, .int .i64 qhi, .int .i64 qva] 54)).alloc (.cells #[.int .i64 0, .string ⟨#[]⟩, .int .i64 0, .string ⟨#[]⟩, .int .i64 0, .slice none 0 0, .int .i64 0, .int .i64 0, .int .i64 0, .int .i64 0] 62) = W0
  have HS0_0 : Hid (Str W0 (w.heap.size) #[.int .i64 2, .string xk, .slice Ax nx cx, .int .i64 xlo, .int .i64 xhi, .int .i64 xn]) := Lib.hid (by rw [← hW0]; have := (((Str.new (w) #[.int .i64 2, .string xk, .slice Ax nx cx, .int .i64 xlo, .int .i64 xhi, .int .i64 xn] 24).alloc (.cells #[.int .i64 pst, .string pk, .int .i64 pkd, .slice Ap np cp, .int .i64 plo, .int .i64 phi, .int .i64 pva] 54)).alloc (.cells #[.int .i64 2, .string qk, .int .i64 qkd, .slice Aq nq cq, .int .i64 qlo, .int .i64 qhi, .int .i64 qva] 54)).alloc (.cells #[.int .i64 0, .string ⟨#[]⟩, .int .i64 0, .string ⟨#[]⟩, .int .i64 0, .slice none 0 0, .int .i64 0, .int .i64 0, .int .i64 0, .int .i64 0] 62); simpa using this)
  have HS1_0 : Hid (Str W0 (w.heap.size + 1) #[.int .i64 pst, .string pk, .int .i64 pkd, .slice Ap np cp, .int .i64 plo, .int .i64 phi, .int .i64 pva]) := Lib.hid (by rw [← hW0]; have := ((Str.new ((w).alloc (.cells #[.int .i64 2, .string xk, .slice Ax nx cx, .int .i64 xlo, .int .i64 xhi, .int .i64 xn] 24)) #[.int .i64 pst, .string pk, .int .i64 pkd, .slice Ap np cp, .int .i64 plo, .int .i64 phi, .int .i64 pva] 54).alloc (.cells #[.int .i64 2, .string qk, .int .i64 qkd, .slice Aq nq cq, .int .i64 qlo, .int .i64 qhi, .int .i64 qva] 54)).alloc (.cells #[.int .i64 0, .string ⟨#[]⟩, .int .i64 0, .string ⟨#[]⟩, .int .i64 0, .slice none 0 0, .int .i64 0, .int .i64 0, .int .i64 0, .int .i64 0] 62); simpa using this)
  have HS2_0 : Hid (Str W0 (w.heap.size + 1 + 1) #[.int .i64 2, .string qk, .int .i64 qkd, .slice Aq nq cq, .int .i64 qlo, .int .i64 qhi, .int .i64 qva]) := Lib.hid (by rw [← hW0]; have := (Str.new (((w).alloc (.cells #[.int .i64 2, .string xk, .slice Ax nx cx, .int .i64 xlo, .int .i64 xhi, .int .i64 xn] 24)).alloc (.cells #[.int .i64 pst, .string pk, .int .i64 pkd, .slice Ap np cp, .int .i64 plo, .int .i64 phi, .int .i64 pva] 54)) #[.int .i64 2, .string qk, .int .i64 qkd, .slice Aq nq cq, .int .i64 qlo, .int .i64 qhi, .int .i64 qva] 54).alloc (.cells #[.int .i64 0, .string ⟨#[]⟩, .int .i64 0, .string ⟨#[]⟩, .int .i64 0, .slice none 0 0, .int .i64 0, .int .i64 0, .int .i64 0, .int .i64 0] 62); simpa using this)
  have HS3_0 : Hid (Str W0 (w.heap.size + 1 + 1 + 1) #[.int .i64 0, .string ⟨#[]⟩, .int .i64 0, .string ⟨#[]⟩, .int .i64 0, .slice none 0 0, .int .i64 0, .int .i64 0, .int .i64 0, .int .i64 0]) := Lib.hid (by rw [← hW0]; have := Str.new ((((w).alloc (.cells #[.int .i64 2, .string xk, .slice Ax nx cx, .int .i64 xlo, .int .i64 xhi, .int .i64 xn] 24)).alloc (.cells #[.int .i64 pst, .string pk, .int .i64 pkd, .slice Ap np cp, .int .i64 plo, .int .i64 phi, .int .i64 pva] 54)).alloc (.cells #[.int .i64 2, .string qk, .int .i64 qkd, .slice Aq nq cq, .int .i64 qlo, .int .i64 qhi, .int .i64 qva] 54)) #[.int .i64 0, .string ⟨#[]⟩, .int .i64 0, .string ⟨#[]⟩, .int .i64 0, .slice none 0 0, .int .i64 0, .int .i64 0, .int .i64 0, .int .i64 0] 62; simpa using this)
  have HB_0 : Hid (Below w.heap.size w W0) := Lib.hid (by rw [← hW0]; exact balloc (balloc (balloc (balloc (bsame w) _) _) _) _)
  have hw_0 := HB_0.out.size
  clear hW0
  obtain ⟨f0_0_0, f0_0_1, f0_0_2, f0_0_3, f0_0_4, f0_0_5⟩ := str6 HS0_0.out
  have hl0_0 := HS0_0.out.lt
  obtain ⟨f1_0_0, f1_0_1, f1_0_2, f1_0_3, f1_0_4, f1_0_5, f1_0_6⟩ := str7 HS1_0.out
  have hl1_0 := HS1_0.out.lt
  obtain ⟨f2_0_0, f2_0_1, f2_0_2, f2_0_3, f2_0_4, f2_0_5, f2_0_6⟩ := str7 HS2_0.out
  have hl2_0 := HS2_0.out.lt
  obtain ⟨f3_0_0, f3_0_1, f3_0_2, f3_0_3, f3_0_4, f3_0_5, f3_0_6, f3_0_7, f3_0_8, f3_0_9⟩ := str10 HS3_0.out
  have hl3_0 := HS3_0.out.lt
  have hf3_0 := fun j => HS3_0.out.frozen j
  refine Reg.wp_region_tail (R := ext) (W := W0) [Reg.eqv (.pointer (some ⟨w.heap.size, 1, none⟩)), Reg.eqv (.string xk), Reg.eqv (.agg #[.int .i64 2, .string qk, .int .i64 qkd, .slice Aq nq cq, .int .i64 qlo, .int .i64 qhi, .int .i64 qva]), Reg.itemS ⟨2, qk, ⟨qkd, qda, qlo, qhi, qva⟩⟩, Reg.undoS ⟨1, xk, ⟨2, qk, ⟨qkd, qda, qlo, qhi, qva⟩⟩, 0⟩] 56 5 _ [[(3, none)], [(40, some 0)], [(5, none)], [(42, some 2)], [(41, some 1), (43, some 3)]] rfl (by kernel_rfl) (by kernel_rfl) (by rfl) (by rfl) rfl (by kernel_rfl) ?_ [some 40, some 41, some 42, some 43, some 44] (by kernel_rfl) ?_
  · refine ⟨?_, ?_, ?_, ?_, ?_, trivial⟩
    · intro ax wx hx hs
      obtain ⟨e3, -⟩ := hs
      have g3 := Reg.ev (v := .pointer (some ⟨w.heap.size, 0, none⟩)) e3
      exact Reg.obl_free rfl (Reg.wp_eqv (Option.some_ne_none _) (by go_simp) rfl)
    · intro ax wx hx hs
      obtain ⟨e40, -⟩ := hs
      have g40 := Reg.ev (v := .pointer (some ⟨w.heap.size, 1, none⟩)) e40
      obtain ⟨hc, -⟩ := bcell hx
      exact Reg.obl_free rfl (Reg.wp_eqv (Option.some_ne_none _) (by go_simp) rfl)
    · intro ax wx hx hs
      obtain ⟨e5, -⟩ := hs
      have g5 := Reg.ev (v := .pointer (some ⟨w.heap.size + 1 + 1, 0, none⟩)) e5
      obtain ⟨hc, -⟩ := bcell hx
      exact Reg.obl_free rfl (Reg.wp_eqv (Option.some_ne_none _) (by go_simp) rfl)
    · intro ax wx hx hs
      obtain ⟨e42, -⟩ := hs
      have g42 := Reg.ev (v := .agg #[.int .i64 2, .string qk, .int .i64 qkd, .slice Aq nq cq, .int .i64 qlo, .int .i64 qhi, .int .i64 qva]) e42
      refine Reg.obl_free rfl ?_
      have hx' : Below W0.heap.size W0 wx := hx
      have hsz := (bstep HB_0.out hx').size
      go_simp
      refine (own_any _ _ _ Bq _ _ _ qda _ _ _ _ (Hq.out.below ((bstep HB_0.out hx').mono hBq)) (by omega) hnq).mono ?_
      rintro e wy ⟨A1, n1, c1, rfl, hy1, hby⟩
      exact Reg.done (Option.some_ne_none _) ⟨A1, n1, c1, rfl, hy1⟩ hby
    · intro ax wx hx hs
      obtain ⟨e41, e43, -⟩ := hs
      have g41 := Reg.ev (v := .string xk) e41
      refine Reg.obl_free rfl ?_
      obtain ⟨A1, n1, c1, e43, hy1⟩ := e43
      have g43 := Reg.ev e43
      exact Reg.wp_same (Option.some_ne_none _) (by go_simp) ⟨A1, n1, c1, rfl, hy1⟩
  · intro W1 hwf
    simp only [Reg.Fin]
    rintro _ rfl _ rfl _ rfl v43 h43 v44 h44
    obtain ⟨A1, n1, c1, rfl, hy1⟩ := h44
    clear h43
    have hwf' : Below W0.heap.size W0 W1 := hwf
    clear hwf
    have HS0_1 := Lib.hid (HS0_0.out.next hwf')
    have HS1_1 := Lib.hid (HS1_0.out.next hwf')
    have HS2_1 := Lib.hid (HS2_0.out.next hwf')
    have HS3_1 := Lib.hid (HS3_0.out.next hwf')
    have HB_1 := Lib.hid (bstep HB_0.out hwf')
    have hw_1 := HB_1.out.size
    have hws_1 := (hwf').size
    clear f0_0_0 f0_0_1 f0_0_2 f0_0_3 f0_0_4 f0_0_5 HS0_0 f1_0_0 f1_0_1 f1_0_2 f1_0_3 f1_0_4 f1_0_5 f1_0_6 HS1_0 f2_0_0 f2_0_1 f2_0_2 f2_0_3 f2_0_4 f2_0_5 f2_0_6 HS2_0 f3_0_0 f3_0_1 f3_0_2 f3_0_3 f3_0_4 f3_0_5 f3_0_6 f3_0_7 f3_0_8 f3_0_9 HS3_0 hf3_0
    clear hwf'
    obtain ⟨f0_1_0, f0_1_1, f0_1_2, f0_1_3, f0_1_4, f0_1_5⟩ := str6 HS0_1.out
    have hl0_1 := HS0_1.out.lt
    obtain ⟨f1_1_0, f1_1_1, f1_1_2, f1_1_3, f1_1_4, f1_1_5, f1_1_6⟩ := str7 HS1_1.out
    have hl1_1 := HS1_1.out.lt
    obtain ⟨f2_1_0, f2_1_1, f2_1_2, f2_1_3, f2_1_4, f2_1_5, f2_1_6⟩ := str7 HS2_1.out
    have hl2_1 := HS2_1.out.lt
    obtain ⟨f3_1_0, f3_1_1, f3_1_2, f3_1_3, f3_1_4, f3_1_5, f3_1_6, f3_1_7, f3_1_8, f3_1_9⟩ := str10 HS3_1.out
    have hl3_1 := HS3_1.out.lt
    have hf3_1 := fun j => HS3_1.out.frozen j
    have HYx_1 := Lib.hid (hy1)
    clear hy1
    refine Reg.Goal.mk ?_
    go_simp
    go_wp2_with fail
    generalize hW2 : ((((((((((W1).setCell ⟨w.heap.size + 1 + 1 + 1, 0, none⟩ (.int .i64 1)).setCell ⟨w.heap.size + 1 + 1 + 1, 1, none⟩ (.string xk)).setCell ⟨w.heap.size + 1 + 1 + 1, 2, none⟩ (.int .i64 2)).setCell ⟨w.heap.size + 1 + 1 + 1, 3, none⟩ (.string qk)).setCell ⟨w.heap.size + 1 + 1 + 1, 4, none⟩ (.int .i64 qkd)).setCell ⟨w.heap.size + 1 + 1 + 1, 5, none⟩ (.slice A1 n1 c1)).setCell ⟨w.heap.size + 1 + 1 + 1, 6, none⟩ (.int .i64 qlo)).setCell ⟨w.heap.size + 1 + 1 + 1, 7, none⟩ (.int .i64 qhi)).setCell ⟨w.heap.size + 1 + 1 + 1, 8, none⟩ (.int .i64 qva)).setCell ⟨w.heap.size + 1 + 1 + 1, 9, none⟩ (.int .i64 0) = W2
    have HS0_2 : Hid (Str W2 (w.heap.size) #[.int .i64 2, .string xk, .slice Ax nx cx, .int .i64 xlo, .int .i64 xhi, .int .i64 xn]) := Lib.hid (by rw [← hW2]; exact ((((((((((HS0_1.out).other 0 _ (by omega)).other 1 _ (by omega)).other 2 _ (by omega)).other 3 _ (by omega)).other 4 _ (by omega)).other 5 _ (by omega)).other 6 _ (by omega)).other 7 _ (by omega)).other 8 _ (by omega)).other 9 _ (by omega))
    have HS1_2 : Hid (Str W2 (w.heap.size + 1) #[.int .i64 pst, .string pk, .int .i64 pkd, .slice Ap np cp, .int .i64 plo, .int .i64 phi, .int .i64 pva]) := Lib.hid (by rw [← hW2]; exact ((((((((((HS1_1.out).other 0 _ (by omega)).other 1 _ (by omega)).other 2 _ (by omega)).other 3 _ (by omega)).other 4 _ (by omega)).other 5 _ (by omega)).other 6 _ (by omega)).other 7 _ (by omega)).other 8 _ (by omega)).other 9 _ (by omega))
    have HS2_2 : Hid (Str W2 (w.heap.size + 1 + 1) #[.int .i64 2, .string qk, .int .i64 qkd, .slice Aq nq cq, .int .i64 qlo, .int .i64 qhi, .int .i64 qva]) := Lib.hid (by rw [← hW2]; exact ((((((((((HS2_1.out).other 0 _ (by omega)).other 1 _ (by omega)).other 2 _ (by omega)).other 3 _ (by omega)).other 4 _ (by omega)).other 5 _ (by omega)).other 6 _ (by omega)).other 7 _ (by omega)).other 8 _ (by omega)).other 9 _ (by omega))
    have HS3_2 : Hid (Str W2 (w.heap.size + 1 + 1 + 1) #[.int .i64 1, .string xk, .int .i64 2, .string qk, .int .i64 qkd, .slice A1 n1 c1, .int .i64 qlo, .int .i64 qhi, .int .i64 qva, .int .i64 0]) := Lib.hid (by rw [← hW2]; have := ((((((((((HS3_1.out).set 0 (.int .i64 1)).set 1 (.string xk)).set 2 (.int .i64 2)).set 3 (.string qk)).set 4 (.int .i64 qkd)).set 5 (.slice A1 n1 c1)).set 6 (.int .i64 qlo)).set 7 (.int .i64 qhi)).set 8 (.int .i64 qva)).set 9 (.int .i64 0); simpa using this)
    have hgr2 : W1.grownBy W2 (some (w.heap.size + 1 + 1 + 1)) := by rw [← hW2]; exact grown_set (grown_set (grown_set (grown_set (grown_set (grown_set (grown_set (grown_set (grown_set (grown_set (grown_refl W1 (w.heap.size + 1 + 1 + 1)) 0 (.int .i64 1)) 1 (.string xk)) 2 (.int .i64 2)) 3 (.string qk)) 4 (.int .i64 qkd)) 5 (.slice A1 n1 c1)) 6 (.int .i64 qlo)) 7 (.int .i64 qhi)) 8 (.int .i64 qva)) 9 (.int .i64 0)
    have HB_2 := Lib.hid (below_grown HB_1.out hgr2 (by omega))
    have hw_2 := HB_2.out.size
    have hws_2 := hgr2.size
    have HYx_2 := Lib.hid ((Bytes.grown HYx_1.out (Nat.le_refl _) HS3_1.out rfl hgr2).more hws_2)
    clear HYx_1
    clear hW2
    clear f0_1_0 f0_1_1 f0_1_2 f0_1_3 f0_1_4 f0_1_5 HS0_1 f1_1_0 f1_1_1 f1_1_2 f1_1_3 f1_1_4 f1_1_5 f1_1_6 HS1_1 f2_1_0 f2_1_1 f2_1_2 f2_1_3 f2_1_4 f2_1_5 f2_1_6 HS2_1 f3_1_0 f3_1_1 f3_1_2 f3_1_3 f3_1_4 f3_1_5 f3_1_6 f3_1_7 f3_1_8 f3_1_9 HS3_1 hf3_1
    clear hgr2
    obtain ⟨f0_2_0, f0_2_1, f0_2_2, f0_2_3, f0_2_4, f0_2_5⟩ := str6 HS0_2.out
    have hl0_2 := HS0_2.out.lt
    obtain ⟨f1_2_0, f1_2_1, f1_2_2, f1_2_3, f1_2_4, f1_2_5, f1_2_6⟩ := str7 HS1_2.out
    have hl1_2 := HS1_2.out.lt
    obtain ⟨f2_2_0, f2_2_1, f2_2_2, f2_2_3, f2_2_4, f2_2_5, f2_2_6⟩ := str7 HS2_2.out
    have hl2_2 := HS2_2.out.lt
    obtain ⟨f3_2_0, f3_2_1, f3_2_2, f3_2_3, f3_2_4, f3_2_5, f3_2_6, f3_2_7, f3_2_8, f3_2_9⟩ := str10 HS3_2.out
    have hl3_2 := HS3_2.out.lt
    have hf3_2 := fun j => HS3_2.out.frozen j
    exact bodyPost_ret (v := .agg #[.int .i64 1, .string xk, .int .i64 2, .string qk, .int .i64 qkd, .slice A1 n1 c1, .int .i64 qlo, .int .i64 qhi, .int .i64 qva, .int .i64 0]) (by simp [results, Try.results40, go_sem, *]) rfl ⟨A1, n1, c1, rfl, HYx_2.out, HB_2.out⟩

set_option maxRecDepth 100000 in
set_option maxHeartbeats 1000000 in
theorem of3_s1k (Ax : Option Addr) (nx cx : Nat) (xda : List UInt8) (xlo xhi xn : Int) (Ap : Option Addr) (np cp Bp : Nat) (pk : ByteArray) (pkd : Int) (pda : List UInt8) (plo phi pva : Int) (Aq : Option Addr) (nq cq Bq : Nat) (qst : Int) (qk : ByteArray) (qkd : Int) (qda : List UInt8) (qlo qhi qva : Int) (w : World) (hp : Bytes w Bp Ap np cp pda) (hBp : Bp ≤ w.heap.size) (hnp : np ≤ 140737488355328) (hq : Bytes w Bq Aq nq cq qda) (hBq : Bq ≤ w.heap.size) (hnq : nq ≤ 140737488355328)  : Calls Try.prog 40 #[.agg #[.int .i64 3, .string pk, .slice Ax nx cx, .int .i64 xlo, .int .i64 xhi, .int .i64 xn], .agg #[.int .i64 1, .string pk, .int .i64 pkd, .slice Ap np cp, .int .i64 plo, .int .i64 phi, .int .i64 pva], .agg #[.int .i64 qst, .string qk, .int .i64 qkd, .slice Aq nq cq, .int .i64 qlo, .int .i64 qhi, .int .i64 qva]] w (GivesUndo w (UndoP.of ⟨3, pk, xda, xlo, xhi, xn⟩ ⟨1, pk, ⟨pkd, pda, plo, phi, pva⟩⟩ ⟨qst, qk, ⟨qkd, qda, qlo, qhi, qva⟩⟩)) := by
  rw [UndoP.of_was _ _ _ (by simp) ⟨.inl rfl, rfl⟩]
  have Hp := Lib.hid hp
  have Hq := Lib.hid hq
  clear hp hq
  go_enter Try.func40, Try.ntmps40
  go_wp2_with fail
  generalize hW0 : ((((w).alloc (.cells #[.int .i64 3, .string pk, .slice Ax nx cx, .int .i64 xlo, .int .i64 xhi, .int .i64 xn] 24)).alloc (.cells #[.int .i64 1, .string pk, .int .i64 pkd, .slice Ap np cp, .int .i64 plo, .int .i64 phi, .int .i64 pva] 54)).alloc (.cells #[.int .i64 qst, .string qk, .int .i64 qkd, .slice Aq nq cq, .int .i64 qlo, .int .i64 qhi, .int .i64 qva] 54)).alloc (.cells #[.int .i64 0, .string ⟨#[]⟩, .int .i64 0, .string ⟨#[]⟩, .int .i64 0, .slice none 0 0, .int .i64 0, .int .i64 0, .int .i64 0, .int .i64 0] 62) = W0
  have HS0_0 : Hid (Str W0 (w.heap.size) #[.int .i64 3, .string pk, .slice Ax nx cx, .int .i64 xlo, .int .i64 xhi, .int .i64 xn]) := Lib.hid (by rw [← hW0]; have := (((Str.new (w) #[.int .i64 3, .string pk, .slice Ax nx cx, .int .i64 xlo, .int .i64 xhi, .int .i64 xn] 24).alloc (.cells #[.int .i64 1, .string pk, .int .i64 pkd, .slice Ap np cp, .int .i64 plo, .int .i64 phi, .int .i64 pva] 54)).alloc (.cells #[.int .i64 qst, .string qk, .int .i64 qkd, .slice Aq nq cq, .int .i64 qlo, .int .i64 qhi, .int .i64 qva] 54)).alloc (.cells #[.int .i64 0, .string ⟨#[]⟩, .int .i64 0, .string ⟨#[]⟩, .int .i64 0, .slice none 0 0, .int .i64 0, .int .i64 0, .int .i64 0, .int .i64 0] 62); simpa using this)
  have HS1_0 : Hid (Str W0 (w.heap.size + 1) #[.int .i64 1, .string pk, .int .i64 pkd, .slice Ap np cp, .int .i64 plo, .int .i64 phi, .int .i64 pva]) := Lib.hid (by rw [← hW0]; have := ((Str.new ((w).alloc (.cells #[.int .i64 3, .string pk, .slice Ax nx cx, .int .i64 xlo, .int .i64 xhi, .int .i64 xn] 24)) #[.int .i64 1, .string pk, .int .i64 pkd, .slice Ap np cp, .int .i64 plo, .int .i64 phi, .int .i64 pva] 54).alloc (.cells #[.int .i64 qst, .string qk, .int .i64 qkd, .slice Aq nq cq, .int .i64 qlo, .int .i64 qhi, .int .i64 qva] 54)).alloc (.cells #[.int .i64 0, .string ⟨#[]⟩, .int .i64 0, .string ⟨#[]⟩, .int .i64 0, .slice none 0 0, .int .i64 0, .int .i64 0, .int .i64 0, .int .i64 0] 62); simpa using this)
  have HS2_0 : Hid (Str W0 (w.heap.size + 1 + 1) #[.int .i64 qst, .string qk, .int .i64 qkd, .slice Aq nq cq, .int .i64 qlo, .int .i64 qhi, .int .i64 qva]) := Lib.hid (by rw [← hW0]; have := (Str.new (((w).alloc (.cells #[.int .i64 3, .string pk, .slice Ax nx cx, .int .i64 xlo, .int .i64 xhi, .int .i64 xn] 24)).alloc (.cells #[.int .i64 1, .string pk, .int .i64 pkd, .slice Ap np cp, .int .i64 plo, .int .i64 phi, .int .i64 pva] 54)) #[.int .i64 qst, .string qk, .int .i64 qkd, .slice Aq nq cq, .int .i64 qlo, .int .i64 qhi, .int .i64 qva] 54).alloc (.cells #[.int .i64 0, .string ⟨#[]⟩, .int .i64 0, .string ⟨#[]⟩, .int .i64 0, .slice none 0 0, .int .i64 0, .int .i64 0, .int .i64 0, .int .i64 0] 62); simpa using this)
  have HS3_0 : Hid (Str W0 (w.heap.size + 1 + 1 + 1) #[.int .i64 0, .string ⟨#[]⟩, .int .i64 0, .string ⟨#[]⟩, .int .i64 0, .slice none 0 0, .int .i64 0, .int .i64 0, .int .i64 0, .int .i64 0]) := Lib.hid (by rw [← hW0]; have := Str.new ((((w).alloc (.cells #[.int .i64 3, .string pk, .slice Ax nx cx, .int .i64 xlo, .int .i64 xhi, .int .i64 xn] 24)).alloc (.cells #[.int .i64 1, .string pk, .int .i64 pkd, .slice Ap np cp, .int .i64 plo, .int .i64 phi, .int .i64 pva] 54)).alloc (.cells #[.int .i64 qst, .string qk, .int .i64 qkd, .slice Aq nq cq, .int .i64 qlo, .int .i64 qhi, .int .i64 qva] 54)) #[.int .i64 0, .string ⟨#[]⟩, .int .i64 0, .string ⟨#[]⟩, .int .i64 0, .slice none 0 0, .int .i64 0, .int .i64 0, .int .i64 0, .int .i64 0] 62; simpa using this)
  have HB_0 : Hid (Below w.heap.size w W0) := Lib.hid (by rw [← hW0]; exact balloc (balloc (balloc (balloc (bsame w) _) _) _) _)
  have hw_0 := HB_0.out.size
  clear hW0
  obtain ⟨f0_0_0, f0_0_1, f0_0_2, f0_0_3, f0_0_4, f0_0_5⟩ := str6 HS0_0.out
  have hl0_0 := HS0_0.out.lt
  obtain ⟨f1_0_0, f1_0_1, f1_0_2, f1_0_3, f1_0_4, f1_0_5, f1_0_6⟩ := str7 HS1_0.out
  have hl1_0 := HS1_0.out.lt
  obtain ⟨f2_0_0, f2_0_1, f2_0_2, f2_0_3, f2_0_4, f2_0_5, f2_0_6⟩ := str7 HS2_0.out
  have hl2_0 := HS2_0.out.lt
  obtain ⟨f3_0_0, f3_0_1, f3_0_2, f3_0_3, f3_0_4, f3_0_5, f3_0_6, f3_0_7, f3_0_8, f3_0_9⟩ := str10 HS3_0.out
  have hl3_0 := HS3_0.out.lt
  have hf3_0 := fun j => HS3_0.out.frozen j
  refine Reg.wp_region_tail (R := ext) (W := W0) [Reg.eqv (.pointer (some ⟨w.heap.size, 1, none⟩)), Reg.eqv (.string pk), Reg.eqv (.agg #[.int .i64 1, .string pk, .int .i64 pkd, .slice Ap np cp, .int .i64 plo, .int .i64 phi, .int .i64 pva]), Reg.itemS ⟨1, pk, ⟨pkd, pda, plo, phi, pva⟩⟩, Reg.undoS ⟨1, pk, ⟨1, pk, ⟨pkd, pda, plo, phi, pva⟩⟩, 0⟩] 56 5 _ [[(3, none)], [(34, some 0)], [(4, none)], [(36, some 2)], [(35, some 1), (37, some 3)]] rfl (by kernel_rfl) (by kernel_rfl) (by rfl) (by rfl) rfl (by kernel_rfl) ?_ [some 34, some 35, some 36, some 37, some 38] (by kernel_rfl) ?_
  · refine ⟨?_, ?_, ?_, ?_, ?_, trivial⟩
    · intro ax wx hx hs
      obtain ⟨e3, -⟩ := hs
      have g3 := Reg.ev (v := .pointer (some ⟨w.heap.size, 0, none⟩)) e3
      exact Reg.obl_free rfl (Reg.wp_eqv (Option.some_ne_none _) (by go_simp) rfl)
    · intro ax wx hx hs
      obtain ⟨e34, -⟩ := hs
      have g34 := Reg.ev (v := .pointer (some ⟨w.heap.size, 1, none⟩)) e34
      obtain ⟨hc, -⟩ := bcell hx
      exact Reg.obl_free rfl (Reg.wp_eqv (Option.some_ne_none _) (by go_simp) rfl)
    · intro ax wx hx hs
      obtain ⟨e4, -⟩ := hs
      have g4 := Reg.ev (v := .pointer (some ⟨w.heap.size + 1, 0, none⟩)) e4
      obtain ⟨hc, -⟩ := bcell hx
      exact Reg.obl_free rfl (Reg.wp_eqv (Option.some_ne_none _) (by go_simp) rfl)
    · intro ax wx hx hs
      obtain ⟨e36, -⟩ := hs
      have g36 := Reg.ev (v := .agg #[.int .i64 1, .string pk, .int .i64 pkd, .slice Ap np cp, .int .i64 plo, .int .i64 phi, .int .i64 pva]) e36
      refine Reg.obl_free rfl ?_
      have hx' : Below W0.heap.size W0 wx := hx
      have hsz := (bstep HB_0.out hx').size
      go_simp
      refine (own_any _ _ _ Bp _ _ _ pda _ _ _ _ (Hp.out.below ((bstep HB_0.out hx').mono hBp)) (by omega) hnp).mono ?_
      rintro e wy ⟨A1, n1, c1, rfl, hy1, hby⟩
      exact Reg.done (Option.some_ne_none _) ⟨A1, n1, c1, rfl, hy1⟩ hby
    · intro ax wx hx hs
      obtain ⟨e35, e37, -⟩ := hs
      have g35 := Reg.ev (v := .string pk) e35
      refine Reg.obl_free rfl ?_
      obtain ⟨A1, n1, c1, e37, hy1⟩ := e37
      have g37 := Reg.ev e37
      exact Reg.wp_same (Option.some_ne_none _) (by go_simp) ⟨A1, n1, c1, rfl, hy1⟩
  · intro W1 hwf
    simp only [Reg.Fin]
    rintro _ rfl _ rfl _ rfl v37 h37 v38 h38
    obtain ⟨A1, n1, c1, rfl, hy1⟩ := h38
    clear h37
    have hwf' : Below W0.heap.size W0 W1 := hwf
    clear hwf
    have HS0_1 := Lib.hid (HS0_0.out.next hwf')
    have HS1_1 := Lib.hid (HS1_0.out.next hwf')
    have HS2_1 := Lib.hid (HS2_0.out.next hwf')
    have HS3_1 := Lib.hid (HS3_0.out.next hwf')
    have HB_1 := Lib.hid (bstep HB_0.out hwf')
    have hw_1 := HB_1.out.size
    have hws_1 := (hwf').size
    clear f0_0_0 f0_0_1 f0_0_2 f0_0_3 f0_0_4 f0_0_5 HS0_0 f1_0_0 f1_0_1 f1_0_2 f1_0_3 f1_0_4 f1_0_5 f1_0_6 HS1_0 f2_0_0 f2_0_1 f2_0_2 f2_0_3 f2_0_4 f2_0_5 f2_0_6 HS2_0 f3_0_0 f3_0_1 f3_0_2 f3_0_3 f3_0_4 f3_0_5 f3_0_6 f3_0_7 f3_0_8 f3_0_9 HS3_0 hf3_0
    clear hwf'
    obtain ⟨f0_1_0, f0_1_1, f0_1_2, f0_1_3, f0_1_4, f0_1_5⟩ := str6 HS0_1.out
    have hl0_1 := HS0_1.out.lt
    obtain ⟨f1_1_0, f1_1_1, f1_1_2, f1_1_3, f1_1_4, f1_1_5, f1_1_6⟩ := str7 HS1_1.out
    have hl1_1 := HS1_1.out.lt
    obtain ⟨f2_1_0, f2_1_1, f2_1_2, f2_1_3, f2_1_4, f2_1_5, f2_1_6⟩ := str7 HS2_1.out
    have hl2_1 := HS2_1.out.lt
    obtain ⟨f3_1_0, f3_1_1, f3_1_2, f3_1_3, f3_1_4, f3_1_5, f3_1_6, f3_1_7, f3_1_8, f3_1_9⟩ := str10 HS3_1.out
    have hl3_1 := HS3_1.out.lt
    have hf3_1 := fun j => HS3_1.out.frozen j
    have HYx_1 := Lib.hid (hy1)
    clear hy1
    refine Reg.Goal.mk ?_
    go_simp
    go_wp2_with fail
    generalize hW2 : ((((((((((W1).setCell ⟨w.heap.size + 1 + 1 + 1, 0, none⟩ (.int .i64 1)).setCell ⟨w.heap.size + 1 + 1 + 1, 1, none⟩ (.string pk)).setCell ⟨w.heap.size + 1 + 1 + 1, 2, none⟩ (.int .i64 1)).setCell ⟨w.heap.size + 1 + 1 + 1, 3, none⟩ (.string pk)).setCell ⟨w.heap.size + 1 + 1 + 1, 4, none⟩ (.int .i64 pkd)).setCell ⟨w.heap.size + 1 + 1 + 1, 5, none⟩ (.slice A1 n1 c1)).setCell ⟨w.heap.size + 1 + 1 + 1, 6, none⟩ (.int .i64 plo)).setCell ⟨w.heap.size + 1 + 1 + 1, 7, none⟩ (.int .i64 phi)).setCell ⟨w.heap.size + 1 + 1 + 1, 8, none⟩ (.int .i64 pva)).setCell ⟨w.heap.size + 1 + 1 + 1, 9, none⟩ (.int .i64 0) = W2
    have HS0_2 : Hid (Str W2 (w.heap.size) #[.int .i64 3, .string pk, .slice Ax nx cx, .int .i64 xlo, .int .i64 xhi, .int .i64 xn]) := Lib.hid (by rw [← hW2]; exact ((((((((((HS0_1.out).other 0 _ (by omega)).other 1 _ (by omega)).other 2 _ (by omega)).other 3 _ (by omega)).other 4 _ (by omega)).other 5 _ (by omega)).other 6 _ (by omega)).other 7 _ (by omega)).other 8 _ (by omega)).other 9 _ (by omega))
    have HS1_2 : Hid (Str W2 (w.heap.size + 1) #[.int .i64 1, .string pk, .int .i64 pkd, .slice Ap np cp, .int .i64 plo, .int .i64 phi, .int .i64 pva]) := Lib.hid (by rw [← hW2]; exact ((((((((((HS1_1.out).other 0 _ (by omega)).other 1 _ (by omega)).other 2 _ (by omega)).other 3 _ (by omega)).other 4 _ (by omega)).other 5 _ (by omega)).other 6 _ (by omega)).other 7 _ (by omega)).other 8 _ (by omega)).other 9 _ (by omega))
    have HS2_2 : Hid (Str W2 (w.heap.size + 1 + 1) #[.int .i64 qst, .string qk, .int .i64 qkd, .slice Aq nq cq, .int .i64 qlo, .int .i64 qhi, .int .i64 qva]) := Lib.hid (by rw [← hW2]; exact ((((((((((HS2_1.out).other 0 _ (by omega)).other 1 _ (by omega)).other 2 _ (by omega)).other 3 _ (by omega)).other 4 _ (by omega)).other 5 _ (by omega)).other 6 _ (by omega)).other 7 _ (by omega)).other 8 _ (by omega)).other 9 _ (by omega))
    have HS3_2 : Hid (Str W2 (w.heap.size + 1 + 1 + 1) #[.int .i64 1, .string pk, .int .i64 1, .string pk, .int .i64 pkd, .slice A1 n1 c1, .int .i64 plo, .int .i64 phi, .int .i64 pva, .int .i64 0]) := Lib.hid (by rw [← hW2]; have := ((((((((((HS3_1.out).set 0 (.int .i64 1)).set 1 (.string pk)).set 2 (.int .i64 1)).set 3 (.string pk)).set 4 (.int .i64 pkd)).set 5 (.slice A1 n1 c1)).set 6 (.int .i64 plo)).set 7 (.int .i64 phi)).set 8 (.int .i64 pva)).set 9 (.int .i64 0); simpa using this)
    have hgr2 : W1.grownBy W2 (some (w.heap.size + 1 + 1 + 1)) := by rw [← hW2]; exact grown_set (grown_set (grown_set (grown_set (grown_set (grown_set (grown_set (grown_set (grown_set (grown_set (grown_refl W1 (w.heap.size + 1 + 1 + 1)) 0 (.int .i64 1)) 1 (.string pk)) 2 (.int .i64 1)) 3 (.string pk)) 4 (.int .i64 pkd)) 5 (.slice A1 n1 c1)) 6 (.int .i64 plo)) 7 (.int .i64 phi)) 8 (.int .i64 pva)) 9 (.int .i64 0)
    have HB_2 := Lib.hid (below_grown HB_1.out hgr2 (by omega))
    have hw_2 := HB_2.out.size
    have hws_2 := hgr2.size
    have HYx_2 := Lib.hid ((Bytes.grown HYx_1.out (Nat.le_refl _) HS3_1.out rfl hgr2).more hws_2)
    clear HYx_1
    clear hW2
    clear f0_1_0 f0_1_1 f0_1_2 f0_1_3 f0_1_4 f0_1_5 HS0_1 f1_1_0 f1_1_1 f1_1_2 f1_1_3 f1_1_4 f1_1_5 f1_1_6 HS1_1 f2_1_0 f2_1_1 f2_1_2 f2_1_3 f2_1_4 f2_1_5 f2_1_6 HS2_1 f3_1_0 f3_1_1 f3_1_2 f3_1_3 f3_1_4 f3_1_5 f3_1_6 f3_1_7 f3_1_8 f3_1_9 HS3_1 hf3_1
    clear hgr2
    obtain ⟨f0_2_0, f0_2_1, f0_2_2, f0_2_3, f0_2_4, f0_2_5⟩ := str6 HS0_2.out
    have hl0_2 := HS0_2.out.lt
    obtain ⟨f1_2_0, f1_2_1, f1_2_2, f1_2_3, f1_2_4, f1_2_5, f1_2_6⟩ := str7 HS1_2.out
    have hl1_2 := HS1_2.out.lt
    obtain ⟨f2_2_0, f2_2_1, f2_2_2, f2_2_3, f2_2_4, f2_2_5, f2_2_6⟩ := str7 HS2_2.out
    have hl2_2 := HS2_2.out.lt
    obtain ⟨f3_2_0, f3_2_1, f3_2_2, f3_2_3, f3_2_4, f3_2_5, f3_2_6, f3_2_7, f3_2_8, f3_2_9⟩ := str10 HS3_2.out
    have hl3_2 := HS3_2.out.lt
    have hf3_2 := fun j => HS3_2.out.frozen j
    exact bodyPost_ret (v := .agg #[.int .i64 1, .string pk, .int .i64 1, .string pk, .int .i64 pkd, .slice A1 n1 c1, .int .i64 plo, .int .i64 phi, .int .i64 pva, .int .i64 0]) (by simp [results, Try.results40, go_sem, *]) rfl ⟨A1, n1, c1, rfl, HYx_2.out, HB_2.out⟩

set_option maxRecDepth 100000 in
set_option maxHeartbeats 1000000 in
theorem of3_s1n (Ax : Option Addr) (nx cx : Nat) (xk : ByteArray) (xda : List UInt8) (xlo xhi xn : Int) (Ap : Option Addr) (np cp Bp : Nat) (pk : ByteArray) (pkd : Int) (pda : List UInt8) (plo phi pva : Int) (Aq : Option Addr) (nq cq Bq : Nat) (qst : Int) (qk : ByteArray) (qkd : Int) (qda : List UInt8) (qlo qhi qva : Int) (w : World) (hp : Bytes w Bp Ap np cp pda) (hBp : Bp ≤ w.heap.size) (hnp : np ≤ 140737488355328) (hq : Bytes w Bq Aq nq cq qda) (hBq : Bq ≤ w.heap.size) (hnq : nq ≤ 140737488355328) (hk : ¬ pk = xk) : Calls Try.prog 40 #[.agg #[.int .i64 3, .string xk, .slice Ax nx cx, .int .i64 xlo, .int .i64 xhi, .int .i64 xn], .agg #[.int .i64 1, .string pk, .int .i64 pkd, .slice Ap np cp, .int .i64 plo, .int .i64 phi, .int .i64 pva], .agg #[.int .i64 qst, .string qk, .int .i64 qkd, .slice Aq nq cq, .int .i64 qlo, .int .i64 qhi, .int .i64 qva]] w (GivesUndo w (UndoP.of ⟨3, xk, xda, xlo, xhi, xn⟩ ⟨1, pk, ⟨pkd, pda, plo, phi, pva⟩⟩ ⟨qst, qk, ⟨qkd, qda, qlo, qhi, qva⟩⟩)) := by
  rw [UndoP.of_then _ _ _ (by simp) (fun h => hk h.2)]
  have Hp := Lib.hid hp
  have Hq := Lib.hid hq
  clear hp hq
  replace hk := key_ne hk
  go_enter Try.func40, Try.ntmps40
  go_wp2_with fail
  show Code.wp _ _ _ _ (((((w).alloc (.cells #[.int .i64 3, .string xk, .slice Ax nx cx, .int .i64 xlo, .int .i64 xhi, .int .i64 xn] 24)).alloc (.cells #[.int .i64 1, .string pk, .int .i64 pkd, .slice Ap np cp, .int .i64 plo, .int .i64 phi, .int .i64 pva] 54)).alloc (.cells #[.int .i64 2, .string qk, .int .i64 qkd, .slice Aq nq cq, .int .i64 qlo, .int .i64 qhi, .int .i64 qva] 54)).alloc (.cells #[.int .i64 0, .string ⟨#[]⟩, .int .i64 0, .string ⟨#[]⟩, .int .i64 0, .slice none 0 0, .int .i64 0, .int .i64 0, .int .i64 0, .int .i64 0] 62))
  generalize hW0 : ((((w).alloc (.cells #[.int .i64 3, .string xk, .slice Ax nx cx, .int .i64 xlo, .int .i64 xhi, .int .i64 xn] 24)).alloc (.cells #[.int .i64 1, .string pk, .int .i64 pkd, .slice Ap np cp, .int .i64 plo, .int .i64 phi, .int .i64 pva] 54)).alloc (.cells #[.int .i64 2, .string qk, .int .i64 qkd, .slice Aq nq cq, .int .i64 qlo, .int .i64 qhi, .int .i64 qva] 54)).alloc (.cells #[.int .i64 0, .string ⟨#[]⟩, .int .i64 0, .string ⟨#[]⟩, .int .i64 0, .slice none 0 0, .int .i64 0, .int .i64 0, .int .i64 0, .int .i64 0] 62) = W0
  have HS0_0 : Hid (Str W0 (w.heap.size) #[.int .i64 3, .string xk, .slice Ax nx cx, .int .i64 xlo, .int .i64 xhi, .int .i64 xn]) := Lib.hid (by rw [← hW0]; have := (((Str.new (w) #[.int .i64 3, .string xk, .slice Ax nx cx, .int .i64 xlo, .int .i64 xhi, .int .i64 xn] 24).alloc (.cells #[.int .i64 1, .string pk, .int .i64 pkd, .slice Ap np cp, .int .i64 plo, .int .i64 phi, .int .i64 pva] 54)).alloc (.cells #[.int .i64 2, .string qk, .int .i64 qkd, .slice Aq nq cq, .int .i64 qlo, .int .i64 qhi, .int .i64 qva] 54)).alloc (.cells #[.int .i64 0, .string ⟨#[]⟩, .int .i64 0, .string ⟨#[]⟩, .int .i64 0, .slice none 0 0, .int .i64 0, .int .i64 0, .int .i64 0, .int .i64 0] 62); simpa using this)
  have HS1_0 : Hid (Str W0 (w.heap.size + 1) #[.int .i64 1, .string pk, .int .i64 pkd, .slice Ap np cp, .int .i64 plo, .int .i64 phi, .int .i64 pva]) := Lib.hid (by rw [← hW0]; have := ((Str.new ((w).alloc (.cells #[.int .i64 3, .string xk, .slice Ax nx cx, .int .i64 xlo, .int .i64 xhi, .int .i64 xn] 24)) #[.int .i64 1, .string pk, .int .i64 pkd, .slice Ap np cp, .int .i64 plo, .int .i64 phi, .int .i64 pva] 54).alloc (.cells #[.int .i64 2, .string qk, .int .i64 qkd, .slice Aq nq cq, .int .i64 qlo, .int .i64 qhi, .int .i64 qva] 54)).alloc (.cells #[.int .i64 0, .string ⟨#[]⟩, .int .i64 0, .string ⟨#[]⟩, .int .i64 0, .slice none 0 0, .int .i64 0, .int .i64 0, .int .i64 0, .int .i64 0] 62); simpa using this)
  have HS2_0 : Hid (Str W0 (w.heap.size + 1 + 1) #[.int .i64 2, .string qk, .int .i64 qkd, .slice Aq nq cq, .int .i64 qlo, .int .i64 qhi, .int .i64 qva]) := Lib.hid (by rw [← hW0]; have := (Str.new (((w).alloc (.cells #[.int .i64 3, .string xk, .slice Ax nx cx, .int .i64 xlo, .int .i64 xhi, .int .i64 xn] 24)).alloc (.cells #[.int .i64 1, .string pk, .int .i64 pkd, .slice Ap np cp, .int .i64 plo, .int .i64 phi, .int .i64 pva] 54)) #[.int .i64 2, .string qk, .int .i64 qkd, .slice Aq nq cq, .int .i64 qlo, .int .i64 qhi, .int .i64 qva] 54).alloc (.cells #[.int .i64 0, .string ⟨#[]⟩, .int .i64 0, .string ⟨#[]⟩, .int .i64 0, .slice none 0 0, .int .i64 0, .int .i64 0, .int .i64 0, .int .i64 0] 62); simpa using this)
  have HS3_0 : Hid (Str W0 (w.heap.size + 1 + 1 + 1) #[.int .i64 0, .string ⟨#[]⟩, .int .i64 0, .string ⟨#[]⟩, .int .i64 0, .slice none 0 0, .int .i64 0, .int .i64 0, .int .i64 0, .int .i64 0]) := Lib.hid (by rw [← hW0]; have := Str.new ((((w).alloc (.cells #[.int .i64 3, .string xk, .slice Ax nx cx, .int .i64 xlo, .int .i64 xhi, .int .i64 xn] 24)).alloc (.cells #[.int .i64 1, .string pk, .int .i64 pkd, .slice Ap np cp, .int .i64 plo, .int .i64 phi, .int .i64 pva] 54)).alloc (.cells #[.int .i64 2, .string qk, .int .i64 qkd, .slice Aq nq cq, .int .i64 qlo, .int .i64 qhi, .int .i64 qva] 54)) #[.int .i64 0, .string ⟨#[]⟩, .int .i64 0, .string ⟨#[]⟩, .int .i64 0, .slice none 0 0, .int .i64 0, .int .i64 0, .int .i64 0, .int .i64 0] 62; simpa using this)
  have HB_0 : Hid (Below w.heap.size w W0) := Lib.hid (by rw [← hW0]; exact balloc (balloc (balloc (balloc (bsame w) _) _) _) _)
  have hw_0 := HB_0.out.size
  clear hW0
  obtain ⟨f0_0_0, f0_0_1, f0_0_2, f0_0_3, f0_0_4, f0_0_5⟩ := str6 HS0_0.out
  have hl0_0 := HS0_0.out.lt
  obtain ⟨f1_0_0, f1_0_1, f1_0_2, f1_0_3, f1_0_4, f1_0_5, f1_0_6⟩ := str7 HS1_0.out
  have hl1_0 := HS1_0.out.lt
  obtain ⟨f2_0_0, f2_0_1, f2_0_2, f2_0_3, f2_0_4, f2_0_5, f2_0_6⟩ := str7 HS2_0.out
  have hl2_0 := HS2_0.out.lt
  obtain ⟨f3_0_0, f3_0_1, f3_0_2, f3_0_3, f3_0_4, f3_0_5, f3_0_6, f3_0_7, f3_0_8, f3_0_9⟩ := str10 HS3_0.out
  have hl3_0 := HS3_0.out.lt
  have hf3_0 := fun j => HS3_0.out.frozen j
  refine Reg.wp_region_tail (R := ext) (W := W0) [Reg.eqv (.pointer (some ⟨w.heap.size, 1, none⟩)), Reg.eqv (.string xk), Reg.eqv (.agg #[.int .i64 2, .string qk, .int .i64 qkd, .slice Aq nq cq, .int .i64 qlo, .int .i64 qhi, .int .i64 qva]), Reg.itemS ⟨2, qk, ⟨qkd, qda, qlo, qhi, qva⟩⟩, Reg.undoS ⟨1, xk, ⟨2, qk, ⟨qkd, qda, qlo, qhi, qva⟩⟩, 0⟩] 56 5 _ [[(3, none)], [(40, some 0)], [(5, none)], [(42, some 2)], [(41, some 1), (43, some 3)]] rfl (by kernel_rfl) (by kernel_rfl) (by rfl) (by rfl) rfl (by kernel_rfl) ?_ [some 40, some 41, some 42, some 43, some 44] (by kernel_rfl) ?_
  · refine ⟨?_, ?_, ?_, ?_, ?_, trivial⟩
    · intro ax wx hx hs
      obtain ⟨e3, -⟩ := hs
      have g3 := Reg.ev (v := .pointer (some ⟨w.heap.size, 0, none⟩)) e3
      exact Reg.obl_free rfl (Reg.wp_eqv (Option.some_ne_none _) (by go_simp) rfl)
    · intro ax wx hx hs
      obtain ⟨e40, -⟩ := hs
      have g40 := Reg.ev (v := .pointer (some ⟨w.heap.size, 1, none⟩)) e40
      obtain ⟨hc, -⟩ := bcell hx
      exact Reg.obl_free rfl (Reg.wp_eqv (Option.some_ne_none _) (by go_simp) rfl)
    · intro ax wx hx hs
      obtain ⟨e5, -⟩ := hs
      have g5 := Reg.ev (v := .pointer (some ⟨w.heap.size + 1 + 1, 0, none⟩)) e5
      obtain ⟨hc, -⟩ := bcell hx
      exact Reg.obl_free rfl (Reg.wp_eqv (Option.some_ne_none _) (by go_simp) rfl)
    · intro ax wx hx hs
      obtain ⟨e42, -⟩ := hs
      have g42 := Reg.ev (v := .agg #[.int .i64 2, .string qk, .int .i64 qkd, .slice Aq nq cq, .int .i64 qlo, .int .i64 qhi, .int .i64 qva]) e42
      refine Reg.obl_free rfl ?_
      have hx' : Below W0.heap.size W0 wx := hx
      have hsz := (bstep HB_0.out hx').size
      go_simp
      refine (own_any _ _ _ Bq _ _ _ qda _ _ _ _ (Hq.out.below ((bstep HB_0.out hx').mono hBq)) (by omega) hnq).mono ?_
      rintro e wy ⟨A1, n1, c1, rfl, hy1, hby⟩
      exact Reg.done (Option.some_ne_none _) ⟨A1, n1, c1, rfl, hy1⟩ hby
    · intro ax wx hx hs
      obtain ⟨e41, e43, -⟩ := hs
      have g41 := Reg.ev (v := .string xk) e41
      refine Reg.obl_free rfl ?_
      obtain ⟨A1, n1, c1, e43, hy1⟩ := e43
      have g43 := Reg.ev e43
      exact Reg.wp_same (Option.some_ne_none _) (by go_simp) ⟨A1, n1, c1, rfl, hy1⟩
  · intro W1 hwf
    simp only [Reg.Fin]
    rintro _ rfl _ rfl _ rfl v43 h43 v44 h44
    obtain ⟨A1, n1, c1, rfl, hy1⟩ := h44
    clear h43
    have hwf' : Below W0.heap.size W0 W1 := hwf
    clear hwf
    have HS0_1 := Lib.hid (HS0_0.out.next hwf')
    have HS1_1 := Lib.hid (HS1_0.out.next hwf')
    have HS2_1 := Lib.hid (HS2_0.out.next hwf')
    have HS3_1 := Lib.hid (HS3_0.out.next hwf')
    have HB_1 := Lib.hid (bstep HB_0.out hwf')
    have hw_1 := HB_1.out.size
    have hws_1 := (hwf').size
    clear f0_0_0 f0_0_1 f0_0_2 f0_0_3 f0_0_4 f0_0_5 HS0_0 f1_0_0 f1_0_1 f1_0_2 f1_0_3 f1_0_4 f1_0_5 f1_0_6 HS1_0 f2_0_0 f2_0_1 f2_0_2 f2_0_3 f2_0_4 f2_0_5 f2_0_6 HS2_0 f3_0_0 f3_0_1 f3_0_2 f3_0_3 f3_0_4 f3_0_5 f3_0_6 f3_0_7 f3_0_8 f3_0_9 HS3_0 hf3_0
    clear hwf'
    obtain ⟨f0_1_0, f0_1_1, f0_1_2, f0_1_3, f0_1_4, f0_1_5⟩ := str6 HS0_1.out
    have hl0_1 := HS0_1.out.lt
    obtain ⟨f1_1_0, f1_1_1, f1_1_2, f1_1_3, f1_1_4, f1_1_5, f1_1_6⟩ := str7 HS1_1.out
    have hl1_1 := HS1_1.out.lt
    obtain ⟨f2_1_0, f2_1_1, f2_1_2, f2_1_3, f2_1_4, f2_1_5, f2_1_6⟩ := str7 HS2_1.out
    have hl2_1 := HS2_1.out.lt
    obtain ⟨f3_1_0, f3_1_1, f3_1_2, f3_1_3, f3_1_4, f3_1_5, f3_1_6, f3_1_7, f3_1_8, f3_1_9⟩ := str10 HS3_1.out
    have hl3_1 := HS3_1.out.lt
    have hf3_1 := fun j => HS3_1.out.frozen j
    have HYx_1 := Lib.hid (hy1)
    clear hy1
    refine Reg.Goal.mk ?_
    go_simp
    go_wp2_with fail
    generalize hW2 : ((((((((((W1).setCell ⟨w.heap.size + 1 + 1 + 1, 0, none⟩ (.int .i64 1)).setCell ⟨w.heap.size + 1 + 1 + 1, 1, none⟩ (.string xk)).setCell ⟨w.heap.size + 1 + 1 + 1, 2, none⟩ (.int .i64 2)).setCell ⟨w.heap.size + 1 + 1 + 1, 3, none⟩ (.string qk)).setCell ⟨w.heap.size + 1 + 1 + 1, 4, none⟩ (.int .i64 qkd)).setCell ⟨w.heap.size + 1 + 1 + 1, 5, none⟩ (.slice A1 n1 c1)).setCell ⟨w.heap.size + 1 + 1 + 1, 6, none⟩ (.int .i64 qlo)).setCell ⟨w.heap.size + 1 + 1 + 1, 7, none⟩ (.int .i64 qhi)).setCell ⟨w.heap.size + 1 + 1 + 1, 8, none⟩ (.int .i64 qva)).setCell ⟨w.heap.size + 1 + 1 + 1, 9, none⟩ (.int .i64 0) = W2
    have HS0_2 : Hid (Str W2 (w.heap.size) #[.int .i64 3, .string xk, .slice Ax nx cx, .int .i64 xlo, .int .i64 xhi, .int .i64 xn]) := Lib.hid (by rw [← hW2]; exact ((((((((((HS0_1.out).other 0 _ (by omega)).other 1 _ (by omega)).other 2 _ (by omega)).other 3 _ (by omega)).other 4 _ (by omega)).other 5 _ (by omega)).other 6 _ (by omega)).other 7 _ (by omega)).other 8 _ (by omega)).other 9 _ (by omega))
    have HS1_2 : Hid (Str W2 (w.heap.size + 1) #[.int .i64 1, .string pk, .int .i64 pkd, .slice Ap np cp, .int .i64 plo, .int .i64 phi, .int .i64 pva]) := Lib.hid (by rw [← hW2]; exact ((((((((((HS1_1.out).other 0 _ (by omega)).other 1 _ (by omega)).other 2 _ (by omega)).other 3 _ (by omega)).other 4 _ (by omega)).other 5 _ (by omega)).other 6 _ (by omega)).other 7 _ (by omega)).other 8 _ (by omega)).other 9 _ (by omega))
    have HS2_2 : Hid (Str W2 (w.heap.size + 1 + 1) #[.int .i64 2, .string qk, .int .i64 qkd, .slice Aq nq cq, .int .i64 qlo, .int .i64 qhi, .int .i64 qva]) := Lib.hid (by rw [← hW2]; exact ((((((((((HS2_1.out).other 0 _ (by omega)).other 1 _ (by omega)).other 2 _ (by omega)).other 3 _ (by omega)).other 4 _ (by omega)).other 5 _ (by omega)).other 6 _ (by omega)).other 7 _ (by omega)).other 8 _ (by omega)).other 9 _ (by omega))
    have HS3_2 : Hid (Str W2 (w.heap.size + 1 + 1 + 1) #[.int .i64 1, .string xk, .int .i64 2, .string qk, .int .i64 qkd, .slice A1 n1 c1, .int .i64 qlo, .int .i64 qhi, .int .i64 qva, .int .i64 0]) := Lib.hid (by rw [← hW2]; have := ((((((((((HS3_1.out).set 0 (.int .i64 1)).set 1 (.string xk)).set 2 (.int .i64 2)).set 3 (.string qk)).set 4 (.int .i64 qkd)).set 5 (.slice A1 n1 c1)).set 6 (.int .i64 qlo)).set 7 (.int .i64 qhi)).set 8 (.int .i64 qva)).set 9 (.int .i64 0); simpa using this)
    have hgr2 : W1.grownBy W2 (some (w.heap.size + 1 + 1 + 1)) := by rw [← hW2]; exact grown_set (grown_set (grown_set (grown_set (grown_set (grown_set (grown_set (grown_set (grown_set (grown_set (grown_refl W1 (w.heap.size + 1 + 1 + 1)) 0 (.int .i64 1)) 1 (.string xk)) 2 (.int .i64 2)) 3 (.string qk)) 4 (.int .i64 qkd)) 5 (.slice A1 n1 c1)) 6 (.int .i64 qlo)) 7 (.int .i64 qhi)) 8 (.int .i64 qva)) 9 (.int .i64 0)
    have HB_2 := Lib.hid (below_grown HB_1.out hgr2 (by omega))
    have hw_2 := HB_2.out.size
    have hws_2 := hgr2.size
    have HYx_2 := Lib.hid ((Bytes.grown HYx_1.out (Nat.le_refl _) HS3_1.out rfl hgr2).more hws_2)
    clear HYx_1
    clear hW2
    clear f0_1_0 f0_1_1 f0_1_2 f0_1_3 f0_1_4 f0_1_5 HS0_1 f1_1_0 f1_1_1 f1_1_2 f1_1_3 f1_1_4 f1_1_5 f1_1_6 HS1_1 f2_1_0 f2_1_1 f2_1_2 f2_1_3 f2_1_4 f2_1_5 f2_1_6 HS2_1 f3_1_0 f3_1_1 f3_1_2 f3_1_3 f3_1_4 f3_1_5 f3_1_6 f3_1_7 f3_1_8 f3_1_9 HS3_1 hf3_1
    clear hgr2
    obtain ⟨f0_2_0, f0_2_1, f0_2_2, f0_2_3, f0_2_4, f0_2_5⟩ := str6 HS0_2.out
    have hl0_2 := HS0_2.out.lt
    obtain ⟨f1_2_0, f1_2_1, f1_2_2, f1_2_3, f1_2_4, f1_2_5, f1_2_6⟩ := str7 HS1_2.out
    have hl1_2 := HS1_2.out.lt
    obtain ⟨f2_2_0, f2_2_1, f2_2_2, f2_2_3, f2_2_4, f2_2_5, f2_2_6⟩ := str7 HS2_2.out
    have hl2_2 := HS2_2.out.lt
    obtain ⟨f3_2_0, f3_2_1, f3_2_2, f3_2_3, f3_2_4, f3_2_5, f3_2_6, f3_2_7, f3_2_8, f3_2_9⟩ := str10 HS3_2.out
    have hl3_2 := HS3_2.out.lt
    have hf3_2 := fun j => HS3_2.out.frozen j
    exact bodyPost_ret (v := .agg #[.int .i64 1, .string xk, .int .i64 2, .string qk, .int .i64 qkd, .slice A1 n1 c1, .int .i64 qlo, .int .i64 qhi, .int .i64 qva, .int .i64 0]) (by simp [results, Try.results40, go_sem, *]) rfl ⟨A1, n1, c1, rfl, HYx_2.out, HB_2.out⟩

set_option maxRecDepth 100000 in
set_option maxHeartbeats 1000000 in
theorem of3_s2k (Ax : Option Addr) (nx cx : Nat) (xda : List UInt8) (xlo xhi xn : Int) (Ap : Option Addr) (np cp Bp : Nat) (pk : ByteArray) (pkd : Int) (pda : List UInt8) (plo phi pva : Int) (Aq : Option Addr) (nq cq Bq : Nat) (qst : Int) (qk : ByteArray) (qkd : Int) (qda : List UInt8) (qlo qhi qva : Int) (w : World) (hp : Bytes w Bp Ap np cp pda) (hBp : Bp ≤ w.heap.size) (hnp : np ≤ 140737488355328) (hq : Bytes w Bq Aq nq cq qda) (hBq : Bq ≤ w.heap.size) (hnq : nq ≤ 140737488355328)  : Calls Try.prog 40 #[.agg #[.int .i64 3, .string pk, .slice Ax nx cx, .int .i64 xlo, .int .i64 xhi, .int .i64 xn], .agg #[.int .i64 2, .string pk, .int .i64 pkd, .slice Ap np cp, .int .i64 plo, .int .i64 phi, .int .i64 pva], .agg #[.int .i64 qst, .string qk, .int .i64 qkd, .slice Aq nq cq, .int .i64 qlo, .int .i64 qhi, .int .i64 qva]] w (GivesUndo w (UndoP.of ⟨3, pk, xda, xlo, xhi, xn⟩ ⟨2, pk, ⟨pkd, pda, plo, phi, pva⟩⟩ ⟨qst, qk, ⟨qkd, qda, qlo, qhi, qva⟩⟩)) := by
  rw [UndoP.of_was _ _ _ (by simp) ⟨.inr rfl, rfl⟩]
  have Hp := Lib.hid hp
  have Hq := Lib.hid hq
  clear hp hq
  go_enter Try.func40, Try.ntmps40
  go_wp2_with fail
  generalize hW0 : ((((w).alloc (.cells #[.int .i64 3, .string pk, .slice Ax nx cx, .int .i64 xlo, .int .i64 xhi, .int .i64 xn] 24)).alloc (.cells #[.int .i64 2, .string pk, .int .i64 pkd, .slice Ap np cp, .int .i64 plo, .int .i64 phi, .int .i64 pva] 54)).alloc (.cells #[.int .i64 qst, .string qk, .int .i64 qkd, .slice Aq nq cq, .int .i64 qlo, .int .i64 qhi, .int .i64 qva] 54)).alloc (.cells #[.int .i64 0, .string ⟨#[]⟩, .int .i64 0, .string ⟨#[]⟩, .int .i64 0, .slice none 0 0, .int .i64 0, .int .i64 0, .int .i64 0, .int .i64 0] 62) = W0
  have HS0_0 : Hid (Str W0 (w.heap.size) #[.int .i64 3, .string pk, .slice Ax nx cx, .int .i64 xlo, .int .i64 xhi, .int .i64 xn]) := Lib.hid (by rw [← hW0]; have := (((Str.new (w) #[.int .i64 3, .string pk, .slice Ax nx cx, .int .i64 xlo, .int .i64 xhi, .int .i64 xn] 24).alloc (.cells #[.int .i64 2, .string pk, .int .i64 pkd, .slice Ap np cp, .int .i64 plo, .int .i64 phi, .int .i64 pva] 54)).alloc (.cells #[.int .i64 qst, .string qk, .int .i64 qkd, .slice Aq nq cq, .int .i64 qlo, .int .i64 qhi, .int .i64 qva] 54)).alloc (.cells #[.int .i64 0, .string ⟨#[]⟩, .int .i64 0, .string ⟨#[]⟩, .int .i64 0, .slice none 0 0, .int .i64 0, .int .i64 0, .int .i64 0, .int .i64 0] 62); simpa using this)
  have HS1_0 : Hid (Str W0 (w.heap.size + 1) #[.int .i64 2, .string pk, .int .i64 pkd, .slice Ap np cp, .int .i64 plo, .int .i64 phi, .int .i64 pva]) := Lib.hid (by rw [← hW0]; have := ((Str.new ((w).alloc (.cells #[.int .i64 3, .string pk, .slice Ax nx cx, .int .i64 xlo, .int .i64 xhi, .int .i64 xn] 24)) #[.int .i64 2, .string pk, .int .i64 pkd, .slice Ap np cp, .int .i64 plo, .int .i64 phi, .int .i64 pva] 54).alloc (.cells #[.int .i64 qst, .string qk, .int .i64 qkd, .slice Aq nq cq, .int .i64 qlo, .int .i64 qhi, .int .i64 qva] 54)).alloc (.cells #[.int .i64 0, .string ⟨#[]⟩, .int .i64 0, .string ⟨#[]⟩, .int .i64 0, .slice none 0 0, .int .i64 0, .int .i64 0, .int .i64 0, .int .i64 0] 62); simpa using this)
  have HS2_0 : Hid (Str W0 (w.heap.size + 1 + 1) #[.int .i64 qst, .string qk, .int .i64 qkd, .slice Aq nq cq, .int .i64 qlo, .int .i64 qhi, .int .i64 qva]) := Lib.hid (by rw [← hW0]; have := (Str.new (((w).alloc (.cells #[.int .i64 3, .string pk, .slice Ax nx cx, .int .i64 xlo, .int .i64 xhi, .int .i64 xn] 24)).alloc (.cells #[.int .i64 2, .string pk, .int .i64 pkd, .slice Ap np cp, .int .i64 plo, .int .i64 phi, .int .i64 pva] 54)) #[.int .i64 qst, .string qk, .int .i64 qkd, .slice Aq nq cq, .int .i64 qlo, .int .i64 qhi, .int .i64 qva] 54).alloc (.cells #[.int .i64 0, .string ⟨#[]⟩, .int .i64 0, .string ⟨#[]⟩, .int .i64 0, .slice none 0 0, .int .i64 0, .int .i64 0, .int .i64 0, .int .i64 0] 62); simpa using this)
  have HS3_0 : Hid (Str W0 (w.heap.size + 1 + 1 + 1) #[.int .i64 0, .string ⟨#[]⟩, .int .i64 0, .string ⟨#[]⟩, .int .i64 0, .slice none 0 0, .int .i64 0, .int .i64 0, .int .i64 0, .int .i64 0]) := Lib.hid (by rw [← hW0]; have := Str.new ((((w).alloc (.cells #[.int .i64 3, .string pk, .slice Ax nx cx, .int .i64 xlo, .int .i64 xhi, .int .i64 xn] 24)).alloc (.cells #[.int .i64 2, .string pk, .int .i64 pkd, .slice Ap np cp, .int .i64 plo, .int .i64 phi, .int .i64 pva] 54)).alloc (.cells #[.int .i64 qst, .string qk, .int .i64 qkd, .slice Aq nq cq, .int .i64 qlo, .int .i64 qhi, .int .i64 qva] 54)) #[.int .i64 0, .string ⟨#[]⟩, .int .i64 0, .string ⟨#[]⟩, .int .i64 0, .slice none 0 0, .int .i64 0, .int .i64 0, .int .i64 0, .int .i64 0] 62; simpa using this)
  have HB_0 : Hid (Below w.heap.size w W0) := Lib.hid (by rw [← hW0]; exact balloc (balloc (balloc (balloc (bsame w) _) _) _) _)
  have hw_0 := HB_0.out.size
  clear hW0
  obtain ⟨f0_0_0, f0_0_1, f0_0_2, f0_0_3, f0_0_4, f0_0_5⟩ := str6 HS0_0.out
  have hl0_0 := HS0_0.out.lt
  obtain ⟨f1_0_0, f1_0_1, f1_0_2, f1_0_3, f1_0_4, f1_0_5, f1_0_6⟩ := str7 HS1_0.out
  have hl1_0 := HS1_0.out.lt
  obtain ⟨f2_0_0, f2_0_1, f2_0_2, f2_0_3, f2_0_4, f2_0_5, f2_0_6⟩ := str7 HS2_0.out
  have hl2_0 := HS2_0.out.lt
  obtain ⟨f3_0_0, f3_0_1, f3_0_2, f3_0_3, f3_0_4, f3_0_5, f3_0_6, f3_0_7, f3_0_8, f3_0_9⟩ := str10 HS3_0.out
  have hl3_0 := HS3_0.out.lt
  have hf3_0 := fun j => HS3_0.out.frozen j
  refine Reg.wp_region_tail (R := ext) (W := W0) [Reg.eqv (.pointer (some ⟨w.heap.size, 1, none⟩)), Reg.eqv (.string pk), Reg.eqv (.agg #[.int .i64 2, .string pk, .int .i64 pkd, .slice Ap np cp, .int .i64 plo, .int .i64 phi, .int .i64 pva]), Reg.itemS ⟨2, pk, ⟨pkd, pda, plo, phi, pva⟩⟩, Reg.undoS ⟨1, pk, ⟨2, pk, ⟨pkd, pda, plo, phi, pva⟩⟩, 0⟩] 56 5 _ [[(3, none)], [(34, some 0)], [(4, none)], [(36, some 2)], [(35, some 1), (37, some 3)]] rfl (by kernel_rfl) (by kernel_rfl) (by rfl) (by rfl) rfl (by kernel_rfl) ?_ [some 34, some 35, some 36, some 37, some 38] (by kernel_rfl) ?_
  · refine ⟨?_, ?_, ?_, ?_, ?_, trivial⟩
    · intro ax wx hx hs
      obtain ⟨e3, -⟩ := hs
      have g3 := Reg.ev (v := .pointer (some ⟨w.heap.size, 0, none⟩)) e3
      exact Reg.obl_free rfl (Reg.wp_eqv (Option.some_ne_none _) (by go_simp) rfl)
    · intro ax wx hx hs
      obtain ⟨e34, -⟩ := hs
      have g34 := Reg.ev (v := .pointer (some ⟨w.heap.size, 1, none⟩)) e34
      obtain ⟨hc, -⟩ := bcell hx
      exact Reg.obl_free rfl (Reg.wp_eqv (Option.some_ne_none _) (by go_simp) rfl)
    · intro ax wx hx hs
      obtain ⟨e4, -⟩ := hs
      have g4 := Reg.ev (v := .pointer (some ⟨w.heap.size + 1, 0, none⟩)) e4
      obtain ⟨hc, -⟩ := bcell hx
      exact Reg.obl_free rfl (Reg.wp_eqv (Option.some_ne_none _) (by go_simp) rfl)
    · intro ax wx hx hs
      obtain ⟨e36, -⟩ := hs
      have g36 := Reg.ev (v := .agg #[.int .i64 2, .string pk, .int .i64 pkd, .slice Ap np cp, .int .i64 plo, .int .i64 phi, .int .i64 pva]) e36
      refine Reg.obl_free rfl ?_
      have hx' : Below W0.heap.size W0 wx := hx
      have hsz := (bstep HB_0.out hx').size
      go_simp
      refine (own_any _ _ _ Bp _ _ _ pda _ _ _ _ (Hp.out.below ((bstep HB_0.out hx').mono hBp)) (by omega) hnp).mono ?_
      rintro e wy ⟨A1, n1, c1, rfl, hy1, hby⟩
      exact Reg.done (Option.some_ne_none _) ⟨A1, n1, c1, rfl, hy1⟩ hby
    · intro ax wx hx hs
      obtain ⟨e35, e37, -⟩ := hs
      have g35 := Reg.ev (v := .string pk) e35
      refine Reg.obl_free rfl ?_
      obtain ⟨A1, n1, c1, e37, hy1⟩ := e37
      have g37 := Reg.ev e37
      exact Reg.wp_same (Option.some_ne_none _) (by go_simp) ⟨A1, n1, c1, rfl, hy1⟩
  · intro W1 hwf
    simp only [Reg.Fin]
    rintro _ rfl _ rfl _ rfl v37 h37 v38 h38
    obtain ⟨A1, n1, c1, rfl, hy1⟩ := h38
    clear h37
    have hwf' : Below W0.heap.size W0 W1 := hwf
    clear hwf
    have HS0_1 := Lib.hid (HS0_0.out.next hwf')
    have HS1_1 := Lib.hid (HS1_0.out.next hwf')
    have HS2_1 := Lib.hid (HS2_0.out.next hwf')
    have HS3_1 := Lib.hid (HS3_0.out.next hwf')
    have HB_1 := Lib.hid (bstep HB_0.out hwf')
    have hw_1 := HB_1.out.size
    have hws_1 := (hwf').size
    clear f0_0_0 f0_0_1 f0_0_2 f0_0_3 f0_0_4 f0_0_5 HS0_0 f1_0_0 f1_0_1 f1_0_2 f1_0_3 f1_0_4 f1_0_5 f1_0_6 HS1_0 f2_0_0 f2_0_1 f2_0_2 f2_0_3 f2_0_4 f2_0_5 f2_0_6 HS2_0 f3_0_0 f3_0_1 f3_0_2 f3_0_3 f3_0_4 f3_0_5 f3_0_6 f3_0_7 f3_0_8 f3_0_9 HS3_0 hf3_0
    clear hwf'
    obtain ⟨f0_1_0, f0_1_1, f0_1_2, f0_1_3, f0_1_4, f0_1_5⟩ := str6 HS0_1.out
    have hl0_1 := HS0_1.out.lt
    obtain ⟨f1_1_0, f1_1_1, f1_1_2, f1_1_3, f1_1_4, f1_1_5, f1_1_6⟩ := str7 HS1_1.out
    have hl1_1 := HS1_1.out.lt
    obtain ⟨f2_1_0, f2_1_1, f2_1_2, f2_1_3, f2_1_4, f2_1_5, f2_1_6⟩ := str7 HS2_1.out
    have hl2_1 := HS2_1.out.lt
    obtain ⟨f3_1_0, f3_1_1, f3_1_2, f3_1_3, f3_1_4, f3_1_5, f3_1_6, f3_1_7, f3_1_8, f3_1_9⟩ := str10 HS3_1.out
    have hl3_1 := HS3_1.out.lt
    have hf3_1 := fun j => HS3_1.out.frozen j
    have HYx_1 := Lib.hid (hy1)
    clear hy1
    refine Reg.Goal.mk ?_
    go_simp
    go_wp2_with fail
    generalize hW2 : ((((((((((W1).setCell ⟨w.heap.size + 1 + 1 + 1, 0, none⟩ (.int .i64 1)).setCell ⟨w.heap.size + 1 + 1 + 1, 1, none⟩ (.string pk)).setCell ⟨w.heap.size + 1 + 1 + 1, 2, none⟩ (.int .i64 2)).setCell ⟨w.heap.size + 1 + 1 + 1, 3, none⟩ (.string pk)).setCell ⟨w.heap.size + 1 + 1 + 1, 4, none⟩ (.int .i64 pkd)).setCell ⟨w.heap.size + 1 + 1 + 1, 5, none⟩ (.slice A1 n1 c1)).setCell ⟨w.heap.size + 1 + 1 + 1, 6, none⟩ (.int .i64 plo)).setCell ⟨w.heap.size + 1 + 1 + 1, 7, none⟩ (.int .i64 phi)).setCell ⟨w.heap.size + 1 + 1 + 1, 8, none⟩ (.int .i64 pva)).setCell ⟨w.heap.size + 1 + 1 + 1, 9, none⟩ (.int .i64 0) = W2
    have HS0_2 : Hid (Str W2 (w.heap.size) #[.int .i64 3, .string pk, .slice Ax nx cx, .int .i64 xlo, .int .i64 xhi, .int .i64 xn]) := Lib.hid (by rw [← hW2]; exact ((((((((((HS0_1.out).other 0 _ (by omega)).other 1 _ (by omega)).other 2 _ (by omega)).other 3 _ (by omega)).other 4 _ (by omega)).other 5 _ (by omega)).other 6 _ (by omega)).other 7 _ (by omega)).other 8 _ (by omega)).other 9 _ (by omega))
    have HS1_2 : Hid (Str W2 (w.heap.size + 1) #[.int .i64 2, .string pk, .int .i64 pkd, .slice Ap np cp, .int .i64 plo, .int .i64 phi, .int .i64 pva]) := Lib.hid (by rw [← hW2]; exact ((((((((((HS1_1.out).other 0 _ (by omega)).other 1 _ (by omega)).other 2 _ (by omega)).other 3 _ (by omega)).other 4 _ (by omega)).other 5 _ (by omega)).other 6 _ (by omega)).other 7 _ (by omega)).other 8 _ (by omega)).other 9 _ (by omega))
    have HS2_2 : Hid (Str W2 (w.heap.size + 1 + 1) #[.int .i64 qst, .string qk, .int .i64 qkd, .slice Aq nq cq, .int .i64 qlo, .int .i64 qhi, .int .i64 qva]) := Lib.hid (by rw [← hW2]; exact ((((((((((HS2_1.out).other 0 _ (by omega)).other 1 _ (by omega)).other 2 _ (by omega)).other 3 _ (by omega)).other 4 _ (by omega)).other 5 _ (by omega)).other 6 _ (by omega)).other 7 _ (by omega)).other 8 _ (by omega)).other 9 _ (by omega))
    have HS3_2 : Hid (Str W2 (w.heap.size + 1 + 1 + 1) #[.int .i64 1, .string pk, .int .i64 2, .string pk, .int .i64 pkd, .slice A1 n1 c1, .int .i64 plo, .int .i64 phi, .int .i64 pva, .int .i64 0]) := Lib.hid (by rw [← hW2]; have := ((((((((((HS3_1.out).set 0 (.int .i64 1)).set 1 (.string pk)).set 2 (.int .i64 2)).set 3 (.string pk)).set 4 (.int .i64 pkd)).set 5 (.slice A1 n1 c1)).set 6 (.int .i64 plo)).set 7 (.int .i64 phi)).set 8 (.int .i64 pva)).set 9 (.int .i64 0); simpa using this)
    have hgr2 : W1.grownBy W2 (some (w.heap.size + 1 + 1 + 1)) := by rw [← hW2]; exact grown_set (grown_set (grown_set (grown_set (grown_set (grown_set (grown_set (grown_set (grown_set (grown_set (grown_refl W1 (w.heap.size + 1 + 1 + 1)) 0 (.int .i64 1)) 1 (.string pk)) 2 (.int .i64 2)) 3 (.string pk)) 4 (.int .i64 pkd)) 5 (.slice A1 n1 c1)) 6 (.int .i64 plo)) 7 (.int .i64 phi)) 8 (.int .i64 pva)) 9 (.int .i64 0)
    have HB_2 := Lib.hid (below_grown HB_1.out hgr2 (by omega))
    have hw_2 := HB_2.out.size
    have hws_2 := hgr2.size
    have HYx_2 := Lib.hid ((Bytes.grown HYx_1.out (Nat.le_refl _) HS3_1.out rfl hgr2).more hws_2)
    clear HYx_1
    clear hW2
    clear f0_1_0 f0_1_1 f0_1_2 f0_1_3 f0_1_4 f0_1_5 HS0_1 f1_1_0 f1_1_1 f1_1_2 f1_1_3 f1_1_4 f1_1_5 f1_1_6 HS1_1 f2_1_0 f2_1_1 f2_1_2 f2_1_3 f2_1_4 f2_1_5 f2_1_6 HS2_1 f3_1_0 f3_1_1 f3_1_2 f3_1_3 f3_1_4 f3_1_5 f3_1_6 f3_1_7 f3_1_8 f3_1_9 HS3_1 hf3_1
    clear hgr2
    obtain ⟨f0_2_0, f0_2_1, f0_2_2, f0_2_3, f0_2_4, f0_2_5⟩ := str6 HS0_2.out
    have hl0_2 := HS0_2.out.lt
    obtain ⟨f1_2_0, f1_2_1, f1_2_2, f1_2_3, f1_2_4, f1_2_5, f1_2_6⟩ := str7 HS1_2.out
    have hl1_2 := HS1_2.out.lt
    obtain ⟨f2_2_0, f2_2_1, f2_2_2, f2_2_3, f2_2_4, f2_2_5, f2_2_6⟩ := str7 HS2_2.out
    have hl2_2 := HS2_2.out.lt
    obtain ⟨f3_2_0, f3_2_1, f3_2_2, f3_2_3, f3_2_4, f3_2_5, f3_2_6, f3_2_7, f3_2_8, f3_2_9⟩ := str10 HS3_2.out
    have hl3_2 := HS3_2.out.lt
    have hf3_2 := fun j => HS3_2.out.frozen j
    exact bodyPost_ret (v := .agg #[.int .i64 1, .string pk, .int .i64 2, .string pk, .int .i64 pkd, .slice A1 n1 c1, .int .i64 plo, .int .i64 phi, .int .i64 pva, .int .i64 0]) (by simp [results, Try.results40, go_sem, *]) rfl ⟨A1, n1, c1, rfl, HYx_2.out, HB_2.out⟩

set_option maxRecDepth 100000 in
set_option maxHeartbeats 1000000 in
theorem of3_s2n (Ax : Option Addr) (nx cx : Nat) (xk : ByteArray) (xda : List UInt8) (xlo xhi xn : Int) (Ap : Option Addr) (np cp Bp : Nat) (pk : ByteArray) (pkd : Int) (pda : List UInt8) (plo phi pva : Int) (Aq : Option Addr) (nq cq Bq : Nat) (qst : Int) (qk : ByteArray) (qkd : Int) (qda : List UInt8) (qlo qhi qva : Int) (w : World) (hp : Bytes w Bp Ap np cp pda) (hBp : Bp ≤ w.heap.size) (hnp : np ≤ 140737488355328) (hq : Bytes w Bq Aq nq cq qda) (hBq : Bq ≤ w.heap.size) (hnq : nq ≤ 140737488355328) (hk : ¬ pk = xk) : Calls Try.prog 40 #[.agg #[.int .i64 3, .string xk, .slice Ax nx cx, .int .i64 xlo, .int .i64 xhi, .int .i64 xn], .agg #[.int .i64 2, .string pk, .int .i64 pkd, .slice Ap np cp, .int .i64 plo, .int .i64 phi, .int .i64 pva], .agg #[.int .i64 qst, .string qk, .int .i64 qkd, .slice Aq nq cq, .int .i64 qlo, .int .i64 qhi, .int .i64 qva]] w (GivesUndo w (UndoP.of ⟨3, xk, xda, xlo, xhi, xn⟩ ⟨2, pk, ⟨pkd, pda, plo, phi, pva⟩⟩ ⟨qst, qk, ⟨qkd, qda, qlo, qhi, qva⟩⟩)) := by
  rw [UndoP.of_then _ _ _ (by simp) (fun h => hk h.2)]
  have Hp := Lib.hid hp
  have Hq := Lib.hid hq
  clear hp hq
  replace hk := key_ne hk
  go_enter Try.func40, Try.ntmps40
  go_wp2_with fail
  show Code.wp _ _ _ _ (((((w).alloc (.cells #[.int .i64 3, .string xk, .slice Ax nx cx, .int .i64 xlo, .int .i64 xhi, .int .i64 xn] 24)).alloc (.cells #[.int .i64 2, .string pk, .int .i64 pkd, .slice Ap np cp, .int .i64 plo, .int .i64 phi, .int .i64 pva] 54)).alloc (.cells #[.int .i64 2, .string qk, .int .i64 qkd, .slice Aq nq cq, .int .i64 qlo, .int .i64 qhi, .int .i64 qva] 54)).alloc (.cells #[.int .i64 0, .string ⟨#[]⟩, .int .i64 0, .string ⟨#[]⟩, .int .i64 0, .slice none 0 0, .int .i64 0, .int .i64 0, .int .i64 0, .int .i64 0] 62))
  generalize hW0 : ((((w).alloc (.cells #[.int .i64 3, .string xk, .slice Ax nx cx, .int .i64 xlo, .int .i64 xhi, .int .i64 xn] 24)).alloc (.cells #[.int .i64 2, .string pk, .int .i64 pkd, .slice Ap np cp, .int .i64 plo, .int .i64 phi, .int .i64 pva] 54)).alloc (.cells #[.int .i64 2, .string qk, .int .i64 qkd, .slice Aq nq cq, .int .i64 qlo, .int .i64 qhi, .int .i64 qva] 54)).alloc (.cells #[.int .i64 0, .string ⟨#[]⟩, .int .i64 0, .string ⟨#[]⟩, .int .i64 0, .slice none 0 0, .int .i64 0, .int .i64 0, .int .i64 0, .int .i64 0] 62) = W0
  have HS0_0 : Hid (Str W0 (w.heap.size) #[.int .i64 3, .string xk, .slice Ax nx cx, .int .i64 xlo, .int .i64 xhi, .int .i64 xn]) := Lib.hid (by rw [← hW0]; have := (((Str.new (w) #[.int .i64 3, .string xk, .slice Ax nx cx, .int .i64 xlo, .int .i64 xhi, .int .i64 xn] 24).alloc (.cells #[.int .i64 2, .string pk, .int .i64 pkd, .slice Ap np cp, .int .i64 plo, .int .i64 phi, .int .i64 pva] 54)).alloc (.cells #[.int .i64 2, .string qk, .int .i64 qkd, .slice Aq nq cq, .int .i64 qlo, .int .i64 qhi, .int .i64 qva] 54)).alloc (.cells #[.int .i64 0, .string ⟨#[]⟩, .int .i64 0, .string ⟨#[]⟩, .int .i64 0, .slice none 0 0, .int .i64 0, .int .i64 0, .int .i64 0, .int .i64 0] 62); simpa using this)
  have HS1_0 : Hid (Str W0 (w.heap.size + 1) #[.int .i64 2, .string pk, .int .i64 pkd, .slice Ap np cp, .int .i64 plo, .int .i64 phi, .int .i64 pva]) := Lib.hid (by rw [← hW0]; have := ((Str.new ((w).alloc (.cells #[.int .i64 3, .string xk, .slice Ax nx cx, .int .i64 xlo, .int .i64 xhi, .int .i64 xn] 24)) #[.int .i64 2, .string pk, .int .i64 pkd, .slice Ap np cp, .int .i64 plo, .int .i64 phi, .int .i64 pva] 54).alloc (.cells #[.int .i64 2, .string qk, .int .i64 qkd, .slice Aq nq cq, .int .i64 qlo, .int .i64 qhi, .int .i64 qva] 54)).alloc (.cells #[.int .i64 0, .string ⟨#[]⟩, .int .i64 0, .string ⟨#[]⟩, .int .i64 0, .slice none 0 0, .int .i64 0, .int .i64 0, .int .i64 0, .int .i64 0] 62); simpa using this)
  have HS2_0 : Hid (Str W0 (w.heap.size + 1 + 1) #[.int .i64 2, .string qk, .int .i64 qkd, .slice Aq nq cq, .int .i64 qlo, .int .i64 qhi, .int .i64 qva]) := Lib.hid (by rw [← hW0]; have := (Str.new (((w).alloc (.cells #[.int .i64 3, .string xk, .slice Ax nx cx, .int .i64 xlo, .int .i64 xhi, .int .i64 xn] 24)).alloc (.cells #[.int .i64 2, .string pk, .int .i64 pkd, .slice Ap np cp, .int .i64 plo, .int .i64 phi, .int .i64 pva] 54)) #[.int .i64 2, .string qk, .int .i64 qkd, .slice Aq nq cq, .int .i64 qlo, .int .i64 qhi, .int .i64 qva] 54).alloc (.cells #[.int .i64 0, .string ⟨#[]⟩, .int .i64 0, .string ⟨#[]⟩, .int .i64 0, .slice none 0 0, .int .i64 0, .int .i64 0, .int .i64 0, .int .i64 0] 62); simpa using this)
  have HS3_0 : Hid (Str W0 (w.heap.size + 1 + 1 + 1) #[.int .i64 0, .string ⟨#[]⟩, .int .i64 0, .string ⟨#[]⟩, .int .i64 0, .slice none 0 0, .int .i64 0, .int .i64 0, .int .i64 0, .int .i64 0]) := Lib.hid (by rw [← hW0]; have := Str.new ((((w).alloc (.cells #[.int .i64 3, .string xk, .slice Ax nx cx, .int .i64 xlo, .int .i64 xhi, .int .i64 xn] 24)).alloc (.cells #[.int .i64 2, .string pk, .int .i64 pkd, .slice Ap np cp, .int .i64 plo, .int .i64 phi, .int .i64 pva] 54)).alloc (.cells #[.int .i64 2, .string qk, .int .i64 qkd, .slice Aq nq cq, .int .i64 qlo, .int .i64 qhi, .int .i64 qva] 54)) #[.int .i64 0, .string ⟨#[]⟩, .int .i64 0, .string ⟨#[]⟩, .int .i64 0, .slice none 0 0, .int .i64 0, .int .i64 0, .int .i64 0, .int .i64 0] 62; simpa using this)
  have HB_0 : Hid (Below w.heap.size w W0) := Lib.hid (by rw [← hW0]; exact balloc (balloc (balloc (balloc (bsame w) _) _) _) _)
  have hw_0 := HB_0.out.size
  clear hW0
  obtain ⟨f0_0_0, f0_0_1, f0_0_2, f0_0_3, f0_0_4, f0_0_5⟩ := str6 HS0_0.out
  have hl0_0 := HS0_0.out.lt
  obtain ⟨f1_0_0, f1_0_1, f1_0_2, f1_0_3, f1_0_4, f1_0_5, f1_0_6⟩ := str7 HS1_0.out
  have hl1_0 := HS1_0.out.lt
  obtain ⟨f2_0_0, f2_0_1, f2_0_2, f2_0_3, f2_0_4, f2_0_5, f2_0_6⟩ := str7 HS2_0.out
  have hl2_0 := HS2_0.out.lt
  obtain ⟨f3_0_0, f3_0_1, f3_0_2, f3_0_3, f3_0_4, f3_0_5, f3_0_6, f3_0_7, f3_0_8, f3_0_9⟩ := str10 HS3_0.out
  have hl3_0 := HS3_0.out.lt
  have hf3_0 := fun j => HS3_0.out.frozen j
  refine Reg.wp_region_tail (R := ext) (W := W0) [Reg.eqv (.pointer (some ⟨w.heap.size, 1, none⟩)), Reg.eqv (.string xk), Reg.eqv (.agg #[.int .i64 2, .string qk, .int .i64 qkd, .slice Aq nq cq, .int .i64 qlo, .int .i64 qhi, .int .i64 qva]), Reg.itemS ⟨2, qk, ⟨qkd, qda, qlo, qhi, qva⟩⟩, Reg.undoS ⟨1, xk, ⟨2, qk, ⟨qkd, qda, qlo, qhi, qva⟩⟩, 0⟩] 56 5 _ [[(3, none)], [(40, some 0)], [(5, none)], [(42, some 2)], [(41, some 1), (43, some 3)]] rfl (by kernel_rfl) (by kernel_rfl) (by rfl) (by rfl) rfl (by kernel_rfl) ?_ [some 40, some 41, some 42, some 43, some 44] (by kernel_rfl) ?_
  · refine ⟨?_, ?_, ?_, ?_, ?_, trivial⟩
    · intro ax wx hx hs
      obtain ⟨e3, -⟩ := hs
      have g3 := Reg.ev (v := .pointer (some ⟨w.heap.size, 0, none⟩)) e3
      exact Reg.obl_free rfl (Reg.wp_eqv (Option.some_ne_none _) (by go_simp) rfl)
    · intro ax wx hx hs
      obtain ⟨e40, -⟩ := hs
      have g40 := Reg.ev (v := .pointer (some ⟨w.heap.size, 1, none⟩)) e40
      obtain ⟨hc, -⟩ := bcell hx
      exact Reg.obl_free rfl (Reg.wp_eqv (Option.some_ne_none _) (by go_simp) rfl)
    · intro ax wx hx hs
      obtain ⟨e5, -⟩ := hs
      have g5 := Reg.ev (v := .pointer (some ⟨w.heap.size + 1 + 1, 0, none⟩)) e5
      obtain ⟨hc, -⟩ := bcell hx
      exact Reg.obl_free rfl (Reg.wp_eqv (Option.some_ne_none _) (by go_simp) rfl)
    · intro ax wx hx hs
      obtain ⟨e42, -⟩ := hs
      have g42 := Reg.ev (v := .agg #[.int .i64 2, .string qk, .int .i64 qkd, .slice Aq nq cq, .int .i64 qlo, .int .i64 qhi, .int .i64 qva]) e42
      refine Reg.obl_free rfl ?_
      have hx' : Below W0.heap.size W0 wx := hx
      have hsz := (bstep HB_0.out hx').size
      go_simp
      refine (own_any _ _ _ Bq _ _ _ qda _ _ _ _ (Hq.out.below ((bstep HB_0.out hx').mono hBq)) (by omega) hnq).mono ?_
      rintro e wy ⟨A1, n1, c1, rfl, hy1, hby⟩
      exact Reg.done (Option.some_ne_none _) ⟨A1, n1, c1, rfl, hy1⟩ hby
    · intro ax wx hx hs
      obtain ⟨e41, e43, -⟩ := hs
      have g41 := Reg.ev (v := .string xk) e41
      refine Reg.obl_free rfl ?_
      obtain ⟨A1, n1, c1, e43, hy1⟩ := e43
      have g43 := Reg.ev e43
      exact Reg.wp_same (Option.some_ne_none _) (by go_simp) ⟨A1, n1, c1, rfl, hy1⟩
  · intro W1 hwf
    simp only [Reg.Fin]
    rintro _ rfl _ rfl _ rfl v43 h43 v44 h44
    obtain ⟨A1, n1, c1, rfl, hy1⟩ := h44
    clear h43
    have hwf' : Below W0.heap.size W0 W1 := hwf
    clear hwf
    have HS0_1 := Lib.hid (HS0_0.out.next hwf')
    have HS1_1 := Lib.hid (HS1_0.out.next hwf')
    have HS2_1 := Lib.hid (HS2_0.out.next hwf')
    have HS3_1 := Lib.hid (HS3_0.out.next hwf')
    have HB_1 := Lib.hid (bstep HB_0.out hwf')
    have hw_1 := HB_1.out.size
    have hws_1 := (hwf').size
    clear f0_0_0 f0_0_1 f0_0_2 f0_0_3 f0_0_4 f0_0_5 HS0_0 f1_0_0 f1_0_1 f1_0_2 f1_0_3 f1_0_4 f1_0_5 f1_0_6 HS1_0 f2_0_0 f2_0_1 f2_0_2 f2_0_3 f2_0_4 f2_0_5 f2_0_6 HS2_0 f3_0_0 f3_0_1 f3_0_2 f3_0_3 f3_0_4 f3_0_5 f3_0_6 f3_0_7 f3_0_8 f3_0_9 HS3_0 hf3_0
    clear hwf'
    obtain ⟨f0_1_0, f0_1_1, f0_1_2, f0_1_3, f0_1_4, f0_1_5⟩ := str6 HS0_1.out
    have hl0_1 := HS0_1.out.lt
    obtain ⟨f1_1_0, f1_1_1, f1_1_2, f1_1_3, f1_1_4, f1_1_5, f1_1_6⟩ := str7 HS1_1.out
    have hl1_1 := HS1_1.out.lt
    obtain ⟨f2_1_0, f2_1_1, f2_1_2, f2_1_3, f2_1_4, f2_1_5, f2_1_6⟩ := str7 HS2_1.out
    have hl2_1 := HS2_1.out.lt
    obtain ⟨f3_1_0, f3_1_1, f3_1_2, f3_1_3, f3_1_4, f3_1_5, f3_1_6, f3_1_7, f3_1_8, f3_1_9⟩ := str10 HS3_1.out
    have hl3_1 := HS3_1.out.lt
    have hf3_1 := fun j => HS3_1.out.frozen j
    have HYx_1 := Lib.hid (hy1)
    clear hy1
    refine Reg.Goal.mk ?_
    go_simp
    go_wp2_with fail
    generalize hW2 : ((((((((((W1).setCell ⟨w.heap.size + 1 + 1 + 1, 0, none⟩ (.int .i64 1)).setCell ⟨w.heap.size + 1 + 1 + 1, 1, none⟩ (.string xk)).setCell ⟨w.heap.size + 1 + 1 + 1, 2, none⟩ (.int .i64 2)).setCell ⟨w.heap.size + 1 + 1 + 1, 3, none⟩ (.string qk)).setCell ⟨w.heap.size + 1 + 1 + 1, 4, none⟩ (.int .i64 qkd)).setCell ⟨w.heap.size + 1 + 1 + 1, 5, none⟩ (.slice A1 n1 c1)).setCell ⟨w.heap.size + 1 + 1 + 1, 6, none⟩ (.int .i64 qlo)).setCell ⟨w.heap.size + 1 + 1 + 1, 7, none⟩ (.int .i64 qhi)).setCell ⟨w.heap.size + 1 + 1 + 1, 8, none⟩ (.int .i64 qva)).setCell ⟨w.heap.size + 1 + 1 + 1, 9, none⟩ (.int .i64 0) = W2
    have HS0_2 : Hid (Str W2 (w.heap.size) #[.int .i64 3, .string xk, .slice Ax nx cx, .int .i64 xlo, .int .i64 xhi, .int .i64 xn]) := Lib.hid (by rw [← hW2]; exact ((((((((((HS0_1.out).other 0 _ (by omega)).other 1 _ (by omega)).other 2 _ (by omega)).other 3 _ (by omega)).other 4 _ (by omega)).other 5 _ (by omega)).other 6 _ (by omega)).other 7 _ (by omega)).other 8 _ (by omega)).other 9 _ (by omega))
    have HS1_2 : Hid (Str W2 (w.heap.size + 1) #[.int .i64 2, .string pk, .int .i64 pkd, .slice Ap np cp, .int .i64 plo, .int .i64 phi, .int .i64 pva]) := Lib.hid (by rw [← hW2]; exact ((((((((((HS1_1.out).other 0 _ (by omega)).other 1 _ (by omega)).other 2 _ (by omega)).other 3 _ (by omega)).other 4 _ (by omega)).other 5 _ (by omega)).other 6 _ (by omega)).other 7 _ (by omega)).other 8 _ (by omega)).other 9 _ (by omega))
    have HS2_2 : Hid (Str W2 (w.heap.size + 1 + 1) #[.int .i64 2, .string qk, .int .i64 qkd, .slice Aq nq cq, .int .i64 qlo, .int .i64 qhi, .int .i64 qva]) := Lib.hid (by rw [← hW2]; exact ((((((((((HS2_1.out).other 0 _ (by omega)).other 1 _ (by omega)).other 2 _ (by omega)).other 3 _ (by omega)).other 4 _ (by omega)).other 5 _ (by omega)).other 6 _ (by omega)).other 7 _ (by omega)).other 8 _ (by omega)).other 9 _ (by omega))
    have HS3_2 : Hid (Str W2 (w.heap.size + 1 + 1 + 1) #[.int .i64 1, .string xk, .int .i64 2, .string qk, .int .i64 qkd, .slice A1 n1 c1, .int .i64 qlo, .int .i64 qhi, .int .i64 qva, .int .i64 0]) := Lib.hid (by rw [← hW2]; have := ((((((((((HS3_1.out).set 0 (.int .i64 1)).set 1 (.string xk)).set 2 (.int .i64 2)).set 3 (.string qk)).set 4 (.int .i64 qkd)).set 5 (.slice A1 n1 c1)).set 6 (.int .i64 qlo)).set 7 (.int .i64 qhi)).set 8 (.int .i64 qva)).set 9 (.int .i64 0); simpa using this)
    have hgr2 : W1.grownBy W2 (some (w.heap.size + 1 + 1 + 1)) := by rw [← hW2]; exact grown_set (grown_set (grown_set (grown_set (grown_set (grown_set (grown_set (grown_set (grown_set (grown_set (grown_refl W1 (w.heap.size + 1 + 1 + 1)) 0 (.int .i64 1)) 1 (.string xk)) 2 (.int .i64 2)) 3 (.string qk)) 4 (.int .i64 qkd)) 5 (.slice A1 n1 c1)) 6 (.int .i64 qlo)) 7 (.int .i64 qhi)) 8 (.int .i64 qva)) 9 (.int .i64 0)
    have HB_2 := Lib.hid (below_grown HB_1.out hgr2 (by omega))
    have hw_2 := HB_2.out.size
    have hws_2 := hgr2.size
    have HYx_2 := Lib.hid ((Bytes.grown HYx_1.out (Nat.le_refl _) HS3_1.out rfl hgr2).more hws_2)
    clear HYx_1
    clear hW2
    clear f0_1_0 f0_1_1 f0_1_2 f0_1_3 f0_1_4 f0_1_5 HS0_1 f1_1_0 f1_1_1 f1_1_2 f1_1_3 f1_1_4 f1_1_5 f1_1_6 HS1_1 f2_1_0 f2_1_1 f2_1_2 f2_1_3 f2_1_4 f2_1_5 f2_1_6 HS2_1 f3_1_0 f3_1_1 f3_1_2 f3_1_3 f3_1_4 f3_1_5 f3_1_6 f3_1_7 f3_1_8 f3_1_9 HS3_1 hf3_1
    clear hgr2
    obtain ⟨f0_2_0, f0_2_1, f0_2_2, f0_2_3, f0_2_4, f0_2_5⟩ := str6 HS0_2.out
    have hl0_2 := HS0_2.out.lt
    obtain ⟨f1_2_0, f1_2_1, f1_2_2, f1_2_3, f1_2_4, f1_2_5, f1_2_6⟩ := str7 HS1_2.out
    have hl1_2 := HS1_2.out.lt
    obtain ⟨f2_2_0, f2_2_1, f2_2_2, f2_2_3, f2_2_4, f2_2_5, f2_2_6⟩ := str7 HS2_2.out
    have hl2_2 := HS2_2.out.lt
    obtain ⟨f3_2_0, f3_2_1, f3_2_2, f3_2_3, f3_2_4, f3_2_5, f3_2_6, f3_2_7, f3_2_8, f3_2_9⟩ := str10 HS3_2.out
    have hl3_2 := HS3_2.out.lt
    have hf3_2 := fun j => HS3_2.out.frozen j
    exact bodyPost_ret (v := .agg #[.int .i64 1, .string xk, .int .i64 2, .string qk, .int .i64 qkd, .slice A1 n1 c1, .int .i64 qlo, .int .i64 qhi, .int .i64 qva, .int .i64 0]) (by simp [results, Try.results40, go_sem, *]) rfl ⟨A1, n1, c1, rfl, HYx_2.out, HB_2.out⟩

set_option maxRecDepth 100000 in
set_option maxHeartbeats 1000000 in
theorem of3_no (Ax : Option Addr) (nx cx : Nat) (xk : ByteArray) (xda : List UInt8) (xlo xhi xn : Int) (Ap : Option Addr) (np cp Bp : Nat) (pst : Int) (pk : ByteArray) (pkd : Int) (pda : List UInt8) (plo phi pva : Int) (Aq : Option Addr) (nq cq Bq : Nat) (qst : Int) (qk : ByteArray) (qkd : Int) (qda : List UInt8) (qlo qhi qva : Int) (w : World) (hp : Bytes w Bp Ap np cp pda) (hBp : Bp ≤ w.heap.size) (hnp : np ≤ 140737488355328) (hq : Bytes w Bq Aq nq cq qda) (hBq : Bq ≤ w.heap.size) (hnq : nq ≤ 140737488355328) (hs1 : ¬ pst = 1) (hs2 : ¬ pst = 2) : Calls Try.prog 40 #[.agg #[.int .i64 3, .string xk, .slice Ax nx cx, .int .i64 xlo, .int .i64 xhi, .int .i64 xn], .agg #[.int .i64 pst, .string pk, .int .i64 pkd, .slice Ap np cp, .int .i64 plo, .int .i64 phi, .int .i64 pva], .agg #[.int .i64 qst, .string qk, .int .i64 qkd, .slice Aq nq cq, .int .i64 qlo, .int .i64 qhi, .int .i64 qva]] w (GivesUndo w (UndoP.of ⟨3, xk, xda, xlo, xhi, xn⟩ ⟨pst, pk, ⟨pkd, pda, plo, phi, pva⟩⟩ ⟨qst, qk, ⟨qkd, qda, qlo, qhi, qva⟩⟩)) := by
  rw [UndoP.of_then _ _ _ (by simp) (fun h => h.1.elim hs1 hs2)]
  have Hp := Lib.hid hp
  have Hq := Lib.hid hq
  clear hp hq
  go_enter Try.func40, Try.ntmps40
  go_wp2_with fail
  show Code.wp _ _ _ _ (((((w).alloc (.cells #[.int .i64 3, .string xk, .slice Ax nx cx, .int .i64 xlo, .int .i64 xhi, .int .i64 xn] 24)).alloc (.cells #[.int .i64 pst, .string pk, .int .i64 pkd, .slice Ap np cp, .int .i64 plo, .int .i64 phi, .int .i64 pva] 54)).alloc (.cells #[.int .i64 2, .string qk, .int .i64 qkd, .slice Aq nq cq, .int .i64 qlo, .int .i64 qhi, .int .i64 qva] 54)).alloc (.cells #[.int .i64 0, .string ⟨#[]⟩, .int .i64 0, .string ⟨#[]⟩, .int .i64 0, .slice none 0 0, .int .i64 0, .int .i64 0, .int .i64 0, .int .i64 0] 62))
  generalize hW0 : ((((w).alloc (.cells #[.int .i64 3, .string xk, .slice Ax nx cx, .int .i64 xlo, .int .i64 xhi, .int .i64 xn] 24)).alloc (.cells #[.int .i64 pst, .string pk, .int .i64 pkd, .slice Ap np cp, .int .i64 plo, .int .i64 phi, .int .i64 pva] 54)).alloc (.cells #[.int .i64 2, .string qk, .int .i64 qkd, .slice Aq nq cq, .int .i64 qlo, .int .i64 qhi, .int .i64 qva] 54)).alloc (.cells #[.int .i64 0, .string ⟨#[]⟩, .int .i64 0, .string ⟨#[]⟩, .int .i64 0, .slice none 0 0, .int .i64 0, .int .i64 0, .int .i64 0, .int .i64 0] 62) = W0
  have HS0_0 : Hid (Str W0 (w.heap.size) #[.int .i64 3, .string xk, .slice Ax nx cx, .int .i64 xlo, .int .i64 xhi, .int .i64 xn]) := Lib.hid (by rw [← hW0]; have := (((Str.new (w) #[.int .i64 3, .string xk, .slice Ax nx cx, .int .i64 xlo, .int .i64 xhi, .int .i64 xn] 24).alloc (.cells #[.int .i64 pst, .string pk, .int .i64 pkd, .slice Ap np cp, .int .i64 plo, .int .i64 phi, .int .i64 pva] 54)).alloc (.cells #[.int .i64 2, .string qk, .int .i64 qkd, .slice Aq nq cq, .int .i64 qlo, .int .i64 qhi, .int .i64 qva] 54)).alloc (.cells #[.int .i64 0, .string ⟨#[]⟩, .int .i64 0, .string ⟨#[]⟩, .int .i64 0, .slice none 0 0, .int .i64 0, .int .i64 0, .int .i64 0, .int .i64 0] 62); simpa using this)
  have HS1_0 : Hid (Str W0 (w.heap.size + 1) #[.int .i64 pst, .string pk, .int .i64 pkd, .slice Ap np cp, .int .i64 plo, .int .i64 phi, .int .i64 pva]) := Lib.hid (by rw [← hW0]; have := ((Str.new ((w).alloc (.cells #[.int .i64 3, .string xk, .slice Ax nx cx, .int .i64 xlo, .int .i64 xhi, .int .i64 xn] 24)) #[.int .i64 pst, .string pk, .int .i64 pkd, .slice Ap np cp, .int .i64 plo, .int .i64 phi, .int .i64 pva] 54).alloc (.cells #[.int .i64 2, .string qk, .int .i64 qkd, .slice Aq nq cq, .int .i64 qlo, .int .i64 qhi, .int .i64 qva] 54)).alloc (.cells #[.int .i64 0, .string ⟨#[]⟩, .int .i64 0, .string ⟨#[]⟩, .int .i64 0, .slice none 0 0, .int .i64 0, .int .i64 0, .int .i64 0, .int .i64 0] 62); simpa using this)
  have HS2_0 : Hid (Str W0 (w.heap.size + 1 + 1) #[.int .i64 2, .string qk, .int .i64 qkd, .slice Aq nq cq, .int .i64 qlo, .int .i64 qhi, .int .i64 qva]) := Lib.hid (by rw [← hW0]; have := (Str.new (((w).alloc (.cells #[.int .i64 3, .string xk, .slice Ax nx cx, .int .i64 xlo, .int .i64 xhi, .int .i64 xn] 24)).alloc (.cells #[.int .i64 pst, .string pk, .int .i64 pkd, .slice Ap np cp, .int .i64 plo, .int .i64 phi, .int .i64 pva] 54)) #[.int .i64 2, .string qk, .int .i64 qkd, .slice Aq nq cq, .int .i64 qlo, .int .i64 qhi, .int .i64 qva] 54).alloc (.cells #[.int .i64 0, .string ⟨#[]⟩, .int .i64 0, .string ⟨#[]⟩, .int .i64 0, .slice none 0 0, .int .i64 0, .int .i64 0, .int .i64 0, .int .i64 0] 62); simpa using this)
  have HS3_0 : Hid (Str W0 (w.heap.size + 1 + 1 + 1) #[.int .i64 0, .string ⟨#[]⟩, .int .i64 0, .string ⟨#[]⟩, .int .i64 0, .slice none 0 0, .int .i64 0, .int .i64 0, .int .i64 0, .int .i64 0]) := Lib.hid (by rw [← hW0]; have := Str.new ((((w).alloc (.cells #[.int .i64 3, .string xk, .slice Ax nx cx, .int .i64 xlo, .int .i64 xhi, .int .i64 xn] 24)).alloc (.cells #[.int .i64 pst, .string pk, .int .i64 pkd, .slice Ap np cp, .int .i64 plo, .int .i64 phi, .int .i64 pva] 54)).alloc (.cells #[.int .i64 2, .string qk, .int .i64 qkd, .slice Aq nq cq, .int .i64 qlo, .int .i64 qhi, .int .i64 qva] 54)) #[.int .i64 0, .string ⟨#[]⟩, .int .i64 0, .string ⟨#[]⟩, .int .i64 0, .slice none 0 0, .int .i64 0, .int .i64 0, .int .i64 0, .int .i64 0] 62; simpa using this)
  have HB_0 : Hid (Below w.heap.size w W0) := Lib.hid (by rw [← hW0]; exact balloc (balloc (balloc (balloc (bsame w) _) _) _) _)
  have hw_0 := HB_0.out.size
  clear hW0
  obtain ⟨f0_0_0, f0_0_1, f0_0_2, f0_0_3, f0_0_4, f0_0_5⟩ := str6 HS0_0.out
  have hl0_0 := HS0_0.out.lt
  obtain ⟨f1_0_0, f1_0_1, f1_0_2, f1_0_3, f1_0_4, f1_0_5, f1_0_6⟩ := str7 HS1_0.out
  have hl1_0 := HS1_0.out.lt
  obtain ⟨f2_0_0, f2_0_1, f2_0_2, f2_0_3, f2_0_4, f2_0_5, f2_0_6⟩ := str7 HS2_0.out
  have hl2_0 := HS2_0.out.lt
  obtain ⟨f3_0_0, f3_0_1, f3_0_2, f3_0_3, f3_0_4, f3_0_5, f3_0_6, f3_0_7, f3_0_8, f3_0_9⟩ := str10 HS3_0.out
  have hl3_0 := HS3_0.out.lt
  have hf3_0 := fun j => HS3_0.out.frozen j
  refine Reg.wp_region_tail (R := ext) (W := W0) [Reg.eqv (.pointer (some ⟨w.heap.size, 1, none⟩)), Reg.eqv (.string xk), Reg.eqv (.agg #[.int .i64 2, .string qk, .int .i64 qkd, .slice Aq nq cq, .int .i64 qlo, .int .i64 qhi, .int .i64 qva]), Reg.itemS ⟨2, qk, ⟨qkd, qda, qlo, qhi, qva⟩⟩, Reg.undoS ⟨1, xk, ⟨2, qk, ⟨qkd, qda, qlo, qhi, qva⟩⟩, 0⟩] 56 5 _ [[(3, none)], [(40, some 0)], [(5, none)], [(42, some 2)], [(41, some 1), (43, some 3)]] rfl (by kernel_rfl) (by kernel_rfl) (by rfl) (by rfl) rfl (by kernel_rfl) ?_ [some 40, some 41, some 42, some 43, some 44] (by kernel_rfl) ?_
  · refine ⟨?_, ?_, ?_, ?_, ?_, trivial⟩
    · intro ax wx hx hs
      obtain ⟨e3, -⟩ := hs
      have g3 := Reg.ev (v := .pointer (some ⟨w.heap.size, 0, none⟩)) e3
      exact Reg.obl_free rfl (Reg.wp_eqv (Option.some_ne_none _) (by go_simp) rfl)
    · intro ax wx hx hs
      obtain ⟨e40, -⟩ := hs
      have g40 := Reg.ev (v := .pointer (some ⟨w.heap.size, 1, none⟩)) e40
      obtain ⟨hc, -⟩ := bcell hx
      exact Reg.obl_free rfl (Reg.wp_eqv (Option.some_ne_none _) (by go_simp) rfl)
    · intro ax wx hx hs
      obtain ⟨e5, -⟩ := hs
      have g5 := Reg.ev (v := .pointer (some ⟨w.heap.size + 1 + 1, 0, none⟩)) e5
      obtain ⟨hc, -⟩ := bcell hx
      exact Reg.obl_free rfl (Reg.wp_eqv (Option.some_ne_none _) (by go_simp) rfl)
    · intro ax wx hx hs
      obtain ⟨e42, -⟩ := hs
      have g42 := Reg.ev (v := .agg #[.int .i64 2, .string qk, .int .i64 qkd, .slice Aq nq cq, .int .i64 qlo, .int .i64 qhi, .int .i64 qva]) e42
      refine Reg.obl_free rfl ?_
      have hx' : Below W0.heap.size W0 wx := hx
      have hsz := (bstep HB_0.out hx').size
      go_simp
      refine (own_any _ _ _ Bq _ _ _ qda _ _ _ _ (Hq.out.below ((bstep HB_0.out hx').mono hBq)) (by omega) hnq).mono ?_
      rintro e wy ⟨A1, n1, c1, rfl, hy1, hby⟩
      exact Reg.done (Option.some_ne_none _) ⟨A1, n1, c1, rfl, hy1⟩ hby
    · intro ax wx hx hs
      obtain ⟨e41, e43, -⟩ := hs
      have g41 := Reg.ev (v := .string xk) e41
      refine Reg.obl_free rfl ?_
      obtain ⟨A1, n1, c1, e43, hy1⟩ := e43
      have g43 := Reg.ev e43
      exact Reg.wp_same (Option.some_ne_none _) (by go_simp) ⟨A1, n1, c1, rfl, hy1⟩
  · intro W1 hwf
    simp only [Reg.Fin]
    rintro _ rfl _ rfl _ rfl v43 h43 v44 h44
    obtain ⟨A1, n1, c1, rfl, hy1⟩ := h44
    clear h43
    have hwf' : Below W0.heap.size W0 W1 := hwf
    clear hwf
    have HS0_1 := Lib.hid (HS0_0.out.next hwf')
    have HS1_1 := Lib.hid (HS1_0.out.next hwf')
    have HS2_1 := Lib.hid (HS2_0.out.next hwf')
    have HS3_1 := Lib.hid (HS3_0.out.next hwf')
    have HB_1 := Lib.hid (bstep HB_0.out hwf')
    have hw_1 := HB_1.out.size
    have hws_1 := (hwf').size
    clear f0_0_0 f0_0_1 f0_0_2 f0_0_3 f0_0_4 f0_0_5 HS0_0 f1_0_0 f1_0_1 f1_0_2 f1_0_3 f1_0_4 f1_0_5 f1_0_6 HS1_0 f2_0_0 f2_0_1 f2_0_2 f2_0_3 f2_0_4 f2_0_5 f2_0_6 HS2_0 f3_0_0 f3_0_1 f3_0_2 f3_0_3 f3_0_4 f3_0_5 f3_0_6 f3_0_7 f3_0_8 f3_0_9 HS3_0 hf3_0
    clear hwf'
    obtain ⟨f0_1_0, f0_1_1, f0_1_2, f0_1_3, f0_1_4, f0_1_5⟩ := str6 HS0_1.out
    have hl0_1 := HS0_1.out.lt
    obtain ⟨f1_1_0, f1_1_1, f1_1_2, f1_1_3, f1_1_4, f1_1_5, f1_1_6⟩ := str7 HS1_1.out
    have hl1_1 := HS1_1.out.lt
    obtain ⟨f2_1_0, f2_1_1, f2_1_2, f2_1_3, f2_1_4, f2_1_5, f2_1_6⟩ := str7 HS2_1.out
    have hl2_1 := HS2_1.out.lt
    obtain ⟨f3_1_0, f3_1_1, f3_1_2, f3_1_3, f3_1_4, f3_1_5, f3_1_6, f3_1_7, f3_1_8, f3_1_9⟩ := str10 HS3_1.out
    have hl3_1 := HS3_1.out.lt
    have hf3_1 := fun j => HS3_1.out.frozen j
    have HYx_1 := Lib.hid (hy1)
    clear hy1
    refine Reg.Goal.mk ?_
    go_simp
    go_wp2_with fail
    generalize hW2 : ((((((((((W1).setCell ⟨w.heap.size + 1 + 1 + 1, 0, none⟩ (.int .i64 1)).setCell ⟨w.heap.size + 1 + 1 + 1, 1, none⟩ (.string xk)).setCell ⟨w.heap.size + 1 + 1 + 1, 2, none⟩ (.int .i64 2)).setCell ⟨w.heap.size + 1 + 1 + 1, 3, none⟩ (.string qk)).setCell ⟨w.heap.size + 1 + 1 + 1, 4, none⟩ (.int .i64 qkd)).setCell ⟨w.heap.size + 1 + 1 + 1, 5, none⟩ (.slice A1 n1 c1)).setCell ⟨w.heap.size + 1 + 1 + 1, 6, none⟩ (.int .i64 qlo)).setCell ⟨w.heap.size + 1 + 1 + 1, 7, none⟩ (.int .i64 qhi)).setCell ⟨w.heap.size + 1 + 1 + 1, 8, none⟩ (.int .i64 qva)).setCell ⟨w.heap.size + 1 + 1 + 1, 9, none⟩ (.int .i64 0) = W2
    have HS0_2 : Hid (Str W2 (w.heap.size) #[.int .i64 3, .string xk, .slice Ax nx cx, .int .i64 xlo, .int .i64 xhi, .int .i64 xn]) := Lib.hid (by rw [← hW2]; exact ((((((((((HS0_1.out).other 0 _ (by omega)).other 1 _ (by omega)).other 2 _ (by omega)).other 3 _ (by omega)).other 4 _ (by omega)).other 5 _ (by omega)).other 6 _ (by omega)).other 7 _ (by omega)).other 8 _ (by omega)).other 9 _ (by omega))
    have HS1_2 : Hid (Str W2 (w.heap.size + 1) #[.int .i64 pst, .string pk, .int .i64 pkd, .slice Ap np cp, .int .i64 plo, .int .i64 phi, .int .i64 pva]) := Lib.hid (by rw [← hW2]; exact ((((((((((HS1_1.out).other 0 _ (by omega)).other 1 _ (by omega)).other 2 _ (by omega)).other 3 _ (by omega)).other 4 _ (by omega)).other 5 _ (by omega)).other 6 _ (by omega)).other 7 _ (by omega)).other 8 _ (by omega)).other 9 _ (by omega))
    have HS2_2 : Hid (Str W2 (w.heap.size + 1 + 1) #[.int .i64 2, .string qk, .int .i64 qkd, .slice Aq nq cq, .int .i64 qlo, .int .i64 qhi, .int .i64 qva]) := Lib.hid (by rw [← hW2]; exact ((((((((((HS2_1.out).other 0 _ (by omega)).other 1 _ (by omega)).other 2 _ (by omega)).other 3 _ (by omega)).other 4 _ (by omega)).other 5 _ (by omega)).other 6 _ (by omega)).other 7 _ (by omega)).other 8 _ (by omega)).other 9 _ (by omega))
    have HS3_2 : Hid (Str W2 (w.heap.size + 1 + 1 + 1) #[.int .i64 1, .string xk, .int .i64 2, .string qk, .int .i64 qkd, .slice A1 n1 c1, .int .i64 qlo, .int .i64 qhi, .int .i64 qva, .int .i64 0]) := Lib.hid (by rw [← hW2]; have := ((((((((((HS3_1.out).set 0 (.int .i64 1)).set 1 (.string xk)).set 2 (.int .i64 2)).set 3 (.string qk)).set 4 (.int .i64 qkd)).set 5 (.slice A1 n1 c1)).set 6 (.int .i64 qlo)).set 7 (.int .i64 qhi)).set 8 (.int .i64 qva)).set 9 (.int .i64 0); simpa using this)
    have hgr2 : W1.grownBy W2 (some (w.heap.size + 1 + 1 + 1)) := by rw [← hW2]; exact grown_set (grown_set (grown_set (grown_set (grown_set (grown_set (grown_set (grown_set (grown_set (grown_set (grown_refl W1 (w.heap.size + 1 + 1 + 1)) 0 (.int .i64 1)) 1 (.string xk)) 2 (.int .i64 2)) 3 (.string qk)) 4 (.int .i64 qkd)) 5 (.slice A1 n1 c1)) 6 (.int .i64 qlo)) 7 (.int .i64 qhi)) 8 (.int .i64 qva)) 9 (.int .i64 0)
    have HB_2 := Lib.hid (below_grown HB_1.out hgr2 (by omega))
    have hw_2 := HB_2.out.size
    have hws_2 := hgr2.size
    have HYx_2 := Lib.hid ((Bytes.grown HYx_1.out (Nat.le_refl _) HS3_1.out rfl hgr2).more hws_2)
    clear HYx_1
    clear hW2
    clear f0_1_0 f0_1_1 f0_1_2 f0_1_3 f0_1_4 f0_1_5 HS0_1 f1_1_0 f1_1_1 f1_1_2 f1_1_3 f1_1_4 f1_1_5 f1_1_6 HS1_1 f2_1_0 f2_1_1 f2_1_2 f2_1_3 f2_1_4 f2_1_5 f2_1_6 HS2_1 f3_1_0 f3_1_1 f3_1_2 f3_1_3 f3_1_4 f3_1_5 f3_1_6 f3_1_7 f3_1_8 f3_1_9 HS3_1 hf3_1
    clear hgr2
    obtain ⟨f0_2_0, f0_2_1, f0_2_2, f0_2_3, f0_2_4, f0_2_5⟩ := str6 HS0_2.out
    have hl0_2 := HS0_2.out.lt
    obtain ⟨f1_2_0, f1_2_1, f1_2_2, f1_2_3, f1_2_4, f1_2_5, f1_2_6⟩ := str7 HS1_2.out
    have hl1_2 := HS1_2.out.lt
    obtain ⟨f2_2_0, f2_2_1, f2_2_2, f2_2_3, f2_2_4, f2_2_5, f2_2_6⟩ := str7 HS2_2.out
    have hl2_2 := HS2_2.out.lt
    obtain ⟨f3_2_0, f3_2_1, f3_2_2, f3_2_3, f3_2_4, f3_2_5, f3_2_6, f3_2_7, f3_2_8, f3_2_9⟩ := str10 HS3_2.out
    have hl3_2 := HS3_2.out.lt
    have hf3_2 := fun j => HS3_2.out.frozen j
    exact bodyPost_ret (v := .agg #[.int .i64 1, .string xk, .int .i64 2, .string qk, .int .i64 qkd, .slice A1 n1 c1, .int .i64 qlo, .int .i64 qhi, .int .i64 qva, .int .i64 0]) (by simp [results, Try.results40, go_sem, *]) rfl ⟨A1, n1, c1, rfl, HYx_2.out, HB_2.out⟩

theorem of_any (Ax : Option Addr) (nx cx : Nat) (act : Int) (xk : ByteArray) (xda : List UInt8) (xlo xhi xn : Int) (Ap : Option Addr) (np cp Bp : Nat) (pst : Int) (pk : ByteArray) (pkd : Int) (pda : List UInt8) (plo phi pva : Int) (Aq : Option Addr) (nq cq Bq : Nat) (qst : Int) (qk : ByteArray) (qkd : Int) (qda : List UInt8) (qlo qhi qva : Int) (w : World) (hp : Bytes w Bp Ap np cp pda) (hBp : Bp ≤ w.heap.size) (hnp : np ≤ 140737488355328) (hq : Bytes w Bq Aq nq cq qda) (hBq : Bq ≤ w.heap.size) (hnq : nq ≤ 140737488355328) : Calls Try.prog 40 #[.agg #[.int .i64 act, .string xk, .slice Ax nx cx, .int .i64 xlo, .int .i64 xhi, .int .i64 xn], .agg #[.int .i64 pst, .string pk, .int .i64 pkd, .slice Ap np cp, .int .i64 plo, .int .i64 phi, .int .i64 pva], .agg #[.int .i64 qst, .string qk, .int .i64 qkd, .slice Aq nq cq, .int .i64 qlo, .int .i64 qhi, .int .i64 qva]] w (GivesUndo w (UndoP.of ⟨act, xk, xda, xlo, xhi, xn⟩ ⟨pst, pk, ⟨pkd, pda, plo, phi, pva⟩⟩ ⟨qst, qk, ⟨qkd, qda, qlo, qhi, qva⟩⟩)) := by
  by_cases h1 : act = 1
  · subst h1
    by_cases hs1 : pst = 1
    · subst hs1
      by_cases hk : pk = xk
      · subst hk
        exact of1_s1k Ax nx cx xda xlo xhi xn Ap np cp Bp pk pkd pda plo phi pva Aq nq cq Bq qst qk qkd qda qlo qhi qva w hp hBp hnp hq hBq hnq
      · exact of1_s1n Ax nx cx xk xda xlo xhi xn Ap np cp Bp pk pkd pda plo phi pva Aq nq cq Bq qst qk qkd qda qlo qhi qva w hp hBp hnp hq hBq hnq hk
    by_cases hs2 : pst = 2
    · subst hs2
      by_cases hk : pk = xk
      · subst hk
        exact of1_s2k Ax nx cx xda xlo xhi xn Ap np cp Bp pk pkd pda plo phi pva Aq nq cq Bq qst qk qkd qda qlo qhi qva w hp hBp hnp hq hBq hnq
      · exact of1_s2n Ax nx cx xk xda xlo xhi xn Ap np cp Bp pk pkd pda plo phi pva Aq nq cq Bq qst qk qkd qda qlo qhi qva w hp hBp hnp hq hBq hnq hk
    exact of1_no Ax nx cx xk xda xlo xhi xn Ap np cp Bp pst pk pkd pda plo phi pva Aq nq cq Bq qst qk qkd qda qlo qhi qva w hp hBp hnp hq hBq hnq hs1 hs2
  by_cases h2 : act = 2
  · subst h2
    by_cases hs1 : pst = 1
    · subst hs1
      by_cases hk : pk = xk
      · subst hk
        exact of2_s1k Ax nx cx xda xlo xhi xn Ap np cp Bp pk pkd pda plo phi pva Aq nq cq Bq qst qk qkd qda qlo qhi qva w hp hBp hnp hq hBq hnq
      · exact of2_s1n Ax nx cx xk xda xlo xhi xn Ap np cp Bp pk pkd pda plo phi pva Aq nq cq Bq qst qk qkd qda qlo qhi qva w hp hBp hnp hq hBq hnq hk
    by_cases hs2 : pst = 2
    · subst hs2
      by_cases hk : pk = xk
      · subst hk
        exact of2_s2k Ax nx cx xda xlo xhi xn Ap np cp Bp pk pkd pda plo phi pva Aq nq cq Bq qst qk qkd qda qlo qhi qva w hp hBp hnp hq hBq hnq
      · exact of2_s2n Ax nx cx xk xda xlo xhi xn Ap np cp Bp pk pkd pda plo phi pva Aq nq cq Bq qst qk qkd qda qlo qhi qva w hp hBp hnp hq hBq hnq hk
    exact of2_no Ax nx cx xk xda xlo xhi xn Ap np cp Bp pst pk pkd pda plo phi pva Aq nq cq Bq qst qk qkd qda qlo qhi qva w hp hBp hnp hq hBq hnq hs1 hs2
  by_cases h3 : act = 3
  · subst h3
    by_cases hs1 : pst = 1
    · subst hs1
      by_cases hk : pk = xk
      · subst hk
        exact of3_s1k Ax nx cx xda xlo xhi xn Ap np cp Bp pk pkd pda plo phi pva Aq nq cq Bq qst qk qkd qda qlo qhi qva w hp hBp hnp hq hBq hnq
      · exact of3_s1n Ax nx cx xk xda xlo xhi xn Ap np cp Bp pk pkd pda plo phi pva Aq nq cq Bq qst qk qkd qda qlo qhi qva w hp hBp hnp hq hBq hnq hk
    by_cases hs2 : pst = 2
    · subst hs2
      by_cases hk : pk = xk
      · subst hk
        exact of3_s2k Ax nx cx xda xlo xhi xn Ap np cp Bp pk pkd pda plo phi pva Aq nq cq Bq qst qk qkd qda qlo qhi qva w hp hBp hnp hq hBq hnq
      · exact of3_s2n Ax nx cx xk xda xlo xhi xn Ap np cp Bp pk pkd pda plo phi pva Aq nq cq Bq qst qk qkd qda qlo qhi qva w hp hBp hnp hq hBq hnq hk
    exact of3_no Ax nx cx xk xda xlo xhi xn Ap np cp Bp pst pk pkd pda plo phi pva Aq nq cq Bq qst qk qkd qda qlo qhi qva w hp hBp hnp hq hBq hnq hs1 hs2
  by_cases h4 : act = 4
  · exact of_inc Ax nx cx act xk xda xlo xhi xn Ap np cp Bp pst pk pkd pda plo phi pva Aq nq cq Bq qst qk qkd qda qlo qhi qva w hp hBp hnp hq hBq hnq h4
  by_cases h5 : act = 5
  · exact of_dec Ax nx cx act xk xda xlo xhi xn Ap np cp Bp pst pk pkd pda plo phi pva Aq nq cq Bq qst qk qkd qda qlo qhi qva w hp hBp hnp hq hBq hnq h5
  · exact of_none Ax nx cx act xk xda xlo xhi xn Ap np cp Bp pst pk pkd pda plo phi pva Aq nq cq Bq qst qk qkd qda qlo qhi qva w hp hBp hnp hq hBq hnq h1 h2 h3 h4 h5
end Go.Proofs.Ytghgccgpgonlmaa.UndoW
