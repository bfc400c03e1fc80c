/-
  Texts of one claim, joined: Got, UndoApply, UndoCheck.
-/
import Derived.Test.YtghgccgpgonlmaaMem
import Derived.Test.YtghgccgpgonlmaaUndo
import Derived.Test.YtghgccgpgonlmaaRegS
import Derived.Test.YtghgccgpgonlmaaBox
namespace Go.Proofs.Ytghgccgpgonlmaa.SlotGet
open Go.RowKit
/-- the call hands back this item, and this error's number -/
def GotItem (w : World) (r : Item × Int) (e : Ending) (w' : World) : Prop := ∃ A n cap, e = .returned (.tuple #[.agg #[.int .i64 r.1.state, .string r.1.key, .int .i64 r.1.cell.kind, .slice A n cap, .int .i64 r.1.cell.lo, .int .i64 r.1.cell.hi, .int .i64 r.1.cell.val], .int .i64 r.2]) ∧
  Bytes w' w'.heap.size A n cap r.1.cell.data ∧ Below w.heap.size w w'
end Go.Proofs.Ytghgccgpgonlmaa.SlotGet
namespace Go.Proofs.Ytghgccgpgonlmaa.UndoW
open Go.RowKit
set_option linter.unusedVariables false

set_option maxRecDepth 100000 in
set_option maxHeartbeats 1000000 in
theorem apply_item (uk : ByteArray) (un : Int) (Ap : Option Addr) (np cp Bp : Nat) (pst : Int) (pk : ByteArray) (pkd : Int) (pda : List UInt8) (plo phi pva : Int) (Aq : Option Addr) (nq cq Bq : Nat) (qst : Int) (qk : ByteArray) (qkd : Int) (qda : List UInt8) (qlo qhi qva : Int) (w : World) (hp : Bytes w Bp Ap np cp pda) (hBp : Bp ≤ w.heap.size) (hnp : np ≤ 140737488355328) (hq : Bytes w Bq Aq nq cq qda) (hBq : Bq ≤ w.heap.size) (hnq : nq ≤ 140737488355328) (hun : In64 un) (hqv : In64 qva) (hql : In64 qlo) (hqh : In64 qhi) : Calls Try.prog 41 #[.agg #[.int .i64 1, .string uk, .int .i64 pst, .string pk, .int .i64 pkd, .slice Ap np cp, .int .i64 plo, .int .i64 phi, .int .i64 pva, .int .i64 un], .agg #[.int .i64 qst, .string qk, .int .i64 qkd, .slice Aq nq cq, .int .i64 qlo, .int .i64 qhi, .int .i64 qva]] w (SlotGet.GotItem w (UndoP.apply ⟨1, uk, ⟨pst, pk, ⟨pkd, pda, plo, phi, pva⟩⟩, un⟩ ⟨qst, qk, ⟨qkd, qda, qlo, qhi, qva⟩⟩)) := by
  rw [UndoP.apply_item _ _ rfl]
  have Hp := Lib.hid hp
  clear hp hq hun hqv hql hqh
  go_enter Try.func41, Try.ntmps41
  go_wp2_with fail
  generalize hW0 : (((w).alloc (.cells #[.int .i64 1, .string uk, .int .i64 pst, .string pk, .int .i64 pkd, .slice Ap np cp, .int .i64 plo, .int .i64 phi, .int .i64 pva, .int .i64 un] 62)).alloc (.cells #[.int .i64 qst, .string qk, .int .i64 qkd, .slice Aq nq cq, .int .i64 qlo, .int .i64 qhi, .int .i64 qva] 54)).alloc (.cells #[.int .i64 0, .string ⟨#[]⟩, .int .i64 0, .slice none 0 0, .int .i64 0, .int .i64 0, .int .i64 0] 54) = W0
  have HS0_0 : Hid (Str W0 (w.heap.size) #[.int .i64 1, .string uk, .int .i64 pst, .string pk, .int .i64 pkd, .slice Ap np cp, .int .i64 plo, .int .i64 phi, .int .i64 pva, .int .i64 un]) := Lib.hid (by rw [← hW0]; have := ((Str.new (w) #[.int .i64 1, .string uk, .int .i64 pst, .string pk, .int .i64 pkd, .slice Ap np cp, .int .i64 plo, .int .i64 phi, .int .i64 pva, .int .i64 un] 62).alloc (.cells #[.int .i64 qst, .string qk, .int .i64 qkd, .slice Aq nq cq, .int .i64 qlo, .int .i64 qhi, .int .i64 qva] 54)).alloc (.cells #[.int .i64 0, .string ⟨#[]⟩, .int .i64 0, .slice none 0 0, .int .i64 0, .int .i64 0, .int .i64 0] 54); simpa using this)
  have HS1_0 : Hid (Str W0 (w.heap.size + 1) #[.int .i64 qst, .string qk, .int .i64 qkd, .slice Aq nq cq, .int .i64 qlo, .int .i64 qhi, .int .i64 qva]) := Lib.hid (by rw [← hW0]; have := (Str.new ((w).alloc (.cells #[.int .i64 1, .string uk, .int .i64 pst, .string pk, .int .i64 pkd, .slice Ap np cp, .int .i64 plo, .int .i64 phi, .int .i64 pva, .int .i64 un] 62)) #[.int .i64 qst, .string qk, .int .i64 qkd, .slice Aq nq cq, .int .i64 qlo, .int .i64 qhi, .int .i64 qva] 54).alloc (.cells #[.int .i64 0, .string ⟨#[]⟩, .int .i64 0, .slice none 0 0, .int .i64 0, .int .i64 0, .int .i64 0] 54); simpa using this)
  have HS2_0 : Hid (Str W0 (w.heap.size + 1 + 1) #[.int .i64 0, .string ⟨#[]⟩, .int .i64 0, .slice none 0 0, .int .i64 0, .int .i64 0, .int .i64 0]) := Lib.hid (by rw [← hW0]; have := Str.new (((w).alloc (.cells #[.int .i64 1, .string uk, .int .i64 pst, .string pk, .int .i64 pkd, .slice Ap np cp, .int .i64 plo, .int .i64 phi, .int .i64 pva, .int .i64 un] 62)).alloc (.cells #[.int .i64 qst, .string qk, .int .i64 qkd, .slice Aq nq cq, .int .i64 qlo, .int .i64 qhi, .int .i64 qva] 54)) #[.int .i64 0, .string ⟨#[]⟩, .int .i64 0, .slice none 0 0, .int .i64 0, .int .i64 0, .int .i64 0] 54; simpa using this)
  have HB_0 : Hid (Below w.heap.size w W0) := Lib.hid (by rw [← hW0]; exact balloc (balloc (balloc (bsame w) _) _) _)
  have hw_0 := HB_0.out.size
  clear hW0
  obtain ⟨f0_0_0, f0_0_1, f0_0_2, f0_0_3, f0_0_4, f0_0_5, f0_0_6, f0_0_7, f0_0_8, f0_0_9⟩ := str10 HS0_0.out
  have hl0_0 := HS0_0.out.lt
  obtain ⟨f1_0_0, f1_0_1, f1_0_2, f1_0_3, f1_0_4, f1_0_5, f1_0_6⟩ := str7 HS1_0.out
  have hl1_0 := HS1_0.out.lt
  obtain ⟨f2_0_0, f2_0_1, f2_0_2, f2_0_3, f2_0_4, f2_0_5, f2_0_6⟩ := str7 HS2_0.out
  have hl2_0 := HS2_0.out.lt
  have hf2_0 := fun j => HS2_0.out.frozen j
  refine (own_any _ _ _ Bp _ _ _ pda _ _ _ _ (Hp.out.below (HB_0.out.mono hBp)) (by omega) hnp).mono ?_
  rintro e W1 ⟨A1, n1, c1, rfl, hy1, hb1⟩
  have HS0_1 := Lib.hid (HS0_0.out.next hb1)
  have HS1_1 := Lib.hid (HS1_0.out.next hb1)
  have HS2_1 := Lib.hid (HS2_0.out.next hb1)
  have HB_1 := Lib.hid (bstep HB_0.out hb1)
  have hw_1 := HB_1.out.size
  have hws_1 := (hb1).size
  clear f0_0_0 f0_0_1 f0_0_2 f0_0_3 f0_0_4 f0_0_5 f0_0_6 f0_0_7 f0_0_8 f0_0_9 HS0_0 f1_0_0 f1_0_1 f1_0_2 f1_0_3 f1_0_4 f1_0_5 f1_0_6 HS1_0 f2_0_0 f2_0_1 f2_0_2 f2_0_3 f2_0_4 f2_0_5 f2_0_6 HS2_0 hf2_0
  clear hb1
  obtain ⟨f0_1_0, f0_1_1, f0_1_2, f0_1_3, f0_1_4, f0_1_5, f0_1_6, f0_1_7, f0_1_8, f0_1_9⟩ := str10 HS0_1.out
  have hl0_1 := HS0_1.out.lt
  obtain ⟨f1_1_0, f1_1_1, f1_1_2, f1_1_3, f1_1_4, f1_1_5, f1_1_6⟩ := str7 HS1_1.out
  have hl1_1 := HS1_1.out.lt
  obtain ⟨f2_1_0, f2_1_1, f2_1_2, f2_1_3, f2_1_4, f2_1_5, f2_1_6⟩ := str7 HS2_1.out
  have hl2_1 := HS2_1.out.lt
  have hf2_1 := fun j => HS2_1.out.frozen j
  have HYx_1 := Lib.hid (hy1)
  clear hy1
  go_wp2_with fail
  generalize hW2 : (((((((W1).setCell ⟨w.heap.size + 1 + 1, 0, none⟩ (.int .i64 pst)).setCell ⟨w.heap.size + 1 + 1, 1, none⟩ (.string pk)).setCell ⟨w.heap.size + 1 + 1, 2, none⟩ (.int .i64 pkd)).setCell ⟨w.heap.size + 1 + 1, 3, none⟩ (.slice A1 n1 c1)).setCell ⟨w.heap.size + 1 + 1, 4, none⟩ (.int .i64 plo)).setCell ⟨w.heap.size + 1 + 1, 5, none⟩ (.int .i64 phi)).setCell ⟨w.heap.size + 1 + 1, 6, none⟩ (.int .i64 pva) = W2
  have HS0_2 : Hid (Str W2 (w.heap.size) #[.int .i64 1, .string uk, .int .i64 pst, .string pk, .int .i64 pkd, .slice Ap np cp, .int .i64 plo, .int .i64 phi, .int .i64 pva, .int .i64 un]) := Lib.hid (by rw [← hW2]; exact (((((((HS0_1.out).other 0 _ (by omega)).other 1 _ (by omega)).other 2 _ (by omega)).other 3 _ (by omega)).other 4 _ (by omega)).other 5 _ (by omega)).other 6 _ (by omega))
  have HS1_2 : Hid (Str W2 (w.heap.size + 1) #[.int .i64 qst, .string qk, .int .i64 qkd, .slice Aq nq cq, .int .i64 qlo, .int .i64 qhi, .int .i64 qva]) := Lib.hid (by rw [← hW2]; exact (((((((HS1_1.out).other 0 _ (by omega)).other 1 _ (by omega)).other 2 _ (by omega)).other 3 _ (by omega)).other 4 _ (by omega)).other 5 _ (by omega)).other 6 _ (by omega))
  have HS2_2 : Hid (Str W2 (w.heap.size + 1 + 1) #[.int .i64 pst, .string pk, .int .i64 pkd, .slice A1 n1 c1, .int .i64 plo, .int .i64 phi, .int .i64 pva]) := Lib.hid (by rw [← hW2]; have := (((((((HS2_1.out).set 0 (.int .i64 pst)).set 1 (.string pk)).set 2 (.int .i64 pkd)).set 3 (.slice A1 n1 c1)).set 4 (.int .i64 plo)).set 5 (.int .i64 phi)).set 6 (.int .i64 pva); simpa using this)
  have hgr2 : W1.grownBy W2 (some (w.heap.size + 1 + 1)) := by rw [← hW2]; exact grown_set (grown_set (grown_set (grown_set (grown_set (grown_set (grown_set (grown_refl W1 (w.heap.size + 1 + 1)) 0 (.int .i64 pst)) 1 (.string pk)) 2 (.int .i64 pkd)) 3 (.slice A1 n1 c1)) 4 (.int .i64 plo)) 5 (.int .i64 phi)) 6 (.int .i64 pva)
  have HB_2 := Lib.hid (below_grown HB_1.out hgr2 (by omega))
  have hw_2 := HB_2.out.size
  have hws_2 := hgr2.size
  have HYx_2 := Lib.hid ((Bytes.grown HYx_1.out (Nat.le_refl _) HS2_1.out rfl hgr2).more hws_2)
  clear HYx_1
  clear hW2
  clear f0_1_0 f0_1_1 f0_1_2 f0_1_3 f0_1_4 f0_1_5 f0_1_6 f0_1_7 f0_1_8 f0_1_9 HS0_1 f1_1_0 f1_1_1 f1_1_2 f1_1_3 f1_1_4 f1_1_5 f1_1_6 HS1_1 f2_1_0 f2_1_1 f2_1_2 f2_1_3 f2_1_4 f2_1_5 f2_1_6 HS2_1 hf2_1
  clear hgr2
  obtain ⟨f0_2_0, f0_2_1, f0_2_2, f0_2_3, f0_2_4, f0_2_5, f0_2_6, f0_2_7, f0_2_8, f0_2_9⟩ := str10 HS0_2.out
  have hl0_2 := HS0_2.out.lt
  obtain ⟨f1_2_0, f1_2_1, f1_2_2, f1_2_3, f1_2_4, f1_2_5, f1_2_6⟩ := str7 HS1_2.out
  have hl1_2 := HS1_2.out.lt
  obtain ⟨f2_2_0, f2_2_1, f2_2_2, f2_2_3, f2_2_4, f2_2_5, f2_2_6⟩ := str7 HS2_2.out
  have hl2_2 := HS2_2.out.lt
  have hf2_2 := fun j => HS2_2.out.frozen j
  exact bodyPost_ret (v := .tuple #[.agg #[.int .i64 pst, .string pk, .int .i64 pkd, .slice A1 n1 c1, .int .i64 plo, .int .i64 phi, .int .i64 pva], .int .i64 0]) (by simp [results, Try.results41, go_sem, *]) rfl ⟨A1, n1, c1, rfl, HYx_2.out, HB_2.out⟩

set_option maxRecDepth 100000 in
set_option maxHeartbeats 1000000 in
theorem apply_arg (act : Int) (uk : ByteArray) (un : Int) (Ap : Option Addr) (np cp Bp : Nat) (pst : Int) (pk : ByteArray) (pkd : Int) (pda : List UInt8) (plo phi pva : Int) (Aq : Option Addr) (nq cq Bq : Nat) (qst : Int) (qk : ByteArray) (qkd : Int) (qda : List UInt8) (qlo qhi qva : Int) (w : World) (hp : Bytes w Bp Ap np cp pda) (hBp : Bp ≤ w.heap.size) (hnp : np ≤ 140737488355328) (hq : Bytes w Bq Aq nq cq qda) (hBq : Bq ≤ w.heap.size) (hnq : nq ≤ 140737488355328) (hun : In64 un) (hqv : In64 qva) (hql : In64 qlo) (hqh : In64 qhi) (h1 : ¬ act = 1) (h2 : ¬ act = 2) (h3 : ¬ act = 3) : Calls Try.prog 41 #[.agg #[.int .i64 act, .string uk, .int .i64 pst, .string pk, .int .i64 pkd, .slice Ap np cp, .int .i64 plo, .int .i64 phi, .int .i64 pva, .int .i64 un], .agg #[.int .i64 qst, .string qk, .int .i64 qkd, .slice Aq nq cq, .int .i64 qlo, .int .i64 qhi, .int .i64 qva]] w (SlotGet.GotItem w (UndoP.apply ⟨act, uk, ⟨pst, pk, ⟨pkd, pda, plo, phi, pva⟩⟩, un⟩ ⟨qst, qk, ⟨qkd, qda, qlo, qhi, qva⟩⟩)) := by
  rw [UndoP.apply_arg _ _ h1 h2 h3]
  clear hp hq hun hqv hql hqh
  go_enter Try.func41, Try.ntmps41
  go_wp2_with fail
  exact bodyPost_ret (v := .tuple #[.agg #[.int .i64 0, .string ⟨#[]⟩, .int .i64 0, .slice none 0 0, .int .i64 0, .int .i64 0, .int .i64 0], .int .i64 1]) (by simp [results, Try.results41, go_sem, *]) rfl ⟨none, 0, 0, rfl, Bytes.none_ _ _, balloc (balloc (balloc (bsame w) _) _) _⟩

set_option maxRecDepth 100000 in
set_option maxHeartbeats 1000000 in
theorem apply2_st (uk : ByteArray) (un : Int) (Ap : Option Addr) (np cp Bp : Nat) (pst : Int) (pk : ByteArray) (pkd : Int) (pda : List UInt8) (plo phi pva : Int) (Aq : Option Addr) (nq cq Bq : Nat) (qst : Int) (qk : ByteArray) (qkd : Int) (qda : List UInt8) (qlo qhi qva : Int) (w : World) (hp : Bytes w Bp Ap np cp pda) (hBp : Bp ≤ w.heap.size) (hnp : np ≤ 140737488355328) (hq : Bytes w Bq Aq nq cq qda) (hBq : Bq ≤ w.heap.size) (hnq : nq ≤ 140737488355328) (hun : In64 un) (hqv : In64 qva) (hql : In64 qlo) (hqh : In64 qhi) (hs : ¬ qst = 1) : Calls Try.prog 41 #[.agg #[.int .i64 2, .string uk, .int .i64 pst, .string pk, .int .i64 pkd, .slice Ap np cp, .int .i64 plo, .int .i64 phi, .int .i64 pva, .int .i64 un], .agg #[.int .i64 qst, .string qk, .int .i64 qkd, .slice Aq nq cq, .int .i64 qlo, .int .i64 qhi, .int .i64 qva]] w (SlotGet.GotItem w (UndoP.apply ⟨2, uk, ⟨pst, pk, ⟨pkd, pda, plo, phi, pva⟩⟩, un⟩ ⟨qst, qk, ⟨qkd, qda, qlo, qhi, qva⟩⟩)) := by
  rw [UndoP.apply_none _ _ (by simp) (fun h => hs h.1)]
  clear hp hq hun hqv hql hqh
  go_enter Try.func41, Try.ntmps41
  go_wp2_with fail
  exact bodyPost_ret (v := .tuple #[.agg #[.int .i64 0, .string ⟨#[]⟩, .int .i64 0, .slice none 0 0, .int .i64 0, .int .i64 0, .int .i64 0], .int .i64 5]) (by simp [results, Try.results41, go_sem, *]) rfl ⟨none, 0, 0, rfl, Bytes.none_ _ _, balloc (balloc (balloc (bsame w) _) _) _⟩

set_option maxRecDepth 100000 in
set_option maxHeartbeats 1000000 in
theorem apply2_key (uk : ByteArray) (un : Int) (Ap : Option Addr) (np cp Bp : Nat) (pst : Int) (pk : ByteArray) (pkd : Int) (pda : List UInt8) (plo phi pva : Int) (Aq : Option Addr) (nq cq Bq : Nat) (qk : ByteArray) (qkd : Int) (qda : List UInt8) (qlo qhi qva : Int) (w : World) (hp : Bytes w Bp Ap np cp pda) (hBp : Bp ≤ w.heap.size) (hnp : np ≤ 140737488355328) (hq : Bytes w Bq Aq nq cq qda) (hBq : Bq ≤ w.heap.size) (hnq : nq ≤ 140737488355328) (hun : In64 un) (hqv : In64 qva) (hql : In64 qlo) (hqh : In64 qhi) (hk : ¬ qk = uk) : Calls Try.prog 41 #[.agg #[.int .i64 2, .string uk, .int .i64 pst, .string pk, .int .i64 pkd, .slice Ap np cp, .int .i64 plo, .int .i64 phi, .int .i64 pva, .int .i64 un], .agg #[.int .i64 1, .string qk, .int .i64 qkd, .slice Aq nq cq, .int .i64 qlo, .int .i64 qhi, .int .i64 qva]] w (SlotGet.GotItem w (UndoP.apply ⟨2, uk, ⟨pst, pk, ⟨pkd, pda, plo, phi, pva⟩⟩, un⟩ ⟨1, qk, ⟨qkd, qda, qlo, qhi, qva⟩⟩)) := by
  rw [UndoP.apply_none _ _ (by simp) (fun h => hk h.2)]
  clear hp hq hun hqv hql hqh
  replace hk := key_ne hk
  go_enter Try.func41, Try.ntmps41
  go_wp2_with fail
  exact bodyPost_ret (v := .tuple #[.agg #[.int .i64 0, .string ⟨#[]⟩, .int .i64 0, .slice none 0 0, .int .i64 0, .int .i64 0, .int .i64 0], .int .i64 5]) (by simp [results, Try.results41, go_sem, *]) rfl ⟨none, 0, 0, rfl, Bytes.none_ _ _, balloc (balloc (balloc (bsame w) _) _) _⟩

set_option maxRecDepth 100000 in
set_option maxHeartbeats 1000000 in
theorem apply2_kind_true (un : Int) (Ap : Option Addr) (np cp Bp : Nat) (pst : Int) (pk : ByteArray) (pkd : Int) (pda : List UInt8) (plo phi pva : Int) (Aq : Option Addr) (nq cq Bq : Nat) (qk : ByteArray) (qkd : Int) (qda : List UInt8) (qlo qhi qva : Int) (w : World) (hp : Bytes w Bp Ap np cp pda) (hBp : Bp ≤ w.heap.size) (hnp : np ≤ 140737488355328) (hq : Bytes w Bq Aq nq cq qda) (hBq : Bq ≤ w.heap.size) (hnq : nq ≤ 140737488355328) (hun : In64 un) (hqv : In64 qva) (hql : In64 qlo) (hqh : In64 qhi) (hr : ¬ (qkd = 2 ∧ CellP.right ⟨qkd, qda, qlo, qhi, qva⟩ = true)) (hf : WideP.fits (qva + un) = true) : Calls Try.prog 41 #[.agg #[.int .i64 2, .string qk, .int .i64 pst, .string pk, .int .i64 pkd, .slice Ap np cp, .int .i64 plo, .int .i64 phi, .int .i64 pva, .int .i64 un], .agg #[.int .i64 1, .string qk, .int .i64 qkd, .slice Aq nq cq, .int .i64 qlo, .int .i64 qhi, .int .i64 qva]] w (SlotGet.GotItem w (UndoP.apply ⟨2, qk, ⟨pst, pk, ⟨pkd, pda, plo, phi, pva⟩⟩, un⟩ ⟨1, qk, ⟨qkd, qda, qlo, qhi, qva⟩⟩)) := by
  rw [UndoP.apply_kind _ _ (by simp) ⟨rfl, rfl⟩ hr]
  obtain ⟨sv, hsv⟩ : ∃ sv, WideP.num (qva + un) = sv := ⟨_, rfl⟩
  have HNUM := Lib.hid hsv
  have HFIT := Lib.hid hf
  clear hsv hf
  have HV : Hid (CellP.set ⟨qkd, qda, qlo, qhi, qva⟩ sv = ((⟨0, [], 0, 0, 0⟩ : Cell), 6)) := Lib.hid (by unfold CellP.set; rw [if_neg hr]; rfl)
  clear hr
  have Hq := Lib.hid hq
  have hlq := hq.len
  have hcq := Nat.le_trans hq.2.1 hq.2.2.1
  have HS : Hid (∀ W, Calls Try.prog 77 #[.agg #[.int .i64 qkd, .slice Aq nq cq, .int .i64 qlo, .int .i64 qhi, .int .i64 qva], .int .i64 sv] W (CellW.GivesCell W (⟨0, [], 0, 0, 0⟩ : Cell) 6)) := Lib.hid (fun W => by have h := CellW.set_any Aq nq cq ⟨qkd, qda, qlo, qhi, qva⟩ sv W hlq hcq; rw [HV.out] at h; exact h)
  have HA : Hid (∀ W, Calls Try.prog 75 #[.int .i64 qva, .int .i64 un] W fun e w' => e = .returned (.tuple #[.int .i64 sv, .bool true]) ∧ Below W.heap.size W w') := Lib.hid (fun W => by have h := WideW.add_any qva un hqv.1 hqv.2 hun.1 hun.2 W; rw [HNUM.out, HFIT.out] at h; exact h)
  clear hp hq hlq hcq hun hqv hql hqh HV HNUM HFIT
  go_enter Try.func41, Try.ntmps41
  go_wp2_with fail
  generalize hW0 : (((w).alloc (.cells #[.int .i64 2, .string qk, .int .i64 pst, .string pk, .int .i64 pkd, .slice Ap np cp, .int .i64 plo, .int .i64 phi, .int .i64 pva, .int .i64 un] 62)).alloc (.cells #[.int .i64 1, .string qk, .int .i64 qkd, .slice Aq nq cq, .int .i64 qlo, .int .i64 qhi, .int .i64 qva] 54)).alloc (.cells #[.int .i64 0, .string ⟨#[]⟩, .int .i64 0, .slice none 0 0, .int .i64 0, .int .i64 0, .int .i64 0] 54) = W0
  have HS0_0 : Hid (Str W0 (w.heap.size) #[.int .i64 2, .string qk, .int .i64 pst, .string pk, .int .i64 pkd, .slice Ap np cp, .int .i64 plo, .int .i64 phi, .int .i64 pva, .int .i64 un]) := Lib.hid (by rw [← hW0]; have := ((Str.new (w) #[.int .i64 2, .string qk, .int .i64 pst, .string pk, .int .i64 pkd, .slice Ap np cp, .int .i64 plo, .int .i64 phi, .int .i64 pva, .int .i64 un] 62).alloc (.cells #[.int .i64 1, .string qk, .int .i64 qkd, .slice Aq nq cq, .int .i64 qlo, .int .i64 qhi, .int .i64 qva] 54)).alloc (.cells #[.int .i64 0, .string ⟨#[]⟩, .int .i64 0, .slice none 0 0, .int .i64 0, .int .i64 0, .int .i64 0] 54); simpa using this)
  have HS1_0 : Hid (Str W0 (w.heap.size + 1) #[.int .i64 1, .string qk, .int .i64 qkd, .slice Aq nq cq, .int .i64 qlo, .int .i64 qhi, .int .i64 qva]) := Lib.hid (by rw [← hW0]; have := (Str.new ((w).alloc (.cells #[.int .i64 2, .string qk, .int .i64 pst, .string pk, .int .i64 pkd, .slice Ap np cp, .int .i64 plo, .int .i64 phi, .int .i64 pva, .int .i64 un] 62)) #[.int .i64 1, .string qk, .int .i64 qkd, .slice Aq nq cq, .int .i64 qlo, .int .i64 qhi, .int .i64 qva] 54).alloc (.cells #[.int .i64 0, .string ⟨#[]⟩, .int .i64 0, .slice none 0 0, .int .i64 0, .int .i64 0, .int .i64 0] 54); simpa using this)
  have HS2_0 : Hid (Str W0 (w.heap.size + 1 + 1) #[.int .i64 0, .string ⟨#[]⟩, .int .i64 0, .slice none 0 0, .int .i64 0, .int .i64 0, .int .i64 0]) := Lib.hid (by rw [← hW0]; have := Str.new (((w).alloc (.cells #[.int .i64 2, .string qk, .int .i64 pst, .string pk, .int .i64 pkd, .slice Ap np cp, .int .i64 plo, .int .i64 phi, .int .i64 pva, .int .i64 un] 62)).alloc (.cells #[.int .i64 1, .string qk, .int .i64 qkd, .slice Aq nq cq, .int .i64 qlo, .int .i64 qhi, .int .i64 qva] 54)) #[.int .i64 0, .string ⟨#[]⟩, .int .i64 0, .slice none 0 0, .int .i64 0, .int .i64 0, .int .i64 0] 54; simpa using this)
  have HB_0 : Hid (Below w.heap.size w W0) := Lib.hid (by rw [← hW0]; exact balloc (balloc (balloc (bsame w) _) _) _)
  have hw_0 := HB_0.out.size
  clear hW0
  obtain ⟨f0_0_0, f0_0_1, f0_0_2, f0_0_3, f0_0_4, f0_0_5, f0_0_6, f0_0_7, f0_0_8, f0_0_9⟩ := str10 HS0_0.out
  have hl0_0 := HS0_0.out.lt
  obtain ⟨f1_0_0, f1_0_1, f1_0_2, f1_0_3, f1_0_4, f1_0_5, f1_0_6⟩ := str7 HS1_0.out
  have hl1_0 := HS1_0.out.lt
  have hf1_0 := fun j => HS1_0.out.frozen j
  obtain ⟨f2_0_0, f2_0_1, f2_0_2, f2_0_3, f2_0_4, f2_0_5, f2_0_6⟩ := str7 HS2_0.out
  have hl2_0 := HS2_0.out.lt
  have hf2_0 := fun j => HS2_0.out.frozen j
  refine (HA.out _).mono ?_
  rintro e W1 ⟨rfl, hb1⟩
  have HS0_1 := Lib.hid (HS0_0.out.next hb1)
  have HS1_1 := Lib.hid (HS1_0.out.next hb1)
  have HS2_1 := Lib.hid (HS2_0.out.next hb1)
  have HB_1 := Lib.hid (bstep HB_0.out hb1)
  have hw_1 := HB_1.out.size
  have hws_1 := (hb1).size
  clear f0_0_0 f0_0_1 f0_0_2 f0_0_3 f0_0_4 f0_0_5 f0_0_6 f0_0_7 f0_0_8 f0_0_9 HS0_0 f1_0_0 f1_0_1 f1_0_2 f1_0_3 f1_0_4 f1_0_5 f1_0_6 HS1_0 hf1_0 f2_0_0 f2_0_1 f2_0_2 f2_0_3 f2_0_4 f2_0_5 f2_0_6 HS2_0 hf2_0
  clear hb1
  obtain ⟨f0_1_0, f0_1_1, f0_1_2, f0_1_3, f0_1_4, f0_1_5, f0_1_6, f0_1_7, f0_1_8, f0_1_9⟩ := str10 HS0_1.out
  have hl0_1 := HS0_1.out.lt
  obtain ⟨f1_1_0, f1_1_1, f1_1_2, f1_1_3, f1_1_4, f1_1_5, f1_1_6⟩ := str7 HS1_1.out
  have hl1_1 := HS1_1.out.lt
  have hf1_1 := fun j => HS1_1.out.frozen j
  obtain ⟨f2_1_0, f2_1_1, f2_1_2, f2_1_3, f2_1_4, f2_1_5, f2_1_6⟩ := str7 HS2_1.out
  have hl2_1 := HS2_1.out.lt
  have hf2_1 := fun j => HS2_1.out.frozen j
  go_wp2_with fail
  refine (HS.out _).mono ?_
  rintro e W2 ⟨A1, n1, c1, rfl, hy1, hb2⟩
  have HS0_2 := Lib.hid (HS0_1.out.next hb2)
  have HS1_2 := Lib.hid (HS1_1.out.next hb2)
  have HS2_2 := Lib.hid (HS2_1.out.next hb2)
  have HB_2 := Lib.hid (bstep HB_1.out hb2)
  have hw_2 := HB_2.out.size
  have hws_2 := (hb2).size
  clear f0_1_0 f0_1_1 f0_1_2 f0_1_3 f0_1_4 f0_1_5 f0_1_6 f0_1_7 f0_1_8 f0_1_9 HS0_1 f1_1_0 f1_1_1 f1_1_2 f1_1_3 f1_1_4 f1_1_5 f1_1_6 HS1_1 hf1_1 f2_1_0 f2_1_1 f2_1_2 f2_1_3 f2_1_4 f2_1_5 f2_1_6 HS2_1 hf2_1
  clear hb2
  obtain ⟨f0_2_0, f0_2_1, f0_2_2, f0_2_3, f0_2_4, f0_2_5, f0_2_6, f0_2_7, f0_2_8, f0_2_9⟩ := str10 HS0_2.out
  have hl0_2 := HS0_2.out.lt
  obtain ⟨f1_2_0, f1_2_1, f1_2_2, f1_2_3, f1_2_4, f1_2_5, f1_2_6⟩ := str7 HS1_2.out
  have hl1_2 := HS1_2.out.lt
  have hf1_2 := fun j => HS1_2.out.frozen j
  obtain ⟨f2_2_0, f2_2_1, f2_2_2, f2_2_3, f2_2_4, f2_2_5, f2_2_6⟩ := str7 HS2_2.out
  have hl2_2 := HS2_2.out.lt
  have hf2_2 := fun j => HS2_2.out.frozen j
  have HYc_2 := Lib.hid (hy1)
  clear hy1
  have hnl := HYc_2.out.len
  simp only [List.length_nil] at hnl
  subst hnl
  go_wp2_with fail
  generalize hW3 : (((((((W2).setCell ⟨w.heap.size + 1 + 1, 0, none⟩ (.int .i64 0)).setCell ⟨w.heap.size + 1 + 1, 1, none⟩ (.string ⟨#[]⟩)).setCell ⟨w.heap.size + 1 + 1, 2, none⟩ (.int .i64 0)).setCell ⟨w.heap.size + 1 + 1, 3, none⟩ (.slice none 0 0)).setCell ⟨w.heap.size + 1 + 1, 4, none⟩ (.int .i64 0)).setCell ⟨w.heap.size + 1 + 1, 5, none⟩ (.int .i64 0)).setCell ⟨w.heap.size + 1 + 1, 6, none⟩ (.int .i64 0) = W3
  have HS0_3 : Hid (Str W3 (w.heap.size) #[.int .i64 2, .string qk, .int .i64 pst, .string pk, .int .i64 pkd, .slice Ap np cp, .int .i64 plo, .int .i64 phi, .int .i64 pva, .int .i64 un]) := Lib.hid (by rw [← hW3]; exact (((((((HS0_2.out).other 0 _ (by omega)).other 1 _ (by omega)).other 2 _ (by omega)).other 3 _ (by omega)).other 4 _ (by omega)).other 5 _ (by omega)).other 6 _ (by omega))
  have HS1_3 : Hid (Str W3 (w.heap.size + 1) #[.int .i64 1, .string qk, .int .i64 qkd, .slice Aq nq cq, .int .i64 qlo, .int .i64 qhi, .int .i64 qva]) := Lib.hid (by rw [← hW3]; exact (((((((HS1_2.out).other 0 _ (by omega)).other 1 _ (by omega)).other 2 _ (by omega)).other 3 _ (by omega)).other 4 _ (by omega)).other 5 _ (by omega)).other 6 _ (by omega))
  have HS2_3 : Hid (Str W3 (w.heap.size + 1 + 1) #[.int .i64 0, .string ⟨#[]⟩, .int .i64 0, .slice none 0 0, .int .i64 0, .int .i64 0, .int .i64 0]) := Lib.hid (by rw [← hW3]; have := (((((((HS2_2.out).set 0 (.int .i64 0)).set 1 (.string ⟨#[]⟩)).set 2 (.int .i64 0)).set 3 (.slice none 0 0)).set 4 (.int .i64 0)).set 5 (.int .i64 0)).set 6 (.int .i64 0); simpa using this)
  have hgr3 : W2.grownBy W3 (some (w.heap.size + 1 + 1)) := by rw [← hW3]; exact grown_set (grown_set (grown_set (grown_set (grown_set (grown_set (grown_set (grown_refl W2 (w.heap.size + 1 + 1)) 0 (.int .i64 0)) 1 (.string ⟨#[]⟩)) 2 (.int .i64 0)) 3 (.slice none 0 0)) 4 (.int .i64 0)) 5 (.int .i64 0)) 6 (.int .i64 0)
  have HB_3 := Lib.hid (below_grown HB_2.out hgr3 (by omega))
  have hw_3 := HB_3.out.size
  have hws_3 := hgr3.size
  have HYc_3 := Lib.hid ((Bytes.grown HYc_2.out (Nat.le_refl _) HS2_2.out rfl hgr3).more hws_3)
  clear HYc_2
  clear hW3
  clear f0_2_0 f0_2_1 f0_2_2 f0_2_3 f0_2_4 f0_2_5 f0_2_6 f0_2_7 f0_2_8 f0_2_9 HS0_2 f1_2_0 f1_2_1 f1_2_2 f1_2_3 f1_2_4 f1_2_5 f1_2_6 HS1_2 hf1_2 f2_2_0 f2_2_1 f2_2_2 f2_2_3 f2_2_4 f2_2_5 f2_2_6 HS2_2 hf2_2
  clear hgr3
  obtain ⟨f0_3_0, f0_3_1, f0_3_2, f0_3_3, f0_3_4, f0_3_5, f0_3_6, f0_3_7, f0_3_8, f0_3_9⟩ := str10 HS0_3.out
  have hl0_3 := HS0_3.out.lt
  obtain ⟨f1_3_0, f1_3_1, f1_3_2, f1_3_3, f1_3_4, f1_3_5, f1_3_6⟩ := str7 HS1_3.out
  have hl1_3 := HS1_3.out.lt
  have hf1_3 := fun j => HS1_3.out.frozen j
  obtain ⟨f2_3_0, f2_3_1, f2_3_2, f2_3_3, f2_3_4, f2_3_5, f2_3_6⟩ := str7 HS2_3.out
  have hl2_3 := HS2_3.out.lt
  have hf2_3 := fun j => HS2_3.out.frozen j
  generalize hW4 : W3.alloc (.cells #[.int .i64 0, .slice A1 0 c1, .int .i64 0, .int .i64 0, .int .i64 0] 37) = W4
  have HS0_4 : Hid (Str W4 (w.heap.size) #[.int .i64 2, .string qk, .int .i64 pst, .string pk, .int .i64 pkd, .slice Ap np cp, .int .i64 plo, .int .i64 phi, .int .i64 pva, .int .i64 un]) := Lib.hid (by rw [← hW4]; exact HS0_3.out.alloc _)
  have HS1_4 : Hid (Str W4 (w.heap.size + 1) #[.int .i64 1, .string qk, .int .i64 qkd, .slice Aq nq cq, .int .i64 qlo, .int .i64 qhi, .int .i64 qva]) := Lib.hid (by rw [← hW4]; exact HS1_3.out.alloc _)
  have HS2_4 : Hid (Str W4 (w.heap.size + 1 + 1) #[.int .i64 0, .string ⟨#[]⟩, .int .i64 0, .slice none 0 0, .int .i64 0, .int .i64 0, .int .i64 0]) := Lib.hid (by rw [← hW4]; exact HS2_3.out.alloc _)
  have HS3_4 : Hid (Str W4 W3.heap.size #[.int .i64 0, .slice A1 0 c1, .int .i64 0, .int .i64 0, .int .i64 0]) := Lib.hid (by rw [← hW4]; exact Str.new W3 #[.int .i64 0, .slice A1 0 c1, .int .i64 0, .int .i64 0, .int .i64 0] 37)
  have hba4 : Below W3.heap.size W3 W4 := by rw [← hW4]; exact balloc (bsame _) _
  have HB_4 := Lib.hid (bstep HB_3.out hba4)
  have hw_4 := HB_4.out.size
  have hws_4 := hba4.size
  have HYc_4 := Lib.hid (HYc_3.out.next hba4)
  clear HYc_3
  clear hW4
  clear f0_3_0 f0_3_1 f0_3_2 f0_3_3 f0_3_4 f0_3_5 f0_3_6 f0_3_7 f0_3_8 f0_3_9 HS0_3 f1_3_0 f1_3_1 f1_3_2 f1_3_3 f1_3_4 f1_3_5 f1_3_6 HS1_3 hf1_3 f2_3_0 f2_3_1 f2_3_2 f2_3_3 f2_3_4 f2_3_5 f2_3_6 HS2_3 hf2_3
  obtain ⟨f0_4_0, f0_4_1, f0_4_2, f0_4_3, f0_4_4, f0_4_5, f0_4_6, f0_4_7, f0_4_8, f0_4_9⟩ := str10 HS0_4.out
  have hl0_4 := HS0_4.out.lt
  obtain ⟨f1_4_0, f1_4_1, f1_4_2, f1_4_3, f1_4_4, f1_4_5, f1_4_6⟩ := str7 HS1_4.out
  have hl1_4 := HS1_4.out.lt
  have hf1_4 := fun j => HS1_4.out.frozen j
  obtain ⟨f2_4_0, f2_4_1, f2_4_2, f2_4_3, f2_4_4, f2_4_5, f2_4_6⟩ := str7 HS2_4.out
  have hl2_4 := HS2_4.out.lt
  have hf2_4 := fun j => HS2_4.out.frozen j
  obtain ⟨f3_4_0, f3_4_1, f3_4_2, f3_4_3, f3_4_4⟩ := str5 HS3_4.out
  have hl3_4 := HS3_4.out.lt
  clear hba4
  exact bodyPost_ret (v := .tuple #[.agg #[.int .i64 0, .string ⟨#[]⟩, .int .i64 0, .slice none 0 0, .int .i64 0, .int .i64 0, .int .i64 0], .int .i64 6]) (by simp [results, Try.results41, go_sem, *]) rfl ⟨none, 0, 0, rfl, Bytes.none_ _ _, HB_4.out⟩

set_option maxRecDepth 100000 in
set_option maxHeartbeats 1000000 in
theorem apply2_kind_false (un : Int) (Ap : Option Addr) (np cp Bp : Nat) (pst : Int) (pk : ByteArray) (pkd : Int) (pda : List UInt8) (plo phi pva : Int) (Aq : Option Addr) (nq cq Bq : Nat) (qk : ByteArray) (qkd : Int) (qda : List UInt8) (qlo qhi qva : Int) (w : World) (hp : Bytes w Bp Ap np cp pda) (hBp : Bp ≤ w.heap.size) (hnp : np ≤ 140737488355328) (hq : Bytes w Bq Aq nq cq qda) (hBq : Bq ≤ w.heap.size) (hnq : nq ≤ 140737488355328) (hun : In64 un) (hqv : In64 qva) (hql : In64 qlo) (hqh : In64 qhi) (hr : ¬ (qkd = 2 ∧ CellP.right ⟨qkd, qda, qlo, qhi, qva⟩ = true)) (hf : WideP.fits (qva + un) = false) : Calls Try.prog 41 #[.agg #[.int .i64 2, .string qk, .int .i64 pst, .string pk, .int .i64 pkd, .slice Ap np cp, .int .i64 plo, .int .i64 phi, .int .i64 pva, .int .i64 un], .agg #[.int .i64 1, .string qk, .int .i64 qkd, .slice Aq nq cq, .int .i64 qlo, .int .i64 qhi, .int .i64 qva]] w (SlotGet.GotItem w (UndoP.apply ⟨2, qk, ⟨pst, pk, ⟨pkd, pda, plo, phi, pva⟩⟩, un⟩ ⟨1, qk, ⟨qkd, qda, qlo, qhi, qva⟩⟩)) := by
  rw [UndoP.apply_kind _ _ (by simp) ⟨rfl, rfl⟩ hr]
  obtain ⟨sv, hsv⟩ : ∃ sv, WideP.num (qva + un) = sv := ⟨_, rfl⟩
  have HNUM := Lib.hid hsv
  have HFIT := Lib.hid hf
  clear hsv hf
  have HV : Hid (CellP.set ⟨qkd, qda, qlo, qhi, qva⟩ sv = ((⟨0, [], 0, 0, 0⟩ : Cell), 6)) := Lib.hid (by unfold CellP.set; rw [if_neg hr]; rfl)
  clear hr
  have Hq := Lib.hid hq
  have hlq := hq.len
  have hcq := Nat.le_trans hq.2.1 hq.2.2.1
  have HS : Hid (∀ W, Calls Try.prog 77 #[.agg #[.int .i64 qkd, .slice Aq nq cq, .int .i64 qlo, .int .i64 qhi, .int .i64 qva], .int .i64 sv] W (CellW.GivesCell W (⟨0, [], 0, 0, 0⟩ : Cell) 6)) := Lib.hid (fun W => by have h := CellW.set_any Aq nq cq ⟨qkd, qda, qlo, qhi, qva⟩ sv W hlq hcq; rw [HV.out] at h; exact h)
  have HA : Hid (∀ W, Calls Try.prog 75 #[.int .i64 qva, .int .i64 un] W fun e w' => e = .returned (.tuple #[.int .i64 sv, .bool false]) ∧ Below W.heap.size W w') := Lib.hid (fun W => by have h := WideW.add_any qva un hqv.1 hqv.2 hun.1 hun.2 W; rw [HNUM.out, HFIT.out] at h; exact h)
  clear hp hq hlq hcq hun hqv hql hqh HV HNUM HFIT
  go_enter Try.func41, Try.ntmps41
  go_wp2_with fail
  generalize hW0 : (((w).alloc (.cells #[.int .i64 2, .string qk, .int .i64 pst, .string pk, .int .i64 pkd, .slice Ap np cp, .int .i64 plo, .int .i64 phi, .int .i64 pva, .int .i64 un] 62)).alloc (.cells #[.int .i64 1, .string qk, .int .i64 qkd, .slice Aq nq cq, .int .i64 qlo, .int .i64 qhi, .int .i64 qva] 54)).alloc (.cells #[.int .i64 0, .string ⟨#[]⟩, .int .i64 0, .slice none 0 0, .int .i64 0, .int .i64 0, .int .i64 0] 54) = W0
  have HS0_0 : Hid (Str W0 (w.heap.size) #[.int .i64 2, .string qk, .int .i64 pst, .string pk, .int .i64 pkd, .slice Ap np cp, .int .i64 plo, .int .i64 phi, .int .i64 pva, .int .i64 un]) := Lib.hid (by rw [← hW0]; have := ((Str.new (w) #[.int .i64 2, .string qk, .int .i64 pst, .string pk, .int .i64 pkd, .slice Ap np cp, .int .i64 plo, .int .i64 phi, .int .i64 pva, .int .i64 un] 62).alloc (.cells #[.int .i64 1, .string qk, .int .i64 qkd, .slice Aq nq cq, .int .i64 qlo, .int .i64 qhi, .int .i64 qva] 54)).alloc (.cells #[.int .i64 0, .string ⟨#[]⟩, .int .i64 0, .slice none 0 0, .int .i64 0, .int .i64 0, .int .i64 0] 54); simpa using this)
  have HS1_0 : Hid (Str W0 (w.heap.size + 1) #[.int .i64 1, .string qk, .int .i64 qkd, .slice Aq nq cq, .int .i64 qlo, .int .i64 qhi, .int .i64 qva]) := Lib.hid (by rw [← hW0]; have := (Str.new ((w).alloc (.cells #[.int .i64 2, .string qk, .int .i64 pst, .string pk, .int .i64 pkd, .slice Ap np cp, .int .i64 plo, .int .i64 phi, .int .i64 pva, .int .i64 un] 62)) #[.int .i64 1, .string qk, .int .i64 qkd, .slice Aq nq cq, .int .i64 qlo, .int .i64 qhi, .int .i64 qva] 54).alloc (.cells #[.int .i64 0, .string ⟨#[]⟩, .int .i64 0, .slice none 0 0, .int .i64 0, .int .i64 0, .int .i64 0] 54); simpa using this)
  have HS2_0 : Hid (Str W0 (w.heap.size + 1 + 1) #[.int .i64 0, .string ⟨#[]⟩, .int .i64 0, .slice none 0 0, .int .i64 0, .int .i64 0, .int .i64 0]) := Lib.hid (by rw [← hW0]; have := Str.new (((w).alloc (.cells #[.int .i64 2, .string qk, .int .i64 pst, .string pk, .int .i64 pkd, .slice Ap np cp, .int .i64 plo, .int .i64 phi, .int .i64 pva, .int .i64 un] 62)).alloc (.cells #[.int .i64 1, .string qk, .int .i64 qkd, .slice Aq nq cq, .int .i64 qlo, .int .i64 qhi, .int .i64 qva] 54)) #[.int .i64 0, .string ⟨#[]⟩, .int .i64 0, .slice none 0 0, .int .i64 0, .int .i64 0, .int .i64 0] 54; simpa using this)
  have HB_0 : Hid (Below w.heap.size w W0) := Lib.hid (by rw [← hW0]; exact balloc (balloc (balloc (bsame w) _) _) _)
  have hw_0 := HB_0.out.size
  clear hW0
  obtain ⟨f0_0_0, f0_0_1, f0_0_2, f0_0_3, f0_0_4, f0_0_5, f0_0_6, f0_0_7, f0_0_8, f0_0_9⟩ := str10 HS0_0.out
  have hl0_0 := HS0_0.out.lt
  obtain ⟨f1_0_0, f1_0_1, f1_0_2, f1_0_3, f1_0_4, f1_0_5, f1_0_6⟩ := str7 HS1_0.out
  have hl1_0 := HS1_0.out.lt
  have hf1_0 := fun j => HS1_0.out.frozen j
  obtain ⟨f2_0_0, f2_0_1, f2_0_2, f2_0_3, f2_0_4, f2_0_5, f2_0_6⟩ := str7 HS2_0.out
  have hl2_0 := HS2_0.out.lt
  have hf2_0 := fun j => HS2_0.out.frozen j
  refine (HA.out _).mono ?_
  rintro e W1 ⟨rfl, hb1⟩
  have HS0_1 := Lib.hid (HS0_0.out.next hb1)
  have HS1_1 := Lib.hid (HS1_0.out.next hb1)
  have HS2_1 := Lib.hid (HS2_0.out.next hb1)
  have HB_1 := Lib.hid (bstep HB_0.out hb1)
  have hw_1 := HB_1.out.size
  have hws_1 := (hb1).size
  clear f0_0_0 f0_0_1 f0_0_2 f0_0_3 f0_0_4 f0_0_5 f0_0_6 f0_0_7 f0_0_8 f0_0_9 HS0_0 f1_0_0 f1_0_1 f1_0_2 f1_0_3 f1_0_4 f1_0_5 f1_0_6 HS1_0 hf1_0 f2_0_0 f2_0_1 f2_0_2 f2_0_3 f2_0_4 f2_0_5 f2_0_6 HS2_0 hf2_0
  clear hb1
  obtain ⟨f0_1_0, f0_1_1, f0_1_2, f0_1_3, f0_1_4, f0_1_5, f0_1_6, f0_1_7, f0_1_8, f0_1_9⟩ := str10 HS0_1.out
  have hl0_1 := HS0_1.out.lt
  obtain ⟨f1_1_0, f1_1_1, f1_1_2, f1_1_3, f1_1_4, f1_1_5, f1_1_6⟩ := str7 HS1_1.out
  have hl1_1 := HS1_1.out.lt
  have hf1_1 := fun j => HS1_1.out.frozen j
  obtain ⟨f2_1_0, f2_1_1, f2_1_2, f2_1_3, f2_1_4, f2_1_5, f2_1_6⟩ := str7 HS2_1.out
  have hl2_1 := HS2_1.out.lt
  have hf2_1 := fun j => HS2_1.out.frozen j
  go_wp2_with fail
  refine (HS.out _).mono ?_
  rintro e W2 ⟨A1, n1, c1, rfl, hy1, hb2⟩
  have HS0_2 := Lib.hid (HS0_1.out.next hb2)
  have HS1_2 := Lib.hid (HS1_1.out.next hb2)
  have HS2_2 := Lib.hid (HS2_1.out.next hb2)
  have HB_2 := Lib.hid (bstep HB_1.out hb2)
  have hw_2 := HB_2.out.size
  have hws_2 := (hb2).size
  clear f0_1_0 f0_1_1 f0_1_2 f0_1_3 f0_1_4 f0_1_5 f0_1_6 f0_1_7 f0_1_8 f0_1_9 HS0_1 f1_1_0 f1_1_1 f1_1_2 f1_1_3 f1_1_4 f1_1_5 f1_1_6 HS1_1 hf1_1 f2_1_0 f2_1_1 f2_1_2 f2_1_3 f2_1_4 f2_1_5 f2_1_6 HS2_1 hf2_1
  clear hb2
  obtain ⟨f0_2_0, f0_2_1, f0_2_2, f0_2_3, f0_2_4, f0_2_5, f0_2_6, f0_2_7, f0_2_8, f0_2_9⟩ := str10 HS0_2.out
  have hl0_2 := HS0_2.out.lt
  obtain ⟨f1_2_0, f1_2_1, f1_2_2, f1_2_3, f1_2_4, f1_2_5, f1_2_6⟩ := str7 HS1_2.out
  have hl1_2 := HS1_2.out.lt
  have hf1_2 := fun j => HS1_2.out.frozen j
  obtain ⟨f2_2_0, f2_2_1, f2_2_2, f2_2_3, f2_2_4, f2_2_5, f2_2_6⟩ := str7 HS2_2.out
  have hl2_2 := HS2_2.out.lt
  have hf2_2 := fun j => HS2_2.out.frozen j
  have HYc_2 := Lib.hid (hy1)
  clear hy1
  have hnl := HYc_2.out.len
  simp only [List.length_nil] at hnl
  subst hnl
  go_wp2_with fail
  generalize hW3 : (((((((W2).setCell ⟨w.heap.size + 1 + 1, 0, none⟩ (.int .i64 0)).setCell ⟨w.heap.size + 1 + 1, 1, none⟩ (.string ⟨#[]⟩)).setCell ⟨w.heap.size + 1 + 1, 2, none⟩ (.int .i64 0)).setCell ⟨w.heap.size + 1 + 1, 3, none⟩ (.slice none 0 0)).setCell ⟨w.heap.size + 1 + 1, 4, none⟩ (.int .i64 0)).setCell ⟨w.heap.size + 1 + 1, 5, none⟩ (.int .i64 0)).setCell ⟨w.heap.size + 1 + 1, 6, none⟩ (.int .i64 0) = W3
  have HS0_3 : Hid (Str W3 (w.heap.size) #[.int .i64 2, .string qk, .int .i64 pst, .string pk, .int .i64 pkd, .slice Ap np cp, .int .i64 plo, .int .i64 phi, .int .i64 pva, .int .i64 un]) := Lib.hid (by rw [← hW3]; exact (((((((HS0_2.out).other 0 _ (by omega)).other 1 _ (by omega)).other 2 _ (by omega)).other 3 _ (by omega)).other 4 _ (by omega)).other 5 _ (by omega)).other 6 _ (by omega))
  have HS1_3 : Hid (Str W3 (w.heap.size + 1) #[.int .i64 1, .string qk, .int .i64 qkd, .slice Aq nq cq, .int .i64 qlo, .int .i64 qhi, .int .i64 qva]) := Lib.hid (by rw [← hW3]; exact (((((((HS1_2.out).other 0 _ (by omega)).other 1 _ (by omega)).other 2 _ (by omega)).other 3 _ (by omega)).other 4 _ (by omega)).other 5 _ (by omega)).other 6 _ (by omega))
  have HS2_3 : Hid (Str W3 (w.heap.size + 1 + 1) #[.int .i64 0, .string ⟨#[]⟩, .int .i64 0, .slice none 0 0, .int .i64 0, .int .i64 0, .int .i64 0]) := Lib.hid (by rw [← hW3]; have := (((((((HS2_2.out).set 0 (.int .i64 0)).set 1 (.string ⟨#[]⟩)).set 2 (.int .i64 0)).set 3 (.slice none 0 0)).set 4 (.int .i64 0)).set 5 (.int .i64 0)).set 6 (.int .i64 0); simpa using this)
  have hgr3 : W2.grownBy W3 (some (w.heap.size + 1 + 1)) := by rw [← hW3]; exact grown_set (grown_set (grown_set (grown_set (grown_set (grown_set (grown_set (grown_refl W2 (w.heap.size + 1 + 1)) 0 (.int .i64 0)) 1 (.string ⟨#[]⟩)) 2 (.int .i64 0)) 3 (.slice none 0 0)) 4 (.int .i64 0)) 5 (.int .i64 0)) 6 (.int .i64 0)
  have HB_3 := Lib.hid (below_grown HB_2.out hgr3 (by omega))
  have hw_3 := HB_3.out.size
  have hws_3 := hgr3.size
  have HYc_3 := Lib.hid ((Bytes.grown HYc_2.out (Nat.le_refl _) HS2_2.out rfl hgr3).more hws_3)
  clear HYc_2
  clear hW3
  clear f0_2_0 f0_2_1 f0_2_2 f0_2_3 f0_2_4 f0_2_5 f0_2_6 f0_2_7 f0_2_8 f0_2_9 HS0_2 f1_2_0 f1_2_1 f1_2_2 f1_2_3 f1_2_4 f1_2_5 f1_2_6 HS1_2 hf1_2 f2_2_0 f2_2_1 f2_2_2 f2_2_3 f2_2_4 f2_2_5 f2_2_6 HS2_2 hf2_2
  clear hgr3
  obtain ⟨f0_3_0, f0_3_1, f0_3_2, f0_3_3, f0_3_4, f0_3_5, f0_3_6, f0_3_7, f0_3_8, f0_3_9⟩ := str10 HS0_3.out
  have hl0_3 := HS0_3.out.lt
  obtain ⟨f1_3_0, f1_3_1, f1_3_2, f1_3_3, f1_3_4, f1_3_5, f1_3_6⟩ := str7 HS1_3.out
  have hl1_3 := HS1_3.out.lt
  have hf1_3 := fun j => HS1_3.out.frozen j
  obtain ⟨f2_3_0, f2_3_1, f2_3_2, f2_3_3, f2_3_4, f2_3_5, f2_3_6⟩ := str7 HS2_3.out
  have hl2_3 := HS2_3.out.lt
  have hf2_3 := fun j => HS2_3.out.frozen j
  generalize hW4 : W3.alloc (.cells #[.int .i64 0, .slice A1 0 c1, .int .i64 0, .int .i64 0, .int .i64 0] 37) = W4
  have HS0_4 : Hid (Str W4 (w.heap.size) #[.int .i64 2, .string qk, .int .i64 pst, .string pk, .int .i64 pkd, .slice Ap np cp, .int .i64 plo, .int .i64 phi, .int .i64 pva, .int .i64 un]) := Lib.hid (by rw [← hW4]; exact HS0_3.out.alloc _)
  have HS1_4 : Hid (Str W4 (w.heap.size + 1) #[.int .i64 1, .string qk, .int .i64 qkd, .slice Aq nq cq, .int .i64 qlo, .int .i64 qhi, .int .i64 qva]) := Lib.hid (by rw [← hW4]; exact HS1_3.out.alloc _)
  have HS2_4 : Hid (Str W4 (w.heap.size + 1 + 1) #[.int .i64 0, .string ⟨#[]⟩, .int .i64 0, .slice none 0 0, .int .i64 0, .int .i64 0, .int .i64 0]) := Lib.hid (by rw [← hW4]; exact HS2_3.out.alloc _)
  have HS3_4 : Hid (Str W4 W3.heap.size #[.int .i64 0, .slice A1 0 c1, .int .i64 0, .int .i64 0, .int .i64 0]) := Lib.hid (by rw [← hW4]; exact Str.new W3 #[.int .i64 0, .slice A1 0 c1, .int .i64 0, .int .i64 0, .int .i64 0] 37)
  have hba4 : Below W3.heap.size W3 W4 := by rw [← hW4]; exact balloc (bsame _) _
  have HB_4 := Lib.hid (bstep HB_3.out hba4)
  have hw_4 := HB_4.out.size
  have hws_4 := hba4.size
  have HYc_4 := Lib.hid (HYc_3.out.next hba4)
  clear HYc_3
  clear hW4
  clear f0_3_0 f0_3_1 f0_3_2 f0_3_3 f0_3_4 f0_3_5 f0_3_6 f0_3_7 f0_3_8 f0_3_9 HS0_3 f1_3_0 f1_3_1 f1_3_2 f1_3_3 f1_3_4 f1_3_5 f1_3_6 HS1_3 hf1_3 f2_3_0 f2_3_1 f2_3_2 f2_3_3 f2_3_4 f2_3_5 f2_3_6 HS2_3 hf2_3
  obtain ⟨f0_4_0, f0_4_1, f0_4_2, f0_4_3, f0_4_4, f0_4_5, f0_4_6, f0_4_7, f0_4_8, f0_4_9⟩ := str10 HS0_4.out
  have hl0_4 := HS0_4.out.lt
  obtain ⟨f1_4_0, f1_4_1, f1_4_2, f1_4_3, f1_4_4, f1_4_5, f1_4_6⟩ := str7 HS1_4.out
  have hl1_4 := HS1_4.out.lt
  have hf1_4 := fun j => HS1_4.out.frozen j
  obtain ⟨f2_4_0, f2_4_1, f2_4_2, f2_4_3, f2_4_4, f2_4_5, f2_4_6⟩ := str7 HS2_4.out
  have hl2_4 := HS2_4.out.lt
  have hf2_4 := fun j => HS2_4.out.frozen j
  obtain ⟨f3_4_0, f3_4_1, f3_4_2, f3_4_3, f3_4_4⟩ := str5 HS3_4.out
  have hl3_4 := HS3_4.out.lt
  clear hba4
  exact bodyPost_ret (v := .tuple #[.agg #[.int .i64 0, .string ⟨#[]⟩, .int .i64 0, .slice none 0 0, .int .i64 0, .int .i64 0, .int .i64 0], .int .i64 6]) (by simp [results, Try.results41, go_sem, *]) rfl ⟨none, 0, 0, rfl, Bytes.none_ _ _, HB_4.out⟩

set_option maxRecDepth 100000 in
set_option maxHeartbeats 1000000 in
theorem apply2_wide_in (un : Int) (Ap : Option Addr) (np cp Bp : Nat) (pst : Int) (pk : ByteArray) (pkd : Int) (pda : List UInt8) (plo phi pva : Int) (Aq : Option Addr) (nq cq Bq : Nat) (qk : ByteArray) (qkd : Int) (qda : List UInt8) (qlo qhi qva : Int) (w : World) (hp : Bytes w Bp Ap np cp pda) (hBp : Bp ≤ w.heap.size) (hnp : np ≤ 140737488355328) (hq : Bytes w Bq Aq nq cq qda) (hBq : Bq ≤ w.heap.size) (hnq : nq ≤ 140737488355328) (hun : In64 un) (hqv : In64 qva) (hql : In64 qlo) (hqh : In64 qhi) (hr : (qkd = 2 ∧ CellP.right ⟨qkd, qda, qlo, qhi, qva⟩ = true)) (hf : WideP.fits (qva + un) = false) (ho : (qva + un < qlo ∨ qhi < qva + un)) (hz : ¬ (0 < qlo ∨ qhi < 0)) : Calls Try.prog 41 #[.agg #[.int .i64 2, .string qk, .int .i64 pst, .string pk, .int .i64 pkd, .slice Ap np cp, .int .i64 plo, .int .i64 phi, .int .i64 pva, .int .i64 un], .agg #[.int .i64 1, .string qk, .int .i64 qkd, .slice Aq nq cq, .int .i64 qlo, .int .i64 qhi, .int .i64 qva]] w (SlotGet.GotItem w (UndoP.apply ⟨2, qk, ⟨pst, pk, ⟨pkd, pda, plo, phi, pva⟩⟩, un⟩ ⟨1, qk, ⟨qkd, qda, qlo, qhi, qva⟩⟩)) := by
  rw [UndoP.apply_out _ _ (by simp) ⟨rfl, rfl⟩ hr (by simpa [UndoP.sum] using ho)]
  have hn0 : WideP.num (qva + un) = 0 := by simp [WideP.num, hf]
  obtain ⟨sv, hsv⟩ : ∃ sv : Int, sv = 0 := ⟨_, rfl⟩
  have HNUM : Hid (WideP.num (qva + un) = sv) := Lib.hid (by rw [hn0, hsv])
  have HFIT := Lib.hid hf
  have HV : Hid (CellP.set ⟨qkd, qda, qlo, qhi, qva⟩ sv = (⟨2, [], qlo, qhi, sv⟩, 0)) := Lib.hid (by unfold CellP.set; rw [if_pos hr, hsv, if_neg hz]; try rfl)
  clear hsv hf hn0 hr ho hz
  have Hq := Lib.hid hq
  have hlq := hq.len
  have hcq := Nat.le_trans hq.2.1 hq.2.2.1
  have HS : Hid (∀ W, Calls Try.prog 77 #[.agg #[.int .i64 qkd, .slice Aq nq cq, .int .i64 qlo, .int .i64 qhi, .int .i64 qva], .int .i64 sv] W (CellW.GivesCell W (⟨2, [], qlo, qhi, sv⟩ : Cell) 0)) := Lib.hid (fun W => by have h := CellW.set_any Aq nq cq ⟨qkd, qda, qlo, qhi, qva⟩ sv W hlq hcq; rw [HV.out] at h; exact h)
  have HA : Hid (∀ W, Calls Try.prog 75 #[.int .i64 qva, .int .i64 un] W fun e w' => e = .returned (.tuple #[.int .i64 sv, .bool false]) ∧ Below W.heap.size W w') := Lib.hid (fun W => by have h := WideW.add_any qva un hqv.1 hqv.2 hun.1 hun.2 W; rw [HNUM.out, HFIT.out] at h; exact h)
  clear hp hq hlq hcq hun hqv hql hqh HV HNUM HFIT
  go_enter Try.func41, Try.ntmps41
  go_wp2_with fail
  generalize hW0 : (((w).alloc (.cells #[.int .i64 2, .string qk, .int .i64 pst, .string pk, .int .i64 pkd, .slice Ap np cp, .int .i64 plo, .int .i64 phi, .int .i64 pva, .int .i64 un] 62)).alloc (.cells #[.int .i64 1, .string qk, .int .i64 qkd, .slice Aq nq cq, .int .i64 qlo, .int .i64 qhi, .int .i64 qva] 54)).alloc (.cells #[.int .i64 0, .string ⟨#[]⟩, .int .i64 0, .slice none 0 0, .int .i64 0, .int .i64 0, .int .i64 0] 54) = W0
  have HS0_0 : Hid (Str W0 (w.heap.size) #[.int .i64 2, .string qk, .int .i64 pst, .string pk, .int .i64 pkd, .slice Ap np cp, .int .i64 plo, .int .i64 phi, .int .i64 pva, .int .i64 un]) := Lib.hid (by rw [← hW0]; have := ((Str.new (w) #[.int .i64 2, .string qk, .int .i64 pst, .string pk, .int .i64 pkd, .slice Ap np cp, .int .i64 plo, .int .i64 phi, .int .i64 pva, .int .i64 un] 62).alloc (.cells #[.int .i64 1, .string qk, .int .i64 qkd, .slice Aq nq cq, .int .i64 qlo, .int .i64 qhi, .int .i64 qva] 54)).alloc (.cells #[.int .i64 0, .string ⟨#[]⟩, .int .i64 0, .slice none 0 0, .int .i64 0, .int .i64 0, .int .i64 0] 54); simpa using this)
  have HS1_0 : Hid (Str W0 (w.heap.size + 1) #[.int .i64 1, .string qk, .int .i64 qkd, .slice Aq nq cq, .int .i64 qlo, .int .i64 qhi, .int .i64 qva]) := Lib.hid (by rw [← hW0]; have := (Str.new ((w).alloc (.cells #[.int .i64 2, .string qk, .int .i64 pst, .string pk, .int .i64 pkd, .slice Ap np cp, .int .i64 plo, .int .i64 phi, .int .i64 pva, .int .i64 un] 62)) #[.int .i64 1, .string qk, .int .i64 qkd, .slice Aq nq cq, .int .i64 qlo, .int .i64 qhi, .int .i64 qva] 54).alloc (.cells #[.int .i64 0, .string ⟨#[]⟩, .int .i64 0, .slice none 0 0, .int .i64 0, .int .i64 0, .int .i64 0] 54); simpa using this)
  have HS2_0 : Hid (Str W0 (w.heap.size + 1 + 1) #[.int .i64 0, .string ⟨#[]⟩, .int .i64 0, .slice none 0 0, .int .i64 0, .int .i64 0, .int .i64 0]) := Lib.hid (by rw [← hW0]; have := Str.new (((w).alloc (.cells #[.int .i64 2, .string qk, .int .i64 pst, .string pk, .int .i64 pkd, .slice Ap np cp, .int .i64 plo, .int .i64 phi, .int .i64 pva, .int .i64 un] 62)).alloc (.cells #[.int .i64 1, .string qk, .int .i64 qkd, .slice Aq nq cq, .int .i64 qlo, .int .i64 qhi, .int .i64 qva] 54)) #[.int .i64 0, .string ⟨#[]⟩, .int .i64 0, .slice none 0 0, .int .i64 0, .int .i64 0, .int .i64 0] 54; simpa using this)
  have HB_0 : Hid (Below w.heap.size w W0) := Lib.hid (by rw [← hW0]; exact balloc (balloc (balloc (bsame w) _) _) _)
  have hw_0 := HB_0.out.size
  clear hW0
  obtain ⟨f0_0_0, f0_0_1, f0_0_2, f0_0_3, f0_0_4, f0_0_5, f0_0_6, f0_0_7, f0_0_8, f0_0_9⟩ := str10 HS0_0.out
  have hl0_0 := HS0_0.out.lt
  obtain ⟨f1_0_0, f1_0_1, f1_0_2, f1_0_3, f1_0_4, f1_0_5, f1_0_6⟩ := str7 HS1_0.out
  have hl1_0 := HS1_0.out.lt
  have hf1_0 := fun j => HS1_0.out.frozen j
  obtain ⟨f2_0_0, f2_0_1, f2_0_2, f2_0_3, f2_0_4, f2_0_5, f2_0_6⟩ := str7 HS2_0.out
  have hl2_0 := HS2_0.out.lt
  have hf2_0 := fun j => HS2_0.out.frozen j
  refine (HA.out _).mono ?_
  rintro e W1 ⟨rfl, hb1⟩
  have HS0_1 := Lib.hid (HS0_0.out.next hb1)
  have HS1_1 := Lib.hid (HS1_0.out.next hb1)
  have HS2_1 := Lib.hid (HS2_0.out.next hb1)
  have HB_1 := Lib.hid (bstep HB_0.out hb1)
  have hw_1 := HB_1.out.size
  have hws_1 := (hb1).size
  clear f0_0_0 f0_0_1 f0_0_2 f0_0_3 f0_0_4 f0_0_5 f0_0_6 f0_0_7 f0_0_8 f0_0_9 HS0_0 f1_0_0 f1_0_1 f1_0_2 f1_0_3 f1_0_4 f1_0_5 f1_0_6 HS1_0 hf1_0 f2_0_0 f2_0_1 f2_0_2 f2_0_3 f2_0_4 f2_0_5 f2_0_6 HS2_0 hf2_0
  clear hb1
  obtain ⟨f0_1_0, f0_1_1, f0_1_2, f0_1_3, f0_1_4, f0_1_5, f0_1_6, f0_1_7, f0_1_8, f0_1_9⟩ := str10 HS0_1.out
  have hl0_1 := HS0_1.out.lt
  obtain ⟨f1_1_0, f1_1_1, f1_1_2, f1_1_3, f1_1_4, f1_1_5, f1_1_6⟩ := str7 HS1_1.out
  have hl1_1 := HS1_1.out.lt
  have hf1_1 := fun j => HS1_1.out.frozen j
  obtain ⟨f2_1_0, f2_1_1, f2_1_2, f2_1_3, f2_1_4, f2_1_5, f2_1_6⟩ := str7 HS2_1.out
  have hl2_1 := HS2_1.out.lt
  have hf2_1 := fun j => HS2_1.out.frozen j
  go_wp2_with fail
  refine (HS.out _).mono ?_
  rintro e W2 ⟨A1, n1, c1, rfl, hy1, hb2⟩
  have HS0_2 := Lib.hid (HS0_1.out.next hb2)
  have HS1_2 := Lib.hid (HS1_1.out.next hb2)
  have HS2_2 := Lib.hid (HS2_1.out.next hb2)
  have HB_2 := Lib.hid (bstep HB_1.out hb2)
  have hw_2 := HB_2.out.size
  have hws_2 := (hb2).size
  clear f0_1_0 f0_1_1 f0_1_2 f0_1_3 f0_1_4 f0_1_5 f0_1_6 f0_1_7 f0_1_8 f0_1_9 HS0_1 f1_1_0 f1_1_1 f1_1_2 f1_1_3 f1_1_4 f1_1_5 f1_1_6 HS1_1 hf1_1 f2_1_0 f2_1_1 f2_1_2 f2_1_3 f2_1_4 f2_1_5 f2_1_6 HS2_1 hf2_1
  clear hb2
  obtain ⟨f0_2_0, f0_2_1, f0_2_2, f0_2_3, f0_2_4, f0_2_5, f0_2_6, f0_2_7, f0_2_8, f0_2_9⟩ := str10 HS0_2.out
  have hl0_2 := HS0_2.out.lt
  obtain ⟨f1_2_0, f1_2_1, f1_2_2, f1_2_3, f1_2_4, f1_2_5, f1_2_6⟩ := str7 HS1_2.out
  have hl1_2 := HS1_2.out.lt
  have hf1_2 := fun j => HS1_2.out.frozen j
  obtain ⟨f2_2_0, f2_2_1, f2_2_2, f2_2_3, f2_2_4, f2_2_5, f2_2_6⟩ := str7 HS2_2.out
  have hl2_2 := HS2_2.out.lt
  have hf2_2 := fun j => HS2_2.out.frozen j
  have HYc_2 := Lib.hid (hy1)
  clear hy1
  have hnl := HYc_2.out.len
  simp only [List.length_nil] at hnl
  subst hnl
  go_wp2_with fail
  generalize hW3 : (((((((W2).setCell ⟨w.heap.size + 1 + 1, 0, none⟩ (.int .i64 0)).setCell ⟨w.heap.size + 1 + 1, 1, none⟩ (.string ⟨#[]⟩)).setCell ⟨w.heap.size + 1 + 1, 2, none⟩ (.int .i64 0)).setCell ⟨w.heap.size + 1 + 1, 3, none⟩ (.slice none 0 0)).setCell ⟨w.heap.size + 1 + 1, 4, none⟩ (.int .i64 0)).setCell ⟨w.heap.size + 1 + 1, 5, none⟩ (.int .i64 0)).setCell ⟨w.heap.size + 1 + 1, 6, none⟩ (.int .i64 0) = W3
  have HS0_3 : Hid (Str W3 (w.heap.size) #[.int .i64 2, .string qk, .int .i64 pst, .string pk, .int .i64 pkd, .slice Ap np cp, .int .i64 plo, .int .i64 phi, .int .i64 pva, .int .i64 un]) := Lib.hid (by rw [← hW3]; exact (((((((HS0_2.out).other 0 _ (by omega)).other 1 _ (by omega)).other 2 _ (by omega)).other 3 _ (by omega)).other 4 _ (by omega)).other 5 _ (by omega)).other 6 _ (by omega))
  have HS1_3 : Hid (Str W3 (w.heap.size + 1) #[.int .i64 1, .string qk, .int .i64 qkd, .slice Aq nq cq, .int .i64 qlo, .int .i64 qhi, .int .i64 qva]) := Lib.hid (by rw [← hW3]; exact (((((((HS1_2.out).other 0 _ (by omega)).other 1 _ (by omega)).other 2 _ (by omega)).other 3 _ (by omega)).other 4 _ (by omega)).other 5 _ (by omega)).other 6 _ (by omega))
  have HS2_3 : Hid (Str W3 (w.heap.size + 1 + 1) #[.int .i64 0, .string ⟨#[]⟩, .int .i64 0, .slice none 0 0, .int .i64 0, .int .i64 0, .int .i64 0]) := Lib.hid (by rw [← hW3]; have := (((((((HS2_2.out).set 0 (.int .i64 0)).set 1 (.string ⟨#[]⟩)).set 2 (.int .i64 0)).set 3 (.slice none 0 0)).set 4 (.int .i64 0)).set 5 (.int .i64 0)).set 6 (.int .i64 0); simpa using this)
  have hgr3 : W2.grownBy W3 (some (w.heap.size + 1 + 1)) := by rw [← hW3]; exact grown_set (grown_set (grown_set (grown_set (grown_set (grown_set (grown_set (grown_refl W2 (w.heap.size + 1 + 1)) 0 (.int .i64 0)) 1 (.string ⟨#[]⟩)) 2 (.int .i64 0)) 3 (.slice none 0 0)) 4 (.int .i64 0)) 5 (.int .i64 0)) 6 (.int .i64 0)
  have HB_3 := Lib.hid (below_grown HB_2.out hgr3 (by omega))
  have hw_3 := HB_3.out.size
  have hws_3 := hgr3.size
  have HYc_3 := Lib.hid ((Bytes.grown HYc_2.out (Nat.le_refl _) HS2_2.out rfl hgr3).more hws_3)
  clear HYc_2
  clear hW3
  clear f0_2_0 f0_2_1 f0_2_2 f0_2_3 f0_2_4 f0_2_5 f0_2_6 f0_2_7 f0_2_8 f0_2_9 HS0_2 f1_2_0 f1_2_1 f1_2_2 f1_2_3 f1_2_4 f1_2_5 f1_2_6 HS1_2 hf1_2 f2_2_0 f2_2_1 f2_2_2 f2_2_3 f2_2_4 f2_2_5 f2_2_6 HS2_2 hf2_2
  clear hgr3
  obtain ⟨f0_3_0, f0_3_1, f0_3_2, f0_3_3, f0_3_4, f0_3_5, f0_3_6, f0_3_7, f0_3_8, f0_3_9⟩ := str10 HS0_3.out
  have hl0_3 := HS0_3.out.lt
  obtain ⟨f1_3_0, f1_3_1, f1_3_2, f1_3_3, f1_3_4, f1_3_5, f1_3_6⟩ := str7 HS1_3.out
  have hl1_3 := HS1_3.out.lt
  have hf1_3 := fun j => HS1_3.out.frozen j
  obtain ⟨f2_3_0, f2_3_1, f2_3_2, f2_3_3, f2_3_4, f2_3_5, f2_3_6⟩ := str7 HS2_3.out
  have hl2_3 := HS2_3.out.lt
  have hf2_3 := fun j => HS2_3.out.frozen j
  generalize hW4 : W3.alloc (.cells #[.int .i64 2, .slice A1 0 c1, .int .i64 qlo, .int .i64 qhi, .int .i64 sv] 37) = W4
  have HS0_4 : Hid (Str W4 (w.heap.size) #[.int .i64 2, .string qk, .int .i64 pst, .string pk, .int .i64 pkd, .slice Ap np cp, .int .i64 plo, .int .i64 phi, .int .i64 pva, .int .i64 un]) := Lib.hid (by rw [← hW4]; exact HS0_3.out.alloc _)
  have HS1_4 : Hid (Str W4 (w.heap.size + 1) #[.int .i64 1, .string qk, .int .i64 qkd, .slice Aq nq cq, .int .i64 qlo, .int .i64 qhi, .int .i64 qva]) := Lib.hid (by rw [← hW4]; exact HS1_3.out.alloc _)
  have HS2_4 : Hid (Str W4 (w.heap.size + 1 + 1) #[.int .i64 0, .string ⟨#[]⟩, .int .i64 0, .slice none 0 0, .int .i64 0, .int .i64 0, .int .i64 0]) := Lib.hid (by rw [← hW4]; exact HS2_3.out.alloc _)
  have HS3_4 : Hid (Str W4 W3.heap.size #[.int .i64 2, .slice A1 0 c1, .int .i64 qlo, .int .i64 qhi, .int .i64 sv]) := Lib.hid (by rw [← hW4]; exact Str.new W3 #[.int .i64 2, .slice A1 0 c1, .int .i64 qlo, .int .i64 qhi, .int .i64 sv] 37)
  have hba4 : Below W3.heap.size W3 W4 := by rw [← hW4]; exact balloc (bsame _) _
  have HB_4 := Lib.hid (bstep HB_3.out hba4)
  have hw_4 := HB_4.out.size
  have hws_4 := hba4.size
  have HYc_4 := Lib.hid (HYc_3.out.next hba4)
  clear HYc_3
  clear hW4
  clear f0_3_0 f0_3_1 f0_3_2 f0_3_3 f0_3_4 f0_3_5 f0_3_6 f0_3_7 f0_3_8 f0_3_9 HS0_3 f1_3_0 f1_3_1 f1_3_2 f1_3_3 f1_3_4 f1_3_5 f1_3_6 HS1_3 hf1_3 f2_3_0 f2_3_1 f2_3_2 f2_3_3 f2_3_4 f2_3_5 f2_3_6 HS2_3 hf2_3
  obtain ⟨f0_4_0, f0_4_1, f0_4_2, f0_4_3, f0_4_4, f0_4_5, f0_4_6, f0_4_7, f0_4_8, f0_4_9⟩ := str10 HS0_4.out
  have hl0_4 := HS0_4.out.lt
  obtain ⟨f1_4_0, f1_4_1, f1_4_2, f1_4_3, f1_4_4, f1_4_5, f1_4_6⟩ := str7 HS1_4.out
  have hl1_4 := HS1_4.out.lt
  have hf1_4 := fun j => HS1_4.out.frozen j
  obtain ⟨f2_4_0, f2_4_1, f2_4_2, f2_4_3, f2_4_4, f2_4_5, f2_4_6⟩ := str7 HS2_4.out
  have hl2_4 := HS2_4.out.lt
  have hf2_4 := fun j => HS2_4.out.frozen j
  obtain ⟨f3_4_0, f3_4_1, f3_4_2, f3_4_3, f3_4_4⟩ := str5 HS3_4.out
  have hl3_4 := HS3_4.out.lt
  clear hba4
  exact bodyPost_ret (v := .tuple #[.agg #[.int .i64 0, .string ⟨#[]⟩, .int .i64 0, .slice none 0 0, .int .i64 0, .int .i64 0, .int .i64 0], .int .i64 8]) (by simp [results, Try.results41, go_sem, *]) rfl ⟨none, 0, 0, rfl, Bytes.none_ _ _, HB_4.out⟩

set_option maxRecDepth 100000 in
set_option maxHeartbeats 1000000 in
theorem apply2_wide_out (un : Int) (Ap : Option Addr) (np cp Bp : Nat) (pst : Int) (pk : ByteArray) (pkd : Int) (pda : List UInt8) (plo phi pva : Int) (Aq : Option Addr) (nq cq Bq : Nat) (qk : ByteArray) (qkd : Int) (qda : List UInt8) (qlo qhi qva : Int) (w : World) (hp : Bytes w Bp Ap np cp pda) (hBp : Bp ≤ w.heap.size) (hnp : np ≤ 140737488355328) (hq : Bytes w Bq Aq nq cq qda) (hBq : Bq ≤ w.heap.size) (hnq : nq ≤ 140737488355328) (hun : In64 un) (hqv : In64 qva) (hql : In64 qlo) (hqh : In64 qhi) (hr : (qkd = 2 ∧ CellP.right ⟨qkd, qda, qlo, qhi, qva⟩ = true)) (hf : WideP.fits (qva + un) = false) (ho : (qva + un < qlo ∨ qhi < qva + un)) (hz : 0 < qlo ∨ qhi < 0) : Calls Try.prog 41 #[.agg #[.int .i64 2, .string qk, .int .i64 pst, .string pk, .int .i64 pkd, .slice Ap np cp, .int .i64 plo, .int .i64 phi, .int .i64 pva, .int .i64 un], .agg #[.int .i64 1, .string qk, .int .i64 qkd, .slice Aq nq cq, .int .i64 qlo, .int .i64 qhi, .int .i64 qva]] w (SlotGet.GotItem w (UndoP.apply ⟨2, qk, ⟨pst, pk, ⟨pkd, pda, plo, phi, pva⟩⟩, un⟩ ⟨1, qk, ⟨qkd, qda, qlo, qhi, qva⟩⟩)) := by
  rw [UndoP.apply_out _ _ (by simp) ⟨rfl, rfl⟩ hr (by simpa [UndoP.sum] using ho)]
  have hn0 : WideP.num (qva + un) = 0 := by simp [WideP.num, hf]
  obtain ⟨sv, hsv⟩ : ∃ sv : Int, sv = 0 := ⟨_, rfl⟩
  have HNUM : Hid (WideP.num (qva + un) = sv) := Lib.hid (by rw [hn0, hsv])
  have HFIT := Lib.hid hf
  have HV : Hid (CellP.set ⟨qkd, qda, qlo, qhi, qva⟩ sv = (⟨0, [], 0, 0, 0⟩, 8)) := Lib.hid (by unfold CellP.set; rw [if_pos hr, hsv, if_pos hz]; try rfl)
  clear hsv hf hn0 hr ho hz
  have Hq := Lib.hid hq
  have hlq := hq.len
  have hcq := Nat.le_trans hq.2.1 hq.2.2.1
  have HS : Hid (∀ W, Calls Try.prog 77 #[.agg #[.int .i64 qkd, .slice Aq nq cq, .int .i64 qlo, .int .i64 qhi, .int .i64 qva], .int .i64 sv] W (CellW.GivesCell W (⟨0, [], 0, 0, 0⟩ : Cell) 8)) := Lib.hid (fun W => by have h := CellW.set_any Aq nq cq ⟨qkd, qda, qlo, qhi, qva⟩ sv W hlq hcq; rw [HV.out] at h; exact h)
  have HA : Hid (∀ W, Calls Try.prog 75 #[.int .i64 qva, .int .i64 un] W fun e w' => e = .returned (.tuple #[.int .i64 sv, .bool false]) ∧ Below W.heap.size W w') := Lib.hid (fun W => by have h := WideW.add_any qva un hqv.1 hqv.2 hun.1 hun.2 W; rw [HNUM.out, HFIT.out] at h; exact h)
  clear hp hq hlq hcq hun hqv hql hqh HV HNUM HFIT
  go_enter Try.func41, Try.ntmps41
  go_wp2_with fail
  generalize hW0 : (((w).alloc (.cells #[.int .i64 2, .string qk, .int .i64 pst, .string pk, .int .i64 pkd, .slice Ap np cp, .int .i64 plo, .int .i64 phi, .int .i64 pva, .int .i64 un] 62)).alloc (.cells #[.int .i64 1, .string qk, .int .i64 qkd, .slice Aq nq cq, .int .i64 qlo, .int .i64 qhi, .int .i64 qva] 54)).alloc (.cells #[.int .i64 0, .string ⟨#[]⟩, .int .i64 0, .slice none 0 0, .int .i64 0, .int .i64 0, .int .i64 0] 54) = W0
  have HS0_0 : Hid (Str W0 (w.heap.size) #[.int .i64 2, .string qk, .int .i64 pst, .string pk, .int .i64 pkd, .slice Ap np cp, .int .i64 plo, .int .i64 phi, .int .i64 pva, .int .i64 un]) := Lib.hid (by rw [← hW0]; have := ((Str.new (w) #[.int .i64 2, .string qk, .int .i64 pst, .string pk, .int .i64 pkd, .slice Ap np cp, .int .i64 plo, .int .i64 phi, .int .i64 pva, .int .i64 un] 62).alloc (.cells #[.int .i64 1, .string qk, .int .i64 qkd, .slice Aq nq cq, .int .i64 qlo, .int .i64 qhi, .int .i64 qva] 54)).alloc (.cells #[.int .i64 0, .string ⟨#[]⟩, .int .i64 0, .slice none 0 0, .int .i64 0, .int .i64 0, .int .i64 0] 54); simpa using this)
  have HS1_0 : Hid (Str W0 (w.heap.size + 1) #[.int .i64 1, .string qk, .int .i64 qkd, .slice Aq nq cq, .int .i64 qlo, .int .i64 qhi, .int .i64 qva]) := Lib.hid (by rw [← hW0]; have := (Str.new ((w).alloc (.cells #[.int .i64 2, .string qk, .int .i64 pst, .string pk, .int .i64 pkd, .slice Ap np cp, .int .i64 plo, .int .i64 phi, .int .i64 pva, .int .i64 un] 62)) #[.int .i64 1, .string qk, .int .i64 qkd, .slice Aq nq cq, .int .i64 qlo, .int .i64 qhi, .int .i64 qva] 54).alloc (.cells #[.int .i64 0, .string ⟨#[]⟩, .int .i64 0, .slice none 0 0, .int .i64 0, .int .i64 0, .int .i64 0] 54); simpa using this)
  have HS2_0 : Hid (Str W0 (w.heap.size + 1 + 1) #[.int .i64 0, .string ⟨#[]⟩, .int .i64 0, .slice none 0 0, .int .i64 0, .int .i64 0, .int .i64 0]) := Lib.hid (by rw [← hW0]; have := Str.new (((w).alloc (.cells #[.int .i64 2, .string qk, .int .i64 pst, .string pk, .int .i64 pkd, .slice Ap np cp, .int .i64 plo, .int .i64 phi, .int .i64 pva, .int .i64 un] 62)).alloc (.cells #[.int .i64 1, .string qk, .int .i64 qkd, .slice Aq nq cq, .int .i64 qlo, .int .i64 qhi, .int .i64 qva] 54)) #[.int .i64 0, .string ⟨#[]⟩, .int .i64 0, .slice none 0 0, .int .i64 0, .int .i64 0, .int .i64 0] 54; simpa using this)
  have HB_0 : Hid (Below w.heap.size w W0) := Lib.hid (by rw [← hW0]; exact balloc (balloc (balloc (bsame w) _) _) _)
  have hw_0 := HB_0.out.size
  clear hW0
  obtain ⟨f0_0_0, f0_0_1, f0_0_2, f0_0_3, f0_0_4, f0_0_5, f0_0_6, f0_0_7, f0_0_8, f0_0_9⟩ := str10 HS0_0.out
  have hl0_0 := HS0_0.out.lt
  obtain ⟨f1_0_0, f1_0_1, f1_0_2, f1_0_3, f1_0_4, f1_0_5, f1_0_6⟩ := str7 HS1_0.out
  have hl1_0 := HS1_0.out.lt
  have hf1_0 := fun j => HS1_0.out.frozen j
  obtain ⟨f2_0_0, f2_0_1, f2_0_2, f2_0_3, f2_0_4, f2_0_5, f2_0_6⟩ := str7 HS2_0.out
  have hl2_0 := HS2_0.out.lt
  have hf2_0 := fun j => HS2_0.out.frozen j
  refine (HA.out _).mono ?_
  rintro e W1 ⟨rfl, hb1⟩
  have HS0_1 := Lib.hid (HS0_0.out.next hb1)
  have HS1_1 := Lib.hid (HS1_0.out.next hb1)
  have HS2_1 := Lib.hid (HS2_0.out.next hb1)
  have HB_1 := Lib.hid (bstep HB_0.out hb1)
  have hw_1 := HB_1.out.size
  have hws_1 := (hb1).size
  clear f0_0_0 f0_0_1 f0_0_2 f0_0_3 f0_0_4 f0_0_5 f0_0_6 f0_0_7 f0_0_8 f0_0_9 HS0_0 f1_0_0 f1_0_1 f1_0_2 f1_0_3 f1_0_4 f1_0_5 f1_0_6 HS1_0 hf1_0 f2_0_0 f2_0_1 f2_0_2 f2_0_3 f2_0_4 f2_0_5 f2_0_6 HS2_0 hf2_0
  clear hb1
  obtain ⟨f0_1_0, f0_1_1, f0_1_2, f0_1_3, f0_1_4, f0_1_5, f0_1_6, f0_1_7, f0_1_8, f0_1_9⟩ := str10 HS0_1.out
  have hl0_1 := HS0_1.out.lt
  obtain ⟨f1_1_0, f1_1_1, f1_1_2, f1_1_3, f1_1_4, f1_1_5, f1_1_6⟩ := str7 HS1_1.out
  have hl1_1 := HS1_1.out.lt
  have hf1_1 := fun j => HS1_1.out.frozen j
  obtain ⟨f2_1_0, f2_1_1, f2_1_2, f2_1_3, f2_1_4, f2_1_5, f2_1_6⟩ := str7 HS2_1.out
  have hl2_1 := HS2_1.out.lt
  have hf2_1 := fun j => HS2_1.out.frozen j
  go_wp2_with fail
  refine (HS.out _).mono ?_
  rintro e W2 ⟨A1, n1, c1, rfl, hy1, hb2⟩
  have HS0_2 := Lib.hid (HS0_1.out.next hb2)
  have HS1_2 := Lib.hid (HS1_1.out.next hb2)
  have HS2_2 := Lib.hid (HS2_1.out.next hb2)
  have HB_2 := Lib.hid (bstep HB_1.out hb2)
  have hw_2 := HB_2.out.size
  have hws_2 := (hb2).size
  clear f0_1_0 f0_1_1 f0_1_2 f0_1_3 f0_1_4 f0_1_5 f0_1_6 f0_1_7 f0_1_8 f0_1_9 HS0_1 f1_1_0 f1_1_1 f1_1_2 f1_1_3 f1_1_4 f1_1_5 f1_1_6 HS1_1 hf1_1 f2_1_0 f2_1_1 f2_1_2 f2_1_3 f2_1_4 f2_1_5 f2_1_6 HS2_1 hf2_1
  clear hb2
  obtain ⟨f0_2_0, f0_2_1, f0_2_2, f0_2_3, f0_2_4, f0_2_5, f0_2_6, f0_2_7, f0_2_8, f0_2_9⟩ := str10 HS0_2.out
  have hl0_2 := HS0_2.out.lt
  obtain ⟨f1_2_0, f1_2_1, f1_2_2, f1_2_3, f1_2_4, f1_2_5, f1_2_6⟩ := str7 HS1_2.out
  have hl1_2 := HS1_2.out.lt
  have hf1_2 := fun j => HS1_2.out.frozen j
  obtain ⟨f2_2_0, f2_2_1, f2_2_2, f2_2_3, f2_2_4, f2_2_5, f2_2_6⟩ := str7 HS2_2.out
  have hl2_2 := HS2_2.out.lt
  have hf2_2 := fun j => HS2_2.out.frozen j
  have HYc_2 := Lib.hid (hy1)
  clear hy1
  have hnl := HYc_2.out.len
  simp only [List.length_nil] at hnl
  subst hnl
  go_wp2_with fail
  generalize hW3 : (((((((W2).setCell ⟨w.heap.size + 1 + 1, 0, none⟩ (.int .i64 0)).setCell ⟨w.heap.size + 1 + 1, 1, none⟩ (.string ⟨#[]⟩)).setCell ⟨w.heap.size + 1 + 1, 2, none⟩ (.int .i64 0)).setCell ⟨w.heap.size + 1 + 1, 3, none⟩ (.slice none 0 0)).setCell ⟨w.heap.size + 1 + 1, 4, none⟩ (.int .i64 0)).setCell ⟨w.heap.size + 1 + 1, 5, none⟩ (.int .i64 0)).setCell ⟨w.heap.size + 1 + 1, 6, none⟩ (.int .i64 0) = W3
  have HS0_3 : Hid (Str W3 (w.heap.size) #[.int .i64 2, .string qk, .int .i64 pst, .string pk, .int .i64 pkd, .slice Ap np cp, .int .i64 plo, .int .i64 phi, .int .i64 pva, .int .i64 un]) := Lib.hid (by rw [← hW3]; exact (((((((HS0_2.out).other 0 _ (by omega)).other 1 _ (by omega)).other 2 _ (by omega)).other 3 _ (by omega)).other 4 _ (by omega)).other 5 _ (by omega)).other 6 _ (by omega))
  have HS1_3 : Hid (Str W3 (w.heap.size + 1) #[.int .i64 1, .string qk, .int .i64 qkd, .slice Aq nq cq, .int .i64 qlo, .int .i64 qhi, .int .i64 qva]) := Lib.hid (by rw [← hW3]; exact (((((((HS1_2.out).other 0 _ (by omega)).other 1 _ (by omega)).other 2 _ (by omega)).other 3 _ (by omega)).other 4 _ (by omega)).other 5 _ (by omega)).other 6 _ (by omega))
  have HS2_3 : Hid (Str W3 (w.heap.size + 1 + 1) #[.int .i64 0, .string ⟨#[]⟩, .int .i64 0, .slice none 0 0, .int .i64 0, .int .i64 0, .int .i64 0]) := Lib.hid (by rw [← hW3]; have := (((((((HS2_2.out).set 0 (.int .i64 0)).set 1 (.string ⟨#[]⟩)).set 2 (.int .i64 0)).set 3 (.slice none 0 0)).set 4 (.int .i64 0)).set 5 (.int .i64 0)).set 6 (.int .i64 0); simpa using this)
  have hgr3 : W2.grownBy W3 (some (w.heap.size + 1 + 1)) := by rw [← hW3]; exact grown_set (grown_set (grown_set (grown_set (grown_set (grown_set (grown_set (grown_refl W2 (w.heap.size + 1 + 1)) 0 (.int .i64 0)) 1 (.string ⟨#[]⟩)) 2 (.int .i64 0)) 3 (.slice none 0 0)) 4 (.int .i64 0)) 5 (.int .i64 0)) 6 (.int .i64 0)
  have HB_3 := Lib.hid (below_grown HB_2.out hgr3 (by omega))
  have hw_3 := HB_3.out.size
  have hws_3 := hgr3.size
  have HYc_3 := Lib.hid ((Bytes.grown HYc_2.out (Nat.le_refl _) HS2_2.out rfl hgr3).more hws_3)
  clear HYc_2
  clear hW3
  clear f0_2_0 f0_2_1 f0_2_2 f0_2_3 f0_2_4 f0_2_5 f0_2_6 f0_2_7 f0_2_8 f0_2_9 HS0_2 f1_2_0 f1_2_1 f1_2_2 f1_2_3 f1_2_4 f1_2_5 f1_2_6 HS1_2 hf1_2 f2_2_0 f2_2_1 f2_2_2 f2_2_3 f2_2_4 f2_2_5 f2_2_6 HS2_2 hf2_2
  clear hgr3
  obtain ⟨f0_3_0, f0_3_1, f0_3_2, f0_3_3, f0_3_4, f0_3_5, f0_3_6, f0_3_7, f0_3_8, f0_3_9⟩ := str10 HS0_3.out
  have hl0_3 := HS0_3.out.lt
  obtain ⟨f1_3_0, f1_3_1, f1_3_2, f1_3_3, f1_3_4, f1_3_5, f1_3_6⟩ := str7 HS1_3.out
  have hl1_3 := HS1_3.out.lt
  have hf1_3 := fun j => HS1_3.out.frozen j
  obtain ⟨f2_3_0, f2_3_1, f2_3_2, f2_3_3, f2_3_4, f2_3_5, f2_3_6⟩ := str7 HS2_3.out
  have hl2_3 := HS2_3.out.lt
  have hf2_3 := fun j => HS2_3.out.frozen j
  generalize hW4 : W3.alloc (.cells #[.int .i64 0, .slice A1 0 c1, .int .i64 0, .int .i64 0, .int .i64 0] 37) = W4
  have HS0_4 : Hid (Str W4 (w.heap.size) #[.int .i64 2, .string qk, .int .i64 pst, .string pk, .int .i64 pkd, .slice Ap np cp, .int .i64 plo, .int .i64 phi, .int .i64 pva, .int .i64 un]) := Lib.hid (by rw [← hW4]; exact HS0_3.out.alloc _)
  have HS1_4 : Hid (Str W4 (w.heap.size + 1) #[.int .i64 1, .string qk, .int .i64 qkd, .slice Aq nq cq, .int .i64 qlo, .int .i64 qhi, .int .i64 qva]) := Lib.hid (by rw [← hW4]; exact HS1_3.out.alloc _)
  have HS2_4 : Hid (Str W4 (w.heap.size + 1 + 1) #[.int .i64 0, .string ⟨#[]⟩, .int .i64 0, .slice none 0 0, .int .i64 0, .int .i64 0, .int .i64 0]) := Lib.hid (by rw [← hW4]; exact HS2_3.out.alloc _)
  have HS3_4 : Hid (Str W4 W3.heap.size #[.int .i64 0, .slice A1 0 c1, .int .i64 0, .int .i64 0, .int .i64 0]) := Lib.hid (by rw [← hW4]; exact Str.new W3 #[.int .i64 0, .slice A1 0 c1, .int .i64 0, .int .i64 0, .int .i64 0] 37)
  have hba4 : Below W3.heap.size W3 W4 := by rw [← hW4]; exact balloc (bsame _) _
  have HB_4 := Lib.hid (bstep HB_3.out hba4)
  have hw_4 := HB_4.out.size
  have hws_4 := hba4.size
  have HYc_4 := Lib.hid (HYc_3.out.next hba4)
  clear HYc_3
  clear hW4
  clear f0_3_0 f0_3_1 f0_3_2 f0_3_3 f0_3_4 f0_3_5 f0_3_6 f0_3_7 f0_3_8 f0_3_9 HS0_3 f1_3_0 f1_3_1 f1_3_2 f1_3_3 f1_3_4 f1_3_5 f1_3_6 HS1_3 hf1_3 f2_3_0 f2_3_1 f2_3_2 f2_3_3 f2_3_4 f2_3_5 f2_3_6 HS2_3 hf2_3
  obtain ⟨f0_4_0, f0_4_1, f0_4_2, f0_4_3, f0_4_4, f0_4_5, f0_4_6, f0_4_7, f0_4_8, f0_4_9⟩ := str10 HS0_4.out
  have hl0_4 := HS0_4.out.lt
  obtain ⟨f1_4_0, f1_4_1, f1_4_2, f1_4_3, f1_4_4, f1_4_5, f1_4_6⟩ := str7 HS1_4.out
  have hl1_4 := HS1_4.out.lt
  have hf1_4 := fun j => HS1_4.out.frozen j
  obtain ⟨f2_4_0, f2_4_1, f2_4_2, f2_4_3, f2_4_4, f2_4_5, f2_4_6⟩ := str7 HS2_4.out
  have hl2_4 := HS2_4.out.lt
  have hf2_4 := fun j => HS2_4.out.frozen j
  obtain ⟨f3_4_0, f3_4_1, f3_4_2, f3_4_3, f3_4_4⟩ := str5 HS3_4.out
  have hl3_4 := HS3_4.out.lt
  clear hba4
  exact bodyPost_ret (v := .tuple #[.agg #[.int .i64 0, .string ⟨#[]⟩, .int .i64 0, .slice none 0 0, .int .i64 0, .int .i64 0, .int .i64 0], .int .i64 8]) (by simp [results, Try.results41, go_sem, *]) rfl ⟨none, 0, 0, rfl, Bytes.none_ _ _, HB_4.out⟩

set_option maxRecDepth 100000 in
set_option maxHeartbeats 1000000 in
theorem apply2_out (un : Int) (Ap : Option Addr) (np cp Bp : Nat) (pst : Int) (pk : ByteArray) (pkd : Int) (pda : List UInt8) (plo phi pva : Int) (Aq : Option Addr) (nq cq Bq : Nat) (qk : ByteArray) (qkd : Int) (qda : List UInt8) (qlo qhi qva : Int) (w : World) (hp : Bytes w Bp Ap np cp pda) (hBp : Bp ≤ w.heap.size) (hnp : np ≤ 140737488355328) (hq : Bytes w Bq Aq nq cq qda) (hBq : Bq ≤ w.heap.size) (hnq : nq ≤ 140737488355328) (hun : In64 un) (hqv : In64 qva) (hql : In64 qlo) (hqh : In64 qhi) (hr : (qkd = 2 ∧ CellP.right ⟨qkd, qda, qlo, qhi, qva⟩ = true)) (hf : WideP.fits (qva + un) = true) (ho : (qva + un < qlo ∨ qhi < qva + un)) : Calls Try.prog 41 #[.agg #[.int .i64 2, .string qk, .int .i64 pst, .string pk, .int .i64 pkd, .slice Ap np cp, .int .i64 plo, .int .i64 phi, .int .i64 pva, .int .i64 un], .agg #[.int .i64 1, .string qk, .int .i64 qkd, .slice Aq nq cq, .int .i64 qlo, .int .i64 qhi, .int .i64 qva]] w (SlotGet.GotItem w (UndoP.apply ⟨2, qk, ⟨pst, pk, ⟨pkd, pda, plo, phi, pva⟩⟩, un⟩ ⟨1, qk, ⟨qkd, qda, qlo, qhi, qva⟩⟩)) := by
  rw [UndoP.apply_out _ _ (by simp) ⟨rfl, rfl⟩ hr (by simpa [UndoP.sum] using ho)]
  have hn0 : WideP.num (qva + un) = (qva + un) := by simp [WideP.num, hf]
  obtain ⟨sv, hsv⟩ : ∃ sv : Int, sv = (qva + un) := ⟨_, rfl⟩
  have HNUM : Hid (WideP.num (qva + un) = sv) := Lib.hid (by rw [hn0, hsv])
  have HFIT := Lib.hid hf
  have HV : Hid (CellP.set ⟨qkd, qda, qlo, qhi, qva⟩ sv = ((⟨0, [], 0, 0, 0⟩ : Cell), 8)) := Lib.hid (by unfold CellP.set; rw [if_pos hr, hsv, if_pos ho]; rfl)
  clear hsv hf hn0 hr ho
  have Hq := Lib.hid hq
  have hlq := hq.len
  have hcq := Nat.le_trans hq.2.1 hq.2.2.1
  have HS : Hid (∀ W, Calls Try.prog 77 #[.agg #[.int .i64 qkd, .slice Aq nq cq, .int .i64 qlo, .int .i64 qhi, .int .i64 qva], .int .i64 sv] W (CellW.GivesCell W (⟨0, [], 0, 0, 0⟩ : Cell) 8)) := Lib.hid (fun W => by have h := CellW.set_any Aq nq cq ⟨qkd, qda, qlo, qhi, qva⟩ sv W hlq hcq; rw [HV.out] at h; exact h)
  have HA : Hid (∀ W, Calls Try.prog 75 #[.int .i64 qva, .int .i64 un] W fun e w' => e = .returned (.tuple #[.int .i64 sv, .bool true]) ∧ Below W.heap.size W w') := Lib.hid (fun W => by have h := WideW.add_any qva un hqv.1 hqv.2 hun.1 hun.2 W; rw [HNUM.out, HFIT.out] at h; exact h)
  clear hp hq hlq hcq hun hqv hql hqh HV HNUM HFIT
  go_enter Try.func41, Try.ntmps41
  go_wp2_with fail
  generalize hW0 : (((w).alloc (.cells #[.int .i64 2, .string qk, .int .i64 pst, .string pk, .int .i64 pkd, .slice Ap np cp, .int .i64 plo, .int .i64 phi, .int .i64 pva, .int .i64 un] 62)).alloc (.cells #[.int .i64 1, .string qk, .int .i64 qkd, .slice Aq nq cq, .int .i64 qlo, .int .i64 qhi, .int .i64 qva] 54)).alloc (.cells #[.int .i64 0, .string ⟨#[]⟩, .int .i64 0, .slice none 0 0, .int .i64 0, .int .i64 0, .int .i64 0] 54) = W0
  have HS0_0 : Hid (Str W0 (w.heap.size) #[.int .i64 2, .string qk, .int .i64 pst, .string pk, .int .i64 pkd, .slice Ap np cp, .int .i64 plo, .int .i64 phi, .int .i64 pva, .int .i64 un]) := Lib.hid (by rw [← hW0]; have := ((Str.new (w) #[.int .i64 2, .string qk, .int .i64 pst, .string pk, .int .i64 pkd, .slice Ap np cp, .int .i64 plo, .int .i64 phi, .int .i64 pva, .int .i64 un] 62).alloc (.cells #[.int .i64 1, .string qk, .int .i64 qkd, .slice Aq nq cq, .int .i64 qlo, .int .i64 qhi, .int .i64 qva] 54)).alloc (.cells #[.int .i64 0, .string ⟨#[]⟩, .int .i64 0, .slice none 0 0, .int .i64 0, .int .i64 0, .int .i64 0] 54); simpa using this)
  have HS1_0 : Hid (Str W0 (w.heap.size + 1) #[.int .i64 1, .string qk, .int .i64 qkd, .slice Aq nq cq, .int .i64 qlo, .int .i64 qhi, .int .i64 qva]) := Lib.hid (by rw [← hW0]; have := (Str.new ((w).alloc (.cells #[.int .i64 2, .string qk, .int .i64 pst, .string pk, .int .i64 pkd, .slice Ap np cp, .int .i64 plo, .int .i64 phi, .int .i64 pva, .int .i64 un] 62)) #[.int .i64 1, .string qk, .int .i64 qkd, .slice Aq nq cq, .int .i64 qlo, .int .i64 qhi, .int .i64 qva] 54).alloc (.cells #[.int .i64 0, .string ⟨#[]⟩, .int .i64 0, .slice none 0 0, .int .i64 0, .int .i64 0, .int .i64 0] 54); simpa using this)
  have HS2_0 : Hid (Str W0 (w.heap.size + 1 + 1) #[.int .i64 0, .string ⟨#[]⟩, .int .i64 0, .slice none 0 0, .int .i64 0, .int .i64 0, .int .i64 0]) := Lib.hid (by rw [← hW0]; have := Str.new (((w).alloc (.cells #[.int .i64 2, .string qk, .int .i64 pst, .string pk, .int .i64 pkd, .slice Ap np cp, .int .i64 plo, .int .i64 phi, .int .i64 pva, .int .i64 un] 62)).alloc (.cells #[.int .i64 1, .string qk, .int .i64 qkd, .slice Aq nq cq, .int .i64 qlo, .int .i64 qhi, .int .i64 qva] 54)) #[.int .i64 0, .string ⟨#[]⟩, .int .i64 0, .slice none 0 0, .int .i64 0, .int .i64 0, .int .i64 0] 54; simpa using this)
  have HB_0 : Hid (Below w.heap.size w W0) := Lib.hid (by rw [← hW0]; exact balloc (balloc (balloc (bsame w) _) _) _)
  have hw_0 := HB_0.out.size
  clear hW0
  obtain ⟨f0_0_0, f0_0_1, f0_0_2, f0_0_3, f0_0_4, f0_0_5, f0_0_6, f0_0_7, f0_0_8, f0_0_9⟩ := str10 HS0_0.out
  have hl0_0 := HS0_0.out.lt
  obtain ⟨f1_0_0, f1_0_1, f1_0_2, f1_0_3, f1_0_4, f1_0_5, f1_0_6⟩ := str7 HS1_0.out
  have hl1_0 := HS1_0.out.lt
  have hf1_0 := fun j => HS1_0.out.frozen j
  obtain ⟨f2_0_0, f2_0_1, f2_0_2, f2_0_3, f2_0_4, f2_0_5, f2_0_6⟩ := str7 HS2_0.out
  have hl2_0 := HS2_0.out.lt
  have hf2_0 := fun j => HS2_0.out.frozen j
  refine (HA.out _).mono ?_
  rintro e W1 ⟨rfl, hb1⟩
  have HS0_1 := Lib.hid (HS0_0.out.next hb1)
  have HS1_1 := Lib.hid (HS1_0.out.next hb1)
  have HS2_1 := Lib.hid (HS2_0.out.next hb1)
  have HB_1 := Lib.hid (bstep HB_0.out hb1)
  have hw_1 := HB_1.out.size
  have hws_1 := (hb1).size
  clear f0_0_0 f0_0_1 f0_0_2 f0_0_3 f0_0_4 f0_0_5 f0_0_6 f0_0_7 f0_0_8 f0_0_9 HS0_0 f1_0_0 f1_0_1 f1_0_2 f1_0_3 f1_0_4 f1_0_5 f1_0_6 HS1_0 hf1_0 f2_0_0 f2_0_1 f2_0_2 f2_0_3 f2_0_4 f2_0_5 f2_0_6 HS2_0 hf2_0
  clear hb1
  obtain ⟨f0_1_0, f0_1_1, f0_1_2, f0_1_3, f0_1_4, f0_1_5, f0_1_6, f0_1_7, f0_1_8, f0_1_9⟩ := str10 HS0_1.out
  have hl0_1 := HS0_1.out.lt
  obtain ⟨f1_1_0, f1_1_1, f1_1_2, f1_1_3, f1_1_4, f1_1_5, f1_1_6⟩ := str7 HS1_1.out
  have hl1_1 := HS1_1.out.lt
  have hf1_1 := fun j => HS1_1.out.frozen j
  obtain ⟨f2_1_0, f2_1_1, f2_1_2, f2_1_3, f2_1_4, f2_1_5, f2_1_6⟩ := str7 HS2_1.out
  have hl2_1 := HS2_1.out.lt
  have hf2_1 := fun j => HS2_1.out.frozen j
  go_wp2_with fail
  refine (HS.out _).mono ?_
  rintro e W2 ⟨A1, n1, c1, rfl, hy1, hb2⟩
  have HS0_2 := Lib.hid (HS0_1.out.next hb2)
  have HS1_2 := Lib.hid (HS1_1.out.next hb2)
  have HS2_2 := Lib.hid (HS2_1.out.next hb2)
  have HB_2 := Lib.hid (bstep HB_1.out hb2)
  have hw_2 := HB_2.out.size
  have hws_2 := (hb2).size
  clear f0_1_0 f0_1_1 f0_1_2 f0_1_3 f0_1_4 f0_1_5 f0_1_6 f0_1_7 f0_1_8 f0_1_9 HS0_1 f1_1_0 f1_1_1 f1_1_2 f1_1_3 f1_1_4 f1_1_5 f1_1_6 HS1_1 hf1_1 f2_1_0 f2_1_1 f2_1_2 f2_1_3 f2_1_4 f2_1_5 f2_1_6 HS2_1 hf2_1
  clear hb2
  obtain ⟨f0_2_0, f0_2_1, f0_2_2, f0_2_3, f0_2_4, f0_2_5, f0_2_6, f0_2_7, f0_2_8, f0_2_9⟩ := str10 HS0_2.out
  have hl0_2 := HS0_2.out.lt
  obtain ⟨f1_2_0, f1_2_1, f1_2_2, f1_2_3, f1_2_4, f1_2_5, f1_2_6⟩ := str7 HS1_2.out
  have hl1_2 := HS1_2.out.lt
  have hf1_2 := fun j => HS1_2.out.frozen j
  obtain ⟨f2_2_0, f2_2_1, f2_2_2, f2_2_3, f2_2_4, f2_2_5, f2_2_6⟩ := str7 HS2_2.out
  have hl2_2 := HS2_2.out.lt
  have hf2_2 := fun j => HS2_2.out.frozen j
  have HYc_2 := Lib.hid (hy1)
  clear hy1
  have hnl := HYc_2.out.len
  simp only [List.length_nil] at hnl
  subst hnl
  go_wp2_with fail
  generalize hW3 : (((((((W2).setCell ⟨w.heap.size + 1 + 1, 0, none⟩ (.int .i64 0)).setCell ⟨w.heap.size + 1 + 1, 1, none⟩ (.string ⟨#[]⟩)).setCell ⟨w.heap.size + 1 + 1, 2, none⟩ (.int .i64 0)).setCell ⟨w.heap.size + 1 + 1, 3, none⟩ (.slice none 0 0)).setCell ⟨w.heap.size + 1 + 1, 4, none⟩ (.int .i64 0)).setCell ⟨w.heap.size + 1 + 1, 5, none⟩ (.int .i64 0)).setCell ⟨w.heap.size + 1 + 1, 6, none⟩ (.int .i64 0) = W3
  have HS0_3 : Hid (Str W3 (w.heap.size) #[.int .i64 2, .string qk, .int .i64 pst, .string pk, .int .i64 pkd, .slice Ap np cp, .int .i64 plo, .int .i64 phi, .int .i64 pva, .int .i64 un]) := Lib.hid (by rw [← hW3]; exact (((((((HS0_2.out).other 0 _ (by omega)).other 1 _ (by omega)).other 2 _ (by omega)).other 3 _ (by omega)).other 4 _ (by omega)).other 5 _ (by omega)).other 6 _ (by omega))
  have HS1_3 : Hid (Str W3 (w.heap.size + 1) #[.int .i64 1, .string qk, .int .i64 qkd, .slice Aq nq cq, .int .i64 qlo, .int .i64 qhi, .int .i64 qva]) := Lib.hid (by rw [← hW3]; exact (((((((HS1_2.out).other 0 _ (by omega)).other 1 _ (by omega)).other 2 _ (by omega)).other 3 _ (by omega)).other 4 _ (by omega)).other 5 _ (by omega)).other 6 _ (by omega))
  have HS2_3 : Hid (Str W3 (w.heap.size + 1 + 1) #[.int .i64 0, .string ⟨#[]⟩, .int .i64 0, .slice none 0 0, .int .i64 0, .int .i64 0, .int .i64 0]) := Lib.hid (by rw [← hW3]; have := (((((((HS2_2.out).set 0 (.int .i64 0)).set 1 (.string ⟨#[]⟩)).set 2 (.int .i64 0)).set 3 (.slice none 0 0)).set 4 (.int .i64 0)).set 5 (.int .i64 0)).set 6 (.int .i64 0); simpa using this)
  have hgr3 : W2.grownBy W3 (some (w.heap.size + 1 + 1)) := by rw [← hW3]; exact grown_set (grown_set (grown_set (grown_set (grown_set (grown_set (grown_set (grown_refl W2 (w.heap.size + 1 + 1)) 0 (.int .i64 0)) 1 (.string ⟨#[]⟩)) 2 (.int .i64 0)) 3 (.slice none 0 0)) 4 (.int .i64 0)) 5 (.int .i64 0)) 6 (.int .i64 0)
  have HB_3 := Lib.hid (below_grown HB_2.out hgr3 (by omega))
  have hw_3 := HB_3.out.size
  have hws_3 := hgr3.size
  have HYc_3 := Lib.hid ((Bytes.grown HYc_2.out (Nat.le_refl _) HS2_2.out rfl hgr3).more hws_3)
  clear HYc_2
  clear hW3
  clear f0_2_0 f0_2_1 f0_2_2 f0_2_3 f0_2_4 f0_2_5 f0_2_6 f0_2_7 f0_2_8 f0_2_9 HS0_2 f1_2_0 f1_2_1 f1_2_2 f1_2_3 f1_2_4 f1_2_5 f1_2_6 HS1_2 hf1_2 f2_2_0 f2_2_1 f2_2_2 f2_2_3 f2_2_4 f2_2_5 f2_2_6 HS2_2 hf2_2
  clear hgr3
  obtain ⟨f0_3_0, f0_3_1, f0_3_2, f0_3_3, f0_3_4, f0_3_5, f0_3_6, f0_3_7, f0_3_8, f0_3_9⟩ := str10 HS0_3.out
  have hl0_3 := HS0_3.out.lt
  obtain ⟨f1_3_0, f1_3_1, f1_3_2, f1_3_3, f1_3_4, f1_3_5, f1_3_6⟩ := str7 HS1_3.out
  have hl1_3 := HS1_3.out.lt
  have hf1_3 := fun j => HS1_3.out.frozen j
  obtain ⟨f2_3_0, f2_3_1, f2_3_2, f2_3_3, f2_3_4, f2_3_5, f2_3_6⟩ := str7 HS2_3.out
  have hl2_3 := HS2_3.out.lt
  have hf2_3 := fun j => HS2_3.out.frozen j
  generalize hW4 : W3.alloc (.cells #[.int .i64 0, .slice A1 0 c1, .int .i64 0, .int .i64 0, .int .i64 0] 37) = W4
  have HS0_4 : Hid (Str W4 (w.heap.size) #[.int .i64 2, .string qk, .int .i64 pst, .string pk, .int .i64 pkd, .slice Ap np cp, .int .i64 plo, .int .i64 phi, .int .i64 pva, .int .i64 un]) := Lib.hid (by rw [← hW4]; exact HS0_3.out.alloc _)
  have HS1_4 : Hid (Str W4 (w.heap.size + 1) #[.int .i64 1, .string qk, .int .i64 qkd, .slice Aq nq cq, .int .i64 qlo, .int .i64 qhi, .int .i64 qva]) := Lib.hid (by rw [← hW4]; exact HS1_3.out.alloc _)
  have HS2_4 : Hid (Str W4 (w.heap.size + 1 + 1) #[.int .i64 0, .string ⟨#[]⟩, .int .i64 0, .slice none 0 0, .int .i64 0, .int .i64 0, .int .i64 0]) := Lib.hid (by rw [← hW4]; exact HS2_3.out.alloc _)
  have HS3_4 : Hid (Str W4 W3.heap.size #[.int .i64 0, .slice A1 0 c1, .int .i64 0, .int .i64 0, .int .i64 0]) := Lib.hid (by rw [← hW4]; exact Str.new W3 #[.int .i64 0, .slice A1 0 c1, .int .i64 0, .int .i64 0, .int .i64 0] 37)
  have hba4 : Below W3.heap.size W3 W4 := by rw [← hW4]; exact balloc (bsame _) _
  have HB_4 := Lib.hid (bstep HB_3.out hba4)
  have hw_4 := HB_4.out.size
  have hws_4 := hba4.size
  have HYc_4 := Lib.hid (HYc_3.out.next hba4)
  clear HYc_3
  clear hW4
  clear f0_3_0 f0_3_1 f0_3_2 f0_3_3 f0_3_4 f0_3_5 f0_3_6 f0_3_7 f0_3_8 f0_3_9 HS0_3 f1_3_0 f1_3_1 f1_3_2 f1_3_3 f1_3_4 f1_3_5 f1_3_6 HS1_3 hf1_3 f2_3_0 f2_3_1 f2_3_2 f2_3_3 f2_3_4 f2_3_5 f2_3_6 HS2_3 hf2_3
  obtain ⟨f0_4_0, f0_4_1, f0_4_2, f0_4_3, f0_4_4, f0_4_5, f0_4_6, f0_4_7, f0_4_8, f0_4_9⟩ := str10 HS0_4.out
  have hl0_4 := HS0_4.out.lt
  obtain ⟨f1_4_0, f1_4_1, f1_4_2, f1_4_3, f1_4_4, f1_4_5, f1_4_6⟩ := str7 HS1_4.out
  have hl1_4 := HS1_4.out.lt
  have hf1_4 := fun j => HS1_4.out.frozen j
  obtain ⟨f2_4_0, f2_4_1, f2_4_2, f2_4_3, f2_4_4, f2_4_5, f2_4_6⟩ := str7 HS2_4.out
  have hl2_4 := HS2_4.out.lt
  have hf2_4 := fun j => HS2_4.out.frozen j
  obtain ⟨f3_4_0, f3_4_1, f3_4_2, f3_4_3, f3_4_4⟩ := str5 HS3_4.out
  have hl3_4 := HS3_4.out.lt
  clear hba4
  exact bodyPost_ret (v := .tuple #[.agg #[.int .i64 0, .string ⟨#[]⟩, .int .i64 0, .slice none 0 0, .int .i64 0, .int .i64 0, .int .i64 0], .int .i64 8]) (by simp [results, Try.results41, go_sem, *]) rfl ⟨none, 0, 0, rfl, Bytes.none_ _ _, HB_4.out⟩

set_option maxRecDepth 100000 in
set_option maxHeartbeats 1000000 in
theorem apply2_ok (un : Int) (Ap : Option Addr) (np cp Bp : Nat) (pst : Int) (pk : ByteArray) (pkd : Int) (pda : List UInt8) (plo phi pva : Int) (Aq : Option Addr) (nq cq Bq : Nat) (qk : ByteArray) (qkd : Int) (qda : List UInt8) (qlo qhi qva : Int) (w : World) (hp : Bytes w Bp Ap np cp pda) (hBp : Bp ≤ w.heap.size) (hnp : np ≤ 140737488355328) (hq : Bytes w Bq Aq nq cq qda) (hBq : Bq ≤ w.heap.size) (hnq : nq ≤ 140737488355328) (hun : In64 un) (hqv : In64 qva) (hql : In64 qlo) (hqh : In64 qhi) (hr : (qkd = 2 ∧ CellP.right ⟨qkd, qda, qlo, qhi, qva⟩ = true)) (hf : WideP.fits (qva + un) = true) (ho : ¬ (qva + un < qlo ∨ qhi < qva + un)) : Calls Try.prog 41 #[.agg #[.int .i64 2, .string qk, .int .i64 pst, .string pk, .int .i64 pkd, .slice Ap np cp, .int .i64 plo, .int .i64 phi, .int .i64 pva, .int .i64 un], .agg #[.int .i64 1, .string qk, .int .i64 qkd, .slice Aq nq cq, .int .i64 qlo, .int .i64 qhi, .int .i64 qva]] w (SlotGet.GotItem w (UndoP.apply ⟨2, qk, ⟨pst, pk, ⟨pkd, pda, plo, phi, pva⟩⟩, un⟩ ⟨1, qk, ⟨qkd, qda, qlo, qhi, qva⟩⟩)) := by
  rw [UndoP.apply_ok _ _ (by simp) ⟨rfl, rfl⟩ hr (by simpa [UndoP.sum] using ho)]
  have hn0 : WideP.num (qva + un) = (qva + un) := by simp [WideP.num, hf]
  obtain ⟨sv, hsv⟩ : ∃ sv : Int, sv = (qva + un) := ⟨_, rfl⟩
  have HNUM : Hid (WideP.num (qva + un) = sv) := Lib.hid (by rw [hn0, hsv])
  have HFIT := Lib.hid hf
  have HSV : Hid (UndoP.sum ⟨2, qk, ⟨pst, pk, ⟨pkd, pda, plo, phi, pva⟩⟩, un⟩ ⟨1, qk, ⟨qkd, qda, qlo, qhi, qva⟩⟩ = sv) := Lib.hid (by rw [hsv]; simp [UndoP.sum])
  have HV : Hid (CellP.set ⟨qkd, qda, qlo, qhi, qva⟩ sv = (⟨2, [], qlo, qhi, sv⟩, 0)) := Lib.hid (by unfold CellP.set; rw [if_pos hr, hsv, if_neg ho])
  clear hsv hf hn0 hr ho
  have Hq := Lib.hid hq
  have hlq := hq.len
  have hcq := Nat.le_trans hq.2.1 hq.2.2.1
  have HS : Hid (∀ W, Calls Try.prog 77 #[.agg #[.int .i64 qkd, .slice Aq nq cq, .int .i64 qlo, .int .i64 qhi, .int .i64 qva], .int .i64 sv] W (CellW.GivesCell W (⟨2, [], qlo, qhi, sv⟩ : Cell) 0)) := Lib.hid (fun W => by have h := CellW.set_any Aq nq cq ⟨qkd, qda, qlo, qhi, qva⟩ sv W hlq hcq; rw [HV.out] at h; exact h)
  have HA : Hid (∀ W, Calls Try.prog 75 #[.int .i64 qva, .int .i64 un] W fun e w' => e = .returned (.tuple #[.int .i64 sv, .bool true]) ∧ Below W.heap.size W w') := Lib.hid (fun W => by have h := WideW.add_any qva un hqv.1 hqv.2 hun.1 hun.2 W; rw [HNUM.out, HFIT.out] at h; exact h)
  clear hp hq hlq hcq hun hqv hql hqh HV HNUM HFIT
  go_enter Try.func41, Try.ntmps41
  go_wp2_with fail
  generalize hW0 : (((w).alloc (.cells #[.int .i64 2, .string qk, .int .i64 pst, .string pk, .int .i64 pkd, .slice Ap np cp, .int .i64 plo, .int .i64 phi, .int .i64 pva, .int .i64 un] 62)).alloc (.cells #[.int .i64 1, .string qk, .int .i64 qkd, .slice Aq nq cq, .int .i64 qlo, .int .i64 qhi, .int .i64 qva] 54)).alloc (.cells #[.int .i64 0, .string ⟨#[]⟩, .int .i64 0, .slice none 0 0, .int .i64 0, .int .i64 0, .int .i64 0] 54) = W0
  have HS0_0 : Hid (Str W0 (w.heap.size) #[.int .i64 2, .string qk, .int .i64 pst, .string pk, .int .i64 pkd, .slice Ap np cp, .int .i64 plo, .int .i64 phi, .int .i64 pva, .int .i64 un]) := Lib.hid (by rw [← hW0]; have := ((Str.new (w) #[.int .i64 2, .string qk, .int .i64 pst, .string pk, .int .i64 pkd, .slice Ap np cp, .int .i64 plo, .int .i64 phi, .int .i64 pva, .int .i64 un] 62).alloc (.cells #[.int .i64 1, .string qk, .int .i64 qkd, .slice Aq nq cq, .int .i64 qlo, .int .i64 qhi, .int .i64 qva] 54)).alloc (.cells #[.int .i64 0, .string ⟨#[]⟩, .int .i64 0, .slice none 0 0, .int .i64 0, .int .i64 0, .int .i64 0] 54); simpa using this)
  have HS1_0 : Hid (Str W0 (w.heap.size + 1) #[.int .i64 1, .string qk, .int .i64 qkd, .slice Aq nq cq, .int .i64 qlo, .int .i64 qhi, .int .i64 qva]) := Lib.hid (by rw [← hW0]; have := (Str.new ((w).alloc (.cells #[.int .i64 2, .string qk, .int .i64 pst, .string pk, .int .i64 pkd, .slice Ap np cp, .int .i64 plo, .int .i64 phi, .int .i64 pva, .int .i64 un] 62)) #[.int .i64 1, .string qk, .int .i64 qkd, .slice Aq nq cq, .int .i64 qlo, .int .i64 qhi, .int .i64 qva] 54).alloc (.cells #[.int .i64 0, .string ⟨#[]⟩, .int .i64 0, .slice none 0 0, .int .i64 0, .int .i64 0, .int .i64 0] 54); simpa using this)
  have HS2_0 : Hid (Str W0 (w.heap.size + 1 + 1) #[.int .i64 0, .string ⟨#[]⟩, .int .i64 0, .slice none 0 0, .int .i64 0, .int .i64 0, .int .i64 0]) := Lib.hid (by rw [← hW0]; have := Str.new (((w).alloc (.cells #[.int .i64 2, .string qk, .int .i64 pst, .string pk, .int .i64 pkd, .slice Ap np cp, .int .i64 plo, .int .i64 phi, .int .i64 pva, .int .i64 un] 62)).alloc (.cells #[.int .i64 1, .string qk, .int .i64 qkd, .slice Aq nq cq, .int .i64 qlo, .int .i64 qhi, .int .i64 qva] 54)) #[.int .i64 0, .string ⟨#[]⟩, .int .i64 0, .slice none 0 0, .int .i64 0, .int .i64 0, .int .i64 0] 54; simpa using this)
  have HB_0 : Hid (Below w.heap.size w W0) := Lib.hid (by rw [← hW0]; exact balloc (balloc (balloc (bsame w) _) _) _)
  have hw_0 := HB_0.out.size
  clear hW0
  obtain ⟨f0_0_0, f0_0_1, f0_0_2, f0_0_3, f0_0_4, f0_0_5, f0_0_6, f0_0_7, f0_0_8, f0_0_9⟩ := str10 HS0_0.out
  have hl0_0 := HS0_0.out.lt
  obtain ⟨f1_0_0, f1_0_1, f1_0_2, f1_0_3, f1_0_4, f1_0_5, f1_0_6⟩ := str7 HS1_0.out
  have hl1_0 := HS1_0.out.lt
  have hf1_0 := fun j => HS1_0.out.frozen j
  obtain ⟨f2_0_0, f2_0_1, f2_0_2, f2_0_3, f2_0_4, f2_0_5, f2_0_6⟩ := str7 HS2_0.out
  have hl2_0 := HS2_0.out.lt
  have hf2_0 := fun j => HS2_0.out.frozen j
  refine (HA.out _).mono ?_
  rintro e W1 ⟨rfl, hb1⟩
  have HS0_1 := Lib.hid (HS0_0.out.next hb1)
  have HS1_1 := Lib.hid (HS1_0.out.next hb1)
  have HS2_1 := Lib.hid (HS2_0.out.next hb1)
  have HB_1 := Lib.hid (bstep HB_0.out hb1)
  have hw_1 := HB_1.out.size
  have hws_1 := (hb1).size
  clear f0_0_0 f0_0_1 f0_0_2 f0_0_3 f0_0_4 f0_0_5 f0_0_6 f0_0_7 f0_0_8 f0_0_9 HS0_0 f1_0_0 f1_0_1 f1_0_2 f1_0_3 f1_0_4 f1_0_5 f1_0_6 HS1_0 hf1_0 f2_0_0 f2_0_1 f2_0_2 f2_0_3 f2_0_4 f2_0_5 f2_0_6 HS2_0 hf2_0
  clear hb1
  obtain ⟨f0_1_0, f0_1_1, f0_1_2, f0_1_3, f0_1_4, f0_1_5, f0_1_6, f0_1_7, f0_1_8, f0_1_9⟩ := str10 HS0_1.out
  have hl0_1 := HS0_1.out.lt
  obtain ⟨f1_1_0, f1_1_1, f1_1_2, f1_1_3, f1_1_4, f1_1_5, f1_1_6⟩ := str7 HS1_1.out
  have hl1_1 := HS1_1.out.lt
  have hf1_1 := fun j => HS1_1.out.frozen j
  obtain ⟨f2_1_0, f2_1_1, f2_1_2, f2_1_3, f2_1_4, f2_1_5, f2_1_6⟩ := str7 HS2_1.out
  have hl2_1 := HS2_1.out.lt
  have hf2_1 := fun j => HS2_1.out.frozen j
  go_wp2_with fail
  refine (HS.out _).mono ?_
  rintro e W2 ⟨A1, n1, c1, rfl, hy1, hb2⟩
  have HS0_2 := Lib.hid (HS0_1.out.next hb2)
  have HS1_2 := Lib.hid (HS1_1.out.next hb2)
  have HS2_2 := Lib.hid (HS2_1.out.next hb2)
  have HB_2 := Lib.hid (bstep HB_1.out hb2)
  have hw_2 := HB_2.out.size
  have hws_2 := (hb2).size
  clear f0_1_0 f0_1_1 f0_1_2 f0_1_3 f0_1_4 f0_1_5 f0_1_6 f0_1_7 f0_1_8 f0_1_9 HS0_1 f1_1_0 f1_1_1 f1_1_2 f1_1_3 f1_1_4 f1_1_5 f1_1_6 HS1_1 hf1_1 f2_1_0 f2_1_1 f2_1_2 f2_1_3 f2_1_4 f2_1_5 f2_1_6 HS2_1 hf2_1
  clear hb2
  obtain ⟨f0_2_0, f0_2_1, f0_2_2, f0_2_3, f0_2_4, f0_2_5, f0_2_6, f0_2_7, f0_2_8, f0_2_9⟩ := str10 HS0_2.out
  have hl0_2 := HS0_2.out.lt
  obtain ⟨f1_2_0, f1_2_1, f1_2_2, f1_2_3, f1_2_4, f1_2_5, f1_2_6⟩ := str7 HS1_2.out
  have hl1_2 := HS1_2.out.lt
  have hf1_2 := fun j => HS1_2.out.frozen j
  obtain ⟨f2_2_0, f2_2_1, f2_2_2, f2_2_3, f2_2_4, f2_2_5, f2_2_6⟩ := str7 HS2_2.out
  have hl2_2 := HS2_2.out.lt
  have hf2_2 := fun j => HS2_2.out.frozen j
  have HYc_2 := Lib.hid (hy1)
  clear hy1
  have hnl := HYc_2.out.len
  simp only [List.length_nil] at hnl
  subst hnl
  go_wp2_with fail
  generalize hW3 : (((((W2).setCell ⟨w.heap.size + 1, 2, none⟩ (.int .i64 2)).setCell ⟨w.heap.size + 1, 3, none⟩ (.slice A1 0 c1)).setCell ⟨w.heap.size + 1, 4, none⟩ (.int .i64 qlo)).setCell ⟨w.heap.size + 1, 5, none⟩ (.int .i64 qhi)).setCell ⟨w.heap.size + 1, 6, none⟩ (.int .i64 sv) = W3
  have HS0_3 : Hid (Str W3 (w.heap.size) #[.int .i64 2, .string qk, .int .i64 pst, .string pk, .int .i64 pkd, .slice Ap np cp, .int .i64 plo, .int .i64 phi, .int .i64 pva, .int .i64 un]) := Lib.hid (by rw [← hW3]; exact (((((HS0_2.out).other 2 _ (by omega)).other 3 _ (by omega)).other 4 _ (by omega)).other 5 _ (by omega)).other 6 _ (by omega))
  have HS1_3 : Hid (Str W3 (w.heap.size + 1) #[.int .i64 1, .string qk, .int .i64 2, .slice A1 0 c1, .int .i64 qlo, .int .i64 qhi, .int .i64 sv]) := Lib.hid (by rw [← hW3]; have := (((((HS1_2.out).set 2 (.int .i64 2)).set 3 (.slice A1 0 c1)).set 4 (.int .i64 qlo)).set 5 (.int .i64 qhi)).set 6 (.int .i64 sv); simpa using this)
  have HS2_3 : Hid (Str W3 (w.heap.size + 1 + 1) #[.int .i64 0, .string ⟨#[]⟩, .int .i64 0, .slice none 0 0, .int .i64 0, .int .i64 0, .int .i64 0]) := Lib.hid (by rw [← hW3]; exact (((((HS2_2.out).other 2 _ (by omega)).other 3 _ (by omega)).other 4 _ (by omega)).other 5 _ (by omega)).other 6 _ (by omega))
  have hgr3 : W2.grownBy W3 (some (w.heap.size + 1)) := by rw [← hW3]; exact grown_set (grown_set (grown_set (grown_set (grown_set (grown_refl W2 (w.heap.size + 1)) 2 (.int .i64 2)) 3 (.slice A1 0 c1)) 4 (.int .i64 qlo)) 5 (.int .i64 qhi)) 6 (.int .i64 sv)
  have HB_3 := Lib.hid (below_grown HB_2.out hgr3 (by omega))
  have hw_3 := HB_3.out.size
  have hws_3 := hgr3.size
  have HYc_3 := Lib.hid ((Bytes.grown HYc_2.out (Nat.le_refl _) HS1_2.out rfl hgr3).more hws_3)
  clear HYc_2
  clear hW3
  clear f0_2_0 f0_2_1 f0_2_2 f0_2_3 f0_2_4 f0_2_5 f0_2_6 f0_2_7 f0_2_8 f0_2_9 HS0_2 f1_2_0 f1_2_1 f1_2_2 f1_2_3 f1_2_4 f1_2_5 f1_2_6 HS1_2 hf1_2 f2_2_0 f2_2_1 f2_2_2 f2_2_3 f2_2_4 f2_2_5 f2_2_6 HS2_2 hf2_2
  clear hgr3
  obtain ⟨f0_3_0, f0_3_1, f0_3_2, f0_3_3, f0_3_4, f0_3_5, f0_3_6, f0_3_7, f0_3_8, f0_3_9⟩ := str10 HS0_3.out
  have hl0_3 := HS0_3.out.lt
  obtain ⟨f1_3_0, f1_3_1, f1_3_2, f1_3_3, f1_3_4, f1_3_5, f1_3_6⟩ := str7 HS1_3.out
  have hl1_3 := HS1_3.out.lt
  have hf1_3 := fun j => HS1_3.out.frozen j
  obtain ⟨f2_3_0, f2_3_1, f2_3_2, f2_3_3, f2_3_4, f2_3_5, f2_3_6⟩ := str7 HS2_3.out
  have hl2_3 := HS2_3.out.lt
  have hf2_3 := fun j => HS2_3.out.frozen j
  generalize hW4 : W3.alloc (.cells #[.int .i64 2, .slice A1 0 c1, .int .i64 qlo, .int .i64 qhi, .int .i64 sv] 37) = W4
  have HS0_4 : Hid (Str W4 (w.heap.size) #[.int .i64 2, .string qk, .int .i64 pst, .string pk, .int .i64 pkd, .slice Ap np cp, .int .i64 plo, .int .i64 phi, .int .i64 pva, .int .i64 un]) := Lib.hid (by rw [← hW4]; exact HS0_3.out.alloc _)
  have HS1_4 : Hid (Str W4 (w.heap.size + 1) #[.int .i64 1, .string qk, .int .i64 2, .slice A1 0 c1, .int .i64 qlo, .int .i64 qhi, .int .i64 sv]) := Lib.hid (by rw [← hW4]; exact HS1_3.out.alloc _)
  have HS2_4 : Hid (Str W4 (w.heap.size + 1 + 1) #[.int .i64 0, .string ⟨#[]⟩, .int .i64 0, .slice none 0 0, .int .i64 0, .int .i64 0, .int .i64 0]) := Lib.hid (by rw [← hW4]; exact HS2_3.out.alloc _)
  have HS3_4 : Hid (Str W4 W3.heap.size #[.int .i64 2, .slice A1 0 c1, .int .i64 qlo, .int .i64 qhi, .int .i64 sv]) := Lib.hid (by rw [← hW4]; exact Str.new W3 #[.int .i64 2, .slice A1 0 c1, .int .i64 qlo, .int .i64 qhi, .int .i64 sv] 37)
  have hba4 : Below W3.heap.size W3 W4 := by rw [← hW4]; exact balloc (bsame _) _
  have HB_4 := Lib.hid (bstep HB_3.out hba4)
  have hw_4 := HB_4.out.size
  have hws_4 := hba4.size
  have HYc_4 := Lib.hid (HYc_3.out.next hba4)
  clear HYc_3
  clear hW4
  clear f0_3_0 f0_3_1 f0_3_2 f0_3_3 f0_3_4 f0_3_5 f0_3_6 f0_3_7 f0_3_8 f0_3_9 HS0_3 f1_3_0 f1_3_1 f1_3_2 f1_3_3 f1_3_4 f1_3_5 f1_3_6 HS1_3 hf1_3 f2_3_0 f2_3_1 f2_3_2 f2_3_3 f2_3_4 f2_3_5 f2_3_6 HS2_3 hf2_3
  obtain ⟨f0_4_0, f0_4_1, f0_4_2, f0_4_3, f0_4_4, f0_4_5, f0_4_6, f0_4_7, f0_4_8, f0_4_9⟩ := str10 HS0_4.out
  have hl0_4 := HS0_4.out.lt
  obtain ⟨f1_4_0, f1_4_1, f1_4_2, f1_4_3, f1_4_4, f1_4_5, f1_4_6⟩ := str7 HS1_4.out
  have hl1_4 := HS1_4.out.lt
  have hf1_4 := fun j => HS1_4.out.frozen j
  obtain ⟨f2_4_0, f2_4_1, f2_4_2, f2_4_3, f2_4_4, f2_4_5, f2_4_6⟩ := str7 HS2_4.out
  have hl2_4 := HS2_4.out.lt
  have hf2_4 := fun j => HS2_4.out.frozen j
  obtain ⟨f3_4_0, f3_4_1, f3_4_2, f3_4_3, f3_4_4⟩ := str5 HS3_4.out
  have hl3_4 := HS3_4.out.lt
  clear hba4
  refine (own_any _ _ _ W4.heap.size _ _ _ [] _ _ _ _ HYc_4.out (Nat.le_refl _) (by omega)).mono ?_
  rintro e W5 ⟨A5, n5, c5, rfl, hy5, hb5⟩
  have HS0_5 := Lib.hid (HS0_4.out.next hb5)
  have HS1_5 := Lib.hid (HS1_4.out.next hb5)
  have HS2_5 := Lib.hid (HS2_4.out.next hb5)
  have HS3_5 := Lib.hid (HS3_4.out.next hb5)
  have HB_5 := Lib.hid (bstep HB_4.out hb5)
  have hw_5 := HB_5.out.size
  have hws_5 := (hb5).size
  have HYc_5 := Lib.hid (HYc_4.out.next hb5)
  clear HYc_4
  clear f0_4_0 f0_4_1 f0_4_2 f0_4_3 f0_4_4 f0_4_5 f0_4_6 f0_4_7 f0_4_8 f0_4_9 HS0_4 f1_4_0 f1_4_1 f1_4_2 f1_4_3 f1_4_4 f1_4_5 f1_4_6 HS1_4 hf1_4 f2_4_0 f2_4_1 f2_4_2 f2_4_3 f2_4_4 f2_4_5 f2_4_6 HS2_4 hf2_4 f3_4_0 f3_4_1 f3_4_2 f3_4_3 f3_4_4 HS3_4
  clear hb5
  obtain ⟨f0_5_0, f0_5_1, f0_5_2, f0_5_3, f0_5_4, f0_5_5, f0_5_6, f0_5_7, f0_5_8, f0_5_9⟩ := str10 HS0_5.out
  have hl0_5 := HS0_5.out.lt
  obtain ⟨f1_5_0, f1_5_1, f1_5_2, f1_5_3, f1_5_4, f1_5_5, f1_5_6⟩ := str7 HS1_5.out
  have hl1_5 := HS1_5.out.lt
  have hf1_5 := fun j => HS1_5.out.frozen j
  obtain ⟨f2_5_0, f2_5_1, f2_5_2, f2_5_3, f2_5_4, f2_5_5, f2_5_6⟩ := str7 HS2_5.out
  have hl2_5 := HS2_5.out.lt
  have hf2_5 := fun j => HS2_5.out.frozen j
  obtain ⟨f3_5_0, f3_5_1, f3_5_2, f3_5_3, f3_5_4⟩ := str5 HS3_5.out
  have hl3_5 := HS3_5.out.lt
  have HYx_5 := Lib.hid (hy5)
  clear hy5
  go_wp2_with fail
  generalize hW6 : (((((((W5).setCell ⟨w.heap.size + 1 + 1, 0, none⟩ (.int .i64 1)).setCell ⟨w.heap.size + 1 + 1, 1, none⟩ (.string qk)).setCell ⟨w.heap.size + 1 + 1, 2, none⟩ (.int .i64 2)).setCell ⟨w.heap.size + 1 + 1, 3, none⟩ (.slice A5 n5 c5)).setCell ⟨w.heap.size + 1 + 1, 4, none⟩ (.int .i64 qlo)).setCell ⟨w.heap.size + 1 + 1, 5, none⟩ (.int .i64 qhi)).setCell ⟨w.heap.size + 1 + 1, 6, none⟩ (.int .i64 sv) = W6
  have HS0_6 : Hid (Str W6 (w.heap.size) #[.int .i64 2, .string qk, .int .i64 pst, .string pk, .int .i64 pkd, .slice Ap np cp, .int .i64 plo, .int .i64 phi, .int .i64 pva, .int .i64 un]) := Lib.hid (by rw [← hW6]; exact (((((((HS0_5.out).other 0 _ (by omega)).other 1 _ (by omega)).other 2 _ (by omega)).other 3 _ (by omega)).other 4 _ (by omega)).other 5 _ (by omega)).other 6 _ (by omega))
  have HS1_6 : Hid (Str W6 (w.heap.size + 1) #[.int .i64 1, .string qk, .int .i64 2, .slice A1 0 c1, .int .i64 qlo, .int .i64 qhi, .int .i64 sv]) := Lib.hid (by rw [← hW6]; exact (((((((HS1_5.out).other 0 _ (by omega)).other 1 _ (by omega)).other 2 _ (by omega)).other 3 _ (by omega)).other 4 _ (by omega)).other 5 _ (by omega)).other 6 _ (by omega))
  have HS2_6 : Hid (Str W6 (w.heap.size + 1 + 1) #[.int .i64 1, .string qk, .int .i64 2, .slice A5 n5 c5, .int .i64 qlo, .int .i64 qhi, .int .i64 sv]) := Lib.hid (by rw [← hW6]; have := (((((((HS2_5.out).set 0 (.int .i64 1)).set 1 (.string qk)).set 2 (.int .i64 2)).set 3 (.slice A5 n5 c5)).set 4 (.int .i64 qlo)).set 5 (.int .i64 qhi)).set 6 (.int .i64 sv); simpa using this)
  have HS3_6 : Hid (Str W6 (W3.heap.size) #[.int .i64 2, .slice A1 0 c1, .int .i64 qlo, .int .i64 qhi, .int .i64 sv]) := Lib.hid (by rw [← hW6]; exact (((((((HS3_5.out).other 0 _ (by omega)).other 1 _ (by omega)).other 2 _ (by omega)).other 3 _ (by omega)).other 4 _ (by omega)).other 5 _ (by omega)).other 6 _ (by omega))
  have hgr6 : W5.grownBy W6 (some (w.heap.size + 1 + 1)) := by rw [← hW6]; exact grown_set (grown_set (grown_set (grown_set (grown_set (grown_set (grown_set (grown_refl W5 (w.heap.size + 1 + 1)) 0 (.int .i64 1)) 1 (.string qk)) 2 (.int .i64 2)) 3 (.slice A5 n5 c5)) 4 (.int .i64 qlo)) 5 (.int .i64 qhi)) 6 (.int .i64 sv)
  have HB_6 := Lib.hid (below_grown HB_5.out hgr6 (by omega))
  have hw_6 := HB_6.out.size
  have hws_6 := hgr6.size
  have HYc_6 := Lib.hid ((Bytes.grown HYc_5.out (Nat.le_refl _) HS2_5.out rfl hgr6).more hws_6)
  have HYx_6 := Lib.hid ((Bytes.grown HYx_5.out (Nat.le_refl _) HS2_5.out rfl hgr6).more hws_6)
  clear HYc_5 HYx_5
  clear hW6
  clear f0_5_0 f0_5_1 f0_5_2 f0_5_3 f0_5_4 f0_5_5 f0_5_6 f0_5_7 f0_5_8 f0_5_9 HS0_5 f1_5_0 f1_5_1 f1_5_2 f1_5_3 f1_5_4 f1_5_5 f1_5_6 HS1_5 hf1_5 f2_5_0 f2_5_1 f2_5_2 f2_5_3 f2_5_4 f2_5_5 f2_5_6 HS2_5 hf2_5 f3_5_0 f3_5_1 f3_5_2 f3_5_3 f3_5_4 HS3_5
  clear hgr6
  obtain ⟨f0_6_0, f0_6_1, f0_6_2, f0_6_3, f0_6_4, f0_6_5, f0_6_6, f0_6_7, f0_6_8, f0_6_9⟩ := str10 HS0_6.out
  have hl0_6 := HS0_6.out.lt
  obtain ⟨f1_6_0, f1_6_1, f1_6_2, f1_6_3, f1_6_4, f1_6_5, f1_6_6⟩ := str7 HS1_6.out
  have hl1_6 := HS1_6.out.lt
  have hf1_6 := fun j => HS1_6.out.frozen j
  obtain ⟨f2_6_0, f2_6_1, f2_6_2, f2_6_3, f2_6_4, f2_6_5, f2_6_6⟩ := str7 HS2_6.out
  have hl2_6 := HS2_6.out.lt
  have hf2_6 := fun j => HS2_6.out.frozen j
  obtain ⟨f3_6_0, f3_6_1, f3_6_2, f3_6_3, f3_6_4⟩ := str5 HS3_6.out
  have hl3_6 := HS3_6.out.lt
  exact bodyPost_ret (v := .tuple #[.agg #[.int .i64 1, .string qk, .int .i64 2, .slice A5 n5 c5, .int .i64 qlo, .int .i64 qhi, .int .i64 sv], .int .i64 0]) (by simp [results, Try.results41, go_sem, *]) rfl ⟨A5, n5, c5, by rw [HSV.out], HYx_6.out, HB_6.out⟩

set_option maxRecDepth 100000 in
set_option maxHeartbeats 1000000 in
theorem apply3_st (uk : ByteArray) (un : Int) (Ap : Option Addr) (np cp Bp : Nat) (pst : Int) (pk : ByteArray) (pkd : Int) (pda : List UInt8) (plo phi pva : Int) (Aq : Option Addr) (nq cq Bq : Nat) (qst : Int) (qk : ByteArray) (qkd : Int) (qda : List UInt8) (qlo qhi qva : Int) (w : World) (hp : Bytes w Bp Ap np cp pda) (hBp : Bp ≤ w.heap.size) (hnp : np ≤ 140737488355328) (hq : Bytes w Bq Aq nq cq qda) (hBq : Bq ≤ w.heap.size) (hnq : nq ≤ 140737488355328) (hun : In64 un) (hqv : In64 qva) (hql : In64 qlo) (hqh : In64 qhi) (hs : ¬ qst = 1) : Calls Try.prog 41 #[.agg #[.int .i64 3, .string uk, .int .i64 pst, .string pk, .int .i64 pkd, .slice Ap np cp, .int .i64 plo, .int .i64 phi, .int .i64 pva, .int .i64 un], .agg #[.int .i64 qst, .string qk, .int .i64 qkd, .slice Aq nq cq, .int .i64 qlo, .int .i64 qhi, .int .i64 qva]] w (SlotGet.GotItem w (UndoP.apply ⟨3, uk, ⟨pst, pk, ⟨pkd, pda, plo, phi, pva⟩⟩, un⟩ ⟨qst, qk, ⟨qkd, qda, qlo, qhi, qva⟩⟩)) := by
  rw [UndoP.apply_none _ _ (by simp) (fun h => hs h.1)]
  clear hp hq hun hqv hql hqh
  go_enter Try.func41, Try.ntmps41
  go_wp2_with fail
  exact bodyPost_ret (v := .tuple #[.agg #[.int .i64 0, .string ⟨#[]⟩, .int .i64 0, .slice none 0 0, .int .i64 0, .int .i64 0, .int .i64 0], .int .i64 5]) (by simp [results, Try.results41, go_sem, *]) rfl ⟨none, 0, 0, rfl, Bytes.none_ _ _, balloc (balloc (balloc (bsame w) _) _) _⟩

set_option maxRecDepth 100000 in
set_option maxHeartbeats 1000000 in
theorem apply3_key (uk : ByteArray) (un : Int) (Ap : Option Addr) (np cp Bp : Nat) (pst : Int) (pk : ByteArray) (pkd : Int) (pda : List UInt8) (plo phi pva : Int) (Aq : Option Addr) (nq cq Bq : Nat) (qk : ByteArray) (qkd : Int) (qda : List UInt8) (qlo qhi qva : Int) (w : World) (hp : Bytes w Bp Ap np cp pda) (hBp : Bp ≤ w.heap.size) (hnp : np ≤ 140737488355328) (hq : Bytes w Bq Aq nq cq qda) (hBq : Bq ≤ w.heap.size) (hnq : nq ≤ 140737488355328) (hun : In64 un) (hqv : In64 qva) (hql : In64 qlo) (hqh : In64 qhi) (hk : ¬ qk = uk) : Calls Try.prog 41 #[.agg #[.int .i64 3, .string uk, .int .i64 pst, .string pk, .int .i64 pkd, .slice Ap np cp, .int .i64 plo, .int .i64 phi, .int .i64 pva, .int .i64 un], .agg #[.int .i64 1, .string qk, .int .i64 qkd, .slice Aq nq cq, .int .i64 qlo, .int .i64 qhi, .int .i64 qva]] w (SlotGet.GotItem w (UndoP.apply ⟨3, uk, ⟨pst, pk, ⟨pkd, pda, plo, phi, pva⟩⟩, un⟩ ⟨1, qk, ⟨qkd, qda, qlo, qhi, qva⟩⟩)) := by
  rw [UndoP.apply_none _ _ (by simp) (fun h => hk h.2)]
  clear hp hq hun hqv hql hqh
  replace hk := key_ne hk
  go_enter Try.func41, Try.ntmps41
  go_wp2_with fail
  exact bodyPost_ret (v := .tuple #[.agg #[.int .i64 0, .string ⟨#[]⟩, .int .i64 0, .slice none 0 0, .int .i64 0, .int .i64 0, .int .i64 0], .int .i64 5]) (by simp [results, Try.results41, go_sem, *]) rfl ⟨none, 0, 0, rfl, Bytes.none_ _ _, balloc (balloc (balloc (bsame w) _) _) _⟩

set_option maxRecDepth 100000 in
set_option maxHeartbeats 1000000 in
theorem apply3_kind_true (un : Int) (Ap : Option Addr) (np cp Bp : Nat) (pst : Int) (pk : ByteArray) (pkd : Int) (pda : List UInt8) (plo phi pva : Int) (Aq : Option Addr) (nq cq Bq : Nat) (qk : ByteArray) (qkd : Int) (qda : List UInt8) (qlo qhi qva : Int) (w : World) (hp : Bytes w Bp Ap np cp pda) (hBp : Bp ≤ w.heap.size) (hnp : np ≤ 140737488355328) (hq : Bytes w Bq Aq nq cq qda) (hBq : Bq ≤ w.heap.size) (hnq : nq ≤ 140737488355328) (hun : In64 un) (hqv : In64 qva) (hql : In64 qlo) (hqh : In64 qhi) (hr : ¬ (qkd = 2 ∧ CellP.right ⟨qkd, qda, qlo, qhi, qva⟩ = true)) (hf : WideP.fits (qva - un) = true) : Calls Try.prog 41 #[.agg #[.int .i64 3, .string qk, .int .i64 pst, .string pk, .int .i64 pkd, .slice Ap np cp, .int .i64 plo, .int .i64 phi, .int .i64 pva, .int .i64 un], .agg #[.int .i64 1, .string qk, .int .i64 qkd, .slice Aq nq cq, .int .i64 qlo, .int .i64 qhi, .int .i64 qva]] w (SlotGet.GotItem w (UndoP.apply ⟨3, qk, ⟨pst, pk, ⟨pkd, pda, plo, phi, pva⟩⟩, un⟩ ⟨1, qk, ⟨qkd, qda, qlo, qhi, qva⟩⟩)) := by
  rw [UndoP.apply_kind _ _ (by simp) ⟨rfl, rfl⟩ hr]
  obtain ⟨sv, hsv⟩ : ∃ sv, WideP.num (qva - un) = sv := ⟨_, rfl⟩
  have HNUM := Lib.hid hsv
  have HFIT := Lib.hid hf
  clear hsv hf
  have HV : Hid (CellP.set ⟨qkd, qda, qlo, qhi, qva⟩ sv = ((⟨0, [], 0, 0, 0⟩ : Cell), 6)) := Lib.hid (by unfold CellP.set; rw [if_neg hr]; rfl)
  clear hr
  have Hq := Lib.hid hq
  have hlq := hq.len
  have hcq := Nat.le_trans hq.2.1 hq.2.2.1
  have HS : Hid (∀ W, Calls Try.prog 77 #[.agg #[.int .i64 qkd, .slice Aq nq cq, .int .i64 qlo, .int .i64 qhi, .int .i64 qva], .int .i64 sv] W (CellW.GivesCell W (⟨0, [], 0, 0, 0⟩ : Cell) 6)) := Lib.hid (fun W => by have h := CellW.set_any Aq nq cq ⟨qkd, qda, qlo, qhi, qva⟩ sv W hlq hcq; rw [HV.out] at h; exact h)
  have HA : Hid (∀ W, Calls Try.prog 76 #[.int .i64 qva, .int .i64 un] W fun e w' => e = .returned (.tuple #[.int .i64 sv, .bool true]) ∧ Below W.heap.size W w') := Lib.hid (fun W => by have h := WideW.sub_any qva un hqv.1 hqv.2 hun.1 hun.2 W; rw [HNUM.out, HFIT.out] at h; exact h)
  clear hp hq hlq hcq hun hqv hql hqh HV HNUM HFIT
  go_enter Try.func41, Try.ntmps41
  go_wp2_with fail
  generalize hW0 : (((w).alloc (.cells #[.int .i64 3, .string qk, .int .i64 pst, .string pk, .int .i64 pkd, .slice Ap np cp, .int .i64 plo, .int .i64 phi, .int .i64 pva, .int .i64 un] 62)).alloc (.cells #[.int .i64 1, .string qk, .int .i64 qkd, .slice Aq nq cq, .int .i64 qlo, .int .i64 qhi, .int .i64 qva] 54)).alloc (.cells #[.int .i64 0, .string ⟨#[]⟩, .int .i64 0, .slice none 0 0, .int .i64 0, .int .i64 0, .int .i64 0] 54) = W0
  have HS0_0 : Hid (Str W0 (w.heap.size) #[.int .i64 3, .string qk, .int .i64 pst, .string pk, .int .i64 pkd, .slice Ap np cp, .int .i64 plo, .int .i64 phi, .int .i64 pva, .int .i64 un]) := Lib.hid (by rw [← hW0]; have := ((Str.new (w) #[.int .i64 3, .string qk, .int .i64 pst, .string pk, .int .i64 pkd, .slice Ap np cp, .int .i64 plo, .int .i64 phi, .int .i64 pva, .int .i64 un] 62).alloc (.cells #[.int .i64 1, .string qk, .int .i64 qkd, .slice Aq nq cq, .int .i64 qlo, .int .i64 qhi, .int .i64 qva] 54)).alloc (.cells #[.int .i64 0, .string ⟨#[]⟩, .int .i64 0, .slice none 0 0, .int .i64 0, .int .i64 0, .int .i64 0] 54); simpa using this)
  have HS1_0 : Hid (Str W0 (w.heap.size + 1) #[.int .i64 1, .string qk, .int .i64 qkd, .slice Aq nq cq, .int .i64 qlo, .int .i64 qhi, .int .i64 qva]) := Lib.hid (by rw [← hW0]; have := (Str.new ((w).alloc (.cells #[.int .i64 3, .string qk, .int .i64 pst, .string pk, .int .i64 pkd, .slice Ap np cp, .int .i64 plo, .int .i64 phi, .int .i64 pva, .int .i64 un] 62)) #[.int .i64 1, .string qk, .int .i64 qkd, .slice Aq nq cq, .int .i64 qlo, .int .i64 qhi, .int .i64 qva] 54).alloc (.cells #[.int .i64 0, .string ⟨#[]⟩, .int .i64 0, .slice none 0 0, .int .i64 0, .int .i64 0, .int .i64 0] 54); simpa using this)
  have HS2_0 : Hid (Str W0 (w.heap.size + 1 + 1) #[.int .i64 0, .string ⟨#[]⟩, .int .i64 0, .slice none 0 0, .int .i64 0, .int .i64 0, .int .i64 0]) := Lib.hid (by rw [← hW0]; have := Str.new (((w).alloc (.cells #[.int .i64 3, .string qk, .int .i64 pst, .string pk, .int .i64 pkd, .slice Ap np cp, .int .i64 plo, .int .i64 phi, .int .i64 pva, .int .i64 un] 62)).alloc (.cells #[.int .i64 1, .string qk, .int .i64 qkd, .slice Aq nq cq, .int .i64 qlo, .int .i64 qhi, .int .i64 qva] 54)) #[.int .i64 0, .string ⟨#[]⟩, .int .i64 0, .slice none 0 0, .int .i64 0, .int .i64 0, .int .i64 0] 54; simpa using this)
  have HB_0 : Hid (Below w.heap.size w W0) := Lib.hid (by rw [← hW0]; exact balloc (balloc (balloc (bsame w) _) _) _)
  have hw_0 := HB_0.out.size
  clear hW0
  obtain ⟨f0_0_0, f0_0_1, f0_0_2, f0_0_3, f0_0_4, f0_0_5, f0_0_6, f0_0_7, f0_0_8, f0_0_9⟩ := str10 HS0_0.out
  have hl0_0 := HS0_0.out.lt
  obtain ⟨f1_0_0, f1_0_1, f1_0_2, f1_0_3, f1_0_4, f1_0_5, f1_0_6⟩ := str7 HS1_0.out
  have hl1_0 := HS1_0.out.lt
  have hf1_0 := fun j => HS1_0.out.frozen j
  obtain ⟨f2_0_0, f2_0_1, f2_0_2, f2_0_3, f2_0_4, f2_0_5, f2_0_6⟩ := str7 HS2_0.out
  have hl2_0 := HS2_0.out.lt
  have hf2_0 := fun j => HS2_0.out.frozen j
  refine (HA.out _).mono ?_
  rintro e W1 ⟨rfl, hb1⟩
  have HS0_1 := Lib.hid (HS0_0.out.next hb1)
  have HS1_1 := Lib.hid (HS1_0.out.next hb1)
  have HS2_1 := Lib.hid (HS2_0.out.next hb1)
  have HB_1 := Lib.hid (bstep HB_0.out hb1)
  have hw_1 := HB_1.out.size
  have hws_1 := (hb1).size
  clear f0_0_0 f0_0_1 f0_0_2 f0_0_3 f0_0_4 f0_0_5 f0_0_6 f0_0_7 f0_0_8 f0_0_9 HS0_0 f1_0_0 f1_0_1 f1_0_2 f1_0_3 f1_0_4 f1_0_5 f1_0_6 HS1_0 hf1_0 f2_0_0 f2_0_1 f2_0_2 f2_0_3 f2_0_4 f2_0_5 f2_0_6 HS2_0 hf2_0
  clear hb1
  obtain ⟨f0_1_0, f0_1_1, f0_1_2, f0_1_3, f0_1_4, f0_1_5, f0_1_6, f0_1_7, f0_1_8, f0_1_9⟩ := str10 HS0_1.out
  have hl0_1 := HS0_1.out.lt
  obtain ⟨f1_1_0, f1_1_1, f1_1_2, f1_1_3, f1_1_4, f1_1_5, f1_1_6⟩ := str7 HS1_1.out
  have hl1_1 := HS1_1.out.lt
  have hf1_1 := fun j => HS1_1.out.frozen j
  obtain ⟨f2_1_0, f2_1_1, f2_1_2, f2_1_3, f2_1_4, f2_1_5, f2_1_6⟩ := str7 HS2_1.out
  have hl2_1 := HS2_1.out.lt
  have hf2_1 := fun j => HS2_1.out.frozen j
  go_wp2_with fail
  refine (HS.out _).mono ?_
  rintro e W2 ⟨A1, n1, c1, rfl, hy1, hb2⟩
  have HS0_2 := Lib.hid (HS0_1.out.next hb2)
  have HS1_2 := Lib.hid (HS1_1.out.next hb2)
  have HS2_2 := Lib.hid (HS2_1.out.next hb2)
  have HB_2 := Lib.hid (bstep HB_1.out hb2)
  have hw_2 := HB_2.out.size
  have hws_2 := (hb2).size
  clear f0_1_0 f0_1_1 f0_1_2 f0_1_3 f0_1_4 f0_1_5 f0_1_6 f0_1_7 f0_1_8 f0_1_9 HS0_1 f1_1_0 f1_1_1 f1_1_2 f1_1_3 f1_1_4 f1_1_5 f1_1_6 HS1_1 hf1_1 f2_1_0 f2_1_1 f2_1_2 f2_1_3 f2_1_4 f2_1_5 f2_1_6 HS2_1 hf2_1
  clear hb2
  obtain ⟨f0_2_0, f0_2_1, f0_2_2, f0_2_3, f0_2_4, f0_2_5, f0_2_6, f0_2_7, f0_2_8, f0_2_9⟩ := str10 HS0_2.out
  have hl0_2 := HS0_2.out.lt
  obtain ⟨f1_2_0, f1_2_1, f1_2_2, f1_2_3, f1_2_4, f1_2_5, f1_2_6⟩ := str7 HS1_2.out
  have hl1_2 := HS1_2.out.lt
  have hf1_2 := fun j => HS1_2.out.frozen j
  obtain ⟨f2_2_0, f2_2_1, f2_2_2, f2_2_3, f2_2_4, f2_2_5, f2_2_6⟩ := str7 HS2_2.out
  have hl2_2 := HS2_2.out.lt
  have hf2_2 := fun j => HS2_2.out.frozen j
  have HYc_2 := Lib.hid (hy1)
  clear hy1
  have hnl := HYc_2.out.len
  simp only [List.length_nil] at hnl
  subst hnl
  go_wp2_with fail
  generalize hW3 : (((((((W2).setCell ⟨w.heap.size + 1 + 1, 0, none⟩ (.int .i64 0)).setCell ⟨w.heap.size + 1 + 1, 1, none⟩ (.string ⟨#[]⟩)).setCell ⟨w.heap.size + 1 + 1, 2, none⟩ (.int .i64 0)).setCell ⟨w.heap.size + 1 + 1, 3, none⟩ (.slice none 0 0)).setCell ⟨w.heap.size + 1 + 1, 4, none⟩ (.int .i64 0)).setCell ⟨w.heap.size + 1 + 1, 5, none⟩ (.int .i64 0)).setCell ⟨w.heap.size + 1 + 1, 6, none⟩ (.int .i64 0) = W3
  have HS0_3 : Hid (Str W3 (w.heap.size) #[.int .i64 3, .string qk, .int .i64 pst, .string pk, .int .i64 pkd, .slice Ap np cp, .int .i64 plo, .int .i64 phi, .int .i64 pva, .int .i64 un]) := Lib.hid (by rw [← hW3]; exact (((((((HS0_2.out).other 0 _ (by omega)).other 1 _ (by omega)).other 2 _ (by omega)).other 3 _ (by omega)).other 4 _ (by omega)).other 5 _ (by omega)).other 6 _ (by omega))
  have HS1_3 : Hid (Str W3 (w.heap.size + 1) #[.int .i64 1, .string qk, .int .i64 qkd, .slice Aq nq cq, .int .i64 qlo, .int .i64 qhi, .int .i64 qva]) := Lib.hid (by rw [← hW3]; exact (((((((HS1_2.out).other 0 _ (by omega)).other 1 _ (by omega)).other 2 _ (by omega)).other 3 _ (by omega)).other 4 _ (by omega)).other 5 _ (by omega)).other 6 _ (by omega))
  have HS2_3 : Hid (Str W3 (w.heap.size + 1 + 1) #[.int .i64 0, .string ⟨#[]⟩, .int .i64 0, .slice none 0 0, .int .i64 0, .int .i64 0, .int .i64 0]) := Lib.hid (by rw [← hW3]; have := (((((((HS2_2.out).set 0 (.int .i64 0)).set 1 (.string ⟨#[]⟩)).set 2 (.int .i64 0)).set 3 (.slice none 0 0)).set 4 (.int .i64 0)).set 5 (.int .i64 0)).set 6 (.int .i64 0); simpa using this)
  have hgr3 : W2.grownBy W3 (some (w.heap.size + 1 + 1)) := by rw [← hW3]; exact grown_set (grown_set (grown_set (grown_set (grown_set (grown_set (grown_set (grown_refl W2 (w.heap.size + 1 + 1)) 0 (.int .i64 0)) 1 (.string ⟨#[]⟩)) 2 (.int .i64 0)) 3 (.slice none 0 0)) 4 (.int .i64 0)) 5 (.int .i64 0)) 6 (.int .i64 0)
  have HB_3 := Lib.hid (below_grown HB_2.out hgr3 (by omega))
  have hw_3 := HB_3.out.size
  have hws_3 := hgr3.size
  have HYc_3 := Lib.hid ((Bytes.grown HYc_2.out (Nat.le_refl _) HS2_2.out rfl hgr3).more hws_3)
  clear HYc_2
  clear hW3
  clear f0_2_0 f0_2_1 f0_2_2 f0_2_3 f0_2_4 f0_2_5 f0_2_6 f0_2_7 f0_2_8 f0_2_9 HS0_2 f1_2_0 f1_2_1 f1_2_2 f1_2_3 f1_2_4 f1_2_5 f1_2_6 HS1_2 hf1_2 f2_2_0 f2_2_1 f2_2_2 f2_2_3 f2_2_4 f2_2_5 f2_2_6 HS2_2 hf2_2
  clear hgr3
  obtain ⟨f0_3_0, f0_3_1, f0_3_2, f0_3_3, f0_3_4, f0_3_5, f0_3_6, f0_3_7, f0_3_8, f0_3_9⟩ := str10 HS0_3.out
  have hl0_3 := HS0_3.out.lt
  obtain ⟨f1_3_0, f1_3_1, f1_3_2, f1_3_3, f1_3_4, f1_3_5, f1_3_6⟩ := str7 HS1_3.out
  have hl1_3 := HS1_3.out.lt
  have hf1_3 := fun j => HS1_3.out.frozen j
  obtain ⟨f2_3_0, f2_3_1, f2_3_2, f2_3_3, f2_3_4, f2_3_5, f2_3_6⟩ := str7 HS2_3.out
  have hl2_3 := HS2_3.out.lt
  have hf2_3 := fun j => HS2_3.out.frozen j
  generalize hW4 : W3.alloc (.cells #[.int .i64 0, .slice A1 0 c1, .int .i64 0, .int .i64 0, .int .i64 0] 37) = W4
  have HS0_4 : Hid (Str W4 (w.heap.size) #[.int .i64 3, .string qk, .int .i64 pst, .string pk, .int .i64 pkd, .slice Ap np cp, .int .i64 plo, .int .i64 phi, .int .i64 pva, .int .i64 un]) := Lib.hid (by rw [← hW4]; exact HS0_3.out.alloc _)
  have HS1_4 : Hid (Str W4 (w.heap.size + 1) #[.int .i64 1, .string qk, .int .i64 qkd, .slice Aq nq cq, .int .i64 qlo, .int .i64 qhi, .int .i64 qva]) := Lib.hid (by rw [← hW4]; exact HS1_3.out.alloc _)
  have HS2_4 : Hid (Str W4 (w.heap.size + 1 + 1) #[.int .i64 0, .string ⟨#[]⟩, .int .i64 0, .slice none 0 0, .int .i64 0, .int .i64 0, .int .i64 0]) := Lib.hid (by rw [← hW4]; exact HS2_3.out.alloc _)
  have HS3_4 : Hid (Str W4 W3.heap.size #[.int .i64 0, .slice A1 0 c1, .int .i64 0, .int .i64 0, .int .i64 0]) := Lib.hid (by rw [← hW4]; exact Str.new W3 #[.int .i64 0, .slice A1 0 c1, .int .i64 0, .int .i64 0, .int .i64 0] 37)
  have hba4 : Below W3.heap.size W3 W4 := by rw [← hW4]; exact balloc (bsame _) _
  have HB_4 := Lib.hid (bstep HB_3.out hba4)
  have hw_4 := HB_4.out.size
  have hws_4 := hba4.size
  have HYc_4 := Lib.hid (HYc_3.out.next hba4)
  clear HYc_3
  clear hW4
  clear f0_3_0 f0_3_1 f0_3_2 f0_3_3 f0_3_4 f0_3_5 f0_3_6 f0_3_7 f0_3_8 f0_3_9 HS0_3 f1_3_0 f1_3_1 f1_3_2 f1_3_3 f1_3_4 f1_3_5 f1_3_6 HS1_3 hf1_3 f2_3_0 f2_3_1 f2_3_2 f2_3_3 f2_3_4 f2_3_5 f2_3_6 HS2_3 hf2_3
  obtain ⟨f0_4_0, f0_4_1, f0_4_2, f0_4_3, f0_4_4, f0_4_5, f0_4_6, f0_4_7, f0_4_8, f0_4_9⟩ := str10 HS0_4.out
  have hl0_4 := HS0_4.out.lt
  obtain ⟨f1_4_0, f1_4_1, f1_4_2, f1_4_3, f1_4_4, f1_4_5, f1_4_6⟩ := str7 HS1_4.out
  have hl1_4 := HS1_4.out.lt
  have hf1_4 := fun j => HS1_4.out.frozen j
  obtain ⟨f2_4_0, f2_4_1, f2_4_2, f2_4_3, f2_4_4, f2_4_5, f2_4_6⟩ := str7 HS2_4.out
  have hl2_4 := HS2_4.out.lt
  have hf2_4 := fun j => HS2_4.out.frozen j
  obtain ⟨f3_4_0, f3_4_1, f3_4_2, f3_4_3, f3_4_4⟩ := str5 HS3_4.out
  have hl3_4 := HS3_4.out.lt
  clear hba4
  exact bodyPost_ret (v := .tuple #[.agg #[.int .i64 0, .string ⟨#[]⟩, .int .i64 0, .slice none 0 0, .int .i64 0, .int .i64 0, .int .i64 0], .int .i64 6]) (by simp [results, Try.results41, go_sem, *]) rfl ⟨none, 0, 0, rfl, Bytes.none_ _ _, HB_4.out⟩

set_option maxRecDepth 100000 in
set_option maxHeartbeats 1000000 in
theorem apply3_kind_false (un : Int) (Ap : Option Addr) (np cp Bp : Nat) (pst : Int) (pk : ByteArray) (pkd : Int) (pda : List UInt8) (plo phi pva : Int) (Aq : Option Addr) (nq cq Bq : Nat) (qk : ByteArray) (qkd : Int) (qda : List UInt8) (qlo qhi qva : Int) (w : World) (hp : Bytes w Bp Ap np cp pda) (hBp : Bp ≤ w.heap.size) (hnp : np ≤ 140737488355328) (hq : Bytes w Bq Aq nq cq qda) (hBq : Bq ≤ w.heap.size) (hnq : nq ≤ 140737488355328) (hun : In64 un) (hqv : In64 qva) (hql : In64 qlo) (hqh : In64 qhi) (hr : ¬ (qkd = 2 ∧ CellP.right ⟨qkd, qda, qlo, qhi, qva⟩ = true)) (hf : WideP.fits (qva - un) = false) : Calls Try.prog 41 #[.agg #[.int .i64 3, .string qk, .int .i64 pst, .string pk, .int .i64 pkd, .slice Ap np cp, .int .i64 plo, .int .i64 phi, .int .i64 pva, .int .i64 un], .agg #[.int .i64 1, .string qk, .int .i64 qkd, .slice Aq nq cq, .int .i64 qlo, .int .i64 qhi, .int .i64 qva]] w (SlotGet.GotItem w (UndoP.apply ⟨3, qk, ⟨pst, pk, ⟨pkd, pda, plo, phi, pva⟩⟩, un⟩ ⟨1, qk, ⟨qkd, qda, qlo, qhi, qva⟩⟩)) := by
  rw [UndoP.apply_kind _ _ (by simp) ⟨rfl, rfl⟩ hr]
  obtain ⟨sv, hsv⟩ : ∃ sv, WideP.num (qva - un) = sv := ⟨_, rfl⟩
  have HNUM := Lib.hid hsv
  have HFIT := Lib.hid hf
  clear hsv hf
  have HV : Hid (CellP.set ⟨qkd, qda, qlo, qhi, qva⟩ sv = ((⟨0, [], 0, 0, 0⟩ : Cell), 6)) := Lib.hid (by unfold CellP.set; rw [if_neg hr]; rfl)
  clear hr
  have Hq := Lib.hid hq
  have hlq := hq.len
  have hcq := Nat.le_trans hq.2.1 hq.2.2.1
  have HS : Hid (∀ W, Calls Try.prog 77 #[.agg #[.int .i64 qkd, .slice Aq nq cq, .int .i64 qlo, .int .i64 qhi, .int .i64 qva], .int .i64 sv] W (CellW.GivesCell W (⟨0, [], 0, 0, 0⟩ : Cell) 6)) := Lib.hid (fun W => by have h := CellW.set_any Aq nq cq ⟨qkd, qda, qlo, qhi, qva⟩ sv W hlq hcq; rw [HV.out] at h; exact h)
  have HA : Hid (∀ W, Calls Try.prog 76 #[.int .i64 qva, .int .i64 un] W fun e w' => e = .returned (.tuple #[.int .i64 sv, .bool false]) ∧ Below W.heap.size W w') := Lib.hid (fun W => by have h := WideW.sub_any qva un hqv.1 hqv.2 hun.1 hun.2 W; rw [HNUM.out, HFIT.out] at h; exact h)
  clear hp hq hlq hcq hun hqv hql hqh HV HNUM HFIT
  go_enter Try.func41, Try.ntmps41
  go_wp2_with fail
  generalize hW0 : (((w).alloc (.cells #[.int .i64 3, .string qk, .int .i64 pst, .string pk, .int .i64 pkd, .slice Ap np cp, .int .i64 plo, .int .i64 phi, .int .i64 pva, .int .i64 un] 62)).alloc (.cells #[.int .i64 1, .string qk, .int .i64 qkd, .slice Aq nq cq, .int .i64 qlo, .int .i64 qhi, .int .i64 qva] 54)).alloc (.cells #[.int .i64 0, .string ⟨#[]⟩, .int .i64 0, .slice none 0 0, .int .i64 0, .int .i64 0, .int .i64 0] 54) = W0
  have HS0_0 : Hid (Str W0 (w.heap.size) #[.int .i64 3, .string qk, .int .i64 pst, .string pk, .int .i64 pkd, .slice Ap np cp, .int .i64 plo, .int .i64 phi, .int .i64 pva, .int .i64 un]) := Lib.hid (by rw [← hW0]; have := ((Str.new (w) #[.int .i64 3, .string qk, .int .i64 pst, .string pk, .int .i64 pkd, .slice Ap np cp, .int .i64 plo, .int .i64 phi, .int .i64 pva, .int .i64 un] 62).alloc (.cells #[.int .i64 1, .string qk, .int .i64 qkd, .slice Aq nq cq, .int .i64 qlo, .int .i64 qhi, .int .i64 qva] 54)).alloc (.cells #[.int .i64 0, .string ⟨#[]⟩, .int .i64 0, .slice none 0 0, .int .i64 0, .int .i64 0, .int .i64 0] 54); simpa using this)
  have HS1_0 : Hid (Str W0 (w.heap.size + 1) #[.int .i64 1, .string qk, .int .i64 qkd, .slice Aq nq cq, .int .i64 qlo, .int .i64 qhi, .int .i64 qva]) := Lib.hid (by rw [← hW0]; have := (Str.new ((w).alloc (.cells #[.int .i64 3, .string qk, .int .i64 pst, .string pk, .int .i64 pkd, .slice Ap np cp, .int .i64 plo, .int .i64 phi, .int .i64 pva, .int .i64 un] 62)) #[.int .i64 1, .string qk, .int .i64 qkd, .slice Aq nq cq, .int .i64 qlo, .int .i64 qhi, .int .i64 qva] 54).alloc (.cells #[.int .i64 0, .string ⟨#[]⟩, .int .i64 0, .slice none 0 0, .int .i64 0, .int .i64 0, .int .i64 0] 54); simpa using this)
  have HS2_0 : Hid (Str W0 (w.heap.size + 1 + 1) #[.int .i64 0, .string ⟨#[]⟩, .int .i64 0, .slice none 0 0, .int .i64 0, .int .i64 0, .int .i64 0]) := Lib.hid (by rw [← hW0]; have := Str.new (((w).alloc (.cells #[.int .i64 3, .string qk, .int .i64 pst, .string pk, .int .i64 pkd, .slice Ap np cp, .int .i64 plo, .int .i64 phi, .int .i64 pva, .int .i64 un] 62)).alloc (.cells #[.int .i64 1, .string qk, .int .i64 qkd, .slice Aq nq cq, .int .i64 qlo, .int .i64 qhi, .int .i64 qva] 54)) #[.int .i64 0, .string ⟨#[]⟩, .int .i64 0, .slice none 0 0, .int .i64 0, .int .i64 0, .int .i64 0] 54; simpa using this)
  have HB_0 : Hid (Below w.heap.size w W0) := Lib.hid (by rw [← hW0]; exact balloc (balloc (balloc (bsame w) _) _) _)
  have hw_0 := HB_0.out.size
  clear hW0
  obtain ⟨f0_0_0, f0_0_1, f0_0_2, f0_0_3, f0_0_4, f0_0_5, f0_0_6, f0_0_7, f0_0_8, f0_0_9⟩ := str10 HS0_0.out
  have hl0_0 := HS0_0.out.lt
  obtain ⟨f1_0_0, f1_0_1, f1_0_2, f1_0_3, f1_0_4, f1_0_5, f1_0_6⟩ := str7 HS1_0.out
  have hl1_0 := HS1_0.out.lt
  have hf1_0 := fun j => HS1_0.out.frozen j
  obtain ⟨f2_0_0, f2_0_1, f2_0_2, f2_0_3, f2_0_4, f2_0_5, f2_0_6⟩ := str7 HS2_0.out
  have hl2_0 := HS2_0.out.lt
  have hf2_0 := fun j => HS2_0.out.frozen j
  refine (HA.out _).mono ?_
  rintro e W1 ⟨rfl, hb1⟩
  have HS0_1 := Lib.hid (HS0_0.out.next hb1)
  have HS1_1 := Lib.hid (HS1_0.out.next hb1)
  have HS2_1 := Lib.hid (HS2_0.out.next hb1)
  have HB_1 := Lib.hid (bstep HB_0.out hb1)
  have hw_1 := HB_1.out.size
  have hws_1 := (hb1).size
  clear f0_0_0 f0_0_1 f0_0_2 f0_0_3 f0_0_4 f0_0_5 f0_0_6 f0_0_7 f0_0_8 f0_0_9 HS0_0 f1_0_0 f1_0_1 f1_0_2 f1_0_3 f1_0_4 f1_0_5 f1_0_6 HS1_0 hf1_0 f2_0_0 f2_0_1 f2_0_2 f2_0_3 f2_0_4 f2_0_5 f2_0_6 HS2_0 hf2_0
  clear hb1
  obtain ⟨f0_1_0, f0_1_1, f0_1_2, f0_1_3, f0_1_4, f0_1_5, f0_1_6, f0_1_7, f0_1_8, f0_1_9⟩ := str10 HS0_1.out
  have hl0_1 := HS0_1.out.lt
  obtain ⟨f1_1_0, f1_1_1, f1_1_2, f1_1_3, f1_1_4, f1_1_5, f1_1_6⟩ := str7 HS1_1.out
  have hl1_1 := HS1_1.out.lt
  have hf1_1 := fun j => HS1_1.out.frozen j
  obtain ⟨f2_1_0, f2_1_1, f2_1_2, f2_1_3, f2_1_4, f2_1_5, f2_1_6⟩ := str7 HS2_1.out
  have hl2_1 := HS2_1.out.lt
  have hf2_1 := fun j => HS2_1.out.frozen j
  go_wp2_with fail
  refine (HS.out _).mono ?_
  rintro e W2 ⟨A1, n1, c1, rfl, hy1, hb2⟩
  have HS0_2 := Lib.hid (HS0_1.out.next hb2)
  have HS1_2 := Lib.hid (HS1_1.out.next hb2)
  have HS2_2 := Lib.hid (HS2_1.out.next hb2)
  have HB_2 := Lib.hid (bstep HB_1.out hb2)
  have hw_2 := HB_2.out.size
  have hws_2 := (hb2).size
  clear f0_1_0 f0_1_1 f0_1_2 f0_1_3 f0_1_4 f0_1_5 f0_1_6 f0_1_7 f0_1_8 f0_1_9 HS0_1 f1_1_0 f1_1_1 f1_1_2 f1_1_3 f1_1_4 f1_1_5 f1_1_6 HS1_1 hf1_1 f2_1_0 f2_1_1 f2_1_2 f2_1_3 f2_1_4 f2_1_5 f2_1_6 HS2_1 hf2_1
  clear hb2
  obtain ⟨f0_2_0, f0_2_1, f0_2_2, f0_2_3, f0_2_4, f0_2_5, f0_2_6, f0_2_7, f0_2_8, f0_2_9⟩ := str10 HS0_2.out
  have hl0_2 := HS0_2.out.lt
  obtain ⟨f1_2_0, f1_2_1, f1_2_2, f1_2_3, f1_2_4, f1_2_5, f1_2_6⟩ := str7 HS1_2.out
  have hl1_2 := HS1_2.out.lt
  have hf1_2 := fun j => HS1_2.out.frozen j
  obtain ⟨f2_2_0, f2_2_1, f2_2_2, f2_2_3, f2_2_4, f2_2_5, f2_2_6⟩ := str7 HS2_2.out
  have hl2_2 := HS2_2.out.lt
  have hf2_2 := fun j => HS2_2.out.frozen j
  have HYc_2 := Lib.hid (hy1)
  clear hy1
  have hnl := HYc_2.out.len
  simp only [List.length_nil] at hnl
  subst hnl
  go_wp2_with fail
  generalize hW3 : (((((((W2).setCell ⟨w.heap.size + 1 + 1, 0, none⟩ (.int .i64 0)).setCell ⟨w.heap.size + 1 + 1, 1, none⟩ (.string ⟨#[]⟩)).setCell ⟨w.heap.size + 1 + 1, 2, none⟩ (.int .i64 0)).setCell ⟨w.heap.size + 1 + 1, 3, none⟩ (.slice none 0 0)).setCell ⟨w.heap.size + 1 + 1, 4, none⟩ (.int .i64 0)).setCell ⟨w.heap.size + 1 + 1, 5, none⟩ (.int .i64 0)).setCell ⟨w.heap.size + 1 + 1, 6, none⟩ (.int .i64 0) = W3
  have HS0_3 : Hid (Str W3 (w.heap.size) #[.int .i64 3, .string qk, .int .i64 pst, .string pk, .int .i64 pkd, .slice Ap np cp, .int .i64 plo, .int .i64 phi, .int .i64 pva, .int .i64 un]) := Lib.hid (by rw [← hW3]; exact (((((((HS0_2.out).other 0 _ (by omega)).other 1 _ (by omega)).other 2 _ (by omega)).other 3 _ (by omega)).other 4 _ (by omega)).other 5 _ (by omega)).other 6 _ (by omega))
  have HS1_3 : Hid (Str W3 (w.heap.size + 1) #[.int .i64 1, .string qk, .int .i64 qkd, .slice Aq nq cq, .int .i64 qlo, .int .i64 qhi, .int .i64 qva]) := Lib.hid (by rw [← hW3]; exact (((((((HS1_2.out).other 0 _ (by omega)).other 1 _ (by omega)).other 2 _ (by omega)).other 3 _ (by omega)).other 4 _ (by omega)).other 5 _ (by omega)).other 6 _ (by omega))
  have HS2_3 : Hid (Str W3 (w.heap.size + 1 + 1) #[.int .i64 0, .string ⟨#[]⟩, .int .i64 0, .slice none 0 0, .int .i64 0, .int .i64 0, .int .i64 0]) := Lib.hid (by rw [← hW3]; have := (((((((HS2_2.out).set 0 (.int .i64 0)).set 1 (.string ⟨#[]⟩)).set 2 (.int .i64 0)).set 3 (.slice none 0 0)).set 4 (.int .i64 0)).set 5 (.int .i64 0)).set 6 (.int .i64 0); simpa using this)
  have hgr3 : W2.grownBy W3 (some (w.heap.size + 1 + 1)) := by rw [← hW3]; exact grown_set (grown_set (grown_set (grown_set (grown_set (grown_set (grown_set (grown_refl W2 (w.heap.size + 1 + 1)) 0 (.int .i64 0)) 1 (.string ⟨#[]⟩)) 2 (.int .i64 0)) 3 (.slice none 0 0)) 4 (.int .i64 0)) 5 (.int .i64 0)) 6 (.int .i64 0)
  have HB_3 := Lib.hid (below_grown HB_2.out hgr3 (by omega))
  have hw_3 := HB_3.out.size
  have hws_3 := hgr3.size
  have HYc_3 := Lib.hid ((Bytes.grown HYc_2.out (Nat.le_refl _) HS2_2.out rfl hgr3).more hws_3)
  clear HYc_2
  clear hW3
  clear f0_2_0 f0_2_1 f0_2_2 f0_2_3 f0_2_4 f0_2_5 f0_2_6 f0_2_7 f0_2_8 f0_2_9 HS0_2 f1_2_0 f1_2_1 f1_2_2 f1_2_3 f1_2_4 f1_2_5 f1_2_6 HS1_2 hf1_2 f2_2_0 f2_2_1 f2_2_2 f2_2_3 f2_2_4 f2_2_5 f2_2_6 HS2_2 hf2_2
  clear hgr3
  obtain ⟨f0_3_0, f0_3_1, f0_3_2, f0_3_3, f0_3_4, f0_3_5, f0_3_6, f0_3_7, f0_3_8, f0_3_9⟩ := str10 HS0_3.out
  have hl0_3 := HS0_3.out.lt
  obtain ⟨f1_3_0, f1_3_1, f1_3_2, f1_3_3, f1_3_4, f1_3_5, f1_3_6⟩ := str7 HS1_3.out
  have hl1_3 := HS1_3.out.lt
  have hf1_3 := fun j => HS1_3.out.frozen j
  obtain ⟨f2_3_0, f2_3_1, f2_3_2, f2_3_3, f2_3_4, f2_3_5, f2_3_6⟩ := str7 HS2_3.out
  have hl2_3 := HS2_3.out.lt
  have hf2_3 := fun j => HS2_3.out.frozen j
  generalize hW4 : W3.alloc (.cells #[.int .i64 0, .slice A1 0 c1, .int .i64 0, .int .i64 0, .int .i64 0] 37) = W4
  have HS0_4 : Hid (Str W4 (w.heap.size) #[.int .i64 3, .string qk, .int .i64 pst, .string pk, .int .i64 pkd, .slice Ap np cp, .int .i64 plo, .int .i64 phi, .int .i64 pva, .int .i64 un]) := Lib.hid (by rw [← hW4]; exact HS0_3.out.alloc _)
  have HS1_4 : Hid (Str W4 (w.heap.size + 1) #[.int .i64 1, .string qk, .int .i64 qkd, .slice Aq nq cq, .int .i64 qlo, .int .i64 qhi, .int .i64 qva]) := Lib.hid (by rw [← hW4]; exact HS1_3.out.alloc _)
  have HS2_4 : Hid (Str W4 (w.heap.size + 1 + 1) #[.int .i64 0, .string ⟨#[]⟩, .int .i64 0, .slice none 0 0, .int .i64 0, .int .i64 0, .int .i64 0]) := Lib.hid (by rw [← hW4]; exact HS2_3.out.alloc _)
  have HS3_4 : Hid (Str W4 W3.heap.size #[.int .i64 0, .slice A1 0 c1, .int .i64 0, .int .i64 0, .int .i64 0]) := Lib.hid (by rw [← hW4]; exact Str.new W3 #[.int .i64 0, .slice A1 0 c1, .int .i64 0, .int .i64 0, .int .i64 0] 37)
  have hba4 : Below W3.heap.size W3 W4 := by rw [← hW4]; exact balloc (bsame _) _
  have HB_4 := Lib.hid (bstep HB_3.out hba4)
  have hw_4 := HB_4.out.size
  have hws_4 := hba4.size
  have HYc_4 := Lib.hid (HYc_3.out.next hba4)
  clear HYc_3
  clear hW4
  clear f0_3_0 f0_3_1 f0_3_2 f0_3_3 f0_3_4 f0_3_5 f0_3_6 f0_3_7 f0_3_8 f0_3_9 HS0_3 f1_3_0 f1_3_1 f1_3_2 f1_3_3 f1_3_4 f1_3_5 f1_3_6 HS1_3 hf1_3 f2_3_0 f2_3_1 f2_3_2 f2_3_3 f2_3_4 f2_3_5 f2_3_6 HS2_3 hf2_3
  obtain ⟨f0_4_0, f0_4_1, f0_4_2, f0_4_3, f0_4_4, f0_4_5, f0_4_6, f0_4_7, f0_4_8, f0_4_9⟩ := str10 HS0_4.out
  have hl0_4 := HS0_4.out.lt
  obtain ⟨f1_4_0, f1_4_1, f1_4_2, f1_4_3, f1_4_4, f1_4_5, f1_4_6⟩ := str7 HS1_4.out
  have hl1_4 := HS1_4.out.lt
  have hf1_4 := fun j => HS1_4.out.frozen j
  obtain ⟨f2_4_0, f2_4_1, f2_4_2, f2_4_3, f2_4_4, f2_4_5, f2_4_6⟩ := str7 HS2_4.out
  have hl2_4 := HS2_4.out.lt
  have hf2_4 := fun j => HS2_4.out.frozen j
  obtain ⟨f3_4_0, f3_4_1, f3_4_2, f3_4_3, f3_4_4⟩ := str5 HS3_4.out
  have hl3_4 := HS3_4.out.lt
  clear hba4
  exact bodyPost_ret (v := .tuple #[.agg #[.int .i64 0, .string ⟨#[]⟩, .int .i64 0, .slice none 0 0, .int .i64 0, .int .i64 0, .int .i64 0], .int .i64 6]) (by simp [results, Try.results41, go_sem, *]) rfl ⟨none, 0, 0, rfl, Bytes.none_ _ _, HB_4.out⟩

set_option maxRecDepth 100000 in
set_option maxHeartbeats 1000000 in
theorem apply3_wide_in (un : Int) (Ap : Option Addr) (np cp Bp : Nat) (pst : Int) (pk : ByteArray) (pkd : Int) (pda : List UInt8) (plo phi pva : Int) (Aq : Option Addr) (nq cq Bq : Nat) (qk : ByteArray) (qkd : Int) (qda : List UInt8) (qlo qhi qva : Int) (w : World) (hp : Bytes w Bp Ap np cp pda) (hBp : Bp ≤ w.heap.size) (hnp : np ≤ 140737488355328) (hq : Bytes w Bq Aq nq cq qda) (hBq : Bq ≤ w.heap.size) (hnq : nq ≤ 140737488355328) (hun : In64 un) (hqv : In64 qva) (hql : In64 qlo) (hqh : In64 qhi) (hr : (qkd = 2 ∧ CellP.right ⟨qkd, qda, qlo, qhi, qva⟩ = true)) (hf : WideP.fits (qva - un) = false) (ho : (qva - un < qlo ∨ qhi < qva - un)) (hz : ¬ (0 < qlo ∨ qhi < 0)) : Calls Try.prog 41 #[.agg #[.int .i64 3, .string qk, .int .i64 pst, .string pk, .int .i64 pkd, .slice Ap np cp, .int .i64 plo, .int .i64 phi, .int .i64 pva, .int .i64 un], .agg #[.int .i64 1, .string qk, .int .i64 qkd, .slice Aq nq cq, .int .i64 qlo, .int .i64 qhi, .int .i64 qva]] w (SlotGet.GotItem w (UndoP.apply ⟨3, qk, ⟨pst, pk, ⟨pkd, pda, plo, phi, pva⟩⟩, un⟩ ⟨1, qk, ⟨qkd, qda, qlo, qhi, qva⟩⟩)) := by
  rw [UndoP.apply_out _ _ (by simp) ⟨rfl, rfl⟩ hr (by simpa [UndoP.sum] using ho)]
  have hn0 : WideP.num (qva - un) = 0 := by simp [WideP.num, hf]
  obtain ⟨sv, hsv⟩ : ∃ sv : Int, sv = 0 := ⟨_, rfl⟩
  have HNUM : Hid (WideP.num (qva - un) = sv) := Lib.hid (by rw [hn0, hsv])
  have HFIT := Lib.hid hf
  have HV : Hid (CellP.set ⟨qkd, qda, qlo, qhi, qva⟩ sv = (⟨2, [], qlo, qhi, sv⟩, 0)) := Lib.hid (by unfold CellP.set; rw [if_pos hr, hsv, if_neg hz]; try rfl)
  clear hsv hf hn0 hr ho hz
  have Hq := Lib.hid hq
  have hlq := hq.len
  have hcq := Nat.le_trans hq.2.1 hq.2.2.1
  have HS : Hid (∀ W, Calls Try.prog 77 #[.agg #[.int .i64 qkd, .slice Aq nq cq, .int .i64 qlo, .int .i64 qhi, .int .i64 qva], .int .i64 sv] W (CellW.GivesCell W (⟨2, [], qlo, qhi, sv⟩ : Cell) 0)) := Lib.hid (fun W => by have h := CellW.set_any Aq nq cq ⟨qkd, qda, qlo, qhi, qva⟩ sv W hlq hcq; rw [HV.out] at h; exact h)
  have HA : Hid (∀ W, Calls Try.prog 76 #[.int .i64 qva, .int .i64 un] W fun e w' => e = .returned (.tuple #[.int .i64 sv, .bool false]) ∧ Below W.heap.size W w') := Lib.hid (fun W => by have h := WideW.sub_any qva un hqv.1 hqv.2 hun.1 hun.2 W; rw [HNUM.out, HFIT.out] at h; exact h)
  clear hp hq hlq hcq hun hqv hql hqh HV HNUM HFIT
  go_enter Try.func41, Try.ntmps41
  go_wp2_with fail
  generalize hW0 : (((w).alloc (.cells #[.int .i64 3, .string qk, .int .i64 pst, .string pk, .int .i64 pkd, .slice Ap np cp, .int .i64 plo, .int .i64 phi, .int .i64 pva, .int .i64 un] 62)).alloc (.cells #[.int .i64 1, .string qk, .int .i64 qkd, .slice Aq nq cq, .int .i64 qlo, .int .i64 qhi, .int .i64 qva] 54)).alloc (.cells #[.int .i64 0, .string ⟨#[]⟩, .int .i64 0, .slice none 0 0, .int .i64 0, .int .i64 0, .int .i64 0] 54) = W0
  have HS0_0 : Hid (Str W0 (w.heap.size) #[.int .i64 3, .string qk, .int .i64 pst, .string pk, .int .i64 pkd, .slice Ap np cp, .int .i64 plo, .int .i64 phi, .int .i64 pva, .int .i64 un]) := Lib.hid (by rw [← hW0]; have := ((Str.new (w) #[.int .i64 3, .string qk, .int .i64 pst, .string pk, .int .i64 pkd, .slice Ap np cp, .int .i64 plo, .int .i64 phi, .int .i64 pva, .int .i64 un] 62).alloc (.cells #[.int .i64 1, .string qk, .int .i64 qkd, .slice Aq nq cq, .int .i64 qlo, .int .i64 qhi, .int .i64 qva] 54)).alloc (.cells #[.int .i64 0, .string ⟨#[]⟩, .int .i64 0, .slice none 0 0, .int .i64 0, .int .i64 0, .int .i64 0] 54); simpa using this)
  have HS1_0 : Hid (Str W0 (w.heap.size + 1) #[.int .i64 1, .string qk, .int .i64 qkd, .slice Aq nq cq, .int .i64 qlo, .int .i64 qhi, .int .i64 qva]) := Lib.hid (by rw [← hW0]; have := (Str.new ((w).alloc (.cells #[.int .i64 3, .string qk, .int .i64 pst, .string pk, .int .i64 pkd, .slice Ap np cp, .int .i64 plo, .int .i64 phi, .int .i64 pva, .int .i64 un] 62)) #[.int .i64 1, .string qk, .int .i64 qkd, .slice Aq nq cq, .int .i64 qlo, .int .i64 qhi, .int .i64 qva] 54).alloc (.cells #[.int .i64 0, .string ⟨#[]⟩, .int .i64 0, .slice none 0 0, .int .i64 0, .int .i64 0, .int .i64 0] 54); simpa using this)
  have HS2_0 : Hid (Str W0 (w.heap.size + 1 + 1) #[.int .i64 0, .string ⟨#[]⟩, .int .i64 0, .slice none 0 0, .int .i64 0, .int .i64 0, .int .i64 0]) := Lib.hid (by rw [← hW0]; have := Str.new (((w).alloc (.cells #[.int .i64 3, .string qk, .int .i64 pst, .string pk, .int .i64 pkd, .slice Ap np cp, .int .i64 plo, .int .i64 phi, .int .i64 pva, .int .i64 un] 62)).alloc (.cells #[.int .i64 1, .string qk, .int .i64 qkd, .slice Aq nq cq, .int .i64 qlo, .int .i64 qhi, .int .i64 qva] 54)) #[.int .i64 0, .string ⟨#[]⟩, .int .i64 0, .slice none 0 0, .int .i64 0, .int .i64 0, .int .i64 0] 54; simpa using this)
  have HB_0 : Hid (Below w.heap.size w W0) := Lib.hid (by rw [← hW0]; exact balloc (balloc (balloc (bsame w) _) _) _)
  have hw_0 := HB_0.out.size
  clear hW0
  obtain ⟨f0_0_0, f0_0_1, f0_0_2, f0_0_3, f0_0_4, f0_0_5, f0_0_6, f0_0_7, f0_0_8, f0_0_9⟩ := str10 HS0_0.out
  have hl0_0 := HS0_0.out.lt
  obtain ⟨f1_0_0, f1_0_1, f1_0_2, f1_0_3, f1_0_4, f1_0_5, f1_0_6⟩ := str7 HS1_0.out
  have hl1_0 := HS1_0.out.lt
  have hf1_0 := fun j => HS1_0.out.frozen j
  obtain ⟨f2_0_0, f2_0_1, f2_0_2, f2_0_3, f2_0_4, f2_0_5, f2_0_6⟩ := str7 HS2_0.out
  have hl2_0 := HS2_0.out.lt
  have hf2_0 := fun j => HS2_0.out.frozen j
  refine (HA.out _).mono ?_
  rintro e W1 ⟨rfl, hb1⟩
  have HS0_1 := Lib.hid (HS0_0.out.next hb1)
  have HS1_1 := Lib.hid (HS1_0.out.next hb1)
  have HS2_1 := Lib.hid (HS2_0.out.next hb1)
  have HB_1 := Lib.hid (bstep HB_0.out hb1)
  have hw_1 := HB_1.out.size
  have hws_1 := (hb1).size
  clear f0_0_0 f0_0_1 f0_0_2 f0_0_3 f0_0_4 f0_0_5 f0_0_6 f0_0_7 f0_0_8 f0_0_9 HS0_0 f1_0_0 f1_0_1 f1_0_2 f1_0_3 f1_0_4 f1_0_5 f1_0_6 HS1_0 hf1_0 f2_0_0 f2_0_1 f2_0_2 f2_0_3 f2_0_4 f2_0_5 f2_0_6 HS2_0 hf2_0
  clear hb1
  obtain ⟨f0_1_0, f0_1_1, f0_1_2, f0_1_3, f0_1_4, f0_1_5, f0_1_6, f0_1_7, f0_1_8, f0_1_9⟩ := str10 HS0_1.out
  have hl0_1 := HS0_1.out.lt
  obtain ⟨f1_1_0, f1_1_1, f1_1_2, f1_1_3, f1_1_4, f1_1_5, f1_1_6⟩ := str7 HS1_1.out
  have hl1_1 := HS1_1.out.lt
  have hf1_1 := fun j => HS1_1.out.frozen j
  obtain ⟨f2_1_0, f2_1_1, f2_1_2, f2_1_3, f2_1_4, f2_1_5, f2_1_6⟩ := str7 HS2_1.out
  have hl2_1 := HS2_1.out.lt
  have hf2_1 := fun j => HS2_1.out.frozen j
  go_wp2_with fail
  refine (HS.out _).mono ?_
  rintro e W2 ⟨A1, n1, c1, rfl, hy1, hb2⟩
  have HS0_2 := Lib.hid (HS0_1.out.next hb2)
  have HS1_2 := Lib.hid (HS1_1.out.next hb2)
  have HS2_2 := Lib.hid (HS2_1.out.next hb2)
  have HB_2 := Lib.hid (bstep HB_1.out hb2)
  have hw_2 := HB_2.out.size
  have hws_2 := (hb2).size
  clear f0_1_0 f0_1_1 f0_1_2 f0_1_3 f0_1_4 f0_1_5 f0_1_6 f0_1_7 f0_1_8 f0_1_9 HS0_1 f1_1_0 f1_1_1 f1_1_2 f1_1_3 f1_1_4 f1_1_5 f1_1_6 HS1_1 hf1_1 f2_1_0 f2_1_1 f2_1_2 f2_1_3 f2_1_4 f2_1_5 f2_1_6 HS2_1 hf2_1
  clear hb2
  obtain ⟨f0_2_0, f0_2_1, f0_2_2, f0_2_3, f0_2_4, f0_2_5, f0_2_6, f0_2_7, f0_2_8, f0_2_9⟩ := str10 HS0_2.out
  have hl0_2 := HS0_2.out.lt
  obtain ⟨f1_2_0, f1_2_1, f1_2_2, f1_2_3, f1_2_4, f1_2_5, f1_2_6⟩ := str7 HS1_2.out
  have hl1_2 := HS1_2.out.lt
  have hf1_2 := fun j => HS1_2.out.frozen j
  obtain ⟨f2_2_0, f2_2_1, f2_2_2, f2_2_3, f2_2_4, f2_2_5, f2_2_6⟩ := str7 HS2_2.out
  have hl2_2 := HS2_2.out.lt
  have hf2_2 := fun j => HS2_2.out.frozen j
  have HYc_2 := Lib.hid (hy1)
  clear hy1
  have hnl := HYc_2.out.len
  simp only [List.length_nil] at hnl
  subst hnl
  go_wp2_with fail
  generalize hW3 : (((((((W2).setCell ⟨w.heap.size + 1 + 1, 0, none⟩ (.int .i64 0)).setCell ⟨w.heap.size + 1 + 1, 1, none⟩ (.string ⟨#[]⟩)).setCell ⟨w.heap.size + 1 + 1, 2, none⟩ (.int .i64 0)).setCell ⟨w.heap.size + 1 + 1, 3, none⟩ (.slice none 0 0)).setCell ⟨w.heap.size + 1 + 1, 4, none⟩ (.int .i64 0)).setCell ⟨w.heap.size + 1 + 1, 5, none⟩ (.int .i64 0)).setCell ⟨w.heap.size + 1 + 1, 6, none⟩ (.int .i64 0) = W3
  have HS0_3 : Hid (Str W3 (w.heap.size) #[.int .i64 3, .string qk, .int .i64 pst, .string pk, .int .i64 pkd, .slice Ap np cp, .int .i64 plo, .int .i64 phi, .int .i64 pva, .int .i64 un]) := Lib.hid (by rw [← hW3]; exact (((((((HS0_2.out).other 0 _ (by omega)).other 1 _ (by omega)).other 2 _ (by omega)).other 3 _ (by omega)).other 4 _ (by omega)).other 5 _ (by omega)).other 6 _ (by omega))
  have HS1_3 : Hid (Str W3 (w.heap.size + 1) #[.int .i64 1, .string qk, .int .i64 qkd, .slice Aq nq cq, .int .i64 qlo, .int .i64 qhi, .int .i64 qva]) := Lib.hid (by rw [← hW3]; exact (((((((HS1_2.out).other 0 _ (by omega)).other 1 _ (by omega)).other 2 _ (by omega)).other 3 _ (by omega)).other 4 _ (by omega)).other 5 _ (by omega)).other 6 _ (by omega))
  have HS2_3 : Hid (Str W3 (w.heap.size + 1 + 1) #[.int .i64 0, .string ⟨#[]⟩, .int .i64 0, .slice none 0 0, .int .i64 0, .int .i64 0, .int .i64 0]) := Lib.hid (by rw [← hW3]; have := (((((((HS2_2.out).set 0 (.int .i64 0)).set 1 (.string ⟨#[]⟩)).set 2 (.int .i64 0)).set 3 (.slice none 0 0)).set 4 (.int .i64 0)).set 5 (.int .i64 0)).set 6 (.int .i64 0); simpa using this)
  have hgr3 : W2.grownBy W3 (some (w.heap.size + 1 + 1)) := by rw [← hW3]; exact grown_set (grown_set (grown_set (grown_set (grown_set (grown_set (grown_set (grown_refl W2 (w.heap.size + 1 + 1)) 0 (.int .i64 0)) 1 (.string ⟨#[]⟩)) 2 (.int .i64 0)) 3 (.slice none 0 0)) 4 (.int .i64 0)) 5 (.int .i64 0)) 6 (.int .i64 0)
  have HB_3 := Lib.hid (below_grown HB_2.out hgr3 (by omega))
  have hw_3 := HB_3.out.size
  have hws_3 := hgr3.size
  have HYc_3 := Lib.hid ((Bytes.grown HYc_2.out (Nat.le_refl _) HS2_2.out rfl hgr3).more hws_3)
  clear HYc_2
  clear hW3
  clear f0_2_0 f0_2_1 f0_2_2 f0_2_3 f0_2_4 f0_2_5 f0_2_6 f0_2_7 f0_2_8 f0_2_9 HS0_2 f1_2_0 f1_2_1 f1_2_2 f1_2_3 f1_2_4 f1_2_5 f1_2_6 HS1_2 hf1_2 f2_2_0 f2_2_1 f2_2_2 f2_2_3 f2_2_4 f2_2_5 f2_2_6 HS2_2 hf2_2
  clear hgr3
  obtain ⟨f0_3_0, f0_3_1, f0_3_2, f0_3_3, f0_3_4, f0_3_5, f0_3_6, f0_3_7, f0_3_8, f0_3_9⟩ := str10 HS0_3.out
  have hl0_3 := HS0_3.out.lt
  obtain ⟨f1_3_0, f1_3_1, f1_3_2, f1_3_3, f1_3_4, f1_3_5, f1_3_6⟩ := str7 HS1_3.out
  have hl1_3 := HS1_3.out.lt
  have hf1_3 := fun j => HS1_3.out.frozen j
  obtain ⟨f2_3_0, f2_3_1, f2_3_2, f2_3_3, f2_3_4, f2_3_5, f2_3_6⟩ := str7 HS2_3.out
  have hl2_3 := HS2_3.out.lt
  have hf2_3 := fun j => HS2_3.out.frozen j
  generalize hW4 : W3.alloc (.cells #[.int .i64 2, .slice A1 0 c1, .int .i64 qlo, .int .i64 qhi, .int .i64 sv] 37) = W4
  have HS0_4 : Hid (Str W4 (w.heap.size) #[.int .i64 3, .string qk, .int .i64 pst, .string pk, .int .i64 pkd, .slice Ap np cp, .int .i64 plo, .int .i64 phi, .int .i64 pva, .int .i64 un]) := Lib.hid (by rw [← hW4]; exact HS0_3.out.alloc _)
  have HS1_4 : Hid (Str W4 (w.heap.size + 1) #[.int .i64 1, .string qk, .int .i64 qkd, .slice Aq nq cq, .int .i64 qlo, .int .i64 qhi, .int .i64 qva]) := Lib.hid (by rw [← hW4]; exact HS1_3.out.alloc _)
  have HS2_4 : Hid (Str W4 (w.heap.size + 1 + 1) #[.int .i64 0, .string ⟨#[]⟩, .int .i64 0, .slice none 0 0, .int .i64 0, .int .i64 0, .int .i64 0]) := Lib.hid (by rw [← hW4]; exact HS2_3.out.alloc _)
  have HS3_4 : Hid (Str W4 W3.heap.size #[.int .i64 2, .slice A1 0 c1, .int .i64 qlo, .int .i64 qhi, .int .i64 sv]) := Lib.hid (by rw [← hW4]; exact Str.new W3 #[.int .i64 2, .slice A1 0 c1, .int .i64 qlo, .int .i64 qhi, .int .i64 sv] 37)
  have hba4 : Below W3.heap.size W3 W4 := by rw [← hW4]; exact balloc (bsame _) _
  have HB_4 := Lib.hid (bstep HB_3.out hba4)
  have hw_4 := HB_4.out.size
  have hws_4 := hba4.size
  have HYc_4 := Lib.hid (HYc_3.out.next hba4)
  clear HYc_3
  clear hW4
  clear f0_3_0 f0_3_1 f0_3_2 f0_3_3 f0_3_4 f0_3_5 f0_3_6 f0_3_7 f0_3_8 f0_3_9 HS0_3 f1_3_0 f1_3_1 f1_3_2 f1_3_3 f1_3_4 f1_3_5 f1_3_6 HS1_3 hf1_3 f2_3_0 f2_3_1 f2_3_2 f2_3_3 f2_3_4 f2_3_5 f2_3_6 HS2_3 hf2_3
  obtain ⟨f0_4_0, f0_4_1, f0_4_2, f0_4_3, f0_4_4, f0_4_5, f0_4_6, f0_4_7, f0_4_8, f0_4_9⟩ := str10 HS0_4.out
  have hl0_4 := HS0_4.out.lt
  obtain ⟨f1_4_0, f1_4_1, f1_4_2, f1_4_3, f1_4_4, f1_4_5, f1_4_6⟩ := str7 HS1_4.out
  have hl1_4 := HS1_4.out.lt
  have hf1_4 := fun j => HS1_4.out.frozen j
  obtain ⟨f2_4_0, f2_4_1, f2_4_2, f2_4_3, f2_4_4, f2_4_5, f2_4_6⟩ := str7 HS2_4.out
  have hl2_4 := HS2_4.out.lt
  have hf2_4 := fun j => HS2_4.out.frozen j
  obtain ⟨f3_4_0, f3_4_1, f3_4_2, f3_4_3, f3_4_4⟩ := str5 HS3_4.out
  have hl3_4 := HS3_4.out.lt
  clear hba4
  exact bodyPost_ret (v := .tuple #[.agg #[.int .i64 0, .string ⟨#[]⟩, .int .i64 0, .slice none 0 0, .int .i64 0, .int .i64 0, .int .i64 0], .int .i64 8]) (by simp [results, Try.results41, go_sem, *]) rfl ⟨none, 0, 0, rfl, Bytes.none_ _ _, HB_4.out⟩

set_option maxRecDepth 100000 in
set_option maxHeartbeats 1000000 in
theorem apply3_wide_out (un : Int) (Ap : Option Addr) (np cp Bp : Nat) (pst : Int) (pk : ByteArray) (pkd : Int) (pda : List UInt8) (plo phi pva : Int) (Aq : Option Addr) (nq cq Bq : Nat) (qk : ByteArray) (qkd : Int) (qda : List UInt8) (qlo qhi qva : Int) (w : World) (hp : Bytes w Bp Ap np cp pda) (hBp : Bp ≤ w.heap.size) (hnp : np ≤ 140737488355328) (hq : Bytes w Bq Aq nq cq qda) (hBq : Bq ≤ w.heap.size) (hnq : nq ≤ 140737488355328) (hun : In64 un) (hqv : In64 qva) (hql : In64 qlo) (hqh : In64 qhi) (hr : (qkd = 2 ∧ CellP.right ⟨qkd, qda, qlo, qhi, qva⟩ = true)) (hf : WideP.fits (qva - un) = false) (ho : (qva - un < qlo ∨ qhi < qva - un)) (hz : 0 < qlo ∨ qhi < 0) : Calls Try.prog 41 #[.agg #[.int .i64 3, .string qk, .int .i64 pst, .string pk, .int .i64 pkd, .slice Ap np cp, .int .i64 plo, .int .i64 phi, .int .i64 pva, .int .i64 un], .agg #[.int .i64 1, .string qk, .int .i64 qkd, .slice Aq nq cq, .int .i64 qlo, .int .i64 qhi, .int .i64 qva]] w (SlotGet.GotItem w (UndoP.apply ⟨3, qk, ⟨pst, pk, ⟨pkd, pda, plo, phi, pva⟩⟩, un⟩ ⟨1, qk, ⟨qkd, qda, qlo, qhi, qva⟩⟩)) := by
  rw [UndoP.apply_out _ _ (by simp) ⟨rfl, rfl⟩ hr (by simpa [UndoP.sum] using ho)]
  have hn0 : WideP.num (qva - un) = 0 := by simp [WideP.num, hf]
  obtain ⟨sv, hsv⟩ : ∃ sv : Int, sv = 0 := ⟨_, rfl⟩
  have HNUM : Hid (WideP.num (qva - un) = sv) := Lib.hid (by rw [hn0, hsv])
  have HFIT := Lib.hid hf
  have HV : Hid (CellP.set ⟨qkd, qda, qlo, qhi, qva⟩ sv = (⟨0, [], 0, 0, 0⟩, 8)) := Lib.hid (by unfold CellP.set; rw [if_pos hr, hsv, if_pos hz]; try rfl)
  clear hsv hf hn0 hr ho hz
  have Hq := Lib.hid hq
  have hlq := hq.len
  have hcq := Nat.le_trans hq.2.1 hq.2.2.1
  have HS : Hid (∀ W, Calls Try.prog 77 #[.agg #[.int .i64 qkd, .slice Aq nq cq, .int .i64 qlo, .int .i64 qhi, .int .i64 qva], .int .i64 sv] W (CellW.GivesCell W (⟨0, [], 0, 0, 0⟩ : Cell) 8)) := Lib.hid (fun W => by have h := CellW.set_any Aq nq cq ⟨qkd, qda, qlo, qhi, qva⟩ sv W hlq hcq; rw [HV.out] at h; exact h)
  have HA : Hid (∀ W, Calls Try.prog 76 #[.int .i64 qva, .int .i64 un] W fun e w' => e = .returned (.tuple #[.int .i64 sv, .bool false]) ∧ Below W.heap.size W w') := Lib.hid (fun W => by have h := WideW.sub_any qva un hqv.1 hqv.2 hun.1 hun.2 W; rw [HNUM.out, HFIT.out] at h; exact h)
  clear hp hq hlq hcq hun hqv hql hqh HV HNUM HFIT
  go_enter Try.func41, Try.ntmps41
  go_wp2_with fail
  generalize hW0 : (((w).alloc (.cells #[.int .i64 3, .string qk, .int .i64 pst, .string pk, .int .i64 pkd, .slice Ap np cp, .int .i64 plo, .int .i64 phi, .int .i64 pva, .int .i64 un] 62)).alloc (.cells #[.int .i64 1, .string qk, .int .i64 qkd, .slice Aq nq cq, .int .i64 qlo, .int .i64 qhi, .int .i64 qva] 54)).alloc (.cells #[.int .i64 0, .string ⟨#[]⟩, .int .i64 0, .slice none 0 0, .int .i64 0, .int .i64 0, .int .i64 0] 54) = W0
  have HS0_0 : Hid (Str W0 (w.heap.size) #[.int .i64 3, .string qk, .int .i64 pst, .string pk, .int .i64 pkd, .slice Ap np cp, .int .i64 plo, .int .i64 phi, .int .i64 pva, .int .i64 un]) := Lib.hid (by rw [← hW0]; have := ((Str.new (w) #[.int .i64 3, .string qk, .int .i64 pst, .string pk, .int .i64 pkd, .slice Ap np cp, .int .i64 plo, .int .i64 phi, .int .i64 pva, .int .i64 un] 62).alloc (.cells #[.int .i64 1, .string qk, .int .i64 qkd, .slice Aq nq cq, .int .i64 qlo, .int .i64 qhi, .int .i64 qva] 54)).alloc (.cells #[.int .i64 0, .string ⟨#[]⟩, .int .i64 0, .slice none 0 0, .int .i64 0, .int .i64 0, .int .i64 0] 54); simpa using this)
  have HS1_0 : Hid (Str W0 (w.heap.size + 1) #[.int .i64 1, .string qk, .int .i64 qkd, .slice Aq nq cq, .int .i64 qlo, .int .i64 qhi, .int .i64 qva]) := Lib.hid (by rw [← hW0]; have := (Str.new ((w).alloc (.cells #[.int .i64 3, .string qk, .int .i64 pst, .string pk, .int .i64 pkd, .slice Ap np cp, .int .i64 plo, .int .i64 phi, .int .i64 pva, .int .i64 un] 62)) #[.int .i64 1, .string qk, .int .i64 qkd, .slice Aq nq cq, .int .i64 qlo, .int .i64 qhi, .int .i64 qva] 54).alloc (.cells #[.int .i64 0, .string ⟨#[]⟩, .int .i64 0, .slice none 0 0, .int .i64 0, .int .i64 0, .int .i64 0] 54); simpa using this)
  have HS2_0 : Hid (Str W0 (w.heap.size + 1 + 1) #[.int .i64 0, .string ⟨#[]⟩, .int .i64 0, .slice none 0 0, .int .i64 0, .int .i64 0, .int .i64 0]) := Lib.hid (by rw [← hW0]; have := Str.new (((w).alloc (.cells #[.int .i64 3, .string qk, .int .i64 pst, .string pk, .int .i64 pkd, .slice Ap np cp, .int .i64 plo, .int .i64 phi, .int .i64 pva, .int .i64 un] 62)).alloc (.cells #[.int .i64 1, .string qk, .int .i64 qkd, .slice Aq nq cq, .int .i64 qlo, .int .i64 qhi, .int .i64 qva] 54)) #[.int .i64 0, .string ⟨#[]⟩, .int .i64 0, .slice none 0 0, .int .i64 0, .int .i64 0, .int .i64 0] 54; simpa using this)
  have HB_0 : Hid (Below w.heap.size w W0) := Lib.hid (by rw [← hW0]; exact balloc (balloc (balloc (bsame w) _) _) _)
  have hw_0 := HB_0.out.size
  clear hW0
  obtain ⟨f0_0_0, f0_0_1, f0_0_2, f0_0_3, f0_0_4, f0_0_5, f0_0_6, f0_0_7, f0_0_8, f0_0_9⟩ := str10 HS0_0.out
  have hl0_0 := HS0_0.out.lt
  obtain ⟨f1_0_0, f1_0_1, f1_0_2, f1_0_3, f1_0_4, f1_0_5, f1_0_6⟩ := str7 HS1_0.out
  have hl1_0 := HS1_0.out.lt
  have hf1_0 := fun j => HS1_0.out.frozen j
  obtain ⟨f2_0_0, f2_0_1, f2_0_2, f2_0_3, f2_0_4, f2_0_5, f2_0_6⟩ := str7 HS2_0.out
  have hl2_0 := HS2_0.out.lt
  have hf2_0 := fun j => HS2_0.out.frozen j
  refine (HA.out _).mono ?_
  rintro e W1 ⟨rfl, hb1⟩
  have HS0_1 := Lib.hid (HS0_0.out.next hb1)
  have HS1_1 := Lib.hid (HS1_0.out.next hb1)
  have HS2_1 := Lib.hid (HS2_0.out.next hb1)
  have HB_1 := Lib.hid (bstep HB_0.out hb1)
  have hw_1 := HB_1.out.size
  have hws_1 := (hb1).size
  clear f0_0_0 f0_0_1 f0_0_2 f0_0_3 f0_0_4 f0_0_5 f0_0_6 f0_0_7 f0_0_8 f0_0_9 HS0_0 f1_0_0 f1_0_1 f1_0_2 f1_0_3 f1_0_4 f1_0_5 f1_0_6 HS1_0 hf1_0 f2_0_0 f2_0_1 f2_0_2 f2_0_3 f2_0_4 f2_0_5 f2_0_6 HS2_0 hf2_0
  clear hb1
  obtain ⟨f0_1_0, f0_1_1, f0_1_2, f0_1_3, f0_1_4, f0_1_5, f0_1_6, f0_1_7, f0_1_8, f0_1_9⟩ := str10 HS0_1.out
  have hl0_1 := HS0_1.out.lt
  obtain ⟨f1_1_0, f1_1_1, f1_1_2, f1_1_3, f1_1_4, f1_1_5, f1_1_6⟩ := str7 HS1_1.out
  have hl1_1 := HS1_1.out.lt
  have hf1_1 := fun j => HS1_1.out.frozen j
  obtain ⟨f2_1_0, f2_1_1, f2_1_2, f2_1_3, f2_1_4, f2_1_5, f2_1_6⟩ := str7 HS2_1.out
  have hl2_1 := HS2_1.out.lt
  have hf2_1 := fun j => HS2_1.out.frozen j
  go_wp2_with fail
  refine (HS.out _).mono ?_
  rintro e W2 ⟨A1, n1, c1, rfl, hy1, hb2⟩
  have HS0_2 := Lib.hid (HS0_1.out.next hb2)
  have HS1_2 := Lib.hid (HS1_1.out.next hb2)
  have HS2_2 := Lib.hid (HS2_1.out.next hb2)
  have HB_2 := Lib.hid (bstep HB_1.out hb2)
  have hw_2 := HB_2.out.size
  have hws_2 := (hb2).size
  clear f0_1_0 f0_1_1 f0_1_2 f0_1_3 f0_1_4 f0_1_5 f0_1_6 f0_1_7 f0_1_8 f0_1_9 HS0_1 f1_1_0 f1_1_1 f1_1_2 f1_1_3 f1_1_4 f1_1_5 f1_1_6 HS1_1 hf1_1 f2_1_0 f2_1_1 f2_1_2 f2_1_3 f2_1_4 f2_1_5 f2_1_6 HS2_1 hf2_1
  clear hb2
  obtain ⟨f0_2_0, f0_2_1, f0_2_2, f0_2_3, f0_2_4, f0_2_5, f0_2_6, f0_2_7, f0_2_8, f0_2_9⟩ := str10 HS0_2.out
  have hl0_2 := HS0_2.out.lt
  obtain ⟨f1_2_0, f1_2_1, f1_2_2, f1_2_3, f1_2_4, f1_2_5, f1_2_6⟩ := str7 HS1_2.out
  have hl1_2 := HS1_2.out.lt
  have hf1_2 := fun j => HS1_2.out.frozen j
  obtain ⟨f2_2_0, f2_2_1, f2_2_2, f2_2_3, f2_2_4, f2_2_5, f2_2_6⟩ := str7 HS2_2.out
  have hl2_2 := HS2_2.out.lt
  have hf2_2 := fun j => HS2_2.out.frozen j
  have HYc_2 := Lib.hid (hy1)
  clear hy1
  have hnl := HYc_2.out.len
  simp only [List.length_nil] at hnl
  subst hnl
  go_wp2_with fail
  generalize hW3 : (((((((W2).setCell ⟨w.heap.size + 1 + 1, 0, none⟩ (.int .i64 0)).setCell ⟨w.heap.size + 1 + 1, 1, none⟩ (.string ⟨#[]⟩)).setCell ⟨w.heap.size + 1 + 1, 2, none⟩ (.int .i64 0)).setCell ⟨w.heap.size + 1 + 1, 3, none⟩ (.slice none 0 0)).setCell ⟨w.heap.size + 1 + 1, 4, none⟩ (.int .i64 0)).setCell ⟨w.heap.size + 1 + 1, 5, none⟩ (.int .i64 0)).setCell ⟨w.heap.size + 1 + 1, 6, none⟩ (.int .i64 0) = W3
  have HS0_3 : Hid (Str W3 (w.heap.size) #[.int .i64 3, .string qk, .int .i64 pst, .string pk, .int .i64 pkd, .slice Ap np cp, .int .i64 plo, .int .i64 phi, .int .i64 pva, .int .i64 un]) := Lib.hid (by rw [← hW3]; exact (((((((HS0_2.out).other 0 _ (by omega)).other 1 _ (by omega)).other 2 _ (by omega)).other 3 _ (by omega)).other 4 _ (by omega)).other 5 _ (by omega)).other 6 _ (by omega))
  have HS1_3 : Hid (Str W3 (w.heap.size + 1) #[.int .i64 1, .string qk, .int .i64 qkd, .slice Aq nq cq, .int .i64 qlo, .int .i64 qhi, .int .i64 qva]) := Lib.hid (by rw [← hW3]; exact (((((((HS1_2.out).other 0 _ (by omega)).other 1 _ (by omega)).other 2 _ (by omega)).other 3 _ (by omega)).other 4 _ (by omega)).other 5 _ (by omega)).other 6 _ (by omega))
  have HS2_3 : Hid (Str W3 (w.heap.size + 1 + 1) #[.int .i64 0, .string ⟨#[]⟩, .int .i64 0, .slice none 0 0, .int .i64 0, .int .i64 0, .int .i64 0]) := Lib.hid (by rw [← hW3]; have := (((((((HS2_2.out).set 0 (.int .i64 0)).set 1 (.string ⟨#[]⟩)).set 2 (.int .i64 0)).set 3 (.slice none 0 0)).set 4 (.int .i64 0)).set 5 (.int .i64 0)).set 6 (.int .i64 0); simpa using this)
  have hgr3 : W2.grownBy W3 (some (w.heap.size + 1 + 1)) := by rw [← hW3]; exact grown_set (grown_set (grown_set (grown_set (grown_set (grown_set (grown_set (grown_refl W2 (w.heap.size + 1 + 1)) 0 (.int .i64 0)) 1 (.string ⟨#[]⟩)) 2 (.int .i64 0)) 3 (.slice none 0 0)) 4 (.int .i64 0)) 5 (.int .i64 0)) 6 (.int .i64 0)
  have HB_3 := Lib.hid (below_grown HB_2.out hgr3 (by omega))
  have hw_3 := HB_3.out.size
  have hws_3 := hgr3.size
  have HYc_3 := Lib.hid ((Bytes.grown HYc_2.out (Nat.le_refl _) HS2_2.out rfl hgr3).more hws_3)
  clear HYc_2
  clear hW3
  clear f0_2_0 f0_2_1 f0_2_2 f0_2_3 f0_2_4 f0_2_5 f0_2_6 f0_2_7 f0_2_8 f0_2_9 HS0_2 f1_2_0 f1_2_1 f1_2_2 f1_2_3 f1_2_4 f1_2_5 f1_2_6 HS1_2 hf1_2 f2_2_0 f2_2_1 f2_2_2 f2_2_3 f2_2_4 f2_2_5 f2_2_6 HS2_2 hf2_2
  clear hgr3
  obtain ⟨f0_3_0, f0_3_1, f0_3_2, f0_3_3, f0_3_4, f0_3_5, f0_3_6, f0_3_7, f0_3_8, f0_3_9⟩ := str10 HS0_3.out
  have hl0_3 := HS0_3.out.lt
  obtain ⟨f1_3_0, f1_3_1, f1_3_2, f1_3_3, f1_3_4, f1_3_5, f1_3_6⟩ := str7 HS1_3.out
  have hl1_3 := HS1_3.out.lt
  have hf1_3 := fun j => HS1_3.out.frozen j
  obtain ⟨f2_3_0, f2_3_1, f2_3_2, f2_3_3, f2_3_4, f2_3_5, f2_3_6⟩ := str7 HS2_3.out
  have hl2_3 := HS2_3.out.lt
  have hf2_3 := fun j => HS2_3.out.frozen j
  generalize hW4 : W3.alloc (.cells #[.int .i64 0, .slice A1 0 c1, .int .i64 0, .int .i64 0, .int .i64 0] 37) = W4
  have HS0_4 : Hid (Str W4 (w.heap.size) #[.int .i64 3, .string qk, .int .i64 pst, .string pk, .int .i64 pkd, .slice Ap np cp, .int .i64 plo, .int .i64 phi, .int .i64 pva, .int .i64 un]) := Lib.hid (by rw [← hW4]; exact HS0_3.out.alloc _)
  have HS1_4 : Hid (Str W4 (w.heap.size + 1) #[.int .i64 1, .string qk, .int .i64 qkd, .slice Aq nq cq, .int .i64 qlo, .int .i64 qhi, .int .i64 qva]) := Lib.hid (by rw [← hW4]; exact HS1_3.out.alloc _)
  have HS2_4 : Hid (Str W4 (w.heap.size + 1 + 1) #[.int .i64 0, .string ⟨#[]⟩, .int .i64 0, .slice none 0 0, .int .i64 0, .int .i64 0, .int .i64 0]) := Lib.hid (by rw [← hW4]; exact HS2_3.out.alloc _)
  have HS3_4 : Hid (Str W4 W3.heap.size #[.int .i64 0, .slice A1 0 c1, .int .i64 0, .int .i64 0, .int .i64 0]) := Lib.hid (by rw [← hW4]; exact Str.new W3 #[.int .i64 0, .slice A1 0 c1, .int .i64 0, .int .i64 0, .int .i64 0] 37)
  have hba4 : Below W3.heap.size W3 W4 := by rw [← hW4]; exact balloc (bsame _) _
  have HB_4 := Lib.hid (bstep HB_3.out hba4)
  have hw_4 := HB_4.out.size
  have hws_4 := hba4.size
  have HYc_4 := Lib.hid (HYc_3.out.next hba4)
  clear HYc_3
  clear hW4
  clear f0_3_0 f0_3_1 f0_3_2 f0_3_3 f0_3_4 f0_3_5 f0_3_6 f0_3_7 f0_3_8 f0_3_9 HS0_3 f1_3_0 f1_3_1 f1_3_2 f1_3_3 f1_3_4 f1_3_5 f1_3_6 HS1_3 hf1_3 f2_3_0 f2_3_1 f2_3_2 f2_3_3 f2_3_4 f2_3_5 f2_3_6 HS2_3 hf2_3
  obtain ⟨f0_4_0, f0_4_1, f0_4_2, f0_4_3, f0_4_4, f0_4_5, f0_4_6, f0_4_7, f0_4_8, f0_4_9⟩ := str10 HS0_4.out
  have hl0_4 := HS0_4.out.lt
  obtain ⟨f1_4_0, f1_4_1, f1_4_2, f1_4_3, f1_4_4, f1_4_5, f1_4_6⟩ := str7 HS1_4.out
  have hl1_4 := HS1_4.out.lt
  have hf1_4 := fun j => HS1_4.out.frozen j
  obtain ⟨f2_4_0, f2_4_1, f2_4_2, f2_4_3, f2_4_4, f2_4_5, f2_4_6⟩ := str7 HS2_4.out
  have hl2_4 := HS2_4.out.lt
  have hf2_4 := fun j => HS2_4.out.frozen j
  obtain ⟨f3_4_0, f3_4_1, f3_4_2, f3_4_3, f3_4_4⟩ := str5 HS3_4.out
  have hl3_4 := HS3_4.out.lt
  clear hba4
  exact bodyPost_ret (v := .tuple #[.agg #[.int .i64 0, .string ⟨#[]⟩, .int .i64 0, .slice none 0 0, .int .i64 0, .int .i64 0, .int .i64 0], .int .i64 8]) (by simp [results, Try.results41, go_sem, *]) rfl ⟨none, 0, 0, rfl, Bytes.none_ _ _, HB_4.out⟩

set_option maxRecDepth 100000 in
set_option maxHeartbeats 1000000 in
theorem apply3_out (un : Int) (Ap : Option Addr) (np cp Bp : Nat) (pst : Int) (pk : ByteArray) (pkd : Int) (pda : List UInt8) (plo phi pva : Int) (Aq : Option Addr) (nq cq Bq : Nat) (qk : ByteArray) (qkd : Int) (qda : List UInt8) (qlo qhi qva : Int) (w : World) (hp : Bytes w Bp Ap np cp pda) (hBp : Bp ≤ w.heap.size) (hnp : np ≤ 140737488355328) (hq : Bytes w Bq Aq nq cq qda) (hBq : Bq ≤ w.heap.size) (hnq : nq ≤ 140737488355328) (hun : In64 un) (hqv : In64 qva) (hql : In64 qlo) (hqh : In64 qhi) (hr : (qkd = 2 ∧ CellP.right ⟨qkd, qda, qlo, qhi, qva⟩ = true)) (hf : WideP.fits (qva - un) = true) (ho : (qva - un < qlo ∨ qhi < qva - un)) : Calls Try.prog 41 #[.agg #[.int .i64 3, .string qk, .int .i64 pst, .string pk, .int .i64 pkd, .slice Ap np cp, .int .i64 plo, .int .i64 phi, .int .i64 pva, .int .i64 un], .agg #[.int .i64 1, .string qk, .int .i64 qkd, .slice Aq nq cq, .int .i64 qlo, .int .i64 qhi, .int .i64 qva]] w (SlotGet.GotItem w (UndoP.apply ⟨3, qk, ⟨pst, pk, ⟨pkd, pda, plo, phi, pva⟩⟩, un⟩ ⟨1, qk, ⟨qkd, qda, qlo, qhi, qva⟩⟩)) := by
  rw [UndoP.apply_out _ _ (by simp) ⟨rfl, rfl⟩ hr (by simpa [UndoP.sum] using ho)]
  have hn0 : WideP.num (qva - un) = (qva - un) := by simp [WideP.num, hf]
  obtain ⟨sv, hsv⟩ : ∃ sv : Int, sv = (qva - un) := ⟨_, rfl⟩
  have HNUM : Hid (WideP.num (qva - un) = sv) := Lib.hid (by rw [hn0, hsv])
  have HFIT := Lib.hid hf
  have HV : Hid (CellP.set ⟨qkd, qda, qlo, qhi, qva⟩ sv = ((⟨0, [], 0, 0, 0⟩ : Cell), 8)) := Lib.hid (by unfold CellP.set; rw [if_pos hr, hsv, if_pos ho]; rfl)
  clear hsv hf hn0 hr ho
  have Hq := Lib.hid hq
  have hlq := hq.len
  have hcq := Nat.le_trans hq.2.1 hq.2.2.1
  have HS : Hid (∀ W, Calls Try.prog 77 #[.agg #[.int .i64 qkd, .slice Aq nq cq, .int .i64 qlo, .int .i64 qhi, .int .i64 qva], .int .i64 sv] W (CellW.GivesCell W (⟨0, [], 0, 0, 0⟩ : Cell) 8)) := Lib.hid (fun W => by have h := CellW.set_any Aq nq cq ⟨qkd, qda, qlo, qhi, qva⟩ sv W hlq hcq; rw [HV.out] at h; exact h)
  have HA : Hid (∀ W, Calls Try.prog 76 #[.int .i64 qva, .int .i64 un] W fun e w' => e = .returned (.tuple #[.int .i64 sv, .bool true]) ∧ Below W.heap.size W w') := Lib.hid (fun W => by have h := WideW.sub_any qva un hqv.1 hqv.2 hun.1 hun.2 W; rw [HNUM.out, HFIT.out] at h; exact h)
  clear hp hq hlq hcq hun hqv hql hqh HV HNUM HFIT
  go_enter Try.func41, Try.ntmps41
  go_wp2_with fail
  generalize hW0 : (((w).alloc (.cells #[.int .i64 3, .string qk, .int .i64 pst, .string pk, .int .i64 pkd, .slice Ap np cp, .int .i64 plo, .int .i64 phi, .int .i64 pva, .int .i64 un] 62)).alloc (.cells #[.int .i64 1, .string qk, .int .i64 qkd, .slice Aq nq cq, .int .i64 qlo, .int .i64 qhi, .int .i64 qva] 54)).alloc (.cells #[.int .i64 0, .string ⟨#[]⟩, .int .i64 0, .slice none 0 0, .int .i64 0, .int .i64 0, .int .i64 0] 54) = W0
  have HS0_0 : Hid (Str W0 (w.heap.size) #[.int .i64 3, .string qk, .int .i64 pst, .string pk, .int .i64 pkd, .slice Ap np cp, .int .i64 plo, .int .i64 phi, .int .i64 pva, .int .i64 un]) := Lib.hid (by rw [← hW0]; have := ((Str.new (w) #[.int .i64 3, .string qk, .int .i64 pst, .string pk, .int .i64 pkd, .slice Ap np cp, .int .i64 plo, .int .i64 phi, .int .i64 pva, .int .i64 un] 62).alloc (.cells #[.int .i64 1, .string qk, .int .i64 qkd, .slice Aq nq cq, .int .i64 qlo, .int .i64 qhi, .int .i64 qva] 54)).alloc (.cells #[.int .i64 0, .string ⟨#[]⟩, .int .i64 0, .slice none 0 0, .int .i64 0, .int .i64 0, .int .i64 0] 54); simpa using this)
  have HS1_0 : Hid (Str W0 (w.heap.size + 1) #[.int .i64 1, .string qk, .int .i64 qkd, .slice Aq nq cq, .int .i64 qlo, .int .i64 qhi, .int .i64 qva]) := Lib.hid (by rw [← hW0]; have := (Str.new ((w).alloc (.cells #[.int .i64 3, .string qk, .int .i64 pst, .string pk, .int .i64 pkd, .slice Ap np cp, .int .i64 plo, .int .i64 phi, .int .i64 pva, .int .i64 un] 62)) #[.int .i64 1, .string qk, .int .i64 qkd, .slice Aq nq cq, .int .i64 qlo, .int .i64 qhi, .int .i64 qva] 54).alloc (.cells #[.int .i64 0, .string ⟨#[]⟩, .int .i64 0, .slice none 0 0, .int .i64 0, .int .i64 0, .int .i64 0] 54); simpa using this)
  have HS2_0 : Hid (Str W0 (w.heap.size + 1 + 1) #[.int .i64 0, .string ⟨#[]⟩, .int .i64 0, .slice none 0 0, .int .i64 0, .int .i64 0, .int .i64 0]) := Lib.hid (by rw [← hW0]; have := Str.new (((w).alloc (.cells #[.int .i64 3, .string qk, .int .i64 pst, .string pk, .int .i64 pkd, .slice Ap np cp, .int .i64 plo, .int .i64 phi, .int .i64 pva, .int .i64 un] 62)).alloc (.cells #[.int .i64 1, .string qk, .int .i64 qkd, .slice Aq nq cq, .int .i64 qlo, .int .i64 qhi, .int .i64 qva] 54)) #[.int .i64 0, .string ⟨#[]⟩, .int .i64 0, .slice none 0 0, .int .i64 0, .int .i64 0, .int .i64 0] 54; simpa using this)
  have HB_0 : Hid (Below w.heap.size w W0) := Lib.hid (by rw [← hW0]; exact balloc (balloc (balloc (bsame w) _) _) _)
  have hw_0 := HB_0.out.size
  clear hW0
  obtain ⟨f0_0_0, f0_0_1, f0_0_2, f0_0_3, f0_0_4, f0_0_5, f0_0_6, f0_0_7, f0_0_8, f0_0_9⟩ := str10 HS0_0.out
  have hl0_0 := HS0_0.out.lt
  obtain ⟨f1_0_0, f1_0_1, f1_0_2, f1_0_3, f1_0_4, f1_0_5, f1_0_6⟩ := str7 HS1_0.out
  have hl1_0 := HS1_0.out.lt
  have hf1_0 := fun j => HS1_0.out.frozen j
  obtain ⟨f2_0_0, f2_0_1, f2_0_2, f2_0_3, f2_0_4, f2_0_5, f2_0_6⟩ := str7 HS2_0.out
  have hl2_0 := HS2_0.out.lt
  have hf2_0 := fun j => HS2_0.out.frozen j
  refine (HA.out _).mono ?_
  rintro e W1 ⟨rfl, hb1⟩
  have HS0_1 := Lib.hid (HS0_0.out.next hb1)
  have HS1_1 := Lib.hid (HS1_0.out.next hb1)
  have HS2_1 := Lib.hid (HS2_0.out.next hb1)
  have HB_1 := Lib.hid (bstep HB_0.out hb1)
  have hw_1 := HB_1.out.size
  have hws_1 := (hb1).size
  clear f0_0_0 f0_0_1 f0_0_2 f0_0_3 f0_0_4 f0_0_5 f0_0_6 f0_0_7 f0_0_8 f0_0_9 HS0_0 f1_0_0 f1_0_1 f1_0_2 f1_0_3 f1_0_4 f1_0_5 f1_0_6 HS1_0 hf1_0 f2_0_0 f2_0_1 f2_0_2 f2_0_3 f2_0_4 f2_0_5 f2_0_6 HS2_0 hf2_0
  clear hb1
  obtain ⟨f0_1_0, f0_1_1, f0_1_2, f0_1_3, f0_1_4, f0_1_5, f0_1_6, f0_1_7, f0_1_8, f0_1_9⟩ := str10 HS0_1.out
  have hl0_1 := HS0_1.out.lt
  obtain ⟨f1_1_0, f1_1_1, f1_1_2, f1_1_3, f1_1_4, f1_1_5, f1_1_6⟩ := str7 HS1_1.out
  have hl1_1 := HS1_1.out.lt
  have hf1_1 := fun j => HS1_1.out.frozen j
  obtain ⟨f2_1_0, f2_1_1, f2_1_2, f2_1_3, f2_1_4, f2_1_5, f2_1_6⟩ := str7 HS2_1.out
  have hl2_1 := HS2_1.out.lt
  have hf2_1 := fun j => HS2_1.out.frozen j
  go_wp2_with fail
  refine (HS.out _).mono ?_
  rintro e W2 ⟨A1, n1, c1, rfl, hy1, hb2⟩
  have HS0_2 := Lib.hid (HS0_1.out.next hb2)
  have HS1_2 := Lib.hid (HS1_1.out.next hb2)
  have HS2_2 := Lib.hid (HS2_1.out.next hb2)
  have HB_2 := Lib.hid (bstep HB_1.out hb2)
  have hw_2 := HB_2.out.size
  have hws_2 := (hb2).size
  clear f0_1_0 f0_1_1 f0_1_2 f0_1_3 f0_1_4 f0_1_5 f0_1_6 f0_1_7 f0_1_8 f0_1_9 HS0_1 f1_1_0 f1_1_1 f1_1_2 f1_1_3 f1_1_4 f1_1_5 f1_1_6 HS1_1 hf1_1 f2_1_0 f2_1_1 f2_1_2 f2_1_3 f2_1_4 f2_1_5 f2_1_6 HS2_1 hf2_1
  clear hb2
  obtain ⟨f0_2_0, f0_2_1, f0_2_2, f0_2_3, f0_2_4, f0_2_5, f0_2_6, f0_2_7, f0_2_8, f0_2_9⟩ := str10 HS0_2.out
  have hl0_2 := HS0_2.out.lt
  obtain ⟨f1_2_0, f1_2_1, f1_2_2, f1_2_3, f1_2_4, f1_2_5, f1_2_6⟩ := str7 HS1_2.out
  have hl1_2 := HS1_2.out.lt
  have hf1_2 := fun j => HS1_2.out.frozen j
  obtain ⟨f2_2_0, f2_2_1, f2_2_2, f2_2_3, f2_2_4, f2_2_5, f2_2_6⟩ := str7 HS2_2.out
  have hl2_2 := HS2_2.out.lt
  have hf2_2 := fun j => HS2_2.out.frozen j
  have HYc_2 := Lib.hid (hy1)
  clear hy1
  have hnl := HYc_2.out.len
  simp only [List.length_nil] at hnl
  subst hnl
  go_wp2_with fail
  generalize hW3 : (((((((W2).setCell ⟨w.heap.size + 1 + 1, 0, none⟩ (.int .i64 0)).setCell ⟨w.heap.size + 1 + 1, 1, none⟩ (.string ⟨#[]⟩)).setCell ⟨w.heap.size + 1 + 1, 2, none⟩ (.int .i64 0)).setCell ⟨w.heap.size + 1 + 1, 3, none⟩ (.slice none 0 0)).setCell ⟨w.heap.size + 1 + 1, 4, none⟩ (.int .i64 0)).setCell ⟨w.heap.size + 1 + 1, 5, none⟩ (.int .i64 0)).setCell ⟨w.heap.size + 1 + 1, 6, none⟩ (.int .i64 0) = W3
  have HS0_3 : Hid (Str W3 (w.heap.size) #[.int .i64 3, .string qk, .int .i64 pst, .string pk, .int .i64 pkd, .slice Ap np cp, .int .i64 plo, .int .i64 phi, .int .i64 pva, .int .i64 un]) := Lib.hid (by rw [← hW3]; exact (((((((HS0_2.out).other 0 _ (by omega)).other 1 _ (by omega)).other 2 _ (by omega)).other 3 _ (by omega)).other 4 _ (by omega)).other 5 _ (by omega)).other 6 _ (by omega))
  have HS1_3 : Hid (Str W3 (w.heap.size + 1) #[.int .i64 1, .string qk, .int .i64 qkd, .slice Aq nq cq, .int .i64 qlo, .int .i64 qhi, .int .i64 qva]) := Lib.hid (by rw [← hW3]; exact (((((((HS1_2.out).other 0 _ (by omega)).other 1 _ (by omega)).other 2 _ (by omega)).other 3 _ (by omega)).other 4 _ (by omega)).other 5 _ (by omega)).other 6 _ (by omega))
  have HS2_3 : Hid (Str W3 (w.heap.size + 1 + 1) #[.int .i64 0, .string ⟨#[]⟩, .int .i64 0, .slice none 0 0, .int .i64 0, .int .i64 0, .int .i64 0]) := Lib.hid (by rw [← hW3]; have := (((((((HS2_2.out).set 0 (.int .i64 0)).set 1 (.string ⟨#[]⟩)).set 2 (.int .i64 0)).set 3 (.slice none 0 0)).set 4 (.int .i64 0)).set 5 (.int .i64 0)).set 6 (.int .i64 0); simpa using this)
  have hgr3 : W2.grownBy W3 (some (w.heap.size + 1 + 1)) := by rw [← hW3]; exact grown_set (grown_set (grown_set (grown_set (grown_set (grown_set (grown_set (grown_refl W2 (w.heap.size + 1 + 1)) 0 (.int .i64 0)) 1 (.string ⟨#[]⟩)) 2 (.int .i64 0)) 3 (.slice none 0 0)) 4 (.int .i64 0)) 5 (.int .i64 0)) 6 (.int .i64 0)
  have HB_3 := Lib.hid (below_grown HB_2.out hgr3 (by omega))
  have hw_3 := HB_3.out.size
  have hws_3 := hgr3.size
  have HYc_3 := Lib.hid ((Bytes.grown HYc_2.out (Nat.le_refl _) HS2_2.out rfl hgr3).more hws_3)
  clear HYc_2
  clear hW3
  clear f0_2_0 f0_2_1 f0_2_2 f0_2_3 f0_2_4 f0_2_5 f0_2_6 f0_2_7 f0_2_8 f0_2_9 HS0_2 f1_2_0 f1_2_1 f1_2_2 f1_2_3 f1_2_4 f1_2_5 f1_2_6 HS1_2 hf1_2 f2_2_0 f2_2_1 f2_2_2 f2_2_3 f2_2_4 f2_2_5 f2_2_6 HS2_2 hf2_2
  clear hgr3
  obtain ⟨f0_3_0, f0_3_1, f0_3_2, f0_3_3, f0_3_4, f0_3_5, f0_3_6, f0_3_7, f0_3_8, f0_3_9⟩ := str10 HS0_3.out
  have hl0_3 := HS0_3.out.lt
  obtain ⟨f1_3_0, f1_3_1, f1_3_2, f1_3_3, f1_3_4, f1_3_5, f1_3_6⟩ := str7 HS1_3.out
  have hl1_3 := HS1_3.out.lt
  have hf1_3 := fun j => HS1_3.out.frozen j
  obtain ⟨f2_3_0, f2_3_1, f2_3_2, f2_3_3, f2_3_4, f2_3_5, f2_3_6⟩ := str7 HS2_3.out
  have hl2_3 := HS2_3.out.lt
  have hf2_3 := fun j => HS2_3.out.frozen j
  generalize hW4 : W3.alloc (.cells #[.int .i64 0, .slice A1 0 c1, .int .i64 0, .int .i64 0, .int .i64 0] 37) = W4
  have HS0_4 : Hid (Str W4 (w.heap.size) #[.int .i64 3, .string qk, .int .i64 pst, .string pk, .int .i64 pkd, .slice Ap np cp, .int .i64 plo, .int .i64 phi, .int .i64 pva, .int .i64 un]) := Lib.hid (by rw [← hW4]; exact HS0_3.out.alloc _)
  have HS1_4 : Hid (Str W4 (w.heap.size + 1) #[.int .i64 1, .string qk, .int .i64 qkd, .slice Aq nq cq, .int .i64 qlo, .int .i64 qhi, .int .i64 qva]) := Lib.hid (by rw [← hW4]; exact HS1_3.out.alloc _)
  have HS2_4 : Hid (Str W4 (w.heap.size + 1 + 1) #[.int .i64 0, .string ⟨#[]⟩, .int .i64 0, .slice none 0 0, .int .i64 0, .int .i64 0, .int .i64 0]) := Lib.hid (by rw [← hW4]; exact HS2_3.out.alloc _)
  have HS3_4 : Hid (Str W4 W3.heap.size #[.int .i64 0, .slice A1 0 c1, .int .i64 0, .int .i64 0, .int .i64 0]) := Lib.hid (by rw [← hW4]; exact Str.new W3 #[.int .i64 0, .slice A1 0 c1, .int .i64 0, .int .i64 0, .int .i64 0] 37)
  have hba4 : Below W3.heap.size W3 W4 := by rw [← hW4]; exact balloc (bsame _) _
  have HB_4 := Lib.hid (bstep HB_3.out hba4)
  have hw_4 := HB_4.out.size
  have hws_4 := hba4.size
  have HYc_4 := Lib.hid (HYc_3.out.next hba4)
  clear HYc_3
  clear hW4
  clear f0_3_0 f0_3_1 f0_3_2 f0_3_3 f0_3_4 f0_3_5 f0_3_6 f0_3_7 f0_3_8 f0_3_9 HS0_3 f1_3_0 f1_3_1 f1_3_2 f1_3_3 f1_3_4 f1_3_5 f1_3_6 HS1_3 hf1_3 f2_3_0 f2_3_1 f2_3_2 f2_3_3 f2_3_4 f2_3_5 f2_3_6 HS2_3 hf2_3
  obtain ⟨f0_4_0, f0_4_1, f0_4_2, f0_4_3, f0_4_4, f0_4_5, f0_4_6, f0_4_7, f0_4_8, f0_4_9⟩ := str10 HS0_4.out
  have hl0_4 := HS0_4.out.lt
  obtain ⟨f1_4_0, f1_4_1, f1_4_2, f1_4_3, f1_4_4, f1_4_5, f1_4_6⟩ := str7 HS1_4.out
  have hl1_4 := HS1_4.out.lt
  have hf1_4 := fun j => HS1_4.out.frozen j
  obtain ⟨f2_4_0, f2_4_1, f2_4_2, f2_4_3, f2_4_4, f2_4_5, f2_4_6⟩ := str7 HS2_4.out
  have hl2_4 := HS2_4.out.lt
  have hf2_4 := fun j => HS2_4.out.frozen j
  obtain ⟨f3_4_0, f3_4_1, f3_4_2, f3_4_3, f3_4_4⟩ := str5 HS3_4.out
  have hl3_4 := HS3_4.out.lt
  clear hba4
  exact bodyPost_ret (v := .tuple #[.agg #[.int .i64 0, .string ⟨#[]⟩, .int .i64 0, .slice none 0 0, .int .i64 0, .int .i64 0, .int .i64 0], .int .i64 8]) (by simp [results, Try.results41, go_sem, *]) rfl ⟨none, 0, 0, rfl, Bytes.none_ _ _, HB_4.out⟩

set_option maxRecDepth 100000 in
set_option maxHeartbeats 1000000 in
theorem apply3_ok (un : Int) (Ap : Option Addr) (np cp Bp : Nat) (pst : Int) (pk : ByteArray) (pkd : Int) (pda : List UInt8) (plo phi pva : Int) (Aq : Option Addr) (nq cq Bq : Nat) (qk : ByteArray) (qkd : Int) (qda : List UInt8) (qlo qhi qva : Int) (w : World) (hp : Bytes w Bp Ap np cp pda) (hBp : Bp ≤ w.heap.size) (hnp : np ≤ 140737488355328) (hq : Bytes w Bq Aq nq cq qda) (hBq : Bq ≤ w.heap.size) (hnq : nq ≤ 140737488355328) (hun : In64 un) (hqv : In64 qva) (hql : In64 qlo) (hqh : In64 qhi) (hr : (qkd = 2 ∧ CellP.right ⟨qkd, qda, qlo, qhi, qva⟩ = true)) (hf : WideP.fits (qva - un) = true) (ho : ¬ (qva - un < qlo ∨ qhi < qva - un)) : Calls Try.prog 41 #[.agg #[.int .i64 3, .string qk, .int .i64 pst, .string pk, .int .i64 pkd, .slice Ap np cp, .int .i64 plo, .int .i64 phi, .int .i64 pva, .int .i64 un], .agg #[.int .i64 1, .string qk, .int .i64 qkd, .slice Aq nq cq, .int .i64 qlo, .int .i64 qhi, .int .i64 qva]] w (SlotGet.GotItem w (UndoP.apply ⟨3, qk, ⟨pst, pk, ⟨pkd, pda, plo, phi, pva⟩⟩, un⟩ ⟨1, qk, ⟨qkd, qda, qlo, qhi, qva⟩⟩)) := by
  rw [UndoP.apply_ok _ _ (by simp) ⟨rfl, rfl⟩ hr (by simpa [UndoP.sum] using ho)]
  have hn0 : WideP.num (qva - un) = (qva - un) := by simp [WideP.num, hf]
  obtain ⟨sv, hsv⟩ : ∃ sv : Int, sv = (qva - un) := ⟨_, rfl⟩
  have HNUM : Hid (WideP.num (qva - un) = sv) := Lib.hid (by rw [hn0, hsv])
  have HFIT := Lib.hid hf
  have HSV : Hid (UndoP.sum ⟨3, qk, ⟨pst, pk, ⟨pkd, pda, plo, phi, pva⟩⟩, un⟩ ⟨1, qk, ⟨qkd, qda, qlo, qhi, qva⟩⟩ = sv) := Lib.hid (by rw [hsv]; simp [UndoP.sum])
  have HV : Hid (CellP.set ⟨qkd, qda, qlo, qhi, qva⟩ sv = (⟨2, [], qlo, qhi, sv⟩, 0)) := Lib.hid (by unfold CellP.set; rw [if_pos hr, hsv, if_neg ho])
  clear hsv hf hn0 hr ho
  have Hq := Lib.hid hq
  have hlq := hq.len
  have hcq := Nat.le_trans hq.2.1 hq.2.2.1
  have HS : Hid (∀ W, Calls Try.prog 77 #[.agg #[.int .i64 qkd, .slice Aq nq cq, .int .i64 qlo, .int .i64 qhi, .int .i64 qva], .int .i64 sv] W (CellW.GivesCell W (⟨2, [], qlo, qhi, sv⟩ : Cell) 0)) := Lib.hid (fun W => by have h := CellW.set_any Aq nq cq ⟨qkd, qda, qlo, qhi, qva⟩ sv W hlq hcq; rw [HV.out] at h; exact h)
  have HA : Hid (∀ W, Calls Try.prog 76 #[.int .i64 qva, .int .i64 un] W fun e w' => e = .returned (.tuple #[.int .i64 sv, .bool true]) ∧ Below W.heap.size W w') := Lib.hid (fun W => by have h := WideW.sub_any qva un hqv.1 hqv.2 hun.1 hun.2 W; rw [HNUM.out, HFIT.out] at h; exact h)
  clear hp hq hlq hcq hun hqv hql hqh HV HNUM HFIT
  go_enter Try.func41, Try.ntmps41
  go_wp2_with fail
  generalize hW0 : (((w).alloc (.cells #[.int .i64 3, .string qk, .int .i64 pst, .string pk, .int .i64 pkd, .slice Ap np cp, .int .i64 plo, .int .i64 phi, .int .i64 pva, .int .i64 un] 62)).alloc (.cells #[.int .i64 1, .string qk, .int .i64 qkd, .slice Aq nq cq, .int .i64 qlo, .int .i64 qhi, .int .i64 qva] 54)).alloc (.cells #[.int .i64 0, .string ⟨#[]⟩, .int .i64 0, .slice none 0 0, .int .i64 0, .int .i64 0, .int .i64 0] 54) = W0
  have HS0_0 : Hid (Str W0 (w.heap.size) #[.int .i64 3, .string qk, .int .i64 pst, .string pk, .int .i64 pkd, .slice Ap np cp, .int .i64 plo, .int .i64 phi, .int .i64 pva, .int .i64 un]) := Lib.hid (by rw [← hW0]; have := ((Str.new (w) #[.int .i64 3, .string qk, .int .i64 pst, .string pk, .int .i64 pkd, .slice Ap np cp, .int .i64 plo, .int .i64 phi, .int .i64 pva, .int .i64 un] 62).alloc (.cells #[.int .i64 1, .string qk, .int .i64 qkd, .slice Aq nq cq, .int .i64 qlo, .int .i64 qhi, .int .i64 qva] 54)).alloc (.cells #[.int .i64 0, .string ⟨#[]⟩, .int .i64 0, .slice none 0 0, .int .i64 0, .int .i64 0, .int .i64 0] 54); simpa using this)
  have HS1_0 : Hid (Str W0 (w.heap.size + 1) #[.int .i64 1, .string qk, .int .i64 qkd, .slice Aq nq cq, .int .i64 qlo, .int .i64 qhi, .int .i64 qva]) := Lib.hid (by rw [← hW0]; have := (Str.new ((w).alloc (.cells #[.int .i64 3, .string qk, .int .i64 pst, .string pk, .int .i64 pkd, .slice Ap np cp, .int .i64 plo, .int .i64 phi, .int .i64 pva, .int .i64 un] 62)) #[.int .i64 1, .string qk, .int .i64 qkd, .slice Aq nq cq, .int .i64 qlo, .int .i64 qhi, .int .i64 qva] 54).alloc (.cells #[.int .i64 0, .string ⟨#[]⟩, .int .i64 0, .slice none 0 0, .int .i64 0, .int .i64 0, .int .i64 0] 54); simpa using this)
  have HS2_0 : Hid (Str W0 (w.heap.size + 1 + 1) #[.int .i64 0, .string ⟨#[]⟩, .int .i64 0, .slice none 0 0, .int .i64 0, .int .i64 0, .int .i64 0]) := Lib.hid (by rw [← hW0]; have := Str.new (((w).alloc (.cells #[.int .i64 3, .string qk, .int .i64 pst, .string pk, .int .i64 pkd, .slice Ap np cp, .int .i64 plo, .int .i64 phi, .int .i64 pva, .int .i64 un] 62)).alloc (.cells #[.int .i64 1, .string qk, .int .i64 qkd, .slice Aq nq cq, .int .i64 qlo, .int .i64 qhi, .int .i64 qva] 54)) #[.int .i64 0, .string ⟨#[]⟩, .int .i64 0, .slice none 0 0, .int .i64 0, .int .i64 0, .int .i64 0] 54; simpa using this)
  have HB_0 : Hid (Below w.heap.size w W0) := Lib.hid (by rw [← hW0]; exact balloc (balloc (balloc (bsame w) _) _) _)
  have hw_0 := HB_0.out.size
  clear hW0
  obtain ⟨f0_0_0, f0_0_1, f0_0_2, f0_0_3, f0_0_4, f0_0_5, f0_0_6, f0_0_7, f0_0_8, f0_0_9⟩ := str10 HS0_0.out
  have hl0_0 := HS0_0.out.lt
  obtain ⟨f1_0_0, f1_0_1, f1_0_2, f1_0_3, f1_0_4, f1_0_5, f1_0_6⟩ := str7 HS1_0.out
  have hl1_0 := HS1_0.out.lt
  have hf1_0 := fun j => HS1_0.out.frozen j
  obtain ⟨f2_0_0, f2_0_1, f2_0_2, f2_0_3, f2_0_4, f2_0_5, f2_0_6⟩ := str7 HS2_0.out
  have hl2_0 := HS2_0.out.lt
  have hf2_0 := fun j => HS2_0.out.frozen j
  refine (HA.out _).mono ?_
  rintro e W1 ⟨rfl, hb1⟩
  have HS0_1 := Lib.hid (HS0_0.out.next hb1)
  have HS1_1 := Lib.hid (HS1_0.out.next hb1)
  have HS2_1 := Lib.hid (HS2_0.out.next hb1)
  have HB_1 := Lib.hid (bstep HB_0.out hb1)
  have hw_1 := HB_1.out.size
  have hws_1 := (hb1).size
  clear f0_0_0 f0_0_1 f0_0_2 f0_0_3 f0_0_4 f0_0_5 f0_0_6 f0_0_7 f0_0_8 f0_0_9 HS0_0 f1_0_0 f1_0_1 f1_0_2 f1_0_3 f1_0_4 f1_0_5 f1_0_6 HS1_0 hf1_0 f2_0_0 f2_0_1 f2_0_2 f2_0_3 f2_0_4 f2_0_5 f2_0_6 HS2_0 hf2_0
  clear hb1
  obtain ⟨f0_1_0, f0_1_1, f0_1_2, f0_1_3, f0_1_4, f0_1_5, f0_1_6, f0_1_7, f0_1_8, f0_1_9⟩ := str10 HS0_1.out
  have hl0_1 := HS0_1.out.lt
  obtain ⟨f1_1_0, f1_1_1, f1_1_2, f1_1_3, f1_1_4, f1_1_5, f1_1_6⟩ := str7 HS1_1.out
  have hl1_1 := HS1_1.out.lt
  have hf1_1 := fun j => HS1_1.out.frozen j
  obtain ⟨f2_1_0, f2_1_1, f2_1_2, f2_1_3, f2_1_4, f2_1_5, f2_1_6⟩ := str7 HS2_1.out
  have hl2_1 := HS2_1.out.lt
  have hf2_1 := fun j => HS2_1.out.frozen j
  go_wp2_with fail
  refine (HS.out _).mono ?_
  rintro e W2 ⟨A1, n1, c1, rfl, hy1, hb2⟩
  have HS0_2 := Lib.hid (HS0_1.out.next hb2)
  have HS1_2 := Lib.hid (HS1_1.out.next hb2)
  have HS2_2 := Lib.hid (HS2_1.out.next hb2)
  have HB_2 := Lib.hid (bstep HB_1.out hb2)
  have hw_2 := HB_2.out.size
  have hws_2 := (hb2).size
  clear f0_1_0 f0_1_1 f0_1_2 f0_1_3 f0_1_4 f0_1_5 f0_1_6 f0_1_7 f0_1_8 f0_1_9 HS0_1 f1_1_0 f1_1_1 f1_1_2 f1_1_3 f1_1_4 f1_1_5 f1_1_6 HS1_1 hf1_1 f2_1_0 f2_1_1 f2_1_2 f2_1_3 f2_1_4 f2_1_5 f2_1_6 HS2_1 hf2_1
  clear hb2
  obtain ⟨f0_2_0, f0_2_1, f0_2_2, f0_2_3, f0_2_4, f0_2_5, f0_2_6, f0_2_7, f0_2_8, f0_2_9⟩ := str10 HS0_2.out
  have hl0_2 := HS0_2.out.lt
  obtain ⟨f1_2_0, f1_2_1, f1_2_2, f1_2_3, f1_2_4, f1_2_5, f1_2_6⟩ := str7 HS1_2.out
  have hl1_2 := HS1_2.out.lt
  have hf1_2 := fun j => HS1_2.out.frozen j
  obtain ⟨f2_2_0, f2_2_1, f2_2_2, f2_2_3, f2_2_4, f2_2_5, f2_2_6⟩ := str7 HS2_2.out
  have hl2_2 := HS2_2.out.lt
  have hf2_2 := fun j => HS2_2.out.frozen j
  have HYc_2 := Lib.hid (hy1)
  clear hy1
  have hnl := HYc_2.out.len
  simp only [List.length_nil] at hnl
  subst hnl
  go_wp2_with fail
  generalize hW3 : (((((W2).setCell ⟨w.heap.size + 1, 2, none⟩ (.int .i64 2)).setCell ⟨w.heap.size + 1, 3, none⟩ (.slice A1 0 c1)).setCell ⟨w.heap.size + 1, 4, none⟩ (.int .i64 qlo)).setCell ⟨w.heap.size + 1, 5, none⟩ (.int .i64 qhi)).setCell ⟨w.heap.size + 1, 6, none⟩ (.int .i64 sv) = W3
  have HS0_3 : Hid (Str W3 (w.heap.size) #[.int .i64 3, .string qk, .int .i64 pst, .string pk, .int .i64 pkd, .slice Ap np cp, .int .i64 plo, .int .i64 phi, .int .i64 pva, .int .i64 un]) := Lib.hid (by rw [← hW3]; exact (((((HS0_2.out).other 2 _ (by omega)).other 3 _ (by omega)).other 4 _ (by omega)).other 5 _ (by omega)).other 6 _ (by omega))
  have HS1_3 : Hid (Str W3 (w.heap.size + 1) #[.int .i64 1, .string qk, .int .i64 2, .slice A1 0 c1, .int .i64 qlo, .int .i64 qhi, .int .i64 sv]) := Lib.hid (by rw [← hW3]; have := (((((HS1_2.out).set 2 (.int .i64 2)).set 3 (.slice A1 0 c1)).set 4 (.int .i64 qlo)).set 5 (.int .i64 qhi)).set 6 (.int .i64 sv); simpa using this)
  have HS2_3 : Hid (Str W3 (w.heap.size + 1 + 1) #[.int .i64 0, .string ⟨#[]⟩, .int .i64 0, .slice none 0 0, .int .i64 0, .int .i64 0, .int .i64 0]) := Lib.hid (by rw [← hW3]; exact (((((HS2_2.out).other 2 _ (by omega)).other 3 _ (by omega)).other 4 _ (by omega)).other 5 _ (by omega)).other 6 _ (by omega))
  have hgr3 : W2.grownBy W3 (some (w.heap.size + 1)) := by rw [← hW3]; exact grown_set (grown_set (grown_set (grown_set (grown_set (grown_refl W2 (w.heap.size + 1)) 2 (.int .i64 2)) 3 (.slice A1 0 c1)) 4 (.int .i64 qlo)) 5 (.int .i64 qhi)) 6 (.int .i64 sv)
  have HB_3 := Lib.hid (below_grown HB_2.out hgr3 (by omega))
  have hw_3 := HB_3.out.size
  have hws_3 := hgr3.size
  have HYc_3 := Lib.hid ((Bytes.grown HYc_2.out (Nat.le_refl _) HS1_2.out rfl hgr3).more hws_3)
  clear HYc_2
  clear hW3
  clear f0_2_0 f0_2_1 f0_2_2 f0_2_3 f0_2_4 f0_2_5 f0_2_6 f0_2_7 f0_2_8 f0_2_9 HS0_2 f1_2_0 f1_2_1 f1_2_2 f1_2_3 f1_2_4 f1_2_5 f1_2_6 HS1_2 hf1_2 f2_2_0 f2_2_1 f2_2_2 f2_2_3 f2_2_4 f2_2_5 f2_2_6 HS2_2 hf2_2
  clear hgr3
  obtain ⟨f0_3_0, f0_3_1, f0_3_2, f0_3_3, f0_3_4, f0_3_5, f0_3_6, f0_3_7, f0_3_8, f0_3_9⟩ := str10 HS0_3.out
  have hl0_3 := HS0_3.out.lt
  obtain ⟨f1_3_0, f1_3_1, f1_3_2, f1_3_3, f1_3_4, f1_3_5, f1_3_6⟩ := str7 HS1_3.out
  have hl1_3 := HS1_3.out.lt
  have hf1_3 := fun j => HS1_3.out.frozen j
  obtain ⟨f2_3_0, f2_3_1, f2_3_2, f2_3_3, f2_3_4, f2_3_5, f2_3_6⟩ := str7 HS2_3.out
  have hl2_3 := HS2_3.out.lt
  have hf2_3 := fun j => HS2_3.out.frozen j
  generalize hW4 : W3.alloc (.cells #[.int .i64 2, .slice A1 0 c1, .int .i64 qlo, .int .i64 qhi, .int .i64 sv] 37) = W4
  have HS0_4 : Hid (Str W4 (w.heap.size) #[.int .i64 3, .string qk, .int .i64 pst, .string pk, .int .i64 pkd, .slice Ap np cp, .int .i64 plo, .int .i64 phi, .int .i64 pva, .int .i64 un]) := Lib.hid (by rw [← hW4]; exact HS0_3.out.alloc _)
  have HS1_4 : Hid (Str W4 (w.heap.size + 1) #[.int .i64 1, .string qk, .int .i64 2, .slice A1 0 c1, .int .i64 qlo, .int .i64 qhi, .int .i64 sv]) := Lib.hid (by rw [← hW4]; exact HS1_3.out.alloc _)
  have HS2_4 : Hid (Str W4 (w.heap.size + 1 + 1) #[.int .i64 0, .string ⟨#[]⟩, .int .i64 0, .slice none 0 0, .int .i64 0, .int .i64 0, .int .i64 0]) := Lib.hid (by rw [← hW4]; exact HS2_3.out.alloc _)
  have HS3_4 : Hid (Str W4 W3.heap.size #[.int .i64 2, .slice A1 0 c1, .int .i64 qlo, .int .i64 qhi, .int .i64 sv]) := Lib.hid (by rw [← hW4]; exact Str.new W3 #[.int .i64 2, .slice A1 0 c1, .int .i64 qlo, .int .i64 qhi, .int .i64 sv] 37)
  have hba4 : Below W3.heap.size W3 W4 := by rw [← hW4]; exact balloc (bsame _) _
  have HB_4 := Lib.hid (bstep HB_3.out hba4)
  have hw_4 := HB_4.out.size
  have hws_4 := hba4.size
  have HYc_4 := Lib.hid (HYc_3.out.next hba4)
  clear HYc_3
  clear hW4
  clear f0_3_0 f0_3_1 f0_3_2 f0_3_3 f0_3_4 f0_3_5 f0_3_6 f0_3_7 f0_3_8 f0_3_9 HS0_3 f1_3_0 f1_3_1 f1_3_2 f1_3_3 f1_3_4 f1_3_5 f1_3_6 HS1_3 hf1_3 f2_3_0 f2_3_1 f2_3_2 f2_3_3 f2_3_4 f2_3_5 f2_3_6 HS2_3 hf2_3
  obtain ⟨f0_4_0, f0_4_1, f0_4_2, f0_4_3, f0_4_4, f0_4_5, f0_4_6, f0_4_7, f0_4_8, f0_4_9⟩ := str10 HS0_4.out
  have hl0_4 := HS0_4.out.lt
  obtain ⟨f1_4_0, f1_4_1, f1_4_2, f1_4_3, f1_4_4, f1_4_5, f1_4_6⟩ := str7 HS1_4.out
  have hl1_4 := HS1_4.out.lt
  have hf1_4 := fun j => HS1_4.out.frozen j
  obtain ⟨f2_4_0, f2_4_1, f2_4_2, f2_4_3, f2_4_4, f2_4_5, f2_4_6⟩ := str7 HS2_4.out
  have hl2_4 := HS2_4.out.lt
  have hf2_4 := fun j => HS2_4.out.frozen j
  obtain ⟨f3_4_0, f3_4_1, f3_4_2, f3_4_3, f3_4_4⟩ := str5 HS3_4.out
  have hl3_4 := HS3_4.out.lt
  clear hba4
  refine (own_any _ _ _ W4.heap.size _ _ _ [] _ _ _ _ HYc_4.out (Nat.le_refl _) (by omega)).mono ?_
  rintro e W5 ⟨A5, n5, c5, rfl, hy5, hb5⟩
  have HS0_5 := Lib.hid (HS0_4.out.next hb5)
  have HS1_5 := Lib.hid (HS1_4.out.next hb5)
  have HS2_5 := Lib.hid (HS2_4.out.next hb5)
  have HS3_5 := Lib.hid (HS3_4.out.next hb5)
  have HB_5 := Lib.hid (bstep HB_4.out hb5)
  have hw_5 := HB_5.out.size
  have hws_5 := (hb5).size
  have HYc_5 := Lib.hid (HYc_4.out.next hb5)
  clear HYc_4
  clear f0_4_0 f0_4_1 f0_4_2 f0_4_3 f0_4_4 f0_4_5 f0_4_6 f0_4_7 f0_4_8 f0_4_9 HS0_4 f1_4_0 f1_4_1 f1_4_2 f1_4_3 f1_4_4 f1_4_5 f1_4_6 HS1_4 hf1_4 f2_4_0 f2_4_1 f2_4_2 f2_4_3 f2_4_4 f2_4_5 f2_4_6 HS2_4 hf2_4 f3_4_0 f3_4_1 f3_4_2 f3_4_3 f3_4_4 HS3_4
  clear hb5
  obtain ⟨f0_5_0, f0_5_1, f0_5_2, f0_5_3, f0_5_4, f0_5_5, f0_5_6, f0_5_7, f0_5_8, f0_5_9⟩ := str10 HS0_5.out
  have hl0_5 := HS0_5.out.lt
  obtain ⟨f1_5_0, f1_5_1, f1_5_2, f1_5_3, f1_5_4, f1_5_5, f1_5_6⟩ := str7 HS1_5.out
  have hl1_5 := HS1_5.out.lt
  have hf1_5 := fun j => HS1_5.out.frozen j
  obtain ⟨f2_5_0, f2_5_1, f2_5_2, f2_5_3, f2_5_4, f2_5_5, f2_5_6⟩ := str7 HS2_5.out
  have hl2_5 := HS2_5.out.lt
  have hf2_5 := fun j => HS2_5.out.frozen j
  obtain ⟨f3_5_0, f3_5_1, f3_5_2, f3_5_3, f3_5_4⟩ := str5 HS3_5.out
  have hl3_5 := HS3_5.out.lt
  have HYx_5 := Lib.hid (hy5)
  clear hy5
  go_wp2_with fail
  generalize hW6 : (((((((W5).setCell ⟨w.heap.size + 1 + 1, 0, none⟩ (.int .i64 1)).setCell ⟨w.heap.size + 1 + 1, 1, none⟩ (.string qk)).setCell ⟨w.heap.size + 1 + 1, 2, none⟩ (.int .i64 2)).setCell ⟨w.heap.size + 1 + 1, 3, none⟩ (.slice A5 n5 c5)).setCell ⟨w.heap.size + 1 + 1, 4, none⟩ (.int .i64 qlo)).setCell ⟨w.heap.size + 1 + 1, 5, none⟩ (.int .i64 qhi)).setCell ⟨w.heap.size + 1 + 1, 6, none⟩ (.int .i64 sv) = W6
  have HS0_6 : Hid (Str W6 (w.heap.size) #[.int .i64 3, .string qk, .int .i64 pst, .string pk, .int .i64 pkd, .slice Ap np cp, .int .i64 plo, .int .i64 phi, .int .i64 pva, .int .i64 un]) := Lib.hid (by rw [← hW6]; exact (((((((HS0_5.out).other 0 _ (by omega)).other 1 _ (by omega)).other 2 _ (by omega)).other 3 _ (by omega)).other 4 _ (by omega)).other 5 _ (by omega)).other 6 _ (by omega))
  have HS1_6 : Hid (Str W6 (w.heap.size + 1) #[.int .i64 1, .string qk, .int .i64 2, .slice A1 0 c1, .int .i64 qlo, .int .i64 qhi, .int .i64 sv]) := Lib.hid (by rw [← hW6]; exact (((((((HS1_5.out).other 0 _ (by omega)).other 1 _ (by omega)).other 2 _ (by omega)).other 3 _ (by omega)).other 4 _ (by omega)).other 5 _ (by omega)).other 6 _ (by omega))
  have HS2_6 : Hid (Str W6 (w.heap.size + 1 + 1) #[.int .i64 1, .string qk, .int .i64 2, .slice A5 n5 c5, .int .i64 qlo, .int .i64 qhi, .int .i64 sv]) := Lib.hid (by rw [← hW6]; have := (((((((HS2_5.out).set 0 (.int .i64 1)).set 1 (.string qk)).set 2 (.int .i64 2)).set 3 (.slice A5 n5 c5)).set 4 (.int .i64 qlo)).set 5 (.int .i64 qhi)).set 6 (.int .i64 sv); simpa using this)
  have HS3_6 : Hid (Str W6 (W3.heap.size) #[.int .i64 2, .slice A1 0 c1, .int .i64 qlo, .int .i64 qhi, .int .i64 sv]) := Lib.hid (by rw [← hW6]; exact (((((((HS3_5.out).other 0 _ (by omega)).other 1 _ (by omega)).other 2 _ (by omega)).other 3 _ (by omega)).other 4 _ (by omega)).other 5 _ (by omega)).other 6 _ (by omega))
  have hgr6 : W5.grownBy W6 (some (w.heap.size + 1 + 1)) := by rw [← hW6]; exact grown_set (grown_set (grown_set (grown_set (grown_set (grown_set (grown_set (grown_refl W5 (w.heap.size + 1 + 1)) 0 (.int .i64 1)) 1 (.string qk)) 2 (.int .i64 2)) 3 (.slice A5 n5 c5)) 4 (.int .i64 qlo)) 5 (.int .i64 qhi)) 6 (.int .i64 sv)
  have HB_6 := Lib.hid (below_grown HB_5.out hgr6 (by omega))
  have hw_6 := HB_6.out.size
  have hws_6 := hgr6.size
  have HYc_6 := Lib.hid ((Bytes.grown HYc_5.out (Nat.le_refl _) HS2_5.out rfl hgr6).more hws_6)
  have HYx_6 := Lib.hid ((Bytes.grown HYx_5.out (Nat.le_refl _) HS2_5.out rfl hgr6).more hws_6)
  clear HYc_5 HYx_5
  clear hW6
  clear f0_5_0 f0_5_1 f0_5_2 f0_5_3 f0_5_4 f0_5_5 f0_5_6 f0_5_7 f0_5_8 f0_5_9 HS0_5 f1_5_0 f1_5_1 f1_5_2 f1_5_3 f1_5_4 f1_5_5 f1_5_6 HS1_5 hf1_5 f2_5_0 f2_5_1 f2_5_2 f2_5_3 f2_5_4 f2_5_5 f2_5_6 HS2_5 hf2_5 f3_5_0 f3_5_1 f3_5_2 f3_5_3 f3_5_4 HS3_5
  clear hgr6
  obtain ⟨f0_6_0, f0_6_1, f0_6_2, f0_6_3, f0_6_4, f0_6_5, f0_6_6, f0_6_7, f0_6_8, f0_6_9⟩ := str10 HS0_6.out
  have hl0_6 := HS0_6.out.lt
  obtain ⟨f1_6_0, f1_6_1, f1_6_2, f1_6_3, f1_6_4, f1_6_5, f1_6_6⟩ := str7 HS1_6.out
  have hl1_6 := HS1_6.out.lt
  have hf1_6 := fun j => HS1_6.out.frozen j
  obtain ⟨f2_6_0, f2_6_1, f2_6_2, f2_6_3, f2_6_4, f2_6_5, f2_6_6⟩ := str7 HS2_6.out
  have hl2_6 := HS2_6.out.lt
  have hf2_6 := fun j => HS2_6.out.frozen j
  obtain ⟨f3_6_0, f3_6_1, f3_6_2, f3_6_3, f3_6_4⟩ := str5 HS3_6.out
  have hl3_6 := HS3_6.out.lt
  exact bodyPost_ret (v := .tuple #[.agg #[.int .i64 1, .string qk, .int .i64 2, .slice A5 n5 c5, .int .i64 qlo, .int .i64 qhi, .int .i64 sv], .int .i64 0]) (by simp [results, Try.results41, go_sem, *]) rfl ⟨A5, n5, c5, by rw [HSV.out], HYx_6.out, HB_6.out⟩

theorem apply_any (act : Int) (uk : ByteArray) (un : Int) (Ap : Option Addr) (np cp Bp : Nat) (pst : Int) (pk : ByteArray) (pkd : Int) (pda : List UInt8) (plo phi pva : Int) (Aq : Option Addr) (nq cq Bq : Nat) (qst : Int) (qk : ByteArray) (qkd : Int) (qda : List UInt8) (qlo qhi qva : Int) (w : World) (hp : Bytes w Bp Ap np cp pda) (hBp : Bp ≤ w.heap.size) (hnp : np ≤ 140737488355328) (hq : Bytes w Bq Aq nq cq qda) (hBq : Bq ≤ w.heap.size) (hnq : nq ≤ 140737488355328) (hun : In64 un) (hqv : In64 qva) (hql : In64 qlo) (hqh : In64 qhi) : Calls Try.prog 41 #[.agg #[.int .i64 act, .string uk, .int .i64 pst, .string pk, .int .i64 pkd, .slice Ap np cp, .int .i64 plo, .int .i64 phi, .int .i64 pva, .int .i64 un], .agg #[.int .i64 qst, .string qk, .int .i64 qkd, .slice Aq nq cq, .int .i64 qlo, .int .i64 qhi, .int .i64 qva]] w (SlotGet.GotItem w (UndoP.apply ⟨act, uk, ⟨pst, pk, ⟨pkd, pda, plo, phi, pva⟩⟩, un⟩ ⟨qst, qk, ⟨qkd, qda, qlo, qhi, qva⟩⟩)) := by
  by_cases h1 : act = 1
  · subst h1
    exact apply_item uk un Ap np cp Bp pst pk pkd pda plo phi pva Aq nq cq Bq qst qk qkd qda qlo qhi qva w hp hBp hnp hq hBq hnq hun hqv hql hqh
  by_cases h2 : act = 2
  · subst h2
    by_cases hs : qst = 1
    case neg => exact apply2_st uk un Ap np cp Bp pst pk pkd pda plo phi pva Aq nq cq Bq qst qk qkd qda qlo qhi qva w hp hBp hnp hq hBq hnq hun hqv hql hqh hs
    subst hs
    by_cases hk : qk = uk
    case neg => exact apply2_key uk un Ap np cp Bp pst pk pkd pda plo phi pva Aq nq cq Bq qk qkd qda qlo qhi qva w hp hBp hnp hq hBq hnq hun hqv hql hqh hk
    subst hk
    by_cases hr : qkd = 2 ∧ CellP.right ⟨qkd, qda, qlo, qhi, qva⟩ = true
    case neg =>
      cases hf : WideP.fits (qva + un)
      · exact apply2_kind_false un Ap np cp Bp pst pk pkd pda plo phi pva Aq nq cq Bq qk qkd qda qlo qhi qva w hp hBp hnp hq hBq hnq hun hqv hql hqh hr hf
      · exact apply2_kind_true un Ap np cp Bp pst pk pkd pda plo phi pva Aq nq cq Bq qk qkd qda qlo qhi qva w hp hBp hnp hq hBq hnq hun hqv hql hqh hr hf
    by_cases ho : qva + un < qlo ∨ qhi < qva + un
    · cases hf : WideP.fits (qva + un)
      · by_cases hz : 0 < qlo ∨ qhi < 0
        · exact apply2_wide_out un Ap np cp Bp pst pk pkd pda plo phi pva Aq nq cq Bq qk qkd qda qlo qhi qva w hp hBp hnp hq hBq hnq hun hqv hql hqh hr hf ho hz
        · exact apply2_wide_in un Ap np cp Bp pst pk pkd pda plo phi pva Aq nq cq Bq qk qkd qda qlo qhi qva w hp hBp hnp hq hBq hnq hun hqv hql hqh hr hf ho hz
      · exact apply2_out un Ap np cp Bp pst pk pkd pda plo phi pva Aq nq cq Bq qk qkd qda qlo qhi qva w hp hBp hnp hq hBq hnq hun hqv hql hqh hr hf ho
    · have hf : WideP.fits (qva + un) = true := by
        have h1 := hql.1
        have h2 := hqh.2
        simp [WideP.fits]
        omega
      exact apply2_ok un Ap np cp Bp pst pk pkd pda plo phi pva Aq nq cq Bq qk qkd qda qlo qhi qva w hp hBp hnp hq hBq hnq hun hqv hql hqh hr hf ho
  by_cases h3 : act = 3
  · subst h3
    by_cases hs : qst = 1
    case neg => exact apply3_st uk un Ap np cp Bp pst pk pkd pda plo phi pva Aq nq cq Bq qst qk qkd qda qlo qhi qva w hp hBp hnp hq hBq hnq hun hqv hql hqh hs
    subst hs
    by_cases hk : qk = uk
    case neg => exact apply3_key uk un Ap np cp Bp pst pk pkd pda plo phi pva Aq nq cq Bq qk qkd qda qlo qhi qva w hp hBp hnp hq hBq hnq hun hqv hql hqh hk
    subst hk
    by_cases hr : qkd = 2 ∧ CellP.right ⟨qkd, qda, qlo, qhi, qva⟩ = true
    case neg =>
      cases hf : WideP.fits (qva - un)
      · exact apply3_kind_false un Ap np cp Bp pst pk pkd pda plo phi pva Aq nq cq Bq qk qkd qda qlo qhi qva w hp hBp hnp hq hBq hnq hun hqv hql hqh hr hf
      · exact apply3_kind_true un Ap np cp Bp pst pk pkd pda plo phi pva Aq nq cq Bq qk qkd qda qlo qhi qva w hp hBp hnp hq hBq hnq hun hqv hql hqh hr hf
    by_cases ho : qva - un < qlo ∨ qhi < qva - un
    · cases hf : WideP.fits (qva - un)
      · by_cases hz : 0 < qlo ∨ qhi < 0
        · exact apply3_wide_out un Ap np cp Bp pst pk pkd pda plo phi pva Aq nq cq Bq qk qkd qda qlo qhi qva w hp hBp hnp hq hBq hnq hun hqv hql hqh hr hf ho hz
        · exact apply3_wide_in un Ap np cp Bp pst pk pkd pda plo phi pva Aq nq cq Bq qk qkd qda qlo qhi qva w hp hBp hnp hq hBq hnq hun hqv hql hqh hr hf ho hz
      · exact apply3_out un Ap np cp Bp pst pk pkd pda plo phi pva Aq nq cq Bq qk qkd qda qlo qhi qva w hp hBp hnp hq hBq hnq hun hqv hql hqh hr hf ho
    · have hf : WideP.fits (qva - un) = true := by
        have h1 := hql.1
        have h2 := hqh.2
        simp [WideP.fits]
        omega
      exact apply3_ok un Ap np cp Bp pst pk pkd pda plo phi pva Aq nq cq Bq qk qkd qda qlo qhi qva w hp hBp hnp hq hBq hnq hun hqv hql hqh hr hf ho
  exact apply_arg act uk un Ap np cp Bp pst pk pkd pda plo phi pva Aq nq cq Bq qst qk qkd qda qlo qhi qva w hp hBp hnp hq hBq hnq hun hqv hql hqh h1 h2 h3
end Go.Proofs.Ytghgccgpgonlmaa.UndoW
namespace Go.Proofs.Ytghgccgpgonlmaa.UndoW
open Go.RowKit
set_option linter.unusedVariables false

set_option maxRecDepth 100000 in
set_option maxHeartbeats 1000000 in
theorem refSame_any (pact : Int) (puk : ByteArray) (Ap : Option Addr) (np cp Bp : Nat) (pst : Int) (pk : ByteArray) (pkd : Int) (pda : List UInt8) (plo phi pva : Int) (pun : Int) (qact : Int) (quk : ByteArray) (Aq : Option Addr) (nq cq Bq : Nat) (qst : Int) (qk : ByteArray) (qkd : Int) (qda : List UInt8) (qlo qhi qva : Int) (qun : Int) (w : World) (hp : Bytes w Bp Ap np cp pda) (hBp : Bp ≤ w.heap.size) (hq : Bytes w Bq Aq nq cq qda) (hBq : Bq ≤ w.heap.size) : Calls Try.prog 78 #[.agg #[.int .i64 pact, .string puk, .int .i64 pst, .string pk, .int .i64 pkd, .slice Ap np cp, .int .i64 plo, .int .i64 phi, .int .i64 pva, .int .i64 pun], .agg #[.int .i64 qact, .string quk, .int .i64 qst, .string qk, .int .i64 qkd, .slice Aq nq cq, .int .i64 qlo, .int .i64 qhi, .int .i64 qva, .int .i64 qun]] w fun e w' => e = .returned (.bool (UndoP.same ⟨pact, puk, ⟨pst, pk, ⟨pkd, pda, plo, phi, pva⟩⟩, pun⟩ ⟨qact, quk, ⟨qst, qk, ⟨qkd, qda, qlo, qhi, qva⟩⟩, qun⟩)) ∧ Below w.heap.size w w' := by
  have Hp := Lib.hid hp
  have Hq := Lib.hid hq
  clear hp hq
  by_cases h1 : pact = qact
  case neg =>
    have HE : Hid (UndoP.same ⟨pact, puk, ⟨pst, pk, ⟨pkd, pda, plo, phi, pva⟩⟩, pun⟩ ⟨qact, quk, ⟨qst, qk, ⟨qkd, qda, qlo, qhi, qva⟩⟩, qun⟩ = false) := Lib.hid (by simp [UndoP.same, h1])
    rw [HE.out]
    go_enter Try.func78, Try.ntmps78
    go_wp2
    go_ret
    exact ⟨rfl, balloc (balloc (bsame w) _) _⟩
  subst h1
  by_cases hk : puk = quk
  case neg =>
    replace hk := key_ne hk
    have HE : Hid (UndoP.same ⟨pact, puk, ⟨pst, pk, ⟨pkd, pda, plo, phi, pva⟩⟩, pun⟩ ⟨pact, quk, ⟨qst, qk, ⟨qkd, qda, qlo, qhi, qva⟩⟩, qun⟩ = false) := Lib.hid (by simp [UndoP.same, hk])
    rw [HE.out]
    go_enter Try.func78, Try.ntmps78
    go_wp2
    go_ret
    exact ⟨rfl, balloc (balloc (bsame w) _) _⟩
  subst hk
  by_cases h3 : pun = qun
  case neg =>
    have HE : Hid (UndoP.same ⟨pact, puk, ⟨pst, pk, ⟨pkd, pda, plo, phi, pva⟩⟩, pun⟩ ⟨pact, puk, ⟨qst, qk, ⟨qkd, qda, qlo, qhi, qva⟩⟩, qun⟩ = false) := Lib.hid (by simp [UndoP.same, h3])
    rw [HE.out]
    go_enter Try.func78, Try.ntmps78
    go_wp2
    go_ret
    exact ⟨rfl, balloc (balloc (bsame w) _) _⟩
  subst h3
  have HE : Hid (UndoP.same ⟨pact, puk, ⟨pst, pk, ⟨pkd, pda, plo, phi, pva⟩⟩, pun⟩ ⟨pact, puk, ⟨qst, qk, ⟨qkd, qda, qlo, qhi, qva⟩⟩, pun⟩ = SlotP.same ⟨pst, pk, ⟨pkd, pda, plo, phi, pva⟩⟩ ⟨qst, qk, ⟨qkd, qda, qlo, qhi, qva⟩⟩) := Lib.hid (by simp [UndoP.same])
  rw [HE.out]
  go_enter Try.func78, Try.ntmps78
  go_wp2_with fail
  generalize hW0 : ((w).alloc (.cells #[.int .i64 pact, .string puk, .int .i64 pst, .string pk, .int .i64 pkd, .slice Ap np cp, .int .i64 plo, .int .i64 phi, .int .i64 pva, .int .i64 pun] 62)).alloc (.cells #[.int .i64 pact, .string puk, .int .i64 qst, .string qk, .int .i64 qkd, .slice Aq nq cq, .int .i64 qlo, .int .i64 qhi, .int .i64 qva, .int .i64 pun] 62) = W0
  have HS0_0 : Hid (Str W0 (w.heap.size) #[.int .i64 pact, .string puk, .int .i64 pst, .string pk, .int .i64 pkd, .slice Ap np cp, .int .i64 plo, .int .i64 phi, .int .i64 pva, .int .i64 pun]) := Lib.hid (by rw [← hW0]; have := (Str.new (w) #[.int .i64 pact, .string puk, .int .i64 pst, .string pk, .int .i64 pkd, .slice Ap np cp, .int .i64 plo, .int .i64 phi, .int .i64 pva, .int .i64 pun] 62).alloc (.cells #[.int .i64 pact, .string puk, .int .i64 qst, .string qk, .int .i64 qkd, .slice Aq nq cq, .int .i64 qlo, .int .i64 qhi, .int .i64 qva, .int .i64 pun] 62); simpa using this)
  have HS1_0 : Hid (Str W0 (w.heap.size + 1) #[.int .i64 pact, .string puk, .int .i64 qst, .string qk, .int .i64 qkd, .slice Aq nq cq, .int .i64 qlo, .int .i64 qhi, .int .i64 qva, .int .i64 pun]) := Lib.hid (by rw [← hW0]; have := Str.new ((w).alloc (.cells #[.int .i64 pact, .string puk, .int .i64 pst, .string pk, .int .i64 pkd, .slice Ap np cp, .int .i64 plo, .int .i64 phi, .int .i64 pva, .int .i64 pun] 62)) #[.int .i64 pact, .string puk, .int .i64 qst, .string qk, .int .i64 qkd, .slice Aq nq cq, .int .i64 qlo, .int .i64 qhi, .int .i64 qva, .int .i64 pun] 62; simpa using this)
  have HB_0 : Hid (Below w.heap.size w W0) := Lib.hid (by rw [← hW0]; exact balloc (balloc (bsame w) _) _)
  have hw_0 := HB_0.out.size
  clear hW0
  obtain ⟨f0_0_0, f0_0_1, f0_0_2, f0_0_3, f0_0_4, f0_0_5, f0_0_6, f0_0_7, f0_0_8, f0_0_9⟩ := str10 HS0_0.out
  have hl0_0 := HS0_0.out.lt
  obtain ⟨f1_0_0, f1_0_1, f1_0_2, f1_0_3, f1_0_4, f1_0_5, f1_0_6, f1_0_7, f1_0_8, f1_0_9⟩ := str10 HS1_0.out
  have hl1_0 := HS1_0.out.lt
  refine (SlotW.refSame_any Ap Aq np cp nq cq Bp Bq ⟨pst, pk, ⟨pkd, pda, plo, phi, pva⟩⟩ ⟨qst, qk, ⟨qkd, qda, qlo, qhi, qva⟩⟩ _ (Hp.out.below (HB_0.out.mono hBp)) (Hq.out.below (HB_0.out.mono hBq)) (by omega) (by omega)).mono ?_
  rintro e W1 ⟨rfl, hb1⟩
  have HS0_1 := Lib.hid (HS0_0.out.next hb1)
  have HS1_1 := Lib.hid (HS1_0.out.next hb1)
  have HB_1 := Lib.hid (bstep HB_0.out hb1)
  have hw_1 := HB_1.out.size
  have hws_1 := (hb1).size
  clear f0_0_0 f0_0_1 f0_0_2 f0_0_3 f0_0_4 f0_0_5 f0_0_6 f0_0_7 f0_0_8 f0_0_9 HS0_0 f1_0_0 f1_0_1 f1_0_2 f1_0_3 f1_0_4 f1_0_5 f1_0_6 f1_0_7 f1_0_8 f1_0_9 HS1_0
  clear hb1
  obtain ⟨f0_1_0, f0_1_1, f0_1_2, f0_1_3, f0_1_4, f0_1_5, f0_1_6, f0_1_7, f0_1_8, f0_1_9⟩ := str10 HS0_1.out
  have hl0_1 := HS0_1.out.lt
  obtain ⟨f1_1_0, f1_1_1, f1_1_2, f1_1_3, f1_1_4, f1_1_5, f1_1_6, f1_1_7, f1_1_8, f1_1_9⟩ := str10 HS1_1.out
  have hl1_1 := HS1_1.out.lt
  go_wp2_with fail
  go_ret
  exact ⟨rfl, HB_1.out⟩

set_option maxRecDepth 100000 in
set_option maxHeartbeats 1000000 in
theorem right0 (puk : ByteArray) (Ap : Option Addr) (np cp Bp : Nat) (pst : Int) (pk : ByteArray) (pkd : Int) (pda : List UInt8) (plo phi pva : Int) (pun : Int) (w : World) (hp : Bytes w Bp Ap np cp pda) (hBp : Bp ≤ w.heap.size) (hpk : pk.size ≤ maxLen) (huk : puk.size ≤ maxLen) : Calls Try.prog 43 #[.agg #[.int .i64 0, .string puk, .int .i64 pst, .string pk, .int .i64 pkd, .slice Ap np cp, .int .i64 plo, .int .i64 phi, .int .i64 pva, .int .i64 pun]] w fun e w' => e = .returned (.bool (UndoP.right ⟨0, puk, ⟨pst, pk, ⟨pkd, pda, plo, phi, pva⟩⟩, pun⟩)) ∧ Below w.heap.size w w' := by
  have Hp := Lib.hid hp
  clear hp
  go_enter Try.func43, Try.ntmps43
  go_wp2_with fail
  generalize hW0 : (w).alloc (.cells #[.int .i64 0, .string puk, .int .i64 pst, .string pk, .int .i64 pkd, .slice Ap np cp, .int .i64 plo, .int .i64 phi, .int .i64 pva, .int .i64 pun] 62) = W0
  have HS0_0 : Hid (Str W0 (w.heap.size) #[.int .i64 0, .string puk, .int .i64 pst, .string pk, .int .i64 pkd, .slice Ap np cp, .int .i64 plo, .int .i64 phi, .int .i64 pva, .int .i64 pun]) := Lib.hid (by rw [← hW0]; have := Str.new (w) #[.int .i64 0, .string puk, .int .i64 pst, .string pk, .int .i64 pkd, .slice Ap np cp, .int .i64 plo, .int .i64 phi, .int .i64 pva, .int .i64 pun] 62; simpa using this)
  have HB_0 : Hid (Below w.heap.size w W0) := Lib.hid (by rw [← hW0]; exact balloc (bsame w) _)
  have hw_0 := HB_0.out.size
  clear hW0
  obtain ⟨f0_0_0, f0_0_1, f0_0_2, f0_0_3, f0_0_4, f0_0_5, f0_0_6, f0_0_7, f0_0_8, f0_0_9⟩ := str10 HS0_0.out
  have hl0_0 := HS0_0.out.lt
  refine (refSame_any _ _ _ _ _ _ _ _ _ pda _ _ _ _ 0 ⟨#[]⟩ none 0 0 0 0 ⟨#[]⟩ 0 [] 0 0 0 0 _ (Hp.out.below (HB_0.out.mono hBp)) (by omega) (Bytes.none_ _ _) (by omega)).mono ?_
  rintro e W1 ⟨rfl, hb1⟩
  have HS0_1 := Lib.hid (HS0_0.out.next hb1)
  have HB_1 := Lib.hid (bstep HB_0.out hb1)
  have hw_1 := HB_1.out.size
  have hws_1 := (hb1).size
  clear f0_0_0 f0_0_1 f0_0_2 f0_0_3 f0_0_4 f0_0_5 f0_0_6 f0_0_7 f0_0_8 f0_0_9 HS0_0
  clear hb1
  obtain ⟨f0_1_0, f0_1_1, f0_1_2, f0_1_3, f0_1_4, f0_1_5, f0_1_6, f0_1_7, f0_1_8, f0_1_9⟩ := str10 HS0_1.out
  have hl0_1 := HS0_1.out.lt
  have HE : Hid (UndoP.right ⟨0, puk, ⟨pst, pk, ⟨pkd, pda, plo, phi, pva⟩⟩, pun⟩ = UndoP.same ⟨0, puk, ⟨pst, pk, ⟨pkd, pda, plo, phi, pva⟩⟩, pun⟩ ⟨0, ⟨#[]⟩, ⟨0, ⟨#[]⟩, ⟨0, [], 0, 0, 0⟩⟩, 0⟩) := Lib.hid (by simp [UndoP.right]; rfl)
  generalize UndoP.same ⟨0, puk, ⟨pst, pk, ⟨pkd, pda, plo, phi, pva⟩⟩, pun⟩ ⟨0, ⟨#[]⟩, ⟨0, ⟨#[]⟩, ⟨0, [], 0, 0, 0⟩⟩, 0⟩ = r at HE ⊢
  go_wp2_with fail
  go_ret
  exact ⟨by rw [HE.out]; rfl, HB_1.out⟩

set_option maxRecDepth 100000 in
set_option maxHeartbeats 1000000 in
theorem right1_1 (puk : ByteArray) (Ap : Option Addr) (np cp Bp : Nat) (pk : ByteArray) (pkd : Int) (pda : List UInt8) (plo phi pva : Int) (pun : Int) (w : World) (hp : Bytes w Bp Ap np cp pda) (hBp : Bp ≤ w.heap.size) (hpk : pk.size ≤ maxLen) (huk : puk.size ≤ maxLen)  : Calls Try.prog 43 #[.agg #[.int .i64 1, .string puk, .int .i64 1, .string pk, .int .i64 pkd, .slice Ap np cp, .int .i64 plo, .int .i64 phi, .int .i64 pva, .int .i64 pun]] w fun e w' => e = .returned (.bool (UndoP.right ⟨1, puk, ⟨1, pk, ⟨pkd, pda, plo, phi, pva⟩⟩, pun⟩)) ∧ Below w.heap.size w w' := by
  have Hp := Lib.hid hp
  clear hp
  go_enter Try.func43, Try.ntmps43
  go_wp2_with fail
  generalize hW0 : (w).alloc (.cells #[.int .i64 1, .string puk, .int .i64 1, .string pk, .int .i64 pkd, .slice Ap np cp, .int .i64 plo, .int .i64 phi, .int .i64 pva, .int .i64 pun] 62) = W0
  have HS0_0 : Hid (Str W0 (w.heap.size) #[.int .i64 1, .string puk, .int .i64 1, .string pk, .int .i64 pkd, .slice Ap np cp, .int .i64 plo, .int .i64 phi, .int .i64 pva, .int .i64 pun]) := Lib.hid (by rw [← hW0]; have := Str.new (w) #[.int .i64 1, .string puk, .int .i64 1, .string pk, .int .i64 pkd, .slice Ap np cp, .int .i64 plo, .int .i64 phi, .int .i64 pva, .int .i64 pun] 62; simpa using this)
  have HB_0 : Hid (Below w.heap.size w W0) := Lib.hid (by rw [← hW0]; exact balloc (bsame w) _)
  have hw_0 := HB_0.out.size
  clear hW0
  obtain ⟨f0_0_0, f0_0_1, f0_0_2, f0_0_3, f0_0_4, f0_0_5, f0_0_6, f0_0_7, f0_0_8, f0_0_9⟩ := str10 HS0_0.out
  have hl0_0 := HS0_0.out.lt
  refine (Key.right_any puk _ huk).mono ?_
  rintro e W0_ ⟨rfl, rfl⟩
  cases hkr : KeyP.right puk.data.toList
  case false =>
    have HE : Hid (UndoP.right ⟨1, puk, ⟨1, pk, ⟨pkd, pda, plo, phi, pva⟩⟩, pun⟩ = false) := Lib.hid (by simp [UndoP.right, hkr])
    go_wp2_with fail
    go_ret
    exact ⟨by rw [HE.out]; rfl, HB_0.out⟩
  case true =>
    go_wp2_with fail
    refine (SlotW.right_any Ap np cp Bp ⟨1, pk, ⟨pkd, pda, plo, phi, pva⟩⟩ _ (Hp.out.below (HB_0.out.mono hBp)) (by omega) hpk).mono ?_
    rintro e W1 ⟨rfl, hb1⟩
    have HS0_1 := Lib.hid (HS0_0.out.next hb1)
    have HB_1 := Lib.hid (bstep HB_0.out hb1)
    have hw_1 := HB_1.out.size
    have hws_1 := (hb1).size
    clear f0_0_0 f0_0_1 f0_0_2 f0_0_3 f0_0_4 f0_0_5 f0_0_6 f0_0_7 f0_0_8 f0_0_9 HS0_0
    clear hb1
    obtain ⟨f0_1_0, f0_1_1, f0_1_2, f0_1_3, f0_1_4, f0_1_5, f0_1_6, f0_1_7, f0_1_8, f0_1_9⟩ := str10 HS0_1.out
    have hl0_1 := HS0_1.out.lt
    cases hsr : SlotP.right ⟨1, pk, ⟨pkd, pda, plo, phi, pva⟩⟩
    case false =>
      have HE : Hid (UndoP.right ⟨1, puk, ⟨1, pk, ⟨pkd, pda, plo, phi, pva⟩⟩, pun⟩ = false) := Lib.hid (by simp [UndoP.right, hkr, hsr])
      go_wp2_with fail
      go_ret
      exact ⟨by rw [HE.out]; rfl, HB_1.out⟩
    case true =>
      by_cases hk : pk = puk
      case neg =>
        replace hk := key_ne hk
        have HE : Hid (UndoP.right ⟨1, puk, ⟨1, pk, ⟨pkd, pda, plo, phi, pva⟩⟩, pun⟩ = false) := Lib.hid (by simp [UndoP.right, hkr, hsr, hk])
        go_wp2_with fail
        go_ret
        exact ⟨by rw [HE.out]; rfl, HB_1.out⟩
      by_cases hn : pun = 0
      case neg =>
        subst hk
        replace hn : (pun == 0) = false := by simpa using hn
        have HE : Hid (UndoP.right ⟨1, pk, ⟨1, pk, ⟨pkd, pda, plo, phi, pva⟩⟩, pun⟩ = false) := Lib.hid (by simp [UndoP.right, hkr, hsr, hn])
        go_wp2_with fail
        go_ret
        exact ⟨by rw [HE.out]; rfl, HB_1.out⟩
      subst hk
      subst hn
      have HE : Hid (UndoP.right ⟨1, pk, ⟨1, pk, ⟨pkd, pda, plo, phi, pva⟩⟩, 0⟩ = true) := Lib.hid (by simp [UndoP.right, hkr, hsr])
      go_wp2_with fail
      go_ret
      exact ⟨by rw [HE.out]; rfl, HB_1.out⟩

set_option maxRecDepth 100000 in
set_option maxHeartbeats 1000000 in
theorem right1_2 (puk : ByteArray) (Ap : Option Addr) (np cp Bp : Nat) (pk : ByteArray) (pkd : Int) (pda : List UInt8) (plo phi pva : Int) (pun : Int) (w : World) (hp : Bytes w Bp Ap np cp pda) (hBp : Bp ≤ w.heap.size) (hpk : pk.size ≤ maxLen) (huk : puk.size ≤ maxLen)  : Calls Try.prog 43 #[.agg #[.int .i64 1, .string puk, .int .i64 2, .string pk, .int .i64 pkd, .slice Ap np cp, .int .i64 plo, .int .i64 phi, .int .i64 pva, .int .i64 pun]] w fun e w' => e = .returned (.bool (UndoP.right ⟨1, puk, ⟨2, pk, ⟨pkd, pda, plo, phi, pva⟩⟩, pun⟩)) ∧ Below w.heap.size w w' := by
  have Hp := Lib.hid hp
  clear hp
  go_enter Try.func43, Try.ntmps43
  go_wp2_with fail
  generalize hW0 : (w).alloc (.cells #[.int .i64 1, .string puk, .int .i64 2, .string pk, .int .i64 pkd, .slice Ap np cp, .int .i64 plo, .int .i64 phi, .int .i64 pva, .int .i64 pun] 62) = W0
  have HS0_0 : Hid (Str W0 (w.heap.size) #[.int .i64 1, .string puk, .int .i64 2, .string pk, .int .i64 pkd, .slice Ap np cp, .int .i64 plo, .int .i64 phi, .int .i64 pva, .int .i64 pun]) := Lib.hid (by rw [← hW0]; have := Str.new (w) #[.int .i64 1, .string puk, .int .i64 2, .string pk, .int .i64 pkd, .slice Ap np cp, .int .i64 plo, .int .i64 phi, .int .i64 pva, .int .i64 pun] 62; simpa using this)
  have HB_0 : Hid (Below w.heap.size w W0) := Lib.hid (by rw [← hW0]; exact balloc (bsame w) _)
  have hw_0 := HB_0.out.size
  clear hW0
  obtain ⟨f0_0_0, f0_0_1, f0_0_2, f0_0_3, f0_0_4, f0_0_5, f0_0_6, f0_0_7, f0_0_8, f0_0_9⟩ := str10 HS0_0.out
  have hl0_0 := HS0_0.out.lt
  refine (Key.right_any puk _ huk).mono ?_
  rintro e W0_ ⟨rfl, rfl⟩
  cases hkr : KeyP.right puk.data.toList
  case false =>
    have HE : Hid (UndoP.right ⟨1, puk, ⟨2, pk, ⟨pkd, pda, plo, phi, pva⟩⟩, pun⟩ = false) := Lib.hid (by simp [UndoP.right, hkr])
    go_wp2_with fail
    go_ret
    exact ⟨by rw [HE.out]; rfl, HB_0.out⟩
  case true =>
    go_wp2_with fail
    refine (SlotW.right_any Ap np cp Bp ⟨2, pk, ⟨pkd, pda, plo, phi, pva⟩⟩ _ (Hp.out.below (HB_0.out.mono hBp)) (by omega) hpk).mono ?_
    rintro e W1 ⟨rfl, hb1⟩
    have HS0_1 := Lib.hid (HS0_0.out.next hb1)
    have HB_1 := Lib.hid (bstep HB_0.out hb1)
    have hw_1 := HB_1.out.size
    have hws_1 := (hb1).size
    clear f0_0_0 f0_0_1 f0_0_2 f0_0_3 f0_0_4 f0_0_5 f0_0_6 f0_0_7 f0_0_8 f0_0_9 HS0_0
    clear hb1
    obtain ⟨f0_1_0, f0_1_1, f0_1_2, f0_1_3, f0_1_4, f0_1_5, f0_1_6, f0_1_7, f0_1_8, f0_1_9⟩ := str10 HS0_1.out
    have hl0_1 := HS0_1.out.lt
    cases hsr : SlotP.right ⟨2, pk, ⟨pkd, pda, plo, phi, pva⟩⟩
    case false =>
      have HE : Hid (UndoP.right ⟨1, puk, ⟨2, pk, ⟨pkd, pda, plo, phi, pva⟩⟩, pun⟩ = false) := Lib.hid (by simp [UndoP.right, hkr, hsr])
      go_wp2_with fail
      go_ret
      exact ⟨by rw [HE.out]; rfl, HB_1.out⟩
    case true =>
      by_cases hk : pk = puk
      case neg =>
        replace hk := key_ne hk
        have HE : Hid (UndoP.right ⟨1, puk, ⟨2, pk, ⟨pkd, pda, plo, phi, pva⟩⟩, pun⟩ = false) := Lib.hid (by simp [UndoP.right, hkr, hsr, hk])
        go_wp2_with fail
        go_ret
        exact ⟨by rw [HE.out]; rfl, HB_1.out⟩
      by_cases hn : pun = 0
      case neg =>
        subst hk
        replace hn : (pun == 0) = false := by simpa using hn
        have HE : Hid (UndoP.right ⟨1, pk, ⟨2, pk, ⟨pkd, pda, plo, phi, pva⟩⟩, pun⟩ = false) := Lib.hid (by simp [UndoP.right, hkr, hsr, hn])
        go_wp2_with fail
        go_ret
        exact ⟨by rw [HE.out]; rfl, HB_1.out⟩
      subst hk
      subst hn
      have HE : Hid (UndoP.right ⟨1, pk, ⟨2, pk, ⟨pkd, pda, plo, phi, pva⟩⟩, 0⟩ = true) := Lib.hid (by simp [UndoP.right, hkr, hsr])
      go_wp2_with fail
      go_ret
      exact ⟨by rw [HE.out]; rfl, HB_1.out⟩

set_option maxRecDepth 100000 in
set_option maxHeartbeats 1000000 in
theorem right1n (puk : ByteArray) (Ap : Option Addr) (np cp Bp : Nat) (pst : Int) (pk : ByteArray) (pkd : Int) (pda : List UInt8) (plo phi pva : Int) (pun : Int) (w : World) (hp : Bytes w Bp Ap np cp pda) (hBp : Bp ≤ w.heap.size) (hpk : pk.size ≤ maxLen) (huk : puk.size ≤ maxLen) (hs1 : ¬ pst = 1) (hs2 : ¬ pst = 2) : Calls Try.prog 43 #[.agg #[.int .i64 1, .string puk, .int .i64 pst, .string pk, .int .i64 pkd, .slice Ap np cp, .int .i64 plo, .int .i64 phi, .int .i64 pva, .int .i64 pun]] w fun e w' => e = .returned (.bool (UndoP.right ⟨1, puk, ⟨pst, pk, ⟨pkd, pda, plo, phi, pva⟩⟩, pun⟩)) ∧ Below w.heap.size w w' := by
  have Hp := Lib.hid hp
  clear hp
  go_enter Try.func43, Try.ntmps43
  go_wp2_with fail
  generalize hW0 : (w).alloc (.cells #[.int .i64 1, .string puk, .int .i64 pst, .string pk, .int .i64 pkd, .slice Ap np cp, .int .i64 plo, .int .i64 phi, .int .i64 pva, .int .i64 pun] 62) = W0
  have HS0_0 : Hid (Str W0 (w.heap.size) #[.int .i64 1, .string puk, .int .i64 pst, .string pk, .int .i64 pkd, .slice Ap np cp, .int .i64 plo, .int .i64 phi, .int .i64 pva, .int .i64 pun]) := Lib.hid (by rw [← hW0]; have := Str.new (w) #[.int .i64 1, .string puk, .int .i64 pst, .string pk, .int .i64 pkd, .slice Ap np cp, .int .i64 plo, .int .i64 phi, .int .i64 pva, .int .i64 pun] 62; simpa using this)
  have HB_0 : Hid (Below w.heap.size w W0) := Lib.hid (by rw [← hW0]; exact balloc (bsame w) _)
  have hw_0 := HB_0.out.size
  clear hW0
  obtain ⟨f0_0_0, f0_0_1, f0_0_2, f0_0_3, f0_0_4, f0_0_5, f0_0_6, f0_0_7, f0_0_8, f0_0_9⟩ := str10 HS0_0.out
  have hl0_0 := HS0_0.out.lt
  refine (Key.right_any puk _ huk).mono ?_
  rintro e W0_ ⟨rfl, rfl⟩
  cases hkr : KeyP.right puk.data.toList
  case false =>
    have HE : Hid (UndoP.right ⟨1, puk, ⟨pst, pk, ⟨pkd, pda, plo, phi, pva⟩⟩, pun⟩ = false) := Lib.hid (by simp [UndoP.right, hkr])
    go_wp2_with fail
    go_ret
    exact ⟨by rw [HE.out]; rfl, HB_0.out⟩
  case true =>
    by_cases hs0 : pst = 0
    case pos =>
      have HE : Hid (UndoP.right ⟨1, puk, ⟨pst, pk, ⟨pkd, pda, plo, phi, pva⟩⟩, pun⟩ = false) := Lib.hid (by simp [UndoP.right, hkr, hs0])
      go_wp2_with fail
      go_ret
      exact ⟨by rw [HE.out]; rfl, HB_0.out⟩
    go_wp2_with fail
    refine (SlotW.right_any Ap np cp Bp ⟨pst, pk, ⟨pkd, pda, plo, phi, pva⟩⟩ _ (Hp.out.below (HB_0.out.mono hBp)) (by omega) hpk).mono ?_
    rintro e W1 ⟨rfl, hb1⟩
    have HS0_1 := Lib.hid (HS0_0.out.next hb1)
    have HB_1 := Lib.hid (bstep HB_0.out hb1)
    have hw_1 := HB_1.out.size
    have hws_1 := (hb1).size
    clear f0_0_0 f0_0_1 f0_0_2 f0_0_3 f0_0_4 f0_0_5 f0_0_6 f0_0_7 f0_0_8 f0_0_9 HS0_0
    clear hb1
    obtain ⟨f0_1_0, f0_1_1, f0_1_2, f0_1_3, f0_1_4, f0_1_5, f0_1_6, f0_1_7, f0_1_8, f0_1_9⟩ := str10 HS0_1.out
    have hl0_1 := HS0_1.out.lt
    have hsr : SlotP.right ⟨pst, pk, ⟨pkd, pda, plo, phi, pva⟩⟩ = false := by
      cases hr : SlotP.right ⟨pst, pk, ⟨pkd, pda, plo, phi, pva⟩⟩ with
      | false => rfl
      | true =>
        have := UndoP.slot_right_state _ hr hs0
        simp [hs1, hs2] at this
    rw [hsr]
    have HE : Hid (UndoP.right ⟨1, puk, ⟨pst, pk, ⟨pkd, pda, plo, phi, pva⟩⟩, pun⟩ = false) := Lib.hid (by simp [UndoP.right, hkr, hs1, hs2])
    go_wp2_with fail
    go_ret
    exact ⟨by rw [HE.out]; rfl, HB_1.out⟩

set_option maxRecDepth 100000 in
set_option maxHeartbeats 1000000 in
theorem right2 (puk : ByteArray) (Ap : Option Addr) (np cp Bp : Nat) (pst : Int) (pk : ByteArray) (pkd : Int) (pda : List UInt8) (plo phi pva : Int) (pun : Int) (w : World) (hp : Bytes w Bp Ap np cp pda) (hBp : Bp ≤ w.heap.size) (hpk : pk.size ≤ maxLen) (huk : puk.size ≤ maxLen)  : Calls Try.prog 43 #[.agg #[.int .i64 2, .string puk, .int .i64 pst, .string pk, .int .i64 pkd, .slice Ap np cp, .int .i64 plo, .int .i64 phi, .int .i64 pva, .int .i64 pun]] w fun e w' => e = .returned (.bool (UndoP.right ⟨2, puk, ⟨pst, pk, ⟨pkd, pda, plo, phi, pva⟩⟩, pun⟩)) ∧ Below w.heap.size w w' := by
  have Hp := Lib.hid hp
  clear hp
  go_enter Try.func43, Try.ntmps43
  go_wp2_with fail
  generalize hW0 : (w).alloc (.cells #[.int .i64 2, .string puk, .int .i64 pst, .string pk, .int .i64 pkd, .slice Ap np cp, .int .i64 plo, .int .i64 phi, .int .i64 pva, .int .i64 pun] 62) = W0
  have HS0_0 : Hid (Str W0 (w.heap.size) #[.int .i64 2, .string puk, .int .i64 pst, .string pk, .int .i64 pkd, .slice Ap np cp, .int .i64 plo, .int .i64 phi, .int .i64 pva, .int .i64 pun]) := Lib.hid (by rw [← hW0]; have := Str.new (w) #[.int .i64 2, .string puk, .int .i64 pst, .string pk, .int .i64 pkd, .slice Ap np cp, .int .i64 plo, .int .i64 phi, .int .i64 pva, .int .i64 pun] 62; simpa using this)
  have HB_0 : Hid (Below w.heap.size w W0) := Lib.hid (by rw [← hW0]; exact balloc (bsame w) _)
  have hw_0 := HB_0.out.size
  clear hW0
  obtain ⟨f0_0_0, f0_0_1, f0_0_2, f0_0_3, f0_0_4, f0_0_5, f0_0_6, f0_0_7, f0_0_8, f0_0_9⟩ := str10 HS0_0.out
  have hl0_0 := HS0_0.out.lt
  refine (Key.right_any puk _ huk).mono ?_
  rintro e W0_ ⟨rfl, rfl⟩
  cases hkr : KeyP.right puk.data.toList
  case false =>
    have HE : Hid (UndoP.right ⟨2, puk, ⟨pst, pk, ⟨pkd, pda, plo, phi, pva⟩⟩, pun⟩ = false) := Lib.hid (by simp [UndoP.right, hkr])
    go_wp2_with fail
    go_ret
    exact ⟨by rw [HE.out]; rfl, HB_0.out⟩
  case true =>

    by_cases hn : pun < 0
    case pos =>
      have hn' : ¬ 0 ≤ pun := by omega
      have HE : Hid (UndoP.right ⟨2, puk, ⟨pst, pk, ⟨pkd, pda, plo, phi, pva⟩⟩, pun⟩ = false) := Lib.hid (by simp [UndoP.right, hkr, hn'])
      go_wp2_with fail
      go_ret
      exact ⟨by rw [HE.out]; rfl, HB_0.out⟩
    have hn' : 0 ≤ pun := by omega
    go_wp2_with fail
    refine (SlotW.refSame_any Ap none np cp 0 0 Bp 0 ⟨pst, pk, ⟨pkd, pda, plo, phi, pva⟩⟩ ⟨0, ⟨#[]⟩, ⟨0, [], 0, 0, 0⟩⟩ _ (Hp.out.below (HB_0.out.mono hBp)) (Bytes.none_ _ _) (by omega) (by omega)).mono ?_
    rintro e W1 ⟨rfl, hb1⟩
    have HS0_1 := Lib.hid (HS0_0.out.next hb1)
    have HB_1 := Lib.hid (bstep HB_0.out hb1)
    have hw_1 := HB_1.out.size
    have hws_1 := (hb1).size
    clear f0_0_0 f0_0_1 f0_0_2 f0_0_3 f0_0_4 f0_0_5 f0_0_6 f0_0_7 f0_0_8 f0_0_9 HS0_0
    clear hb1
    obtain ⟨f0_1_0, f0_1_1, f0_1_2, f0_1_3, f0_1_4, f0_1_5, f0_1_6, f0_1_7, f0_1_8, f0_1_9⟩ := str10 HS0_1.out
    have hl0_1 := HS0_1.out.lt
    have HE : Hid (UndoP.right ⟨2, puk, ⟨pst, pk, ⟨pkd, pda, plo, phi, pva⟩⟩, pun⟩ = SlotP.same ⟨pst, pk, ⟨pkd, pda, plo, phi, pva⟩⟩ ⟨0, ⟨#[]⟩, ⟨0, [], 0, 0, 0⟩⟩) := Lib.hid (by simp [UndoP.right, hkr, hn']; rfl)
    generalize SlotP.same ⟨pst, pk, ⟨pkd, pda, plo, phi, pva⟩⟩ ⟨0, ⟨#[]⟩, ⟨0, [], 0, 0, 0⟩⟩ = r at HE ⊢
    go_wp2_with fail
    go_ret
    exact ⟨by rw [HE.out]; rfl, HB_1.out⟩

set_option maxRecDepth 100000 in
set_option maxHeartbeats 1000000 in
theorem right3 (puk : ByteArray) (Ap : Option Addr) (np cp Bp : Nat) (pst : Int) (pk : ByteArray) (pkd : Int) (pda : List UInt8) (plo phi pva : Int) (pun : Int) (w : World) (hp : Bytes w Bp Ap np cp pda) (hBp : Bp ≤ w.heap.size) (hpk : pk.size ≤ maxLen) (huk : puk.size ≤ maxLen)  : Calls Try.prog 43 #[.agg #[.int .i64 3, .string puk, .int .i64 pst, .string pk, .int .i64 pkd, .slice Ap np cp, .int .i64 plo, .int .i64 phi, .int .i64 pva, .int .i64 pun]] w fun e w' => e = .returned (.bool (UndoP.right ⟨3, puk, ⟨pst, pk, ⟨pkd, pda, plo, phi, pva⟩⟩, pun⟩)) ∧ Below w.heap.size w w' := by
  have Hp := Lib.hid hp
  clear hp
  go_enter Try.func43, Try.ntmps43
  go_wp2_with fail
  generalize hW0 : (w).alloc (.cells #[.int .i64 3, .string puk, .int .i64 pst, .string pk, .int .i64 pkd, .slice Ap np cp, .int .i64 plo, .int .i64 phi, .int .i64 pva, .int .i64 pun] 62) = W0
  have HS0_0 : Hid (Str W0 (w.heap.size) #[.int .i64 3, .string puk, .int .i64 pst, .string pk, .int .i64 pkd, .slice Ap np cp, .int .i64 plo, .int .i64 phi, .int .i64 pva, .int .i64 pun]) := Lib.hid (by rw [← hW0]; have := Str.new (w) #[.int .i64 3, .string puk, .int .i64 pst, .string pk, .int .i64 pkd, .slice Ap np cp, .int .i64 plo, .int .i64 phi, .int .i64 pva, .int .i64 pun] 62; simpa using this)
  have HB_0 : Hid (Below w.heap.size w W0) := Lib.hid (by rw [← hW0]; exact balloc (bsame w) _)
  have hw_0 := HB_0.out.size
  clear hW0
  obtain ⟨f0_0_0, f0_0_1, f0_0_2, f0_0_3, f0_0_4, f0_0_5, f0_0_6, f0_0_7, f0_0_8, f0_0_9⟩ := str10 HS0_0.out
  have hl0_0 := HS0_0.out.lt
  refine (Key.right_any puk _ huk).mono ?_
  rintro e W0_ ⟨rfl, rfl⟩
  cases hkr : KeyP.right puk.data.toList
  case false =>
    have HE : Hid (UndoP.right ⟨3, puk, ⟨pst, pk, ⟨pkd, pda, plo, phi, pva⟩⟩, pun⟩ = false) := Lib.hid (by simp [UndoP.right, hkr])
    go_wp2_with fail
    go_ret
    exact ⟨by rw [HE.out]; rfl, HB_0.out⟩
  case true =>

    by_cases hn : pun < 0
    case pos =>
      have hn' : ¬ 0 ≤ pun := by omega
      have HE : Hid (UndoP.right ⟨3, puk, ⟨pst, pk, ⟨pkd, pda, plo, phi, pva⟩⟩, pun⟩ = false) := Lib.hid (by simp [UndoP.right, hkr, hn'])
      go_wp2_with fail
      go_ret
      exact ⟨by rw [HE.out]; rfl, HB_0.out⟩
    have hn' : 0 ≤ pun := by omega
    go_wp2_with fail
    refine (SlotW.refSame_any Ap none np cp 0 0 Bp 0 ⟨pst, pk, ⟨pkd, pda, plo, phi, pva⟩⟩ ⟨0, ⟨#[]⟩, ⟨0, [], 0, 0, 0⟩⟩ _ (Hp.out.below (HB_0.out.mono hBp)) (Bytes.none_ _ _) (by omega) (by omega)).mono ?_
    rintro e W1 ⟨rfl, hb1⟩
    have HS0_1 := Lib.hid (HS0_0.out.next hb1)
    have HB_1 := Lib.hid (bstep HB_0.out hb1)
    have hw_1 := HB_1.out.size
    have hws_1 := (hb1).size
    clear f0_0_0 f0_0_1 f0_0_2 f0_0_3 f0_0_4 f0_0_5 f0_0_6 f0_0_7 f0_0_8 f0_0_9 HS0_0
    clear hb1
    obtain ⟨f0_1_0, f0_1_1, f0_1_2, f0_1_3, f0_1_4, f0_1_5, f0_1_6, f0_1_7, f0_1_8, f0_1_9⟩ := str10 HS0_1.out
    have hl0_1 := HS0_1.out.lt
    have HE : Hid (UndoP.right ⟨3, puk, ⟨pst, pk, ⟨pkd, pda, plo, phi, pva⟩⟩, pun⟩ = SlotP.same ⟨pst, pk, ⟨pkd, pda, plo, phi, pva⟩⟩ ⟨0, ⟨#[]⟩, ⟨0, [], 0, 0, 0⟩⟩) := Lib.hid (by simp [UndoP.right, hkr, hn']; rfl)
    generalize SlotP.same ⟨pst, pk, ⟨pkd, pda, plo, phi, pva⟩⟩ ⟨0, ⟨#[]⟩, ⟨0, [], 0, 0, 0⟩⟩ = r at HE ⊢
    go_wp2_with fail
    go_ret
    exact ⟨by rw [HE.out]; rfl, HB_1.out⟩

set_option maxRecDepth 100000 in
set_option maxHeartbeats 1000000 in
theorem rightN (pact : Int) (puk : ByteArray) (Ap : Option Addr) (np cp Bp : Nat) (pst : Int) (pk : ByteArray) (pkd : Int) (pda : List UInt8) (plo phi pva : Int) (pun : Int) (w : World) (hp : Bytes w Bp Ap np cp pda) (hBp : Bp ≤ w.heap.size) (hpk : pk.size ≤ maxLen) (huk : puk.size ≤ maxLen) (h0 : ¬ pact = 0) (h1 : ¬ pact = 1) (h2 : ¬ pact = 2) (h3 : ¬ pact = 3) : Calls Try.prog 43 #[.agg #[.int .i64 pact, .string puk, .int .i64 pst, .string pk, .int .i64 pkd, .slice Ap np cp, .int .i64 plo, .int .i64 phi, .int .i64 pva, .int .i64 pun]] w fun e w' => e = .returned (.bool (UndoP.right ⟨pact, puk, ⟨pst, pk, ⟨pkd, pda, plo, phi, pva⟩⟩, pun⟩)) ∧ Below w.heap.size w w' := by
  have HE : Hid (UndoP.right ⟨pact, puk, ⟨pst, pk, ⟨pkd, pda, plo, phi, pva⟩⟩, pun⟩ = false) := Lib.hid (by simp [UndoP.right, h0, h1, h2, h3])
  rw [HE.out]
  by_cases hlt : pact < 0
  · go_enter Try.func43, Try.ntmps43
    go_wp2
    go_ret
    exact ⟨rfl, balloc (bsame w) _⟩
  · have hgt : 3 < pact := by omega
    go_enter Try.func43, Try.ntmps43
    go_wp2
    go_ret
    exact ⟨rfl, balloc (bsame w) _⟩

set_option maxRecDepth 100000 in
set_option maxHeartbeats 1000000 in
theorem right_any (pact : Int) (puk : ByteArray) (Ap : Option Addr) (np cp Bp : Nat) (pst : Int) (pk : ByteArray) (pkd : Int) (pda : List UInt8) (plo phi pva : Int) (pun : Int) (w : World) (hp : Bytes w Bp Ap np cp pda) (hBp : Bp ≤ w.heap.size) (hpk : pk.size ≤ maxLen) (huk : puk.size ≤ maxLen) : Calls Try.prog 43 #[.agg #[.int .i64 pact, .string puk, .int .i64 pst, .string pk, .int .i64 pkd, .slice Ap np cp, .int .i64 plo, .int .i64 phi, .int .i64 pva, .int .i64 pun]] w fun e w' => e = .returned (.bool (UndoP.right ⟨pact, puk, ⟨pst, pk, ⟨pkd, pda, plo, phi, pva⟩⟩, pun⟩)) ∧ Below w.heap.size w w' := by
  by_cases h0 : pact = 0
  · subst h0
    exact right0 puk Ap np cp Bp pst pk pkd pda plo phi pva pun w hp hBp hpk huk
  by_cases h1 : pact = 1
  · subst h1
    by_cases hs1 : pst = 1
    · subst hs1
      exact right1_1 puk Ap np cp Bp pk pkd pda plo phi pva pun w hp hBp hpk huk
    by_cases hs2 : pst = 2
    · subst hs2
      exact right1_2 puk Ap np cp Bp pk pkd pda plo phi pva pun w hp hBp hpk huk
    exact right1n puk Ap np cp Bp pst pk pkd pda plo phi pva pun w hp hBp hpk huk hs1 hs2
  by_cases h2 : pact = 2
  · subst h2
    exact right2 puk Ap np cp Bp pst pk pkd pda plo phi pva pun w hp hBp hpk huk
  by_cases h3 : pact = 3
  · subst h3
    exact right3 puk Ap np cp Bp pst pk pkd pda plo phi pva pun w hp hBp hpk huk
  exact rightN pact puk Ap np cp Bp pst pk pkd pda plo phi pva pun w hp hBp hpk huk h0 h1 h2 h3
end Go.Proofs.Ytghgccgpgonlmaa.UndoW
