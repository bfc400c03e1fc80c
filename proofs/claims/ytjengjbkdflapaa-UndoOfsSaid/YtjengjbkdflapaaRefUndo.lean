/-
  The walks of the reference's Of and Apply of undos.
-/
import Derived.Test.YtjengjbkdflapaaUndoOf
import Derived.Test.YtjengjbkdflapaaSlotGet
import Derived.Test.YtjengjbkdflapaaRefWide
namespace Go.Proofs.Ytjengjbkdflapaa.RefUndo
open Go.RowKit UndoW
set_option linter.unusedVariables false

set_option maxRecDepth 100000 in
set_option maxHeartbeats 1000000 in
theorem of_inc (Ax : Option Addr) (nx cx : Nat) (xk : ByteArray) (xda : List UInt8) (xlo xhi xn : Int) (Ap : Option Addr) (np cp Bp : Nat) (pst : Int) (pk : ByteArray) (pkd : Int) (pda : List UInt8) (plo phi pva : Int) (Aq : Option Addr) (nq cq Bq : Nat) (qst : Int) (qk : ByteArray) (qkd : Int) (qda : List UInt8) (qlo qhi qva : Int) (w : World) (hp : Bytes w Bp Ap np cp pda) (hBp : Bp ≤ w.heap.size) (hnp : np ≤ 140737488355328) (hq : Bytes w Bq Aq nq cq qda) (hBq : Bq ≤ w.heap.size) (hnq : nq ≤ 140737488355328)  : Calls Try.prog 71 #[.agg #[.int .i64 4, .string xk, .slice Ax nx cx, .int .i64 xlo, .int .i64 xhi, .int .i64 xn], .agg #[.int .i64 pst, .string pk, .int .i64 pkd, .slice Ap np cp, .int .i64 plo, .int .i64 phi, .int .i64 pva], .agg #[.int .i64 qst, .string qk, .int .i64 qkd, .slice Aq nq cq, .int .i64 qlo, .int .i64 qhi, .int .i64 qva]] w (GivesUndo w (UndoP.of ⟨4, xk, xda, xlo, xhi, xn⟩ ⟨pst, pk, ⟨pkd, pda, plo, phi, pva⟩⟩ ⟨qst, qk, ⟨qkd, qda, qlo, qhi, qva⟩⟩)) := by
  rw [UndoP.of_inc _ _ _ rfl]
  have Hp := Lib.hid hp
  have Hq := Lib.hid hq
  clear hp hq
  go_enter Try.func71, Try.ntmps71
  go_wp2_with fail
  exact bodyPost_ret (v := .agg #[.int .i64 3, .string xk, .int .i64 0, .string ⟨#[]⟩, .int .i64 0, .slice none 0 0, .int .i64 0, .int .i64 0, .int .i64 0, .int .i64 xn]) (by simp [results, Try.results71, go_sem]) rfl ⟨none, 0, 0, rfl, Bytes.none_ _ _, balloc (balloc (balloc (balloc (bsame w) _) _) _) _⟩

set_option maxRecDepth 100000 in
set_option maxHeartbeats 1000000 in
theorem of_dec (Ax : Option Addr) (nx cx : Nat) (xk : ByteArray) (xda : List UInt8) (xlo xhi xn : Int) (Ap : Option Addr) (np cp Bp : Nat) (pst : Int) (pk : ByteArray) (pkd : Int) (pda : List UInt8) (plo phi pva : Int) (Aq : Option Addr) (nq cq Bq : Nat) (qst : Int) (qk : ByteArray) (qkd : Int) (qda : List UInt8) (qlo qhi qva : Int) (w : World) (hp : Bytes w Bp Ap np cp pda) (hBp : Bp ≤ w.heap.size) (hnp : np ≤ 140737488355328) (hq : Bytes w Bq Aq nq cq qda) (hBq : Bq ≤ w.heap.size) (hnq : nq ≤ 140737488355328)  : Calls Try.prog 71 #[.agg #[.int .i64 5, .string xk, .slice Ax nx cx, .int .i64 xlo, .int .i64 xhi, .int .i64 xn], .agg #[.int .i64 pst, .string pk, .int .i64 pkd, .slice Ap np cp, .int .i64 plo, .int .i64 phi, .int .i64 pva], .agg #[.int .i64 qst, .string qk, .int .i64 qkd, .slice Aq nq cq, .int .i64 qlo, .int .i64 qhi, .int .i64 qva]] w (GivesUndo w (UndoP.of ⟨5, xk, xda, xlo, xhi, xn⟩ ⟨pst, pk, ⟨pkd, pda, plo, phi, pva⟩⟩ ⟨qst, qk, ⟨qkd, qda, qlo, qhi, qva⟩⟩)) := by
  rw [UndoP.of_dec _ _ _ rfl]
  have Hp := Lib.hid hp
  have Hq := Lib.hid hq
  clear hp hq
  go_enter Try.func71, Try.ntmps71
  go_wp2_with fail
  exact bodyPost_ret (v := .agg #[.int .i64 2, .string xk, .int .i64 0, .string ⟨#[]⟩, .int .i64 0, .slice none 0 0, .int .i64 0, .int .i64 0, .int .i64 0, .int .i64 xn]) (by simp [results, Try.results71, go_sem]) rfl ⟨none, 0, 0, rfl, Bytes.none_ _ _, balloc (balloc (balloc (balloc (bsame w) _) _) _) _⟩

set_option maxRecDepth 100000 in
set_option maxHeartbeats 1000000 in
theorem of_low (Ax : Option Addr) (nx cx : Nat) (act : Int) (xk : ByteArray) (xda : List UInt8) (xlo xhi xn : Int) (Ap : Option Addr) (np cp Bp : Nat) (pst : Int) (pk : ByteArray) (pkd : Int) (pda : List UInt8) (plo phi pva : Int) (Aq : Option Addr) (nq cq Bq : Nat) (qst : Int) (qk : ByteArray) (qkd : Int) (qda : List UInt8) (qlo qhi qva : Int) (w : World) (hp : Bytes w Bp Ap np cp pda) (hBp : Bp ≤ w.heap.size) (hnp : np ≤ 140737488355328) (hq : Bytes w Bq Aq nq cq qda) (hBq : Bq ≤ w.heap.size) (hnq : nq ≤ 140737488355328) (ha : act < 1) : Calls Try.prog 71 #[.agg #[.int .i64 act, .string xk, .slice Ax nx cx, .int .i64 xlo, .int .i64 xhi, .int .i64 xn], .agg #[.int .i64 pst, .string pk, .int .i64 pkd, .slice Ap np cp, .int .i64 plo, .int .i64 phi, .int .i64 pva], .agg #[.int .i64 qst, .string qk, .int .i64 qkd, .slice Aq nq cq, .int .i64 qlo, .int .i64 qhi, .int .i64 qva]] w (GivesUndo w (UndoP.of ⟨act, xk, xda, xlo, xhi, xn⟩ ⟨pst, pk, ⟨pkd, pda, plo, phi, pva⟩⟩ ⟨qst, qk, ⟨qkd, qda, qlo, qhi, qva⟩⟩)) := by
  have h4 : ¬ act = 4 := by omega
  have h5 : ¬ act = 5 := by omega
  rw [UndoP.of_none _ _ _ (by simp; omega)]
  have Hp := Lib.hid hp
  have Hq := Lib.hid hq
  clear hp hq
  go_enter Try.func71, Try.ntmps71
  go_wp2_with fail
  exact bodyPost_ret (v := .agg #[.int .i64 0, .string ⟨#[]⟩, .int .i64 0, .string ⟨#[]⟩, .int .i64 0, .slice none 0 0, .int .i64 0, .int .i64 0, .int .i64 0, .int .i64 0]) (by simp [results, Try.results71, go_sem]) rfl ⟨none, 0, 0, rfl, Bytes.none_ _ _, balloc (balloc (balloc (balloc (bsame w) _) _) _) _⟩

set_option maxRecDepth 100000 in
set_option maxHeartbeats 1000000 in
theorem of_high (Ax : Option Addr) (nx cx : Nat) (act : Int) (xk : ByteArray) (xda : List UInt8) (xlo xhi xn : Int) (Ap : Option Addr) (np cp Bp : Nat) (pst : Int) (pk : ByteArray) (pkd : Int) (pda : List UInt8) (plo phi pva : Int) (Aq : Option Addr) (nq cq Bq : Nat) (qst : Int) (qk : ByteArray) (qkd : Int) (qda : List UInt8) (qlo qhi qva : Int) (w : World) (hp : Bytes w Bp Ap np cp pda) (hBp : Bp ≤ w.heap.size) (hnp : np ≤ 140737488355328) (hq : Bytes w Bq Aq nq cq qda) (hBq : Bq ≤ w.heap.size) (hnq : nq ≤ 140737488355328) (ha : 5 < act) : Calls Try.prog 71 #[.agg #[.int .i64 act, .string xk, .slice Ax nx cx, .int .i64 xlo, .int .i64 xhi, .int .i64 xn], .agg #[.int .i64 pst, .string pk, .int .i64 pkd, .slice Ap np cp, .int .i64 plo, .int .i64 phi, .int .i64 pva], .agg #[.int .i64 qst, .string qk, .int .i64 qkd, .slice Aq nq cq, .int .i64 qlo, .int .i64 qhi, .int .i64 qva]] w (GivesUndo w (UndoP.of ⟨act, xk, xda, xlo, xhi, xn⟩ ⟨pst, pk, ⟨pkd, pda, plo, phi, pva⟩⟩ ⟨qst, qk, ⟨qkd, qda, qlo, qhi, qva⟩⟩)) := by
  have h4 : ¬ act = 4 := by omega
  have h5 : ¬ act = 5 := by omega
  have h6 : ¬ act < 1 := by omega
  rw [UndoP.of_none _ _ _ (by simp; omega)]
  have Hp := Lib.hid hp
  have Hq := Lib.hid hq
  clear hp hq
  go_enter Try.func71, Try.ntmps71
  go_wp2_with fail
  exact bodyPost_ret (v := .agg #[.int .i64 0, .string ⟨#[]⟩, .int .i64 0, .string ⟨#[]⟩, .int .i64 0, .slice none 0 0, .int .i64 0, .int .i64 0, .int .i64 0, .int .i64 0]) (by simp [results, Try.results71, go_sem]) rfl ⟨none, 0, 0, rfl, Bytes.none_ _ _, balloc (balloc (balloc (balloc (bsame w) _) _) _) _⟩

set_option maxRecDepth 100000 in
set_option maxHeartbeats 1000000 in
theorem of_s1k (Ax : Option Addr) (nx cx : Nat) (act : Int) (xda : List UInt8) (xlo xhi xn : Int) (Ap : Option Addr) (np cp Bp : Nat) (pk : ByteArray) (pkd : Int) (pda : List UInt8) (plo phi pva : Int) (Aq : Option Addr) (nq cq Bq : Nat) (qst : Int) (qk : ByteArray) (qkd : Int) (qda : List UInt8) (qlo qhi qva : Int) (w : World) (hp : Bytes w Bp Ap np cp pda) (hBp : Bp ≤ w.heap.size) (hnp : np ≤ 140737488355328) (hq : Bytes w Bq Aq nq cq qda) (hBq : Bq ≤ w.heap.size) (hnq : nq ≤ 140737488355328) (ha1 : 1 ≤ act) (ha2 : act ≤ 3)  : Calls Try.prog 71 #[.agg #[.int .i64 act, .string pk, .slice Ax nx cx, .int .i64 xlo, .int .i64 xhi, .int .i64 xn], .agg #[.int .i64 1, .string pk, .int .i64 pkd, .slice Ap np cp, .int .i64 plo, .int .i64 phi, .int .i64 pva], .agg #[.int .i64 qst, .string qk, .int .i64 qkd, .slice Aq nq cq, .int .i64 qlo, .int .i64 qhi, .int .i64 qva]] w (GivesUndo w (UndoP.of ⟨act, pk, xda, xlo, xhi, xn⟩ ⟨1, pk, ⟨pkd, pda, plo, phi, pva⟩⟩ ⟨qst, qk, ⟨qkd, qda, qlo, qhi, qva⟩⟩)) := by
  have h4 : ¬ act = 4 := by omega
  have h5 : ¬ act = 5 := by omega
  have h6 : ¬ act < 1 := by omega
  have h7 : ¬ 5 < act := by omega
  have hm : act = 1 ∨ act = 2 ∨ act = 3 := by omega
  rw [UndoP.of_was _ _ _ hm ⟨.inl rfl, rfl⟩]
  clear hm ha1 ha2
  have Hp := Lib.hid hp
  have Hq := Lib.hid hq
  clear hp hq
  go_enter Try.func71, Try.ntmps71
  go_wp2_with fail
  exact bodyPost_ret (v := .agg #[.int .i64 1, .string pk, .int .i64 1, .string pk, .int .i64 pkd, .slice Ap np cp, .int .i64 plo, .int .i64 phi, .int .i64 pva, .int .i64 0]) (by simp [results, Try.results71, go_sem]) rfl ⟨Ap, np, cp, rfl, (Hp.out.below ((balloc (balloc (balloc (balloc (bsame w) _) _) _) _).mono hBp)).more (Nat.le_trans hBp (balloc (balloc (balloc (balloc (bsame w) _) _) _) _).size), balloc (balloc (balloc (balloc (bsame w) _) _) _) _⟩

set_option maxRecDepth 100000 in
set_option maxHeartbeats 1000000 in
theorem of_s1n (Ax : Option Addr) (nx cx : Nat) (act : Int) (xk : ByteArray) (xda : List UInt8) (xlo xhi xn : Int) (Ap : Option Addr) (np cp Bp : Nat) (pk : ByteArray) (pkd : Int) (pda : List UInt8) (plo phi pva : Int) (Aq : Option Addr) (nq cq Bq : Nat) (qst : Int) (qk : ByteArray) (qkd : Int) (qda : List UInt8) (qlo qhi qva : Int) (w : World) (hp : Bytes w Bp Ap np cp pda) (hBp : Bp ≤ w.heap.size) (hnp : np ≤ 140737488355328) (hq : Bytes w Bq Aq nq cq qda) (hBq : Bq ≤ w.heap.size) (hnq : nq ≤ 140737488355328) (ha1 : 1 ≤ act) (ha2 : act ≤ 3) (hk : ¬ pk = xk) : Calls Try.prog 71 #[.agg #[.int .i64 act, .string xk, .slice Ax nx cx, .int .i64 xlo, .int .i64 xhi, .int .i64 xn], .agg #[.int .i64 1, .string pk, .int .i64 pkd, .slice Ap np cp, .int .i64 plo, .int .i64 phi, .int .i64 pva], .agg #[.int .i64 qst, .string qk, .int .i64 qkd, .slice Aq nq cq, .int .i64 qlo, .int .i64 qhi, .int .i64 qva]] w (GivesUndo w (UndoP.of ⟨act, xk, xda, xlo, xhi, xn⟩ ⟨1, pk, ⟨pkd, pda, plo, phi, pva⟩⟩ ⟨qst, qk, ⟨qkd, qda, qlo, qhi, qva⟩⟩)) := by
  have h4 : ¬ act = 4 := by omega
  have h5 : ¬ act = 5 := by omega
  have h6 : ¬ act < 1 := by omega
  have h7 : ¬ 5 < act := by omega
  have hm : act = 1 ∨ act = 2 ∨ act = 3 := by omega
  rw [UndoP.of_then _ _ _ hm (fun h => hk h.2)]
  clear hm ha1 ha2
  have Hp := Lib.hid hp
  have Hq := Lib.hid hq
  clear hp hq
  replace hk := key_ne hk
  go_enter Try.func71, Try.ntmps71
  go_wp2_with fail
  exact bodyPost_ret (v := .agg #[.int .i64 1, .string xk, .int .i64 2, .string qk, .int .i64 qkd, .slice Aq nq cq, .int .i64 qlo, .int .i64 qhi, .int .i64 qva, .int .i64 0]) (by simp [results, Try.results71, go_sem]) rfl ⟨Aq, nq, cq, rfl, (Hq.out.below ((balloc (balloc (balloc (balloc (bsame w) _) _) _) _).mono hBq)).more (Nat.le_trans hBq (balloc (balloc (balloc (balloc (bsame w) _) _) _) _).size), balloc (balloc (balloc (balloc (bsame w) _) _) _) _⟩

set_option maxRecDepth 100000 in
set_option maxHeartbeats 1000000 in
theorem of_s2k (Ax : Option Addr) (nx cx : Nat) (act : Int) (xda : List UInt8) (xlo xhi xn : Int) (Ap : Option Addr) (np cp Bp : Nat) (pk : ByteArray) (pkd : Int) (pda : List UInt8) (plo phi pva : Int) (Aq : Option Addr) (nq cq Bq : Nat) (qst : Int) (qk : ByteArray) (qkd : Int) (qda : List UInt8) (qlo qhi qva : Int) (w : World) (hp : Bytes w Bp Ap np cp pda) (hBp : Bp ≤ w.heap.size) (hnp : np ≤ 140737488355328) (hq : Bytes w Bq Aq nq cq qda) (hBq : Bq ≤ w.heap.size) (hnq : nq ≤ 140737488355328) (ha1 : 1 ≤ act) (ha2 : act ≤ 3)  : Calls Try.prog 71 #[.agg #[.int .i64 act, .string pk, .slice Ax nx cx, .int .i64 xlo, .int .i64 xhi, .int .i64 xn], .agg #[.int .i64 2, .string pk, .int .i64 pkd, .slice Ap np cp, .int .i64 plo, .int .i64 phi, .int .i64 pva], .agg #[.int .i64 qst, .string qk, .int .i64 qkd, .slice Aq nq cq, .int .i64 qlo, .int .i64 qhi, .int .i64 qva]] w (GivesUndo w (UndoP.of ⟨act, pk, xda, xlo, xhi, xn⟩ ⟨2, pk, ⟨pkd, pda, plo, phi, pva⟩⟩ ⟨qst, qk, ⟨qkd, qda, qlo, qhi, qva⟩⟩)) := by
  have h4 : ¬ act = 4 := by omega
  have h5 : ¬ act = 5 := by omega
  have h6 : ¬ act < 1 := by omega
  have h7 : ¬ 5 < act := by omega
  have hm : act = 1 ∨ act = 2 ∨ act = 3 := by omega
  rw [UndoP.of_was _ _ _ hm ⟨.inr rfl, rfl⟩]
  clear hm ha1 ha2
  have Hp := Lib.hid hp
  have Hq := Lib.hid hq
  clear hp hq
  go_enter Try.func71, Try.ntmps71
  go_wp2_with fail
  exact bodyPost_ret (v := .agg #[.int .i64 1, .string pk, .int .i64 2, .string pk, .int .i64 pkd, .slice Ap np cp, .int .i64 plo, .int .i64 phi, .int .i64 pva, .int .i64 0]) (by simp [results, Try.results71, go_sem]) rfl ⟨Ap, np, cp, rfl, (Hp.out.below ((balloc (balloc (balloc (balloc (bsame w) _) _) _) _).mono hBp)).more (Nat.le_trans hBp (balloc (balloc (balloc (balloc (bsame w) _) _) _) _).size), balloc (balloc (balloc (balloc (bsame w) _) _) _) _⟩

set_option maxRecDepth 100000 in
set_option maxHeartbeats 1000000 in
theorem of_s2n (Ax : Option Addr) (nx cx : Nat) (act : Int) (xk : ByteArray) (xda : List UInt8) (xlo xhi xn : Int) (Ap : Option Addr) (np cp Bp : Nat) (pk : ByteArray) (pkd : Int) (pda : List UInt8) (plo phi pva : Int) (Aq : Option Addr) (nq cq Bq : Nat) (qst : Int) (qk : ByteArray) (qkd : Int) (qda : List UInt8) (qlo qhi qva : Int) (w : World) (hp : Bytes w Bp Ap np cp pda) (hBp : Bp ≤ w.heap.size) (hnp : np ≤ 140737488355328) (hq : Bytes w Bq Aq nq cq qda) (hBq : Bq ≤ w.heap.size) (hnq : nq ≤ 140737488355328) (ha1 : 1 ≤ act) (ha2 : act ≤ 3) (hk : ¬ pk = xk) : Calls Try.prog 71 #[.agg #[.int .i64 act, .string xk, .slice Ax nx cx, .int .i64 xlo, .int .i64 xhi, .int .i64 xn], .agg #[.int .i64 2, .string pk, .int .i64 pkd, .slice Ap np cp, .int .i64 plo, .int .i64 phi, .int .i64 pva], .agg #[.int .i64 qst, .string qk, .int .i64 qkd, .slice Aq nq cq, .int .i64 qlo, .int .i64 qhi, .int .i64 qva]] w (GivesUndo w (UndoP.of ⟨act, xk, xda, xlo, xhi, xn⟩ ⟨2, pk, ⟨pkd, pda, plo, phi, pva⟩⟩ ⟨qst, qk, ⟨qkd, qda, qlo, qhi, qva⟩⟩)) := by
  have h4 : ¬ act = 4 := by omega
  have h5 : ¬ act = 5 := by omega
  have h6 : ¬ act < 1 := by omega
  have h7 : ¬ 5 < act := by omega
  have hm : act = 1 ∨ act = 2 ∨ act = 3 := by omega
  rw [UndoP.of_then _ _ _ hm (fun h => hk h.2)]
  clear hm ha1 ha2
  have Hp := Lib.hid hp
  have Hq := Lib.hid hq
  clear hp hq
  replace hk := key_ne hk
  go_enter Try.func71, Try.ntmps71
  go_wp2_with fail
  exact bodyPost_ret (v := .agg #[.int .i64 1, .string xk, .int .i64 2, .string qk, .int .i64 qkd, .slice Aq nq cq, .int .i64 qlo, .int .i64 qhi, .int .i64 qva, .int .i64 0]) (by simp [results, Try.results71, go_sem]) rfl ⟨Aq, nq, cq, rfl, (Hq.out.below ((balloc (balloc (balloc (balloc (bsame w) _) _) _) _).mono hBq)).more (Nat.le_trans hBq (balloc (balloc (balloc (balloc (bsame w) _) _) _) _).size), balloc (balloc (balloc (balloc (bsame w) _) _) _) _⟩

set_option maxRecDepth 100000 in
set_option maxHeartbeats 1000000 in
theorem of_no (Ax : Option Addr) (nx cx : Nat) (act : Int) (xk : ByteArray) (xda : List UInt8) (xlo xhi xn : Int) (Ap : Option Addr) (np cp Bp : Nat) (pst : Int) (pk : ByteArray) (pkd : Int) (pda : List UInt8) (plo phi pva : Int) (Aq : Option Addr) (nq cq Bq : Nat) (qst : Int) (qk : ByteArray) (qkd : Int) (qda : List UInt8) (qlo qhi qva : Int) (w : World) (hp : Bytes w Bp Ap np cp pda) (hBp : Bp ≤ w.heap.size) (hnp : np ≤ 140737488355328) (hq : Bytes w Bq Aq nq cq qda) (hBq : Bq ≤ w.heap.size) (hnq : nq ≤ 140737488355328) (ha1 : 1 ≤ act) (ha2 : act ≤ 3) (hs1 : ¬ pst = 1) (hs2 : ¬ pst = 2) : Calls Try.prog 71 #[.agg #[.int .i64 act, .string xk, .slice Ax nx cx, .int .i64 xlo, .int .i64 xhi, .int .i64 xn], .agg #[.int .i64 pst, .string pk, .int .i64 pkd, .slice Ap np cp, .int .i64 plo, .int .i64 phi, .int .i64 pva], .agg #[.int .i64 qst, .string qk, .int .i64 qkd, .slice Aq nq cq, .int .i64 qlo, .int .i64 qhi, .int .i64 qva]] w (GivesUndo w (UndoP.of ⟨act, xk, xda, xlo, xhi, xn⟩ ⟨pst, pk, ⟨pkd, pda, plo, phi, pva⟩⟩ ⟨qst, qk, ⟨qkd, qda, qlo, qhi, qva⟩⟩)) := by
  have h4 : ¬ act = 4 := by omega
  have h5 : ¬ act = 5 := by omega
  have h6 : ¬ act < 1 := by omega
  have h7 : ¬ 5 < act := by omega
  have hm : act = 1 ∨ act = 2 ∨ act = 3 := by omega
  rw [UndoP.of_then _ _ _ hm (fun h => h.1.elim hs1 hs2)]
  clear hm ha1 ha2
  have Hp := Lib.hid hp
  have Hq := Lib.hid hq
  clear hp hq
  go_enter Try.func71, Try.ntmps71
  go_wp2_with fail
  exact bodyPost_ret (v := .agg #[.int .i64 1, .string xk, .int .i64 2, .string qk, .int .i64 qkd, .slice Aq nq cq, .int .i64 qlo, .int .i64 qhi, .int .i64 qva, .int .i64 0]) (by simp [results, Try.results71, go_sem]) rfl ⟨Aq, nq, cq, rfl, (Hq.out.below ((balloc (balloc (balloc (balloc (bsame w) _) _) _) _).mono hBq)).more (Nat.le_trans hBq (balloc (balloc (balloc (balloc (bsame w) _) _) _) _).size), balloc (balloc (balloc (balloc (bsame w) _) _) _) _⟩

theorem of_any (Ax : Option Addr) (nx cx : Nat) (act : Int) (xk : ByteArray) (xda : List UInt8) (xlo xhi xn : Int) (Ap : Option Addr) (np cp Bp : Nat) (pst : Int) (pk : ByteArray) (pkd : Int) (pda : List UInt8) (plo phi pva : Int) (Aq : Option Addr) (nq cq Bq : Nat) (qst : Int) (qk : ByteArray) (qkd : Int) (qda : List UInt8) (qlo qhi qva : Int) (w : World) (hp : Bytes w Bp Ap np cp pda) (hBp : Bp ≤ w.heap.size) (hnp : np ≤ 140737488355328) (hq : Bytes w Bq Aq nq cq qda) (hBq : Bq ≤ w.heap.size) (hnq : nq ≤ 140737488355328) : Calls Try.prog 71 #[.agg #[.int .i64 act, .string xk, .slice Ax nx cx, .int .i64 xlo, .int .i64 xhi, .int .i64 xn], .agg #[.int .i64 pst, .string pk, .int .i64 pkd, .slice Ap np cp, .int .i64 plo, .int .i64 phi, .int .i64 pva], .agg #[.int .i64 qst, .string qk, .int .i64 qkd, .slice Aq nq cq, .int .i64 qlo, .int .i64 qhi, .int .i64 qva]] w (GivesUndo w (UndoP.of ⟨act, xk, xda, xlo, xhi, xn⟩ ⟨pst, pk, ⟨pkd, pda, plo, phi, pva⟩⟩ ⟨qst, qk, ⟨qkd, qda, qlo, qhi, qva⟩⟩)) := by
  by_cases h4 : act = 4
  · subst h4
    exact of_inc Ax nx cx xk xda xlo xhi xn Ap np cp Bp pst pk pkd pda plo phi pva Aq nq cq Bq qst qk qkd qda qlo qhi qva w hp hBp hnp hq hBq hnq
  by_cases h5 : act = 5
  · subst h5
    exact of_dec Ax nx cx xk xda xlo xhi xn Ap np cp Bp pst pk pkd pda plo phi pva Aq nq cq Bq qst qk qkd qda qlo qhi qva w hp hBp hnp hq hBq hnq
  by_cases h1 : act < 1
  · exact of_low Ax nx cx act xk xda xlo xhi xn Ap np cp Bp pst pk pkd pda plo phi pva Aq nq cq Bq qst qk qkd qda qlo qhi qva w hp hBp hnp hq hBq hnq h1
  by_cases h6 : 5 < act
  · exact of_high Ax nx cx act xk xda xlo xhi xn Ap np cp Bp pst pk pkd pda plo phi pva Aq nq cq Bq qst qk qkd qda qlo qhi qva w hp hBp hnp hq hBq hnq h6
  have ha1 : 1 ≤ act := by omega
  have ha2 : act ≤ 3 := by omega
  by_cases hs1 : pst = 1
  · subst hs1
    by_cases hk : pk = xk
    · subst hk
      exact of_s1k Ax nx cx act xda xlo xhi xn Ap np cp Bp pk pkd pda plo phi pva Aq nq cq Bq qst qk qkd qda qlo qhi qva w hp hBp hnp hq hBq hnq ha1 ha2
    · exact of_s1n Ax nx cx act xk xda xlo xhi xn Ap np cp Bp pk pkd pda plo phi pva Aq nq cq Bq qst qk qkd qda qlo qhi qva w hp hBp hnp hq hBq hnq ha1 ha2 hk
  by_cases hs2 : pst = 2
  · subst hs2
    by_cases hk : pk = xk
    · subst hk
      exact of_s2k Ax nx cx act xda xlo xhi xn Ap np cp Bp pk pkd pda plo phi pva Aq nq cq Bq qst qk qkd qda qlo qhi qva w hp hBp hnp hq hBq hnq ha1 ha2
    · exact of_s2n Ax nx cx act xk xda xlo xhi xn Ap np cp Bp pk pkd pda plo phi pva Aq nq cq Bq qst qk qkd qda qlo qhi qva w hp hBp hnp hq hBq hnq ha1 ha2 hk
  exact of_no Ax nx cx act xk xda xlo xhi xn Ap np cp Bp pst pk pkd pda plo phi pva Aq nq cq Bq qst qk qkd qda qlo qhi qva w hp hBp hnp hq hBq hnq ha1 ha2 hs1 hs2

set_option maxRecDepth 100000 in
set_option maxHeartbeats 1000000 in
theorem apply_item (uk : ByteArray) (un : Int) (Ap : Option Addr) (np cp Bp : Nat) (pst : Int) (pk : ByteArray) (pkd : Int) (pda : List UInt8) (plo phi pva : Int) (Aq : Option Addr) (nq cq Bq : Nat) (qst : Int) (qk : ByteArray) (qkd : Int) (qda : List UInt8) (qlo qhi qva : Int) (w : World) (hp : Bytes w Bp Ap np cp pda) (hBp : Bp ≤ w.heap.size) (hnp : np ≤ 140737488355328) (hq : Bytes w Bq Aq nq cq qda) (hBq : Bq ≤ w.heap.size) (hnq : nq ≤ 140737488355328) (hun : In64 un) (hqv : In64 qva) (hql : In64 qlo) (hqh : In64 qhi) : Calls Try.prog 68 #[.agg #[.int .i64 1, .string uk, .int .i64 pst, .string pk, .int .i64 pkd, .slice Ap np cp, .int .i64 plo, .int .i64 phi, .int .i64 pva, .int .i64 un], .agg #[.int .i64 qst, .string qk, .int .i64 qkd, .slice Aq nq cq, .int .i64 qlo, .int .i64 qhi, .int .i64 qva]] w (SlotGet.GotItem w (UndoP.apply ⟨1, uk, ⟨pst, pk, ⟨pkd, pda, plo, phi, pva⟩⟩, un⟩ ⟨qst, qk, ⟨qkd, qda, qlo, qhi, qva⟩⟩)) := by
  rw [UndoP.apply_item _ _ rfl]
  have Hp := Lib.hid hp
  clear hp hq hun hqv hql hqh
  go_enter Try.func68, Try.ntmps68
  go_wp2_with fail
  exact bodyPost_ret (v := .tuple #[.agg #[.int .i64 pst, .string pk, .int .i64 pkd, .slice Ap np cp, .int .i64 plo, .int .i64 phi, .int .i64 pva], .int .i64 0]) (by simp [results, Try.results68, go_sem]) rfl ⟨Ap, np, cp, rfl, (Hp.out.below ((balloc (balloc (balloc (bsame w) _) _) _).mono hBp)).more (Nat.le_trans hBp (balloc (balloc (balloc (bsame w) _) _) _).size), balloc (balloc (balloc (bsame w) _) _) _⟩

set_option maxRecDepth 100000 in
set_option maxHeartbeats 1000000 in
theorem apply_arg (act : Int) (uk : ByteArray) (un : Int) (Ap : Option Addr) (np cp Bp : Nat) (pst : Int) (pk : ByteArray) (pkd : Int) (pda : List UInt8) (plo phi pva : Int) (Aq : Option Addr) (nq cq Bq : Nat) (qst : Int) (qk : ByteArray) (qkd : Int) (qda : List UInt8) (qlo qhi qva : Int) (w : World) (hp : Bytes w Bp Ap np cp pda) (hBp : Bp ≤ w.heap.size) (hnp : np ≤ 140737488355328) (hq : Bytes w Bq Aq nq cq qda) (hBq : Bq ≤ w.heap.size) (hnq : nq ≤ 140737488355328) (hun : In64 un) (hqv : In64 qva) (hql : In64 qlo) (hqh : In64 qhi) (h1 : ¬ act = 1) (h2 : ¬ act = 2) (h3 : ¬ act = 3) : Calls Try.prog 68 #[.agg #[.int .i64 act, .string uk, .int .i64 pst, .string pk, .int .i64 pkd, .slice Ap np cp, .int .i64 plo, .int .i64 phi, .int .i64 pva, .int .i64 un], .agg #[.int .i64 qst, .string qk, .int .i64 qkd, .slice Aq nq cq, .int .i64 qlo, .int .i64 qhi, .int .i64 qva]] w (SlotGet.GotItem w (UndoP.apply ⟨act, uk, ⟨pst, pk, ⟨pkd, pda, plo, phi, pva⟩⟩, un⟩ ⟨qst, qk, ⟨qkd, qda, qlo, qhi, qva⟩⟩)) := by
  rw [UndoP.apply_arg _ _ h1 h2 h3]
  clear hp hq hun hqv hql hqh
  have e2 : (act != 2) = true := by simpa using h2
  have e3 : (act != 3) = true := by simpa using h3
  go_enter Try.func68, Try.ntmps68
  go_wp2_with fail
  all_goals exact bodyPost_ret (v := .tuple #[.agg #[.int .i64 0, .string ⟨#[]⟩, .int .i64 0, .slice none 0 0, .int .i64 0, .int .i64 0, .int .i64 0], .int .i64 1]) (by simp [results, Try.results68, go_sem, *]) rfl ⟨none, 0, 0, rfl, Bytes.none_ _ _, balloc (balloc (balloc (bsame w) _) _) _⟩

set_option maxRecDepth 100000 in
set_option maxHeartbeats 1000000 in
theorem apply2_st (uk : ByteArray) (un : Int) (Ap : Option Addr) (np cp Bp : Nat) (pst : Int) (pk : ByteArray) (pkd : Int) (pda : List UInt8) (plo phi pva : Int) (Aq : Option Addr) (nq cq Bq : Nat) (qst : Int) (qk : ByteArray) (qkd : Int) (qda : List UInt8) (qlo qhi qva : Int) (w : World) (hp : Bytes w Bp Ap np cp pda) (hBp : Bp ≤ w.heap.size) (hnp : np ≤ 140737488355328) (hq : Bytes w Bq Aq nq cq qda) (hBq : Bq ≤ w.heap.size) (hnq : nq ≤ 140737488355328) (hun : In64 un) (hqv : In64 qva) (hql : In64 qlo) (hqh : In64 qhi) (hs : ¬ qst = 1) : Calls Try.prog 68 #[.agg #[.int .i64 2, .string uk, .int .i64 pst, .string pk, .int .i64 pkd, .slice Ap np cp, .int .i64 plo, .int .i64 phi, .int .i64 pva, .int .i64 un], .agg #[.int .i64 qst, .string qk, .int .i64 qkd, .slice Aq nq cq, .int .i64 qlo, .int .i64 qhi, .int .i64 qva]] w (SlotGet.GotItem w (UndoP.apply ⟨2, uk, ⟨pst, pk, ⟨pkd, pda, plo, phi, pva⟩⟩, un⟩ ⟨qst, qk, ⟨qkd, qda, qlo, qhi, qva⟩⟩)) := by
  rw [UndoP.apply_none _ _ (by simp) (fun h => hs h.1)]
  clear hp hq hun hqv hql hqh
  go_enter Try.func68, Try.ntmps68
  go_wp2_with fail
  all_goals exact bodyPost_ret (v := .tuple #[.agg #[.int .i64 0, .string ⟨#[]⟩, .int .i64 0, .slice none 0 0, .int .i64 0, .int .i64 0, .int .i64 0], .int .i64 5]) (by simp [results, Try.results68, go_sem, *]) rfl ⟨none, 0, 0, rfl, Bytes.none_ _ _, balloc (balloc (balloc (bsame w) _) _) _⟩

set_option maxRecDepth 100000 in
set_option maxHeartbeats 1000000 in
theorem apply2_key (uk : ByteArray) (un : Int) (Ap : Option Addr) (np cp Bp : Nat) (pst : Int) (pk : ByteArray) (pkd : Int) (pda : List UInt8) (plo phi pva : Int) (Aq : Option Addr) (nq cq Bq : Nat) (qk : ByteArray) (qkd : Int) (qda : List UInt8) (qlo qhi qva : Int) (w : World) (hp : Bytes w Bp Ap np cp pda) (hBp : Bp ≤ w.heap.size) (hnp : np ≤ 140737488355328) (hq : Bytes w Bq Aq nq cq qda) (hBq : Bq ≤ w.heap.size) (hnq : nq ≤ 140737488355328) (hun : In64 un) (hqv : In64 qva) (hql : In64 qlo) (hqh : In64 qhi) (hk : ¬ qk = uk) : Calls Try.prog 68 #[.agg #[.int .i64 2, .string uk, .int .i64 pst, .string pk, .int .i64 pkd, .slice Ap np cp, .int .i64 plo, .int .i64 phi, .int .i64 pva, .int .i64 un], .agg #[.int .i64 1, .string qk, .int .i64 qkd, .slice Aq nq cq, .int .i64 qlo, .int .i64 qhi, .int .i64 qva]] w (SlotGet.GotItem w (UndoP.apply ⟨2, uk, ⟨pst, pk, ⟨pkd, pda, plo, phi, pva⟩⟩, un⟩ ⟨1, qk, ⟨qkd, qda, qlo, qhi, qva⟩⟩)) := by
  rw [UndoP.apply_none _ _ (by simp) (fun h => hk h.2)]
  clear hp hq hun hqv hql hqh
  replace hk := key_ne hk
  go_enter Try.func68, Try.ntmps68
  go_wp2_with fail
  all_goals exact bodyPost_ret (v := .tuple #[.agg #[.int .i64 0, .string ⟨#[]⟩, .int .i64 0, .slice none 0 0, .int .i64 0, .int .i64 0, .int .i64 0], .int .i64 5]) (by simp [results, Try.results68, go_sem, *]) rfl ⟨none, 0, 0, rfl, Bytes.none_ _ _, balloc (balloc (balloc (bsame w) _) _) _⟩

set_option maxRecDepth 100000 in
set_option maxHeartbeats 1000000 in
theorem apply2_kd (un : Int) (Ap : Option Addr) (np cp Bp : Nat) (pst : Int) (pk : ByteArray) (pkd : Int) (pda : List UInt8) (plo phi pva : Int) (Aq : Option Addr) (nq cq Bq : Nat) (qk : ByteArray) (qkd : Int) (qda : List UInt8) (qlo qhi qva : Int) (w : World) (hp : Bytes w Bp Ap np cp pda) (hBp : Bp ≤ w.heap.size) (hnp : np ≤ 140737488355328) (hq : Bytes w Bq Aq nq cq qda) (hBq : Bq ≤ w.heap.size) (hnq : nq ≤ 140737488355328) (hun : In64 un) (hqv : In64 qva) (hql : In64 qlo) (hqh : In64 qhi) (hr : ¬ qkd = 2) : Calls Try.prog 68 #[.agg #[.int .i64 2, .string qk, .int .i64 pst, .string pk, .int .i64 pkd, .slice Ap np cp, .int .i64 plo, .int .i64 phi, .int .i64 pva, .int .i64 un], .agg #[.int .i64 1, .string qk, .int .i64 qkd, .slice Aq nq cq, .int .i64 qlo, .int .i64 qhi, .int .i64 qva]] w (SlotGet.GotItem w (UndoP.apply ⟨2, qk, ⟨pst, pk, ⟨pkd, pda, plo, phi, pva⟩⟩, un⟩ ⟨1, qk, ⟨qkd, qda, qlo, qhi, qva⟩⟩)) := by
  rw [UndoP.apply_kind _ _ (by simp) ⟨rfl, rfl⟩ (fun h => hr h.1)]
  clear hp hq hun hqv hql hqh
  go_enter Try.func68, Try.ntmps68
  go_wp2_with fail
  all_goals exact bodyPost_ret (v := .tuple #[.agg #[.int .i64 0, .string ⟨#[]⟩, .int .i64 0, .slice none 0 0, .int .i64 0, .int .i64 0, .int .i64 0], .int .i64 6]) (by simp [results, Try.results68, go_sem, *]) rfl ⟨none, 0, 0, rfl, Bytes.none_ _ _, balloc (balloc (balloc (balloc (bsame w) _) _) _) _⟩

set_option maxRecDepth 100000 in
set_option maxHeartbeats 1000000 in
theorem apply2_bad (un : Int) (Ap : Option Addr) (np cp Bp : Nat) (pst : Int) (pk : ByteArray) (pkd : Int) (pda : List UInt8) (plo phi pva : Int) (Aq : Option Addr) (nq cq Bq : Nat) (qk : ByteArray) (qda : List UInt8) (qlo qhi qva : Int) (w : World) (hp : Bytes w Bp Ap np cp pda) (hBp : Bp ≤ w.heap.size) (hnp : np ≤ 140737488355328) (hq : Bytes w Bq Aq nq cq qda) (hBq : Bq ≤ w.heap.size) (hnq : nq ≤ 140737488355328) (hun : In64 un) (hqv : In64 qva) (hql : In64 qlo) (hqh : In64 qhi) (hr : CellP.right ⟨2, qda, qlo, qhi, qva⟩ = false) : Calls Try.prog 68 #[.agg #[.int .i64 2, .string qk, .int .i64 pst, .string pk, .int .i64 pkd, .slice Ap np cp, .int .i64 plo, .int .i64 phi, .int .i64 pva, .int .i64 un], .agg #[.int .i64 1, .string qk, .int .i64 2, .slice Aq nq cq, .int .i64 qlo, .int .i64 qhi, .int .i64 qva]] w (SlotGet.GotItem w (UndoP.apply ⟨2, qk, ⟨pst, pk, ⟨pkd, pda, plo, phi, pva⟩⟩, un⟩ ⟨1, qk, ⟨2, qda, qlo, qhi, qva⟩⟩)) := by
  rw [UndoP.apply_kind _ _ (by simp) ⟨rfl, rfl⟩ (fun h => by rw [hr] at h; simp at h)]
  have Hq := Lib.hid hq
  have hlq := hq.len
  have hcq := Nat.le_trans hq.2.1 hq.2.2.1
  obtain ⟨v1, v2⟩ := hqv
  obtain ⟨v3, v4⟩ := hun
  obtain ⟨v5, v6⟩ := hql
  obtain ⟨v7, v8⟩ := hqh
  have HRT : Hid (∀ W, Calls Try.prog 21 #[.agg #[.int .i64 2, .slice Aq nq cq, .int .i64 qlo, .int .i64 qhi, .int .i64 qva]] W fun e w' => e = .returned (.bool false) ∧ Below W.heap.size W w') := Lib.hid (fun W => by have h := CellW.right_any Aq nq cq ⟨2, qda, qlo, qhi, qva⟩ W hlq hcq; rw [hr] at h; exact h)
  clear hp hq hlq hcq hr
  go_enter Try.func68, Try.ntmps68
  go_wp2_with fail
  generalize hW0 : ((((w).alloc (.cells #[.int .i64 2, .string qk, .int .i64 pst, .string pk, .int .i64 pkd, .slice Ap np cp, .int .i64 plo, .int .i64 phi, .int .i64 pva, .int .i64 un] 79)).alloc (.cells #[.int .i64 1, .string qk, .int .i64 2, .slice Aq nq cq, .int .i64 qlo, .int .i64 qhi, .int .i64 qva] 38)).alloc (.cells #[.int .i64 0, .string ⟨#[]⟩, .int .i64 0, .slice none 0 0, .int .i64 0, .int .i64 0, .int .i64 0] 38)).alloc (.cells #[.int .i64 2, .slice Aq nq cq, .int .i64 qlo, .int .i64 qhi, .int .i64 qva] 24) = W0
  have HS0_0 : Hid (Str W0 (w.heap.size) #[.int .i64 2, .string qk, .int .i64 pst, .string pk, .int .i64 pkd, .slice Ap np cp, .int .i64 plo, .int .i64 phi, .int .i64 pva, .int .i64 un]) := Lib.hid (by rw [← hW0]; have := (((Str.new (w) #[.int .i64 2, .string qk, .int .i64 pst, .string pk, .int .i64 pkd, .slice Ap np cp, .int .i64 plo, .int .i64 phi, .int .i64 pva, .int .i64 un] 79).alloc (.cells #[.int .i64 1, .string qk, .int .i64 2, .slice Aq nq cq, .int .i64 qlo, .int .i64 qhi, .int .i64 qva] 38)).alloc (.cells #[.int .i64 0, .string ⟨#[]⟩, .int .i64 0, .slice none 0 0, .int .i64 0, .int .i64 0, .int .i64 0] 38)).alloc (.cells #[.int .i64 2, .slice Aq nq cq, .int .i64 qlo, .int .i64 qhi, .int .i64 qva] 24); simpa using this)
  have HS1_0 : Hid (Str W0 (w.heap.size + 1) #[.int .i64 1, .string qk, .int .i64 2, .slice Aq nq cq, .int .i64 qlo, .int .i64 qhi, .int .i64 qva]) := Lib.hid (by rw [← hW0]; have := ((Str.new ((w).alloc (.cells #[.int .i64 2, .string qk, .int .i64 pst, .string pk, .int .i64 pkd, .slice Ap np cp, .int .i64 plo, .int .i64 phi, .int .i64 pva, .int .i64 un] 79)) #[.int .i64 1, .string qk, .int .i64 2, .slice Aq nq cq, .int .i64 qlo, .int .i64 qhi, .int .i64 qva] 38).alloc (.cells #[.int .i64 0, .string ⟨#[]⟩, .int .i64 0, .slice none 0 0, .int .i64 0, .int .i64 0, .int .i64 0] 38)).alloc (.cells #[.int .i64 2, .slice Aq nq cq, .int .i64 qlo, .int .i64 qhi, .int .i64 qva] 24); simpa using this)
  have HS2_0 : Hid (Str W0 (w.heap.size + 1 + 1) #[.int .i64 0, .string ⟨#[]⟩, .int .i64 0, .slice none 0 0, .int .i64 0, .int .i64 0, .int .i64 0]) := Lib.hid (by rw [← hW0]; have := (Str.new (((w).alloc (.cells #[.int .i64 2, .string qk, .int .i64 pst, .string pk, .int .i64 pkd, .slice Ap np cp, .int .i64 plo, .int .i64 phi, .int .i64 pva, .int .i64 un] 79)).alloc (.cells #[.int .i64 1, .string qk, .int .i64 2, .slice Aq nq cq, .int .i64 qlo, .int .i64 qhi, .int .i64 qva] 38)) #[.int .i64 0, .string ⟨#[]⟩, .int .i64 0, .slice none 0 0, .int .i64 0, .int .i64 0, .int .i64 0] 38).alloc (.cells #[.int .i64 2, .slice Aq nq cq, .int .i64 qlo, .int .i64 qhi, .int .i64 qva] 24); simpa using this)
  have HS3_0 : Hid (Str W0 (w.heap.size + 1 + 1 + 1) #[.int .i64 2, .slice Aq nq cq, .int .i64 qlo, .int .i64 qhi, .int .i64 qva]) := Lib.hid (by rw [← hW0]; have := Str.new ((((w).alloc (.cells #[.int .i64 2, .string qk, .int .i64 pst, .string pk, .int .i64 pkd, .slice Ap np cp, .int .i64 plo, .int .i64 phi, .int .i64 pva, .int .i64 un] 79)).alloc (.cells #[.int .i64 1, .string qk, .int .i64 2, .slice Aq nq cq, .int .i64 qlo, .int .i64 qhi, .int .i64 qva] 38)).alloc (.cells #[.int .i64 0, .string ⟨#[]⟩, .int .i64 0, .slice none 0 0, .int .i64 0, .int .i64 0, .int .i64 0] 38)) #[.int .i64 2, .slice Aq nq cq, .int .i64 qlo, .int .i64 qhi, .int .i64 qva] 24; simpa using this)
  have HB_0 : Hid (Below w.heap.size w W0) := Lib.hid (by rw [← hW0]; exact balloc (balloc (balloc (balloc (bsame w) _) _) _) _)
  have hw_0 := HB_0.out.size
  clear hW0
  obtain ⟨f0_0_0, f0_0_1, f0_0_2, f0_0_3, f0_0_4, f0_0_5, f0_0_6, f0_0_7, f0_0_8, f0_0_9⟩ := str10 HS0_0.out
  have hl0_0 := HS0_0.out.lt
  obtain ⟨f1_0_0, f1_0_1, f1_0_2, f1_0_3, f1_0_4, f1_0_5, f1_0_6⟩ := str7 HS1_0.out
  have hl1_0 := HS1_0.out.lt
  have hf1_0 := fun j => HS1_0.out.frozen j
  obtain ⟨f2_0_0, f2_0_1, f2_0_2, f2_0_3, f2_0_4, f2_0_5, f2_0_6⟩ := str7 HS2_0.out
  have hl2_0 := HS2_0.out.lt
  have hf2_0 := fun j => HS2_0.out.frozen j
  obtain ⟨f3_0_0, f3_0_1, f3_0_2, f3_0_3, f3_0_4⟩ := str5 HS3_0.out
  have hl3_0 := HS3_0.out.lt
  have hf3_0 := fun j => HS3_0.out.frozen j
  refine (HRT.out _).mono ?_
  rintro e W1 ⟨rfl, hb1⟩
  have HS0_1 := Lib.hid (HS0_0.out.next hb1)
  have HS1_1 := Lib.hid (HS1_0.out.next hb1)
  have HS2_1 := Lib.hid (HS2_0.out.next hb1)
  have HS3_1 := Lib.hid (HS3_0.out.next hb1)
  have HB_1 := Lib.hid (bstep HB_0.out hb1)
  have hw_1 := HB_1.out.size
  have hws_1 := (hb1).size
  clear f0_0_0 f0_0_1 f0_0_2 f0_0_3 f0_0_4 f0_0_5 f0_0_6 f0_0_7 f0_0_8 f0_0_9 HS0_0 f1_0_0 f1_0_1 f1_0_2 f1_0_3 f1_0_4 f1_0_5 f1_0_6 HS1_0 hf1_0 f2_0_0 f2_0_1 f2_0_2 f2_0_3 f2_0_4 f2_0_5 f2_0_6 HS2_0 hf2_0 f3_0_0 f3_0_1 f3_0_2 f3_0_3 f3_0_4 HS3_0 hf3_0
  clear hb1
  obtain ⟨f0_1_0, f0_1_1, f0_1_2, f0_1_3, f0_1_4, f0_1_5, f0_1_6, f0_1_7, f0_1_8, f0_1_9⟩ := str10 HS0_1.out
  have hl0_1 := HS0_1.out.lt
  obtain ⟨f1_1_0, f1_1_1, f1_1_2, f1_1_3, f1_1_4, f1_1_5, f1_1_6⟩ := str7 HS1_1.out
  have hl1_1 := HS1_1.out.lt
  have hf1_1 := fun j => HS1_1.out.frozen j
  obtain ⟨f2_1_0, f2_1_1, f2_1_2, f2_1_3, f2_1_4, f2_1_5, f2_1_6⟩ := str7 HS2_1.out
  have hl2_1 := HS2_1.out.lt
  have hf2_1 := fun j => HS2_1.out.frozen j
  obtain ⟨f3_1_0, f3_1_1, f3_1_2, f3_1_3, f3_1_4⟩ := str5 HS3_1.out
  have hl3_1 := HS3_1.out.lt
  have hf3_1 := fun j => HS3_1.out.frozen j
  go_wp2_with fail
  generalize hW2 : (((((((W1).setCell ⟨w.heap.size + 1 + 1, 0, none⟩ (.int .i64 0)).setCell ⟨w.heap.size + 1 + 1, 1, none⟩ (.string ⟨#[]⟩)).setCell ⟨w.heap.size + 1 + 1, 2, none⟩ (.int .i64 0)).setCell ⟨w.heap.size + 1 + 1, 3, none⟩ (.slice none 0 0)).setCell ⟨w.heap.size + 1 + 1, 4, none⟩ (.int .i64 0)).setCell ⟨w.heap.size + 1 + 1, 5, none⟩ (.int .i64 0)).setCell ⟨w.heap.size + 1 + 1, 6, none⟩ (.int .i64 0) = W2
  have HS0_2 : Hid (Str W2 (w.heap.size) #[.int .i64 2, .string qk, .int .i64 pst, .string pk, .int .i64 pkd, .slice Ap np cp, .int .i64 plo, .int .i64 phi, .int .i64 pva, .int .i64 un]) := Lib.hid (by rw [← hW2]; exact (((((((HS0_1.out).other 0 _ (by omega)).other 1 _ (by omega)).other 2 _ (by omega)).other 3 _ (by omega)).other 4 _ (by omega)).other 5 _ (by omega)).other 6 _ (by omega))
  have HS1_2 : Hid (Str W2 (w.heap.size + 1) #[.int .i64 1, .string qk, .int .i64 2, .slice Aq nq cq, .int .i64 qlo, .int .i64 qhi, .int .i64 qva]) := Lib.hid (by rw [← hW2]; exact (((((((HS1_1.out).other 0 _ (by omega)).other 1 _ (by omega)).other 2 _ (by omega)).other 3 _ (by omega)).other 4 _ (by omega)).other 5 _ (by omega)).other 6 _ (by omega))
  have HS2_2 : Hid (Str W2 (w.heap.size + 1 + 1) #[.int .i64 0, .string ⟨#[]⟩, .int .i64 0, .slice none 0 0, .int .i64 0, .int .i64 0, .int .i64 0]) := Lib.hid (by rw [← hW2]; have := (((((((HS2_1.out).set 0 (.int .i64 0)).set 1 (.string ⟨#[]⟩)).set 2 (.int .i64 0)).set 3 (.slice none 0 0)).set 4 (.int .i64 0)).set 5 (.int .i64 0)).set 6 (.int .i64 0); simpa using this)
  have HS3_2 : Hid (Str W2 (w.heap.size + 1 + 1 + 1) #[.int .i64 2, .slice Aq nq cq, .int .i64 qlo, .int .i64 qhi, .int .i64 qva]) := Lib.hid (by rw [← hW2]; exact (((((((HS3_1.out).other 0 _ (by omega)).other 1 _ (by omega)).other 2 _ (by omega)).other 3 _ (by omega)).other 4 _ (by omega)).other 5 _ (by omega)).other 6 _ (by omega))
  have hgr2 : W1.grownBy W2 (some (w.heap.size + 1 + 1)) := by rw [← hW2]; exact grown_set (grown_set (grown_set (grown_set (grown_set (grown_set (grown_set (grown_refl W1 (w.heap.size + 1 + 1)) 0 (.int .i64 0)) 1 (.string ⟨#[]⟩)) 2 (.int .i64 0)) 3 (.slice none 0 0)) 4 (.int .i64 0)) 5 (.int .i64 0)) 6 (.int .i64 0)
  have HB_2 := Lib.hid (below_grown HB_1.out hgr2 (by omega))
  have hw_2 := HB_2.out.size
  have hws_2 := hgr2.size
  clear hW2
  clear f0_1_0 f0_1_1 f0_1_2 f0_1_3 f0_1_4 f0_1_5 f0_1_6 f0_1_7 f0_1_8 f0_1_9 HS0_1 f1_1_0 f1_1_1 f1_1_2 f1_1_3 f1_1_4 f1_1_5 f1_1_6 HS1_1 hf1_1 f2_1_0 f2_1_1 f2_1_2 f2_1_3 f2_1_4 f2_1_5 f2_1_6 HS2_1 hf2_1 f3_1_0 f3_1_1 f3_1_2 f3_1_3 f3_1_4 HS3_1 hf3_1
  clear hgr2
  obtain ⟨f0_2_0, f0_2_1, f0_2_2, f0_2_3, f0_2_4, f0_2_5, f0_2_6, f0_2_7, f0_2_8, f0_2_9⟩ := str10 HS0_2.out
  have hl0_2 := HS0_2.out.lt
  obtain ⟨f1_2_0, f1_2_1, f1_2_2, f1_2_3, f1_2_4, f1_2_5, f1_2_6⟩ := str7 HS1_2.out
  have hl1_2 := HS1_2.out.lt
  have hf1_2 := fun j => HS1_2.out.frozen j
  obtain ⟨f2_2_0, f2_2_1, f2_2_2, f2_2_3, f2_2_4, f2_2_5, f2_2_6⟩ := str7 HS2_2.out
  have hl2_2 := HS2_2.out.lt
  have hf2_2 := fun j => HS2_2.out.frozen j
  obtain ⟨f3_2_0, f3_2_1, f3_2_2, f3_2_3, f3_2_4⟩ := str5 HS3_2.out
  have hl3_2 := HS3_2.out.lt
  have hf3_2 := fun j => HS3_2.out.frozen j
  exact bodyPost_ret (v := .tuple #[.agg #[.int .i64 0, .string ⟨#[]⟩, .int .i64 0, .slice none 0 0, .int .i64 0, .int .i64 0, .int .i64 0], .int .i64 6]) (by simp [results, Try.results68, go_sem, *]) rfl ⟨none, 0, 0, rfl, Bytes.none_ _ _, HB_2.out⟩

set_option maxRecDepth 100000 in
set_option maxHeartbeats 1000000 in
theorem apply2_low (un : Int) (Ap : Option Addr) (np cp Bp : Nat) (pst : Int) (pk : ByteArray) (pkd : Int) (pda : List UInt8) (plo phi pva : Int) (Aq : Option Addr) (nq cq Bq : Nat) (qk : ByteArray) (qda : List UInt8) (qlo qhi qva : Int) (w : World) (hp : Bytes w Bp Ap np cp pda) (hBp : Bp ≤ w.heap.size) (hnp : np ≤ 140737488355328) (hq : Bytes w Bq Aq nq cq qda) (hBq : Bq ≤ w.heap.size) (hnq : nq ≤ 140737488355328) (hun : In64 un) (hqv : In64 qva) (hql : In64 qlo) (hqh : In64 qhi) (hr : CellP.right ⟨2, qda, qlo, qhi, qva⟩ = true) (ho : (qva + un) < qlo) : Calls Try.prog 68 #[.agg #[.int .i64 2, .string qk, .int .i64 pst, .string pk, .int .i64 pkd, .slice Ap np cp, .int .i64 plo, .int .i64 phi, .int .i64 pva, .int .i64 un], .agg #[.int .i64 1, .string qk, .int .i64 2, .slice Aq nq cq, .int .i64 qlo, .int .i64 qhi, .int .i64 qva]] w (SlotGet.GotItem w (UndoP.apply ⟨2, qk, ⟨pst, pk, ⟨pkd, pda, plo, phi, pva⟩⟩, un⟩ ⟨1, qk, ⟨2, qda, qlo, qhi, qva⟩⟩)) := by
  rw [UndoP.apply_out _ _ (by simp) ⟨rfl, rfl⟩ ⟨rfl, hr⟩ (by simp [UndoP.sum]; omega)]
  have HLO : Hid (decide ((qva + un) < qlo) = true) := Lib.hid (by simpa using ho)
  clear ho
  have Hq := Lib.hid hq
  have hlq := hq.len
  have hcq := Nat.le_trans hq.2.1 hq.2.2.1
  obtain ⟨v1, v2⟩ := hqv
  obtain ⟨v3, v4⟩ := hun
  obtain ⟨v5, v6⟩ := hql
  obtain ⟨v7, v8⟩ := hqh
  have HRT : Hid (∀ W, Calls Try.prog 21 #[.agg #[.int .i64 2, .slice Aq nq cq, .int .i64 qlo, .int .i64 qhi, .int .i64 qva]] W fun e w' => e = .returned (.bool true) ∧ Below W.heap.size W w') := Lib.hid (fun W => by have h := CellW.right_any Aq nq cq ⟨2, qda, qlo, qhi, qva⟩ W hlq hcq; rw [hr] at h; exact h)
  clear hp hq hlq hcq hr
  go_enter Try.func68, Try.ntmps68
  go_wp2_with fail
  generalize hW0 : ((((w).alloc (.cells #[.int .i64 2, .string qk, .int .i64 pst, .string pk, .int .i64 pkd, .slice Ap np cp, .int .i64 plo, .int .i64 phi, .int .i64 pva, .int .i64 un] 79)).alloc (.cells #[.int .i64 1, .string qk, .int .i64 2, .slice Aq nq cq, .int .i64 qlo, .int .i64 qhi, .int .i64 qva] 38)).alloc (.cells #[.int .i64 0, .string ⟨#[]⟩, .int .i64 0, .slice none 0 0, .int .i64 0, .int .i64 0, .int .i64 0] 38)).alloc (.cells #[.int .i64 2, .slice Aq nq cq, .int .i64 qlo, .int .i64 qhi, .int .i64 qva] 24) = W0
  have HS0_0 : Hid (Str W0 (w.heap.size) #[.int .i64 2, .string qk, .int .i64 pst, .string pk, .int .i64 pkd, .slice Ap np cp, .int .i64 plo, .int .i64 phi, .int .i64 pva, .int .i64 un]) := Lib.hid (by rw [← hW0]; have := (((Str.new (w) #[.int .i64 2, .string qk, .int .i64 pst, .string pk, .int .i64 pkd, .slice Ap np cp, .int .i64 plo, .int .i64 phi, .int .i64 pva, .int .i64 un] 79).alloc (.cells #[.int .i64 1, .string qk, .int .i64 2, .slice Aq nq cq, .int .i64 qlo, .int .i64 qhi, .int .i64 qva] 38)).alloc (.cells #[.int .i64 0, .string ⟨#[]⟩, .int .i64 0, .slice none 0 0, .int .i64 0, .int .i64 0, .int .i64 0] 38)).alloc (.cells #[.int .i64 2, .slice Aq nq cq, .int .i64 qlo, .int .i64 qhi, .int .i64 qva] 24); simpa using this)
  have HS1_0 : Hid (Str W0 (w.heap.size + 1) #[.int .i64 1, .string qk, .int .i64 2, .slice Aq nq cq, .int .i64 qlo, .int .i64 qhi, .int .i64 qva]) := Lib.hid (by rw [← hW0]; have := ((Str.new ((w).alloc (.cells #[.int .i64 2, .string qk, .int .i64 pst, .string pk, .int .i64 pkd, .slice Ap np cp, .int .i64 plo, .int .i64 phi, .int .i64 pva, .int .i64 un] 79)) #[.int .i64 1, .string qk, .int .i64 2, .slice Aq nq cq, .int .i64 qlo, .int .i64 qhi, .int .i64 qva] 38).alloc (.cells #[.int .i64 0, .string ⟨#[]⟩, .int .i64 0, .slice none 0 0, .int .i64 0, .int .i64 0, .int .i64 0] 38)).alloc (.cells #[.int .i64 2, .slice Aq nq cq, .int .i64 qlo, .int .i64 qhi, .int .i64 qva] 24); simpa using this)
  have HS2_0 : Hid (Str W0 (w.heap.size + 1 + 1) #[.int .i64 0, .string ⟨#[]⟩, .int .i64 0, .slice none 0 0, .int .i64 0, .int .i64 0, .int .i64 0]) := Lib.hid (by rw [← hW0]; have := (Str.new (((w).alloc (.cells #[.int .i64 2, .string qk, .int .i64 pst, .string pk, .int .i64 pkd, .slice Ap np cp, .int .i64 plo, .int .i64 phi, .int .i64 pva, .int .i64 un] 79)).alloc (.cells #[.int .i64 1, .string qk, .int .i64 2, .slice Aq nq cq, .int .i64 qlo, .int .i64 qhi, .int .i64 qva] 38)) #[.int .i64 0, .string ⟨#[]⟩, .int .i64 0, .slice none 0 0, .int .i64 0, .int .i64 0, .int .i64 0] 38).alloc (.cells #[.int .i64 2, .slice Aq nq cq, .int .i64 qlo, .int .i64 qhi, .int .i64 qva] 24); simpa using this)
  have HS3_0 : Hid (Str W0 (w.heap.size + 1 + 1 + 1) #[.int .i64 2, .slice Aq nq cq, .int .i64 qlo, .int .i64 qhi, .int .i64 qva]) := Lib.hid (by rw [← hW0]; have := Str.new ((((w).alloc (.cells #[.int .i64 2, .string qk, .int .i64 pst, .string pk, .int .i64 pkd, .slice Ap np cp, .int .i64 plo, .int .i64 phi, .int .i64 pva, .int .i64 un] 79)).alloc (.cells #[.int .i64 1, .string qk, .int .i64 2, .slice Aq nq cq, .int .i64 qlo, .int .i64 qhi, .int .i64 qva] 38)).alloc (.cells #[.int .i64 0, .string ⟨#[]⟩, .int .i64 0, .slice none 0 0, .int .i64 0, .int .i64 0, .int .i64 0] 38)) #[.int .i64 2, .slice Aq nq cq, .int .i64 qlo, .int .i64 qhi, .int .i64 qva] 24; simpa using this)
  have HB_0 : Hid (Below w.heap.size w W0) := Lib.hid (by rw [← hW0]; exact balloc (balloc (balloc (balloc (bsame w) _) _) _) _)
  have hw_0 := HB_0.out.size
  clear hW0
  obtain ⟨f0_0_0, f0_0_1, f0_0_2, f0_0_3, f0_0_4, f0_0_5, f0_0_6, f0_0_7, f0_0_8, f0_0_9⟩ := str10 HS0_0.out
  have hl0_0 := HS0_0.out.lt
  obtain ⟨f1_0_0, f1_0_1, f1_0_2, f1_0_3, f1_0_4, f1_0_5, f1_0_6⟩ := str7 HS1_0.out
  have hl1_0 := HS1_0.out.lt
  have hf1_0 := fun j => HS1_0.out.frozen j
  obtain ⟨f2_0_0, f2_0_1, f2_0_2, f2_0_3, f2_0_4, f2_0_5, f2_0_6⟩ := str7 HS2_0.out
  have hl2_0 := HS2_0.out.lt
  have hf2_0 := fun j => HS2_0.out.frozen j
  obtain ⟨f3_0_0, f3_0_1, f3_0_2, f3_0_3, f3_0_4⟩ := str5 HS3_0.out
  have hl3_0 := HS3_0.out.lt
  have hf3_0 := fun j => HS3_0.out.frozen j
  refine (HRT.out _).mono ?_
  rintro e W1 ⟨rfl, hb1⟩
  have HS0_1 := Lib.hid (HS0_0.out.next hb1)
  have HS1_1 := Lib.hid (HS1_0.out.next hb1)
  have HS2_1 := Lib.hid (HS2_0.out.next hb1)
  have HS3_1 := Lib.hid (HS3_0.out.next hb1)
  have HB_1 := Lib.hid (bstep HB_0.out hb1)
  have hw_1 := HB_1.out.size
  have hws_1 := (hb1).size
  clear f0_0_0 f0_0_1 f0_0_2 f0_0_3 f0_0_4 f0_0_5 f0_0_6 f0_0_7 f0_0_8 f0_0_9 HS0_0 f1_0_0 f1_0_1 f1_0_2 f1_0_3 f1_0_4 f1_0_5 f1_0_6 HS1_0 hf1_0 f2_0_0 f2_0_1 f2_0_2 f2_0_3 f2_0_4 f2_0_5 f2_0_6 HS2_0 hf2_0 f3_0_0 f3_0_1 f3_0_2 f3_0_3 f3_0_4 HS3_0 hf3_0
  clear hb1
  obtain ⟨f0_1_0, f0_1_1, f0_1_2, f0_1_3, f0_1_4, f0_1_5, f0_1_6, f0_1_7, f0_1_8, f0_1_9⟩ := str10 HS0_1.out
  have hl0_1 := HS0_1.out.lt
  obtain ⟨f1_1_0, f1_1_1, f1_1_2, f1_1_3, f1_1_4, f1_1_5, f1_1_6⟩ := str7 HS1_1.out
  have hl1_1 := HS1_1.out.lt
  have hf1_1 := fun j => HS1_1.out.frozen j
  obtain ⟨f2_1_0, f2_1_1, f2_1_2, f2_1_3, f2_1_4, f2_1_5, f2_1_6⟩ := str7 HS2_1.out
  have hl2_1 := HS2_1.out.lt
  have hf2_1 := fun j => HS2_1.out.frozen j
  obtain ⟨f3_1_0, f3_1_1, f3_1_2, f3_1_3, f3_1_4⟩ := str5 HS3_1.out
  have hl3_1 := HS3_1.out.lt
  have hf3_1 := fun j => HS3_1.out.frozen j
  go_wp2_with fail
  refine Reg.wp_region_tail (R := ext) (W := W1) [Reg.eqv (.pointer (some ⟨w.heap.size + 1 + 1 + 1, 4, none⟩)), Reg.eqv (.int .i64 qva), Reg.eqv (.agg #[.int .i64 (qva / 4294967296), .int .i64 (qva % 4294967296)]), Reg.eqv (.pointer (some ⟨w.heap.size, 9, none⟩)), Reg.eqv (.int .i64 un), Reg.eqv (.agg #[.int .i64 (un / 4294967296), .int .i64 (un % 4294967296)]), Reg.eqv (.agg #[.int .i64 ((qva + un) / 4294967296), .int .i64 ((qva + un) % 4294967296)]), Reg.fresh W1.heap.size #[.int .i64 0, .int .i64 0]] 83 8 _ [[(6, none)], [(44, some 0)], [(45, some 1)], [(2, none)], [(47, some 3)], [(48, some 4)], [(46, some 2), (49, some 5)], []] rfl (by kernel_rfl) (by kernel_rfl) (by rfl) (by rfl) rfl (by kernel_rfl) ?_ [some 44, some 45, some 46, some 47, some 48, some 49, some 50, some 7] (by kernel_rfl) ?_
  · refine ⟨?_, ?_, ?_, ?_, ?_, ?_, ?_, ?_, trivial⟩
    · intro ax wx hx hs
      obtain ⟨e6, -⟩ := hs
      have g6 := Reg.ev (v := .pointer (some ⟨w.heap.size + 1 + 1 + 1, 0, none⟩)) e6
      exact Reg.obl_free rfl (Reg.wp_eqv (Option.some_ne_none _) (by go_simp) rfl)
    · intro ax wx hx hs
      obtain ⟨e44, -⟩ := hs
      have g44 := Reg.ev (v := .pointer (some ⟨w.heap.size + 1 + 1 + 1, 4, none⟩)) e44
      obtain ⟨hc, -⟩ := bcell hx
      exact Reg.obl_free rfl (Reg.wp_eqv (Option.some_ne_none _) (by go_simp) rfl)
    · intro ax wx hx hs
      obtain ⟨e45, -⟩ := hs
      have g45 := Reg.ev (v := .int .i64 qva) e45
      refine Reg.obl_free rfl ?_
      go_simp
      refine (RefWide.of_any qva v1 v2 _).mono ?_
      rintro e wy ⟨rfl, hby⟩
      exact Reg.done (Option.some_ne_none _) rfl hby
    · intro ax wx hx hs
      obtain ⟨e2, -⟩ := hs
      have g2 := Reg.ev (v := .pointer (some ⟨w.heap.size, 0, none⟩)) e2
      exact Reg.obl_free rfl (Reg.wp_eqv (Option.some_ne_none _) (by go_simp) rfl)
    · intro ax wx hx hs
      obtain ⟨e47, -⟩ := hs
      have g47 := Reg.ev (v := .pointer (some ⟨w.heap.size, 9, none⟩)) e47
      obtain ⟨hc, -⟩ := bcell hx
      exact Reg.obl_free rfl (Reg.wp_eqv (Option.some_ne_none _) (by go_simp) rfl)
    · intro ax wx hx hs
      obtain ⟨e48, -⟩ := hs
      have g48 := Reg.ev (v := .int .i64 un) e48
      refine Reg.obl_free rfl ?_
      go_simp
      refine (RefWide.of_any un v3 v4 _).mono ?_
      rintro e wy ⟨rfl, hby⟩
      exact Reg.done (Option.some_ne_none _) rfl hby
    · intro ax wx hx hs
      obtain ⟨e46, e49, -⟩ := hs
      have g46 := Reg.ev (v := .agg #[.int .i64 (qva / 4294967296), .int .i64 (qva % 4294967296)]) e46
      have g49 := Reg.ev (v := .agg #[.int .i64 (un / 4294967296), .int .i64 (un % 4294967296)]) e49
      refine Reg.obl_free rfl ?_
      go_simp
      refine (RefWide.join_any qva un (by omega) (by omega) (by omega) (by omega) _).mono ?_
      rintro e wy ⟨rfl, hby⟩
      exact Reg.done (Option.some_ne_none _) rfl hby
    · intro ax wx hx hs
      refine Reg.obl_free rfl ?_
      have hx' : Below W1.heap.size W1 wx := hx
      go_simp
      exact Reg.done (Option.some_ne_none _) ⟨wx.heap.size, rfl, hx'.size, Str.new wx _ _⟩ (balloc (bsame wx) _)
  · intro W2 hwf
    simp only [Reg.Fin]
    rintro _ rfl _ rfl _ rfl _ rfl _ rfl _ rfl _ rfl v7 h7
    obtain ⟨g, rfl, hg, hSg⟩ := h7
    have hwf' : Below W1.heap.size W1 W2 := hwf
    clear hwf
    have HS0_2 := Lib.hid (HS0_1.out.next hwf')
    have HS1_2 := Lib.hid (HS1_1.out.next hwf')
    have HS2_2 := Lib.hid (HS2_1.out.next hwf')
    have HS3_2 := Lib.hid (HS3_1.out.next hwf')
    have HB_2 := Lib.hid (bstep HB_1.out hwf')
    have hw_2 := HB_2.out.size
    have hws_2 := (hwf').size
    clear f0_1_0 f0_1_1 f0_1_2 f0_1_3 f0_1_4 f0_1_5 f0_1_6 f0_1_7 f0_1_8 f0_1_9 HS0_1 f1_1_0 f1_1_1 f1_1_2 f1_1_3 f1_1_4 f1_1_5 f1_1_6 HS1_1 hf1_1 f2_1_0 f2_1_1 f2_1_2 f2_1_3 f2_1_4 f2_1_5 f2_1_6 HS2_1 hf2_1 f3_1_0 f3_1_1 f3_1_2 f3_1_3 f3_1_4 HS3_1 hf3_1
    clear hwf'
    obtain ⟨f0_2_0, f0_2_1, f0_2_2, f0_2_3, f0_2_4, f0_2_5, f0_2_6, f0_2_7, f0_2_8, f0_2_9⟩ := str10 HS0_2.out
    have hl0_2 := HS0_2.out.lt
    obtain ⟨f1_2_0, f1_2_1, f1_2_2, f1_2_3, f1_2_4, f1_2_5, f1_2_6⟩ := str7 HS1_2.out
    have hl1_2 := HS1_2.out.lt
    have hf1_2 := fun j => HS1_2.out.frozen j
    obtain ⟨f2_2_0, f2_2_1, f2_2_2, f2_2_3, f2_2_4, f2_2_5, f2_2_6⟩ := str7 HS2_2.out
    have hl2_2 := HS2_2.out.lt
    have hf2_2 := fun j => HS2_2.out.frozen j
    obtain ⟨f3_2_0, f3_2_1, f3_2_2, f3_2_3, f3_2_4⟩ := str5 HS3_2.out
    have hl3_2 := HS3_2.out.lt
    have hf3_2 := fun j => HS3_2.out.frozen j
    have HS4_2 := Lib.hid hSg
    clear hSg
    obtain ⟨f4_2_0, f4_2_1⟩ := str2 HS4_2.out
    have hl4_2 := HS4_2.out.lt
    have hf4_2 := fun j => HS4_2.out.frozen j
    refine Reg.Goal.mk ?_
    go_simp
    go_wp2_with fail
    generalize hW3 : ((W2).setCell ⟨g, 0, none⟩ (.int .i64 ((qva + un) / 4294967296))).setCell ⟨g, 1, none⟩ (.int .i64 ((qva + un) % 4294967296)) = W3
    have HS0_3 : Hid (Str W3 (w.heap.size) #[.int .i64 2, .string qk, .int .i64 pst, .string pk, .int .i64 pkd, .slice Ap np cp, .int .i64 plo, .int .i64 phi, .int .i64 pva, .int .i64 un]) := Lib.hid (by rw [← hW3]; exact ((HS0_2.out).other 0 _ (by omega)).other 1 _ (by omega))
    have HS1_3 : Hid (Str W3 (w.heap.size + 1) #[.int .i64 1, .string qk, .int .i64 2, .slice Aq nq cq, .int .i64 qlo, .int .i64 qhi, .int .i64 qva]) := Lib.hid (by rw [← hW3]; exact ((HS1_2.out).other 0 _ (by omega)).other 1 _ (by omega))
    have HS2_3 : Hid (Str W3 (w.heap.size + 1 + 1) #[.int .i64 0, .string ⟨#[]⟩, .int .i64 0, .slice none 0 0, .int .i64 0, .int .i64 0, .int .i64 0]) := Lib.hid (by rw [← hW3]; exact ((HS2_2.out).other 0 _ (by omega)).other 1 _ (by omega))
    have HS3_3 : Hid (Str W3 (w.heap.size + 1 + 1 + 1) #[.int .i64 2, .slice Aq nq cq, .int .i64 qlo, .int .i64 qhi, .int .i64 qva]) := Lib.hid (by rw [← hW3]; exact ((HS3_2.out).other 0 _ (by omega)).other 1 _ (by omega))
    have HS4_3 : Hid (Str W3 (g) #[.int .i64 ((qva + un) / 4294967296), .int .i64 ((qva + un) % 4294967296)]) := Lib.hid (by rw [← hW3]; have := ((HS4_2.out).set 0 (.int .i64 ((qva + un) / 4294967296))).set 1 (.int .i64 ((qva + un) % 4294967296)); simpa using this)
    have hgr3 : W2.grownBy W3 (some (g)) := by rw [← hW3]; exact grown_set (grown_set (grown_refl W2 (g)) 0 (.int .i64 ((qva + un) / 4294967296))) 1 (.int .i64 ((qva + un) % 4294967296))
    have HB_3 := Lib.hid (below_grown HB_2.out hgr3 (by omega))
    have hw_3 := HB_3.out.size
    have hws_3 := hgr3.size
    clear hW3
    clear f0_2_0 f0_2_1 f0_2_2 f0_2_3 f0_2_4 f0_2_5 f0_2_6 f0_2_7 f0_2_8 f0_2_9 HS0_2 f1_2_0 f1_2_1 f1_2_2 f1_2_3 f1_2_4 f1_2_5 f1_2_6 HS1_2 hf1_2 f2_2_0 f2_2_1 f2_2_2 f2_2_3 f2_2_4 f2_2_5 f2_2_6 HS2_2 hf2_2 f3_2_0 f3_2_1 f3_2_2 f3_2_3 f3_2_4 HS3_2 hf3_2 f4_2_0 f4_2_1 HS4_2 hf4_2
    clear hgr3
    obtain ⟨f0_3_0, f0_3_1, f0_3_2, f0_3_3, f0_3_4, f0_3_5, f0_3_6, f0_3_7, f0_3_8, f0_3_9⟩ := str10 HS0_3.out
    have hl0_3 := HS0_3.out.lt
    obtain ⟨f1_3_0, f1_3_1, f1_3_2, f1_3_3, f1_3_4, f1_3_5, f1_3_6⟩ := str7 HS1_3.out
    have hl1_3 := HS1_3.out.lt
    have hf1_3 := fun j => HS1_3.out.frozen j
    obtain ⟨f2_3_0, f2_3_1, f2_3_2, f2_3_3, f2_3_4, f2_3_5, f2_3_6⟩ := str7 HS2_3.out
    have hl2_3 := HS2_3.out.lt
    have hf2_3 := fun j => HS2_3.out.frozen j
    obtain ⟨f3_3_0, f3_3_1, f3_3_2, f3_3_3, f3_3_4⟩ := str5 HS3_3.out
    have hl3_3 := HS3_3.out.lt
    have hf3_3 := fun j => HS3_3.out.frozen j
    obtain ⟨f4_3_0, f4_3_1⟩ := str2 HS4_3.out
    have hl4_3 := HS4_3.out.lt
    have hf4_3 := fun j => HS4_3.out.frozen j
    refine Reg.wp_region_vals (R := ext) (W := W3) [Reg.eqv (.agg #[.int .i64 ((qva + un) / 4294967296), .int .i64 ((qva + un) % 4294967296)]), Reg.eqv (.pointer (some ⟨w.heap.size + 1 + 1 + 1, 2, none⟩)), Reg.eqv (.int .i64 qlo), Reg.eqv (.agg #[.int .i64 (qlo / 4294967296), .int .i64 (qlo % 4294967296)]), Reg.eqv (.bool true), Reg.eqv (.bool true), Reg.eqv undef, Reg.eqv undef, Reg.eqv undef, Reg.eqv undef, Reg.eqv undef, Reg.eqv (.bool true)] 83 [[(7, none)], [(6, none)], [(62, some 1)], [(63, some 2)], [(61, some 0), (64, some 3)], [(65, some 4)], [(6, none), (66, some 5)], [(67, some 6), (66, some 5)], [(68, some 7), (66, some 5)], [(7, none), (66, some 5)], [(69, some 8), (70, some 9), (66, some 5)], [(66, some 5), (71, some 10)]] rfl (by kernel_rfl) (by kernel_rfl) (by kernel_rfl) ?_ [some 61, some 62, some 63, some 64, some 65, some 66, some 67, some 68, some 69, some 70, some 71, some 72] (by kernel_rfl) ?_
    · refine ⟨?_, ?_, ?_, ?_, ?_, ?_, ?_, ?_, ?_, ?_, ?_, ?_, trivial⟩
      · intro ax wx hx hs
        obtain ⟨e7, -⟩ := hs
        have g7 := Reg.ev (v := .pointer (some ⟨g, 0, none⟩)) e7
        obtain ⟨hc, -⟩ := bcell hx
        exact Reg.obl_free rfl (Reg.wp_eqv (Option.some_ne_none _) (by go_simp) rfl)
      · intro ax wx hx hs
        obtain ⟨e6, -⟩ := hs
        have g6 := Reg.ev (v := .pointer (some ⟨w.heap.size + 1 + 1 + 1, 0, none⟩)) e6
        exact Reg.obl_free rfl (Reg.wp_eqv (Option.some_ne_none _) (by go_simp) rfl)
      · intro ax wx hx hs
        obtain ⟨e62, -⟩ := hs
        have g62 := Reg.ev (v := .pointer (some ⟨w.heap.size + 1 + 1 + 1, 2, none⟩)) e62
        obtain ⟨hc, -⟩ := bcell hx
        exact Reg.obl_free rfl (Reg.wp_eqv (Option.some_ne_none _) (by go_simp) rfl)
      · intro ax wx hx hs
        obtain ⟨e63, -⟩ := hs
        have g63 := Reg.ev (v := .int .i64 qlo) e63
        refine Reg.obl_free rfl ?_
        go_simp
        refine (RefWide.of_any qlo v5 v6 _).mono ?_
        rintro e wy ⟨rfl, hby⟩
        exact Reg.done (Option.some_ne_none _) rfl hby
      · intro ax wx hx hs
        obtain ⟨e61, e64, -⟩ := hs
        have g61 := Reg.ev (v := .agg #[.int .i64 ((qva + un) / 4294967296), .int .i64 ((qva + un) % 4294967296)]) e61
        have g64 := Reg.ev (v := .agg #[.int .i64 (qlo / 4294967296), .int .i64 (qlo % 4294967296)]) e64
        refine Reg.obl_free rfl ?_
        go_simp
        refine (RefWide.less_any (qva + un) qlo _).mono ?_
        rintro e wy ⟨rfl, hby⟩
        rw [HLO.out]
        exact Reg.done (Option.some_ne_none _) rfl hby
      · intro ax wx hx hs
        obtain ⟨e65, -⟩ := hs
        have g65 := Reg.ev (v := .bool true) e65
        exact Reg.obl_free rfl (Reg.wp_eqv (Option.some_ne_none _) (by go_simp) rfl)
      · intro ax wx hx hs
        obtain ⟨e6, e66, -⟩ := hs
        have g6 := Reg.ev (v := .pointer (some ⟨w.heap.size + 1 + 1 + 1, 0, none⟩)) e6
        have g66 := Reg.ev (v := .bool true) e66
        exact Reg.obl_skip rfl rfl e66 rfl rfl
      · intro ax wx hx hs
        obtain ⟨e67, e66, -⟩ := hs
        have g67 := Reg.ev (v := undef) e67
        have g66 := Reg.ev (v := .bool true) e66
        exact Reg.obl_skip rfl rfl e66 rfl rfl
      · intro ax wx hx hs
        obtain ⟨e68, e66, -⟩ := hs
        have g68 := Reg.ev (v := undef) e68
        have g66 := Reg.ev (v := .bool true) e66
        exact Reg.obl_skip rfl rfl e66 rfl rfl
      · intro ax wx hx hs
        obtain ⟨e7, e66, -⟩ := hs
        have g7 := Reg.ev (v := .pointer (some ⟨g, 0, none⟩)) e7
        have g66 := Reg.ev (v := .bool true) e66
        exact Reg.obl_skip rfl rfl e66 rfl rfl
      · intro ax wx hx hs
        obtain ⟨e69, e70, e66, -⟩ := hs
        have g69 := Reg.ev (v := undef) e69
        have g70 := Reg.ev (v := undef) e70
        have g66 := Reg.ev (v := .bool true) e66
        exact Reg.obl_skip rfl rfl e66 rfl rfl
      · intro ax wx hx hs
        obtain ⟨e66, e71, -⟩ := hs
        have g66 := Reg.ev (v := .bool true) e66
        have g71 := Reg.ev (v := undef) e71
        exact Reg.obl_free rfl (Reg.wp_eqv (Option.some_ne_none _) (by go_simp) rfl)
    · intro W4 hwf
      simp only [Reg.Fin]
      rintro _ rfl _ rfl _ rfl _ rfl _ rfl _ rfl _ rfl _ rfl _ rfl _ rfl _ rfl _ rfl
      go_simp
      have HS0_4 := Lib.hid (HS0_3.out.next hwf)
      have HS1_4 := Lib.hid (HS1_3.out.next hwf)
      have HS2_4 := Lib.hid (HS2_3.out.next hwf)
      have HS3_4 := Lib.hid (HS3_3.out.next hwf)
      have HS4_4 := Lib.hid (HS4_3.out.next hwf)
      have HB_4 := Lib.hid (bstep HB_3.out hwf)
      have hw_4 := HB_4.out.size
      have hws_4 := (hwf).size
      clear f0_3_0 f0_3_1 f0_3_2 f0_3_3 f0_3_4 f0_3_5 f0_3_6 f0_3_7 f0_3_8 f0_3_9 HS0_3 f1_3_0 f1_3_1 f1_3_2 f1_3_3 f1_3_4 f1_3_5 f1_3_6 HS1_3 hf1_3 f2_3_0 f2_3_1 f2_3_2 f2_3_3 f2_3_4 f2_3_5 f2_3_6 HS2_3 hf2_3 f3_3_0 f3_3_1 f3_3_2 f3_3_3 f3_3_4 HS3_3 hf3_3 f4_3_0 f4_3_1 HS4_3 hf4_3
      clear hwf
      obtain ⟨f0_4_0, f0_4_1, f0_4_2, f0_4_3, f0_4_4, f0_4_5, f0_4_6, f0_4_7, f0_4_8, f0_4_9⟩ := str10 HS0_4.out
      have hl0_4 := HS0_4.out.lt
      obtain ⟨f1_4_0, f1_4_1, f1_4_2, f1_4_3, f1_4_4, f1_4_5, f1_4_6⟩ := str7 HS1_4.out
      have hl1_4 := HS1_4.out.lt
      have hf1_4 := fun j => HS1_4.out.frozen j
      obtain ⟨f2_4_0, f2_4_1, f2_4_2, f2_4_3, f2_4_4, f2_4_5, f2_4_6⟩ := str7 HS2_4.out
      have hl2_4 := HS2_4.out.lt
      have hf2_4 := fun j => HS2_4.out.frozen j
      obtain ⟨f3_4_0, f3_4_1, f3_4_2, f3_4_3, f3_4_4⟩ := str5 HS3_4.out
      have hl3_4 := HS3_4.out.lt
      have hf3_4 := fun j => HS3_4.out.frozen j
      obtain ⟨f4_4_0, f4_4_1⟩ := str2 HS4_4.out
      have hl4_4 := HS4_4.out.lt
      have hf4_4 := fun j => HS4_4.out.frozen j
      go_wp2_with fail
      generalize hW5 : (((((((W4).setCell ⟨w.heap.size + 1 + 1, 0, none⟩ (.int .i64 0)).setCell ⟨w.heap.size + 1 + 1, 1, none⟩ (.string ⟨#[]⟩)).setCell ⟨w.heap.size + 1 + 1, 2, none⟩ (.int .i64 0)).setCell ⟨w.heap.size + 1 + 1, 3, none⟩ (.slice none 0 0)).setCell ⟨w.heap.size + 1 + 1, 4, none⟩ (.int .i64 0)).setCell ⟨w.heap.size + 1 + 1, 5, none⟩ (.int .i64 0)).setCell ⟨w.heap.size + 1 + 1, 6, none⟩ (.int .i64 0) = W5
      have HS0_5 : Hid (Str W5 (w.heap.size) #[.int .i64 2, .string qk, .int .i64 pst, .string pk, .int .i64 pkd, .slice Ap np cp, .int .i64 plo, .int .i64 phi, .int .i64 pva, .int .i64 un]) := Lib.hid (by rw [← hW5]; exact (((((((HS0_4.out).other 0 _ (by omega)).other 1 _ (by omega)).other 2 _ (by omega)).other 3 _ (by omega)).other 4 _ (by omega)).other 5 _ (by omega)).other 6 _ (by omega))
      have HS1_5 : Hid (Str W5 (w.heap.size + 1) #[.int .i64 1, .string qk, .int .i64 2, .slice Aq nq cq, .int .i64 qlo, .int .i64 qhi, .int .i64 qva]) := Lib.hid (by rw [← hW5]; exact (((((((HS1_4.out).other 0 _ (by omega)).other 1 _ (by omega)).other 2 _ (by omega)).other 3 _ (by omega)).other 4 _ (by omega)).other 5 _ (by omega)).other 6 _ (by omega))
      have HS2_5 : Hid (Str W5 (w.heap.size + 1 + 1) #[.int .i64 0, .string ⟨#[]⟩, .int .i64 0, .slice none 0 0, .int .i64 0, .int .i64 0, .int .i64 0]) := Lib.hid (by rw [← hW5]; have := (((((((HS2_4.out).set 0 (.int .i64 0)).set 1 (.string ⟨#[]⟩)).set 2 (.int .i64 0)).set 3 (.slice none 0 0)).set 4 (.int .i64 0)).set 5 (.int .i64 0)).set 6 (.int .i64 0); simpa using this)
      have HS3_5 : Hid (Str W5 (w.heap.size + 1 + 1 + 1) #[.int .i64 2, .slice Aq nq cq, .int .i64 qlo, .int .i64 qhi, .int .i64 qva]) := Lib.hid (by rw [← hW5]; exact (((((((HS3_4.out).other 0 _ (by omega)).other 1 _ (by omega)).other 2 _ (by omega)).other 3 _ (by omega)).other 4 _ (by omega)).other 5 _ (by omega)).other 6 _ (by omega))
      have HS4_5 : Hid (Str W5 (g) #[.int .i64 ((qva + un) / 4294967296), .int .i64 ((qva + un) % 4294967296)]) := Lib.hid (by rw [← hW5]; exact (((((((HS4_4.out).other 0 _ (by omega)).other 1 _ (by omega)).other 2 _ (by omega)).other 3 _ (by omega)).other 4 _ (by omega)).other 5 _ (by omega)).other 6 _ (by omega))
      have hgr5 : W4.grownBy W5 (some (w.heap.size + 1 + 1)) := by rw [← hW5]; exact grown_set (grown_set (grown_set (grown_set (grown_set (grown_set (grown_set (grown_refl W4 (w.heap.size + 1 + 1)) 0 (.int .i64 0)) 1 (.string ⟨#[]⟩)) 2 (.int .i64 0)) 3 (.slice none 0 0)) 4 (.int .i64 0)) 5 (.int .i64 0)) 6 (.int .i64 0)
      have HB_5 := Lib.hid (below_grown HB_4.out hgr5 (by omega))
      have hw_5 := HB_5.out.size
      have hws_5 := hgr5.size
      clear hW5
      clear f0_4_0 f0_4_1 f0_4_2 f0_4_3 f0_4_4 f0_4_5 f0_4_6 f0_4_7 f0_4_8 f0_4_9 HS0_4 f1_4_0 f1_4_1 f1_4_2 f1_4_3 f1_4_4 f1_4_5 f1_4_6 HS1_4 hf1_4 f2_4_0 f2_4_1 f2_4_2 f2_4_3 f2_4_4 f2_4_5 f2_4_6 HS2_4 hf2_4 f3_4_0 f3_4_1 f3_4_2 f3_4_3 f3_4_4 HS3_4 hf3_4 f4_4_0 f4_4_1 HS4_4 hf4_4
      clear hgr5
      obtain ⟨f0_5_0, f0_5_1, f0_5_2, f0_5_3, f0_5_4, f0_5_5, f0_5_6, f0_5_7, f0_5_8, f0_5_9⟩ := str10 HS0_5.out
      have hl0_5 := HS0_5.out.lt
      obtain ⟨f1_5_0, f1_5_1, f1_5_2, f1_5_3, f1_5_4, f1_5_5, f1_5_6⟩ := str7 HS1_5.out
      have hl1_5 := HS1_5.out.lt
      have hf1_5 := fun j => HS1_5.out.frozen j
      obtain ⟨f2_5_0, f2_5_1, f2_5_2, f2_5_3, f2_5_4, f2_5_5, f2_5_6⟩ := str7 HS2_5.out
      have hl2_5 := HS2_5.out.lt
      have hf2_5 := fun j => HS2_5.out.frozen j
      obtain ⟨f3_5_0, f3_5_1, f3_5_2, f3_5_3, f3_5_4⟩ := str5 HS3_5.out
      have hl3_5 := HS3_5.out.lt
      have hf3_5 := fun j => HS3_5.out.frozen j
      obtain ⟨f4_5_0, f4_5_1⟩ := str2 HS4_5.out
      have hl4_5 := HS4_5.out.lt
      have hf4_5 := fun j => HS4_5.out.frozen j
      exact bodyPost_ret (v := .tuple #[.agg #[.int .i64 0, .string ⟨#[]⟩, .int .i64 0, .slice none 0 0, .int .i64 0, .int .i64 0, .int .i64 0], .int .i64 8]) (by simp [results, Try.results68, go_sem, *]) rfl ⟨none, 0, 0, rfl, Bytes.none_ _ _, HB_5.out⟩

set_option maxRecDepth 100000 in
set_option maxHeartbeats 1000000 in
theorem apply2_high (un : Int) (Ap : Option Addr) (np cp Bp : Nat) (pst : Int) (pk : ByteArray) (pkd : Int) (pda : List UInt8) (plo phi pva : Int) (Aq : Option Addr) (nq cq Bq : Nat) (qk : ByteArray) (qda : List UInt8) (qlo qhi qva : Int) (w : World) (hp : Bytes w Bp Ap np cp pda) (hBp : Bp ≤ w.heap.size) (hnp : np ≤ 140737488355328) (hq : Bytes w Bq Aq nq cq qda) (hBq : Bq ≤ w.heap.size) (hnq : nq ≤ 140737488355328) (hun : In64 un) (hqv : In64 qva) (hql : In64 qlo) (hqh : In64 qhi) (hr : CellP.right ⟨2, qda, qlo, qhi, qva⟩ = true) (hl : ¬ (qva + un) < qlo) (ho : qhi < (qva + un)) : Calls Try.prog 68 #[.agg #[.int .i64 2, .string qk, .int .i64 pst, .string pk, .int .i64 pkd, .slice Ap np cp, .int .i64 plo, .int .i64 phi, .int .i64 pva, .int .i64 un], .agg #[.int .i64 1, .string qk, .int .i64 2, .slice Aq nq cq, .int .i64 qlo, .int .i64 qhi, .int .i64 qva]] w (SlotGet.GotItem w (UndoP.apply ⟨2, qk, ⟨pst, pk, ⟨pkd, pda, plo, phi, pva⟩⟩, un⟩ ⟨1, qk, ⟨2, qda, qlo, qhi, qva⟩⟩)) := by
  rw [UndoP.apply_out _ _ (by simp) ⟨rfl, rfl⟩ ⟨rfl, hr⟩ (by simp [UndoP.sum]; omega)]
  have HLO : Hid (decide ((qva + un) < qlo) = false) := Lib.hid (by simpa using hl)
  have HHI : Hid (decide (qhi < (qva + un)) = true) := Lib.hid (by simpa using ho)
  clear ho hl
  have Hq := Lib.hid hq
  have hlq := hq.len
  have hcq := Nat.le_trans hq.2.1 hq.2.2.1
  obtain ⟨v1, v2⟩ := hqv
  obtain ⟨v3, v4⟩ := hun
  obtain ⟨v5, v6⟩ := hql
  obtain ⟨v7, v8⟩ := hqh
  have HRT : Hid (∀ W, Calls Try.prog 21 #[.agg #[.int .i64 2, .slice Aq nq cq, .int .i64 qlo, .int .i64 qhi, .int .i64 qva]] W fun e w' => e = .returned (.bool true) ∧ Below W.heap.size W w') := Lib.hid (fun W => by have h := CellW.right_any Aq nq cq ⟨2, qda, qlo, qhi, qva⟩ W hlq hcq; rw [hr] at h; exact h)
  clear hp hq hlq hcq hr
  go_enter Try.func68, Try.ntmps68
  go_wp2_with fail
  generalize hW0 : ((((w).alloc (.cells #[.int .i64 2, .string qk, .int .i64 pst, .string pk, .int .i64 pkd, .slice Ap np cp, .int .i64 plo, .int .i64 phi, .int .i64 pva, .int .i64 un] 79)).alloc (.cells #[.int .i64 1, .string qk, .int .i64 2, .slice Aq nq cq, .int .i64 qlo, .int .i64 qhi, .int .i64 qva] 38)).alloc (.cells #[.int .i64 0, .string ⟨#[]⟩, .int .i64 0, .slice none 0 0, .int .i64 0, .int .i64 0, .int .i64 0] 38)).alloc (.cells #[.int .i64 2, .slice Aq nq cq, .int .i64 qlo, .int .i64 qhi, .int .i64 qva] 24) = W0
  have HS0_0 : Hid (Str W0 (w.heap.size) #[.int .i64 2, .string qk, .int .i64 pst, .string pk, .int .i64 pkd, .slice Ap np cp, .int .i64 plo, .int .i64 phi, .int .i64 pva, .int .i64 un]) := Lib.hid (by rw [← hW0]; have := (((Str.new (w) #[.int .i64 2, .string qk, .int .i64 pst, .string pk, .int .i64 pkd, .slice Ap np cp, .int .i64 plo, .int .i64 phi, .int .i64 pva, .int .i64 un] 79).alloc (.cells #[.int .i64 1, .string qk, .int .i64 2, .slice Aq nq cq, .int .i64 qlo, .int .i64 qhi, .int .i64 qva] 38)).alloc (.cells #[.int .i64 0, .string ⟨#[]⟩, .int .i64 0, .slice none 0 0, .int .i64 0, .int .i64 0, .int .i64 0] 38)).alloc (.cells #[.int .i64 2, .slice Aq nq cq, .int .i64 qlo, .int .i64 qhi, .int .i64 qva] 24); simpa using this)
  have HS1_0 : Hid (Str W0 (w.heap.size + 1) #[.int .i64 1, .string qk, .int .i64 2, .slice Aq nq cq, .int .i64 qlo, .int .i64 qhi, .int .i64 qva]) := Lib.hid (by rw [← hW0]; have := ((Str.new ((w).alloc (.cells #[.int .i64 2, .string qk, .int .i64 pst, .string pk, .int .i64 pkd, .slice Ap np cp, .int .i64 plo, .int .i64 phi, .int .i64 pva, .int .i64 un] 79)) #[.int .i64 1, .string qk, .int .i64 2, .slice Aq nq cq, .int .i64 qlo, .int .i64 qhi, .int .i64 qva] 38).alloc (.cells #[.int .i64 0, .string ⟨#[]⟩, .int .i64 0, .slice none 0 0, .int .i64 0, .int .i64 0, .int .i64 0] 38)).alloc (.cells #[.int .i64 2, .slice Aq nq cq, .int .i64 qlo, .int .i64 qhi, .int .i64 qva] 24); simpa using this)
  have HS2_0 : Hid (Str W0 (w.heap.size + 1 + 1) #[.int .i64 0, .string ⟨#[]⟩, .int .i64 0, .slice none 0 0, .int .i64 0, .int .i64 0, .int .i64 0]) := Lib.hid (by rw [← hW0]; have := (Str.new (((w).alloc (.cells #[.int .i64 2, .string qk, .int .i64 pst, .string pk, .int .i64 pkd, .slice Ap np cp, .int .i64 plo, .int .i64 phi, .int .i64 pva, .int .i64 un] 79)).alloc (.cells #[.int .i64 1, .string qk, .int .i64 2, .slice Aq nq cq, .int .i64 qlo, .int .i64 qhi, .int .i64 qva] 38)) #[.int .i64 0, .string ⟨#[]⟩, .int .i64 0, .slice none 0 0, .int .i64 0, .int .i64 0, .int .i64 0] 38).alloc (.cells #[.int .i64 2, .slice Aq nq cq, .int .i64 qlo, .int .i64 qhi, .int .i64 qva] 24); simpa using this)
  have HS3_0 : Hid (Str W0 (w.heap.size + 1 + 1 + 1) #[.int .i64 2, .slice Aq nq cq, .int .i64 qlo, .int .i64 qhi, .int .i64 qva]) := Lib.hid (by rw [← hW0]; have := Str.new ((((w).alloc (.cells #[.int .i64 2, .string qk, .int .i64 pst, .string pk, .int .i64 pkd, .slice Ap np cp, .int .i64 plo, .int .i64 phi, .int .i64 pva, .int .i64 un] 79)).alloc (.cells #[.int .i64 1, .string qk, .int .i64 2, .slice Aq nq cq, .int .i64 qlo, .int .i64 qhi, .int .i64 qva] 38)).alloc (.cells #[.int .i64 0, .string ⟨#[]⟩, .int .i64 0, .slice none 0 0, .int .i64 0, .int .i64 0, .int .i64 0] 38)) #[.int .i64 2, .slice Aq nq cq, .int .i64 qlo, .int .i64 qhi, .int .i64 qva] 24; simpa using this)
  have HB_0 : Hid (Below w.heap.size w W0) := Lib.hid (by rw [← hW0]; exact balloc (balloc (balloc (balloc (bsame w) _) _) _) _)
  have hw_0 := HB_0.out.size
  clear hW0
  obtain ⟨f0_0_0, f0_0_1, f0_0_2, f0_0_3, f0_0_4, f0_0_5, f0_0_6, f0_0_7, f0_0_8, f0_0_9⟩ := str10 HS0_0.out
  have hl0_0 := HS0_0.out.lt
  obtain ⟨f1_0_0, f1_0_1, f1_0_2, f1_0_3, f1_0_4, f1_0_5, f1_0_6⟩ := str7 HS1_0.out
  have hl1_0 := HS1_0.out.lt
  have hf1_0 := fun j => HS1_0.out.frozen j
  obtain ⟨f2_0_0, f2_0_1, f2_0_2, f2_0_3, f2_0_4, f2_0_5, f2_0_6⟩ := str7 HS2_0.out
  have hl2_0 := HS2_0.out.lt
  have hf2_0 := fun j => HS2_0.out.frozen j
  obtain ⟨f3_0_0, f3_0_1, f3_0_2, f3_0_3, f3_0_4⟩ := str5 HS3_0.out
  have hl3_0 := HS3_0.out.lt
  have hf3_0 := fun j => HS3_0.out.frozen j
  refine (HRT.out _).mono ?_
  rintro e W1 ⟨rfl, hb1⟩
  have HS0_1 := Lib.hid (HS0_0.out.next hb1)
  have HS1_1 := Lib.hid (HS1_0.out.next hb1)
  have HS2_1 := Lib.hid (HS2_0.out.next hb1)
  have HS3_1 := Lib.hid (HS3_0.out.next hb1)
  have HB_1 := Lib.hid (bstep HB_0.out hb1)
  have hw_1 := HB_1.out.size
  have hws_1 := (hb1).size
  clear f0_0_0 f0_0_1 f0_0_2 f0_0_3 f0_0_4 f0_0_5 f0_0_6 f0_0_7 f0_0_8 f0_0_9 HS0_0 f1_0_0 f1_0_1 f1_0_2 f1_0_3 f1_0_4 f1_0_5 f1_0_6 HS1_0 hf1_0 f2_0_0 f2_0_1 f2_0_2 f2_0_3 f2_0_4 f2_0_5 f2_0_6 HS2_0 hf2_0 f3_0_0 f3_0_1 f3_0_2 f3_0_3 f3_0_4 HS3_0 hf3_0
  clear hb1
  obtain ⟨f0_1_0, f0_1_1, f0_1_2, f0_1_3, f0_1_4, f0_1_5, f0_1_6, f0_1_7, f0_1_8, f0_1_9⟩ := str10 HS0_1.out
  have hl0_1 := HS0_1.out.lt
  obtain ⟨f1_1_0, f1_1_1, f1_1_2, f1_1_3, f1_1_4, f1_1_5, f1_1_6⟩ := str7 HS1_1.out
  have hl1_1 := HS1_1.out.lt
  have hf1_1 := fun j => HS1_1.out.frozen j
  obtain ⟨f2_1_0, f2_1_1, f2_1_2, f2_1_3, f2_1_4, f2_1_5, f2_1_6⟩ := str7 HS2_1.out
  have hl2_1 := HS2_1.out.lt
  have hf2_1 := fun j => HS2_1.out.frozen j
  obtain ⟨f3_1_0, f3_1_1, f3_1_2, f3_1_3, f3_1_4⟩ := str5 HS3_1.out
  have hl3_1 := HS3_1.out.lt
  have hf3_1 := fun j => HS3_1.out.frozen j
  go_wp2_with fail
  refine Reg.wp_region_tail (R := ext) (W := W1) [Reg.eqv (.pointer (some ⟨w.heap.size + 1 + 1 + 1, 4, none⟩)), Reg.eqv (.int .i64 qva), Reg.eqv (.agg #[.int .i64 (qva / 4294967296), .int .i64 (qva % 4294967296)]), Reg.eqv (.pointer (some ⟨w.heap.size, 9, none⟩)), Reg.eqv (.int .i64 un), Reg.eqv (.agg #[.int .i64 (un / 4294967296), .int .i64 (un % 4294967296)]), Reg.eqv (.agg #[.int .i64 ((qva + un) / 4294967296), .int .i64 ((qva + un) % 4294967296)]), Reg.fresh W1.heap.size #[.int .i64 0, .int .i64 0]] 83 8 _ [[(6, none)], [(44, some 0)], [(45, some 1)], [(2, none)], [(47, some 3)], [(48, some 4)], [(46, some 2), (49, some 5)], []] rfl (by kernel_rfl) (by kernel_rfl) (by rfl) (by rfl) rfl (by kernel_rfl) ?_ [some 44, some 45, some 46, some 47, some 48, some 49, some 50, some 7] (by kernel_rfl) ?_
  · refine ⟨?_, ?_, ?_, ?_, ?_, ?_, ?_, ?_, trivial⟩
    · intro ax wx hx hs
      obtain ⟨e6, -⟩ := hs
      have g6 := Reg.ev (v := .pointer (some ⟨w.heap.size + 1 + 1 + 1, 0, none⟩)) e6
      exact Reg.obl_free rfl (Reg.wp_eqv (Option.some_ne_none _) (by go_simp) rfl)
    · intro ax wx hx hs
      obtain ⟨e44, -⟩ := hs
      have g44 := Reg.ev (v := .pointer (some ⟨w.heap.size + 1 + 1 + 1, 4, none⟩)) e44
      obtain ⟨hc, -⟩ := bcell hx
      exact Reg.obl_free rfl (Reg.wp_eqv (Option.some_ne_none _) (by go_simp) rfl)
    · intro ax wx hx hs
      obtain ⟨e45, -⟩ := hs
      have g45 := Reg.ev (v := .int .i64 qva) e45
      refine Reg.obl_free rfl ?_
      go_simp
      refine (RefWide.of_any qva v1 v2 _).mono ?_
      rintro e wy ⟨rfl, hby⟩
      exact Reg.done (Option.some_ne_none _) rfl hby
    · intro ax wx hx hs
      obtain ⟨e2, -⟩ := hs
      have g2 := Reg.ev (v := .pointer (some ⟨w.heap.size, 0, none⟩)) e2
      exact Reg.obl_free rfl (Reg.wp_eqv (Option.some_ne_none _) (by go_simp) rfl)
    · intro ax wx hx hs
      obtain ⟨e47, -⟩ := hs
      have g47 := Reg.ev (v := .pointer (some ⟨w.heap.size, 9, none⟩)) e47
      obtain ⟨hc, -⟩ := bcell hx
      exact Reg.obl_free rfl (Reg.wp_eqv (Option.some_ne_none _) (by go_simp) rfl)
    · intro ax wx hx hs
      obtain ⟨e48, -⟩ := hs
      have g48 := Reg.ev (v := .int .i64 un) e48
      refine Reg.obl_free rfl ?_
      go_simp
      refine (RefWide.of_any un v3 v4 _).mono ?_
      rintro e wy ⟨rfl, hby⟩
      exact Reg.done (Option.some_ne_none _) rfl hby
    · intro ax wx hx hs
      obtain ⟨e46, e49, -⟩ := hs
      have g46 := Reg.ev (v := .agg #[.int .i64 (qva / 4294967296), .int .i64 (qva % 4294967296)]) e46
      have g49 := Reg.ev (v := .agg #[.int .i64 (un / 4294967296), .int .i64 (un % 4294967296)]) e49
      refine Reg.obl_free rfl ?_
      go_simp
      refine (RefWide.join_any qva un (by omega) (by omega) (by omega) (by omega) _).mono ?_
      rintro e wy ⟨rfl, hby⟩
      exact Reg.done (Option.some_ne_none _) rfl hby
    · intro ax wx hx hs
      refine Reg.obl_free rfl ?_
      have hx' : Below W1.heap.size W1 wx := hx
      go_simp
      exact Reg.done (Option.some_ne_none _) ⟨wx.heap.size, rfl, hx'.size, Str.new wx _ _⟩ (balloc (bsame wx) _)
  · intro W2 hwf
    simp only [Reg.Fin]
    rintro _ rfl _ rfl _ rfl _ rfl _ rfl _ rfl _ rfl v7 h7
    obtain ⟨g, rfl, hg, hSg⟩ := h7
    have hwf' : Below W1.heap.size W1 W2 := hwf
    clear hwf
    have HS0_2 := Lib.hid (HS0_1.out.next hwf')
    have HS1_2 := Lib.hid (HS1_1.out.next hwf')
    have HS2_2 := Lib.hid (HS2_1.out.next hwf')
    have HS3_2 := Lib.hid (HS3_1.out.next hwf')
    have HB_2 := Lib.hid (bstep HB_1.out hwf')
    have hw_2 := HB_2.out.size
    have hws_2 := (hwf').size
    clear f0_1_0 f0_1_1 f0_1_2 f0_1_3 f0_1_4 f0_1_5 f0_1_6 f0_1_7 f0_1_8 f0_1_9 HS0_1 f1_1_0 f1_1_1 f1_1_2 f1_1_3 f1_1_4 f1_1_5 f1_1_6 HS1_1 hf1_1 f2_1_0 f2_1_1 f2_1_2 f2_1_3 f2_1_4 f2_1_5 f2_1_6 HS2_1 hf2_1 f3_1_0 f3_1_1 f3_1_2 f3_1_3 f3_1_4 HS3_1 hf3_1
    clear hwf'
    obtain ⟨f0_2_0, f0_2_1, f0_2_2, f0_2_3, f0_2_4, f0_2_5, f0_2_6, f0_2_7, f0_2_8, f0_2_9⟩ := str10 HS0_2.out
    have hl0_2 := HS0_2.out.lt
    obtain ⟨f1_2_0, f1_2_1, f1_2_2, f1_2_3, f1_2_4, f1_2_5, f1_2_6⟩ := str7 HS1_2.out
    have hl1_2 := HS1_2.out.lt
    have hf1_2 := fun j => HS1_2.out.frozen j
    obtain ⟨f2_2_0, f2_2_1, f2_2_2, f2_2_3, f2_2_4, f2_2_5, f2_2_6⟩ := str7 HS2_2.out
    have hl2_2 := HS2_2.out.lt
    have hf2_2 := fun j => HS2_2.out.frozen j
    obtain ⟨f3_2_0, f3_2_1, f3_2_2, f3_2_3, f3_2_4⟩ := str5 HS3_2.out
    have hl3_2 := HS3_2.out.lt
    have hf3_2 := fun j => HS3_2.out.frozen j
    have HS4_2 := Lib.hid hSg
    clear hSg
    obtain ⟨f4_2_0, f4_2_1⟩ := str2 HS4_2.out
    have hl4_2 := HS4_2.out.lt
    have hf4_2 := fun j => HS4_2.out.frozen j
    refine Reg.Goal.mk ?_
    go_simp
    go_wp2_with fail
    generalize hW3 : ((W2).setCell ⟨g, 0, none⟩ (.int .i64 ((qva + un) / 4294967296))).setCell ⟨g, 1, none⟩ (.int .i64 ((qva + un) % 4294967296)) = W3
    have HS0_3 : Hid (Str W3 (w.heap.size) #[.int .i64 2, .string qk, .int .i64 pst, .string pk, .int .i64 pkd, .slice Ap np cp, .int .i64 plo, .int .i64 phi, .int .i64 pva, .int .i64 un]) := Lib.hid (by rw [← hW3]; exact ((HS0_2.out).other 0 _ (by omega)).other 1 _ (by omega))
    have HS1_3 : Hid (Str W3 (w.heap.size + 1) #[.int .i64 1, .string qk, .int .i64 2, .slice Aq nq cq, .int .i64 qlo, .int .i64 qhi, .int .i64 qva]) := Lib.hid (by rw [← hW3]; exact ((HS1_2.out).other 0 _ (by omega)).other 1 _ (by omega))
    have HS2_3 : Hid (Str W3 (w.heap.size + 1 + 1) #[.int .i64 0, .string ⟨#[]⟩, .int .i64 0, .slice none 0 0, .int .i64 0, .int .i64 0, .int .i64 0]) := Lib.hid (by rw [← hW3]; exact ((HS2_2.out).other 0 _ (by omega)).other 1 _ (by omega))
    have HS3_3 : Hid (Str W3 (w.heap.size + 1 + 1 + 1) #[.int .i64 2, .slice Aq nq cq, .int .i64 qlo, .int .i64 qhi, .int .i64 qva]) := Lib.hid (by rw [← hW3]; exact ((HS3_2.out).other 0 _ (by omega)).other 1 _ (by omega))
    have HS4_3 : Hid (Str W3 (g) #[.int .i64 ((qva + un) / 4294967296), .int .i64 ((qva + un) % 4294967296)]) := Lib.hid (by rw [← hW3]; have := ((HS4_2.out).set 0 (.int .i64 ((qva + un) / 4294967296))).set 1 (.int .i64 ((qva + un) % 4294967296)); simpa using this)
    have hgr3 : W2.grownBy W3 (some (g)) := by rw [← hW3]; exact grown_set (grown_set (grown_refl W2 (g)) 0 (.int .i64 ((qva + un) / 4294967296))) 1 (.int .i64 ((qva + un) % 4294967296))
    have HB_3 := Lib.hid (below_grown HB_2.out hgr3 (by omega))
    have hw_3 := HB_3.out.size
    have hws_3 := hgr3.size
    clear hW3
    clear f0_2_0 f0_2_1 f0_2_2 f0_2_3 f0_2_4 f0_2_5 f0_2_6 f0_2_7 f0_2_8 f0_2_9 HS0_2 f1_2_0 f1_2_1 f1_2_2 f1_2_3 f1_2_4 f1_2_5 f1_2_6 HS1_2 hf1_2 f2_2_0 f2_2_1 f2_2_2 f2_2_3 f2_2_4 f2_2_5 f2_2_6 HS2_2 hf2_2 f3_2_0 f3_2_1 f3_2_2 f3_2_3 f3_2_4 HS3_2 hf3_2 f4_2_0 f4_2_1 HS4_2 hf4_2
    clear hgr3
    obtain ⟨f0_3_0, f0_3_1, f0_3_2, f0_3_3, f0_3_4, f0_3_5, f0_3_6, f0_3_7, f0_3_8, f0_3_9⟩ := str10 HS0_3.out
    have hl0_3 := HS0_3.out.lt
    obtain ⟨f1_3_0, f1_3_1, f1_3_2, f1_3_3, f1_3_4, f1_3_5, f1_3_6⟩ := str7 HS1_3.out
    have hl1_3 := HS1_3.out.lt
    have hf1_3 := fun j => HS1_3.out.frozen j
    obtain ⟨f2_3_0, f2_3_1, f2_3_2, f2_3_3, f2_3_4, f2_3_5, f2_3_6⟩ := str7 HS2_3.out
    have hl2_3 := HS2_3.out.lt
    have hf2_3 := fun j => HS2_3.out.frozen j
    obtain ⟨f3_3_0, f3_3_1, f3_3_2, f3_3_3, f3_3_4⟩ := str5 HS3_3.out
    have hl3_3 := HS3_3.out.lt
    have hf3_3 := fun j => HS3_3.out.frozen j
    obtain ⟨f4_3_0, f4_3_1⟩ := str2 HS4_3.out
    have hl4_3 := HS4_3.out.lt
    have hf4_3 := fun j => HS4_3.out.frozen j
    refine Reg.wp_region_vals (R := ext) (W := W3) [Reg.eqv (.agg #[.int .i64 ((qva + un) / 4294967296), .int .i64 ((qva + un) % 4294967296)]), Reg.eqv (.pointer (some ⟨w.heap.size + 1 + 1 + 1, 2, none⟩)), Reg.eqv (.int .i64 qlo), Reg.eqv (.agg #[.int .i64 (qlo / 4294967296), .int .i64 (qlo % 4294967296)]), Reg.eqv (.bool false), Reg.eqv (.bool false), Reg.eqv (.pointer (some ⟨w.heap.size + 1 + 1 + 1, 3, none⟩)), Reg.eqv (.int .i64 qhi), Reg.eqv (.agg #[.int .i64 (qhi / 4294967296), .int .i64 (qhi % 4294967296)]), Reg.eqv (.agg #[.int .i64 ((qva + un) / 4294967296), .int .i64 ((qva + un) % 4294967296)]), Reg.eqv (.bool true), Reg.eqv (.bool true)] 83 [[(7, none)], [(6, none)], [(62, some 1)], [(63, some 2)], [(61, some 0), (64, some 3)], [(65, some 4)], [(6, none), (66, some 5)], [(67, some 6), (66, some 5)], [(68, some 7), (66, some 5)], [(7, none), (66, some 5)], [(69, some 8), (70, some 9), (66, some 5)], [(66, some 5), (71, some 10)]] rfl (by kernel_rfl) (by kernel_rfl) (by kernel_rfl) ?_ [some 61, some 62, some 63, some 64, some 65, some 66, some 67, some 68, some 69, some 70, some 71, some 72] (by kernel_rfl) ?_
    · refine ⟨?_, ?_, ?_, ?_, ?_, ?_, ?_, ?_, ?_, ?_, ?_, ?_, trivial⟩
      · intro ax wx hx hs
        obtain ⟨e7, -⟩ := hs
        have g7 := Reg.ev (v := .pointer (some ⟨g, 0, none⟩)) e7
        obtain ⟨hc, -⟩ := bcell hx
        exact Reg.obl_free rfl (Reg.wp_eqv (Option.some_ne_none _) (by go_simp) rfl)
      · intro ax wx hx hs
        obtain ⟨e6, -⟩ := hs
        have g6 := Reg.ev (v := .pointer (some ⟨w.heap.size + 1 + 1 + 1, 0, none⟩)) e6
        exact Reg.obl_free rfl (Reg.wp_eqv (Option.some_ne_none _) (by go_simp) rfl)
      · intro ax wx hx hs
        obtain ⟨e62, -⟩ := hs
        have g62 := Reg.ev (v := .pointer (some ⟨w.heap.size + 1 + 1 + 1, 2, none⟩)) e62
        obtain ⟨hc, -⟩ := bcell hx
        exact Reg.obl_free rfl (Reg.wp_eqv (Option.some_ne_none _) (by go_simp) rfl)
      · intro ax wx hx hs
        obtain ⟨e63, -⟩ := hs
        have g63 := Reg.ev (v := .int .i64 qlo) e63
        refine Reg.obl_free rfl ?_
        go_simp
        refine (RefWide.of_any qlo v5 v6 _).mono ?_
        rintro e wy ⟨rfl, hby⟩
        exact Reg.done (Option.some_ne_none _) rfl hby
      · intro ax wx hx hs
        obtain ⟨e61, e64, -⟩ := hs
        have g61 := Reg.ev (v := .agg #[.int .i64 ((qva + un) / 4294967296), .int .i64 ((qva + un) % 4294967296)]) e61
        have g64 := Reg.ev (v := .agg #[.int .i64 (qlo / 4294967296), .int .i64 (qlo % 4294967296)]) e64
        refine Reg.obl_free rfl ?_
        go_simp
        refine (RefWide.less_any (qva + un) qlo _).mono ?_
        rintro e wy ⟨rfl, hby⟩
        rw [HLO.out]
        exact Reg.done (Option.some_ne_none _) rfl hby
      · intro ax wx hx hs
        obtain ⟨e65, -⟩ := hs
        have g65 := Reg.ev (v := .bool false) e65
        exact Reg.obl_free rfl (Reg.wp_eqv (Option.some_ne_none _) (by go_simp) rfl)
      · intro ax wx hx hs
        obtain ⟨e6, e66, -⟩ := hs
        have g6 := Reg.ev (v := .pointer (some ⟨w.heap.size + 1 + 1 + 1, 0, none⟩)) e6
        have g66 := Reg.ev (v := .bool false) e66
        exact Reg.obl_want rfl rfl e66 (Reg.wp_eqv (Option.some_ne_none _) (by go_simp) rfl)
      · intro ax wx hx hs
        obtain ⟨e67, e66, -⟩ := hs
        have g67 := Reg.ev (v := .pointer (some ⟨w.heap.size + 1 + 1 + 1, 3, none⟩)) e67
        have g66 := Reg.ev (v := .bool false) e66
        obtain ⟨hc, -⟩ := bcell hx
        exact Reg.obl_want rfl rfl e66 (Reg.wp_eqv (Option.some_ne_none _) (by go_simp) rfl)
      · intro ax wx hx hs
        obtain ⟨e68, e66, -⟩ := hs
        have g68 := Reg.ev (v := .int .i64 qhi) e68
        have g66 := Reg.ev (v := .bool false) e66
        refine Reg.obl_want rfl rfl e66 ?_
        go_simp
        refine (RefWide.of_any qhi v7 v8 _).mono ?_
        rintro e wy ⟨rfl, hby⟩
        exact Reg.done (Option.some_ne_none _) rfl hby
      · intro ax wx hx hs
        obtain ⟨e7, e66, -⟩ := hs
        have g7 := Reg.ev (v := .pointer (some ⟨g, 0, none⟩)) e7
        have g66 := Reg.ev (v := .bool false) e66
        obtain ⟨hc, -⟩ := bcell hx
        exact Reg.obl_want rfl rfl e66 (Reg.wp_eqv (Option.some_ne_none _) (by go_simp) rfl)
      · intro ax wx hx hs
        obtain ⟨e69, e70, e66, -⟩ := hs
        have g69 := Reg.ev (v := .agg #[.int .i64 (qhi / 4294967296), .int .i64 (qhi % 4294967296)]) e69
        have g70 := Reg.ev (v := .agg #[.int .i64 ((qva + un) / 4294967296), .int .i64 ((qva + un) % 4294967296)]) e70
        have g66 := Reg.ev (v := .bool false) e66
        refine Reg.obl_want rfl rfl e66 ?_
        go_simp
        refine (RefWide.less_any qhi (qva + un) _).mono ?_
        rintro e wy ⟨rfl, hby⟩
        rw [HHI.out]
        exact Reg.done (Option.some_ne_none _) rfl hby
      · intro ax wx hx hs
        obtain ⟨e66, e71, -⟩ := hs
        have g66 := Reg.ev (v := .bool false) e66
        have g71 := Reg.ev (v := .bool true) e71
        exact Reg.obl_free rfl (Reg.wp_eqv (Option.some_ne_none _) (by go_simp) rfl)
    · intro W4 hwf
      simp only [Reg.Fin]
      rintro _ rfl _ rfl _ rfl _ rfl _ rfl _ rfl _ rfl _ rfl _ rfl _ rfl _ rfl _ rfl
      go_simp
      have HS0_4 := Lib.hid (HS0_3.out.next hwf)
      have HS1_4 := Lib.hid (HS1_3.out.next hwf)
      have HS2_4 := Lib.hid (HS2_3.out.next hwf)
      have HS3_4 := Lib.hid (HS3_3.out.next hwf)
      have HS4_4 := Lib.hid (HS4_3.out.next hwf)
      have HB_4 := Lib.hid (bstep HB_3.out hwf)
      have hw_4 := HB_4.out.size
      have hws_4 := (hwf).size
      clear f0_3_0 f0_3_1 f0_3_2 f0_3_3 f0_3_4 f0_3_5 f0_3_6 f0_3_7 f0_3_8 f0_3_9 HS0_3 f1_3_0 f1_3_1 f1_3_2 f1_3_3 f1_3_4 f1_3_5 f1_3_6 HS1_3 hf1_3 f2_3_0 f2_3_1 f2_3_2 f2_3_3 f2_3_4 f2_3_5 f2_3_6 HS2_3 hf2_3 f3_3_0 f3_3_1 f3_3_2 f3_3_3 f3_3_4 HS3_3 hf3_3 f4_3_0 f4_3_1 HS4_3 hf4_3
      clear hwf
      obtain ⟨f0_4_0, f0_4_1, f0_4_2, f0_4_3, f0_4_4, f0_4_5, f0_4_6, f0_4_7, f0_4_8, f0_4_9⟩ := str10 HS0_4.out
      have hl0_4 := HS0_4.out.lt
      obtain ⟨f1_4_0, f1_4_1, f1_4_2, f1_4_3, f1_4_4, f1_4_5, f1_4_6⟩ := str7 HS1_4.out
      have hl1_4 := HS1_4.out.lt
      have hf1_4 := fun j => HS1_4.out.frozen j
      obtain ⟨f2_4_0, f2_4_1, f2_4_2, f2_4_3, f2_4_4, f2_4_5, f2_4_6⟩ := str7 HS2_4.out
      have hl2_4 := HS2_4.out.lt
      have hf2_4 := fun j => HS2_4.out.frozen j
      obtain ⟨f3_4_0, f3_4_1, f3_4_2, f3_4_3, f3_4_4⟩ := str5 HS3_4.out
      have hl3_4 := HS3_4.out.lt
      have hf3_4 := fun j => HS3_4.out.frozen j
      obtain ⟨f4_4_0, f4_4_1⟩ := str2 HS4_4.out
      have hl4_4 := HS4_4.out.lt
      have hf4_4 := fun j => HS4_4.out.frozen j
      go_wp2_with fail
      generalize hW5 : (((((((W4).setCell ⟨w.heap.size + 1 + 1, 0, none⟩ (.int .i64 0)).setCell ⟨w.heap.size + 1 + 1, 1, none⟩ (.string ⟨#[]⟩)).setCell ⟨w.heap.size + 1 + 1, 2, none⟩ (.int .i64 0)).setCell ⟨w.heap.size + 1 + 1, 3, none⟩ (.slice none 0 0)).setCell ⟨w.heap.size + 1 + 1, 4, none⟩ (.int .i64 0)).setCell ⟨w.heap.size + 1 + 1, 5, none⟩ (.int .i64 0)).setCell ⟨w.heap.size + 1 + 1, 6, none⟩ (.int .i64 0) = W5
      have HS0_5 : Hid (Str W5 (w.heap.size) #[.int .i64 2, .string qk, .int .i64 pst, .string pk, .int .i64 pkd, .slice Ap np cp, .int .i64 plo, .int .i64 phi, .int .i64 pva, .int .i64 un]) := Lib.hid (by rw [← hW5]; exact (((((((HS0_4.out).other 0 _ (by omega)).other 1 _ (by omega)).other 2 _ (by omega)).other 3 _ (by omega)).other 4 _ (by omega)).other 5 _ (by omega)).other 6 _ (by omega))
      have HS1_5 : Hid (Str W5 (w.heap.size + 1) #[.int .i64 1, .string qk, .int .i64 2, .slice Aq nq cq, .int .i64 qlo, .int .i64 qhi, .int .i64 qva]) := Lib.hid (by rw [← hW5]; exact (((((((HS1_4.out).other 0 _ (by omega)).other 1 _ (by omega)).other 2 _ (by omega)).other 3 _ (by omega)).other 4 _ (by omega)).other 5 _ (by omega)).other 6 _ (by omega))
      have HS2_5 : Hid (Str W5 (w.heap.size + 1 + 1) #[.int .i64 0, .string ⟨#[]⟩, .int .i64 0, .slice none 0 0, .int .i64 0, .int .i64 0, .int .i64 0]) := Lib.hid (by rw [← hW5]; have := (((((((HS2_4.out).set 0 (.int .i64 0)).set 1 (.string ⟨#[]⟩)).set 2 (.int .i64 0)).set 3 (.slice none 0 0)).set 4 (.int .i64 0)).set 5 (.int .i64 0)).set 6 (.int .i64 0); simpa using this)
      have HS3_5 : Hid (Str W5 (w.heap.size + 1 + 1 + 1) #[.int .i64 2, .slice Aq nq cq, .int .i64 qlo, .int .i64 qhi, .int .i64 qva]) := Lib.hid (by rw [← hW5]; exact (((((((HS3_4.out).other 0 _ (by omega)).other 1 _ (by omega)).other 2 _ (by omega)).other 3 _ (by omega)).other 4 _ (by omega)).other 5 _ (by omega)).other 6 _ (by omega))
      have HS4_5 : Hid (Str W5 (g) #[.int .i64 ((qva + un) / 4294967296), .int .i64 ((qva + un) % 4294967296)]) := Lib.hid (by rw [← hW5]; exact (((((((HS4_4.out).other 0 _ (by omega)).other 1 _ (by omega)).other 2 _ (by omega)).other 3 _ (by omega)).other 4 _ (by omega)).other 5 _ (by omega)).other 6 _ (by omega))
      have hgr5 : W4.grownBy W5 (some (w.heap.size + 1 + 1)) := by rw [← hW5]; exact grown_set (grown_set (grown_set (grown_set (grown_set (grown_set (grown_set (grown_refl W4 (w.heap.size + 1 + 1)) 0 (.int .i64 0)) 1 (.string ⟨#[]⟩)) 2 (.int .i64 0)) 3 (.slice none 0 0)) 4 (.int .i64 0)) 5 (.int .i64 0)) 6 (.int .i64 0)
      have HB_5 := Lib.hid (below_grown HB_4.out hgr5 (by omega))
      have hw_5 := HB_5.out.size
      have hws_5 := hgr5.size
      clear hW5
      clear f0_4_0 f0_4_1 f0_4_2 f0_4_3 f0_4_4 f0_4_5 f0_4_6 f0_4_7 f0_4_8 f0_4_9 HS0_4 f1_4_0 f1_4_1 f1_4_2 f1_4_3 f1_4_4 f1_4_5 f1_4_6 HS1_4 hf1_4 f2_4_0 f2_4_1 f2_4_2 f2_4_3 f2_4_4 f2_4_5 f2_4_6 HS2_4 hf2_4 f3_4_0 f3_4_1 f3_4_2 f3_4_3 f3_4_4 HS3_4 hf3_4 f4_4_0 f4_4_1 HS4_4 hf4_4
      clear hgr5
      obtain ⟨f0_5_0, f0_5_1, f0_5_2, f0_5_3, f0_5_4, f0_5_5, f0_5_6, f0_5_7, f0_5_8, f0_5_9⟩ := str10 HS0_5.out
      have hl0_5 := HS0_5.out.lt
      obtain ⟨f1_5_0, f1_5_1, f1_5_2, f1_5_3, f1_5_4, f1_5_5, f1_5_6⟩ := str7 HS1_5.out
      have hl1_5 := HS1_5.out.lt
      have hf1_5 := fun j => HS1_5.out.frozen j
      obtain ⟨f2_5_0, f2_5_1, f2_5_2, f2_5_3, f2_5_4, f2_5_5, f2_5_6⟩ := str7 HS2_5.out
      have hl2_5 := HS2_5.out.lt
      have hf2_5 := fun j => HS2_5.out.frozen j
      obtain ⟨f3_5_0, f3_5_1, f3_5_2, f3_5_3, f3_5_4⟩ := str5 HS3_5.out
      have hl3_5 := HS3_5.out.lt
      have hf3_5 := fun j => HS3_5.out.frozen j
      obtain ⟨f4_5_0, f4_5_1⟩ := str2 HS4_5.out
      have hl4_5 := HS4_5.out.lt
      have hf4_5 := fun j => HS4_5.out.frozen j
      exact bodyPost_ret (v := .tuple #[.agg #[.int .i64 0, .string ⟨#[]⟩, .int .i64 0, .slice none 0 0, .int .i64 0, .int .i64 0, .int .i64 0], .int .i64 8]) (by simp [results, Try.results68, go_sem, *]) rfl ⟨none, 0, 0, rfl, Bytes.none_ _ _, HB_5.out⟩

set_option maxRecDepth 100000 in
set_option maxHeartbeats 1000000 in
theorem apply2_ok (un : Int) (Ap : Option Addr) (np cp Bp : Nat) (pst : Int) (pk : ByteArray) (pkd : Int) (pda : List UInt8) (plo phi pva : Int) (Aq : Option Addr) (nq cq Bq : Nat) (qk : ByteArray) (qda : List UInt8) (qlo qhi qva : Int) (w : World) (hp : Bytes w Bp Ap np cp pda) (hBp : Bp ≤ w.heap.size) (hnp : np ≤ 140737488355328) (hq : Bytes w Bq Aq nq cq qda) (hBq : Bq ≤ w.heap.size) (hnq : nq ≤ 140737488355328) (hun : In64 un) (hqv : In64 qva) (hql : In64 qlo) (hqh : In64 qhi) (hr : CellP.right ⟨2, qda, qlo, qhi, qva⟩ = true) (hl : ¬ (qva + un) < qlo) (ho : ¬ qhi < (qva + un)) : Calls Try.prog 68 #[.agg #[.int .i64 2, .string qk, .int .i64 pst, .string pk, .int .i64 pkd, .slice Ap np cp, .int .i64 plo, .int .i64 phi, .int .i64 pva, .int .i64 un], .agg #[.int .i64 1, .string qk, .int .i64 2, .slice Aq nq cq, .int .i64 qlo, .int .i64 qhi, .int .i64 qva]] w (SlotGet.GotItem w (UndoP.apply ⟨2, qk, ⟨pst, pk, ⟨pkd, pda, plo, phi, pva⟩⟩, un⟩ ⟨1, qk, ⟨2, qda, qlo, qhi, qva⟩⟩)) := by
  rw [UndoP.apply_ok _ _ (by simp) ⟨rfl, rfl⟩ ⟨rfl, hr⟩ (by simp [UndoP.sum]; omega)]
  have HLO : Hid (decide ((qva + un) < qlo) = false) := Lib.hid (by simpa using hl)
  have HHI : Hid (decide (qhi < (qva + un)) = false) := Lib.hid (by simpa using ho)
  have HNUM : Hid (WideP.num (qva + un) = (qva + un)) := Lib.hid (by have h1 := hql.1; have h2 := hqh.2; rw [WideP.num, if_pos (by simp [WideP.fits]; omega)])
  have HSV : Hid (UndoP.sum ⟨2, qk, ⟨pst, pk, ⟨pkd, pda, plo, phi, pva⟩⟩, un⟩ ⟨1, qk, ⟨2, qda, qlo, qhi, qva⟩⟩ = (qva + un)) := Lib.hid (by simp [UndoP.sum])
  have hdd : qda = [] := by simp [CellP.right] at hr; exact hr.1
  have HDA : Hid (qda = [] ∧ nq = 0) := Lib.hid ⟨hdd, by rw [← hq.len, hdd]; rfl⟩
  clear ho hl hdd
  have Hq := Lib.hid hq
  have hlq := hq.len
  have hcq := Nat.le_trans hq.2.1 hq.2.2.1
  obtain ⟨v1, v2⟩ := hqv
  obtain ⟨v3, v4⟩ := hun
  obtain ⟨v5, v6⟩ := hql
  obtain ⟨v7, v8⟩ := hqh
  have HRT : Hid (∀ W, Calls Try.prog 21 #[.agg #[.int .i64 2, .slice Aq nq cq, .int .i64 qlo, .int .i64 qhi, .int .i64 qva]] W fun e w' => e = .returned (.bool true) ∧ Below W.heap.size W w') := Lib.hid (fun W => by have h := CellW.right_any Aq nq cq ⟨2, qda, qlo, qhi, qva⟩ W hlq hcq; rw [hr] at h; exact h)
  clear hp hq hlq hcq hr
  go_enter Try.func68, Try.ntmps68
  go_wp2_with fail
  generalize hW0 : ((((w).alloc (.cells #[.int .i64 2, .string qk, .int .i64 pst, .string pk, .int .i64 pkd, .slice Ap np cp, .int .i64 plo, .int .i64 phi, .int .i64 pva, .int .i64 un] 79)).alloc (.cells #[.int .i64 1, .string qk, .int .i64 2, .slice Aq nq cq, .int .i64 qlo, .int .i64 qhi, .int .i64 qva] 38)).alloc (.cells #[.int .i64 0, .string ⟨#[]⟩, .int .i64 0, .slice none 0 0, .int .i64 0, .int .i64 0, .int .i64 0] 38)).alloc (.cells #[.int .i64 2, .slice Aq nq cq, .int .i64 qlo, .int .i64 qhi, .int .i64 qva] 24) = W0
  have HS0_0 : Hid (Str W0 (w.heap.size) #[.int .i64 2, .string qk, .int .i64 pst, .string pk, .int .i64 pkd, .slice Ap np cp, .int .i64 plo, .int .i64 phi, .int .i64 pva, .int .i64 un]) := Lib.hid (by rw [← hW0]; have := (((Str.new (w) #[.int .i64 2, .string qk, .int .i64 pst, .string pk, .int .i64 pkd, .slice Ap np cp, .int .i64 plo, .int .i64 phi, .int .i64 pva, .int .i64 un] 79).alloc (.cells #[.int .i64 1, .string qk, .int .i64 2, .slice Aq nq cq, .int .i64 qlo, .int .i64 qhi, .int .i64 qva] 38)).alloc (.cells #[.int .i64 0, .string ⟨#[]⟩, .int .i64 0, .slice none 0 0, .int .i64 0, .int .i64 0, .int .i64 0] 38)).alloc (.cells #[.int .i64 2, .slice Aq nq cq, .int .i64 qlo, .int .i64 qhi, .int .i64 qva] 24); simpa using this)
  have HS1_0 : Hid (Str W0 (w.heap.size + 1) #[.int .i64 1, .string qk, .int .i64 2, .slice Aq nq cq, .int .i64 qlo, .int .i64 qhi, .int .i64 qva]) := Lib.hid (by rw [← hW0]; have := ((Str.new ((w).alloc (.cells #[.int .i64 2, .string qk, .int .i64 pst, .string pk, .int .i64 pkd, .slice Ap np cp, .int .i64 plo, .int .i64 phi, .int .i64 pva, .int .i64 un] 79)) #[.int .i64 1, .string qk, .int .i64 2, .slice Aq nq cq, .int .i64 qlo, .int .i64 qhi, .int .i64 qva] 38).alloc (.cells #[.int .i64 0, .string ⟨#[]⟩, .int .i64 0, .slice none 0 0, .int .i64 0, .int .i64 0, .int .i64 0] 38)).alloc (.cells #[.int .i64 2, .slice Aq nq cq, .int .i64 qlo, .int .i64 qhi, .int .i64 qva] 24); simpa using this)
  have HS2_0 : Hid (Str W0 (w.heap.size + 1 + 1) #[.int .i64 0, .string ⟨#[]⟩, .int .i64 0, .slice none 0 0, .int .i64 0, .int .i64 0, .int .i64 0]) := Lib.hid (by rw [← hW0]; have := (Str.new (((w).alloc (.cells #[.int .i64 2, .string qk, .int .i64 pst, .string pk, .int .i64 pkd, .slice Ap np cp, .int .i64 plo, .int .i64 phi, .int .i64 pva, .int .i64 un] 79)).alloc (.cells #[.int .i64 1, .string qk, .int .i64 2, .slice Aq nq cq, .int .i64 qlo, .int .i64 qhi, .int .i64 qva] 38)) #[.int .i64 0, .string ⟨#[]⟩, .int .i64 0, .slice none 0 0, .int .i64 0, .int .i64 0, .int .i64 0] 38).alloc (.cells #[.int .i64 2, .slice Aq nq cq, .int .i64 qlo, .int .i64 qhi, .int .i64 qva] 24); simpa using this)
  have HS3_0 : Hid (Str W0 (w.heap.size + 1 + 1 + 1) #[.int .i64 2, .slice Aq nq cq, .int .i64 qlo, .int .i64 qhi, .int .i64 qva]) := Lib.hid (by rw [← hW0]; have := Str.new ((((w).alloc (.cells #[.int .i64 2, .string qk, .int .i64 pst, .string pk, .int .i64 pkd, .slice Ap np cp, .int .i64 plo, .int .i64 phi, .int .i64 pva, .int .i64 un] 79)).alloc (.cells #[.int .i64 1, .string qk, .int .i64 2, .slice Aq nq cq, .int .i64 qlo, .int .i64 qhi, .int .i64 qva] 38)).alloc (.cells #[.int .i64 0, .string ⟨#[]⟩, .int .i64 0, .slice none 0 0, .int .i64 0, .int .i64 0, .int .i64 0] 38)) #[.int .i64 2, .slice Aq nq cq, .int .i64 qlo, .int .i64 qhi, .int .i64 qva] 24; simpa using this)
  have HB_0 : Hid (Below w.heap.size w W0) := Lib.hid (by rw [← hW0]; exact balloc (balloc (balloc (balloc (bsame w) _) _) _) _)
  have hw_0 := HB_0.out.size
  clear hW0
  obtain ⟨f0_0_0, f0_0_1, f0_0_2, f0_0_3, f0_0_4, f0_0_5, f0_0_6, f0_0_7, f0_0_8, f0_0_9⟩ := str10 HS0_0.out
  have hl0_0 := HS0_0.out.lt
  obtain ⟨f1_0_0, f1_0_1, f1_0_2, f1_0_3, f1_0_4, f1_0_5, f1_0_6⟩ := str7 HS1_0.out
  have hl1_0 := HS1_0.out.lt
  have hf1_0 := fun j => HS1_0.out.frozen j
  obtain ⟨f2_0_0, f2_0_1, f2_0_2, f2_0_3, f2_0_4, f2_0_5, f2_0_6⟩ := str7 HS2_0.out
  have hl2_0 := HS2_0.out.lt
  have hf2_0 := fun j => HS2_0.out.frozen j
  obtain ⟨f3_0_0, f3_0_1, f3_0_2, f3_0_3, f3_0_4⟩ := str5 HS3_0.out
  have hl3_0 := HS3_0.out.lt
  have hf3_0 := fun j => HS3_0.out.frozen j
  refine (HRT.out _).mono ?_
  rintro e W1 ⟨rfl, hb1⟩
  have HS0_1 := Lib.hid (HS0_0.out.next hb1)
  have HS1_1 := Lib.hid (HS1_0.out.next hb1)
  have HS2_1 := Lib.hid (HS2_0.out.next hb1)
  have HS3_1 := Lib.hid (HS3_0.out.next hb1)
  have HB_1 := Lib.hid (bstep HB_0.out hb1)
  have hw_1 := HB_1.out.size
  have hws_1 := (hb1).size
  clear f0_0_0 f0_0_1 f0_0_2 f0_0_3 f0_0_4 f0_0_5 f0_0_6 f0_0_7 f0_0_8 f0_0_9 HS0_0 f1_0_0 f1_0_1 f1_0_2 f1_0_3 f1_0_4 f1_0_5 f1_0_6 HS1_0 hf1_0 f2_0_0 f2_0_1 f2_0_2 f2_0_3 f2_0_4 f2_0_5 f2_0_6 HS2_0 hf2_0 f3_0_0 f3_0_1 f3_0_2 f3_0_3 f3_0_4 HS3_0 hf3_0
  clear hb1
  obtain ⟨f0_1_0, f0_1_1, f0_1_2, f0_1_3, f0_1_4, f0_1_5, f0_1_6, f0_1_7, f0_1_8, f0_1_9⟩ := str10 HS0_1.out
  have hl0_1 := HS0_1.out.lt
  obtain ⟨f1_1_0, f1_1_1, f1_1_2, f1_1_3, f1_1_4, f1_1_5, f1_1_6⟩ := str7 HS1_1.out
  have hl1_1 := HS1_1.out.lt
  have hf1_1 := fun j => HS1_1.out.frozen j
  obtain ⟨f2_1_0, f2_1_1, f2_1_2, f2_1_3, f2_1_4, f2_1_5, f2_1_6⟩ := str7 HS2_1.out
  have hl2_1 := HS2_1.out.lt
  have hf2_1 := fun j => HS2_1.out.frozen j
  obtain ⟨f3_1_0, f3_1_1, f3_1_2, f3_1_3, f3_1_4⟩ := str5 HS3_1.out
  have hl3_1 := HS3_1.out.lt
  have hf3_1 := fun j => HS3_1.out.frozen j
  go_wp2_with fail
  refine Reg.wp_region_tail (R := ext) (W := W1) [Reg.eqv (.pointer (some ⟨w.heap.size + 1 + 1 + 1, 4, none⟩)), Reg.eqv (.int .i64 qva), Reg.eqv (.agg #[.int .i64 (qva / 4294967296), .int .i64 (qva % 4294967296)]), Reg.eqv (.pointer (some ⟨w.heap.size, 9, none⟩)), Reg.eqv (.int .i64 un), Reg.eqv (.agg #[.int .i64 (un / 4294967296), .int .i64 (un % 4294967296)]), Reg.eqv (.agg #[.int .i64 ((qva + un) / 4294967296), .int .i64 ((qva + un) % 4294967296)]), Reg.fresh W1.heap.size #[.int .i64 0, .int .i64 0]] 83 8 _ [[(6, none)], [(44, some 0)], [(45, some 1)], [(2, none)], [(47, some 3)], [(48, some 4)], [(46, some 2), (49, some 5)], []] rfl (by kernel_rfl) (by kernel_rfl) (by rfl) (by rfl) rfl (by kernel_rfl) ?_ [some 44, some 45, some 46, some 47, some 48, some 49, some 50, some 7] (by kernel_rfl) ?_
  · refine ⟨?_, ?_, ?_, ?_, ?_, ?_, ?_, ?_, trivial⟩
    · intro ax wx hx hs
      obtain ⟨e6, -⟩ := hs
      have g6 := Reg.ev (v := .pointer (some ⟨w.heap.size + 1 + 1 + 1, 0, none⟩)) e6
      exact Reg.obl_free rfl (Reg.wp_eqv (Option.some_ne_none _) (by go_simp) rfl)
    · intro ax wx hx hs
      obtain ⟨e44, -⟩ := hs
      have g44 := Reg.ev (v := .pointer (some ⟨w.heap.size + 1 + 1 + 1, 4, none⟩)) e44
      obtain ⟨hc, -⟩ := bcell hx
      exact Reg.obl_free rfl (Reg.wp_eqv (Option.some_ne_none _) (by go_simp) rfl)
    · intro ax wx hx hs
      obtain ⟨e45, -⟩ := hs
      have g45 := Reg.ev (v := .int .i64 qva) e45
      refine Reg.obl_free rfl ?_
      go_simp
      refine (RefWide.of_any qva v1 v2 _).mono ?_
      rintro e wy ⟨rfl, hby⟩
      exact Reg.done (Option.some_ne_none _) rfl hby
    · intro ax wx hx hs
      obtain ⟨e2, -⟩ := hs
      have g2 := Reg.ev (v := .pointer (some ⟨w.heap.size, 0, none⟩)) e2
      exact Reg.obl_free rfl (Reg.wp_eqv (Option.some_ne_none _) (by go_simp) rfl)
    · intro ax wx hx hs
      obtain ⟨e47, -⟩ := hs
      have g47 := Reg.ev (v := .pointer (some ⟨w.heap.size, 9, none⟩)) e47
      obtain ⟨hc, -⟩ := bcell hx
      exact Reg.obl_free rfl (Reg.wp_eqv (Option.some_ne_none _) (by go_simp) rfl)
    · intro ax wx hx hs
      obtain ⟨e48, -⟩ := hs
      have g48 := Reg.ev (v := .int .i64 un) e48
      refine Reg.obl_free rfl ?_
      go_simp
      refine (RefWide.of_any un v3 v4 _).mono ?_
      rintro e wy ⟨rfl, hby⟩
      exact Reg.done (Option.some_ne_none _) rfl hby
    · intro ax wx hx hs
      obtain ⟨e46, e49, -⟩ := hs
      have g46 := Reg.ev (v := .agg #[.int .i64 (qva / 4294967296), .int .i64 (qva % 4294967296)]) e46
      have g49 := Reg.ev (v := .agg #[.int .i64 (un / 4294967296), .int .i64 (un % 4294967296)]) e49
      refine Reg.obl_free rfl ?_
      go_simp
      refine (RefWide.join_any qva un (by omega) (by omega) (by omega) (by omega) _).mono ?_
      rintro e wy ⟨rfl, hby⟩
      exact Reg.done (Option.some_ne_none _) rfl hby
    · intro ax wx hx hs
      refine Reg.obl_free rfl ?_
      have hx' : Below W1.heap.size W1 wx := hx
      go_simp
      exact Reg.done (Option.some_ne_none _) ⟨wx.heap.size, rfl, hx'.size, Str.new wx _ _⟩ (balloc (bsame wx) _)
  · intro W2 hwf
    simp only [Reg.Fin]
    rintro _ rfl _ rfl _ rfl _ rfl _ rfl _ rfl _ rfl v7 h7
    obtain ⟨g, rfl, hg, hSg⟩ := h7
    have hwf' : Below W1.heap.size W1 W2 := hwf
    clear hwf
    have HS0_2 := Lib.hid (HS0_1.out.next hwf')
    have HS1_2 := Lib.hid (HS1_1.out.next hwf')
    have HS2_2 := Lib.hid (HS2_1.out.next hwf')
    have HS3_2 := Lib.hid (HS3_1.out.next hwf')
    have HB_2 := Lib.hid (bstep HB_1.out hwf')
    have hw_2 := HB_2.out.size
    have hws_2 := (hwf').size
    clear f0_1_0 f0_1_1 f0_1_2 f0_1_3 f0_1_4 f0_1_5 f0_1_6 f0_1_7 f0_1_8 f0_1_9 HS0_1 f1_1_0 f1_1_1 f1_1_2 f1_1_3 f1_1_4 f1_1_5 f1_1_6 HS1_1 hf1_1 f2_1_0 f2_1_1 f2_1_2 f2_1_3 f2_1_4 f2_1_5 f2_1_6 HS2_1 hf2_1 f3_1_0 f3_1_1 f3_1_2 f3_1_3 f3_1_4 HS3_1 hf3_1
    clear hwf'
    obtain ⟨f0_2_0, f0_2_1, f0_2_2, f0_2_3, f0_2_4, f0_2_5, f0_2_6, f0_2_7, f0_2_8, f0_2_9⟩ := str10 HS0_2.out
    have hl0_2 := HS0_2.out.lt
    obtain ⟨f1_2_0, f1_2_1, f1_2_2, f1_2_3, f1_2_4, f1_2_5, f1_2_6⟩ := str7 HS1_2.out
    have hl1_2 := HS1_2.out.lt
    have hf1_2 := fun j => HS1_2.out.frozen j
    obtain ⟨f2_2_0, f2_2_1, f2_2_2, f2_2_3, f2_2_4, f2_2_5, f2_2_6⟩ := str7 HS2_2.out
    have hl2_2 := HS2_2.out.lt
    have hf2_2 := fun j => HS2_2.out.frozen j
    obtain ⟨f3_2_0, f3_2_1, f3_2_2, f3_2_3, f3_2_4⟩ := str5 HS3_2.out
    have hl3_2 := HS3_2.out.lt
    have hf3_2 := fun j => HS3_2.out.frozen j
    have HS4_2 := Lib.hid hSg
    clear hSg
    obtain ⟨f4_2_0, f4_2_1⟩ := str2 HS4_2.out
    have hl4_2 := HS4_2.out.lt
    have hf4_2 := fun j => HS4_2.out.frozen j
    refine Reg.Goal.mk ?_
    go_simp
    go_wp2_with fail
    generalize hW3 : ((W2).setCell ⟨g, 0, none⟩ (.int .i64 ((qva + un) / 4294967296))).setCell ⟨g, 1, none⟩ (.int .i64 ((qva + un) % 4294967296)) = W3
    have HS0_3 : Hid (Str W3 (w.heap.size) #[.int .i64 2, .string qk, .int .i64 pst, .string pk, .int .i64 pkd, .slice Ap np cp, .int .i64 plo, .int .i64 phi, .int .i64 pva, .int .i64 un]) := Lib.hid (by rw [← hW3]; exact ((HS0_2.out).other 0 _ (by omega)).other 1 _ (by omega))
    have HS1_3 : Hid (Str W3 (w.heap.size + 1) #[.int .i64 1, .string qk, .int .i64 2, .slice Aq nq cq, .int .i64 qlo, .int .i64 qhi, .int .i64 qva]) := Lib.hid (by rw [← hW3]; exact ((HS1_2.out).other 0 _ (by omega)).other 1 _ (by omega))
    have HS2_3 : Hid (Str W3 (w.heap.size + 1 + 1) #[.int .i64 0, .string ⟨#[]⟩, .int .i64 0, .slice none 0 0, .int .i64 0, .int .i64 0, .int .i64 0]) := Lib.hid (by rw [← hW3]; exact ((HS2_2.out).other 0 _ (by omega)).other 1 _ (by omega))
    have HS3_3 : Hid (Str W3 (w.heap.size + 1 + 1 + 1) #[.int .i64 2, .slice Aq nq cq, .int .i64 qlo, .int .i64 qhi, .int .i64 qva]) := Lib.hid (by rw [← hW3]; exact ((HS3_2.out).other 0 _ (by omega)).other 1 _ (by omega))
    have HS4_3 : Hid (Str W3 (g) #[.int .i64 ((qva + un) / 4294967296), .int .i64 ((qva + un) % 4294967296)]) := Lib.hid (by rw [← hW3]; have := ((HS4_2.out).set 0 (.int .i64 ((qva + un) / 4294967296))).set 1 (.int .i64 ((qva + un) % 4294967296)); simpa using this)
    have hgr3 : W2.grownBy W3 (some (g)) := by rw [← hW3]; exact grown_set (grown_set (grown_refl W2 (g)) 0 (.int .i64 ((qva + un) / 4294967296))) 1 (.int .i64 ((qva + un) % 4294967296))
    have HB_3 := Lib.hid (below_grown HB_2.out hgr3 (by omega))
    have hw_3 := HB_3.out.size
    have hws_3 := hgr3.size
    clear hW3
    clear f0_2_0 f0_2_1 f0_2_2 f0_2_3 f0_2_4 f0_2_5 f0_2_6 f0_2_7 f0_2_8 f0_2_9 HS0_2 f1_2_0 f1_2_1 f1_2_2 f1_2_3 f1_2_4 f1_2_5 f1_2_6 HS1_2 hf1_2 f2_2_0 f2_2_1 f2_2_2 f2_2_3 f2_2_4 f2_2_5 f2_2_6 HS2_2 hf2_2 f3_2_0 f3_2_1 f3_2_2 f3_2_3 f3_2_4 HS3_2 hf3_2 f4_2_0 f4_2_1 HS4_2 hf4_2
    clear hgr3
    obtain ⟨f0_3_0, f0_3_1, f0_3_2, f0_3_3, f0_3_4, f0_3_5, f0_3_6, f0_3_7, f0_3_8, f0_3_9⟩ := str10 HS0_3.out
    have hl0_3 := HS0_3.out.lt
    obtain ⟨f1_3_0, f1_3_1, f1_3_2, f1_3_3, f1_3_4, f1_3_5, f1_3_6⟩ := str7 HS1_3.out
    have hl1_3 := HS1_3.out.lt
    have hf1_3 := fun j => HS1_3.out.frozen j
    obtain ⟨f2_3_0, f2_3_1, f2_3_2, f2_3_3, f2_3_4, f2_3_5, f2_3_6⟩ := str7 HS2_3.out
    have hl2_3 := HS2_3.out.lt
    have hf2_3 := fun j => HS2_3.out.frozen j
    obtain ⟨f3_3_0, f3_3_1, f3_3_2, f3_3_3, f3_3_4⟩ := str5 HS3_3.out
    have hl3_3 := HS3_3.out.lt
    have hf3_3 := fun j => HS3_3.out.frozen j
    obtain ⟨f4_3_0, f4_3_1⟩ := str2 HS4_3.out
    have hl4_3 := HS4_3.out.lt
    have hf4_3 := fun j => HS4_3.out.frozen j
    refine Reg.wp_region_vals (R := ext) (W := W3) [Reg.eqv (.agg #[.int .i64 ((qva + un) / 4294967296), .int .i64 ((qva + un) % 4294967296)]), Reg.eqv (.pointer (some ⟨w.heap.size + 1 + 1 + 1, 2, none⟩)), Reg.eqv (.int .i64 qlo), Reg.eqv (.agg #[.int .i64 (qlo / 4294967296), .int .i64 (qlo % 4294967296)]), Reg.eqv (.bool false), Reg.eqv (.bool false), Reg.eqv (.pointer (some ⟨w.heap.size + 1 + 1 + 1, 3, none⟩)), Reg.eqv (.int .i64 qhi), Reg.eqv (.agg #[.int .i64 (qhi / 4294967296), .int .i64 (qhi % 4294967296)]), Reg.eqv (.agg #[.int .i64 ((qva + un) / 4294967296), .int .i64 ((qva + un) % 4294967296)]), Reg.eqv (.bool false), Reg.eqv (.bool false)] 83 [[(7, none)], [(6, none)], [(62, some 1)], [(63, some 2)], [(61, some 0), (64, some 3)], [(65, some 4)], [(6, none), (66, some 5)], [(67, some 6), (66, some 5)], [(68, some 7), (66, some 5)], [(7, none), (66, some 5)], [(69, some 8), (70, some 9), (66, some 5)], [(66, some 5), (71, some 10)]] rfl (by kernel_rfl) (by kernel_rfl) (by kernel_rfl) ?_ [some 61, some 62, some 63, some 64, some 65, some 66, some 67, some 68, some 69, some 70, some 71, some 72] (by kernel_rfl) ?_
    · refine ⟨?_, ?_, ?_, ?_, ?_, ?_, ?_, ?_, ?_, ?_, ?_, ?_, trivial⟩
      · intro ax wx hx hs
        obtain ⟨e7, -⟩ := hs
        have g7 := Reg.ev (v := .pointer (some ⟨g, 0, none⟩)) e7
        obtain ⟨hc, -⟩ := bcell hx
        exact Reg.obl_free rfl (Reg.wp_eqv (Option.some_ne_none _) (by go_simp) rfl)
      · intro ax wx hx hs
        obtain ⟨e6, -⟩ := hs
        have g6 := Reg.ev (v := .pointer (some ⟨w.heap.size + 1 + 1 + 1, 0, none⟩)) e6
        exact Reg.obl_free rfl (Reg.wp_eqv (Option.some_ne_none _) (by go_simp) rfl)
      · intro ax wx hx hs
        obtain ⟨e62, -⟩ := hs
        have g62 := Reg.ev (v := .pointer (some ⟨w.heap.size + 1 + 1 + 1, 2, none⟩)) e62
        obtain ⟨hc, -⟩ := bcell hx
        exact Reg.obl_free rfl (Reg.wp_eqv (Option.some_ne_none _) (by go_simp) rfl)
      · intro ax wx hx hs
        obtain ⟨e63, -⟩ := hs
        have g63 := Reg.ev (v := .int .i64 qlo) e63
        refine Reg.obl_free rfl ?_
        go_simp
        refine (RefWide.of_any qlo v5 v6 _).mono ?_
        rintro e wy ⟨rfl, hby⟩
        exact Reg.done (Option.some_ne_none _) rfl hby
      · intro ax wx hx hs
        obtain ⟨e61, e64, -⟩ := hs
        have g61 := Reg.ev (v := .agg #[.int .i64 ((qva + un) / 4294967296), .int .i64 ((qva + un) % 4294967296)]) e61
        have g64 := Reg.ev (v := .agg #[.int .i64 (qlo / 4294967296), .int .i64 (qlo % 4294967296)]) e64
        refine Reg.obl_free rfl ?_
        go_simp
        refine (RefWide.less_any (qva + un) qlo _).mono ?_
        rintro e wy ⟨rfl, hby⟩
        rw [HLO.out]
        exact Reg.done (Option.some_ne_none _) rfl hby
      · intro ax wx hx hs
        obtain ⟨e65, -⟩ := hs
        have g65 := Reg.ev (v := .bool false) e65
        exact Reg.obl_free rfl (Reg.wp_eqv (Option.some_ne_none _) (by go_simp) rfl)
      · intro ax wx hx hs
        obtain ⟨e6, e66, -⟩ := hs
        have g6 := Reg.ev (v := .pointer (some ⟨w.heap.size + 1 + 1 + 1, 0, none⟩)) e6
        have g66 := Reg.ev (v := .bool false) e66
        exact Reg.obl_want rfl rfl e66 (Reg.wp_eqv (Option.some_ne_none _) (by go_simp) rfl)
      · intro ax wx hx hs
        obtain ⟨e67, e66, -⟩ := hs
        have g67 := Reg.ev (v := .pointer (some ⟨w.heap.size + 1 + 1 + 1, 3, none⟩)) e67
        have g66 := Reg.ev (v := .bool false) e66
        obtain ⟨hc, -⟩ := bcell hx
        exact Reg.obl_want rfl rfl e66 (Reg.wp_eqv (Option.some_ne_none _) (by go_simp) rfl)
      · intro ax wx hx hs
        obtain ⟨e68, e66, -⟩ := hs
        have g68 := Reg.ev (v := .int .i64 qhi) e68
        have g66 := Reg.ev (v := .bool false) e66
        refine Reg.obl_want rfl rfl e66 ?_
        go_simp
        refine (RefWide.of_any qhi v7 v8 _).mono ?_
        rintro e wy ⟨rfl, hby⟩
        exact Reg.done (Option.some_ne_none _) rfl hby
      · intro ax wx hx hs
        obtain ⟨e7, e66, -⟩ := hs
        have g7 := Reg.ev (v := .pointer (some ⟨g, 0, none⟩)) e7
        have g66 := Reg.ev (v := .bool false) e66
        obtain ⟨hc, -⟩ := bcell hx
        exact Reg.obl_want rfl rfl e66 (Reg.wp_eqv (Option.some_ne_none _) (by go_simp) rfl)
      · intro ax wx hx hs
        obtain ⟨e69, e70, e66, -⟩ := hs
        have g69 := Reg.ev (v := .agg #[.int .i64 (qhi / 4294967296), .int .i64 (qhi % 4294967296)]) e69
        have g70 := Reg.ev (v := .agg #[.int .i64 ((qva + un) / 4294967296), .int .i64 ((qva + un) % 4294967296)]) e70
        have g66 := Reg.ev (v := .bool false) e66
        refine Reg.obl_want rfl rfl e66 ?_
        go_simp
        refine (RefWide.less_any qhi (qva + un) _).mono ?_
        rintro e wy ⟨rfl, hby⟩
        rw [HHI.out]
        exact Reg.done (Option.some_ne_none _) rfl hby
      · intro ax wx hx hs
        obtain ⟨e66, e71, -⟩ := hs
        have g66 := Reg.ev (v := .bool false) e66
        have g71 := Reg.ev (v := .bool false) e71
        exact Reg.obl_free rfl (Reg.wp_eqv (Option.some_ne_none _) (by go_simp) rfl)
    · intro W4 hwf
      simp only [Reg.Fin]
      rintro _ rfl _ rfl _ rfl _ rfl _ rfl _ rfl _ rfl _ rfl _ rfl _ rfl _ rfl _ rfl
      go_simp
      have HS0_4 := Lib.hid (HS0_3.out.next hwf)
      have HS1_4 := Lib.hid (HS1_3.out.next hwf)
      have HS2_4 := Lib.hid (HS2_3.out.next hwf)
      have HS3_4 := Lib.hid (HS3_3.out.next hwf)
      have HS4_4 := Lib.hid (HS4_3.out.next hwf)
      have HB_4 := Lib.hid (bstep HB_3.out hwf)
      have hw_4 := HB_4.out.size
      have hws_4 := (hwf).size
      clear f0_3_0 f0_3_1 f0_3_2 f0_3_3 f0_3_4 f0_3_5 f0_3_6 f0_3_7 f0_3_8 f0_3_9 HS0_3 f1_3_0 f1_3_1 f1_3_2 f1_3_3 f1_3_4 f1_3_5 f1_3_6 HS1_3 hf1_3 f2_3_0 f2_3_1 f2_3_2 f2_3_3 f2_3_4 f2_3_5 f2_3_6 HS2_3 hf2_3 f3_3_0 f3_3_1 f3_3_2 f3_3_3 f3_3_4 HS3_3 hf3_3 f4_3_0 f4_3_1 HS4_3 hf4_3
      clear hwf
      obtain ⟨f0_4_0, f0_4_1, f0_4_2, f0_4_3, f0_4_4, f0_4_5, f0_4_6, f0_4_7, f0_4_8, f0_4_9⟩ := str10 HS0_4.out
      have hl0_4 := HS0_4.out.lt
      obtain ⟨f1_4_0, f1_4_1, f1_4_2, f1_4_3, f1_4_4, f1_4_5, f1_4_6⟩ := str7 HS1_4.out
      have hl1_4 := HS1_4.out.lt
      have hf1_4 := fun j => HS1_4.out.frozen j
      obtain ⟨f2_4_0, f2_4_1, f2_4_2, f2_4_3, f2_4_4, f2_4_5, f2_4_6⟩ := str7 HS2_4.out
      have hl2_4 := HS2_4.out.lt
      have hf2_4 := fun j => HS2_4.out.frozen j
      obtain ⟨f3_4_0, f3_4_1, f3_4_2, f3_4_3, f3_4_4⟩ := str5 HS3_4.out
      have hl3_4 := HS3_4.out.lt
      have hf3_4 := fun j => HS3_4.out.frozen j
      obtain ⟨f4_4_0, f4_4_1⟩ := str2 HS4_4.out
      have hl4_4 := HS4_4.out.lt
      have hf4_4 := fun j => HS4_4.out.frozen j
      go_wp2_with fail
      refine (RefWide.int_any (qva + un) _).mono ?_
      rintro e W5 ⟨rfl, hb5⟩
      rw [HNUM.out]
      have HS0_5 := Lib.hid (HS0_4.out.next hb5)
      have HS1_5 := Lib.hid (HS1_4.out.next hb5)
      have HS2_5 := Lib.hid (HS2_4.out.next hb5)
      have HS3_5 := Lib.hid (HS3_4.out.next hb5)
      have HS4_5 := Lib.hid (HS4_4.out.next hb5)
      have HB_5 := Lib.hid (bstep HB_4.out hb5)
      have hw_5 := HB_5.out.size
      have hws_5 := (hb5).size
      clear f0_4_0 f0_4_1 f0_4_2 f0_4_3 f0_4_4 f0_4_5 f0_4_6 f0_4_7 f0_4_8 f0_4_9 HS0_4 f1_4_0 f1_4_1 f1_4_2 f1_4_3 f1_4_4 f1_4_5 f1_4_6 HS1_4 hf1_4 f2_4_0 f2_4_1 f2_4_2 f2_4_3 f2_4_4 f2_4_5 f2_4_6 HS2_4 hf2_4 f3_4_0 f3_4_1 f3_4_2 f3_4_3 f3_4_4 HS3_4 hf3_4 f4_4_0 f4_4_1 HS4_4 hf4_4
      clear hb5
      obtain ⟨f0_5_0, f0_5_1, f0_5_2, f0_5_3, f0_5_4, f0_5_5, f0_5_6, f0_5_7, f0_5_8, f0_5_9⟩ := str10 HS0_5.out
      have hl0_5 := HS0_5.out.lt
      obtain ⟨f1_5_0, f1_5_1, f1_5_2, f1_5_3, f1_5_4, f1_5_5, f1_5_6⟩ := str7 HS1_5.out
      have hl1_5 := HS1_5.out.lt
      have hf1_5 := fun j => HS1_5.out.frozen j
      obtain ⟨f2_5_0, f2_5_1, f2_5_2, f2_5_3, f2_5_4, f2_5_5, f2_5_6⟩ := str7 HS2_5.out
      have hl2_5 := HS2_5.out.lt
      have hf2_5 := fun j => HS2_5.out.frozen j
      obtain ⟨f3_5_0, f3_5_1, f3_5_2, f3_5_3, f3_5_4⟩ := str5 HS3_5.out
      have hl3_5 := HS3_5.out.lt
      have hf3_5 := fun j => HS3_5.out.frozen j
      obtain ⟨f4_5_0, f4_5_1⟩ := str2 HS4_5.out
      have hl4_5 := HS4_5.out.lt
      have hf4_5 := fun j => HS4_5.out.frozen j
      go_wp2_with fail
      generalize hW6 : (W5).setCell ⟨w.heap.size + 1 + 1 + 1, 4, none⟩ (.int .i64 (qva + un)) = W6
      have HS0_6 : Hid (Str W6 (w.heap.size) #[.int .i64 2, .string qk, .int .i64 pst, .string pk, .int .i64 pkd, .slice Ap np cp, .int .i64 plo, .int .i64 phi, .int .i64 pva, .int .i64 un]) := Lib.hid (by rw [← hW6]; exact (HS0_5.out).other 4 _ (by omega))
      have HS1_6 : Hid (Str W6 (w.heap.size + 1) #[.int .i64 1, .string qk, .int .i64 2, .slice Aq nq cq, .int .i64 qlo, .int .i64 qhi, .int .i64 qva]) := Lib.hid (by rw [← hW6]; exact (HS1_5.out).other 4 _ (by omega))
      have HS2_6 : Hid (Str W6 (w.heap.size + 1 + 1) #[.int .i64 0, .string ⟨#[]⟩, .int .i64 0, .slice none 0 0, .int .i64 0, .int .i64 0, .int .i64 0]) := Lib.hid (by rw [← hW6]; exact (HS2_5.out).other 4 _ (by omega))
      have HS3_6 : Hid (Str W6 (w.heap.size + 1 + 1 + 1) #[.int .i64 2, .slice Aq nq cq, .int .i64 qlo, .int .i64 qhi, .int .i64 (qva + un)]) := Lib.hid (by rw [← hW6]; have := (HS3_5.out).set 4 (.int .i64 (qva + un)); simpa using this)
      have HS4_6 : Hid (Str W6 (g) #[.int .i64 ((qva + un) / 4294967296), .int .i64 ((qva + un) % 4294967296)]) := Lib.hid (by rw [← hW6]; exact (HS4_5.out).other 4 _ (by omega))
      have hgr6 : W5.grownBy W6 (some (w.heap.size + 1 + 1 + 1)) := by rw [← hW6]; exact grown_set (grown_refl W5 (w.heap.size + 1 + 1 + 1)) 4 (.int .i64 (qva + un))
      have HB_6 := Lib.hid (below_grown HB_5.out hgr6 (by omega))
      have hw_6 := HB_6.out.size
      have hws_6 := hgr6.size
      clear hW6
      clear f0_5_0 f0_5_1 f0_5_2 f0_5_3 f0_5_4 f0_5_5 f0_5_6 f0_5_7 f0_5_8 f0_5_9 HS0_5 f1_5_0 f1_5_1 f1_5_2 f1_5_3 f1_5_4 f1_5_5 f1_5_6 HS1_5 hf1_5 f2_5_0 f2_5_1 f2_5_2 f2_5_3 f2_5_4 f2_5_5 f2_5_6 HS2_5 hf2_5 f3_5_0 f3_5_1 f3_5_2 f3_5_3 f3_5_4 HS3_5 hf3_5 f4_5_0 f4_5_1 HS4_5 hf4_5
      clear hgr6
      obtain ⟨f0_6_0, f0_6_1, f0_6_2, f0_6_3, f0_6_4, f0_6_5, f0_6_6, f0_6_7, f0_6_8, f0_6_9⟩ := str10 HS0_6.out
      have hl0_6 := HS0_6.out.lt
      obtain ⟨f1_6_0, f1_6_1, f1_6_2, f1_6_3, f1_6_4, f1_6_5, f1_6_6⟩ := str7 HS1_6.out
      have hl1_6 := HS1_6.out.lt
      have hf1_6 := fun j => HS1_6.out.frozen j
      obtain ⟨f2_6_0, f2_6_1, f2_6_2, f2_6_3, f2_6_4, f2_6_5, f2_6_6⟩ := str7 HS2_6.out
      have hl2_6 := HS2_6.out.lt
      have hf2_6 := fun j => HS2_6.out.frozen j
      obtain ⟨f3_6_0, f3_6_1, f3_6_2, f3_6_3, f3_6_4⟩ := str5 HS3_6.out
      have hl3_6 := HS3_6.out.lt
      have hf3_6 := fun j => HS3_6.out.frozen j
      obtain ⟨f4_6_0, f4_6_1⟩ := str2 HS4_6.out
      have hl4_6 := HS4_6.out.lt
      have hf4_6 := fun j => HS4_6.out.frozen j
      generalize hW7 : (((((W6).setCell ⟨w.heap.size + 1, 2, none⟩ (.int .i64 2)).setCell ⟨w.heap.size + 1, 3, none⟩ (.slice Aq nq cq)).setCell ⟨w.heap.size + 1, 4, none⟩ (.int .i64 qlo)).setCell ⟨w.heap.size + 1, 5, none⟩ (.int .i64 qhi)).setCell ⟨w.heap.size + 1, 6, none⟩ (.int .i64 (qva + un)) = W7
      have HS0_7 : Hid (Str W7 (w.heap.size) #[.int .i64 2, .string qk, .int .i64 pst, .string pk, .int .i64 pkd, .slice Ap np cp, .int .i64 plo, .int .i64 phi, .int .i64 pva, .int .i64 un]) := Lib.hid (by rw [← hW7]; exact (((((HS0_6.out).other 2 _ (by omega)).other 3 _ (by omega)).other 4 _ (by omega)).other 5 _ (by omega)).other 6 _ (by omega))
      have HS1_7 : Hid (Str W7 (w.heap.size + 1) #[.int .i64 1, .string qk, .int .i64 2, .slice Aq nq cq, .int .i64 qlo, .int .i64 qhi, .int .i64 (qva + un)]) := Lib.hid (by rw [← hW7]; have := (((((HS1_6.out).set 2 (.int .i64 2)).set 3 (.slice Aq nq cq)).set 4 (.int .i64 qlo)).set 5 (.int .i64 qhi)).set 6 (.int .i64 (qva + un)); simpa using this)
      have HS2_7 : Hid (Str W7 (w.heap.size + 1 + 1) #[.int .i64 0, .string ⟨#[]⟩, .int .i64 0, .slice none 0 0, .int .i64 0, .int .i64 0, .int .i64 0]) := Lib.hid (by rw [← hW7]; exact (((((HS2_6.out).other 2 _ (by omega)).other 3 _ (by omega)).other 4 _ (by omega)).other 5 _ (by omega)).other 6 _ (by omega))
      have HS3_7 : Hid (Str W7 (w.heap.size + 1 + 1 + 1) #[.int .i64 2, .slice Aq nq cq, .int .i64 qlo, .int .i64 qhi, .int .i64 (qva + un)]) := Lib.hid (by rw [← hW7]; exact (((((HS3_6.out).other 2 _ (by omega)).other 3 _ (by omega)).other 4 _ (by omega)).other 5 _ (by omega)).other 6 _ (by omega))
      have HS4_7 : Hid (Str W7 (g) #[.int .i64 ((qva + un) / 4294967296), .int .i64 ((qva + un) % 4294967296)]) := Lib.hid (by rw [← hW7]; exact (((((HS4_6.out).other 2 _ (by omega)).other 3 _ (by omega)).other 4 _ (by omega)).other 5 _ (by omega)).other 6 _ (by omega))
      have hgr7 : W6.grownBy W7 (some (w.heap.size + 1)) := by rw [← hW7]; exact grown_set (grown_set (grown_set (grown_set (grown_set (grown_refl W6 (w.heap.size + 1)) 2 (.int .i64 2)) 3 (.slice Aq nq cq)) 4 (.int .i64 qlo)) 5 (.int .i64 qhi)) 6 (.int .i64 (qva + un))
      have HB_7 := Lib.hid (below_grown HB_6.out hgr7 (by omega))
      have hw_7 := HB_7.out.size
      have hws_7 := hgr7.size
      clear hW7
      clear f0_6_0 f0_6_1 f0_6_2 f0_6_3 f0_6_4 f0_6_5 f0_6_6 f0_6_7 f0_6_8 f0_6_9 HS0_6 f1_6_0 f1_6_1 f1_6_2 f1_6_3 f1_6_4 f1_6_5 f1_6_6 HS1_6 hf1_6 f2_6_0 f2_6_1 f2_6_2 f2_6_3 f2_6_4 f2_6_5 f2_6_6 HS2_6 hf2_6 f3_6_0 f3_6_1 f3_6_2 f3_6_3 f3_6_4 HS3_6 hf3_6 f4_6_0 f4_6_1 HS4_6 hf4_6
      clear hgr7
      obtain ⟨f0_7_0, f0_7_1, f0_7_2, f0_7_3, f0_7_4, f0_7_5, f0_7_6, f0_7_7, f0_7_8, f0_7_9⟩ := str10 HS0_7.out
      have hl0_7 := HS0_7.out.lt
      obtain ⟨f1_7_0, f1_7_1, f1_7_2, f1_7_3, f1_7_4, f1_7_5, f1_7_6⟩ := str7 HS1_7.out
      have hl1_7 := HS1_7.out.lt
      have hf1_7 := fun j => HS1_7.out.frozen j
      obtain ⟨f2_7_0, f2_7_1, f2_7_2, f2_7_3, f2_7_4, f2_7_5, f2_7_6⟩ := str7 HS2_7.out
      have hl2_7 := HS2_7.out.lt
      have hf2_7 := fun j => HS2_7.out.frozen j
      obtain ⟨f3_7_0, f3_7_1, f3_7_2, f3_7_3, f3_7_4⟩ := str5 HS3_7.out
      have hl3_7 := HS3_7.out.lt
      have hf3_7 := fun j => HS3_7.out.frozen j
      obtain ⟨f4_7_0, f4_7_1⟩ := str2 HS4_7.out
      have hl4_7 := HS4_7.out.lt
      have hf4_7 := fun j => HS4_7.out.frozen j
      generalize hW8 : (((((((W7).setCell ⟨w.heap.size + 1 + 1, 0, none⟩ (.int .i64 1)).setCell ⟨w.heap.size + 1 + 1, 1, none⟩ (.string qk)).setCell ⟨w.heap.size + 1 + 1, 2, none⟩ (.int .i64 2)).setCell ⟨w.heap.size + 1 + 1, 3, none⟩ (.slice Aq nq cq)).setCell ⟨w.heap.size + 1 + 1, 4, none⟩ (.int .i64 qlo)).setCell ⟨w.heap.size + 1 + 1, 5, none⟩ (.int .i64 qhi)).setCell ⟨w.heap.size + 1 + 1, 6, none⟩ (.int .i64 (qva + un)) = W8
      have HS0_8 : Hid (Str W8 (w.heap.size) #[.int .i64 2, .string qk, .int .i64 pst, .string pk, .int .i64 pkd, .slice Ap np cp, .int .i64 plo, .int .i64 phi, .int .i64 pva, .int .i64 un]) := Lib.hid (by rw [← hW8]; exact (((((((HS0_7.out).other 0 _ (by omega)).other 1 _ (by omega)).other 2 _ (by omega)).other 3 _ (by omega)).other 4 _ (by omega)).other 5 _ (by omega)).other 6 _ (by omega))
      have HS1_8 : Hid (Str W8 (w.heap.size + 1) #[.int .i64 1, .string qk, .int .i64 2, .slice Aq nq cq, .int .i64 qlo, .int .i64 qhi, .int .i64 (qva + un)]) := Lib.hid (by rw [← hW8]; exact (((((((HS1_7.out).other 0 _ (by omega)).other 1 _ (by omega)).other 2 _ (by omega)).other 3 _ (by omega)).other 4 _ (by omega)).other 5 _ (by omega)).other 6 _ (by omega))
      have HS2_8 : Hid (Str W8 (w.heap.size + 1 + 1) #[.int .i64 1, .string qk, .int .i64 2, .slice Aq nq cq, .int .i64 qlo, .int .i64 qhi, .int .i64 (qva + un)]) := Lib.hid (by rw [← hW8]; have := (((((((HS2_7.out).set 0 (.int .i64 1)).set 1 (.string qk)).set 2 (.int .i64 2)).set 3 (.slice Aq nq cq)).set 4 (.int .i64 qlo)).set 5 (.int .i64 qhi)).set 6 (.int .i64 (qva + un)); simpa using this)
      have HS3_8 : Hid (Str W8 (w.heap.size + 1 + 1 + 1) #[.int .i64 2, .slice Aq nq cq, .int .i64 qlo, .int .i64 qhi, .int .i64 (qva + un)]) := Lib.hid (by rw [← hW8]; exact (((((((HS3_7.out).other 0 _ (by omega)).other 1 _ (by omega)).other 2 _ (by omega)).other 3 _ (by omega)).other 4 _ (by omega)).other 5 _ (by omega)).other 6 _ (by omega))
      have HS4_8 : Hid (Str W8 (g) #[.int .i64 ((qva + un) / 4294967296), .int .i64 ((qva + un) % 4294967296)]) := Lib.hid (by rw [← hW8]; exact (((((((HS4_7.out).other 0 _ (by omega)).other 1 _ (by omega)).other 2 _ (by omega)).other 3 _ (by omega)).other 4 _ (by omega)).other 5 _ (by omega)).other 6 _ (by omega))
      have hgr8 : W7.grownBy W8 (some (w.heap.size + 1 + 1)) := by rw [← hW8]; exact grown_set (grown_set (grown_set (grown_set (grown_set (grown_set (grown_set (grown_refl W7 (w.heap.size + 1 + 1)) 0 (.int .i64 1)) 1 (.string qk)) 2 (.int .i64 2)) 3 (.slice Aq nq cq)) 4 (.int .i64 qlo)) 5 (.int .i64 qhi)) 6 (.int .i64 (qva + un))
      have HB_8 := Lib.hid (below_grown HB_7.out hgr8 (by omega))
      have hw_8 := HB_8.out.size
      have hws_8 := hgr8.size
      clear hW8
      clear f0_7_0 f0_7_1 f0_7_2 f0_7_3 f0_7_4 f0_7_5 f0_7_6 f0_7_7 f0_7_8 f0_7_9 HS0_7 f1_7_0 f1_7_1 f1_7_2 f1_7_3 f1_7_4 f1_7_5 f1_7_6 HS1_7 hf1_7 f2_7_0 f2_7_1 f2_7_2 f2_7_3 f2_7_4 f2_7_5 f2_7_6 HS2_7 hf2_7 f3_7_0 f3_7_1 f3_7_2 f3_7_3 f3_7_4 HS3_7 hf3_7 f4_7_0 f4_7_1 HS4_7 hf4_7
      clear hgr8
      obtain ⟨f0_8_0, f0_8_1, f0_8_2, f0_8_3, f0_8_4, f0_8_5, f0_8_6, f0_8_7, f0_8_8, f0_8_9⟩ := str10 HS0_8.out
      have hl0_8 := HS0_8.out.lt
      obtain ⟨f1_8_0, f1_8_1, f1_8_2, f1_8_3, f1_8_4, f1_8_5, f1_8_6⟩ := str7 HS1_8.out
      have hl1_8 := HS1_8.out.lt
      have hf1_8 := fun j => HS1_8.out.frozen j
      obtain ⟨f2_8_0, f2_8_1, f2_8_2, f2_8_3, f2_8_4, f2_8_5, f2_8_6⟩ := str7 HS2_8.out
      have hl2_8 := HS2_8.out.lt
      have hf2_8 := fun j => HS2_8.out.frozen j
      obtain ⟨f3_8_0, f3_8_1, f3_8_2, f3_8_3, f3_8_4⟩ := str5 HS3_8.out
      have hl3_8 := HS3_8.out.lt
      have hf3_8 := fun j => HS3_8.out.frozen j
      obtain ⟨f4_8_0, f4_8_1⟩ := str2 HS4_8.out
      have hl4_8 := HS4_8.out.lt
      have hf4_8 := fun j => HS4_8.out.frozen j
      obtain ⟨hd, hn0⟩ := HDA.out
      exact bodyPost_ret (v := .tuple #[.agg #[.int .i64 1, .string qk, .int .i64 2, .slice Aq nq cq, .int .i64 qlo, .int .i64 qhi, .int .i64 (qva + un)], .int .i64 0]) (by simp [results, Try.results68, go_sem, *]) rfl ⟨Aq, nq, cq, by rw [HSV.out], (by have h9 := (Hq.out.below (HB_8.out.mono hBq)).more (Nat.le_trans hBq HB_8.out.size); rw [hd] at h9; exact h9), HB_8.out⟩

set_option maxRecDepth 100000 in
set_option maxHeartbeats 1000000 in
theorem apply3_st (uk : ByteArray) (un : Int) (Ap : Option Addr) (np cp Bp : Nat) (pst : Int) (pk : ByteArray) (pkd : Int) (pda : List UInt8) (plo phi pva : Int) (Aq : Option Addr) (nq cq Bq : Nat) (qst : Int) (qk : ByteArray) (qkd : Int) (qda : List UInt8) (qlo qhi qva : Int) (w : World) (hp : Bytes w Bp Ap np cp pda) (hBp : Bp ≤ w.heap.size) (hnp : np ≤ 140737488355328) (hq : Bytes w Bq Aq nq cq qda) (hBq : Bq ≤ w.heap.size) (hnq : nq ≤ 140737488355328) (hun : In64 un) (hqv : In64 qva) (hql : In64 qlo) (hqh : In64 qhi) (hs : ¬ qst = 1) : Calls Try.prog 68 #[.agg #[.int .i64 3, .string uk, .int .i64 pst, .string pk, .int .i64 pkd, .slice Ap np cp, .int .i64 plo, .int .i64 phi, .int .i64 pva, .int .i64 un], .agg #[.int .i64 qst, .string qk, .int .i64 qkd, .slice Aq nq cq, .int .i64 qlo, .int .i64 qhi, .int .i64 qva]] w (SlotGet.GotItem w (UndoP.apply ⟨3, uk, ⟨pst, pk, ⟨pkd, pda, plo, phi, pva⟩⟩, un⟩ ⟨qst, qk, ⟨qkd, qda, qlo, qhi, qva⟩⟩)) := by
  rw [UndoP.apply_none _ _ (by simp) (fun h => hs h.1)]
  clear hp hq hun hqv hql hqh
  go_enter Try.func68, Try.ntmps68
  go_wp2_with fail
  all_goals exact bodyPost_ret (v := .tuple #[.agg #[.int .i64 0, .string ⟨#[]⟩, .int .i64 0, .slice none 0 0, .int .i64 0, .int .i64 0, .int .i64 0], .int .i64 5]) (by simp [results, Try.results68, go_sem, *]) rfl ⟨none, 0, 0, rfl, Bytes.none_ _ _, balloc (balloc (balloc (bsame w) _) _) _⟩

set_option maxRecDepth 100000 in
set_option maxHeartbeats 1000000 in
theorem apply3_key (uk : ByteArray) (un : Int) (Ap : Option Addr) (np cp Bp : Nat) (pst : Int) (pk : ByteArray) (pkd : Int) (pda : List UInt8) (plo phi pva : Int) (Aq : Option Addr) (nq cq Bq : Nat) (qk : ByteArray) (qkd : Int) (qda : List UInt8) (qlo qhi qva : Int) (w : World) (hp : Bytes w Bp Ap np cp pda) (hBp : Bp ≤ w.heap.size) (hnp : np ≤ 140737488355328) (hq : Bytes w Bq Aq nq cq qda) (hBq : Bq ≤ w.heap.size) (hnq : nq ≤ 140737488355328) (hun : In64 un) (hqv : In64 qva) (hql : In64 qlo) (hqh : In64 qhi) (hk : ¬ qk = uk) : Calls Try.prog 68 #[.agg #[.int .i64 3, .string uk, .int .i64 pst, .string pk, .int .i64 pkd, .slice Ap np cp, .int .i64 plo, .int .i64 phi, .int .i64 pva, .int .i64 un], .agg #[.int .i64 1, .string qk, .int .i64 qkd, .slice Aq nq cq, .int .i64 qlo, .int .i64 qhi, .int .i64 qva]] w (SlotGet.GotItem w (UndoP.apply ⟨3, uk, ⟨pst, pk, ⟨pkd, pda, plo, phi, pva⟩⟩, un⟩ ⟨1, qk, ⟨qkd, qda, qlo, qhi, qva⟩⟩)) := by
  rw [UndoP.apply_none _ _ (by simp) (fun h => hk h.2)]
  clear hp hq hun hqv hql hqh
  replace hk := key_ne hk
  go_enter Try.func68, Try.ntmps68
  go_wp2_with fail
  all_goals exact bodyPost_ret (v := .tuple #[.agg #[.int .i64 0, .string ⟨#[]⟩, .int .i64 0, .slice none 0 0, .int .i64 0, .int .i64 0, .int .i64 0], .int .i64 5]) (by simp [results, Try.results68, go_sem, *]) rfl ⟨none, 0, 0, rfl, Bytes.none_ _ _, balloc (balloc (balloc (bsame w) _) _) _⟩

set_option maxRecDepth 100000 in
set_option maxHeartbeats 1000000 in
theorem apply3_kd (un : Int) (Ap : Option Addr) (np cp Bp : Nat) (pst : Int) (pk : ByteArray) (pkd : Int) (pda : List UInt8) (plo phi pva : Int) (Aq : Option Addr) (nq cq Bq : Nat) (qk : ByteArray) (qkd : Int) (qda : List UInt8) (qlo qhi qva : Int) (w : World) (hp : Bytes w Bp Ap np cp pda) (hBp : Bp ≤ w.heap.size) (hnp : np ≤ 140737488355328) (hq : Bytes w Bq Aq nq cq qda) (hBq : Bq ≤ w.heap.size) (hnq : nq ≤ 140737488355328) (hun : In64 un) (hqv : In64 qva) (hql : In64 qlo) (hqh : In64 qhi) (hr : ¬ qkd = 2) : Calls Try.prog 68 #[.agg #[.int .i64 3, .string qk, .int .i64 pst, .string pk, .int .i64 pkd, .slice Ap np cp, .int .i64 plo, .int .i64 phi, .int .i64 pva, .int .i64 un], .agg #[.int .i64 1, .string qk, .int .i64 qkd, .slice Aq nq cq, .int .i64 qlo, .int .i64 qhi, .int .i64 qva]] w (SlotGet.GotItem w (UndoP.apply ⟨3, qk, ⟨pst, pk, ⟨pkd, pda, plo, phi, pva⟩⟩, un⟩ ⟨1, qk, ⟨qkd, qda, qlo, qhi, qva⟩⟩)) := by
  rw [UndoP.apply_kind _ _ (by simp) ⟨rfl, rfl⟩ (fun h => hr h.1)]
  clear hp hq hun hqv hql hqh
  go_enter Try.func68, Try.ntmps68
  go_wp2_with fail
  all_goals exact bodyPost_ret (v := .tuple #[.agg #[.int .i64 0, .string ⟨#[]⟩, .int .i64 0, .slice none 0 0, .int .i64 0, .int .i64 0, .int .i64 0], .int .i64 6]) (by simp [results, Try.results68, go_sem, *]) rfl ⟨none, 0, 0, rfl, Bytes.none_ _ _, balloc (balloc (balloc (balloc (bsame w) _) _) _) _⟩

set_option maxRecDepth 100000 in
set_option maxHeartbeats 1000000 in
theorem apply3_bad (un : Int) (Ap : Option Addr) (np cp Bp : Nat) (pst : Int) (pk : ByteArray) (pkd : Int) (pda : List UInt8) (plo phi pva : Int) (Aq : Option Addr) (nq cq Bq : Nat) (qk : ByteArray) (qda : List UInt8) (qlo qhi qva : Int) (w : World) (hp : Bytes w Bp Ap np cp pda) (hBp : Bp ≤ w.heap.size) (hnp : np ≤ 140737488355328) (hq : Bytes w Bq Aq nq cq qda) (hBq : Bq ≤ w.heap.size) (hnq : nq ≤ 140737488355328) (hun : In64 un) (hqv : In64 qva) (hql : In64 qlo) (hqh : In64 qhi) (hr : CellP.right ⟨2, qda, qlo, qhi, qva⟩ = false) : Calls Try.prog 68 #[.agg #[.int .i64 3, .string qk, .int .i64 pst, .string pk, .int .i64 pkd, .slice Ap np cp, .int .i64 plo, .int .i64 phi, .int .i64 pva, .int .i64 un], .agg #[.int .i64 1, .string qk, .int .i64 2, .slice Aq nq cq, .int .i64 qlo, .int .i64 qhi, .int .i64 qva]] w (SlotGet.GotItem w (UndoP.apply ⟨3, qk, ⟨pst, pk, ⟨pkd, pda, plo, phi, pva⟩⟩, un⟩ ⟨1, qk, ⟨2, qda, qlo, qhi, qva⟩⟩)) := by
  rw [UndoP.apply_kind _ _ (by simp) ⟨rfl, rfl⟩ (fun h => by rw [hr] at h; simp at h)]
  have Hq := Lib.hid hq
  have hlq := hq.len
  have hcq := Nat.le_trans hq.2.1 hq.2.2.1
  obtain ⟨v1, v2⟩ := hqv
  obtain ⟨v3, v4⟩ := hun
  obtain ⟨v5, v6⟩ := hql
  obtain ⟨v7, v8⟩ := hqh
  have HRT : Hid (∀ W, Calls Try.prog 21 #[.agg #[.int .i64 2, .slice Aq nq cq, .int .i64 qlo, .int .i64 qhi, .int .i64 qva]] W fun e w' => e = .returned (.bool false) ∧ Below W.heap.size W w') := Lib.hid (fun W => by have h := CellW.right_any Aq nq cq ⟨2, qda, qlo, qhi, qva⟩ W hlq hcq; rw [hr] at h; exact h)
  clear hp hq hlq hcq hr
  go_enter Try.func68, Try.ntmps68
  go_wp2_with fail
  generalize hW0 : ((((w).alloc (.cells #[.int .i64 3, .string qk, .int .i64 pst, .string pk, .int .i64 pkd, .slice Ap np cp, .int .i64 plo, .int .i64 phi, .int .i64 pva, .int .i64 un] 79)).alloc (.cells #[.int .i64 1, .string qk, .int .i64 2, .slice Aq nq cq, .int .i64 qlo, .int .i64 qhi, .int .i64 qva] 38)).alloc (.cells #[.int .i64 0, .string ⟨#[]⟩, .int .i64 0, .slice none 0 0, .int .i64 0, .int .i64 0, .int .i64 0] 38)).alloc (.cells #[.int .i64 2, .slice Aq nq cq, .int .i64 qlo, .int .i64 qhi, .int .i64 qva] 24) = W0
  have HS0_0 : Hid (Str W0 (w.heap.size) #[.int .i64 3, .string qk, .int .i64 pst, .string pk, .int .i64 pkd, .slice Ap np cp, .int .i64 plo, .int .i64 phi, .int .i64 pva, .int .i64 un]) := Lib.hid (by rw [← hW0]; have := (((Str.new (w) #[.int .i64 3, .string qk, .int .i64 pst, .string pk, .int .i64 pkd, .slice Ap np cp, .int .i64 plo, .int .i64 phi, .int .i64 pva, .int .i64 un] 79).alloc (.cells #[.int .i64 1, .string qk, .int .i64 2, .slice Aq nq cq, .int .i64 qlo, .int .i64 qhi, .int .i64 qva] 38)).alloc (.cells #[.int .i64 0, .string ⟨#[]⟩, .int .i64 0, .slice none 0 0, .int .i64 0, .int .i64 0, .int .i64 0] 38)).alloc (.cells #[.int .i64 2, .slice Aq nq cq, .int .i64 qlo, .int .i64 qhi, .int .i64 qva] 24); simpa using this)
  have HS1_0 : Hid (Str W0 (w.heap.size + 1) #[.int .i64 1, .string qk, .int .i64 2, .slice Aq nq cq, .int .i64 qlo, .int .i64 qhi, .int .i64 qva]) := Lib.hid (by rw [← hW0]; have := ((Str.new ((w).alloc (.cells #[.int .i64 3, .string qk, .int .i64 pst, .string pk, .int .i64 pkd, .slice Ap np cp, .int .i64 plo, .int .i64 phi, .int .i64 pva, .int .i64 un] 79)) #[.int .i64 1, .string qk, .int .i64 2, .slice Aq nq cq, .int .i64 qlo, .int .i64 qhi, .int .i64 qva] 38).alloc (.cells #[.int .i64 0, .string ⟨#[]⟩, .int .i64 0, .slice none 0 0, .int .i64 0, .int .i64 0, .int .i64 0] 38)).alloc (.cells #[.int .i64 2, .slice Aq nq cq, .int .i64 qlo, .int .i64 qhi, .int .i64 qva] 24); simpa using this)
  have HS2_0 : Hid (Str W0 (w.heap.size + 1 + 1) #[.int .i64 0, .string ⟨#[]⟩, .int .i64 0, .slice none 0 0, .int .i64 0, .int .i64 0, .int .i64 0]) := Lib.hid (by rw [← hW0]; have := (Str.new (((w).alloc (.cells #[.int .i64 3, .string qk, .int .i64 pst, .string pk, .int .i64 pkd, .slice Ap np cp, .int .i64 plo, .int .i64 phi, .int .i64 pva, .int .i64 un] 79)).alloc (.cells #[.int .i64 1, .string qk, .int .i64 2, .slice Aq nq cq, .int .i64 qlo, .int .i64 qhi, .int .i64 qva] 38)) #[.int .i64 0, .string ⟨#[]⟩, .int .i64 0, .slice none 0 0, .int .i64 0, .int .i64 0, .int .i64 0] 38).alloc (.cells #[.int .i64 2, .slice Aq nq cq, .int .i64 qlo, .int .i64 qhi, .int .i64 qva] 24); simpa using this)
  have HS3_0 : Hid (Str W0 (w.heap.size + 1 + 1 + 1) #[.int .i64 2, .slice Aq nq cq, .int .i64 qlo, .int .i64 qhi, .int .i64 qva]) := Lib.hid (by rw [← hW0]; have := Str.new ((((w).alloc (.cells #[.int .i64 3, .string qk, .int .i64 pst, .string pk, .int .i64 pkd, .slice Ap np cp, .int .i64 plo, .int .i64 phi, .int .i64 pva, .int .i64 un] 79)).alloc (.cells #[.int .i64 1, .string qk, .int .i64 2, .slice Aq nq cq, .int .i64 qlo, .int .i64 qhi, .int .i64 qva] 38)).alloc (.cells #[.int .i64 0, .string ⟨#[]⟩, .int .i64 0, .slice none 0 0, .int .i64 0, .int .i64 0, .int .i64 0] 38)) #[.int .i64 2, .slice Aq nq cq, .int .i64 qlo, .int .i64 qhi, .int .i64 qva] 24; simpa using this)
  have HB_0 : Hid (Below w.heap.size w W0) := Lib.hid (by rw [← hW0]; exact balloc (balloc (balloc (balloc (bsame w) _) _) _) _)
  have hw_0 := HB_0.out.size
  clear hW0
  obtain ⟨f0_0_0, f0_0_1, f0_0_2, f0_0_3, f0_0_4, f0_0_5, f0_0_6, f0_0_7, f0_0_8, f0_0_9⟩ := str10 HS0_0.out
  have hl0_0 := HS0_0.out.lt
  obtain ⟨f1_0_0, f1_0_1, f1_0_2, f1_0_3, f1_0_4, f1_0_5, f1_0_6⟩ := str7 HS1_0.out
  have hl1_0 := HS1_0.out.lt
  have hf1_0 := fun j => HS1_0.out.frozen j
  obtain ⟨f2_0_0, f2_0_1, f2_0_2, f2_0_3, f2_0_4, f2_0_5, f2_0_6⟩ := str7 HS2_0.out
  have hl2_0 := HS2_0.out.lt
  have hf2_0 := fun j => HS2_0.out.frozen j
  obtain ⟨f3_0_0, f3_0_1, f3_0_2, f3_0_3, f3_0_4⟩ := str5 HS3_0.out
  have hl3_0 := HS3_0.out.lt
  have hf3_0 := fun j => HS3_0.out.frozen j
  refine (HRT.out _).mono ?_
  rintro e W1 ⟨rfl, hb1⟩
  have HS0_1 := Lib.hid (HS0_0.out.next hb1)
  have HS1_1 := Lib.hid (HS1_0.out.next hb1)
  have HS2_1 := Lib.hid (HS2_0.out.next hb1)
  have HS3_1 := Lib.hid (HS3_0.out.next hb1)
  have HB_1 := Lib.hid (bstep HB_0.out hb1)
  have hw_1 := HB_1.out.size
  have hws_1 := (hb1).size
  clear f0_0_0 f0_0_1 f0_0_2 f0_0_3 f0_0_4 f0_0_5 f0_0_6 f0_0_7 f0_0_8 f0_0_9 HS0_0 f1_0_0 f1_0_1 f1_0_2 f1_0_3 f1_0_4 f1_0_5 f1_0_6 HS1_0 hf1_0 f2_0_0 f2_0_1 f2_0_2 f2_0_3 f2_0_4 f2_0_5 f2_0_6 HS2_0 hf2_0 f3_0_0 f3_0_1 f3_0_2 f3_0_3 f3_0_4 HS3_0 hf3_0
  clear hb1
  obtain ⟨f0_1_0, f0_1_1, f0_1_2, f0_1_3, f0_1_4, f0_1_5, f0_1_6, f0_1_7, f0_1_8, f0_1_9⟩ := str10 HS0_1.out
  have hl0_1 := HS0_1.out.lt
  obtain ⟨f1_1_0, f1_1_1, f1_1_2, f1_1_3, f1_1_4, f1_1_5, f1_1_6⟩ := str7 HS1_1.out
  have hl1_1 := HS1_1.out.lt
  have hf1_1 := fun j => HS1_1.out.frozen j
  obtain ⟨f2_1_0, f2_1_1, f2_1_2, f2_1_3, f2_1_4, f2_1_5, f2_1_6⟩ := str7 HS2_1.out
  have hl2_1 := HS2_1.out.lt
  have hf2_1 := fun j => HS2_1.out.frozen j
  obtain ⟨f3_1_0, f3_1_1, f3_1_2, f3_1_3, f3_1_4⟩ := str5 HS3_1.out
  have hl3_1 := HS3_1.out.lt
  have hf3_1 := fun j => HS3_1.out.frozen j
  go_wp2_with fail
  generalize hW2 : (((((((W1).setCell ⟨w.heap.size + 1 + 1, 0, none⟩ (.int .i64 0)).setCell ⟨w.heap.size + 1 + 1, 1, none⟩ (.string ⟨#[]⟩)).setCell ⟨w.heap.size + 1 + 1, 2, none⟩ (.int .i64 0)).setCell ⟨w.heap.size + 1 + 1, 3, none⟩ (.slice none 0 0)).setCell ⟨w.heap.size + 1 + 1, 4, none⟩ (.int .i64 0)).setCell ⟨w.heap.size + 1 + 1, 5, none⟩ (.int .i64 0)).setCell ⟨w.heap.size + 1 + 1, 6, none⟩ (.int .i64 0) = W2
  have HS0_2 : Hid (Str W2 (w.heap.size) #[.int .i64 3, .string qk, .int .i64 pst, .string pk, .int .i64 pkd, .slice Ap np cp, .int .i64 plo, .int .i64 phi, .int .i64 pva, .int .i64 un]) := Lib.hid (by rw [← hW2]; exact (((((((HS0_1.out).other 0 _ (by omega)).other 1 _ (by omega)).other 2 _ (by omega)).other 3 _ (by omega)).other 4 _ (by omega)).other 5 _ (by omega)).other 6 _ (by omega))
  have HS1_2 : Hid (Str W2 (w.heap.size + 1) #[.int .i64 1, .string qk, .int .i64 2, .slice Aq nq cq, .int .i64 qlo, .int .i64 qhi, .int .i64 qva]) := Lib.hid (by rw [← hW2]; exact (((((((HS1_1.out).other 0 _ (by omega)).other 1 _ (by omega)).other 2 _ (by omega)).other 3 _ (by omega)).other 4 _ (by omega)).other 5 _ (by omega)).other 6 _ (by omega))
  have HS2_2 : Hid (Str W2 (w.heap.size + 1 + 1) #[.int .i64 0, .string ⟨#[]⟩, .int .i64 0, .slice none 0 0, .int .i64 0, .int .i64 0, .int .i64 0]) := Lib.hid (by rw [← hW2]; have := (((((((HS2_1.out).set 0 (.int .i64 0)).set 1 (.string ⟨#[]⟩)).set 2 (.int .i64 0)).set 3 (.slice none 0 0)).set 4 (.int .i64 0)).set 5 (.int .i64 0)).set 6 (.int .i64 0); simpa using this)
  have HS3_2 : Hid (Str W2 (w.heap.size + 1 + 1 + 1) #[.int .i64 2, .slice Aq nq cq, .int .i64 qlo, .int .i64 qhi, .int .i64 qva]) := Lib.hid (by rw [← hW2]; exact (((((((HS3_1.out).other 0 _ (by omega)).other 1 _ (by omega)).other 2 _ (by omega)).other 3 _ (by omega)).other 4 _ (by omega)).other 5 _ (by omega)).other 6 _ (by omega))
  have hgr2 : W1.grownBy W2 (some (w.heap.size + 1 + 1)) := by rw [← hW2]; exact grown_set (grown_set (grown_set (grown_set (grown_set (grown_set (grown_set (grown_refl W1 (w.heap.size + 1 + 1)) 0 (.int .i64 0)) 1 (.string ⟨#[]⟩)) 2 (.int .i64 0)) 3 (.slice none 0 0)) 4 (.int .i64 0)) 5 (.int .i64 0)) 6 (.int .i64 0)
  have HB_2 := Lib.hid (below_grown HB_1.out hgr2 (by omega))
  have hw_2 := HB_2.out.size
  have hws_2 := hgr2.size
  clear hW2
  clear f0_1_0 f0_1_1 f0_1_2 f0_1_3 f0_1_4 f0_1_5 f0_1_6 f0_1_7 f0_1_8 f0_1_9 HS0_1 f1_1_0 f1_1_1 f1_1_2 f1_1_3 f1_1_4 f1_1_5 f1_1_6 HS1_1 hf1_1 f2_1_0 f2_1_1 f2_1_2 f2_1_3 f2_1_4 f2_1_5 f2_1_6 HS2_1 hf2_1 f3_1_0 f3_1_1 f3_1_2 f3_1_3 f3_1_4 HS3_1 hf3_1
  clear hgr2
  obtain ⟨f0_2_0, f0_2_1, f0_2_2, f0_2_3, f0_2_4, f0_2_5, f0_2_6, f0_2_7, f0_2_8, f0_2_9⟩ := str10 HS0_2.out
  have hl0_2 := HS0_2.out.lt
  obtain ⟨f1_2_0, f1_2_1, f1_2_2, f1_2_3, f1_2_4, f1_2_5, f1_2_6⟩ := str7 HS1_2.out
  have hl1_2 := HS1_2.out.lt
  have hf1_2 := fun j => HS1_2.out.frozen j
  obtain ⟨f2_2_0, f2_2_1, f2_2_2, f2_2_3, f2_2_4, f2_2_5, f2_2_6⟩ := str7 HS2_2.out
  have hl2_2 := HS2_2.out.lt
  have hf2_2 := fun j => HS2_2.out.frozen j
  obtain ⟨f3_2_0, f3_2_1, f3_2_2, f3_2_3, f3_2_4⟩ := str5 HS3_2.out
  have hl3_2 := HS3_2.out.lt
  have hf3_2 := fun j => HS3_2.out.frozen j
  exact bodyPost_ret (v := .tuple #[.agg #[.int .i64 0, .string ⟨#[]⟩, .int .i64 0, .slice none 0 0, .int .i64 0, .int .i64 0, .int .i64 0], .int .i64 6]) (by simp [results, Try.results68, go_sem, *]) rfl ⟨none, 0, 0, rfl, Bytes.none_ _ _, HB_2.out⟩

set_option maxRecDepth 100000 in
set_option maxHeartbeats 1000000 in
theorem apply3_low (un : Int) (Ap : Option Addr) (np cp Bp : Nat) (pst : Int) (pk : ByteArray) (pkd : Int) (pda : List UInt8) (plo phi pva : Int) (Aq : Option Addr) (nq cq Bq : Nat) (qk : ByteArray) (qda : List UInt8) (qlo qhi qva : Int) (w : World) (hp : Bytes w Bp Ap np cp pda) (hBp : Bp ≤ w.heap.size) (hnp : np ≤ 140737488355328) (hq : Bytes w Bq Aq nq cq qda) (hBq : Bq ≤ w.heap.size) (hnq : nq ≤ 140737488355328) (hun : In64 un) (hqv : In64 qva) (hql : In64 qlo) (hqh : In64 qhi) (hr : CellP.right ⟨2, qda, qlo, qhi, qva⟩ = true) (ho : (qva - un) < qlo) : Calls Try.prog 68 #[.agg #[.int .i64 3, .string qk, .int .i64 pst, .string pk, .int .i64 pkd, .slice Ap np cp, .int .i64 plo, .int .i64 phi, .int .i64 pva, .int .i64 un], .agg #[.int .i64 1, .string qk, .int .i64 2, .slice Aq nq cq, .int .i64 qlo, .int .i64 qhi, .int .i64 qva]] w (SlotGet.GotItem w (UndoP.apply ⟨3, qk, ⟨pst, pk, ⟨pkd, pda, plo, phi, pva⟩⟩, un⟩ ⟨1, qk, ⟨2, qda, qlo, qhi, qva⟩⟩)) := by
  rw [UndoP.apply_out _ _ (by simp) ⟨rfl, rfl⟩ ⟨rfl, hr⟩ (by simp [UndoP.sum]; omega)]
  have HLO : Hid (decide ((qva - un) < qlo) = true) := Lib.hid (by simpa using ho)
  clear ho
  have Hq := Lib.hid hq
  have hlq := hq.len
  have hcq := Nat.le_trans hq.2.1 hq.2.2.1
  obtain ⟨v1, v2⟩ := hqv
  obtain ⟨v3, v4⟩ := hun
  obtain ⟨v5, v6⟩ := hql
  obtain ⟨v7, v8⟩ := hqh
  have HRT : Hid (∀ W, Calls Try.prog 21 #[.agg #[.int .i64 2, .slice Aq nq cq, .int .i64 qlo, .int .i64 qhi, .int .i64 qva]] W fun e w' => e = .returned (.bool true) ∧ Below W.heap.size W w') := Lib.hid (fun W => by have h := CellW.right_any Aq nq cq ⟨2, qda, qlo, qhi, qva⟩ W hlq hcq; rw [hr] at h; exact h)
  clear hp hq hlq hcq hr
  go_enter Try.func68, Try.ntmps68
  go_wp2_with fail
  generalize hW0 : ((((w).alloc (.cells #[.int .i64 3, .string qk, .int .i64 pst, .string pk, .int .i64 pkd, .slice Ap np cp, .int .i64 plo, .int .i64 phi, .int .i64 pva, .int .i64 un] 79)).alloc (.cells #[.int .i64 1, .string qk, .int .i64 2, .slice Aq nq cq, .int .i64 qlo, .int .i64 qhi, .int .i64 qva] 38)).alloc (.cells #[.int .i64 0, .string ⟨#[]⟩, .int .i64 0, .slice none 0 0, .int .i64 0, .int .i64 0, .int .i64 0] 38)).alloc (.cells #[.int .i64 2, .slice Aq nq cq, .int .i64 qlo, .int .i64 qhi, .int .i64 qva] 24) = W0
  have HS0_0 : Hid (Str W0 (w.heap.size) #[.int .i64 3, .string qk, .int .i64 pst, .string pk, .int .i64 pkd, .slice Ap np cp, .int .i64 plo, .int .i64 phi, .int .i64 pva, .int .i64 un]) := Lib.hid (by rw [← hW0]; have := (((Str.new (w) #[.int .i64 3, .string qk, .int .i64 pst, .string pk, .int .i64 pkd, .slice Ap np cp, .int .i64 plo, .int .i64 phi, .int .i64 pva, .int .i64 un] 79).alloc (.cells #[.int .i64 1, .string qk, .int .i64 2, .slice Aq nq cq, .int .i64 qlo, .int .i64 qhi, .int .i64 qva] 38)).alloc (.cells #[.int .i64 0, .string ⟨#[]⟩, .int .i64 0, .slice none 0 0, .int .i64 0, .int .i64 0, .int .i64 0] 38)).alloc (.cells #[.int .i64 2, .slice Aq nq cq, .int .i64 qlo, .int .i64 qhi, .int .i64 qva] 24); simpa using this)
  have HS1_0 : Hid (Str W0 (w.heap.size + 1) #[.int .i64 1, .string qk, .int .i64 2, .slice Aq nq cq, .int .i64 qlo, .int .i64 qhi, .int .i64 qva]) := Lib.hid (by rw [← hW0]; have := ((Str.new ((w).alloc (.cells #[.int .i64 3, .string qk, .int .i64 pst, .string pk, .int .i64 pkd, .slice Ap np cp, .int .i64 plo, .int .i64 phi, .int .i64 pva, .int .i64 un] 79)) #[.int .i64 1, .string qk, .int .i64 2, .slice Aq nq cq, .int .i64 qlo, .int .i64 qhi, .int .i64 qva] 38).alloc (.cells #[.int .i64 0, .string ⟨#[]⟩, .int .i64 0, .slice none 0 0, .int .i64 0, .int .i64 0, .int .i64 0] 38)).alloc (.cells #[.int .i64 2, .slice Aq nq cq, .int .i64 qlo, .int .i64 qhi, .int .i64 qva] 24); simpa using this)
  have HS2_0 : Hid (Str W0 (w.heap.size + 1 + 1) #[.int .i64 0, .string ⟨#[]⟩, .int .i64 0, .slice none 0 0, .int .i64 0, .int .i64 0, .int .i64 0]) := Lib.hid (by rw [← hW0]; have := (Str.new (((w).alloc (.cells #[.int .i64 3, .string qk, .int .i64 pst, .string pk, .int .i64 pkd, .slice Ap np cp, .int .i64 plo, .int .i64 phi, .int .i64 pva, .int .i64 un] 79)).alloc (.cells #[.int .i64 1, .string qk, .int .i64 2, .slice Aq nq cq, .int .i64 qlo, .int .i64 qhi, .int .i64 qva] 38)) #[.int .i64 0, .string ⟨#[]⟩, .int .i64 0, .slice none 0 0, .int .i64 0, .int .i64 0, .int .i64 0] 38).alloc (.cells #[.int .i64 2, .slice Aq nq cq, .int .i64 qlo, .int .i64 qhi, .int .i64 qva] 24); simpa using this)
  have HS3_0 : Hid (Str W0 (w.heap.size + 1 + 1 + 1) #[.int .i64 2, .slice Aq nq cq, .int .i64 qlo, .int .i64 qhi, .int .i64 qva]) := Lib.hid (by rw [← hW0]; have := Str.new ((((w).alloc (.cells #[.int .i64 3, .string qk, .int .i64 pst, .string pk, .int .i64 pkd, .slice Ap np cp, .int .i64 plo, .int .i64 phi, .int .i64 pva, .int .i64 un] 79)).alloc (.cells #[.int .i64 1, .string qk, .int .i64 2, .slice Aq nq cq, .int .i64 qlo, .int .i64 qhi, .int .i64 qva] 38)).alloc (.cells #[.int .i64 0, .string ⟨#[]⟩, .int .i64 0, .slice none 0 0, .int .i64 0, .int .i64 0, .int .i64 0] 38)) #[.int .i64 2, .slice Aq nq cq, .int .i64 qlo, .int .i64 qhi, .int .i64 qva] 24; simpa using this)
  have HB_0 : Hid (Below w.heap.size w W0) := Lib.hid (by rw [← hW0]; exact balloc (balloc (balloc (balloc (bsame w) _) _) _) _)
  have hw_0 := HB_0.out.size
  clear hW0
  obtain ⟨f0_0_0, f0_0_1, f0_0_2, f0_0_3, f0_0_4, f0_0_5, f0_0_6, f0_0_7, f0_0_8, f0_0_9⟩ := str10 HS0_0.out
  have hl0_0 := HS0_0.out.lt
  obtain ⟨f1_0_0, f1_0_1, f1_0_2, f1_0_3, f1_0_4, f1_0_5, f1_0_6⟩ := str7 HS1_0.out
  have hl1_0 := HS1_0.out.lt
  have hf1_0 := fun j => HS1_0.out.frozen j
  obtain ⟨f2_0_0, f2_0_1, f2_0_2, f2_0_3, f2_0_4, f2_0_5, f2_0_6⟩ := str7 HS2_0.out
  have hl2_0 := HS2_0.out.lt
  have hf2_0 := fun j => HS2_0.out.frozen j
  obtain ⟨f3_0_0, f3_0_1, f3_0_2, f3_0_3, f3_0_4⟩ := str5 HS3_0.out
  have hl3_0 := HS3_0.out.lt
  have hf3_0 := fun j => HS3_0.out.frozen j
  refine (HRT.out _).mono ?_
  rintro e W1 ⟨rfl, hb1⟩
  have HS0_1 := Lib.hid (HS0_0.out.next hb1)
  have HS1_1 := Lib.hid (HS1_0.out.next hb1)
  have HS2_1 := Lib.hid (HS2_0.out.next hb1)
  have HS3_1 := Lib.hid (HS3_0.out.next hb1)
  have HB_1 := Lib.hid (bstep HB_0.out hb1)
  have hw_1 := HB_1.out.size
  have hws_1 := (hb1).size
  clear f0_0_0 f0_0_1 f0_0_2 f0_0_3 f0_0_4 f0_0_5 f0_0_6 f0_0_7 f0_0_8 f0_0_9 HS0_0 f1_0_0 f1_0_1 f1_0_2 f1_0_3 f1_0_4 f1_0_5 f1_0_6 HS1_0 hf1_0 f2_0_0 f2_0_1 f2_0_2 f2_0_3 f2_0_4 f2_0_5 f2_0_6 HS2_0 hf2_0 f3_0_0 f3_0_1 f3_0_2 f3_0_3 f3_0_4 HS3_0 hf3_0
  clear hb1
  obtain ⟨f0_1_0, f0_1_1, f0_1_2, f0_1_3, f0_1_4, f0_1_5, f0_1_6, f0_1_7, f0_1_8, f0_1_9⟩ := str10 HS0_1.out
  have hl0_1 := HS0_1.out.lt
  obtain ⟨f1_1_0, f1_1_1, f1_1_2, f1_1_3, f1_1_4, f1_1_5, f1_1_6⟩ := str7 HS1_1.out
  have hl1_1 := HS1_1.out.lt
  have hf1_1 := fun j => HS1_1.out.frozen j
  obtain ⟨f2_1_0, f2_1_1, f2_1_2, f2_1_3, f2_1_4, f2_1_5, f2_1_6⟩ := str7 HS2_1.out
  have hl2_1 := HS2_1.out.lt
  have hf2_1 := fun j => HS2_1.out.frozen j
  obtain ⟨f3_1_0, f3_1_1, f3_1_2, f3_1_3, f3_1_4⟩ := str5 HS3_1.out
  have hl3_1 := HS3_1.out.lt
  have hf3_1 := fun j => HS3_1.out.frozen j
  go_wp2_with fail
  refine Reg.wp_region_tail (R := ext) (W := W1) [Reg.eqv (.pointer (some ⟨w.heap.size + 1 + 1 + 1, 4, none⟩)), Reg.eqv (.int .i64 qva), Reg.eqv (.agg #[.int .i64 (qva / 4294967296), .int .i64 (qva % 4294967296)]), Reg.eqv (.pointer (some ⟨w.heap.size, 9, none⟩)), Reg.eqv (.int .i64 un), Reg.eqv (.agg #[.int .i64 (un / 4294967296), .int .i64 (un % 4294967296)]), Reg.eqv (.agg #[.int .i64 ((qva + un) / 4294967296), .int .i64 ((qva + un) % 4294967296)]), Reg.fresh W1.heap.size #[.int .i64 0, .int .i64 0]] 83 8 _ [[(6, none)], [(44, some 0)], [(45, some 1)], [(2, none)], [(47, some 3)], [(48, some 4)], [(46, some 2), (49, some 5)], []] rfl (by kernel_rfl) (by kernel_rfl) (by rfl) (by rfl) rfl (by kernel_rfl) ?_ [some 44, some 45, some 46, some 47, some 48, some 49, some 50, some 7] (by kernel_rfl) ?_
  · refine ⟨?_, ?_, ?_, ?_, ?_, ?_, ?_, ?_, trivial⟩
    · intro ax wx hx hs
      obtain ⟨e6, -⟩ := hs
      have g6 := Reg.ev (v := .pointer (some ⟨w.heap.size + 1 + 1 + 1, 0, none⟩)) e6
      exact Reg.obl_free rfl (Reg.wp_eqv (Option.some_ne_none _) (by go_simp) rfl)
    · intro ax wx hx hs
      obtain ⟨e44, -⟩ := hs
      have g44 := Reg.ev (v := .pointer (some ⟨w.heap.size + 1 + 1 + 1, 4, none⟩)) e44
      obtain ⟨hc, -⟩ := bcell hx
      exact Reg.obl_free rfl (Reg.wp_eqv (Option.some_ne_none _) (by go_simp) rfl)
    · intro ax wx hx hs
      obtain ⟨e45, -⟩ := hs
      have g45 := Reg.ev (v := .int .i64 qva) e45
      refine Reg.obl_free rfl ?_
      go_simp
      refine (RefWide.of_any qva v1 v2 _).mono ?_
      rintro e wy ⟨rfl, hby⟩
      exact Reg.done (Option.some_ne_none _) rfl hby
    · intro ax wx hx hs
      obtain ⟨e2, -⟩ := hs
      have g2 := Reg.ev (v := .pointer (some ⟨w.heap.size, 0, none⟩)) e2
      exact Reg.obl_free rfl (Reg.wp_eqv (Option.some_ne_none _) (by go_simp) rfl)
    · intro ax wx hx hs
      obtain ⟨e47, -⟩ := hs
      have g47 := Reg.ev (v := .pointer (some ⟨w.heap.size, 9, none⟩)) e47
      obtain ⟨hc, -⟩ := bcell hx
      exact Reg.obl_free rfl (Reg.wp_eqv (Option.some_ne_none _) (by go_simp) rfl)
    · intro ax wx hx hs
      obtain ⟨e48, -⟩ := hs
      have g48 := Reg.ev (v := .int .i64 un) e48
      refine Reg.obl_free rfl ?_
      go_simp
      refine (RefWide.of_any un v3 v4 _).mono ?_
      rintro e wy ⟨rfl, hby⟩
      exact Reg.done (Option.some_ne_none _) rfl hby
    · intro ax wx hx hs
      obtain ⟨e46, e49, -⟩ := hs
      have g46 := Reg.ev (v := .agg #[.int .i64 (qva / 4294967296), .int .i64 (qva % 4294967296)]) e46
      have g49 := Reg.ev (v := .agg #[.int .i64 (un / 4294967296), .int .i64 (un % 4294967296)]) e49
      refine Reg.obl_free rfl ?_
      go_simp
      refine (RefWide.join_any qva un (by omega) (by omega) (by omega) (by omega) _).mono ?_
      rintro e wy ⟨rfl, hby⟩
      exact Reg.done (Option.some_ne_none _) rfl hby
    · intro ax wx hx hs
      refine Reg.obl_free rfl ?_
      have hx' : Below W1.heap.size W1 wx := hx
      go_simp
      exact Reg.done (Option.some_ne_none _) ⟨wx.heap.size, rfl, hx'.size, Str.new wx _ _⟩ (balloc (bsame wx) _)
  · intro W2 hwf
    simp only [Reg.Fin]
    rintro _ rfl _ rfl _ rfl _ rfl _ rfl _ rfl _ rfl v7 h7
    obtain ⟨g, rfl, hg, hSg⟩ := h7
    have hwf' : Below W1.heap.size W1 W2 := hwf
    clear hwf
    have HS0_2 := Lib.hid (HS0_1.out.next hwf')
    have HS1_2 := Lib.hid (HS1_1.out.next hwf')
    have HS2_2 := Lib.hid (HS2_1.out.next hwf')
    have HS3_2 := Lib.hid (HS3_1.out.next hwf')
    have HB_2 := Lib.hid (bstep HB_1.out hwf')
    have hw_2 := HB_2.out.size
    have hws_2 := (hwf').size
    clear f0_1_0 f0_1_1 f0_1_2 f0_1_3 f0_1_4 f0_1_5 f0_1_6 f0_1_7 f0_1_8 f0_1_9 HS0_1 f1_1_0 f1_1_1 f1_1_2 f1_1_3 f1_1_4 f1_1_5 f1_1_6 HS1_1 hf1_1 f2_1_0 f2_1_1 f2_1_2 f2_1_3 f2_1_4 f2_1_5 f2_1_6 HS2_1 hf2_1 f3_1_0 f3_1_1 f3_1_2 f3_1_3 f3_1_4 HS3_1 hf3_1
    clear hwf'
    obtain ⟨f0_2_0, f0_2_1, f0_2_2, f0_2_3, f0_2_4, f0_2_5, f0_2_6, f0_2_7, f0_2_8, f0_2_9⟩ := str10 HS0_2.out
    have hl0_2 := HS0_2.out.lt
    obtain ⟨f1_2_0, f1_2_1, f1_2_2, f1_2_3, f1_2_4, f1_2_5, f1_2_6⟩ := str7 HS1_2.out
    have hl1_2 := HS1_2.out.lt
    have hf1_2 := fun j => HS1_2.out.frozen j
    obtain ⟨f2_2_0, f2_2_1, f2_2_2, f2_2_3, f2_2_4, f2_2_5, f2_2_6⟩ := str7 HS2_2.out
    have hl2_2 := HS2_2.out.lt
    have hf2_2 := fun j => HS2_2.out.frozen j
    obtain ⟨f3_2_0, f3_2_1, f3_2_2, f3_2_3, f3_2_4⟩ := str5 HS3_2.out
    have hl3_2 := HS3_2.out.lt
    have hf3_2 := fun j => HS3_2.out.frozen j
    have HS4_2 := Lib.hid hSg
    clear hSg
    obtain ⟨f4_2_0, f4_2_1⟩ := str2 HS4_2.out
    have hl4_2 := HS4_2.out.lt
    have hf4_2 := fun j => HS4_2.out.frozen j
    refine Reg.Goal.mk ?_
    go_simp
    go_wp2_with fail
    generalize hW3 : ((W2).setCell ⟨g, 0, none⟩ (.int .i64 ((qva + un) / 4294967296))).setCell ⟨g, 1, none⟩ (.int .i64 ((qva + un) % 4294967296)) = W3
    have HS0_3 : Hid (Str W3 (w.heap.size) #[.int .i64 3, .string qk, .int .i64 pst, .string pk, .int .i64 pkd, .slice Ap np cp, .int .i64 plo, .int .i64 phi, .int .i64 pva, .int .i64 un]) := Lib.hid (by rw [← hW3]; exact ((HS0_2.out).other 0 _ (by omega)).other 1 _ (by omega))
    have HS1_3 : Hid (Str W3 (w.heap.size + 1) #[.int .i64 1, .string qk, .int .i64 2, .slice Aq nq cq, .int .i64 qlo, .int .i64 qhi, .int .i64 qva]) := Lib.hid (by rw [← hW3]; exact ((HS1_2.out).other 0 _ (by omega)).other 1 _ (by omega))
    have HS2_3 : Hid (Str W3 (w.heap.size + 1 + 1) #[.int .i64 0, .string ⟨#[]⟩, .int .i64 0, .slice none 0 0, .int .i64 0, .int .i64 0, .int .i64 0]) := Lib.hid (by rw [← hW3]; exact ((HS2_2.out).other 0 _ (by omega)).other 1 _ (by omega))
    have HS3_3 : Hid (Str W3 (w.heap.size + 1 + 1 + 1) #[.int .i64 2, .slice Aq nq cq, .int .i64 qlo, .int .i64 qhi, .int .i64 qva]) := Lib.hid (by rw [← hW3]; exact ((HS3_2.out).other 0 _ (by omega)).other 1 _ (by omega))
    have HS4_3 : Hid (Str W3 (g) #[.int .i64 ((qva + un) / 4294967296), .int .i64 ((qva + un) % 4294967296)]) := Lib.hid (by rw [← hW3]; have := ((HS4_2.out).set 0 (.int .i64 ((qva + un) / 4294967296))).set 1 (.int .i64 ((qva + un) % 4294967296)); simpa using this)
    have hgr3 : W2.grownBy W3 (some (g)) := by rw [← hW3]; exact grown_set (grown_set (grown_refl W2 (g)) 0 (.int .i64 ((qva + un) / 4294967296))) 1 (.int .i64 ((qva + un) % 4294967296))
    have HB_3 := Lib.hid (below_grown HB_2.out hgr3 (by omega))
    have hw_3 := HB_3.out.size
    have hws_3 := hgr3.size
    clear hW3
    clear f0_2_0 f0_2_1 f0_2_2 f0_2_3 f0_2_4 f0_2_5 f0_2_6 f0_2_7 f0_2_8 f0_2_9 HS0_2 f1_2_0 f1_2_1 f1_2_2 f1_2_3 f1_2_4 f1_2_5 f1_2_6 HS1_2 hf1_2 f2_2_0 f2_2_1 f2_2_2 f2_2_3 f2_2_4 f2_2_5 f2_2_6 HS2_2 hf2_2 f3_2_0 f3_2_1 f3_2_2 f3_2_3 f3_2_4 HS3_2 hf3_2 f4_2_0 f4_2_1 HS4_2 hf4_2
    clear hgr3
    obtain ⟨f0_3_0, f0_3_1, f0_3_2, f0_3_3, f0_3_4, f0_3_5, f0_3_6, f0_3_7, f0_3_8, f0_3_9⟩ := str10 HS0_3.out
    have hl0_3 := HS0_3.out.lt
    obtain ⟨f1_3_0, f1_3_1, f1_3_2, f1_3_3, f1_3_4, f1_3_5, f1_3_6⟩ := str7 HS1_3.out
    have hl1_3 := HS1_3.out.lt
    have hf1_3 := fun j => HS1_3.out.frozen j
    obtain ⟨f2_3_0, f2_3_1, f2_3_2, f2_3_3, f2_3_4, f2_3_5, f2_3_6⟩ := str7 HS2_3.out
    have hl2_3 := HS2_3.out.lt
    have hf2_3 := fun j => HS2_3.out.frozen j
    obtain ⟨f3_3_0, f3_3_1, f3_3_2, f3_3_3, f3_3_4⟩ := str5 HS3_3.out
    have hl3_3 := HS3_3.out.lt
    have hf3_3 := fun j => HS3_3.out.frozen j
    obtain ⟨f4_3_0, f4_3_1⟩ := str2 HS4_3.out
    have hl4_3 := HS4_3.out.lt
    have hf4_3 := fun j => HS4_3.out.frozen j
    refine Reg.wp_region_tail (R := ext) (W := W3) [Reg.eqv (.pointer (some ⟨w.heap.size + 1 + 1 + 1, 4, none⟩)), Reg.eqv (.int .i64 qva), Reg.eqv (.agg #[.int .i64 (qva / 4294967296), .int .i64 (qva % 4294967296)]), Reg.eqv (.pointer (some ⟨w.heap.size, 9, none⟩)), Reg.eqv (.int .i64 un), Reg.eqv (.agg #[.int .i64 (un / 4294967296), .int .i64 (un % 4294967296)]), Reg.eqv (.agg #[.int .i64 ((qva - un) / 4294967296), .int .i64 ((qva - un) % 4294967296)])] 83 7 _ [[(6, none)], [(54, some 0)], [(55, some 1)], [(2, none)], [(57, some 3)], [(58, some 4)], [(56, some 2), (59, some 5)]] rfl (by kernel_rfl) (by kernel_rfl) (by rfl) (by rfl) rfl (by kernel_rfl) ?_ [some 54, some 55, some 56, some 57, some 58, some 59, some 60] (by kernel_rfl) ?_
    · refine ⟨?_, ?_, ?_, ?_, ?_, ?_, ?_, trivial⟩
      · intro ax wx hx hs
        obtain ⟨e6, -⟩ := hs
        have g6 := Reg.ev (v := .pointer (some ⟨w.heap.size + 1 + 1 + 1, 0, none⟩)) e6
        exact Reg.obl_free rfl (Reg.wp_eqv (Option.some_ne_none _) (by go_simp) rfl)
      · intro ax wx hx hs
        obtain ⟨e54, -⟩ := hs
        have g54 := Reg.ev (v := .pointer (some ⟨w.heap.size + 1 + 1 + 1, 4, none⟩)) e54
        obtain ⟨hc, -⟩ := bcell hx
        exact Reg.obl_free rfl (Reg.wp_eqv (Option.some_ne_none _) (by go_simp) rfl)
      · intro ax wx hx hs
        obtain ⟨e55, -⟩ := hs
        have g55 := Reg.ev (v := .int .i64 qva) e55
        refine Reg.obl_free rfl ?_
        go_simp
        refine (RefWide.of_any qva v1 v2 _).mono ?_
        rintro e wy ⟨rfl, hby⟩
        exact Reg.done (Option.some_ne_none _) rfl hby
      · intro ax wx hx hs
        obtain ⟨e2, -⟩ := hs
        have g2 := Reg.ev (v := .pointer (some ⟨w.heap.size, 0, none⟩)) e2
        exact Reg.obl_free rfl (Reg.wp_eqv (Option.some_ne_none _) (by go_simp) rfl)
      · intro ax wx hx hs
        obtain ⟨e57, -⟩ := hs
        have g57 := Reg.ev (v := .pointer (some ⟨w.heap.size, 9, none⟩)) e57
        obtain ⟨hc, -⟩ := bcell hx
        exact Reg.obl_free rfl (Reg.wp_eqv (Option.some_ne_none _) (by go_simp) rfl)
      · intro ax wx hx hs
        obtain ⟨e58, -⟩ := hs
        have g58 := Reg.ev (v := .int .i64 un) e58
        refine Reg.obl_free rfl ?_
        go_simp
        refine (RefWide.of_any un v3 v4 _).mono ?_
        rintro e wy ⟨rfl, hby⟩
        exact Reg.done (Option.some_ne_none _) rfl hby
      · intro ax wx hx hs
        obtain ⟨e56, e59, -⟩ := hs
        have g56 := Reg.ev (v := .agg #[.int .i64 (qva / 4294967296), .int .i64 (qva % 4294967296)]) e56
        have g59 := Reg.ev (v := .agg #[.int .i64 (un / 4294967296), .int .i64 (un % 4294967296)]) e59
        refine Reg.obl_free rfl ?_
        go_simp
        refine (RefWide.take_any qva un (by omega) (by omega) (by omega) (by omega) _).mono ?_
        rintro e wy ⟨rfl, hby⟩
        exact Reg.done (Option.some_ne_none _) rfl hby
    · intro W4 hwf
      simp only [Reg.Fin]
      rintro _ rfl _ rfl _ rfl _ rfl _ rfl _ rfl _ rfl
      have hwf' : Below W3.heap.size W3 W4 := hwf
      clear hwf
      have HS0_4 := Lib.hid (HS0_3.out.next hwf')
      have HS1_4 := Lib.hid (HS1_3.out.next hwf')
      have HS2_4 := Lib.hid (HS2_3.out.next hwf')
      have HS3_4 := Lib.hid (HS3_3.out.next hwf')
      have HS4_4 := Lib.hid (HS4_3.out.next hwf')
      have HB_4 := Lib.hid (bstep HB_3.out hwf')
      have hw_4 := HB_4.out.size
      have hws_4 := (hwf').size
      clear f0_3_0 f0_3_1 f0_3_2 f0_3_3 f0_3_4 f0_3_5 f0_3_6 f0_3_7 f0_3_8 f0_3_9 HS0_3 f1_3_0 f1_3_1 f1_3_2 f1_3_3 f1_3_4 f1_3_5 f1_3_6 HS1_3 hf1_3 f2_3_0 f2_3_1 f2_3_2 f2_3_3 f2_3_4 f2_3_5 f2_3_6 HS2_3 hf2_3 f3_3_0 f3_3_1 f3_3_2 f3_3_3 f3_3_4 HS3_3 hf3_3 f4_3_0 f4_3_1 HS4_3 hf4_3
      clear hwf'
      obtain ⟨f0_4_0, f0_4_1, f0_4_2, f0_4_3, f0_4_4, f0_4_5, f0_4_6, f0_4_7, f0_4_8, f0_4_9⟩ := str10 HS0_4.out
      have hl0_4 := HS0_4.out.lt
      obtain ⟨f1_4_0, f1_4_1, f1_4_2, f1_4_3, f1_4_4, f1_4_5, f1_4_6⟩ := str7 HS1_4.out
      have hl1_4 := HS1_4.out.lt
      have hf1_4 := fun j => HS1_4.out.frozen j
      obtain ⟨f2_4_0, f2_4_1, f2_4_2, f2_4_3, f2_4_4, f2_4_5, f2_4_6⟩ := str7 HS2_4.out
      have hl2_4 := HS2_4.out.lt
      have hf2_4 := fun j => HS2_4.out.frozen j
      obtain ⟨f3_4_0, f3_4_1, f3_4_2, f3_4_3, f3_4_4⟩ := str5 HS3_4.out
      have hl3_4 := HS3_4.out.lt
      have hf3_4 := fun j => HS3_4.out.frozen j
      obtain ⟨f4_4_0, f4_4_1⟩ := str2 HS4_4.out
      have hl4_4 := HS4_4.out.lt
      have hf4_4 := fun j => HS4_4.out.frozen j
      refine Reg.Goal.mk ?_
      go_simp
      go_wp2_with fail
      generalize hW5 : ((W4).setCell ⟨g, 0, none⟩ (.int .i64 ((qva - un) / 4294967296))).setCell ⟨g, 1, none⟩ (.int .i64 ((qva - un) % 4294967296)) = W5
      have HS0_5 : Hid (Str W5 (w.heap.size) #[.int .i64 3, .string qk, .int .i64 pst, .string pk, .int .i64 pkd, .slice Ap np cp, .int .i64 plo, .int .i64 phi, .int .i64 pva, .int .i64 un]) := Lib.hid (by rw [← hW5]; exact ((HS0_4.out).other 0 _ (by omega)).other 1 _ (by omega))
      have HS1_5 : Hid (Str W5 (w.heap.size + 1) #[.int .i64 1, .string qk, .int .i64 2, .slice Aq nq cq, .int .i64 qlo, .int .i64 qhi, .int .i64 qva]) := Lib.hid (by rw [← hW5]; exact ((HS1_4.out).other 0 _ (by omega)).other 1 _ (by omega))
      have HS2_5 : Hid (Str W5 (w.heap.size + 1 + 1) #[.int .i64 0, .string ⟨#[]⟩, .int .i64 0, .slice none 0 0, .int .i64 0, .int .i64 0, .int .i64 0]) := Lib.hid (by rw [← hW5]; exact ((HS2_4.out).other 0 _ (by omega)).other 1 _ (by omega))
      have HS3_5 : Hid (Str W5 (w.heap.size + 1 + 1 + 1) #[.int .i64 2, .slice Aq nq cq, .int .i64 qlo, .int .i64 qhi, .int .i64 qva]) := Lib.hid (by rw [← hW5]; exact ((HS3_4.out).other 0 _ (by omega)).other 1 _ (by omega))
      have HS4_5 : Hid (Str W5 (g) #[.int .i64 ((qva - un) / 4294967296), .int .i64 ((qva - un) % 4294967296)]) := Lib.hid (by rw [← hW5]; have := ((HS4_4.out).set 0 (.int .i64 ((qva - un) / 4294967296))).set 1 (.int .i64 ((qva - un) % 4294967296)); simpa using this)
      have hgr5 : W4.grownBy W5 (some (g)) := by rw [← hW5]; exact grown_set (grown_set (grown_refl W4 (g)) 0 (.int .i64 ((qva - un) / 4294967296))) 1 (.int .i64 ((qva - un) % 4294967296))
      have HB_5 := Lib.hid (below_grown HB_4.out hgr5 (by omega))
      have hw_5 := HB_5.out.size
      have hws_5 := hgr5.size
      clear hW5
      clear f0_4_0 f0_4_1 f0_4_2 f0_4_3 f0_4_4 f0_4_5 f0_4_6 f0_4_7 f0_4_8 f0_4_9 HS0_4 f1_4_0 f1_4_1 f1_4_2 f1_4_3 f1_4_4 f1_4_5 f1_4_6 HS1_4 hf1_4 f2_4_0 f2_4_1 f2_4_2 f2_4_3 f2_4_4 f2_4_5 f2_4_6 HS2_4 hf2_4 f3_4_0 f3_4_1 f3_4_2 f3_4_3 f3_4_4 HS3_4 hf3_4 f4_4_0 f4_4_1 HS4_4 hf4_4
      clear hgr5
      obtain ⟨f0_5_0, f0_5_1, f0_5_2, f0_5_3, f0_5_4, f0_5_5, f0_5_6, f0_5_7, f0_5_8, f0_5_9⟩ := str10 HS0_5.out
      have hl0_5 := HS0_5.out.lt
      obtain ⟨f1_5_0, f1_5_1, f1_5_2, f1_5_3, f1_5_4, f1_5_5, f1_5_6⟩ := str7 HS1_5.out
      have hl1_5 := HS1_5.out.lt
      have hf1_5 := fun j => HS1_5.out.frozen j
      obtain ⟨f2_5_0, f2_5_1, f2_5_2, f2_5_3, f2_5_4, f2_5_5, f2_5_6⟩ := str7 HS2_5.out
      have hl2_5 := HS2_5.out.lt
      have hf2_5 := fun j => HS2_5.out.frozen j
      obtain ⟨f3_5_0, f3_5_1, f3_5_2, f3_5_3, f3_5_4⟩ := str5 HS3_5.out
      have hl3_5 := HS3_5.out.lt
      have hf3_5 := fun j => HS3_5.out.frozen j
      obtain ⟨f4_5_0, f4_5_1⟩ := str2 HS4_5.out
      have hl4_5 := HS4_5.out.lt
      have hf4_5 := fun j => HS4_5.out.frozen j
      refine Reg.wp_region_vals (R := ext) (W := W5) [Reg.eqv (.agg #[.int .i64 ((qva - un) / 4294967296), .int .i64 ((qva - un) % 4294967296)]), Reg.eqv (.pointer (some ⟨w.heap.size + 1 + 1 + 1, 2, none⟩)), Reg.eqv (.int .i64 qlo), Reg.eqv (.agg #[.int .i64 (qlo / 4294967296), .int .i64 (qlo % 4294967296)]), Reg.eqv (.bool true), Reg.eqv (.bool true), Reg.eqv undef, Reg.eqv undef, Reg.eqv undef, Reg.eqv undef, Reg.eqv undef, Reg.eqv (.bool true)] 83 [[(7, none)], [(6, none)], [(62, some 1)], [(63, some 2)], [(61, some 0), (64, some 3)], [(65, some 4)], [(6, none), (66, some 5)], [(67, some 6), (66, some 5)], [(68, some 7), (66, some 5)], [(7, none), (66, some 5)], [(69, some 8), (70, some 9), (66, some 5)], [(66, some 5), (71, some 10)]] rfl (by kernel_rfl) (by kernel_rfl) (by kernel_rfl) ?_ [some 61, some 62, some 63, some 64, some 65, some 66, some 67, some 68, some 69, some 70, some 71, some 72] (by kernel_rfl) ?_
      · refine ⟨?_, ?_, ?_, ?_, ?_, ?_, ?_, ?_, ?_, ?_, ?_, ?_, trivial⟩
        · intro ax wx hx hs
          obtain ⟨e7, -⟩ := hs
          have g7 := Reg.ev (v := .pointer (some ⟨g, 0, none⟩)) e7
          obtain ⟨hc, -⟩ := bcell hx
          exact Reg.obl_free rfl (Reg.wp_eqv (Option.some_ne_none _) (by go_simp) rfl)
        · intro ax wx hx hs
          obtain ⟨e6, -⟩ := hs
          have g6 := Reg.ev (v := .pointer (some ⟨w.heap.size + 1 + 1 + 1, 0, none⟩)) e6
          exact Reg.obl_free rfl (Reg.wp_eqv (Option.some_ne_none _) (by go_simp) rfl)
        · intro ax wx hx hs
          obtain ⟨e62, -⟩ := hs
          have g62 := Reg.ev (v := .pointer (some ⟨w.heap.size + 1 + 1 + 1, 2, none⟩)) e62
          obtain ⟨hc, -⟩ := bcell hx
          exact Reg.obl_free rfl (Reg.wp_eqv (Option.some_ne_none _) (by go_simp) rfl)
        · intro ax wx hx hs
          obtain ⟨e63, -⟩ := hs
          have g63 := Reg.ev (v := .int .i64 qlo) e63
          refine Reg.obl_free rfl ?_
          go_simp
          refine (RefWide.of_any qlo v5 v6 _).mono ?_
          rintro e wy ⟨rfl, hby⟩
          exact Reg.done (Option.some_ne_none _) rfl hby
        · intro ax wx hx hs
          obtain ⟨e61, e64, -⟩ := hs
          have g61 := Reg.ev (v := .agg #[.int .i64 ((qva - un) / 4294967296), .int .i64 ((qva - un) % 4294967296)]) e61
          have g64 := Reg.ev (v := .agg #[.int .i64 (qlo / 4294967296), .int .i64 (qlo % 4294967296)]) e64
          refine Reg.obl_free rfl ?_
          go_simp
          refine (RefWide.less_any (qva - un) qlo _).mono ?_
          rintro e wy ⟨rfl, hby⟩
          rw [HLO.out]
          exact Reg.done (Option.some_ne_none _) rfl hby
        · intro ax wx hx hs
          obtain ⟨e65, -⟩ := hs
          have g65 := Reg.ev (v := .bool true) e65
          exact Reg.obl_free rfl (Reg.wp_eqv (Option.some_ne_none _) (by go_simp) rfl)
        · intro ax wx hx hs
          obtain ⟨e6, e66, -⟩ := hs
          have g6 := Reg.ev (v := .pointer (some ⟨w.heap.size + 1 + 1 + 1, 0, none⟩)) e6
          have g66 := Reg.ev (v := .bool true) e66
          exact Reg.obl_skip rfl rfl e66 rfl rfl
        · intro ax wx hx hs
          obtain ⟨e67, e66, -⟩ := hs
          have g67 := Reg.ev (v := undef) e67
          have g66 := Reg.ev (v := .bool true) e66
          exact Reg.obl_skip rfl rfl e66 rfl rfl
        · intro ax wx hx hs
          obtain ⟨e68, e66, -⟩ := hs
          have g68 := Reg.ev (v := undef) e68
          have g66 := Reg.ev (v := .bool true) e66
          exact Reg.obl_skip rfl rfl e66 rfl rfl
        · intro ax wx hx hs
          obtain ⟨e7, e66, -⟩ := hs
          have g7 := Reg.ev (v := .pointer (some ⟨g, 0, none⟩)) e7
          have g66 := Reg.ev (v := .bool true) e66
          exact Reg.obl_skip rfl rfl e66 rfl rfl
        · intro ax wx hx hs
          obtain ⟨e69, e70, e66, -⟩ := hs
          have g69 := Reg.ev (v := undef) e69
          have g70 := Reg.ev (v := undef) e70
          have g66 := Reg.ev (v := .bool true) e66
          exact Reg.obl_skip rfl rfl e66 rfl rfl
        · intro ax wx hx hs
          obtain ⟨e66, e71, -⟩ := hs
          have g66 := Reg.ev (v := .bool true) e66
          have g71 := Reg.ev (v := undef) e71
          exact Reg.obl_free rfl (Reg.wp_eqv (Option.some_ne_none _) (by go_simp) rfl)
      · intro W6 hwf
        simp only [Reg.Fin]
        rintro _ rfl _ rfl _ rfl _ rfl _ rfl _ rfl _ rfl _ rfl _ rfl _ rfl _ rfl _ rfl
        go_simp
        have HS0_6 := Lib.hid (HS0_5.out.next hwf)
        have HS1_6 := Lib.hid (HS1_5.out.next hwf)
        have HS2_6 := Lib.hid (HS2_5.out.next hwf)
        have HS3_6 := Lib.hid (HS3_5.out.next hwf)
        have HS4_6 := Lib.hid (HS4_5.out.next hwf)
        have HB_6 := Lib.hid (bstep HB_5.out hwf)
        have hw_6 := HB_6.out.size
        have hws_6 := (hwf).size
        clear f0_5_0 f0_5_1 f0_5_2 f0_5_3 f0_5_4 f0_5_5 f0_5_6 f0_5_7 f0_5_8 f0_5_9 HS0_5 f1_5_0 f1_5_1 f1_5_2 f1_5_3 f1_5_4 f1_5_5 f1_5_6 HS1_5 hf1_5 f2_5_0 f2_5_1 f2_5_2 f2_5_3 f2_5_4 f2_5_5 f2_5_6 HS2_5 hf2_5 f3_5_0 f3_5_1 f3_5_2 f3_5_3 f3_5_4 HS3_5 hf3_5 f4_5_0 f4_5_1 HS4_5 hf4_5
        clear hwf
        obtain ⟨f0_6_0, f0_6_1, f0_6_2, f0_6_3, f0_6_4, f0_6_5, f0_6_6, f0_6_7, f0_6_8, f0_6_9⟩ := str10 HS0_6.out
        have hl0_6 := HS0_6.out.lt
        obtain ⟨f1_6_0, f1_6_1, f1_6_2, f1_6_3, f1_6_4, f1_6_5, f1_6_6⟩ := str7 HS1_6.out
        have hl1_6 := HS1_6.out.lt
        have hf1_6 := fun j => HS1_6.out.frozen j
        obtain ⟨f2_6_0, f2_6_1, f2_6_2, f2_6_3, f2_6_4, f2_6_5, f2_6_6⟩ := str7 HS2_6.out
        have hl2_6 := HS2_6.out.lt
        have hf2_6 := fun j => HS2_6.out.frozen j
        obtain ⟨f3_6_0, f3_6_1, f3_6_2, f3_6_3, f3_6_4⟩ := str5 HS3_6.out
        have hl3_6 := HS3_6.out.lt
        have hf3_6 := fun j => HS3_6.out.frozen j
        obtain ⟨f4_6_0, f4_6_1⟩ := str2 HS4_6.out
        have hl4_6 := HS4_6.out.lt
        have hf4_6 := fun j => HS4_6.out.frozen j
        go_wp2_with fail
        generalize hW7 : (((((((W6).setCell ⟨w.heap.size + 1 + 1, 0, none⟩ (.int .i64 0)).setCell ⟨w.heap.size + 1 + 1, 1, none⟩ (.string ⟨#[]⟩)).setCell ⟨w.heap.size + 1 + 1, 2, none⟩ (.int .i64 0)).setCell ⟨w.heap.size + 1 + 1, 3, none⟩ (.slice none 0 0)).setCell ⟨w.heap.size + 1 + 1, 4, none⟩ (.int .i64 0)).setCell ⟨w.heap.size + 1 + 1, 5, none⟩ (.int .i64 0)).setCell ⟨w.heap.size + 1 + 1, 6, none⟩ (.int .i64 0) = W7
        have HS0_7 : Hid (Str W7 (w.heap.size) #[.int .i64 3, .string qk, .int .i64 pst, .string pk, .int .i64 pkd, .slice Ap np cp, .int .i64 plo, .int .i64 phi, .int .i64 pva, .int .i64 un]) := Lib.hid (by rw [← hW7]; exact (((((((HS0_6.out).other 0 _ (by omega)).other 1 _ (by omega)).other 2 _ (by omega)).other 3 _ (by omega)).other 4 _ (by omega)).other 5 _ (by omega)).other 6 _ (by omega))
        have HS1_7 : Hid (Str W7 (w.heap.size + 1) #[.int .i64 1, .string qk, .int .i64 2, .slice Aq nq cq, .int .i64 qlo, .int .i64 qhi, .int .i64 qva]) := Lib.hid (by rw [← hW7]; exact (((((((HS1_6.out).other 0 _ (by omega)).other 1 _ (by omega)).other 2 _ (by omega)).other 3 _ (by omega)).other 4 _ (by omega)).other 5 _ (by omega)).other 6 _ (by omega))
        have HS2_7 : Hid (Str W7 (w.heap.size + 1 + 1) #[.int .i64 0, .string ⟨#[]⟩, .int .i64 0, .slice none 0 0, .int .i64 0, .int .i64 0, .int .i64 0]) := Lib.hid (by rw [← hW7]; have := (((((((HS2_6.out).set 0 (.int .i64 0)).set 1 (.string ⟨#[]⟩)).set 2 (.int .i64 0)).set 3 (.slice none 0 0)).set 4 (.int .i64 0)).set 5 (.int .i64 0)).set 6 (.int .i64 0); simpa using this)
        have HS3_7 : Hid (Str W7 (w.heap.size + 1 + 1 + 1) #[.int .i64 2, .slice Aq nq cq, .int .i64 qlo, .int .i64 qhi, .int .i64 qva]) := Lib.hid (by rw [← hW7]; exact (((((((HS3_6.out).other 0 _ (by omega)).other 1 _ (by omega)).other 2 _ (by omega)).other 3 _ (by omega)).other 4 _ (by omega)).other 5 _ (by omega)).other 6 _ (by omega))
        have HS4_7 : Hid (Str W7 (g) #[.int .i64 ((qva - un) / 4294967296), .int .i64 ((qva - un) % 4294967296)]) := Lib.hid (by rw [← hW7]; exact (((((((HS4_6.out).other 0 _ (by omega)).other 1 _ (by omega)).other 2 _ (by omega)).other 3 _ (by omega)).other 4 _ (by omega)).other 5 _ (by omega)).other 6 _ (by omega))
        have hgr7 : W6.grownBy W7 (some (w.heap.size + 1 + 1)) := by rw [← hW7]; exact grown_set (grown_set (grown_set (grown_set (grown_set (grown_set (grown_set (grown_refl W6 (w.heap.size + 1 + 1)) 0 (.int .i64 0)) 1 (.string ⟨#[]⟩)) 2 (.int .i64 0)) 3 (.slice none 0 0)) 4 (.int .i64 0)) 5 (.int .i64 0)) 6 (.int .i64 0)
        have HB_7 := Lib.hid (below_grown HB_6.out hgr7 (by omega))
        have hw_7 := HB_7.out.size
        have hws_7 := hgr7.size
        clear hW7
        clear f0_6_0 f0_6_1 f0_6_2 f0_6_3 f0_6_4 f0_6_5 f0_6_6 f0_6_7 f0_6_8 f0_6_9 HS0_6 f1_6_0 f1_6_1 f1_6_2 f1_6_3 f1_6_4 f1_6_5 f1_6_6 HS1_6 hf1_6 f2_6_0 f2_6_1 f2_6_2 f2_6_3 f2_6_4 f2_6_5 f2_6_6 HS2_6 hf2_6 f3_6_0 f3_6_1 f3_6_2 f3_6_3 f3_6_4 HS3_6 hf3_6 f4_6_0 f4_6_1 HS4_6 hf4_6
        clear hgr7
        obtain ⟨f0_7_0, f0_7_1, f0_7_2, f0_7_3, f0_7_4, f0_7_5, f0_7_6, f0_7_7, f0_7_8, f0_7_9⟩ := str10 HS0_7.out
        have hl0_7 := HS0_7.out.lt
        obtain ⟨f1_7_0, f1_7_1, f1_7_2, f1_7_3, f1_7_4, f1_7_5, f1_7_6⟩ := str7 HS1_7.out
        have hl1_7 := HS1_7.out.lt
        have hf1_7 := fun j => HS1_7.out.frozen j
        obtain ⟨f2_7_0, f2_7_1, f2_7_2, f2_7_3, f2_7_4, f2_7_5, f2_7_6⟩ := str7 HS2_7.out
        have hl2_7 := HS2_7.out.lt
        have hf2_7 := fun j => HS2_7.out.frozen j
        obtain ⟨f3_7_0, f3_7_1, f3_7_2, f3_7_3, f3_7_4⟩ := str5 HS3_7.out
        have hl3_7 := HS3_7.out.lt
        have hf3_7 := fun j => HS3_7.out.frozen j
        obtain ⟨f4_7_0, f4_7_1⟩ := str2 HS4_7.out
        have hl4_7 := HS4_7.out.lt
        have hf4_7 := fun j => HS4_7.out.frozen j
        exact bodyPost_ret (v := .tuple #[.agg #[.int .i64 0, .string ⟨#[]⟩, .int .i64 0, .slice none 0 0, .int .i64 0, .int .i64 0, .int .i64 0], .int .i64 8]) (by simp [results, Try.results68, go_sem, *]) rfl ⟨none, 0, 0, rfl, Bytes.none_ _ _, HB_7.out⟩

set_option maxRecDepth 100000 in
set_option maxHeartbeats 1000000 in
theorem apply3_high (un : Int) (Ap : Option Addr) (np cp Bp : Nat) (pst : Int) (pk : ByteArray) (pkd : Int) (pda : List UInt8) (plo phi pva : Int) (Aq : Option Addr) (nq cq Bq : Nat) (qk : ByteArray) (qda : List UInt8) (qlo qhi qva : Int) (w : World) (hp : Bytes w Bp Ap np cp pda) (hBp : Bp ≤ w.heap.size) (hnp : np ≤ 140737488355328) (hq : Bytes w Bq Aq nq cq qda) (hBq : Bq ≤ w.heap.size) (hnq : nq ≤ 140737488355328) (hun : In64 un) (hqv : In64 qva) (hql : In64 qlo) (hqh : In64 qhi) (hr : CellP.right ⟨2, qda, qlo, qhi, qva⟩ = true) (hl : ¬ (qva - un) < qlo) (ho : qhi < (qva - un)) : Calls Try.prog 68 #[.agg #[.int .i64 3, .string qk, .int .i64 pst, .string pk, .int .i64 pkd, .slice Ap np cp, .int .i64 plo, .int .i64 phi, .int .i64 pva, .int .i64 un], .agg #[.int .i64 1, .string qk, .int .i64 2, .slice Aq nq cq, .int .i64 qlo, .int .i64 qhi, .int .i64 qva]] w (SlotGet.GotItem w (UndoP.apply ⟨3, qk, ⟨pst, pk, ⟨pkd, pda, plo, phi, pva⟩⟩, un⟩ ⟨1, qk, ⟨2, qda, qlo, qhi, qva⟩⟩)) := by
  rw [UndoP.apply_out _ _ (by simp) ⟨rfl, rfl⟩ ⟨rfl, hr⟩ (by simp [UndoP.sum]; omega)]
  have HLO : Hid (decide ((qva - un) < qlo) = false) := Lib.hid (by simpa using hl)
  have HHI : Hid (decide (qhi < (qva - un)) = true) := Lib.hid (by simpa using ho)
  clear ho hl
  have Hq := Lib.hid hq
  have hlq := hq.len
  have hcq := Nat.le_trans hq.2.1 hq.2.2.1
  obtain ⟨v1, v2⟩ := hqv
  obtain ⟨v3, v4⟩ := hun
  obtain ⟨v5, v6⟩ := hql
  obtain ⟨v7, v8⟩ := hqh
  have HRT : Hid (∀ W, Calls Try.prog 21 #[.agg #[.int .i64 2, .slice Aq nq cq, .int .i64 qlo, .int .i64 qhi, .int .i64 qva]] W fun e w' => e = .returned (.bool true) ∧ Below W.heap.size W w') := Lib.hid (fun W => by have h := CellW.right_any Aq nq cq ⟨2, qda, qlo, qhi, qva⟩ W hlq hcq; rw [hr] at h; exact h)
  clear hp hq hlq hcq hr
  go_enter Try.func68, Try.ntmps68
  go_wp2_with fail
  generalize hW0 : ((((w).alloc (.cells #[.int .i64 3, .string qk, .int .i64 pst, .string pk, .int .i64 pkd, .slice Ap np cp, .int .i64 plo, .int .i64 phi, .int .i64 pva, .int .i64 un] 79)).alloc (.cells #[.int .i64 1, .string qk, .int .i64 2, .slice Aq nq cq, .int .i64 qlo, .int .i64 qhi, .int .i64 qva] 38)).alloc (.cells #[.int .i64 0, .string ⟨#[]⟩, .int .i64 0, .slice none 0 0, .int .i64 0, .int .i64 0, .int .i64 0] 38)).alloc (.cells #[.int .i64 2, .slice Aq nq cq, .int .i64 qlo, .int .i64 qhi, .int .i64 qva] 24) = W0
  have HS0_0 : Hid (Str W0 (w.heap.size) #[.int .i64 3, .string qk, .int .i64 pst, .string pk, .int .i64 pkd, .slice Ap np cp, .int .i64 plo, .int .i64 phi, .int .i64 pva, .int .i64 un]) := Lib.hid (by rw [← hW0]; have := (((Str.new (w) #[.int .i64 3, .string qk, .int .i64 pst, .string pk, .int .i64 pkd, .slice Ap np cp, .int .i64 plo, .int .i64 phi, .int .i64 pva, .int .i64 un] 79).alloc (.cells #[.int .i64 1, .string qk, .int .i64 2, .slice Aq nq cq, .int .i64 qlo, .int .i64 qhi, .int .i64 qva] 38)).alloc (.cells #[.int .i64 0, .string ⟨#[]⟩, .int .i64 0, .slice none 0 0, .int .i64 0, .int .i64 0, .int .i64 0] 38)).alloc (.cells #[.int .i64 2, .slice Aq nq cq, .int .i64 qlo, .int .i64 qhi, .int .i64 qva] 24); simpa using this)
  have HS1_0 : Hid (Str W0 (w.heap.size + 1) #[.int .i64 1, .string qk, .int .i64 2, .slice Aq nq cq, .int .i64 qlo, .int .i64 qhi, .int .i64 qva]) := Lib.hid (by rw [← hW0]; have := ((Str.new ((w).alloc (.cells #[.int .i64 3, .string qk, .int .i64 pst, .string pk, .int .i64 pkd, .slice Ap np cp, .int .i64 plo, .int .i64 phi, .int .i64 pva, .int .i64 un] 79)) #[.int .i64 1, .string qk, .int .i64 2, .slice Aq nq cq, .int .i64 qlo, .int .i64 qhi, .int .i64 qva] 38).alloc (.cells #[.int .i64 0, .string ⟨#[]⟩, .int .i64 0, .slice none 0 0, .int .i64 0, .int .i64 0, .int .i64 0] 38)).alloc (.cells #[.int .i64 2, .slice Aq nq cq, .int .i64 qlo, .int .i64 qhi, .int .i64 qva] 24); simpa using this)
  have HS2_0 : Hid (Str W0 (w.heap.size + 1 + 1) #[.int .i64 0, .string ⟨#[]⟩, .int .i64 0, .slice none 0 0, .int .i64 0, .int .i64 0, .int .i64 0]) := Lib.hid (by rw [← hW0]; have := (Str.new (((w).alloc (.cells #[.int .i64 3, .string qk, .int .i64 pst, .string pk, .int .i64 pkd, .slice Ap np cp, .int .i64 plo, .int .i64 phi, .int .i64 pva, .int .i64 un] 79)).alloc (.cells #[.int .i64 1, .string qk, .int .i64 2, .slice Aq nq cq, .int .i64 qlo, .int .i64 qhi, .int .i64 qva] 38)) #[.int .i64 0, .string ⟨#[]⟩, .int .i64 0, .slice none 0 0, .int .i64 0, .int .i64 0, .int .i64 0] 38).alloc (.cells #[.int .i64 2, .slice Aq nq cq, .int .i64 qlo, .int .i64 qhi, .int .i64 qva] 24); simpa using this)
  have HS3_0 : Hid (Str W0 (w.heap.size + 1 + 1 + 1) #[.int .i64 2, .slice Aq nq cq, .int .i64 qlo, .int .i64 qhi, .int .i64 qva]) := Lib.hid (by rw [← hW0]; have := Str.new ((((w).alloc (.cells #[.int .i64 3, .string qk, .int .i64 pst, .string pk, .int .i64 pkd, .slice Ap np cp, .int .i64 plo, .int .i64 phi, .int .i64 pva, .int .i64 un] 79)).alloc (.cells #[.int .i64 1, .string qk, .int .i64 2, .slice Aq nq cq, .int .i64 qlo, .int .i64 qhi, .int .i64 qva] 38)).alloc (.cells #[.int .i64 0, .string ⟨#[]⟩, .int .i64 0, .slice none 0 0, .int .i64 0, .int .i64 0, .int .i64 0] 38)) #[.int .i64 2, .slice Aq nq cq, .int .i64 qlo, .int .i64 qhi, .int .i64 qva] 24; simpa using this)
  have HB_0 : Hid (Below w.heap.size w W0) := Lib.hid (by rw [← hW0]; exact balloc (balloc (balloc (balloc (bsame w) _) _) _) _)
  have hw_0 := HB_0.out.size
  clear hW0
  obtain ⟨f0_0_0, f0_0_1, f0_0_2, f0_0_3, f0_0_4, f0_0_5, f0_0_6, f0_0_7, f0_0_8, f0_0_9⟩ := str10 HS0_0.out
  have hl0_0 := HS0_0.out.lt
  obtain ⟨f1_0_0, f1_0_1, f1_0_2, f1_0_3, f1_0_4, f1_0_5, f1_0_6⟩ := str7 HS1_0.out
  have hl1_0 := HS1_0.out.lt
  have hf1_0 := fun j => HS1_0.out.frozen j
  obtain ⟨f2_0_0, f2_0_1, f2_0_2, f2_0_3, f2_0_4, f2_0_5, f2_0_6⟩ := str7 HS2_0.out
  have hl2_0 := HS2_0.out.lt
  have hf2_0 := fun j => HS2_0.out.frozen j
  obtain ⟨f3_0_0, f3_0_1, f3_0_2, f3_0_3, f3_0_4⟩ := str5 HS3_0.out
  have hl3_0 := HS3_0.out.lt
  have hf3_0 := fun j => HS3_0.out.frozen j
  refine (HRT.out _).mono ?_
  rintro e W1 ⟨rfl, hb1⟩
  have HS0_1 := Lib.hid (HS0_0.out.next hb1)
  have HS1_1 := Lib.hid (HS1_0.out.next hb1)
  have HS2_1 := Lib.hid (HS2_0.out.next hb1)
  have HS3_1 := Lib.hid (HS3_0.out.next hb1)
  have HB_1 := Lib.hid (bstep HB_0.out hb1)
  have hw_1 := HB_1.out.size
  have hws_1 := (hb1).size
  clear f0_0_0 f0_0_1 f0_0_2 f0_0_3 f0_0_4 f0_0_5 f0_0_6 f0_0_7 f0_0_8 f0_0_9 HS0_0 f1_0_0 f1_0_1 f1_0_2 f1_0_3 f1_0_4 f1_0_5 f1_0_6 HS1_0 hf1_0 f2_0_0 f2_0_1 f2_0_2 f2_0_3 f2_0_4 f2_0_5 f2_0_6 HS2_0 hf2_0 f3_0_0 f3_0_1 f3_0_2 f3_0_3 f3_0_4 HS3_0 hf3_0
  clear hb1
  obtain ⟨f0_1_0, f0_1_1, f0_1_2, f0_1_3, f0_1_4, f0_1_5, f0_1_6, f0_1_7, f0_1_8, f0_1_9⟩ := str10 HS0_1.out
  have hl0_1 := HS0_1.out.lt
  obtain ⟨f1_1_0, f1_1_1, f1_1_2, f1_1_3, f1_1_4, f1_1_5, f1_1_6⟩ := str7 HS1_1.out
  have hl1_1 := HS1_1.out.lt
  have hf1_1 := fun j => HS1_1.out.frozen j
  obtain ⟨f2_1_0, f2_1_1, f2_1_2, f2_1_3, f2_1_4, f2_1_5, f2_1_6⟩ := str7 HS2_1.out
  have hl2_1 := HS2_1.out.lt
  have hf2_1 := fun j => HS2_1.out.frozen j
  obtain ⟨f3_1_0, f3_1_1, f3_1_2, f3_1_3, f3_1_4⟩ := str5 HS3_1.out
  have hl3_1 := HS3_1.out.lt
  have hf3_1 := fun j => HS3_1.out.frozen j
  go_wp2_with fail
  refine Reg.wp_region_tail (R := ext) (W := W1) [Reg.eqv (.pointer (some ⟨w.heap.size + 1 + 1 + 1, 4, none⟩)), Reg.eqv (.int .i64 qva), Reg.eqv (.agg #[.int .i64 (qva / 4294967296), .int .i64 (qva % 4294967296)]), Reg.eqv (.pointer (some ⟨w.heap.size, 9, none⟩)), Reg.eqv (.int .i64 un), Reg.eqv (.agg #[.int .i64 (un / 4294967296), .int .i64 (un % 4294967296)]), Reg.eqv (.agg #[.int .i64 ((qva + un) / 4294967296), .int .i64 ((qva + un) % 4294967296)]), Reg.fresh W1.heap.size #[.int .i64 0, .int .i64 0]] 83 8 _ [[(6, none)], [(44, some 0)], [(45, some 1)], [(2, none)], [(47, some 3)], [(48, some 4)], [(46, some 2), (49, some 5)], []] rfl (by kernel_rfl) (by kernel_rfl) (by rfl) (by rfl) rfl (by kernel_rfl) ?_ [some 44, some 45, some 46, some 47, some 48, some 49, some 50, some 7] (by kernel_rfl) ?_
  · refine ⟨?_, ?_, ?_, ?_, ?_, ?_, ?_, ?_, trivial⟩
    · intro ax wx hx hs
      obtain ⟨e6, -⟩ := hs
      have g6 := Reg.ev (v := .pointer (some ⟨w.heap.size + 1 + 1 + 1, 0, none⟩)) e6
      exact Reg.obl_free rfl (Reg.wp_eqv (Option.some_ne_none _) (by go_simp) rfl)
    · intro ax wx hx hs
      obtain ⟨e44, -⟩ := hs
      have g44 := Reg.ev (v := .pointer (some ⟨w.heap.size + 1 + 1 + 1, 4, none⟩)) e44
      obtain ⟨hc, -⟩ := bcell hx
      exact Reg.obl_free rfl (Reg.wp_eqv (Option.some_ne_none _) (by go_simp) rfl)
    · intro ax wx hx hs
      obtain ⟨e45, -⟩ := hs
      have g45 := Reg.ev (v := .int .i64 qva) e45
      refine Reg.obl_free rfl ?_
      go_simp
      refine (RefWide.of_any qva v1 v2 _).mono ?_
      rintro e wy ⟨rfl, hby⟩
      exact Reg.done (Option.some_ne_none _) rfl hby
    · intro ax wx hx hs
      obtain ⟨e2, -⟩ := hs
      have g2 := Reg.ev (v := .pointer (some ⟨w.heap.size, 0, none⟩)) e2
      exact Reg.obl_free rfl (Reg.wp_eqv (Option.some_ne_none _) (by go_simp) rfl)
    · intro ax wx hx hs
      obtain ⟨e47, -⟩ := hs
      have g47 := Reg.ev (v := .pointer (some ⟨w.heap.size, 9, none⟩)) e47
      obtain ⟨hc, -⟩ := bcell hx
      exact Reg.obl_free rfl (Reg.wp_eqv (Option.some_ne_none _) (by go_simp) rfl)
    · intro ax wx hx hs
      obtain ⟨e48, -⟩ := hs
      have g48 := Reg.ev (v := .int .i64 un) e48
      refine Reg.obl_free rfl ?_
      go_simp
      refine (RefWide.of_any un v3 v4 _).mono ?_
      rintro e wy ⟨rfl, hby⟩
      exact Reg.done (Option.some_ne_none _) rfl hby
    · intro ax wx hx hs
      obtain ⟨e46, e49, -⟩ := hs
      have g46 := Reg.ev (v := .agg #[.int .i64 (qva / 4294967296), .int .i64 (qva % 4294967296)]) e46
      have g49 := Reg.ev (v := .agg #[.int .i64 (un / 4294967296), .int .i64 (un % 4294967296)]) e49
      refine Reg.obl_free rfl ?_
      go_simp
      refine (RefWide.join_any qva un (by omega) (by omega) (by omega) (by omega) _).mono ?_
      rintro e wy ⟨rfl, hby⟩
      exact Reg.done (Option.some_ne_none _) rfl hby
    · intro ax wx hx hs
      refine Reg.obl_free rfl ?_
      have hx' : Below W1.heap.size W1 wx := hx
      go_simp
      exact Reg.done (Option.some_ne_none _) ⟨wx.heap.size, rfl, hx'.size, Str.new wx _ _⟩ (balloc (bsame wx) _)
  · intro W2 hwf
    simp only [Reg.Fin]
    rintro _ rfl _ rfl _ rfl _ rfl _ rfl _ rfl _ rfl v7 h7
    obtain ⟨g, rfl, hg, hSg⟩ := h7
    have hwf' : Below W1.heap.size W1 W2 := hwf
    clear hwf
    have HS0_2 := Lib.hid (HS0_1.out.next hwf')
    have HS1_2 := Lib.hid (HS1_1.out.next hwf')
    have HS2_2 := Lib.hid (HS2_1.out.next hwf')
    have HS3_2 := Lib.hid (HS3_1.out.next hwf')
    have HB_2 := Lib.hid (bstep HB_1.out hwf')
    have hw_2 := HB_2.out.size
    have hws_2 := (hwf').size
    clear f0_1_0 f0_1_1 f0_1_2 f0_1_3 f0_1_4 f0_1_5 f0_1_6 f0_1_7 f0_1_8 f0_1_9 HS0_1 f1_1_0 f1_1_1 f1_1_2 f1_1_3 f1_1_4 f1_1_5 f1_1_6 HS1_1 hf1_1 f2_1_0 f2_1_1 f2_1_2 f2_1_3 f2_1_4 f2_1_5 f2_1_6 HS2_1 hf2_1 f3_1_0 f3_1_1 f3_1_2 f3_1_3 f3_1_4 HS3_1 hf3_1
    clear hwf'
    obtain ⟨f0_2_0, f0_2_1, f0_2_2, f0_2_3, f0_2_4, f0_2_5, f0_2_6, f0_2_7, f0_2_8, f0_2_9⟩ := str10 HS0_2.out
    have hl0_2 := HS0_2.out.lt
    obtain ⟨f1_2_0, f1_2_1, f1_2_2, f1_2_3, f1_2_4, f1_2_5, f1_2_6⟩ := str7 HS1_2.out
    have hl1_2 := HS1_2.out.lt
    have hf1_2 := fun j => HS1_2.out.frozen j
    obtain ⟨f2_2_0, f2_2_1, f2_2_2, f2_2_3, f2_2_4, f2_2_5, f2_2_6⟩ := str7 HS2_2.out
    have hl2_2 := HS2_2.out.lt
    have hf2_2 := fun j => HS2_2.out.frozen j
    obtain ⟨f3_2_0, f3_2_1, f3_2_2, f3_2_3, f3_2_4⟩ := str5 HS3_2.out
    have hl3_2 := HS3_2.out.lt
    have hf3_2 := fun j => HS3_2.out.frozen j
    have HS4_2 := Lib.hid hSg
    clear hSg
    obtain ⟨f4_2_0, f4_2_1⟩ := str2 HS4_2.out
    have hl4_2 := HS4_2.out.lt
    have hf4_2 := fun j => HS4_2.out.frozen j
    refine Reg.Goal.mk ?_
    go_simp
    go_wp2_with fail
    generalize hW3 : ((W2).setCell ⟨g, 0, none⟩ (.int .i64 ((qva + un) / 4294967296))).setCell ⟨g, 1, none⟩ (.int .i64 ((qva + un) % 4294967296)) = W3
    have HS0_3 : Hid (Str W3 (w.heap.size) #[.int .i64 3, .string qk, .int .i64 pst, .string pk, .int .i64 pkd, .slice Ap np cp, .int .i64 plo, .int .i64 phi, .int .i64 pva, .int .i64 un]) := Lib.hid (by rw [← hW3]; exact ((HS0_2.out).other 0 _ (by omega)).other 1 _ (by omega))
    have HS1_3 : Hid (Str W3 (w.heap.size + 1) #[.int .i64 1, .string qk, .int .i64 2, .slice Aq nq cq, .int .i64 qlo, .int .i64 qhi, .int .i64 qva]) := Lib.hid (by rw [← hW3]; exact ((HS1_2.out).other 0 _ (by omega)).other 1 _ (by omega))
    have HS2_3 : Hid (Str W3 (w.heap.size + 1 + 1) #[.int .i64 0, .string ⟨#[]⟩, .int .i64 0, .slice none 0 0, .int .i64 0, .int .i64 0, .int .i64 0]) := Lib.hid (by rw [← hW3]; exact ((HS2_2.out).other 0 _ (by omega)).other 1 _ (by omega))
    have HS3_3 : Hid (Str W3 (w.heap.size + 1 + 1 + 1) #[.int .i64 2, .slice Aq nq cq, .int .i64 qlo, .int .i64 qhi, .int .i64 qva]) := Lib.hid (by rw [← hW3]; exact ((HS3_2.out).other 0 _ (by omega)).other 1 _ (by omega))
    have HS4_3 : Hid (Str W3 (g) #[.int .i64 ((qva + un) / 4294967296), .int .i64 ((qva + un) % 4294967296)]) := Lib.hid (by rw [← hW3]; have := ((HS4_2.out).set 0 (.int .i64 ((qva + un) / 4294967296))).set 1 (.int .i64 ((qva + un) % 4294967296)); simpa using this)
    have hgr3 : W2.grownBy W3 (some (g)) := by rw [← hW3]; exact grown_set (grown_set (grown_refl W2 (g)) 0 (.int .i64 ((qva + un) / 4294967296))) 1 (.int .i64 ((qva + un) % 4294967296))
    have HB_3 := Lib.hid (below_grown HB_2.out hgr3 (by omega))
    have hw_3 := HB_3.out.size
    have hws_3 := hgr3.size
    clear hW3
    clear f0_2_0 f0_2_1 f0_2_2 f0_2_3 f0_2_4 f0_2_5 f0_2_6 f0_2_7 f0_2_8 f0_2_9 HS0_2 f1_2_0 f1_2_1 f1_2_2 f1_2_3 f1_2_4 f1_2_5 f1_2_6 HS1_2 hf1_2 f2_2_0 f2_2_1 f2_2_2 f2_2_3 f2_2_4 f2_2_5 f2_2_6 HS2_2 hf2_2 f3_2_0 f3_2_1 f3_2_2 f3_2_3 f3_2_4 HS3_2 hf3_2 f4_2_0 f4_2_1 HS4_2 hf4_2
    clear hgr3
    obtain ⟨f0_3_0, f0_3_1, f0_3_2, f0_3_3, f0_3_4, f0_3_5, f0_3_6, f0_3_7, f0_3_8, f0_3_9⟩ := str10 HS0_3.out
    have hl0_3 := HS0_3.out.lt
    obtain ⟨f1_3_0, f1_3_1, f1_3_2, f1_3_3, f1_3_4, f1_3_5, f1_3_6⟩ := str7 HS1_3.out
    have hl1_3 := HS1_3.out.lt
    have hf1_3 := fun j => HS1_3.out.frozen j
    obtain ⟨f2_3_0, f2_3_1, f2_3_2, f2_3_3, f2_3_4, f2_3_5, f2_3_6⟩ := str7 HS2_3.out
    have hl2_3 := HS2_3.out.lt
    have hf2_3 := fun j => HS2_3.out.frozen j
    obtain ⟨f3_3_0, f3_3_1, f3_3_2, f3_3_3, f3_3_4⟩ := str5 HS3_3.out
    have hl3_3 := HS3_3.out.lt
    have hf3_3 := fun j => HS3_3.out.frozen j
    obtain ⟨f4_3_0, f4_3_1⟩ := str2 HS4_3.out
    have hl4_3 := HS4_3.out.lt
    have hf4_3 := fun j => HS4_3.out.frozen j
    refine Reg.wp_region_tail (R := ext) (W := W3) [Reg.eqv (.pointer (some ⟨w.heap.size + 1 + 1 + 1, 4, none⟩)), Reg.eqv (.int .i64 qva), Reg.eqv (.agg #[.int .i64 (qva / 4294967296), .int .i64 (qva % 4294967296)]), Reg.eqv (.pointer (some ⟨w.heap.size, 9, none⟩)), Reg.eqv (.int .i64 un), Reg.eqv (.agg #[.int .i64 (un / 4294967296), .int .i64 (un % 4294967296)]), Reg.eqv (.agg #[.int .i64 ((qva - un) / 4294967296), .int .i64 ((qva - un) % 4294967296)])] 83 7 _ [[(6, none)], [(54, some 0)], [(55, some 1)], [(2, none)], [(57, some 3)], [(58, some 4)], [(56, some 2), (59, some 5)]] rfl (by kernel_rfl) (by kernel_rfl) (by rfl) (by rfl) rfl (by kernel_rfl) ?_ [some 54, some 55, some 56, some 57, some 58, some 59, some 60] (by kernel_rfl) ?_
    · refine ⟨?_, ?_, ?_, ?_, ?_, ?_, ?_, trivial⟩
      · intro ax wx hx hs
        obtain ⟨e6, -⟩ := hs
        have g6 := Reg.ev (v := .pointer (some ⟨w.heap.size + 1 + 1 + 1, 0, none⟩)) e6
        exact Reg.obl_free rfl (Reg.wp_eqv (Option.some_ne_none _) (by go_simp) rfl)
      · intro ax wx hx hs
        obtain ⟨e54, -⟩ := hs
        have g54 := Reg.ev (v := .pointer (some ⟨w.heap.size + 1 + 1 + 1, 4, none⟩)) e54
        obtain ⟨hc, -⟩ := bcell hx
        exact Reg.obl_free rfl (Reg.wp_eqv (Option.some_ne_none _) (by go_simp) rfl)
      · intro ax wx hx hs
        obtain ⟨e55, -⟩ := hs
        have g55 := Reg.ev (v := .int .i64 qva) e55
        refine Reg.obl_free rfl ?_
        go_simp
        refine (RefWide.of_any qva v1 v2 _).mono ?_
        rintro e wy ⟨rfl, hby⟩
        exact Reg.done (Option.some_ne_none _) rfl hby
      · intro ax wx hx hs
        obtain ⟨e2, -⟩ := hs
        have g2 := Reg.ev (v := .pointer (some ⟨w.heap.size, 0, none⟩)) e2
        exact Reg.obl_free rfl (Reg.wp_eqv (Option.some_ne_none _) (by go_simp) rfl)
      · intro ax wx hx hs
        obtain ⟨e57, -⟩ := hs
        have g57 := Reg.ev (v := .pointer (some ⟨w.heap.size, 9, none⟩)) e57
        obtain ⟨hc, -⟩ := bcell hx
        exact Reg.obl_free rfl (Reg.wp_eqv (Option.some_ne_none _) (by go_simp) rfl)
      · intro ax wx hx hs
        obtain ⟨e58, -⟩ := hs
        have g58 := Reg.ev (v := .int .i64 un) e58
        refine Reg.obl_free rfl ?_
        go_simp
        refine (RefWide.of_any un v3 v4 _).mono ?_
        rintro e wy ⟨rfl, hby⟩
        exact Reg.done (Option.some_ne_none _) rfl hby
      · intro ax wx hx hs
        obtain ⟨e56, e59, -⟩ := hs
        have g56 := Reg.ev (v := .agg #[.int .i64 (qva / 4294967296), .int .i64 (qva % 4294967296)]) e56
        have g59 := Reg.ev (v := .agg #[.int .i64 (un / 4294967296), .int .i64 (un % 4294967296)]) e59
        refine Reg.obl_free rfl ?_
        go_simp
        refine (RefWide.take_any qva un (by omega) (by omega) (by omega) (by omega) _).mono ?_
        rintro e wy ⟨rfl, hby⟩
        exact Reg.done (Option.some_ne_none _) rfl hby
    · intro W4 hwf
      simp only [Reg.Fin]
      rintro _ rfl _ rfl _ rfl _ rfl _ rfl _ rfl _ rfl
      have hwf' : Below W3.heap.size W3 W4 := hwf
      clear hwf
      have HS0_4 := Lib.hid (HS0_3.out.next hwf')
      have HS1_4 := Lib.hid (HS1_3.out.next hwf')
      have HS2_4 := Lib.hid (HS2_3.out.next hwf')
      have HS3_4 := Lib.hid (HS3_3.out.next hwf')
      have HS4_4 := Lib.hid (HS4_3.out.next hwf')
      have HB_4 := Lib.hid (bstep HB_3.out hwf')
      have hw_4 := HB_4.out.size
      have hws_4 := (hwf').size
      clear f0_3_0 f0_3_1 f0_3_2 f0_3_3 f0_3_4 f0_3_5 f0_3_6 f0_3_7 f0_3_8 f0_3_9 HS0_3 f1_3_0 f1_3_1 f1_3_2 f1_3_3 f1_3_4 f1_3_5 f1_3_6 HS1_3 hf1_3 f2_3_0 f2_3_1 f2_3_2 f2_3_3 f2_3_4 f2_3_5 f2_3_6 HS2_3 hf2_3 f3_3_0 f3_3_1 f3_3_2 f3_3_3 f3_3_4 HS3_3 hf3_3 f4_3_0 f4_3_1 HS4_3 hf4_3
      clear hwf'
      obtain ⟨f0_4_0, f0_4_1, f0_4_2, f0_4_3, f0_4_4, f0_4_5, f0_4_6, f0_4_7, f0_4_8, f0_4_9⟩ := str10 HS0_4.out
      have hl0_4 := HS0_4.out.lt
      obtain ⟨f1_4_0, f1_4_1, f1_4_2, f1_4_3, f1_4_4, f1_4_5, f1_4_6⟩ := str7 HS1_4.out
      have hl1_4 := HS1_4.out.lt
      have hf1_4 := fun j => HS1_4.out.frozen j
      obtain ⟨f2_4_0, f2_4_1, f2_4_2, f2_4_3, f2_4_4, f2_4_5, f2_4_6⟩ := str7 HS2_4.out
      have hl2_4 := HS2_4.out.lt
      have hf2_4 := fun j => HS2_4.out.frozen j
      obtain ⟨f3_4_0, f3_4_1, f3_4_2, f3_4_3, f3_4_4⟩ := str5 HS3_4.out
      have hl3_4 := HS3_4.out.lt
      have hf3_4 := fun j => HS3_4.out.frozen j
      obtain ⟨f4_4_0, f4_4_1⟩ := str2 HS4_4.out
      have hl4_4 := HS4_4.out.lt
      have hf4_4 := fun j => HS4_4.out.frozen j
      refine Reg.Goal.mk ?_
      go_simp
      go_wp2_with fail
      generalize hW5 : ((W4).setCell ⟨g, 0, none⟩ (.int .i64 ((qva - un) / 4294967296))).setCell ⟨g, 1, none⟩ (.int .i64 ((qva - un) % 4294967296)) = W5
      have HS0_5 : Hid (Str W5 (w.heap.size) #[.int .i64 3, .string qk, .int .i64 pst, .string pk, .int .i64 pkd, .slice Ap np cp, .int .i64 plo, .int .i64 phi, .int .i64 pva, .int .i64 un]) := Lib.hid (by rw [← hW5]; exact ((HS0_4.out).other 0 _ (by omega)).other 1 _ (by omega))
      have HS1_5 : Hid (Str W5 (w.heap.size + 1) #[.int .i64 1, .string qk, .int .i64 2, .slice Aq nq cq, .int .i64 qlo, .int .i64 qhi, .int .i64 qva]) := Lib.hid (by rw [← hW5]; exact ((HS1_4.out).other 0 _ (by omega)).other 1 _ (by omega))
      have HS2_5 : Hid (Str W5 (w.heap.size + 1 + 1) #[.int .i64 0, .string ⟨#[]⟩, .int .i64 0, .slice none 0 0, .int .i64 0, .int .i64 0, .int .i64 0]) := Lib.hid (by rw [← hW5]; exact ((HS2_4.out).other 0 _ (by omega)).other 1 _ (by omega))
      have HS3_5 : Hid (Str W5 (w.heap.size + 1 + 1 + 1) #[.int .i64 2, .slice Aq nq cq, .int .i64 qlo, .int .i64 qhi, .int .i64 qva]) := Lib.hid (by rw [← hW5]; exact ((HS3_4.out).other 0 _ (by omega)).other 1 _ (by omega))
      have HS4_5 : Hid (Str W5 (g) #[.int .i64 ((qva - un) / 4294967296), .int .i64 ((qva - un) % 4294967296)]) := Lib.hid (by rw [← hW5]; have := ((HS4_4.out).set 0 (.int .i64 ((qva - un) / 4294967296))).set 1 (.int .i64 ((qva - un) % 4294967296)); simpa using this)
      have hgr5 : W4.grownBy W5 (some (g)) := by rw [← hW5]; exact grown_set (grown_set (grown_refl W4 (g)) 0 (.int .i64 ((qva - un) / 4294967296))) 1 (.int .i64 ((qva - un) % 4294967296))
      have HB_5 := Lib.hid (below_grown HB_4.out hgr5 (by omega))
      have hw_5 := HB_5.out.size
      have hws_5 := hgr5.size
      clear hW5
      clear f0_4_0 f0_4_1 f0_4_2 f0_4_3 f0_4_4 f0_4_5 f0_4_6 f0_4_7 f0_4_8 f0_4_9 HS0_4 f1_4_0 f1_4_1 f1_4_2 f1_4_3 f1_4_4 f1_4_5 f1_4_6 HS1_4 hf1_4 f2_4_0 f2_4_1 f2_4_2 f2_4_3 f2_4_4 f2_4_5 f2_4_6 HS2_4 hf2_4 f3_4_0 f3_4_1 f3_4_2 f3_4_3 f3_4_4 HS3_4 hf3_4 f4_4_0 f4_4_1 HS4_4 hf4_4
      clear hgr5
      obtain ⟨f0_5_0, f0_5_1, f0_5_2, f0_5_3, f0_5_4, f0_5_5, f0_5_6, f0_5_7, f0_5_8, f0_5_9⟩ := str10 HS0_5.out
      have hl0_5 := HS0_5.out.lt
      obtain ⟨f1_5_0, f1_5_1, f1_5_2, f1_5_3, f1_5_4, f1_5_5, f1_5_6⟩ := str7 HS1_5.out
      have hl1_5 := HS1_5.out.lt
      have hf1_5 := fun j => HS1_5.out.frozen j
      obtain ⟨f2_5_0, f2_5_1, f2_5_2, f2_5_3, f2_5_4, f2_5_5, f2_5_6⟩ := str7 HS2_5.out
      have hl2_5 := HS2_5.out.lt
      have hf2_5 := fun j => HS2_5.out.frozen j
      obtain ⟨f3_5_0, f3_5_1, f3_5_2, f3_5_3, f3_5_4⟩ := str5 HS3_5.out
      have hl3_5 := HS3_5.out.lt
      have hf3_5 := fun j => HS3_5.out.frozen j
      obtain ⟨f4_5_0, f4_5_1⟩ := str2 HS4_5.out
      have hl4_5 := HS4_5.out.lt
      have hf4_5 := fun j => HS4_5.out.frozen j
      refine Reg.wp_region_vals (R := ext) (W := W5) [Reg.eqv (.agg #[.int .i64 ((qva - un) / 4294967296), .int .i64 ((qva - un) % 4294967296)]), Reg.eqv (.pointer (some ⟨w.heap.size + 1 + 1 + 1, 2, none⟩)), Reg.eqv (.int .i64 qlo), Reg.eqv (.agg #[.int .i64 (qlo / 4294967296), .int .i64 (qlo % 4294967296)]), Reg.eqv (.bool false), Reg.eqv (.bool false), Reg.eqv (.pointer (some ⟨w.heap.size + 1 + 1 + 1, 3, none⟩)), Reg.eqv (.int .i64 qhi), Reg.eqv (.agg #[.int .i64 (qhi / 4294967296), .int .i64 (qhi % 4294967296)]), Reg.eqv (.agg #[.int .i64 ((qva - un) / 4294967296), .int .i64 ((qva - un) % 4294967296)]), Reg.eqv (.bool true), Reg.eqv (.bool true)] 83 [[(7, none)], [(6, none)], [(62, some 1)], [(63, some 2)], [(61, some 0), (64, some 3)], [(65, some 4)], [(6, none), (66, some 5)], [(67, some 6), (66, some 5)], [(68, some 7), (66, some 5)], [(7, none), (66, some 5)], [(69, some 8), (70, some 9), (66, some 5)], [(66, some 5), (71, some 10)]] rfl (by kernel_rfl) (by kernel_rfl) (by kernel_rfl) ?_ [some 61, some 62, some 63, some 64, some 65, some 66, some 67, some 68, some 69, some 70, some 71, some 72] (by kernel_rfl) ?_
      · refine ⟨?_, ?_, ?_, ?_, ?_, ?_, ?_, ?_, ?_, ?_, ?_, ?_, trivial⟩
        · intro ax wx hx hs
          obtain ⟨e7, -⟩ := hs
          have g7 := Reg.ev (v := .pointer (some ⟨g, 0, none⟩)) e7
          obtain ⟨hc, -⟩ := bcell hx
          exact Reg.obl_free rfl (Reg.wp_eqv (Option.some_ne_none _) (by go_simp) rfl)
        · intro ax wx hx hs
          obtain ⟨e6, -⟩ := hs
          have g6 := Reg.ev (v := .pointer (some ⟨w.heap.size + 1 + 1 + 1, 0, none⟩)) e6
          exact Reg.obl_free rfl (Reg.wp_eqv (Option.some_ne_none _) (by go_simp) rfl)
        · intro ax wx hx hs
          obtain ⟨e62, -⟩ := hs
          have g62 := Reg.ev (v := .pointer (some ⟨w.heap.size + 1 + 1 + 1, 2, none⟩)) e62
          obtain ⟨hc, -⟩ := bcell hx
          exact Reg.obl_free rfl (Reg.wp_eqv (Option.some_ne_none _) (by go_simp) rfl)
        · intro ax wx hx hs
          obtain ⟨e63, -⟩ := hs
          have g63 := Reg.ev (v := .int .i64 qlo) e63
          refine Reg.obl_free rfl ?_
          go_simp
          refine (RefWide.of_any qlo v5 v6 _).mono ?_
          rintro e wy ⟨rfl, hby⟩
          exact Reg.done (Option.some_ne_none _) rfl hby
        · intro ax wx hx hs
          obtain ⟨e61, e64, -⟩ := hs
          have g61 := Reg.ev (v := .agg #[.int .i64 ((qva - un) / 4294967296), .int .i64 ((qva - un) % 4294967296)]) e61
          have g64 := Reg.ev (v := .agg #[.int .i64 (qlo / 4294967296), .int .i64 (qlo % 4294967296)]) e64
          refine Reg.obl_free rfl ?_
          go_simp
          refine (RefWide.less_any (qva - un) qlo _).mono ?_
          rintro e wy ⟨rfl, hby⟩
          rw [HLO.out]
          exact Reg.done (Option.some_ne_none _) rfl hby
        · intro ax wx hx hs
          obtain ⟨e65, -⟩ := hs
          have g65 := Reg.ev (v := .bool false) e65
          exact Reg.obl_free rfl (Reg.wp_eqv (Option.some_ne_none _) (by go_simp) rfl)
        · intro ax wx hx hs
          obtain ⟨e6, e66, -⟩ := hs
          have g6 := Reg.ev (v := .pointer (some ⟨w.heap.size + 1 + 1 + 1, 0, none⟩)) e6
          have g66 := Reg.ev (v := .bool false) e66
          exact Reg.obl_want rfl rfl e66 (Reg.wp_eqv (Option.some_ne_none _) (by go_simp) rfl)
        · intro ax wx hx hs
          obtain ⟨e67, e66, -⟩ := hs
          have g67 := Reg.ev (v := .pointer (some ⟨w.heap.size + 1 + 1 + 1, 3, none⟩)) e67
          have g66 := Reg.ev (v := .bool false) e66
          obtain ⟨hc, -⟩ := bcell hx
          exact Reg.obl_want rfl rfl e66 (Reg.wp_eqv (Option.some_ne_none _) (by go_simp) rfl)
        · intro ax wx hx hs
          obtain ⟨e68, e66, -⟩ := hs
          have g68 := Reg.ev (v := .int .i64 qhi) e68
          have g66 := Reg.ev (v := .bool false) e66
          refine Reg.obl_want rfl rfl e66 ?_
          go_simp
          refine (RefWide.of_any qhi v7 v8 _).mono ?_
          rintro e wy ⟨rfl, hby⟩
          exact Reg.done (Option.some_ne_none _) rfl hby
        · intro ax wx hx hs
          obtain ⟨e7, e66, -⟩ := hs
          have g7 := Reg.ev (v := .pointer (some ⟨g, 0, none⟩)) e7
          have g66 := Reg.ev (v := .bool false) e66
          obtain ⟨hc, -⟩ := bcell hx
          exact Reg.obl_want rfl rfl e66 (Reg.wp_eqv (Option.some_ne_none _) (by go_simp) rfl)
        · intro ax wx hx hs
          obtain ⟨e69, e70, e66, -⟩ := hs
          have g69 := Reg.ev (v := .agg #[.int .i64 (qhi / 4294967296), .int .i64 (qhi % 4294967296)]) e69
          have g70 := Reg.ev (v := .agg #[.int .i64 ((qva - un) / 4294967296), .int .i64 ((qva - un) % 4294967296)]) e70
          have g66 := Reg.ev (v := .bool false) e66
          refine Reg.obl_want rfl rfl e66 ?_
          go_simp
          refine (RefWide.less_any qhi (qva - un) _).mono ?_
          rintro e wy ⟨rfl, hby⟩
          rw [HHI.out]
          exact Reg.done (Option.some_ne_none _) rfl hby
        · intro ax wx hx hs
          obtain ⟨e66, e71, -⟩ := hs
          have g66 := Reg.ev (v := .bool false) e66
          have g71 := Reg.ev (v := .bool true) e71
          exact Reg.obl_free rfl (Reg.wp_eqv (Option.some_ne_none _) (by go_simp) rfl)
      · intro W6 hwf
        simp only [Reg.Fin]
        rintro _ rfl _ rfl _ rfl _ rfl _ rfl _ rfl _ rfl _ rfl _ rfl _ rfl _ rfl _ rfl
        go_simp
        have HS0_6 := Lib.hid (HS0_5.out.next hwf)
        have HS1_6 := Lib.hid (HS1_5.out.next hwf)
        have HS2_6 := Lib.hid (HS2_5.out.next hwf)
        have HS3_6 := Lib.hid (HS3_5.out.next hwf)
        have HS4_6 := Lib.hid (HS4_5.out.next hwf)
        have HB_6 := Lib.hid (bstep HB_5.out hwf)
        have hw_6 := HB_6.out.size
        have hws_6 := (hwf).size
        clear f0_5_0 f0_5_1 f0_5_2 f0_5_3 f0_5_4 f0_5_5 f0_5_6 f0_5_7 f0_5_8 f0_5_9 HS0_5 f1_5_0 f1_5_1 f1_5_2 f1_5_3 f1_5_4 f1_5_5 f1_5_6 HS1_5 hf1_5 f2_5_0 f2_5_1 f2_5_2 f2_5_3 f2_5_4 f2_5_5 f2_5_6 HS2_5 hf2_5 f3_5_0 f3_5_1 f3_5_2 f3_5_3 f3_5_4 HS3_5 hf3_5 f4_5_0 f4_5_1 HS4_5 hf4_5
        clear hwf
        obtain ⟨f0_6_0, f0_6_1, f0_6_2, f0_6_3, f0_6_4, f0_6_5, f0_6_6, f0_6_7, f0_6_8, f0_6_9⟩ := str10 HS0_6.out
        have hl0_6 := HS0_6.out.lt
        obtain ⟨f1_6_0, f1_6_1, f1_6_2, f1_6_3, f1_6_4, f1_6_5, f1_6_6⟩ := str7 HS1_6.out
        have hl1_6 := HS1_6.out.lt
        have hf1_6 := fun j => HS1_6.out.frozen j
        obtain ⟨f2_6_0, f2_6_1, f2_6_2, f2_6_3, f2_6_4, f2_6_5, f2_6_6⟩ := str7 HS2_6.out
        have hl2_6 := HS2_6.out.lt
        have hf2_6 := fun j => HS2_6.out.frozen j
        obtain ⟨f3_6_0, f3_6_1, f3_6_2, f3_6_3, f3_6_4⟩ := str5 HS3_6.out
        have hl3_6 := HS3_6.out.lt
        have hf3_6 := fun j => HS3_6.out.frozen j
        obtain ⟨f4_6_0, f4_6_1⟩ := str2 HS4_6.out
        have hl4_6 := HS4_6.out.lt
        have hf4_6 := fun j => HS4_6.out.frozen j
        go_wp2_with fail
        generalize hW7 : (((((((W6).setCell ⟨w.heap.size + 1 + 1, 0, none⟩ (.int .i64 0)).setCell ⟨w.heap.size + 1 + 1, 1, none⟩ (.string ⟨#[]⟩)).setCell ⟨w.heap.size + 1 + 1, 2, none⟩ (.int .i64 0)).setCell ⟨w.heap.size + 1 + 1, 3, none⟩ (.slice none 0 0)).setCell ⟨w.heap.size + 1 + 1, 4, none⟩ (.int .i64 0)).setCell ⟨w.heap.size + 1 + 1, 5, none⟩ (.int .i64 0)).setCell ⟨w.heap.size + 1 + 1, 6, none⟩ (.int .i64 0) = W7
        have HS0_7 : Hid (Str W7 (w.heap.size) #[.int .i64 3, .string qk, .int .i64 pst, .string pk, .int .i64 pkd, .slice Ap np cp, .int .i64 plo, .int .i64 phi, .int .i64 pva, .int .i64 un]) := Lib.hid (by rw [← hW7]; exact (((((((HS0_6.out).other 0 _ (by omega)).other 1 _ (by omega)).other 2 _ (by omega)).other 3 _ (by omega)).other 4 _ (by omega)).other 5 _ (by omega)).other 6 _ (by omega))
        have HS1_7 : Hid (Str W7 (w.heap.size + 1) #[.int .i64 1, .string qk, .int .i64 2, .slice Aq nq cq, .int .i64 qlo, .int .i64 qhi, .int .i64 qva]) := Lib.hid (by rw [← hW7]; exact (((((((HS1_6.out).other 0 _ (by omega)).other 1 _ (by omega)).other 2 _ (by omega)).other 3 _ (by omega)).other 4 _ (by omega)).other 5 _ (by omega)).other 6 _ (by omega))
        have HS2_7 : Hid (Str W7 (w.heap.size + 1 + 1) #[.int .i64 0, .string ⟨#[]⟩, .int .i64 0, .slice none 0 0, .int .i64 0, .int .i64 0, .int .i64 0]) := Lib.hid (by rw [← hW7]; have := (((((((HS2_6.out).set 0 (.int .i64 0)).set 1 (.string ⟨#[]⟩)).set 2 (.int .i64 0)).set 3 (.slice none 0 0)).set 4 (.int .i64 0)).set 5 (.int .i64 0)).set 6 (.int .i64 0); simpa using this)
        have HS3_7 : Hid (Str W7 (w.heap.size + 1 + 1 + 1) #[.int .i64 2, .slice Aq nq cq, .int .i64 qlo, .int .i64 qhi, .int .i64 qva]) := Lib.hid (by rw [← hW7]; exact (((((((HS3_6.out).other 0 _ (by omega)).other 1 _ (by omega)).other 2 _ (by omega)).other 3 _ (by omega)).other 4 _ (by omega)).other 5 _ (by omega)).other 6 _ (by omega))
        have HS4_7 : Hid (Str W7 (g) #[.int .i64 ((qva - un) / 4294967296), .int .i64 ((qva - un) % 4294967296)]) := Lib.hid (by rw [← hW7]; exact (((((((HS4_6.out).other 0 _ (by omega)).other 1 _ (by omega)).other 2 _ (by omega)).other 3 _ (by omega)).other 4 _ (by omega)).other 5 _ (by omega)).other 6 _ (by omega))
        have hgr7 : W6.grownBy W7 (some (w.heap.size + 1 + 1)) := by rw [← hW7]; exact grown_set (grown_set (grown_set (grown_set (grown_set (grown_set (grown_set (grown_refl W6 (w.heap.size + 1 + 1)) 0 (.int .i64 0)) 1 (.string ⟨#[]⟩)) 2 (.int .i64 0)) 3 (.slice none 0 0)) 4 (.int .i64 0)) 5 (.int .i64 0)) 6 (.int .i64 0)
        have HB_7 := Lib.hid (below_grown HB_6.out hgr7 (by omega))
        have hw_7 := HB_7.out.size
        have hws_7 := hgr7.size
        clear hW7
        clear f0_6_0 f0_6_1 f0_6_2 f0_6_3 f0_6_4 f0_6_5 f0_6_6 f0_6_7 f0_6_8 f0_6_9 HS0_6 f1_6_0 f1_6_1 f1_6_2 f1_6_3 f1_6_4 f1_6_5 f1_6_6 HS1_6 hf1_6 f2_6_0 f2_6_1 f2_6_2 f2_6_3 f2_6_4 f2_6_5 f2_6_6 HS2_6 hf2_6 f3_6_0 f3_6_1 f3_6_2 f3_6_3 f3_6_4 HS3_6 hf3_6 f4_6_0 f4_6_1 HS4_6 hf4_6
        clear hgr7
        obtain ⟨f0_7_0, f0_7_1, f0_7_2, f0_7_3, f0_7_4, f0_7_5, f0_7_6, f0_7_7, f0_7_8, f0_7_9⟩ := str10 HS0_7.out
        have hl0_7 := HS0_7.out.lt
        obtain ⟨f1_7_0, f1_7_1, f1_7_2, f1_7_3, f1_7_4, f1_7_5, f1_7_6⟩ := str7 HS1_7.out
        have hl1_7 := HS1_7.out.lt
        have hf1_7 := fun j => HS1_7.out.frozen j
        obtain ⟨f2_7_0, f2_7_1, f2_7_2, f2_7_3, f2_7_4, f2_7_5, f2_7_6⟩ := str7 HS2_7.out
        have hl2_7 := HS2_7.out.lt
        have hf2_7 := fun j => HS2_7.out.frozen j
        obtain ⟨f3_7_0, f3_7_1, f3_7_2, f3_7_3, f3_7_4⟩ := str5 HS3_7.out
        have hl3_7 := HS3_7.out.lt
        have hf3_7 := fun j => HS3_7.out.frozen j
        obtain ⟨f4_7_0, f4_7_1⟩ := str2 HS4_7.out
        have hl4_7 := HS4_7.out.lt
        have hf4_7 := fun j => HS4_7.out.frozen j
        exact bodyPost_ret (v := .tuple #[.agg #[.int .i64 0, .string ⟨#[]⟩, .int .i64 0, .slice none 0 0, .int .i64 0, .int .i64 0, .int .i64 0], .int .i64 8]) (by simp [results, Try.results68, go_sem, *]) rfl ⟨none, 0, 0, rfl, Bytes.none_ _ _, HB_7.out⟩

set_option maxRecDepth 100000 in
set_option maxHeartbeats 1000000 in
theorem apply3_ok (un : Int) (Ap : Option Addr) (np cp Bp : Nat) (pst : Int) (pk : ByteArray) (pkd : Int) (pda : List UInt8) (plo phi pva : Int) (Aq : Option Addr) (nq cq Bq : Nat) (qk : ByteArray) (qda : List UInt8) (qlo qhi qva : Int) (w : World) (hp : Bytes w Bp Ap np cp pda) (hBp : Bp ≤ w.heap.size) (hnp : np ≤ 140737488355328) (hq : Bytes w Bq Aq nq cq qda) (hBq : Bq ≤ w.heap.size) (hnq : nq ≤ 140737488355328) (hun : In64 un) (hqv : In64 qva) (hql : In64 qlo) (hqh : In64 qhi) (hr : CellP.right ⟨2, qda, qlo, qhi, qva⟩ = true) (hl : ¬ (qva - un) < qlo) (ho : ¬ qhi < (qva - un)) : Calls Try.prog 68 #[.agg #[.int .i64 3, .string qk, .int .i64 pst, .string pk, .int .i64 pkd, .slice Ap np cp, .int .i64 plo, .int .i64 phi, .int .i64 pva, .int .i64 un], .agg #[.int .i64 1, .string qk, .int .i64 2, .slice Aq nq cq, .int .i64 qlo, .int .i64 qhi, .int .i64 qva]] w (SlotGet.GotItem w (UndoP.apply ⟨3, qk, ⟨pst, pk, ⟨pkd, pda, plo, phi, pva⟩⟩, un⟩ ⟨1, qk, ⟨2, qda, qlo, qhi, qva⟩⟩)) := by
  rw [UndoP.apply_ok _ _ (by simp) ⟨rfl, rfl⟩ ⟨rfl, hr⟩ (by simp [UndoP.sum]; omega)]
  have HLO : Hid (decide ((qva - un) < qlo) = false) := Lib.hid (by simpa using hl)
  have HHI : Hid (decide (qhi < (qva - un)) = false) := Lib.hid (by simpa using ho)
  have HNUM : Hid (WideP.num (qva - un) = (qva - un)) := Lib.hid (by have h1 := hql.1; have h2 := hqh.2; rw [WideP.num, if_pos (by simp [WideP.fits]; omega)])
  have HSV : Hid (UndoP.sum ⟨3, qk, ⟨pst, pk, ⟨pkd, pda, plo, phi, pva⟩⟩, un⟩ ⟨1, qk, ⟨2, qda, qlo, qhi, qva⟩⟩ = (qva - un)) := Lib.hid (by simp [UndoP.sum])
  have hdd : qda = [] := by simp [CellP.right] at hr; exact hr.1
  have HDA : Hid (qda = [] ∧ nq = 0) := Lib.hid ⟨hdd, by rw [← hq.len, hdd]; rfl⟩
  clear ho hl hdd
  have Hq := Lib.hid hq
  have hlq := hq.len
  have hcq := Nat.le_trans hq.2.1 hq.2.2.1
  obtain ⟨v1, v2⟩ := hqv
  obtain ⟨v3, v4⟩ := hun
  obtain ⟨v5, v6⟩ := hql
  obtain ⟨v7, v8⟩ := hqh
  have HRT : Hid (∀ W, Calls Try.prog 21 #[.agg #[.int .i64 2, .slice Aq nq cq, .int .i64 qlo, .int .i64 qhi, .int .i64 qva]] W fun e w' => e = .returned (.bool true) ∧ Below W.heap.size W w') := Lib.hid (fun W => by have h := CellW.right_any Aq nq cq ⟨2, qda, qlo, qhi, qva⟩ W hlq hcq; rw [hr] at h; exact h)
  clear hp hq hlq hcq hr
  go_enter Try.func68, Try.ntmps68
  go_wp2_with fail
  generalize hW0 : ((((w).alloc (.cells #[.int .i64 3, .string qk, .int .i64 pst, .string pk, .int .i64 pkd, .slice Ap np cp, .int .i64 plo, .int .i64 phi, .int .i64 pva, .int .i64 un] 79)).alloc (.cells #[.int .i64 1, .string qk, .int .i64 2, .slice Aq nq cq, .int .i64 qlo, .int .i64 qhi, .int .i64 qva] 38)).alloc (.cells #[.int .i64 0, .string ⟨#[]⟩, .int .i64 0, .slice none 0 0, .int .i64 0, .int .i64 0, .int .i64 0] 38)).alloc (.cells #[.int .i64 2, .slice Aq nq cq, .int .i64 qlo, .int .i64 qhi, .int .i64 qva] 24) = W0
  have HS0_0 : Hid (Str W0 (w.heap.size) #[.int .i64 3, .string qk, .int .i64 pst, .string pk, .int .i64 pkd, .slice Ap np cp, .int .i64 plo, .int .i64 phi, .int .i64 pva, .int .i64 un]) := Lib.hid (by rw [← hW0]; have := (((Str.new (w) #[.int .i64 3, .string qk, .int .i64 pst, .string pk, .int .i64 pkd, .slice Ap np cp, .int .i64 plo, .int .i64 phi, .int .i64 pva, .int .i64 un] 79).alloc (.cells #[.int .i64 1, .string qk, .int .i64 2, .slice Aq nq cq, .int .i64 qlo, .int .i64 qhi, .int .i64 qva] 38)).alloc (.cells #[.int .i64 0, .string ⟨#[]⟩, .int .i64 0, .slice none 0 0, .int .i64 0, .int .i64 0, .int .i64 0] 38)).alloc (.cells #[.int .i64 2, .slice Aq nq cq, .int .i64 qlo, .int .i64 qhi, .int .i64 qva] 24); simpa using this)
  have HS1_0 : Hid (Str W0 (w.heap.size + 1) #[.int .i64 1, .string qk, .int .i64 2, .slice Aq nq cq, .int .i64 qlo, .int .i64 qhi, .int .i64 qva]) := Lib.hid (by rw [← hW0]; have := ((Str.new ((w).alloc (.cells #[.int .i64 3, .string qk, .int .i64 pst, .string pk, .int .i64 pkd, .slice Ap np cp, .int .i64 plo, .int .i64 phi, .int .i64 pva, .int .i64 un] 79)) #[.int .i64 1, .string qk, .int .i64 2, .slice Aq nq cq, .int .i64 qlo, .int .i64 qhi, .int .i64 qva] 38).alloc (.cells #[.int .i64 0, .string ⟨#[]⟩, .int .i64 0, .slice none 0 0, .int .i64 0, .int .i64 0, .int .i64 0] 38)).alloc (.cells #[.int .i64 2, .slice Aq nq cq, .int .i64 qlo, .int .i64 qhi, .int .i64 qva] 24); simpa using this)
  have HS2_0 : Hid (Str W0 (w.heap.size + 1 + 1) #[.int .i64 0, .string ⟨#[]⟩, .int .i64 0, .slice none 0 0, .int .i64 0, .int .i64 0, .int .i64 0]) := Lib.hid (by rw [← hW0]; have := (Str.new (((w).alloc (.cells #[.int .i64 3, .string qk, .int .i64 pst, .string pk, .int .i64 pkd, .slice Ap np cp, .int .i64 plo, .int .i64 phi, .int .i64 pva, .int .i64 un] 79)).alloc (.cells #[.int .i64 1, .string qk, .int .i64 2, .slice Aq nq cq, .int .i64 qlo, .int .i64 qhi, .int .i64 qva] 38)) #[.int .i64 0, .string ⟨#[]⟩, .int .i64 0, .slice none 0 0, .int .i64 0, .int .i64 0, .int .i64 0] 38).alloc (.cells #[.int .i64 2, .slice Aq nq cq, .int .i64 qlo, .int .i64 qhi, .int .i64 qva] 24); simpa using this)
  have HS3_0 : Hid (Str W0 (w.heap.size + 1 + 1 + 1) #[.int .i64 2, .slice Aq nq cq, .int .i64 qlo, .int .i64 qhi, .int .i64 qva]) := Lib.hid (by rw [← hW0]; have := Str.new ((((w).alloc (.cells #[.int .i64 3, .string qk, .int .i64 pst, .string pk, .int .i64 pkd, .slice Ap np cp, .int .i64 plo, .int .i64 phi, .int .i64 pva, .int .i64 un] 79)).alloc (.cells #[.int .i64 1, .string qk, .int .i64 2, .slice Aq nq cq, .int .i64 qlo, .int .i64 qhi, .int .i64 qva] 38)).alloc (.cells #[.int .i64 0, .string ⟨#[]⟩, .int .i64 0, .slice none 0 0, .int .i64 0, .int .i64 0, .int .i64 0] 38)) #[.int .i64 2, .slice Aq nq cq, .int .i64 qlo, .int .i64 qhi, .int .i64 qva] 24; simpa using this)
  have HB_0 : Hid (Below w.heap.size w W0) := Lib.hid (by rw [← hW0]; exact balloc (balloc (balloc (balloc (bsame w) _) _) _) _)
  have hw_0 := HB_0.out.size
  clear hW0
  obtain ⟨f0_0_0, f0_0_1, f0_0_2, f0_0_3, f0_0_4, f0_0_5, f0_0_6, f0_0_7, f0_0_8, f0_0_9⟩ := str10 HS0_0.out
  have hl0_0 := HS0_0.out.lt
  obtain ⟨f1_0_0, f1_0_1, f1_0_2, f1_0_3, f1_0_4, f1_0_5, f1_0_6⟩ := str7 HS1_0.out
  have hl1_0 := HS1_0.out.lt
  have hf1_0 := fun j => HS1_0.out.frozen j
  obtain ⟨f2_0_0, f2_0_1, f2_0_2, f2_0_3, f2_0_4, f2_0_5, f2_0_6⟩ := str7 HS2_0.out
  have hl2_0 := HS2_0.out.lt
  have hf2_0 := fun j => HS2_0.out.frozen j
  obtain ⟨f3_0_0, f3_0_1, f3_0_2, f3_0_3, f3_0_4⟩ := str5 HS3_0.out
  have hl3_0 := HS3_0.out.lt
  have hf3_0 := fun j => HS3_0.out.frozen j
  refine (HRT.out _).mono ?_
  rintro e W1 ⟨rfl, hb1⟩
  have HS0_1 := Lib.hid (HS0_0.out.next hb1)
  have HS1_1 := Lib.hid (HS1_0.out.next hb1)
  have HS2_1 := Lib.hid (HS2_0.out.next hb1)
  have HS3_1 := Lib.hid (HS3_0.out.next hb1)
  have HB_1 := Lib.hid (bstep HB_0.out hb1)
  have hw_1 := HB_1.out.size
  have hws_1 := (hb1).size
  clear f0_0_0 f0_0_1 f0_0_2 f0_0_3 f0_0_4 f0_0_5 f0_0_6 f0_0_7 f0_0_8 f0_0_9 HS0_0 f1_0_0 f1_0_1 f1_0_2 f1_0_3 f1_0_4 f1_0_5 f1_0_6 HS1_0 hf1_0 f2_0_0 f2_0_1 f2_0_2 f2_0_3 f2_0_4 f2_0_5 f2_0_6 HS2_0 hf2_0 f3_0_0 f3_0_1 f3_0_2 f3_0_3 f3_0_4 HS3_0 hf3_0
  clear hb1
  obtain ⟨f0_1_0, f0_1_1, f0_1_2, f0_1_3, f0_1_4, f0_1_5, f0_1_6, f0_1_7, f0_1_8, f0_1_9⟩ := str10 HS0_1.out
  have hl0_1 := HS0_1.out.lt
  obtain ⟨f1_1_0, f1_1_1, f1_1_2, f1_1_3, f1_1_4, f1_1_5, f1_1_6⟩ := str7 HS1_1.out
  have hl1_1 := HS1_1.out.lt
  have hf1_1 := fun j => HS1_1.out.frozen j
  obtain ⟨f2_1_0, f2_1_1, f2_1_2, f2_1_3, f2_1_4, f2_1_5, f2_1_6⟩ := str7 HS2_1.out
  have hl2_1 := HS2_1.out.lt
  have hf2_1 := fun j => HS2_1.out.frozen j
  obtain ⟨f3_1_0, f3_1_1, f3_1_2, f3_1_3, f3_1_4⟩ := str5 HS3_1.out
  have hl3_1 := HS3_1.out.lt
  have hf3_1 := fun j => HS3_1.out.frozen j
  go_wp2_with fail
  refine Reg.wp_region_tail (R := ext) (W := W1) [Reg.eqv (.pointer (some ⟨w.heap.size + 1 + 1 + 1, 4, none⟩)), Reg.eqv (.int .i64 qva), Reg.eqv (.agg #[.int .i64 (qva / 4294967296), .int .i64 (qva % 4294967296)]), Reg.eqv (.pointer (some ⟨w.heap.size, 9, none⟩)), Reg.eqv (.int .i64 un), Reg.eqv (.agg #[.int .i64 (un / 4294967296), .int .i64 (un % 4294967296)]), Reg.eqv (.agg #[.int .i64 ((qva + un) / 4294967296), .int .i64 ((qva + un) % 4294967296)]), Reg.fresh W1.heap.size #[.int .i64 0, .int .i64 0]] 83 8 _ [[(6, none)], [(44, some 0)], [(45, some 1)], [(2, none)], [(47, some 3)], [(48, some 4)], [(46, some 2), (49, some 5)], []] rfl (by kernel_rfl) (by kernel_rfl) (by rfl) (by rfl) rfl (by kernel_rfl) ?_ [some 44, some 45, some 46, some 47, some 48, some 49, some 50, some 7] (by kernel_rfl) ?_
  · refine ⟨?_, ?_, ?_, ?_, ?_, ?_, ?_, ?_, trivial⟩
    · intro ax wx hx hs
      obtain ⟨e6, -⟩ := hs
      have g6 := Reg.ev (v := .pointer (some ⟨w.heap.size + 1 + 1 + 1, 0, none⟩)) e6
      exact Reg.obl_free rfl (Reg.wp_eqv (Option.some_ne_none _) (by go_simp) rfl)
    · intro ax wx hx hs
      obtain ⟨e44, -⟩ := hs
      have g44 := Reg.ev (v := .pointer (some ⟨w.heap.size + 1 + 1 + 1, 4, none⟩)) e44
      obtain ⟨hc, -⟩ := bcell hx
      exact Reg.obl_free rfl (Reg.wp_eqv (Option.some_ne_none _) (by go_simp) rfl)
    · intro ax wx hx hs
      obtain ⟨e45, -⟩ := hs
      have g45 := Reg.ev (v := .int .i64 qva) e45
      refine Reg.obl_free rfl ?_
      go_simp
      refine (RefWide.of_any qva v1 v2 _).mono ?_
      rintro e wy ⟨rfl, hby⟩
      exact Reg.done (Option.some_ne_none _) rfl hby
    · intro ax wx hx hs
      obtain ⟨e2, -⟩ := hs
      have g2 := Reg.ev (v := .pointer (some ⟨w.heap.size, 0, none⟩)) e2
      exact Reg.obl_free rfl (Reg.wp_eqv (Option.some_ne_none _) (by go_simp) rfl)
    · intro ax wx hx hs
      obtain ⟨e47, -⟩ := hs
      have g47 := Reg.ev (v := .pointer (some ⟨w.heap.size, 9, none⟩)) e47
      obtain ⟨hc, -⟩ := bcell hx
      exact Reg.obl_free rfl (Reg.wp_eqv (Option.some_ne_none _) (by go_simp) rfl)
    · intro ax wx hx hs
      obtain ⟨e48, -⟩ := hs
      have g48 := Reg.ev (v := .int .i64 un) e48
      refine Reg.obl_free rfl ?_
      go_simp
      refine (RefWide.of_any un v3 v4 _).mono ?_
      rintro e wy ⟨rfl, hby⟩
      exact Reg.done (Option.some_ne_none _) rfl hby
    · intro ax wx hx hs
      obtain ⟨e46, e49, -⟩ := hs
      have g46 := Reg.ev (v := .agg #[.int .i64 (qva / 4294967296), .int .i64 (qva % 4294967296)]) e46
      have g49 := Reg.ev (v := .agg #[.int .i64 (un / 4294967296), .int .i64 (un % 4294967296)]) e49
      refine Reg.obl_free rfl ?_
      go_simp
      refine (RefWide.join_any qva un (by omega) (by omega) (by omega) (by omega) _).mono ?_
      rintro e wy ⟨rfl, hby⟩
      exact Reg.done (Option.some_ne_none _) rfl hby
    · intro ax wx hx hs
      refine Reg.obl_free rfl ?_
      have hx' : Below W1.heap.size W1 wx := hx
      go_simp
      exact Reg.done (Option.some_ne_none _) ⟨wx.heap.size, rfl, hx'.size, Str.new wx _ _⟩ (balloc (bsame wx) _)
  · intro W2 hwf
    simp only [Reg.Fin]
    rintro _ rfl _ rfl _ rfl _ rfl _ rfl _ rfl _ rfl v7 h7
    obtain ⟨g, rfl, hg, hSg⟩ := h7
    have hwf' : Below W1.heap.size W1 W2 := hwf
    clear hwf
    have HS0_2 := Lib.hid (HS0_1.out.next hwf')
    have HS1_2 := Lib.hid (HS1_1.out.next hwf')
    have HS2_2 := Lib.hid (HS2_1.out.next hwf')
    have HS3_2 := Lib.hid (HS3_1.out.next hwf')
    have HB_2 := Lib.hid (bstep HB_1.out hwf')
    have hw_2 := HB_2.out.size
    have hws_2 := (hwf').size
    clear f0_1_0 f0_1_1 f0_1_2 f0_1_3 f0_1_4 f0_1_5 f0_1_6 f0_1_7 f0_1_8 f0_1_9 HS0_1 f1_1_0 f1_1_1 f1_1_2 f1_1_3 f1_1_4 f1_1_5 f1_1_6 HS1_1 hf1_1 f2_1_0 f2_1_1 f2_1_2 f2_1_3 f2_1_4 f2_1_5 f2_1_6 HS2_1 hf2_1 f3_1_0 f3_1_1 f3_1_2 f3_1_3 f3_1_4 HS3_1 hf3_1
    clear hwf'
    obtain ⟨f0_2_0, f0_2_1, f0_2_2, f0_2_3, f0_2_4, f0_2_5, f0_2_6, f0_2_7, f0_2_8, f0_2_9⟩ := str10 HS0_2.out
    have hl0_2 := HS0_2.out.lt
    obtain ⟨f1_2_0, f1_2_1, f1_2_2, f1_2_3, f1_2_4, f1_2_5, f1_2_6⟩ := str7 HS1_2.out
    have hl1_2 := HS1_2.out.lt
    have hf1_2 := fun j => HS1_2.out.frozen j
    obtain ⟨f2_2_0, f2_2_1, f2_2_2, f2_2_3, f2_2_4, f2_2_5, f2_2_6⟩ := str7 HS2_2.out
    have hl2_2 := HS2_2.out.lt
    have hf2_2 := fun j => HS2_2.out.frozen j
    obtain ⟨f3_2_0, f3_2_1, f3_2_2, f3_2_3, f3_2_4⟩ := str5 HS3_2.out
    have hl3_2 := HS3_2.out.lt
    have hf3_2 := fun j => HS3_2.out.frozen j
    have HS4_2 := Lib.hid hSg
    clear hSg
    obtain ⟨f4_2_0, f4_2_1⟩ := str2 HS4_2.out
    have hl4_2 := HS4_2.out.lt
    have hf4_2 := fun j => HS4_2.out.frozen j
    refine Reg.Goal.mk ?_
    go_simp
    go_wp2_with fail
    generalize hW3 : ((W2).setCell ⟨g, 0, none⟩ (.int .i64 ((qva + un) / 4294967296))).setCell ⟨g, 1, none⟩ (.int .i64 ((qva + un) % 4294967296)) = W3
    have HS0_3 : Hid (Str W3 (w.heap.size) #[.int .i64 3, .string qk, .int .i64 pst, .string pk, .int .i64 pkd, .slice Ap np cp, .int .i64 plo, .int .i64 phi, .int .i64 pva, .int .i64 un]) := Lib.hid (by rw [← hW3]; exact ((HS0_2.out).other 0 _ (by omega)).other 1 _ (by omega))
    have HS1_3 : Hid (Str W3 (w.heap.size + 1) #[.int .i64 1, .string qk, .int .i64 2, .slice Aq nq cq, .int .i64 qlo, .int .i64 qhi, .int .i64 qva]) := Lib.hid (by rw [← hW3]; exact ((HS1_2.out).other 0 _ (by omega)).other 1 _ (by omega))
    have HS2_3 : Hid (Str W3 (w.heap.size + 1 + 1) #[.int .i64 0, .string ⟨#[]⟩, .int .i64 0, .slice none 0 0, .int .i64 0, .int .i64 0, .int .i64 0]) := Lib.hid (by rw [← hW3]; exact ((HS2_2.out).other 0 _ (by omega)).other 1 _ (by omega))
    have HS3_3 : Hid (Str W3 (w.heap.size + 1 + 1 + 1) #[.int .i64 2, .slice Aq nq cq, .int .i64 qlo, .int .i64 qhi, .int .i64 qva]) := Lib.hid (by rw [← hW3]; exact ((HS3_2.out).other 0 _ (by omega)).other 1 _ (by omega))
    have HS4_3 : Hid (Str W3 (g) #[.int .i64 ((qva + un) / 4294967296), .int .i64 ((qva + un) % 4294967296)]) := Lib.hid (by rw [← hW3]; have := ((HS4_2.out).set 0 (.int .i64 ((qva + un) / 4294967296))).set 1 (.int .i64 ((qva + un) % 4294967296)); simpa using this)
    have hgr3 : W2.grownBy W3 (some (g)) := by rw [← hW3]; exact grown_set (grown_set (grown_refl W2 (g)) 0 (.int .i64 ((qva + un) / 4294967296))) 1 (.int .i64 ((qva + un) % 4294967296))
    have HB_3 := Lib.hid (below_grown HB_2.out hgr3 (by omega))
    have hw_3 := HB_3.out.size
    have hws_3 := hgr3.size
    clear hW3
    clear f0_2_0 f0_2_1 f0_2_2 f0_2_3 f0_2_4 f0_2_5 f0_2_6 f0_2_7 f0_2_8 f0_2_9 HS0_2 f1_2_0 f1_2_1 f1_2_2 f1_2_3 f1_2_4 f1_2_5 f1_2_6 HS1_2 hf1_2 f2_2_0 f2_2_1 f2_2_2 f2_2_3 f2_2_4 f2_2_5 f2_2_6 HS2_2 hf2_2 f3_2_0 f3_2_1 f3_2_2 f3_2_3 f3_2_4 HS3_2 hf3_2 f4_2_0 f4_2_1 HS4_2 hf4_2
    clear hgr3
    obtain ⟨f0_3_0, f0_3_1, f0_3_2, f0_3_3, f0_3_4, f0_3_5, f0_3_6, f0_3_7, f0_3_8, f0_3_9⟩ := str10 HS0_3.out
    have hl0_3 := HS0_3.out.lt
    obtain ⟨f1_3_0, f1_3_1, f1_3_2, f1_3_3, f1_3_4, f1_3_5, f1_3_6⟩ := str7 HS1_3.out
    have hl1_3 := HS1_3.out.lt
    have hf1_3 := fun j => HS1_3.out.frozen j
    obtain ⟨f2_3_0, f2_3_1, f2_3_2, f2_3_3, f2_3_4, f2_3_5, f2_3_6⟩ := str7 HS2_3.out
    have hl2_3 := HS2_3.out.lt
    have hf2_3 := fun j => HS2_3.out.frozen j
    obtain ⟨f3_3_0, f3_3_1, f3_3_2, f3_3_3, f3_3_4⟩ := str5 HS3_3.out
    have hl3_3 := HS3_3.out.lt
    have hf3_3 := fun j => HS3_3.out.frozen j
    obtain ⟨f4_3_0, f4_3_1⟩ := str2 HS4_3.out
    have hl4_3 := HS4_3.out.lt
    have hf4_3 := fun j => HS4_3.out.frozen j
    refine Reg.wp_region_tail (R := ext) (W := W3) [Reg.eqv (.pointer (some ⟨w.heap.size + 1 + 1 + 1, 4, none⟩)), Reg.eqv (.int .i64 qva), Reg.eqv (.agg #[.int .i64 (qva / 4294967296), .int .i64 (qva % 4294967296)]), Reg.eqv (.pointer (some ⟨w.heap.size, 9, none⟩)), Reg.eqv (.int .i64 un), Reg.eqv (.agg #[.int .i64 (un / 4294967296), .int .i64 (un % 4294967296)]), Reg.eqv (.agg #[.int .i64 ((qva - un) / 4294967296), .int .i64 ((qva - un) % 4294967296)])] 83 7 _ [[(6, none)], [(54, some 0)], [(55, some 1)], [(2, none)], [(57, some 3)], [(58, some 4)], [(56, some 2), (59, some 5)]] rfl (by kernel_rfl) (by kernel_rfl) (by rfl) (by rfl) rfl (by kernel_rfl) ?_ [some 54, some 55, some 56, some 57, some 58, some 59, some 60] (by kernel_rfl) ?_
    · refine ⟨?_, ?_, ?_, ?_, ?_, ?_, ?_, trivial⟩
      · intro ax wx hx hs
        obtain ⟨e6, -⟩ := hs
        have g6 := Reg.ev (v := .pointer (some ⟨w.heap.size + 1 + 1 + 1, 0, none⟩)) e6
        exact Reg.obl_free rfl (Reg.wp_eqv (Option.some_ne_none _) (by go_simp) rfl)
      · intro ax wx hx hs
        obtain ⟨e54, -⟩ := hs
        have g54 := Reg.ev (v := .pointer (some ⟨w.heap.size + 1 + 1 + 1, 4, none⟩)) e54
        obtain ⟨hc, -⟩ := bcell hx
        exact Reg.obl_free rfl (Reg.wp_eqv (Option.some_ne_none _) (by go_simp) rfl)
      · intro ax wx hx hs
        obtain ⟨e55, -⟩ := hs
        have g55 := Reg.ev (v := .int .i64 qva) e55
        refine Reg.obl_free rfl ?_
        go_simp
        refine (RefWide.of_any qva v1 v2 _).mono ?_
        rintro e wy ⟨rfl, hby⟩
        exact Reg.done (Option.some_ne_none _) rfl hby
      · intro ax wx hx hs
        obtain ⟨e2, -⟩ := hs
        have g2 := Reg.ev (v := .pointer (some ⟨w.heap.size, 0, none⟩)) e2
        exact Reg.obl_free rfl (Reg.wp_eqv (Option.some_ne_none _) (by go_simp) rfl)
      · intro ax wx hx hs
        obtain ⟨e57, -⟩ := hs
        have g57 := Reg.ev (v := .pointer (some ⟨w.heap.size, 9, none⟩)) e57
        obtain ⟨hc, -⟩ := bcell hx
        exact Reg.obl_free rfl (Reg.wp_eqv (Option.some_ne_none _) (by go_simp) rfl)
      · intro ax wx hx hs
        obtain ⟨e58, -⟩ := hs
        have g58 := Reg.ev (v := .int .i64 un) e58
        refine Reg.obl_free rfl ?_
        go_simp
        refine (RefWide.of_any un v3 v4 _).mono ?_
        rintro e wy ⟨rfl, hby⟩
        exact Reg.done (Option.some_ne_none _) rfl hby
      · intro ax wx hx hs
        obtain ⟨e56, e59, -⟩ := hs
        have g56 := Reg.ev (v := .agg #[.int .i64 (qva / 4294967296), .int .i64 (qva % 4294967296)]) e56
        have g59 := Reg.ev (v := .agg #[.int .i64 (un / 4294967296), .int .i64 (un % 4294967296)]) e59
        refine Reg.obl_free rfl ?_
        go_simp
        refine (RefWide.take_any qva un (by omega) (by omega) (by omega) (by omega) _).mono ?_
        rintro e wy ⟨rfl, hby⟩
        exact Reg.done (Option.some_ne_none _) rfl hby
    · intro W4 hwf
      simp only [Reg.Fin]
      rintro _ rfl _ rfl _ rfl _ rfl _ rfl _ rfl _ rfl
      have hwf' : Below W3.heap.size W3 W4 := hwf
      clear hwf
      have HS0_4 := Lib.hid (HS0_3.out.next hwf')
      have HS1_4 := Lib.hid (HS1_3.out.next hwf')
      have HS2_4 := Lib.hid (HS2_3.out.next hwf')
      have HS3_4 := Lib.hid (HS3_3.out.next hwf')
      have HS4_4 := Lib.hid (HS4_3.out.next hwf')
      have HB_4 := Lib.hid (bstep HB_3.out hwf')
      have hw_4 := HB_4.out.size
      have hws_4 := (hwf').size
      clear f0_3_0 f0_3_1 f0_3_2 f0_3_3 f0_3_4 f0_3_5 f0_3_6 f0_3_7 f0_3_8 f0_3_9 HS0_3 f1_3_0 f1_3_1 f1_3_2 f1_3_3 f1_3_4 f1_3_5 f1_3_6 HS1_3 hf1_3 f2_3_0 f2_3_1 f2_3_2 f2_3_3 f2_3_4 f2_3_5 f2_3_6 HS2_3 hf2_3 f3_3_0 f3_3_1 f3_3_2 f3_3_3 f3_3_4 HS3_3 hf3_3 f4_3_0 f4_3_1 HS4_3 hf4_3
      clear hwf'
      obtain ⟨f0_4_0, f0_4_1, f0_4_2, f0_4_3, f0_4_4, f0_4_5, f0_4_6, f0_4_7, f0_4_8, f0_4_9⟩ := str10 HS0_4.out
      have hl0_4 := HS0_4.out.lt
      obtain ⟨f1_4_0, f1_4_1, f1_4_2, f1_4_3, f1_4_4, f1_4_5, f1_4_6⟩ := str7 HS1_4.out
      have hl1_4 := HS1_4.out.lt
      have hf1_4 := fun j => HS1_4.out.frozen j
      obtain ⟨f2_4_0, f2_4_1, f2_4_2, f2_4_3, f2_4_4, f2_4_5, f2_4_6⟩ := str7 HS2_4.out
      have hl2_4 := HS2_4.out.lt
      have hf2_4 := fun j => HS2_4.out.frozen j
      obtain ⟨f3_4_0, f3_4_1, f3_4_2, f3_4_3, f3_4_4⟩ := str5 HS3_4.out
      have hl3_4 := HS3_4.out.lt
      have hf3_4 := fun j => HS3_4.out.frozen j
      obtain ⟨f4_4_0, f4_4_1⟩ := str2 HS4_4.out
      have hl4_4 := HS4_4.out.lt
      have hf4_4 := fun j => HS4_4.out.frozen j
      refine Reg.Goal.mk ?_
      go_simp
      go_wp2_with fail
      generalize hW5 : ((W4).setCell ⟨g, 0, none⟩ (.int .i64 ((qva - un) / 4294967296))).setCell ⟨g, 1, none⟩ (.int .i64 ((qva - un) % 4294967296)) = W5
      have HS0_5 : Hid (Str W5 (w.heap.size) #[.int .i64 3, .string qk, .int .i64 pst, .string pk, .int .i64 pkd, .slice Ap np cp, .int .i64 plo, .int .i64 phi, .int .i64 pva, .int .i64 un]) := Lib.hid (by rw [← hW5]; exact ((HS0_4.out).other 0 _ (by omega)).other 1 _ (by omega))
      have HS1_5 : Hid (Str W5 (w.heap.size + 1) #[.int .i64 1, .string qk, .int .i64 2, .slice Aq nq cq, .int .i64 qlo, .int .i64 qhi, .int .i64 qva]) := Lib.hid (by rw [← hW5]; exact ((HS1_4.out).other 0 _ (by omega)).other 1 _ (by omega))
      have HS2_5 : Hid (Str W5 (w.heap.size + 1 + 1) #[.int .i64 0, .string ⟨#[]⟩, .int .i64 0, .slice none 0 0, .int .i64 0, .int .i64 0, .int .i64 0]) := Lib.hid (by rw [← hW5]; exact ((HS2_4.out).other 0 _ (by omega)).other 1 _ (by omega))
      have HS3_5 : Hid (Str W5 (w.heap.size + 1 + 1 + 1) #[.int .i64 2, .slice Aq nq cq, .int .i64 qlo, .int .i64 qhi, .int .i64 qva]) := Lib.hid (by rw [← hW5]; exact ((HS3_4.out).other 0 _ (by omega)).other 1 _ (by omega))
      have HS4_5 : Hid (Str W5 (g) #[.int .i64 ((qva - un) / 4294967296), .int .i64 ((qva - un) % 4294967296)]) := Lib.hid (by rw [← hW5]; have := ((HS4_4.out).set 0 (.int .i64 ((qva - un) / 4294967296))).set 1 (.int .i64 ((qva - un) % 4294967296)); simpa using this)
      have hgr5 : W4.grownBy W5 (some (g)) := by rw [← hW5]; exact grown_set (grown_set (grown_refl W4 (g)) 0 (.int .i64 ((qva - un) / 4294967296))) 1 (.int .i64 ((qva - un) % 4294967296))
      have HB_5 := Lib.hid (below_grown HB_4.out hgr5 (by omega))
      have hw_5 := HB_5.out.size
      have hws_5 := hgr5.size
      clear hW5
      clear f0_4_0 f0_4_1 f0_4_2 f0_4_3 f0_4_4 f0_4_5 f0_4_6 f0_4_7 f0_4_8 f0_4_9 HS0_4 f1_4_0 f1_4_1 f1_4_2 f1_4_3 f1_4_4 f1_4_5 f1_4_6 HS1_4 hf1_4 f2_4_0 f2_4_1 f2_4_2 f2_4_3 f2_4_4 f2_4_5 f2_4_6 HS2_4 hf2_4 f3_4_0 f3_4_1 f3_4_2 f3_4_3 f3_4_4 HS3_4 hf3_4 f4_4_0 f4_4_1 HS4_4 hf4_4
      clear hgr5
      obtain ⟨f0_5_0, f0_5_1, f0_5_2, f0_5_3, f0_5_4, f0_5_5, f0_5_6, f0_5_7, f0_5_8, f0_5_9⟩ := str10 HS0_5.out
      have hl0_5 := HS0_5.out.lt
      obtain ⟨f1_5_0, f1_5_1, f1_5_2, f1_5_3, f1_5_4, f1_5_5, f1_5_6⟩ := str7 HS1_5.out
      have hl1_5 := HS1_5.out.lt
      have hf1_5 := fun j => HS1_5.out.frozen j
      obtain ⟨f2_5_0, f2_5_1, f2_5_2, f2_5_3, f2_5_4, f2_5_5, f2_5_6⟩ := str7 HS2_5.out
      have hl2_5 := HS2_5.out.lt
      have hf2_5 := fun j => HS2_5.out.frozen j
      obtain ⟨f3_5_0, f3_5_1, f3_5_2, f3_5_3, f3_5_4⟩ := str5 HS3_5.out
      have hl3_5 := HS3_5.out.lt
      have hf3_5 := fun j => HS3_5.out.frozen j
      obtain ⟨f4_5_0, f4_5_1⟩ := str2 HS4_5.out
      have hl4_5 := HS4_5.out.lt
      have hf4_5 := fun j => HS4_5.out.frozen j
      refine Reg.wp_region_vals (R := ext) (W := W5) [Reg.eqv (.agg #[.int .i64 ((qva - un) / 4294967296), .int .i64 ((qva - un) % 4294967296)]), Reg.eqv (.pointer (some ⟨w.heap.size + 1 + 1 + 1, 2, none⟩)), Reg.eqv (.int .i64 qlo), Reg.eqv (.agg #[.int .i64 (qlo / 4294967296), .int .i64 (qlo % 4294967296)]), Reg.eqv (.bool false), Reg.eqv (.bool false), Reg.eqv (.pointer (some ⟨w.heap.size + 1 + 1 + 1, 3, none⟩)), Reg.eqv (.int .i64 qhi), Reg.eqv (.agg #[.int .i64 (qhi / 4294967296), .int .i64 (qhi % 4294967296)]), Reg.eqv (.agg #[.int .i64 ((qva - un) / 4294967296), .int .i64 ((qva - un) % 4294967296)]), Reg.eqv (.bool false), Reg.eqv (.bool false)] 83 [[(7, none)], [(6, none)], [(62, some 1)], [(63, some 2)], [(61, some 0), (64, some 3)], [(65, some 4)], [(6, none), (66, some 5)], [(67, some 6), (66, some 5)], [(68, some 7), (66, some 5)], [(7, none), (66, some 5)], [(69, some 8), (70, some 9), (66, some 5)], [(66, some 5), (71, some 10)]] rfl (by kernel_rfl) (by kernel_rfl) (by kernel_rfl) ?_ [some 61, some 62, some 63, some 64, some 65, some 66, some 67, some 68, some 69, some 70, some 71, some 72] (by kernel_rfl) ?_
      · refine ⟨?_, ?_, ?_, ?_, ?_, ?_, ?_, ?_, ?_, ?_, ?_, ?_, trivial⟩
        · intro ax wx hx hs
          obtain ⟨e7, -⟩ := hs
          have g7 := Reg.ev (v := .pointer (some ⟨g, 0, none⟩)) e7
          obtain ⟨hc, -⟩ := bcell hx
          exact Reg.obl_free rfl (Reg.wp_eqv (Option.some_ne_none _) (by go_simp) rfl)
        · intro ax wx hx hs
          obtain ⟨e6, -⟩ := hs
          have g6 := Reg.ev (v := .pointer (some ⟨w.heap.size + 1 + 1 + 1, 0, none⟩)) e6
          exact Reg.obl_free rfl (Reg.wp_eqv (Option.some_ne_none _) (by go_simp) rfl)
        · intro ax wx hx hs
          obtain ⟨e62, -⟩ := hs
          have g62 := Reg.ev (v := .pointer (some ⟨w.heap.size + 1 + 1 + 1, 2, none⟩)) e62
          obtain ⟨hc, -⟩ := bcell hx
          exact Reg.obl_free rfl (Reg.wp_eqv (Option.some_ne_none _) (by go_simp) rfl)
        · intro ax wx hx hs
          obtain ⟨e63, -⟩ := hs
          have g63 := Reg.ev (v := .int .i64 qlo) e63
          refine Reg.obl_free rfl ?_
          go_simp
          refine (RefWide.of_any qlo v5 v6 _).mono ?_
          rintro e wy ⟨rfl, hby⟩
          exact Reg.done (Option.some_ne_none _) rfl hby
        · intro ax wx hx hs
          obtain ⟨e61, e64, -⟩ := hs
          have g61 := Reg.ev (v := .agg #[.int .i64 ((qva - un) / 4294967296), .int .i64 ((qva - un) % 4294967296)]) e61
          have g64 := Reg.ev (v := .agg #[.int .i64 (qlo / 4294967296), .int .i64 (qlo % 4294967296)]) e64
          refine Reg.obl_free rfl ?_
          go_simp
          refine (RefWide.less_any (qva - un) qlo _).mono ?_
          rintro e wy ⟨rfl, hby⟩
          rw [HLO.out]
          exact Reg.done (Option.some_ne_none _) rfl hby
        · intro ax wx hx hs
          obtain ⟨e65, -⟩ := hs
          have g65 := Reg.ev (v := .bool false) e65
          exact Reg.obl_free rfl (Reg.wp_eqv (Option.some_ne_none _) (by go_simp) rfl)
        · intro ax wx hx hs
          obtain ⟨e6, e66, -⟩ := hs
          have g6 := Reg.ev (v := .pointer (some ⟨w.heap.size + 1 + 1 + 1, 0, none⟩)) e6
          have g66 := Reg.ev (v := .bool false) e66
          exact Reg.obl_want rfl rfl e66 (Reg.wp_eqv (Option.some_ne_none _) (by go_simp) rfl)
        · intro ax wx hx hs
          obtain ⟨e67, e66, -⟩ := hs
          have g67 := Reg.ev (v := .pointer (some ⟨w.heap.size + 1 + 1 + 1, 3, none⟩)) e67
          have g66 := Reg.ev (v := .bool false) e66
          obtain ⟨hc, -⟩ := bcell hx
          exact Reg.obl_want rfl rfl e66 (Reg.wp_eqv (Option.some_ne_none _) (by go_simp) rfl)
        · intro ax wx hx hs
          obtain ⟨e68, e66, -⟩ := hs
          have g68 := Reg.ev (v := .int .i64 qhi) e68
          have g66 := Reg.ev (v := .bool false) e66
          refine Reg.obl_want rfl rfl e66 ?_
          go_simp
          refine (RefWide.of_any qhi v7 v8 _).mono ?_
          rintro e wy ⟨rfl, hby⟩
          exact Reg.done (Option.some_ne_none _) rfl hby
        · intro ax wx hx hs
          obtain ⟨e7, e66, -⟩ := hs
          have g7 := Reg.ev (v := .pointer (some ⟨g, 0, none⟩)) e7
          have g66 := Reg.ev (v := .bool false) e66
          obtain ⟨hc, -⟩ := bcell hx
          exact Reg.obl_want rfl rfl e66 (Reg.wp_eqv (Option.some_ne_none _) (by go_simp) rfl)
        · intro ax wx hx hs
          obtain ⟨e69, e70, e66, -⟩ := hs
          have g69 := Reg.ev (v := .agg #[.int .i64 (qhi / 4294967296), .int .i64 (qhi % 4294967296)]) e69
          have g70 := Reg.ev (v := .agg #[.int .i64 ((qva - un) / 4294967296), .int .i64 ((qva - un) % 4294967296)]) e70
          have g66 := Reg.ev (v := .bool false) e66
          refine Reg.obl_want rfl rfl e66 ?_
          go_simp
          refine (RefWide.less_any qhi (qva - un) _).mono ?_
          rintro e wy ⟨rfl, hby⟩
          rw [HHI.out]
          exact Reg.done (Option.some_ne_none _) rfl hby
        · intro ax wx hx hs
          obtain ⟨e66, e71, -⟩ := hs
          have g66 := Reg.ev (v := .bool false) e66
          have g71 := Reg.ev (v := .bool false) e71
          exact Reg.obl_free rfl (Reg.wp_eqv (Option.some_ne_none _) (by go_simp) rfl)
      · intro W6 hwf
        simp only [Reg.Fin]
        rintro _ rfl _ rfl _ rfl _ rfl _ rfl _ rfl _ rfl _ rfl _ rfl _ rfl _ rfl _ rfl
        go_simp
        have HS0_6 := Lib.hid (HS0_5.out.next hwf)
        have HS1_6 := Lib.hid (HS1_5.out.next hwf)
        have HS2_6 := Lib.hid (HS2_5.out.next hwf)
        have HS3_6 := Lib.hid (HS3_5.out.next hwf)
        have HS4_6 := Lib.hid (HS4_5.out.next hwf)
        have HB_6 := Lib.hid (bstep HB_5.out hwf)
        have hw_6 := HB_6.out.size
        have hws_6 := (hwf).size
        clear f0_5_0 f0_5_1 f0_5_2 f0_5_3 f0_5_4 f0_5_5 f0_5_6 f0_5_7 f0_5_8 f0_5_9 HS0_5 f1_5_0 f1_5_1 f1_5_2 f1_5_3 f1_5_4 f1_5_5 f1_5_6 HS1_5 hf1_5 f2_5_0 f2_5_1 f2_5_2 f2_5_3 f2_5_4 f2_5_5 f2_5_6 HS2_5 hf2_5 f3_5_0 f3_5_1 f3_5_2 f3_5_3 f3_5_4 HS3_5 hf3_5 f4_5_0 f4_5_1 HS4_5 hf4_5
        clear hwf
        obtain ⟨f0_6_0, f0_6_1, f0_6_2, f0_6_3, f0_6_4, f0_6_5, f0_6_6, f0_6_7, f0_6_8, f0_6_9⟩ := str10 HS0_6.out
        have hl0_6 := HS0_6.out.lt
        obtain ⟨f1_6_0, f1_6_1, f1_6_2, f1_6_3, f1_6_4, f1_6_5, f1_6_6⟩ := str7 HS1_6.out
        have hl1_6 := HS1_6.out.lt
        have hf1_6 := fun j => HS1_6.out.frozen j
        obtain ⟨f2_6_0, f2_6_1, f2_6_2, f2_6_3, f2_6_4, f2_6_5, f2_6_6⟩ := str7 HS2_6.out
        have hl2_6 := HS2_6.out.lt
        have hf2_6 := fun j => HS2_6.out.frozen j
        obtain ⟨f3_6_0, f3_6_1, f3_6_2, f3_6_3, f3_6_4⟩ := str5 HS3_6.out
        have hl3_6 := HS3_6.out.lt
        have hf3_6 := fun j => HS3_6.out.frozen j
        obtain ⟨f4_6_0, f4_6_1⟩ := str2 HS4_6.out
        have hl4_6 := HS4_6.out.lt
        have hf4_6 := fun j => HS4_6.out.frozen j
        go_wp2_with fail
        refine (RefWide.int_any (qva - un) _).mono ?_
        rintro e W7 ⟨rfl, hb7⟩
        rw [HNUM.out]
        have HS0_7 := Lib.hid (HS0_6.out.next hb7)
        have HS1_7 := Lib.hid (HS1_6.out.next hb7)
        have HS2_7 := Lib.hid (HS2_6.out.next hb7)
        have HS3_7 := Lib.hid (HS3_6.out.next hb7)
        have HS4_7 := Lib.hid (HS4_6.out.next hb7)
        have HB_7 := Lib.hid (bstep HB_6.out hb7)
        have hw_7 := HB_7.out.size
        have hws_7 := (hb7).size
        clear f0_6_0 f0_6_1 f0_6_2 f0_6_3 f0_6_4 f0_6_5 f0_6_6 f0_6_7 f0_6_8 f0_6_9 HS0_6 f1_6_0 f1_6_1 f1_6_2 f1_6_3 f1_6_4 f1_6_5 f1_6_6 HS1_6 hf1_6 f2_6_0 f2_6_1 f2_6_2 f2_6_3 f2_6_4 f2_6_5 f2_6_6 HS2_6 hf2_6 f3_6_0 f3_6_1 f3_6_2 f3_6_3 f3_6_4 HS3_6 hf3_6 f4_6_0 f4_6_1 HS4_6 hf4_6
        clear hb7
        obtain ⟨f0_7_0, f0_7_1, f0_7_2, f0_7_3, f0_7_4, f0_7_5, f0_7_6, f0_7_7, f0_7_8, f0_7_9⟩ := str10 HS0_7.out
        have hl0_7 := HS0_7.out.lt
        obtain ⟨f1_7_0, f1_7_1, f1_7_2, f1_7_3, f1_7_4, f1_7_5, f1_7_6⟩ := str7 HS1_7.out
        have hl1_7 := HS1_7.out.lt
        have hf1_7 := fun j => HS1_7.out.frozen j
        obtain ⟨f2_7_0, f2_7_1, f2_7_2, f2_7_3, f2_7_4, f2_7_5, f2_7_6⟩ := str7 HS2_7.out
        have hl2_7 := HS2_7.out.lt
        have hf2_7 := fun j => HS2_7.out.frozen j
        obtain ⟨f3_7_0, f3_7_1, f3_7_2, f3_7_3, f3_7_4⟩ := str5 HS3_7.out
        have hl3_7 := HS3_7.out.lt
        have hf3_7 := fun j => HS3_7.out.frozen j
        obtain ⟨f4_7_0, f4_7_1⟩ := str2 HS4_7.out
        have hl4_7 := HS4_7.out.lt
        have hf4_7 := fun j => HS4_7.out.frozen j
        go_wp2_with fail
        generalize hW8 : (W7).setCell ⟨w.heap.size + 1 + 1 + 1, 4, none⟩ (.int .i64 (qva - un)) = W8
        have HS0_8 : Hid (Str W8 (w.heap.size) #[.int .i64 3, .string qk, .int .i64 pst, .string pk, .int .i64 pkd, .slice Ap np cp, .int .i64 plo, .int .i64 phi, .int .i64 pva, .int .i64 un]) := Lib.hid (by rw [← hW8]; exact (HS0_7.out).other 4 _ (by omega))
        have HS1_8 : Hid (Str W8 (w.heap.size + 1) #[.int .i64 1, .string qk, .int .i64 2, .slice Aq nq cq, .int .i64 qlo, .int .i64 qhi, .int .i64 qva]) := Lib.hid (by rw [← hW8]; exact (HS1_7.out).other 4 _ (by omega))
        have HS2_8 : Hid (Str W8 (w.heap.size + 1 + 1) #[.int .i64 0, .string ⟨#[]⟩, .int .i64 0, .slice none 0 0, .int .i64 0, .int .i64 0, .int .i64 0]) := Lib.hid (by rw [← hW8]; exact (HS2_7.out).other 4 _ (by omega))
        have HS3_8 : Hid (Str W8 (w.heap.size + 1 + 1 + 1) #[.int .i64 2, .slice Aq nq cq, .int .i64 qlo, .int .i64 qhi, .int .i64 (qva - un)]) := Lib.hid (by rw [← hW8]; have := (HS3_7.out).set 4 (.int .i64 (qva - un)); simpa using this)
        have HS4_8 : Hid (Str W8 (g) #[.int .i64 ((qva - un) / 4294967296), .int .i64 ((qva - un) % 4294967296)]) := Lib.hid (by rw [← hW8]; exact (HS4_7.out).other 4 _ (by omega))
        have hgr8 : W7.grownBy W8 (some (w.heap.size + 1 + 1 + 1)) := by rw [← hW8]; exact grown_set (grown_refl W7 (w.heap.size + 1 + 1 + 1)) 4 (.int .i64 (qva - un))
        have HB_8 := Lib.hid (below_grown HB_7.out hgr8 (by omega))
        have hw_8 := HB_8.out.size
        have hws_8 := hgr8.size
        clear hW8
        clear f0_7_0 f0_7_1 f0_7_2 f0_7_3 f0_7_4 f0_7_5 f0_7_6 f0_7_7 f0_7_8 f0_7_9 HS0_7 f1_7_0 f1_7_1 f1_7_2 f1_7_3 f1_7_4 f1_7_5 f1_7_6 HS1_7 hf1_7 f2_7_0 f2_7_1 f2_7_2 f2_7_3 f2_7_4 f2_7_5 f2_7_6 HS2_7 hf2_7 f3_7_0 f3_7_1 f3_7_2 f3_7_3 f3_7_4 HS3_7 hf3_7 f4_7_0 f4_7_1 HS4_7 hf4_7
        clear hgr8
        obtain ⟨f0_8_0, f0_8_1, f0_8_2, f0_8_3, f0_8_4, f0_8_5, f0_8_6, f0_8_7, f0_8_8, f0_8_9⟩ := str10 HS0_8.out
        have hl0_8 := HS0_8.out.lt
        obtain ⟨f1_8_0, f1_8_1, f1_8_2, f1_8_3, f1_8_4, f1_8_5, f1_8_6⟩ := str7 HS1_8.out
        have hl1_8 := HS1_8.out.lt
        have hf1_8 := fun j => HS1_8.out.frozen j
        obtain ⟨f2_8_0, f2_8_1, f2_8_2, f2_8_3, f2_8_4, f2_8_5, f2_8_6⟩ := str7 HS2_8.out
        have hl2_8 := HS2_8.out.lt
        have hf2_8 := fun j => HS2_8.out.frozen j
        obtain ⟨f3_8_0, f3_8_1, f3_8_2, f3_8_3, f3_8_4⟩ := str5 HS3_8.out
        have hl3_8 := HS3_8.out.lt
        have hf3_8 := fun j => HS3_8.out.frozen j
        obtain ⟨f4_8_0, f4_8_1⟩ := str2 HS4_8.out
        have hl4_8 := HS4_8.out.lt
        have hf4_8 := fun j => HS4_8.out.frozen j
        generalize hW9 : (((((W8).setCell ⟨w.heap.size + 1, 2, none⟩ (.int .i64 2)).setCell ⟨w.heap.size + 1, 3, none⟩ (.slice Aq nq cq)).setCell ⟨w.heap.size + 1, 4, none⟩ (.int .i64 qlo)).setCell ⟨w.heap.size + 1, 5, none⟩ (.int .i64 qhi)).setCell ⟨w.heap.size + 1, 6, none⟩ (.int .i64 (qva - un)) = W9
        have HS0_9 : Hid (Str W9 (w.heap.size) #[.int .i64 3, .string qk, .int .i64 pst, .string pk, .int .i64 pkd, .slice Ap np cp, .int .i64 plo, .int .i64 phi, .int .i64 pva, .int .i64 un]) := Lib.hid (by rw [← hW9]; exact (((((HS0_8.out).other 2 _ (by omega)).other 3 _ (by omega)).other 4 _ (by omega)).other 5 _ (by omega)).other 6 _ (by omega))
        have HS1_9 : Hid (Str W9 (w.heap.size + 1) #[.int .i64 1, .string qk, .int .i64 2, .slice Aq nq cq, .int .i64 qlo, .int .i64 qhi, .int .i64 (qva - un)]) := Lib.hid (by rw [← hW9]; have := (((((HS1_8.out).set 2 (.int .i64 2)).set 3 (.slice Aq nq cq)).set 4 (.int .i64 qlo)).set 5 (.int .i64 qhi)).set 6 (.int .i64 (qva - un)); simpa using this)
        have HS2_9 : Hid (Str W9 (w.heap.size + 1 + 1) #[.int .i64 0, .string ⟨#[]⟩, .int .i64 0, .slice none 0 0, .int .i64 0, .int .i64 0, .int .i64 0]) := Lib.hid (by rw [← hW9]; exact (((((HS2_8.out).other 2 _ (by omega)).other 3 _ (by omega)).other 4 _ (by omega)).other 5 _ (by omega)).other 6 _ (by omega))
        have HS3_9 : Hid (Str W9 (w.heap.size + 1 + 1 + 1) #[.int .i64 2, .slice Aq nq cq, .int .i64 qlo, .int .i64 qhi, .int .i64 (qva - un)]) := Lib.hid (by rw [← hW9]; exact (((((HS3_8.out).other 2 _ (by omega)).other 3 _ (by omega)).other 4 _ (by omega)).other 5 _ (by omega)).other 6 _ (by omega))
        have HS4_9 : Hid (Str W9 (g) #[.int .i64 ((qva - un) / 4294967296), .int .i64 ((qva - un) % 4294967296)]) := Lib.hid (by rw [← hW9]; exact (((((HS4_8.out).other 2 _ (by omega)).other 3 _ (by omega)).other 4 _ (by omega)).other 5 _ (by omega)).other 6 _ (by omega))
        have hgr9 : W8.grownBy W9 (some (w.heap.size + 1)) := by rw [← hW9]; exact grown_set (grown_set (grown_set (grown_set (grown_set (grown_refl W8 (w.heap.size + 1)) 2 (.int .i64 2)) 3 (.slice Aq nq cq)) 4 (.int .i64 qlo)) 5 (.int .i64 qhi)) 6 (.int .i64 (qva - un))
        have HB_9 := Lib.hid (below_grown HB_8.out hgr9 (by omega))
        have hw_9 := HB_9.out.size
        have hws_9 := hgr9.size
        clear hW9
        clear f0_8_0 f0_8_1 f0_8_2 f0_8_3 f0_8_4 f0_8_5 f0_8_6 f0_8_7 f0_8_8 f0_8_9 HS0_8 f1_8_0 f1_8_1 f1_8_2 f1_8_3 f1_8_4 f1_8_5 f1_8_6 HS1_8 hf1_8 f2_8_0 f2_8_1 f2_8_2 f2_8_3 f2_8_4 f2_8_5 f2_8_6 HS2_8 hf2_8 f3_8_0 f3_8_1 f3_8_2 f3_8_3 f3_8_4 HS3_8 hf3_8 f4_8_0 f4_8_1 HS4_8 hf4_8
        clear hgr9
        obtain ⟨f0_9_0, f0_9_1, f0_9_2, f0_9_3, f0_9_4, f0_9_5, f0_9_6, f0_9_7, f0_9_8, f0_9_9⟩ := str10 HS0_9.out
        have hl0_9 := HS0_9.out.lt
        obtain ⟨f1_9_0, f1_9_1, f1_9_2, f1_9_3, f1_9_4, f1_9_5, f1_9_6⟩ := str7 HS1_9.out
        have hl1_9 := HS1_9.out.lt
        have hf1_9 := fun j => HS1_9.out.frozen j
        obtain ⟨f2_9_0, f2_9_1, f2_9_2, f2_9_3, f2_9_4, f2_9_5, f2_9_6⟩ := str7 HS2_9.out
        have hl2_9 := HS2_9.out.lt
        have hf2_9 := fun j => HS2_9.out.frozen j
        obtain ⟨f3_9_0, f3_9_1, f3_9_2, f3_9_3, f3_9_4⟩ := str5 HS3_9.out
        have hl3_9 := HS3_9.out.lt
        have hf3_9 := fun j => HS3_9.out.frozen j
        obtain ⟨f4_9_0, f4_9_1⟩ := str2 HS4_9.out
        have hl4_9 := HS4_9.out.lt
        have hf4_9 := fun j => HS4_9.out.frozen j
        generalize hW10 : (((((((W9).setCell ⟨w.heap.size + 1 + 1, 0, none⟩ (.int .i64 1)).setCell ⟨w.heap.size + 1 + 1, 1, none⟩ (.string qk)).setCell ⟨w.heap.size + 1 + 1, 2, none⟩ (.int .i64 2)).setCell ⟨w.heap.size + 1 + 1, 3, none⟩ (.slice Aq nq cq)).setCell ⟨w.heap.size + 1 + 1, 4, none⟩ (.int .i64 qlo)).setCell ⟨w.heap.size + 1 + 1, 5, none⟩ (.int .i64 qhi)).setCell ⟨w.heap.size + 1 + 1, 6, none⟩ (.int .i64 (qva - un)) = W10
        have HS0_10 : Hid (Str W10 (w.heap.size) #[.int .i64 3, .string qk, .int .i64 pst, .string pk, .int .i64 pkd, .slice Ap np cp, .int .i64 plo, .int .i64 phi, .int .i64 pva, .int .i64 un]) := Lib.hid (by rw [← hW10]; exact (((((((HS0_9.out).other 0 _ (by omega)).other 1 _ (by omega)).other 2 _ (by omega)).other 3 _ (by omega)).other 4 _ (by omega)).other 5 _ (by omega)).other 6 _ (by omega))
        have HS1_10 : Hid (Str W10 (w.heap.size + 1) #[.int .i64 1, .string qk, .int .i64 2, .slice Aq nq cq, .int .i64 qlo, .int .i64 qhi, .int .i64 (qva - un)]) := Lib.hid (by rw [← hW10]; exact (((((((HS1_9.out).other 0 _ (by omega)).other 1 _ (by omega)).other 2 _ (by omega)).other 3 _ (by omega)).other 4 _ (by omega)).other 5 _ (by omega)).other 6 _ (by omega))
        have HS2_10 : Hid (Str W10 (w.heap.size + 1 + 1) #[.int .i64 1, .string qk, .int .i64 2, .slice Aq nq cq, .int .i64 qlo, .int .i64 qhi, .int .i64 (qva - un)]) := Lib.hid (by rw [← hW10]; have := (((((((HS2_9.out).set 0 (.int .i64 1)).set 1 (.string qk)).set 2 (.int .i64 2)).set 3 (.slice Aq nq cq)).set 4 (.int .i64 qlo)).set 5 (.int .i64 qhi)).set 6 (.int .i64 (qva - un)); simpa using this)
        have HS3_10 : Hid (Str W10 (w.heap.size + 1 + 1 + 1) #[.int .i64 2, .slice Aq nq cq, .int .i64 qlo, .int .i64 qhi, .int .i64 (qva - un)]) := Lib.hid (by rw [← hW10]; exact (((((((HS3_9.out).other 0 _ (by omega)).other 1 _ (by omega)).other 2 _ (by omega)).other 3 _ (by omega)).other 4 _ (by omega)).other 5 _ (by omega)).other 6 _ (by omega))
        have HS4_10 : Hid (Str W10 (g) #[.int .i64 ((qva - un) / 4294967296), .int .i64 ((qva - un) % 4294967296)]) := Lib.hid (by rw [← hW10]; exact (((((((HS4_9.out).other 0 _ (by omega)).other 1 _ (by omega)).other 2 _ (by omega)).other 3 _ (by omega)).other 4 _ (by omega)).other 5 _ (by omega)).other 6 _ (by omega))
        have hgr10 : W9.grownBy W10 (some (w.heap.size + 1 + 1)) := by rw [← hW10]; exact grown_set (grown_set (grown_set (grown_set (grown_set (grown_set (grown_set (grown_refl W9 (w.heap.size + 1 + 1)) 0 (.int .i64 1)) 1 (.string qk)) 2 (.int .i64 2)) 3 (.slice Aq nq cq)) 4 (.int .i64 qlo)) 5 (.int .i64 qhi)) 6 (.int .i64 (qva - un))
        have HB_10 := Lib.hid (below_grown HB_9.out hgr10 (by omega))
        have hw_10 := HB_10.out.size
        have hws_10 := hgr10.size
        clear hW10
        clear f0_9_0 f0_9_1 f0_9_2 f0_9_3 f0_9_4 f0_9_5 f0_9_6 f0_9_7 f0_9_8 f0_9_9 HS0_9 f1_9_0 f1_9_1 f1_9_2 f1_9_3 f1_9_4 f1_9_5 f1_9_6 HS1_9 hf1_9 f2_9_0 f2_9_1 f2_9_2 f2_9_3 f2_9_4 f2_9_5 f2_9_6 HS2_9 hf2_9 f3_9_0 f3_9_1 f3_9_2 f3_9_3 f3_9_4 HS3_9 hf3_9 f4_9_0 f4_9_1 HS4_9 hf4_9
        clear hgr10
        obtain ⟨f0_10_0, f0_10_1, f0_10_2, f0_10_3, f0_10_4, f0_10_5, f0_10_6, f0_10_7, f0_10_8, f0_10_9⟩ := str10 HS0_10.out
        have hl0_10 := HS0_10.out.lt
        obtain ⟨f1_10_0, f1_10_1, f1_10_2, f1_10_3, f1_10_4, f1_10_5, f1_10_6⟩ := str7 HS1_10.out
        have hl1_10 := HS1_10.out.lt
        have hf1_10 := fun j => HS1_10.out.frozen j
        obtain ⟨f2_10_0, f2_10_1, f2_10_2, f2_10_3, f2_10_4, f2_10_5, f2_10_6⟩ := str7 HS2_10.out
        have hl2_10 := HS2_10.out.lt
        have hf2_10 := fun j => HS2_10.out.frozen j
        obtain ⟨f3_10_0, f3_10_1, f3_10_2, f3_10_3, f3_10_4⟩ := str5 HS3_10.out
        have hl3_10 := HS3_10.out.lt
        have hf3_10 := fun j => HS3_10.out.frozen j
        obtain ⟨f4_10_0, f4_10_1⟩ := str2 HS4_10.out
        have hl4_10 := HS4_10.out.lt
        have hf4_10 := fun j => HS4_10.out.frozen j
        obtain ⟨hd, hn0⟩ := HDA.out
        exact bodyPost_ret (v := .tuple #[.agg #[.int .i64 1, .string qk, .int .i64 2, .slice Aq nq cq, .int .i64 qlo, .int .i64 qhi, .int .i64 (qva - un)], .int .i64 0]) (by simp [results, Try.results68, go_sem, *]) rfl ⟨Aq, nq, cq, by rw [HSV.out], (by have h9 := (Hq.out.below (HB_10.out.mono hBq)).more (Nat.le_trans hBq HB_10.out.size); rw [hd] at h9; exact h9), HB_10.out⟩

theorem apply_any (act : Int) (uk : ByteArray) (un : Int) (Ap : Option Addr) (np cp Bp : Nat) (pst : Int) (pk : ByteArray) (pkd : Int) (pda : List UInt8) (plo phi pva : Int) (Aq : Option Addr) (nq cq Bq : Nat) (qst : Int) (qk : ByteArray) (qkd : Int) (qda : List UInt8) (qlo qhi qva : Int) (w : World) (hp : Bytes w Bp Ap np cp pda) (hBp : Bp ≤ w.heap.size) (hnp : np ≤ 140737488355328) (hq : Bytes w Bq Aq nq cq qda) (hBq : Bq ≤ w.heap.size) (hnq : nq ≤ 140737488355328) (hun : In64 un) (hqv : In64 qva) (hql : In64 qlo) (hqh : In64 qhi) : Calls Try.prog 68 #[.agg #[.int .i64 act, .string uk, .int .i64 pst, .string pk, .int .i64 pkd, .slice Ap np cp, .int .i64 plo, .int .i64 phi, .int .i64 pva, .int .i64 un], .agg #[.int .i64 qst, .string qk, .int .i64 qkd, .slice Aq nq cq, .int .i64 qlo, .int .i64 qhi, .int .i64 qva]] w (SlotGet.GotItem w (UndoP.apply ⟨act, uk, ⟨pst, pk, ⟨pkd, pda, plo, phi, pva⟩⟩, un⟩ ⟨qst, qk, ⟨qkd, qda, qlo, qhi, qva⟩⟩)) := by
  by_cases h1 : act = 1
  · subst h1
    exact apply_item uk un Ap np cp Bp pst pk pkd pda plo phi pva Aq nq cq Bq qst qk qkd qda qlo qhi qva w hp hBp hnp hq hBq hnq hun hqv hql hqh
  by_cases h2 : act = 2
  · subst h2
    by_cases hs : qst = 1
    case neg => exact apply2_st uk un Ap np cp Bp pst pk pkd pda plo phi pva Aq nq cq Bq qst qk qkd qda qlo qhi qva w hp hBp hnp hq hBq hnq hun hqv hql hqh hs
    subst hs
    by_cases hk : qk = uk
    case neg => exact apply2_key uk un Ap np cp Bp pst pk pkd pda plo phi pva Aq nq cq Bq qk qkd qda qlo qhi qva w hp hBp hnp hq hBq hnq hun hqv hql hqh hk
    subst hk
    by_cases hkd : qkd = 2
    case neg => exact apply2_kd un Ap np cp Bp pst pk pkd pda plo phi pva Aq nq cq Bq qk qkd qda qlo qhi qva w hp hBp hnp hq hBq hnq hun hqv hql hqh hkd
    subst hkd
    cases hr : CellP.right ⟨2, qda, qlo, qhi, qva⟩
    case false => exact apply2_bad un Ap np cp Bp pst pk pkd pda plo phi pva Aq nq cq Bq qk qda qlo qhi qva w hp hBp hnp hq hBq hnq hun hqv hql hqh hr
    by_cases hl : qva + un < qlo
    case pos => exact apply2_low un Ap np cp Bp pst pk pkd pda plo phi pva Aq nq cq Bq qk qda qlo qhi qva w hp hBp hnp hq hBq hnq hun hqv hql hqh hr hl
    by_cases ho : qhi < qva + un
    case pos => exact apply2_high un Ap np cp Bp pst pk pkd pda plo phi pva Aq nq cq Bq qk qda qlo qhi qva w hp hBp hnp hq hBq hnq hun hqv hql hqh hr hl ho
    exact apply2_ok un Ap np cp Bp pst pk pkd pda plo phi pva Aq nq cq Bq qk qda qlo qhi qva w hp hBp hnp hq hBq hnq hun hqv hql hqh hr hl ho
  by_cases h3 : act = 3
  · subst h3
    by_cases hs : qst = 1
    case neg => exact apply3_st uk un Ap np cp Bp pst pk pkd pda plo phi pva Aq nq cq Bq qst qk qkd qda qlo qhi qva w hp hBp hnp hq hBq hnq hun hqv hql hqh hs
    subst hs
    by_cases hk : qk = uk
    case neg => exact apply3_key uk un Ap np cp Bp pst pk pkd pda plo phi pva Aq nq cq Bq qk qkd qda qlo qhi qva w hp hBp hnp hq hBq hnq hun hqv hql hqh hk
    subst hk
    by_cases hkd : qkd = 2
    case neg => exact apply3_kd un Ap np cp Bp pst pk pkd pda plo phi pva Aq nq cq Bq qk qkd qda qlo qhi qva w hp hBp hnp hq hBq hnq hun hqv hql hqh hkd
    subst hkd
    cases hr : CellP.right ⟨2, qda, qlo, qhi, qva⟩
    case false => exact apply3_bad un Ap np cp Bp pst pk pkd pda plo phi pva Aq nq cq Bq qk qda qlo qhi qva w hp hBp hnp hq hBq hnq hun hqv hql hqh hr
    by_cases hl : qva - un < qlo
    case pos => exact apply3_low un Ap np cp Bp pst pk pkd pda plo phi pva Aq nq cq Bq qk qda qlo qhi qva w hp hBp hnp hq hBq hnq hun hqv hql hqh hr hl
    by_cases ho : qhi < qva - un
    case pos => exact apply3_high un Ap np cp Bp pst pk pkd pda plo phi pva Aq nq cq Bq qk qda qlo qhi qva w hp hBp hnp hq hBq hnq hun hqv hql hqh hr hl ho
    exact apply3_ok un Ap np cp Bp pst pk pkd pda plo phi pva Aq nq cq Bq qk qda qlo qhi qva w hp hBp hnp hq hBq hnq hun hqv hql hqh hr hl ho
  exact apply_arg act uk un Ap np cp Bp pst pk pkd pda plo phi pva Aq nq cq Bq qst qk qkd qda qlo qhi qva w hp hBp hnp hq hBq hnq hun hqv hql hqh h1 h2 h3
end Go.Proofs.Ytjengjbkdflapaa.RefUndo
