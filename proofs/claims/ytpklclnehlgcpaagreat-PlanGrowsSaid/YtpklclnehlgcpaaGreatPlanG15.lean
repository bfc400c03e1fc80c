/-
  Parts of the proof of PlanGrows.
-/
import Derived.Test.YtpklclnehlgcpaaGreatPlanG14
section
namespace Go.Proofs.YtpklclnehlgcpaaGreat.ModelW
open Go.RowKit
set_option linter.unusedVariables false
set_option maxRecDepth 100000 in
set_option maxHeartbeats 1000000 in
theorem read_none (bs : List Nat) (act : Int) (xk : ByteArray) (Ax : Option Addr) (nx cx : Nat) (xlo xhi xn : Int)  (w : World) (hbs : ∀ b ∈ bs, b < w.heap.size) :
    Calls Tryz.prog 90 #[.agg #[.int .i64 0, .slice none 0 0, .int .i64 0, .int .i64 0, .int .i64 0, .bool false], .agg #[.int .i64 act, .string xk, .slice Ax nx cx, .int .i64 xlo, .int .i64 xhi, .int .i64 xn]] w (GivesRule bs w (5, none, CellP.none)) := by
  go_enter Tryz.func90, Tryz.ntmps90
  go_wp2_with fail
  generalize hW0 : ((((w).alloc (.cells #[.int .i64 0, .slice none 0 0, .int .i64 0, .int .i64 0, .int .i64 0, .bool false] 122)).alloc (.cells #[.int .i64 act, .string xk, .slice Ax nx cx, .int .i64 xlo, .int .i64 xhi, .int .i64 xn] 62)).alloc (.cells #[.int .i64 0, .slice none 0 0, .int .i64 0, .int .i64 0, .int .i64 0, .bool false] 122)).alloc (.cells #[.int .i64 0, .int .i64 0, .slice none 0 0, .int .i64 0, .int .i64 0, .int .i64 0] 58) = W0
  obtain ⟨HS0_0, HS1_0, HS2_0, HS3_0, HB_0, hw_0, hz0⟩ := new4 hW0
  clear hW0 hz0
  have f0_0 := str6 HS0_0.out
  have hl0_0 := HS0_0.out.lt
  have hf0_0 := fun j => HS0_0.out.frozen j
  have f1_0 := str6 HS1_0.out
  have hl1_0 := HS1_0.out.lt
  have hf1_0 := fun j => HS1_0.out.frozen j
  have f2_0 := str6 HS2_0.out
  have hl2_0 := HS2_0.out.lt
  have hf2_0 := fun j => HS2_0.out.frozen j
  have f3_0 := str6 HS3_0.out
  have hl3_0 := HS3_0.out.lt
  have hf3_0 := fun j => HS3_0.out.frozen j
  go_wp2_with fail
  refine (refuse_any 5 _).mono ?_
  rintro e W1 ⟨rfl, hb1⟩
  have HS0_1 := Lib.hid (HS0_0.out.next hb1)
  have HS1_1 := Lib.hid (HS1_0.out.next hb1)
  have HS2_1 := Lib.hid (HS2_0.out.next hb1)
  have HS3_1 := Lib.hid (HS3_0.out.next hb1)
  have HB_1 := Lib.hid (bstep HB_0.out hb1)
  have hw_1 := HB_1.out.size
  have hws_1 := (hb1).size
  clear f0_0 HS0_0 hf0_0 f1_0 HS1_0 hf1_0 f2_0 HS2_0 hf2_0 f3_0 HS3_0 hf3_0
  clear hb1
  have f0_1 := str6 HS0_1.out
  have hl0_1 := HS0_1.out.lt
  have hf0_1 := fun j => HS0_1.out.frozen j
  have f1_1 := str6 HS1_1.out
  have hl1_1 := HS1_1.out.lt
  have hf1_1 := fun j => HS1_1.out.frozen j
  have f2_1 := str6 HS2_1.out
  have hl2_1 := HS2_1.out.lt
  have hf2_1 := fun j => HS2_1.out.frozen j
  have f3_1 := str6 HS3_1.out
  have hl3_1 := HS3_1.out.lt
  have hf3_1 := fun j => HS3_1.out.frozen j
  go_wp2_with fail
  generalize hW2 : ((((((W1).setCell ⟨w.heap.size + 1 + 1, 0, none⟩ (.int .i64 0)).setCell ⟨w.heap.size + 1 + 1, 1, none⟩ (.slice none 0 0)).setCell ⟨w.heap.size + 1 + 1, 2, none⟩ (.int .i64 0)).setCell ⟨w.heap.size + 1 + 1, 3, none⟩ (.int .i64 0)).setCell ⟨w.heap.size + 1 + 1, 4, none⟩ (.int .i64 0)).setCell ⟨w.heap.size + 1 + 1, 5, none⟩ (.bool false) = W2
  have HS2_2 : Hid (Str W2 (w.heap.size + 1 + 1) #[.int .i64 0, .slice none 0 0, .int .i64 0, .int .i64 0, .int .i64 0, .bool false]) := Lib.hid (by rw [← hW2]; have := ((((((HS2_1.out).set 0 (.int .i64 0)).set 1 (.slice none 0 0)).set 2 (.int .i64 0)).set 3 (.int .i64 0)).set 4 (.int .i64 0)).set 5 (.bool false); simpa using this)
  have hgr2 : W1.grownBy W2 (some (w.heap.size + 1 + 1)) := by rw [← hW2]; exact grown_set (grown_set (grown_set (grown_set (grown_set (grown_set (grown_refl W1 (w.heap.size + 1 + 1)) 0 (_)) 1 (_)) 2 (_)) 3 (_)) 4 (_)) 5 (_)
  have HS0_2 := Lib.hid (HS0_1.out.grown hgr2 (by omega))
  have HS1_2 := Lib.hid (HS1_1.out.grown hgr2 (by omega))
  have HS3_2 := Lib.hid (HS3_1.out.grown hgr2 (by omega))
  have HB_2 := Lib.hid (below_grown HB_1.out hgr2 (by omega))
  have hw_2 := HB_2.out.size
  have hws_2 := hgr2.size
  clear hW2
  clear f0_1 HS0_1 hf0_1 f1_1 HS1_1 hf1_1 f2_1 HS2_1 hf2_1 f3_1 HS3_1 hf3_1
  clear hgr2
  have f0_2 := str6 HS0_2.out
  have hl0_2 := HS0_2.out.lt
  have hf0_2 := fun j => HS0_2.out.frozen j
  have f1_2 := str6 HS1_2.out
  have hl1_2 := HS1_2.out.lt
  have hf1_2 := fun j => HS1_2.out.frozen j
  have f2_2 := str6 HS2_2.out
  have hl2_2 := HS2_2.out.lt
  have hf2_2 := fun j => HS2_2.out.frozen j
  have f3_2 := str6 HS3_2.out
  have hl3_2 := HS3_2.out.lt
  have hf3_2 := fun j => HS3_2.out.frozen j
  generalize hW3 : ((((((W2).setCell ⟨w.heap.size + 1 + 1 + 1, 0, none⟩ (.int .i64 5)).setCell ⟨w.heap.size + 1 + 1 + 1, 1, none⟩ (.int .i64 0)).setCell ⟨w.heap.size + 1 + 1 + 1, 2, none⟩ (.slice none 0 0)).setCell ⟨w.heap.size + 1 + 1 + 1, 3, none⟩ (.int .i64 0)).setCell ⟨w.heap.size + 1 + 1 + 1, 4, none⟩ (.int .i64 0)).setCell ⟨w.heap.size + 1 + 1 + 1, 5, none⟩ (.int .i64 0) = W3
  have HS3_3 : Hid (Str W3 (w.heap.size + 1 + 1 + 1) #[.int .i64 5, .int .i64 0, .slice none 0 0, .int .i64 0, .int .i64 0, .int .i64 0]) := Lib.hid (by rw [← hW3]; have := ((((((HS3_2.out).set 0 (.int .i64 5)).set 1 (.int .i64 0)).set 2 (.slice none 0 0)).set 3 (.int .i64 0)).set 4 (.int .i64 0)).set 5 (.int .i64 0); simpa using this)
  have hgr3 : W2.grownBy W3 (some (w.heap.size + 1 + 1 + 1)) := by rw [← hW3]; exact grown_set (grown_set (grown_set (grown_set (grown_set (grown_set (grown_refl W2 (w.heap.size + 1 + 1 + 1)) 0 (_)) 1 (_)) 2 (_)) 3 (_)) 4 (_)) 5 (_)
  have HS0_3 := Lib.hid (HS0_2.out.grown hgr3 (by omega))
  have HS1_3 := Lib.hid (HS1_2.out.grown hgr3 (by omega))
  have HS2_3 := Lib.hid (HS2_2.out.grown hgr3 (by omega))
  have HB_3 := Lib.hid (below_grown HB_2.out hgr3 (by omega))
  have hw_3 := HB_3.out.size
  have hws_3 := hgr3.size
  clear hW3
  clear f0_2 HS0_2 hf0_2 f1_2 HS1_2 hf1_2 f2_2 HS2_2 hf2_2 f3_2 HS3_2 hf3_2
  clear hgr3
  have f0_3 := str6 HS0_3.out
  have hl0_3 := HS0_3.out.lt
  have hf0_3 := fun j => HS0_3.out.frozen j
  have f1_3 := str6 HS1_3.out
  have hl1_3 := HS1_3.out.lt
  have hf1_3 := fun j => HS1_3.out.frozen j
  have f2_3 := str6 HS2_3.out
  have hl2_3 := HS2_3.out.lt
  have hf2_3 := fun j => HS2_3.out.frozen j
  have f3_3 := str6 HS3_3.out
  have hl3_3 := HS3_3.out.lt
  have hf3_3 := fun j => HS3_3.out.frozen j
  exact bodyPost_ret (v := .tuple #[.agg #[.int .i64 0, .slice none 0 0, .int .i64 0, .int .i64 0, .int .i64 0, .bool false], .agg #[.int .i64 5, .int .i64 0, .slice none 0 0, .int .i64 0, .int .i64 0, .int .i64 0]]) (by simp [results, Tryz.results90, go_sem, *]) rfl ⟨none, 0, 0, none, 0, 0, rfl, BytesH.none_ _ _, BytesH.none_ _ _, HB_3.out⟩
set_option maxRecDepth 100000 in
set_option maxHeartbeats 1000000 in
theorem create_some (bs : List Nat) (act : Int) (xk : ByteArray) (Ax : Option Addr) (nx cx : Nat) (xlo xhi xn : Int) (A : Option Addr) (n c : Nat) (kd : Int) (data : List UInt8) (lo hi va : Int) (w : World) (hbs : ∀ b ∈ bs, b < w.heap.size) (h : BytesH bs w A n c data) (hn : n ≤ 100000) :
    Calls Tryz.prog 92 #[.agg #[.int .i64 kd, .slice A n c, .int .i64 lo, .int .i64 hi, .int .i64 va, .bool true], .agg #[.int .i64 act, .string xk, .slice Ax nx cx, .int .i64 xlo, .int .i64 xhi, .int .i64 xn]] w (GivesRule bs w (7, none, CellP.none)) := by
  have H := Lib.hid h
  clear h
  go_enter Tryz.func92, Tryz.ntmps92
  go_wp2_with fail
  generalize hW0 : ((((w).alloc (.cells #[.int .i64 kd, .slice A n c, .int .i64 lo, .int .i64 hi, .int .i64 va, .bool true] 122)).alloc (.cells #[.int .i64 act, .string xk, .slice Ax nx cx, .int .i64 xlo, .int .i64 xhi, .int .i64 xn] 62)).alloc (.cells #[.int .i64 0, .slice none 0 0, .int .i64 0, .int .i64 0, .int .i64 0, .bool false] 122)).alloc (.cells #[.int .i64 0, .int .i64 0, .slice none 0 0, .int .i64 0, .int .i64 0, .int .i64 0] 58) = W0
  obtain ⟨HS0_0, HS1_0, HS2_0, HS3_0, HB_0, hw_0, hz0⟩ := new4 hW0
  clear hW0 hz0
  have f0_0 := str6 HS0_0.out
  have hl0_0 := HS0_0.out.lt
  have hf0_0 := fun j => HS0_0.out.frozen j
  have f1_0 := str6 HS1_0.out
  have hl1_0 := HS1_0.out.lt
  have hf1_0 := fun j => HS1_0.out.frozen j
  have f2_0 := str6 HS2_0.out
  have hl2_0 := HS2_0.out.lt
  have hf2_0 := fun j => HS2_0.out.frozen j
  have f3_0 := str6 HS3_0.out
  have hl3_0 := HS3_0.out.lt
  have hf3_0 := fun j => HS3_0.out.frozen j
  go_wp2_with fail
  refine (refuse_any 7 _).mono ?_
  rintro e W1 ⟨rfl, hb1⟩
  have HS0_1 := Lib.hid (HS0_0.out.next hb1)
  have HS1_1 := Lib.hid (HS1_0.out.next hb1)
  have HS2_1 := Lib.hid (HS2_0.out.next hb1)
  have HS3_1 := Lib.hid (HS3_0.out.next hb1)
  have HB_1 := Lib.hid (bstep HB_0.out hb1)
  have hw_1 := HB_1.out.size
  have hws_1 := (hb1).size
  clear f0_0 HS0_0 hf0_0 f1_0 HS1_0 hf1_0 f2_0 HS2_0 hf2_0 f3_0 HS3_0 hf3_0
  clear hb1
  have f0_1 := str6 HS0_1.out
  have hl0_1 := HS0_1.out.lt
  have hf0_1 := fun j => HS0_1.out.frozen j
  have f1_1 := str6 HS1_1.out
  have hl1_1 := HS1_1.out.lt
  have hf1_1 := fun j => HS1_1.out.frozen j
  have f2_1 := str6 HS2_1.out
  have hl2_1 := HS2_1.out.lt
  have hf2_1 := fun j => HS2_1.out.frozen j
  have f3_1 := str6 HS3_1.out
  have hl3_1 := HS3_1.out.lt
  have hf3_1 := fun j => HS3_1.out.frozen j
  go_wp2_with fail
  generalize hW2 : ((((((W1).setCell ⟨w.heap.size + 1 + 1, 0, none⟩ (.int .i64 0)).setCell ⟨w.heap.size + 1 + 1, 1, none⟩ (.slice none 0 0)).setCell ⟨w.heap.size + 1 + 1, 2, none⟩ (.int .i64 0)).setCell ⟨w.heap.size + 1 + 1, 3, none⟩ (.int .i64 0)).setCell ⟨w.heap.size + 1 + 1, 4, none⟩ (.int .i64 0)).setCell ⟨w.heap.size + 1 + 1, 5, none⟩ (.bool false) = W2
  have HS2_2 : Hid (Str W2 (w.heap.size + 1 + 1) #[.int .i64 0, .slice none 0 0, .int .i64 0, .int .i64 0, .int .i64 0, .bool false]) := Lib.hid (by rw [← hW2]; have := ((((((HS2_1.out).set 0 (.int .i64 0)).set 1 (.slice none 0 0)).set 2 (.int .i64 0)).set 3 (.int .i64 0)).set 4 (.int .i64 0)).set 5 (.bool false); simpa using this)
  have hgr2 : W1.grownBy W2 (some (w.heap.size + 1 + 1)) := by rw [← hW2]; exact grown_set (grown_set (grown_set (grown_set (grown_set (grown_set (grown_refl W1 (w.heap.size + 1 + 1)) 0 (_)) 1 (_)) 2 (_)) 3 (_)) 4 (_)) 5 (_)
  have HS0_2 := Lib.hid (HS0_1.out.grown hgr2 (by omega))
  have HS1_2 := Lib.hid (HS1_1.out.grown hgr2 (by omega))
  have HS3_2 := Lib.hid (HS3_1.out.grown hgr2 (by omega))
  have HB_2 := Lib.hid (below_grown HB_1.out hgr2 (by omega))
  have hw_2 := HB_2.out.size
  have hws_2 := hgr2.size
  clear hW2
  clear f0_1 HS0_1 hf0_1 f1_1 HS1_1 hf1_1 f2_1 HS2_1 hf2_1 f3_1 HS3_1 hf3_1
  clear hgr2
  have f0_2 := str6 HS0_2.out
  have hl0_2 := HS0_2.out.lt
  have hf0_2 := fun j => HS0_2.out.frozen j
  have f1_2 := str6 HS1_2.out
  have hl1_2 := HS1_2.out.lt
  have hf1_2 := fun j => HS1_2.out.frozen j
  have f2_2 := str6 HS2_2.out
  have hl2_2 := HS2_2.out.lt
  have hf2_2 := fun j => HS2_2.out.frozen j
  have f3_2 := str6 HS3_2.out
  have hl3_2 := HS3_2.out.lt
  have hf3_2 := fun j => HS3_2.out.frozen j
  generalize hW3 : ((((((W2).setCell ⟨w.heap.size + 1 + 1 + 1, 0, none⟩ (.int .i64 7)).setCell ⟨w.heap.size + 1 + 1 + 1, 1, none⟩ (.int .i64 0)).setCell ⟨w.heap.size + 1 + 1 + 1, 2, none⟩ (.slice none 0 0)).setCell ⟨w.heap.size + 1 + 1 + 1, 3, none⟩ (.int .i64 0)).setCell ⟨w.heap.size + 1 + 1 + 1, 4, none⟩ (.int .i64 0)).setCell ⟨w.heap.size + 1 + 1 + 1, 5, none⟩ (.int .i64 0) = W3
  have HS3_3 : Hid (Str W3 (w.heap.size + 1 + 1 + 1) #[.int .i64 7, .int .i64 0, .slice none 0 0, .int .i64 0, .int .i64 0, .int .i64 0]) := Lib.hid (by rw [← hW3]; have := ((((((HS3_2.out).set 0 (.int .i64 7)).set 1 (.int .i64 0)).set 2 (.slice none 0 0)).set 3 (.int .i64 0)).set 4 (.int .i64 0)).set 5 (.int .i64 0); simpa using this)
  have hgr3 : W2.grownBy W3 (some (w.heap.size + 1 + 1 + 1)) := by rw [← hW3]; exact grown_set (grown_set (grown_set (grown_set (grown_set (grown_set (grown_refl W2 (w.heap.size + 1 + 1 + 1)) 0 (_)) 1 (_)) 2 (_)) 3 (_)) 4 (_)) 5 (_)
  have HS0_3 := Lib.hid (HS0_2.out.grown hgr3 (by omega))
  have HS1_3 := Lib.hid (HS1_2.out.grown hgr3 (by omega))
  have HS2_3 := Lib.hid (HS2_2.out.grown hgr3 (by omega))
  have HB_3 := Lib.hid (below_grown HB_2.out hgr3 (by omega))
  have hw_3 := HB_3.out.size
  have hws_3 := hgr3.size
  clear hW3
  clear f0_2 HS0_2 hf0_2 f1_2 HS1_2 hf1_2 f2_2 HS2_2 hf2_2 f3_2 HS3_2 hf3_2
  clear hgr3
  have f0_3 := str6 HS0_3.out
  have hl0_3 := HS0_3.out.lt
  have hf0_3 := fun j => HS0_3.out.frozen j
  have f1_3 := str6 HS1_3.out
  have hl1_3 := HS1_3.out.lt
  have hf1_3 := fun j => HS1_3.out.frozen j
  have f2_3 := str6 HS2_3.out
  have hl2_3 := HS2_3.out.lt
  have hf2_3 := fun j => HS2_3.out.frozen j
  have f3_3 := str6 HS3_3.out
  have hl3_3 := HS3_3.out.lt
  have hf3_3 := fun j => HS3_3.out.frozen j
  exact bodyPost_ret (v := .tuple #[.agg #[.int .i64 0, .slice none 0 0, .int .i64 0, .int .i64 0, .int .i64 0, .bool false], .agg #[.int .i64 7, .int .i64 0, .slice none 0 0, .int .i64 0, .int .i64 0, .int .i64 0]]) (by simp [results, Tryz.results92, go_sem, *]) rfl ⟨none, 0, 0, none, 0, 0, rfl, BytesH.none_ _ _, BytesH.none_ _ _, HB_3.out⟩
set_option maxRecDepth 100000 in
set_option maxHeartbeats 1000000 in
theorem drop_none (bs : List Nat) (act : Int) (xk : ByteArray) (Ax : Option Addr) (nx cx : Nat) (xlo xhi xn : Int)  (w : World) (hbs : ∀ b ∈ bs, b < w.heap.size) :
    Calls Tryz.prog 93 #[.agg #[.int .i64 0, .slice none 0 0, .int .i64 0, .int .i64 0, .int .i64 0, .bool false], .agg #[.int .i64 act, .string xk, .slice Ax nx cx, .int .i64 xlo, .int .i64 xhi, .int .i64 xn]] w (GivesRule bs w (5, none, CellP.none)) := by
  go_enter Tryz.func93, Tryz.ntmps93
  go_wp2_with fail
  generalize hW0 : ((((w).alloc (.cells #[.int .i64 0, .slice none 0 0, .int .i64 0, .int .i64 0, .int .i64 0, .bool false] 122)).alloc (.cells #[.int .i64 act, .string xk, .slice Ax nx cx, .int .i64 xlo, .int .i64 xhi, .int .i64 xn] 62)).alloc (.cells #[.int .i64 0, .slice none 0 0, .int .i64 0, .int .i64 0, .int .i64 0, .bool false] 122)).alloc (.cells #[.int .i64 0, .int .i64 0, .slice none 0 0, .int .i64 0, .int .i64 0, .int .i64 0] 58) = W0
  obtain ⟨HS0_0, HS1_0, HS2_0, HS3_0, HB_0, hw_0, hz0⟩ := new4 hW0
  clear hW0 hz0
  have f0_0 := str6 HS0_0.out
  have hl0_0 := HS0_0.out.lt
  have hf0_0 := fun j => HS0_0.out.frozen j
  have f1_0 := str6 HS1_0.out
  have hl1_0 := HS1_0.out.lt
  have hf1_0 := fun j => HS1_0.out.frozen j
  have f2_0 := str6 HS2_0.out
  have hl2_0 := HS2_0.out.lt
  have hf2_0 := fun j => HS2_0.out.frozen j
  have f3_0 := str6 HS3_0.out
  have hl3_0 := HS3_0.out.lt
  have hf3_0 := fun j => HS3_0.out.frozen j
  go_wp2_with fail
  refine (refuse_any 5 _).mono ?_
  rintro e W1 ⟨rfl, hb1⟩
  have HS0_1 := Lib.hid (HS0_0.out.next hb1)
  have HS1_1 := Lib.hid (HS1_0.out.next hb1)
  have HS2_1 := Lib.hid (HS2_0.out.next hb1)
  have HS3_1 := Lib.hid (HS3_0.out.next hb1)
  have HB_1 := Lib.hid (bstep HB_0.out hb1)
  have hw_1 := HB_1.out.size
  have hws_1 := (hb1).size
  clear f0_0 HS0_0 hf0_0 f1_0 HS1_0 hf1_0 f2_0 HS2_0 hf2_0 f3_0 HS3_0 hf3_0
  clear hb1
  have f0_1 := str6 HS0_1.out
  have hl0_1 := HS0_1.out.lt
  have hf0_1 := fun j => HS0_1.out.frozen j
  have f1_1 := str6 HS1_1.out
  have hl1_1 := HS1_1.out.lt
  have hf1_1 := fun j => HS1_1.out.frozen j
  have f2_1 := str6 HS2_1.out
  have hl2_1 := HS2_1.out.lt
  have hf2_1 := fun j => HS2_1.out.frozen j
  have f3_1 := str6 HS3_1.out
  have hl3_1 := HS3_1.out.lt
  have hf3_1 := fun j => HS3_1.out.frozen j
  go_wp2_with fail
  generalize hW2 : ((((((W1).setCell ⟨w.heap.size + 1 + 1, 0, none⟩ (.int .i64 0)).setCell ⟨w.heap.size + 1 + 1, 1, none⟩ (.slice none 0 0)).setCell ⟨w.heap.size + 1 + 1, 2, none⟩ (.int .i64 0)).setCell ⟨w.heap.size + 1 + 1, 3, none⟩ (.int .i64 0)).setCell ⟨w.heap.size + 1 + 1, 4, none⟩ (.int .i64 0)).setCell ⟨w.heap.size + 1 + 1, 5, none⟩ (.bool false) = W2
  have HS2_2 : Hid (Str W2 (w.heap.size + 1 + 1) #[.int .i64 0, .slice none 0 0, .int .i64 0, .int .i64 0, .int .i64 0, .bool false]) := Lib.hid (by rw [← hW2]; have := ((((((HS2_1.out).set 0 (.int .i64 0)).set 1 (.slice none 0 0)).set 2 (.int .i64 0)).set 3 (.int .i64 0)).set 4 (.int .i64 0)).set 5 (.bool false); simpa using this)
  have hgr2 : W1.grownBy W2 (some (w.heap.size + 1 + 1)) := by rw [← hW2]; exact grown_set (grown_set (grown_set (grown_set (grown_set (grown_set (grown_refl W1 (w.heap.size + 1 + 1)) 0 (_)) 1 (_)) 2 (_)) 3 (_)) 4 (_)) 5 (_)
  have HS0_2 := Lib.hid (HS0_1.out.grown hgr2 (by omega))
  have HS1_2 := Lib.hid (HS1_1.out.grown hgr2 (by omega))
  have HS3_2 := Lib.hid (HS3_1.out.grown hgr2 (by omega))
  have HB_2 := Lib.hid (below_grown HB_1.out hgr2 (by omega))
  have hw_2 := HB_2.out.size
  have hws_2 := hgr2.size
  clear hW2
  clear f0_1 HS0_1 hf0_1 f1_1 HS1_1 hf1_1 f2_1 HS2_1 hf2_1 f3_1 HS3_1 hf3_1
  clear hgr2
  have f0_2 := str6 HS0_2.out
  have hl0_2 := HS0_2.out.lt
  have hf0_2 := fun j => HS0_2.out.frozen j
  have f1_2 := str6 HS1_2.out
  have hl1_2 := HS1_2.out.lt
  have hf1_2 := fun j => HS1_2.out.frozen j
  have f2_2 := str6 HS2_2.out
  have hl2_2 := HS2_2.out.lt
  have hf2_2 := fun j => HS2_2.out.frozen j
  have f3_2 := str6 HS3_2.out
  have hl3_2 := HS3_2.out.lt
  have hf3_2 := fun j => HS3_2.out.frozen j
  generalize hW3 : ((((((W2).setCell ⟨w.heap.size + 1 + 1 + 1, 0, none⟩ (.int .i64 5)).setCell ⟨w.heap.size + 1 + 1 + 1, 1, none⟩ (.int .i64 0)).setCell ⟨w.heap.size + 1 + 1 + 1, 2, none⟩ (.slice none 0 0)).setCell ⟨w.heap.size + 1 + 1 + 1, 3, none⟩ (.int .i64 0)).setCell ⟨w.heap.size + 1 + 1 + 1, 4, none⟩ (.int .i64 0)).setCell ⟨w.heap.size + 1 + 1 + 1, 5, none⟩ (.int .i64 0) = W3
  have HS3_3 : Hid (Str W3 (w.heap.size + 1 + 1 + 1) #[.int .i64 5, .int .i64 0, .slice none 0 0, .int .i64 0, .int .i64 0, .int .i64 0]) := Lib.hid (by rw [← hW3]; have := ((((((HS3_2.out).set 0 (.int .i64 5)).set 1 (.int .i64 0)).set 2 (.slice none 0 0)).set 3 (.int .i64 0)).set 4 (.int .i64 0)).set 5 (.int .i64 0); simpa using this)
  have hgr3 : W2.grownBy W3 (some (w.heap.size + 1 + 1 + 1)) := by rw [← hW3]; exact grown_set (grown_set (grown_set (grown_set (grown_set (grown_set (grown_refl W2 (w.heap.size + 1 + 1 + 1)) 0 (_)) 1 (_)) 2 (_)) 3 (_)) 4 (_)) 5 (_)
  have HS0_3 := Lib.hid (HS0_2.out.grown hgr3 (by omega))
  have HS1_3 := Lib.hid (HS1_2.out.grown hgr3 (by omega))
  have HS2_3 := Lib.hid (HS2_2.out.grown hgr3 (by omega))
  have HB_3 := Lib.hid (below_grown HB_2.out hgr3 (by omega))
  have hw_3 := HB_3.out.size
  have hws_3 := hgr3.size
  clear hW3
  clear f0_2 HS0_2 hf0_2 f1_2 HS1_2 hf1_2 f2_2 HS2_2 hf2_2 f3_2 HS3_2 hf3_2
  clear hgr3
  have f0_3 := str6 HS0_3.out
  have hl0_3 := HS0_3.out.lt
  have hf0_3 := fun j => HS0_3.out.frozen j
  have f1_3 := str6 HS1_3.out
  have hl1_3 := HS1_3.out.lt
  have hf1_3 := fun j => HS1_3.out.frozen j
  have f2_3 := str6 HS2_3.out
  have hl2_3 := HS2_3.out.lt
  have hf2_3 := fun j => HS2_3.out.frozen j
  have f3_3 := str6 HS3_3.out
  have hl3_3 := HS3_3.out.lt
  have hf3_3 := fun j => HS3_3.out.frozen j
  exact bodyPost_ret (v := .tuple #[.agg #[.int .i64 0, .slice none 0 0, .int .i64 0, .int .i64 0, .int .i64 0, .bool false], .agg #[.int .i64 5, .int .i64 0, .slice none 0 0, .int .i64 0, .int .i64 0, .int .i64 0]]) (by simp [results, Tryz.results93, go_sem, *]) rfl ⟨none, 0, 0, none, 0, 0, rfl, BytesH.none_ _ _, BytesH.none_ _ _, HB_3.out⟩
set_option maxRecDepth 100000 in
set_option maxHeartbeats 1000000 in
theorem write_counter (bs : List Nat) (act : Int) (xk : ByteArray) (Ax : Option Addr) (nx cx : Nat) (xlo xhi xn : Int) (A : Option Addr) (n c : Nat) (data : List UInt8) (lo hi va : Int) (w : World) (hbs : ∀ b ∈ bs, b < w.heap.size) (h : BytesH bs w A n c data) (hn : n ≤ 100000) :
    Calls Tryz.prog 91 #[.agg #[.int .i64 2, .slice A n c, .int .i64 lo, .int .i64 hi, .int .i64 va, .bool true], .agg #[.int .i64 act, .string xk, .slice Ax nx cx, .int .i64 xlo, .int .i64 xhi, .int .i64 xn]] w (GivesRule bs w (6, none, CellP.none)) := by
  have H := Lib.hid h
  clear h
  go_enter Tryz.func91, Tryz.ntmps91
  go_wp2_with fail
  generalize hW0 : ((((w).alloc (.cells #[.int .i64 2, .slice A n c, .int .i64 lo, .int .i64 hi, .int .i64 va, .bool true] 122)).alloc (.cells #[.int .i64 act, .string xk, .slice Ax nx cx, .int .i64 xlo, .int .i64 xhi, .int .i64 xn] 62)).alloc (.cells #[.int .i64 0, .slice none 0 0, .int .i64 0, .int .i64 0, .int .i64 0, .bool false] 122)).alloc (.cells #[.int .i64 0, .int .i64 0, .slice none 0 0, .int .i64 0, .int .i64 0, .int .i64 0] 58) = W0
  obtain ⟨HS0_0, HS1_0, HS2_0, HS3_0, HB_0, hw_0, hz0⟩ := new4 hW0
  clear hW0 hz0
  have f0_0 := str6 HS0_0.out
  have hl0_0 := HS0_0.out.lt
  have hf0_0 := fun j => HS0_0.out.frozen j
  have f1_0 := str6 HS1_0.out
  have hl1_0 := HS1_0.out.lt
  have hf1_0 := fun j => HS1_0.out.frozen j
  have f2_0 := str6 HS2_0.out
  have hl2_0 := HS2_0.out.lt
  have hf2_0 := fun j => HS2_0.out.frozen j
  have f3_0 := str6 HS3_0.out
  have hl3_0 := HS3_0.out.lt
  have hf3_0 := fun j => HS3_0.out.frozen j
  go_wp2_with fail
  refine (refuse_any 6 _).mono ?_
  rintro e W1 ⟨rfl, hb1⟩
  have HS0_1 := Lib.hid (HS0_0.out.next hb1)
  have HS1_1 := Lib.hid (HS1_0.out.next hb1)
  have HS2_1 := Lib.hid (HS2_0.out.next hb1)
  have HS3_1 := Lib.hid (HS3_0.out.next hb1)
  have HB_1 := Lib.hid (bstep HB_0.out hb1)
  have hw_1 := HB_1.out.size
  have hws_1 := (hb1).size
  clear f0_0 HS0_0 hf0_0 f1_0 HS1_0 hf1_0 f2_0 HS2_0 hf2_0 f3_0 HS3_0 hf3_0
  clear hb1
  have f0_1 := str6 HS0_1.out
  have hl0_1 := HS0_1.out.lt
  have hf0_1 := fun j => HS0_1.out.frozen j
  have f1_1 := str6 HS1_1.out
  have hl1_1 := HS1_1.out.lt
  have hf1_1 := fun j => HS1_1.out.frozen j
  have f2_1 := str6 HS2_1.out
  have hl2_1 := HS2_1.out.lt
  have hf2_1 := fun j => HS2_1.out.frozen j
  have f3_1 := str6 HS3_1.out
  have hl3_1 := HS3_1.out.lt
  have hf3_1 := fun j => HS3_1.out.frozen j
  go_wp2_with fail
  generalize hW2 : ((((((W1).setCell ⟨w.heap.size + 1 + 1, 0, none⟩ (.int .i64 0)).setCell ⟨w.heap.size + 1 + 1, 1, none⟩ (.slice none 0 0)).setCell ⟨w.heap.size + 1 + 1, 2, none⟩ (.int .i64 0)).setCell ⟨w.heap.size + 1 + 1, 3, none⟩ (.int .i64 0)).setCell ⟨w.heap.size + 1 + 1, 4, none⟩ (.int .i64 0)).setCell ⟨w.heap.size + 1 + 1, 5, none⟩ (.bool false) = W2
  have HS2_2 : Hid (Str W2 (w.heap.size + 1 + 1) #[.int .i64 0, .slice none 0 0, .int .i64 0, .int .i64 0, .int .i64 0, .bool false]) := Lib.hid (by rw [← hW2]; have := ((((((HS2_1.out).set 0 (.int .i64 0)).set 1 (.slice none 0 0)).set 2 (.int .i64 0)).set 3 (.int .i64 0)).set 4 (.int .i64 0)).set 5 (.bool false); simpa using this)
  have hgr2 : W1.grownBy W2 (some (w.heap.size + 1 + 1)) := by rw [← hW2]; exact grown_set (grown_set (grown_set (grown_set (grown_set (grown_set (grown_refl W1 (w.heap.size + 1 + 1)) 0 (_)) 1 (_)) 2 (_)) 3 (_)) 4 (_)) 5 (_)
  have HS0_2 := Lib.hid (HS0_1.out.grown hgr2 (by omega))
  have HS1_2 := Lib.hid (HS1_1.out.grown hgr2 (by omega))
  have HS3_2 := Lib.hid (HS3_1.out.grown hgr2 (by omega))
  have HB_2 := Lib.hid (below_grown HB_1.out hgr2 (by omega))
  have hw_2 := HB_2.out.size
  have hws_2 := hgr2.size
  clear hW2
  clear f0_1 HS0_1 hf0_1 f1_1 HS1_1 hf1_1 f2_1 HS2_1 hf2_1 f3_1 HS3_1 hf3_1
  clear hgr2
  have f0_2 := str6 HS0_2.out
  have hl0_2 := HS0_2.out.lt
  have hf0_2 := fun j => HS0_2.out.frozen j
  have f1_2 := str6 HS1_2.out
  have hl1_2 := HS1_2.out.lt
  have hf1_2 := fun j => HS1_2.out.frozen j
  have f2_2 := str6 HS2_2.out
  have hl2_2 := HS2_2.out.lt
  have hf2_2 := fun j => HS2_2.out.frozen j
  have f3_2 := str6 HS3_2.out
  have hl3_2 := HS3_2.out.lt
  have hf3_2 := fun j => HS3_2.out.frozen j
  generalize hW3 : ((((((W2).setCell ⟨w.heap.size + 1 + 1 + 1, 0, none⟩ (.int .i64 6)).setCell ⟨w.heap.size + 1 + 1 + 1, 1, none⟩ (.int .i64 0)).setCell ⟨w.heap.size + 1 + 1 + 1, 2, none⟩ (.slice none 0 0)).setCell ⟨w.heap.size + 1 + 1 + 1, 3, none⟩ (.int .i64 0)).setCell ⟨w.heap.size + 1 + 1 + 1, 4, none⟩ (.int .i64 0)).setCell ⟨w.heap.size + 1 + 1 + 1, 5, none⟩ (.int .i64 0) = W3
  have HS3_3 : Hid (Str W3 (w.heap.size + 1 + 1 + 1) #[.int .i64 6, .int .i64 0, .slice none 0 0, .int .i64 0, .int .i64 0, .int .i64 0]) := Lib.hid (by rw [← hW3]; have := ((((((HS3_2.out).set 0 (.int .i64 6)).set 1 (.int .i64 0)).set 2 (.slice none 0 0)).set 3 (.int .i64 0)).set 4 (.int .i64 0)).set 5 (.int .i64 0); simpa using this)
  have hgr3 : W2.grownBy W3 (some (w.heap.size + 1 + 1 + 1)) := by rw [← hW3]; exact grown_set (grown_set (grown_set (grown_set (grown_set (grown_set (grown_refl W2 (w.heap.size + 1 + 1 + 1)) 0 (_)) 1 (_)) 2 (_)) 3 (_)) 4 (_)) 5 (_)
  have HS0_3 := Lib.hid (HS0_2.out.grown hgr3 (by omega))
  have HS1_3 := Lib.hid (HS1_2.out.grown hgr3 (by omega))
  have HS2_3 := Lib.hid (HS2_2.out.grown hgr3 (by omega))
  have HB_3 := Lib.hid (below_grown HB_2.out hgr3 (by omega))
  have hw_3 := HB_3.out.size
  have hws_3 := hgr3.size
  clear hW3
  clear f0_2 HS0_2 hf0_2 f1_2 HS1_2 hf1_2 f2_2 HS2_2 hf2_2 f3_2 HS3_2 hf3_2
  clear hgr3
  have f0_3 := str6 HS0_3.out
  have hl0_3 := HS0_3.out.lt
  have hf0_3 := fun j => HS0_3.out.frozen j
  have f1_3 := str6 HS1_3.out
  have hl1_3 := HS1_3.out.lt
  have hf1_3 := fun j => HS1_3.out.frozen j
  have f2_3 := str6 HS2_3.out
  have hl2_3 := HS2_3.out.lt
  have hf2_3 := fun j => HS2_3.out.frozen j
  have f3_3 := str6 HS3_3.out
  have hl3_3 := HS3_3.out.lt
  have hf3_3 := fun j => HS3_3.out.frozen j
  exact bodyPost_ret (v := .tuple #[.agg #[.int .i64 0, .slice none 0 0, .int .i64 0, .int .i64 0, .int .i64 0, .bool false], .agg #[.int .i64 6, .int .i64 0, .slice none 0 0, .int .i64 0, .int .i64 0, .int .i64 0]]) (by simp [results, Tryz.results91, go_sem, *]) rfl ⟨none, 0, 0, none, 0, 0, rfl, BytesH.none_ _ _, BytesH.none_ _ _, HB_3.out⟩
set_option maxRecDepth 100000 in
set_option maxHeartbeats 1000000 in
theorem drop_some (bs : List Nat) (act : Int) (xk : ByteArray) (Ax : Option Addr) (nx cx : Nat) (xlo xhi xn : Int) (A : Option Addr) (n c : Nat) (kd : Int) (data : List UInt8) (lo hi va : Int) (w : World) (hbs : ∀ b ∈ bs, b < w.heap.size) (h : BytesH bs w A n c data) (hn : n ≤ 100000) :
    Calls Tryz.prog 93 #[.agg #[.int .i64 kd, .slice A n c, .int .i64 lo, .int .i64 hi, .int .i64 va, .bool true], .agg #[.int .i64 act, .string xk, .slice Ax nx cx, .int .i64 xlo, .int .i64 xhi, .int .i64 xn]] w (GivesRule bs w (0, none, CellP.none)) := by
  have H := Lib.hid h
  clear h
  go_enter Tryz.func93, Tryz.ntmps93
  go_wp2_with fail
  exact bodyPost_ret (v := .tuple #[.agg #[.int .i64 0, .slice none 0 0, .int .i64 0, .int .i64 0, .int .i64 0, .bool false], .agg #[.int .i64 0, .int .i64 0, .slice none 0 0, .int .i64 0, .int .i64 0, .int .i64 0]]) (by simp [results, Tryz.results93, go_sem]) rfl ⟨none, 0, 0, none, 0, 0, rfl, BytesH.none_ _ _, BytesH.none_ _ _, balloc (balloc (balloc (balloc (bsame w) _) _) _) _⟩
set_option maxRecDepth 100000 in
set_option maxHeartbeats 1000000 in
theorem create_none (bs : List Nat) (act : Int) (xk : ByteArray) (Ax : Option Addr) (nx cx : Nat) (xlo xhi xn : Int)  (w : World) (hbs : ∀ b ∈ bs, b < w.heap.size) :
    Calls Tryz.prog 92 #[.agg #[.int .i64 0, .slice none 0 0, .int .i64 0, .int .i64 0, .int .i64 0, .bool false], .agg #[.int .i64 act, .string xk, .slice Ax nx cx, .int .i64 xlo, .int .i64 xhi, .int .i64 xn]] w (GivesRule bs w (0, some ⟨2, [], xlo, xhi, xn⟩, CellP.none)) := by
  go_enter Tryz.func92, Tryz.ntmps92
  go_wp2_with fail
  generalize hW0 : ((((w).alloc (.cells #[.int .i64 0, .slice none 0 0, .int .i64 0, .int .i64 0, .int .i64 0, .bool false] 122)).alloc (.cells #[.int .i64 act, .string xk, .slice Ax nx cx, .int .i64 xlo, .int .i64 xhi, .int .i64 xn] 62)).alloc (.cells #[.int .i64 0, .slice none 0 0, .int .i64 0, .int .i64 0, .int .i64 0, .bool false] 122)).alloc (.cells #[.int .i64 0, .int .i64 0, .slice none 0 0, .int .i64 0, .int .i64 0, .int .i64 0] 58) = W0
  obtain ⟨HS0_0, HS1_0, HS2_0, HS3_0, HB_0, hw_0, hz0⟩ := new4 hW0
  clear hW0 hz0
  have f0_0 := str6 HS0_0.out
  have hl0_0 := HS0_0.out.lt
  have hf0_0 := fun j => HS0_0.out.frozen j
  have f1_0 := str6 HS1_0.out
  have hl1_0 := HS1_0.out.lt
  have hf1_0 := fun j => HS1_0.out.frozen j
  have f2_0 := str6 HS2_0.out
  have hl2_0 := HS2_0.out.lt
  have hf2_0 := fun j => HS2_0.out.frozen j
  have f3_0 := str6 HS3_0.out
  have hl3_0 := HS3_0.out.lt
  have hf3_0 := fun j => HS3_0.out.frozen j
  go_wp2_with fail
  refine (counter_any xlo xhi xn _).mono ?_
  rintro e W1 ⟨rfl, hb1⟩
  have HS0_1 := Lib.hid (HS0_0.out.next hb1)
  have HS1_1 := Lib.hid (HS1_0.out.next hb1)
  have HS2_1 := Lib.hid (HS2_0.out.next hb1)
  have HS3_1 := Lib.hid (HS3_0.out.next hb1)
  have HB_1 := Lib.hid (bstep HB_0.out hb1)
  have hw_1 := HB_1.out.size
  have hws_1 := (hb1).size
  clear f0_0 HS0_0 hf0_0 f1_0 HS1_0 hf1_0 f2_0 HS2_0 hf2_0 f3_0 HS3_0 hf3_0
  clear hb1
  have f0_1 := str6 HS0_1.out
  have hl0_1 := HS0_1.out.lt
  have hf0_1 := fun j => HS0_1.out.frozen j
  have f1_1 := str6 HS1_1.out
  have hl1_1 := HS1_1.out.lt
  have hf1_1 := fun j => HS1_1.out.frozen j
  have f2_1 := str6 HS2_1.out
  have hl2_1 := HS2_1.out.lt
  have hf2_1 := fun j => HS2_1.out.frozen j
  have f3_1 := str6 HS3_1.out
  have hl3_1 := HS3_1.out.lt
  have hf3_1 := fun j => HS3_1.out.frozen j
  go_wp2_with fail
  generalize hW2 : ((((((W1).setCell ⟨w.heap.size + 1 + 1, 0, none⟩ (.int .i64 2)).setCell ⟨w.heap.size + 1 + 1, 1, none⟩ (.slice none 0 0)).setCell ⟨w.heap.size + 1 + 1, 2, none⟩ (.int .i64 xlo)).setCell ⟨w.heap.size + 1 + 1, 3, none⟩ (.int .i64 xhi)).setCell ⟨w.heap.size + 1 + 1, 4, none⟩ (.int .i64 xn)).setCell ⟨w.heap.size + 1 + 1, 5, none⟩ (.bool true) = W2
  have HS2_2 : Hid (Str W2 (w.heap.size + 1 + 1) #[.int .i64 2, .slice none 0 0, .int .i64 xlo, .int .i64 xhi, .int .i64 xn, .bool true]) := Lib.hid (by rw [← hW2]; have := ((((((HS2_1.out).set 0 (.int .i64 2)).set 1 (.slice none 0 0)).set 2 (.int .i64 xlo)).set 3 (.int .i64 xhi)).set 4 (.int .i64 xn)).set 5 (.bool true); simpa using this)
  have hgr2 : W1.grownBy W2 (some (w.heap.size + 1 + 1)) := by rw [← hW2]; exact grown_set (grown_set (grown_set (grown_set (grown_set (grown_set (grown_refl W1 (w.heap.size + 1 + 1)) 0 (_)) 1 (_)) 2 (_)) 3 (_)) 4 (_)) 5 (_)
  have HS0_2 := Lib.hid (HS0_1.out.grown hgr2 (by omega))
  have HS1_2 := Lib.hid (HS1_1.out.grown hgr2 (by omega))
  have HS3_2 := Lib.hid (HS3_1.out.grown hgr2 (by omega))
  have HB_2 := Lib.hid (below_grown HB_1.out hgr2 (by omega))
  have hw_2 := HB_2.out.size
  have hws_2 := hgr2.size
  clear hW2
  clear f0_1 HS0_1 hf0_1 f1_1 HS1_1 hf1_1 f2_1 HS2_1 hf2_1 f3_1 HS3_1 hf3_1
  clear hgr2
  have f0_2 := str6 HS0_2.out
  have hl0_2 := HS0_2.out.lt
  have hf0_2 := fun j => HS0_2.out.frozen j
  have f1_2 := str6 HS1_2.out
  have hl1_2 := HS1_2.out.lt
  have hf1_2 := fun j => HS1_2.out.frozen j
  have f2_2 := str6 HS2_2.out
  have hl2_2 := HS2_2.out.lt
  have hf2_2 := fun j => HS2_2.out.frozen j
  have f3_2 := str6 HS3_2.out
  have hl3_2 := HS3_2.out.lt
  have hf3_2 := fun j => HS3_2.out.frozen j
  generalize hW3 : ((((((W2).setCell ⟨w.heap.size + 1 + 1 + 1, 0, none⟩ (.int .i64 0)).setCell ⟨w.heap.size + 1 + 1 + 1, 1, none⟩ (.int .i64 0)).setCell ⟨w.heap.size + 1 + 1 + 1, 2, none⟩ (.slice none 0 0)).setCell ⟨w.heap.size + 1 + 1 + 1, 3, none⟩ (.int .i64 0)).setCell ⟨w.heap.size + 1 + 1 + 1, 4, none⟩ (.int .i64 0)).setCell ⟨w.heap.size + 1 + 1 + 1, 5, none⟩ (.int .i64 0) = W3
  have HS3_3 : Hid (Str W3 (w.heap.size + 1 + 1 + 1) #[.int .i64 0, .int .i64 0, .slice none 0 0, .int .i64 0, .int .i64 0, .int .i64 0]) := Lib.hid (by rw [← hW3]; have := ((((((HS3_2.out).set 0 (.int .i64 0)).set 1 (.int .i64 0)).set 2 (.slice none 0 0)).set 3 (.int .i64 0)).set 4 (.int .i64 0)).set 5 (.int .i64 0); simpa using this)
  have hgr3 : W2.grownBy W3 (some (w.heap.size + 1 + 1 + 1)) := by rw [← hW3]; exact grown_set (grown_set (grown_set (grown_set (grown_set (grown_set (grown_refl W2 (w.heap.size + 1 + 1 + 1)) 0 (_)) 1 (_)) 2 (_)) 3 (_)) 4 (_)) 5 (_)
  have HS0_3 := Lib.hid (HS0_2.out.grown hgr3 (by omega))
  have HS1_3 := Lib.hid (HS1_2.out.grown hgr3 (by omega))
  have HS2_3 := Lib.hid (HS2_2.out.grown hgr3 (by omega))
  have HB_3 := Lib.hid (below_grown HB_2.out hgr3 (by omega))
  have hw_3 := HB_3.out.size
  have hws_3 := hgr3.size
  clear hW3
  clear f0_2 HS0_2 hf0_2 f1_2 HS1_2 hf1_2 f2_2 HS2_2 hf2_2 f3_2 HS3_2 hf3_2
  clear hgr3
  have f0_3 := str6 HS0_3.out
  have hl0_3 := HS0_3.out.lt
  have hf0_3 := fun j => HS0_3.out.frozen j
  have f1_3 := str6 HS1_3.out
  have hl1_3 := HS1_3.out.lt
  have hf1_3 := fun j => HS1_3.out.frozen j
  have f2_3 := str6 HS2_3.out
  have hl2_3 := HS2_3.out.lt
  have hf2_3 := fun j => HS2_3.out.frozen j
  have f3_3 := str6 HS3_3.out
  have hl3_3 := HS3_3.out.lt
  have hf3_3 := fun j => HS3_3.out.frozen j
  exact bodyPost_ret (v := .tuple #[.agg #[.int .i64 2, .slice none 0 0, .int .i64 xlo, .int .i64 xhi, .int .i64 xn, .bool true], .agg #[.int .i64 0, .int .i64 0, .slice none 0 0, .int .i64 0, .int .i64 0, .int .i64 0]]) (by simp [results, Tryz.results92, go_sem, *]) rfl ⟨none, 0, 0, none, 0, 0, rfl, BytesH.none_ _ _, BytesH.none_ _ _, HB_3.out⟩
set_option maxRecDepth 100000 in
set_option maxHeartbeats 1000000 in
theorem write_none (bs : List Nat) (act : Int) (xk : ByteArray) (Ax : Option Addr) (nx cx : Nat) (xlo xhi xn : Int)  (w : World) (hbs : ∀ b ∈ bs, b < w.heap.size) (xdata : List UInt8) (B : Nat) (hx : Bytes w B Ax nx cx xdata) (hB : B ≤ w.heap.size) (hnx : nx ≤ 100000) :
    Calls Tryz.prog 91 #[.agg #[.int .i64 0, .slice none 0 0, .int .i64 0, .int .i64 0, .int .i64 0, .bool false], .agg #[.int .i64 act, .string xk, .slice Ax nx cx, .int .i64 xlo, .int .i64 xhi, .int .i64 xn]] w (GivesRule bs w (0, some ⟨1, xdata, 0, 0, 0⟩, CellP.none)) := by
  have HX := Lib.hid hx
  clear hx
  go_enter Tryz.func91, Tryz.ntmps91
  go_wp2_with fail
  generalize hW0 : ((((w).alloc (.cells #[.int .i64 0, .slice none 0 0, .int .i64 0, .int .i64 0, .int .i64 0, .bool false] 122)).alloc (.cells #[.int .i64 act, .string xk, .slice Ax nx cx, .int .i64 xlo, .int .i64 xhi, .int .i64 xn] 62)).alloc (.cells #[.int .i64 0, .slice none 0 0, .int .i64 0, .int .i64 0, .int .i64 0, .bool false] 122)).alloc (.cells #[.int .i64 0, .int .i64 0, .slice none 0 0, .int .i64 0, .int .i64 0, .int .i64 0] 58) = W0
  obtain ⟨HS0_0, HS1_0, HS2_0, HS3_0, HB_0, hw_0, hz0⟩ := new4 hW0
  clear hW0 hz0
  have f0_0 := str6 HS0_0.out
  have hl0_0 := HS0_0.out.lt
  have hf0_0 := fun j => HS0_0.out.frozen j
  have f1_0 := str6 HS1_0.out
  have hl1_0 := HS1_0.out.lt
  have hf1_0 := fun j => HS1_0.out.frozen j
  have f2_0 := str6 HS2_0.out
  have hl2_0 := HS2_0.out.lt
  have hf2_0 := fun j => HS2_0.out.frozen j
  have f3_0 := str6 HS3_0.out
  have hl3_0 := HS3_0.out.lt
  have hf3_0 := fun j => HS3_0.out.frozen j
  go_wp2_with fail
  refine (copyData_any bs Ax nx cx B xdata _ (fun b hb => by have := hbs b hb; omega) (HX.out.below (HB_0.out.mono hB)) (by omega) hnx).mono ?_
  rintro e W1 ⟨A1, n1, c1, rfl, hy1, hb1⟩
  have HS0_1 := Lib.hid (HS0_0.out.next hb1)
  have HS1_1 := Lib.hid (HS1_0.out.next hb1)
  have HS2_1 := Lib.hid (HS2_0.out.next hb1)
  have HS3_1 := Lib.hid (HS3_0.out.next hb1)
  have HB_1 := Lib.hid (bstep HB_0.out hb1)
  have hw_1 := HB_1.out.size
  have hws_1 := (hb1).size
  clear f0_0 HS0_0 hf0_0 f1_0 HS1_0 hf1_0 f2_0 HS2_0 hf2_0 f3_0 HS3_0 hf3_0
  clear hb1
  have f0_1 := str6 HS0_1.out
  have hl0_1 := HS0_1.out.lt
  have hf0_1 := fun j => HS0_1.out.frozen j
  have f1_1 := str6 HS1_1.out
  have hl1_1 := HS1_1.out.lt
  have hf1_1 := fun j => HS1_1.out.frozen j
  have f2_1 := str6 HS2_1.out
  have hl2_1 := HS2_1.out.lt
  have hf2_1 := fun j => HS2_1.out.frozen j
  have f3_1 := str6 HS3_1.out
  have hl3_1 := HS3_1.out.lt
  have hf3_1 := fun j => HS3_1.out.frozen j
  have HYx_1 := Lib.hid (hy1)
  clear hy1
  go_wp2_with fail
  generalize hW2 : ((((((W1).setCell ⟨w.heap.size + 1 + 1, 0, none⟩ (.int .i64 1)).setCell ⟨w.heap.size + 1 + 1, 1, none⟩ (.slice A1 n1 c1)).setCell ⟨w.heap.size + 1 + 1, 2, none⟩ (.int .i64 0)).setCell ⟨w.heap.size + 1 + 1, 3, none⟩ (.int .i64 0)).setCell ⟨w.heap.size + 1 + 1, 4, none⟩ (.int .i64 0)).setCell ⟨w.heap.size + 1 + 1, 5, none⟩ (.bool true) = W2
  have HS2_2 : Hid (Str W2 (w.heap.size + 1 + 1) #[.int .i64 1, .slice A1 n1 c1, .int .i64 0, .int .i64 0, .int .i64 0, .bool true]) := Lib.hid (by rw [← hW2]; have := ((((((HS2_1.out).set 0 (.int .i64 1)).set 1 (.slice A1 n1 c1)).set 2 (.int .i64 0)).set 3 (.int .i64 0)).set 4 (.int .i64 0)).set 5 (.bool true); simpa using this)
  have hgr2 : W1.grownBy W2 (some (w.heap.size + 1 + 1)) := by rw [← hW2]; exact grown_set (grown_set (grown_set (grown_set (grown_set (grown_set (grown_refl W1 (w.heap.size + 1 + 1)) 0 (_)) 1 (_)) 2 (_)) 3 (_)) 4 (_)) 5 (_)
  have HS0_2 := Lib.hid (HS0_1.out.grown hgr2 (by omega))
  have HS1_2 := Lib.hid (HS1_1.out.grown hgr2 (by omega))
  have HS3_2 := Lib.hid (HS3_1.out.grown hgr2 (by omega))
  have HB_2 := Lib.hid (below_grown HB_1.out hgr2 (by omega))
  have hw_2 := HB_2.out.size
  have hws_2 := hgr2.size
  have HYx_2 := Lib.hid (BytesH.grown HYx_1.out HS2_1.out rfl hgr2)
  clear HYx_1
  clear hW2
  clear f0_1 HS0_1 hf0_1 f1_1 HS1_1 hf1_1 f2_1 HS2_1 hf2_1 f3_1 HS3_1 hf3_1
  clear hgr2
  have f0_2 := str6 HS0_2.out
  have hl0_2 := HS0_2.out.lt
  have hf0_2 := fun j => HS0_2.out.frozen j
  have f1_2 := str6 HS1_2.out
  have hl1_2 := HS1_2.out.lt
  have hf1_2 := fun j => HS1_2.out.frozen j
  have f2_2 := str6 HS2_2.out
  have hl2_2 := HS2_2.out.lt
  have hf2_2 := fun j => HS2_2.out.frozen j
  have f3_2 := str6 HS3_2.out
  have hl3_2 := HS3_2.out.lt
  have hf3_2 := fun j => HS3_2.out.frozen j
  generalize hW3 : ((((((W2).setCell ⟨w.heap.size + 1 + 1 + 1, 0, none⟩ (.int .i64 0)).setCell ⟨w.heap.size + 1 + 1 + 1, 1, none⟩ (.int .i64 0)).setCell ⟨w.heap.size + 1 + 1 + 1, 2, none⟩ (.slice none 0 0)).setCell ⟨w.heap.size + 1 + 1 + 1, 3, none⟩ (.int .i64 0)).setCell ⟨w.heap.size + 1 + 1 + 1, 4, none⟩ (.int .i64 0)).setCell ⟨w.heap.size + 1 + 1 + 1, 5, none⟩ (.int .i64 0) = W3
  have HS3_3 : Hid (Str W3 (w.heap.size + 1 + 1 + 1) #[.int .i64 0, .int .i64 0, .slice none 0 0, .int .i64 0, .int .i64 0, .int .i64 0]) := Lib.hid (by rw [← hW3]; have := ((((((HS3_2.out).set 0 (.int .i64 0)).set 1 (.int .i64 0)).set 2 (.slice none 0 0)).set 3 (.int .i64 0)).set 4 (.int .i64 0)).set 5 (.int .i64 0); simpa using this)
  have hgr3 : W2.grownBy W3 (some (w.heap.size + 1 + 1 + 1)) := by rw [← hW3]; exact grown_set (grown_set (grown_set (grown_set (grown_set (grown_set (grown_refl W2 (w.heap.size + 1 + 1 + 1)) 0 (_)) 1 (_)) 2 (_)) 3 (_)) 4 (_)) 5 (_)
  have HS0_3 := Lib.hid (HS0_2.out.grown hgr3 (by omega))
  have HS1_3 := Lib.hid (HS1_2.out.grown hgr3 (by omega))
  have HS2_3 := Lib.hid (HS2_2.out.grown hgr3 (by omega))
  have HB_3 := Lib.hid (below_grown HB_2.out hgr3 (by omega))
  have hw_3 := HB_3.out.size
  have hws_3 := hgr3.size
  have HYx_3 := Lib.hid (BytesH.grown HYx_2.out HS3_2.out rfl hgr3)
  clear HYx_2
  clear hW3
  clear f0_2 HS0_2 hf0_2 f1_2 HS1_2 hf1_2 f2_2 HS2_2 hf2_2 f3_2 HS3_2 hf3_2
  clear hgr3
  have f0_3 := str6 HS0_3.out
  have hl0_3 := HS0_3.out.lt
  have hf0_3 := fun j => HS0_3.out.frozen j
  have f1_3 := str6 HS1_3.out
  have hl1_3 := HS1_3.out.lt
  have hf1_3 := fun j => HS1_3.out.frozen j
  have f2_3 := str6 HS2_3.out
  have hl2_3 := HS2_3.out.lt
  have hf2_3 := fun j => HS2_3.out.frozen j
  have f3_3 := str6 HS3_3.out
  have hl3_3 := HS3_3.out.lt
  have hf3_3 := fun j => HS3_3.out.frozen j
  exact bodyPost_ret (v := .tuple #[.agg #[.int .i64 1, .slice A1 n1 c1, .int .i64 0, .int .i64 0, .int .i64 0, .bool true], .agg #[.int .i64 0, .int .i64 0, .slice none 0 0, .int .i64 0, .int .i64 0, .int .i64 0]]) (by simp [results, Tryz.results91, go_sem, *]) rfl ⟨A1, n1, c1, none, 0, 0, rfl, HYx_3.out, BytesH.none_ _ _, HB_3.out⟩
set_option maxRecDepth 100000 in
set_option maxHeartbeats 1000000 in
theorem write_some (bs : List Nat) (act : Int) (xk : ByteArray) (Ax : Option Addr) (nx cx : Nat) (xlo xhi xn : Int) (A : Option Addr) (n c : Nat) (kd : Int) (data : List UInt8) (lo hi va : Int) (w : World) (hbs : ∀ b ∈ bs, b < w.heap.size) (h : BytesH bs w A n c data) (hn : n ≤ 100000) (xdata : List UInt8) (B : Nat) (hx : Bytes w B Ax nx cx xdata) (hB : B ≤ w.heap.size) (hnx : nx ≤ 100000) (hk : ¬ kd = 2) :
    Calls Tryz.prog 91 #[.agg #[.int .i64 kd, .slice A n c, .int .i64 lo, .int .i64 hi, .int .i64 va, .bool true], .agg #[.int .i64 act, .string xk, .slice Ax nx cx, .int .i64 xlo, .int .i64 xhi, .int .i64 xn]] w (GivesRule bs w (0, some ⟨1, xdata, 0, 0, 0⟩, CellP.none)) := by
  have H := Lib.hid h
  clear h
  have HX := Lib.hid hx
  clear hx
  have hk2 : (kd == 2) = false := by simpa using hk
  go_enter Tryz.func91, Tryz.ntmps91
  go_wp2_with fail
  generalize hW0 : ((((w).alloc (.cells #[.int .i64 kd, .slice A n c, .int .i64 lo, .int .i64 hi, .int .i64 va, .bool true] 122)).alloc (.cells #[.int .i64 act, .string xk, .slice Ax nx cx, .int .i64 xlo, .int .i64 xhi, .int .i64 xn] 62)).alloc (.cells #[.int .i64 0, .slice none 0 0, .int .i64 0, .int .i64 0, .int .i64 0, .bool false] 122)).alloc (.cells #[.int .i64 0, .int .i64 0, .slice none 0 0, .int .i64 0, .int .i64 0, .int .i64 0] 58) = W0
  obtain ⟨HS0_0, HS1_0, HS2_0, HS3_0, HB_0, hw_0, hz0⟩ := new4 hW0
  clear hW0 hz0
  have f0_0 := str6 HS0_0.out
  have hl0_0 := HS0_0.out.lt
  have hf0_0 := fun j => HS0_0.out.frozen j
  have f1_0 := str6 HS1_0.out
  have hl1_0 := HS1_0.out.lt
  have hf1_0 := fun j => HS1_0.out.frozen j
  have f2_0 := str6 HS2_0.out
  have hl2_0 := HS2_0.out.lt
  have hf2_0 := fun j => HS2_0.out.frozen j
  have f3_0 := str6 HS3_0.out
  have hl3_0 := HS3_0.out.lt
  have hf3_0 := fun j => HS3_0.out.frozen j
  go_wp2_with fail
  refine (copyData_any bs Ax nx cx B xdata _ (fun b hb => by have := hbs b hb; omega) (HX.out.below (HB_0.out.mono hB)) (by omega) hnx).mono ?_
  rintro e W1 ⟨A1, n1, c1, rfl, hy1, hb1⟩
  have HS0_1 := Lib.hid (HS0_0.out.next hb1)
  have HS1_1 := Lib.hid (HS1_0.out.next hb1)
  have HS2_1 := Lib.hid (HS2_0.out.next hb1)
  have HS3_1 := Lib.hid (HS3_0.out.next hb1)
  have HB_1 := Lib.hid (bstep HB_0.out hb1)
  have hw_1 := HB_1.out.size
  have hws_1 := (hb1).size
  clear f0_0 HS0_0 hf0_0 f1_0 HS1_0 hf1_0 f2_0 HS2_0 hf2_0 f3_0 HS3_0 hf3_0
  clear hb1
  have f0_1 := str6 HS0_1.out
  have hl0_1 := HS0_1.out.lt
  have hf0_1 := fun j => HS0_1.out.frozen j
  have f1_1 := str6 HS1_1.out
  have hl1_1 := HS1_1.out.lt
  have hf1_1 := fun j => HS1_1.out.frozen j
  have f2_1 := str6 HS2_1.out
  have hl2_1 := HS2_1.out.lt
  have hf2_1 := fun j => HS2_1.out.frozen j
  have f3_1 := str6 HS3_1.out
  have hl3_1 := HS3_1.out.lt
  have hf3_1 := fun j => HS3_1.out.frozen j
  have HYx_1 := Lib.hid (hy1)
  clear hy1
  go_wp2_with fail
  generalize hW2 : ((((((W1).setCell ⟨w.heap.size + 1 + 1, 0, none⟩ (.int .i64 1)).setCell ⟨w.heap.size + 1 + 1, 1, none⟩ (.slice A1 n1 c1)).setCell ⟨w.heap.size + 1 + 1, 2, none⟩ (.int .i64 0)).setCell ⟨w.heap.size + 1 + 1, 3, none⟩ (.int .i64 0)).setCell ⟨w.heap.size + 1 + 1, 4, none⟩ (.int .i64 0)).setCell ⟨w.heap.size + 1 + 1, 5, none⟩ (.bool true) = W2
  have HS2_2 : Hid (Str W2 (w.heap.size + 1 + 1) #[.int .i64 1, .slice A1 n1 c1, .int .i64 0, .int .i64 0, .int .i64 0, .bool true]) := Lib.hid (by rw [← hW2]; have := ((((((HS2_1.out).set 0 (.int .i64 1)).set 1 (.slice A1 n1 c1)).set 2 (.int .i64 0)).set 3 (.int .i64 0)).set 4 (.int .i64 0)).set 5 (.bool true); simpa using this)
  have hgr2 : W1.grownBy W2 (some (w.heap.size + 1 + 1)) := by rw [← hW2]; exact grown_set (grown_set (grown_set (grown_set (grown_set (grown_set (grown_refl W1 (w.heap.size + 1 + 1)) 0 (_)) 1 (_)) 2 (_)) 3 (_)) 4 (_)) 5 (_)
  have HS0_2 := Lib.hid (HS0_1.out.grown hgr2 (by omega))
  have HS1_2 := Lib.hid (HS1_1.out.grown hgr2 (by omega))
  have HS3_2 := Lib.hid (HS3_1.out.grown hgr2 (by omega))
  have HB_2 := Lib.hid (below_grown HB_1.out hgr2 (by omega))
  have hw_2 := HB_2.out.size
  have hws_2 := hgr2.size
  have HYx_2 := Lib.hid (BytesH.grown HYx_1.out HS2_1.out rfl hgr2)
  clear HYx_1
  clear hW2
  clear f0_1 HS0_1 hf0_1 f1_1 HS1_1 hf1_1 f2_1 HS2_1 hf2_1 f3_1 HS3_1 hf3_1
  clear hgr2
  have f0_2 := str6 HS0_2.out
  have hl0_2 := HS0_2.out.lt
  have hf0_2 := fun j => HS0_2.out.frozen j
  have f1_2 := str6 HS1_2.out
  have hl1_2 := HS1_2.out.lt
  have hf1_2 := fun j => HS1_2.out.frozen j
  have f2_2 := str6 HS2_2.out
  have hl2_2 := HS2_2.out.lt
  have hf2_2 := fun j => HS2_2.out.frozen j
  have f3_2 := str6 HS3_2.out
  have hl3_2 := HS3_2.out.lt
  have hf3_2 := fun j => HS3_2.out.frozen j
  generalize hW3 : ((((((W2).setCell ⟨w.heap.size + 1 + 1 + 1, 0, none⟩ (.int .i64 0)).setCell ⟨w.heap.size + 1 + 1 + 1, 1, none⟩ (.int .i64 0)).setCell ⟨w.heap.size + 1 + 1 + 1, 2, none⟩ (.slice none 0 0)).setCell ⟨w.heap.size + 1 + 1 + 1, 3, none⟩ (.int .i64 0)).setCell ⟨w.heap.size + 1 + 1 + 1, 4, none⟩ (.int .i64 0)).setCell ⟨w.heap.size + 1 + 1 + 1, 5, none⟩ (.int .i64 0) = W3
  have HS3_3 : Hid (Str W3 (w.heap.size + 1 + 1 + 1) #[.int .i64 0, .int .i64 0, .slice none 0 0, .int .i64 0, .int .i64 0, .int .i64 0]) := Lib.hid (by rw [← hW3]; have := ((((((HS3_2.out).set 0 (.int .i64 0)).set 1 (.int .i64 0)).set 2 (.slice none 0 0)).set 3 (.int .i64 0)).set 4 (.int .i64 0)).set 5 (.int .i64 0); simpa using this)
  have hgr3 : W2.grownBy W3 (some (w.heap.size + 1 + 1 + 1)) := by rw [← hW3]; exact grown_set (grown_set (grown_set (grown_set (grown_set (grown_set (grown_refl W2 (w.heap.size + 1 + 1 + 1)) 0 (_)) 1 (_)) 2 (_)) 3 (_)) 4 (_)) 5 (_)
  have HS0_3 := Lib.hid (HS0_2.out.grown hgr3 (by omega))
  have HS1_3 := Lib.hid (HS1_2.out.grown hgr3 (by omega))
  have HS2_3 := Lib.hid (HS2_2.out.grown hgr3 (by omega))
  have HB_3 := Lib.hid (below_grown HB_2.out hgr3 (by omega))
  have hw_3 := HB_3.out.size
  have hws_3 := hgr3.size
  have HYx_3 := Lib.hid (BytesH.grown HYx_2.out HS3_2.out rfl hgr3)
  clear HYx_2
  clear hW3
  clear f0_2 HS0_2 hf0_2 f1_2 HS1_2 hf1_2 f2_2 HS2_2 hf2_2 f3_2 HS3_2 hf3_2
  clear hgr3
  have f0_3 := str6 HS0_3.out
  have hl0_3 := HS0_3.out.lt
  have hf0_3 := fun j => HS0_3.out.frozen j
  have f1_3 := str6 HS1_3.out
  have hl1_3 := HS1_3.out.lt
  have hf1_3 := fun j => HS1_3.out.frozen j
  have f2_3 := str6 HS2_3.out
  have hl2_3 := HS2_3.out.lt
  have hf2_3 := fun j => HS2_3.out.frozen j
  have f3_3 := str6 HS3_3.out
  have hl3_3 := HS3_3.out.lt
  have hf3_3 := fun j => HS3_3.out.frozen j
  exact bodyPost_ret (v := .tuple #[.agg #[.int .i64 1, .slice A1 n1 c1, .int .i64 0, .int .i64 0, .int .i64 0, .bool true], .agg #[.int .i64 0, .int .i64 0, .slice none 0 0, .int .i64 0, .int .i64 0, .int .i64 0]]) (by simp [results, Tryz.results91, go_sem, *]) rfl ⟨A1, n1, c1, none, 0, 0, rfl, HYx_3.out, BytesH.none_ _ _, HB_3.out⟩
set_option maxRecDepth 100000 in
set_option maxHeartbeats 1000000 in
theorem read_some (bs : List Nat) (act : Int) (xk : ByteArray) (Ax : Option Addr) (nx cx : Nat) (xlo xhi xn : Int) (A : Option Addr) (n c : Nat) (kd : Int) (data : List UInt8) (lo hi va : Int) (w : World) (hbs : ∀ b ∈ bs, b < w.heap.size) (h : BytesH bs w A n c data) (hn : n ≤ 100000) :
    Calls Tryz.prog 90 #[.agg #[.int .i64 kd, .slice A n c, .int .i64 lo, .int .i64 hi, .int .i64 va, .bool true], .agg #[.int .i64 act, .string xk, .slice Ax nx cx, .int .i64 xlo, .int .i64 xhi, .int .i64 xn]] w (GivesRule bs w (0, some ⟨kd, data, lo, hi, va⟩, ⟨kd, data, lo, hi, va⟩)) := by
  have H := Lib.hid h
  clear h
  go_enter Tryz.func90, Tryz.ntmps90
  go_wp2_with fail
  generalize hW0 : ((((w).alloc (.cells #[.int .i64 kd, .slice A n c, .int .i64 lo, .int .i64 hi, .int .i64 va, .bool true] 122)).alloc (.cells #[.int .i64 act, .string xk, .slice Ax nx cx, .int .i64 xlo, .int .i64 xhi, .int .i64 xn] 62)).alloc (.cells #[.int .i64 0, .slice none 0 0, .int .i64 0, .int .i64 0, .int .i64 0, .bool false] 122)).alloc (.cells #[.int .i64 0, .int .i64 0, .slice none 0 0, .int .i64 0, .int .i64 0, .int .i64 0] 58) = W0
  obtain ⟨HS0_0, HS1_0, HS2_0, HS3_0, HB_0, hw_0, hz0⟩ := new4 hW0
  clear hW0 hz0
  have f0_0 := str6 HS0_0.out
  have hl0_0 := HS0_0.out.lt
  have hf0_0 := fun j => HS0_0.out.frozen j
  have f1_0 := str6 HS1_0.out
  have hl1_0 := HS1_0.out.lt
  have hf1_0 := fun j => HS1_0.out.frozen j
  have f2_0 := str6 HS2_0.out
  have hl2_0 := HS2_0.out.lt
  have hf2_0 := fun j => HS2_0.out.frozen j
  have f3_0 := str6 HS3_0.out
  have hl3_0 := HS3_0.out.lt
  have hf3_0 := fun j => HS3_0.out.frozen j
  have HYt_0 := Lib.hid (H.out.next HB_0.out)
  go_wp2_with fail
  have HNU : Hid (∀ b ∈ ([w.heap.size + 1 + 1, w.heap.size + 1 + 1 + 1] : List Nat), ∃ cs, Str W0 b cs ∧ notU8 cs = true) := Lib.hid (by intro b hb; simp only [List.mem_cons, List.not_mem_nil, or_false] at hb; rcases hb with rfl | rfl <;> first | exact ⟨_, HS2_0.out, rfl⟩ | exact ⟨_, HS3_0.out, rfl⟩)
  have hOK : Reg.okS W0.heap.size (Reg.BxS.mk [] (fun t => if t = 4 then #[.int .i64 0, .slice none 0 0, .int .i64 0, .int .i64 0, .int .i64 0, .bool false] else if t = 5 then #[.int .i64 0, .int .i64 0, .slice none 0 0, .int .i64 0, .int .i64 0, .int .i64 0] else #[]) (fun t => if t = 4 then (Reg.rowM (Reg.eqM (.agg #[.int .i64 kd, .slice A n c, .int .i64 lo, .int .i64 hi, .int .i64 va, .bool true]))) else if t = 5 then (Reg.rowM (Reg.byH bs (fun A n c => .agg (ansV A n c ⟨0, ⟨kd, data, lo, hi, va⟩⟩)) data)) else (Reg.rowM (Reg.eqM undef))) [(3, 15), (4, 16)] (fun t => if t = 15 then (Reg.byH bs (fun A n c => .agg #[.int .i64 kd, .slice A n c, .int .i64 lo, .int .i64 hi, .int .i64 va]) data) else if t = 16 then (Reg.byH bs (fun A n c => .agg (ansV A n c ⟨0, ⟨kd, data, lo, hi, va⟩⟩)) data) else (Reg.eqM undef)) [(4, w.heap.size + 1 + 1, 5), (5, w.heap.size + 1 + 1 + 1, 6)]) := Reg.okS_of rfl (by first | exact List.pairwise_singleton _ _ | simp) (by intro k hk; have hk : k ∈ ([(4, w.heap.size + 1 + 1, 5), (5, w.heap.size + 1 + 1 + 1, 6)] : List (Tmp × Nat × Nat)) := hk; simp only [List.mem_cons, List.not_mem_nil, or_false] at hk; rcases hk with rfl | rfl <;> (dsimp only; omega))
  refine Reg.wp_region_box (R := (Reg.extB W0.heap.size (Reg.BxS.b0 (Reg.BxS.mk [] (fun t => if t = 4 then #[.int .i64 0, .slice none 0 0, .int .i64 0, .int .i64 0, .int .i64 0, .bool false] else if t = 5 then #[.int .i64 0, .int .i64 0, .slice none 0 0, .int .i64 0, .int .i64 0, .int .i64 0] else #[]) (fun t => if t = 4 then (Reg.rowM (Reg.eqM (.agg #[.int .i64 kd, .slice A n c, .int .i64 lo, .int .i64 hi, .int .i64 va, .bool true]))) else if t = 5 then (Reg.rowM (Reg.byH bs (fun A n c => .agg (ansV A n c ⟨0, ⟨kd, data, lo, hi, va⟩⟩)) data)) else (Reg.rowM (Reg.eqM undef))) [(3, 15), (4, 16)] (fun t => if t = 15 then (Reg.byH bs (fun A n c => .agg #[.int .i64 kd, .slice A n c, .int .i64 lo, .int .i64 hi, .int .i64 va]) data) else if t = 16 then (Reg.byH bs (fun A n c => .agg (ansV A n c ⟨0, ⟨kd, data, lo, hi, va⟩⟩)) data) else (Reg.eqM undef)) [(4, w.heap.size + 1 + 1, 5), (5, w.heap.size + 1 + 1 + 1, 6)])))) (W := W0) (Reg.BJ W0.heap.size (Reg.BxS.mk [] (fun t => if t = 4 then #[.int .i64 0, .slice none 0 0, .int .i64 0, .int .i64 0, .int .i64 0, .bool false] else if t = 5 then #[.int .i64 0, .int .i64 0, .slice none 0 0, .int .i64 0, .int .i64 0, .int .i64 0] else #[]) (fun t => if t = 4 then (Reg.rowM (Reg.eqM (.agg #[.int .i64 kd, .slice A n c, .int .i64 lo, .int .i64 hi, .int .i64 va, .bool true]))) else if t = 5 then (Reg.rowM (Reg.byH bs (fun A n c => .agg (ansV A n c ⟨0, ⟨kd, data, lo, hi, va⟩⟩)) data)) else (Reg.rowM (Reg.eqM undef))) [(3, 15), (4, 16)] (fun t => if t = 15 then (Reg.byH bs (fun A n c => .agg #[.int .i64 kd, .slice A n c, .int .i64 lo, .int .i64 hi, .int .i64 va]) data) else if t = 16 then (Reg.byH bs (fun A n c => .agg (ansV A n c ⟨0, ⟨kd, data, lo, hi, va⟩⟩)) data) else (Reg.eqM undef)) [(4, w.heap.size + 1 + 1, 5), (5, w.heap.size + 1 + 1 + 1, 6)])) [Reg.eqv (.agg #[.int .i64 kd, .slice A n c, .int .i64 lo, .int .i64 hi, .int .i64 va, .bool true]), Reg.eqv (.pointer (some ⟨w.heap.size, 0, none⟩)), Reg.eqv (.agg #[.int .i64 kd, .slice A n c, .int .i64 lo, .int .i64 hi, .int .i64 va]), Reg.any, Reg.any, Reg.any, Reg.any] 17 [[(2, none)], [(2, none)], [(13, some 1)], [(14, some 2)], [(15, some 3)], [(4, none), (12, some 0)], [(5, none), (16, some 4)]] rfl (by kernel_rfl) (by kernel_rfl) (fun _ h => Reg.bj_zero (by intro k hk; have hk : k ∈ ([(4, w.heap.size + 1 + 1, 5), (5, w.heap.size + 1 + 1 + 1, 6)] : List (Tmp × Nat × Nat)) := hk; simp only [List.mem_cons, List.not_mem_nil, or_false] at hk; rcases hk with rfl | rfl <;> first | exact ⟨HS2_0.out, rfl⟩ | exact ⟨HS3_0.out, rfl⟩) h) (by kernel_rfl) ?_ [some 12, some 13, some 14, some 15, some 16, none, none] (by kernel_rfl) ?_
  · refine ⟨?_, ?_, ?_, ?_, ?_, ?_, ?_, trivial⟩
    · refine Reg.oblB_pure rfl rfl rfl ?_
      intro ax wx hx hs hmm
      replace hx : Reg.KeepB W0.heap.size [w.heap.size + 1 + 1, w.heap.size + 1 + 1 + 1] W0 wx := hx
      have hxB : Below w.heap.size W0 wx := hx.below (by omega) (by intro b hb; have hb : b ∈ ([w.heap.size + 1 + 1, w.heap.size + 1 + 1 + 1] : List Nat) := hb; simp only [List.mem_cons, List.not_mem_nil, or_false] at hb; rcases hb with rfl | rfl <;> omega)
      obtain ⟨e2, -⟩ := hs
      have g2 := Reg.ev (v := .pointer (some ⟨w.heap.size, 0, none⟩)) e2
      obtain ⟨l0_0, l0_1, l0_2, l0_3, l0_4, l0_5⟩ := str6 (hx.str HS0_0.out (by omega) (by simp only [List.mem_cons, List.not_mem_nil, or_false, not_or]; omega))
      obtain ⟨l1_0, l1_1, l1_2, l1_3, l1_4, l1_5⟩ := str6 (hx.str HS1_0.out (by omega) (by simp only [List.mem_cons, List.not_mem_nil, or_false, not_or]; omega))
      exact (Reg.wp_eqvB (Option.some_ne_none _) (by go_simp) rfl)
    · refine Reg.oblB_pure rfl rfl rfl ?_
      intro ax wx hx hs hmm
      replace hx : Reg.KeepB W0.heap.size [w.heap.size + 1 + 1, w.heap.size + 1 + 1 + 1] W0 wx := hx
      have hxB : Below w.heap.size W0 wx := hx.below (by omega) (by intro b hb; have hb : b ∈ ([w.heap.size + 1 + 1, w.heap.size + 1 + 1 + 1] : List Nat) := hb; simp only [List.mem_cons, List.not_mem_nil, or_false] at hb; rcases hb with rfl | rfl <;> omega)
      obtain ⟨e2, -⟩ := hs
      have g2 := Reg.ev (v := .pointer (some ⟨w.heap.size, 0, none⟩)) e2
      exact (Reg.wp_eqvB (Option.some_ne_none _) (by go_simp) rfl)
    · refine Reg.oblB_pure rfl rfl rfl ?_
      intro ax wx hx hs hmm
      replace hx : Reg.KeepB W0.heap.size [w.heap.size + 1 + 1, w.heap.size + 1 + 1 + 1] W0 wx := hx
      have hxB : Below w.heap.size W0 wx := hx.below (by omega) (by intro b hb; have hb : b ∈ ([w.heap.size + 1 + 1, w.heap.size + 1 + 1 + 1] : List Nat) := hb; simp only [List.mem_cons, List.not_mem_nil, or_false] at hb; rcases hb with rfl | rfl <;> omega)
      obtain ⟨e13, -⟩ := hs
      have g13 := Reg.ev (v := .pointer (some ⟨w.heap.size, 0, none⟩)) e13
      obtain ⟨l0_0, l0_1, l0_2, l0_3, l0_4, l0_5⟩ := str6 (hx.str HS0_0.out (by omega) (by simp only [List.mem_cons, List.not_mem_nil, or_false, not_or]; omega))
      obtain ⟨l1_0, l1_1, l1_2, l1_3, l1_4, l1_5⟩ := str6 (hx.str HS1_0.out (by omega) (by simp only [List.mem_cons, List.not_mem_nil, or_false, not_or]; omega))
      exact (Reg.wp_eqvB (Option.some_ne_none _) (by go_simp) rfl)
    · refine Reg.oblB_mem rfl rfl hOK (t := 15) rfl (List.mem_of_getElem? (i := 0) rfl) (by show 15 < 17; decide) (by show 3 < 7; decide) (fun _ _ => trivial) ?_
      intro ax wx rb hx hrb hs hmm
      replace hx : Reg.KeepB W0.heap.size [w.heap.size + 1 + 1, w.heap.size + 1 + 1 + 1] W0 wx := hx
      have hxB : Below w.heap.size W0 wx := hx.below (by omega) (by intro b hb; have hb : b ∈ ([w.heap.size + 1 + 1, w.heap.size + 1 + 1 + 1] : List Nat) := hb; simp only [List.mem_cons, List.not_mem_nil, or_false] at hb; rcases hb with rfl | rfl <;> omega)
      obtain ⟨e14, -⟩ := hs
      have g14 := Reg.ev (v := .agg #[.int .i64 kd, .slice A n c, .int .i64 lo, .int .i64 hi, .int .i64 va]) e14
      go_simp
      refine (copyCell_any (bs ++ rb) A n c W0.heap.size kd data lo hi va _ ?_ (HYt_0.out.bytes.keepB (Nat.le_refl _) HNU.out hx) hx.size hn).mono ?_
      · intro b hb
        rcases List.mem_append.1 hb with hb | hb
        · have := hbs b hb; have := hxB.size; omega
        · exact (hrb b hb).2.1
      rintro e wy ⟨A1, n1, c1, rfl, hy1, hby⟩
      unfold BytesH at hy1
      rw [hideL_append] at hy1
      exact ⟨_, rfl, hby, A1, n1, c1, rfl, hy1⟩
    · refine Reg.oblB_mem rfl rfl hOK (t := 16) rfl (List.mem_of_getElem? (i := 1) rfl) (by show 16 < 17; decide) (by show 4 < 7; decide) (fun _ _ => trivial) ?_
      intro ax wx rb hx hrb hs hmm
      replace hx : Reg.KeepB W0.heap.size [w.heap.size + 1 + 1, w.heap.size + 1 + 1 + 1] W0 wx := hx
      have hxB : Below w.heap.size W0 wx := hx.below (by omega) (by intro b hb; have hb : b ∈ ([w.heap.size + 1 + 1, w.heap.size + 1 + 1 + 1] : List Nat) := hb; simp only [List.mem_cons, List.not_mem_nil, or_false] at hb; rcases hb with rfl | rfl <;> omega)
      obtain ⟨e15, -⟩ := hs
      have m15 : (Reg.byH bs (fun A n c => .agg #[.int .i64 kd, .slice A n c, .int .i64 lo, .int .i64 hi, .int .i64 va]) data).pred (ax.eval (.tmp 15)) (hideL wx rb) wx.heap.size := hmm (3, 15) (List.mem_of_getElem? (i := 0) rfl) (by kernel_rfl)
      obtain ⟨A1, n1, c1, e15, hy1⟩ := m15
      have g15 := Reg.ev e15
      exact Reg.mv_mem rfl (by go_simp; rfl) ⟨A1, n1, c1, rfl, hy1⟩
    · refine Reg.oblB_store0 rfl rfl hOK (t := 4) (g := w.heap.size + 1 + 1) (List.mem_of_getElem? (i := 0) rfl) rfl (by show 5 < 7; decide) (fun _ _ => trivial) ?_
      intro ax wx rb hx hrb hs hmm hS
      replace hx : Reg.KeepB W0.heap.size [w.heap.size + 1 + 1, w.heap.size + 1 + 1 + 1] W0 wx := hx
      have hxB : Below w.heap.size W0 wx := hx.below (by omega) (by intro b hb; have hb : b ∈ ([w.heap.size + 1 + 1, w.heap.size + 1 + 1 + 1] : List Nat) := hb; simp only [List.mem_cons, List.not_mem_nil, or_false] at hb; rcases hb with rfl | rfl <;> omega)
      obtain ⟨e4, e12, -⟩ := hs
      have g4 := Reg.ev (v := .pointer (some ⟨w.heap.size + 1 + 1, 0, none⟩)) e4
      have g12 := Reg.ev (v := .agg #[.int .i64 kd, .slice A n c, .int .i64 lo, .int .i64 hi, .int .i64 va, .bool true]) e12
      exact Reg.st_box rfl (Reg.run_st_box rfl e4 e12 hS rfl (by kernel_rfl) rfl) rfl rfl
    · refine Reg.oblB_store0 rfl rfl hOK (t := 5) (g := w.heap.size + 1 + 1 + 1) (List.mem_of_getElem? (i := 1) rfl) rfl (by show 6 < 7; decide) (fun _ _ => trivial) ?_
      intro ax wx rb hx hrb hs hmm hS
      replace hx : Reg.KeepB W0.heap.size [w.heap.size + 1 + 1, w.heap.size + 1 + 1 + 1] W0 wx := hx
      have hxB : Below w.heap.size W0 wx := hx.below (by omega) (by intro b hb; have hb : b ∈ ([w.heap.size + 1 + 1, w.heap.size + 1 + 1 + 1] : List Nat) := hb; simp only [List.mem_cons, List.not_mem_nil, or_false] at hb; rcases hb with rfl | rfl <;> omega)
      obtain ⟨e5, e16, -⟩ := hs
      have g5 := Reg.ev (v := .pointer (some ⟨w.heap.size + 1 + 1 + 1, 0, none⟩)) e5
      have m16 : (Reg.byH bs (fun A n c => .agg (ansV A n c ⟨0, ⟨kd, data, lo, hi, va⟩⟩)) data).pred (ax.eval (.tmp 16)) (hideL wx rb) wx.heap.size := hmm (4, 16) (List.mem_of_getElem? (i := 1) rfl) (by kernel_rfl)
      obtain ⟨A1, n1, c1, e16, hy1⟩ := m16
      exact Reg.st_box rfl (Reg.run_st_box rfl e5 e16 hS rfl (by kernel_rfl) rfl) rfl ⟨A1, n1, c1, rfl, hy1⟩
  · intro W1 listed hwf hall
    simp only [Reg.Fin]
    rintro _ rfl _ rfl _ rfl v15 h15 v16 h16 vn5 hn5 vn6 hn6
    intro hJ
    obtain ⟨hJM, hJB, hJN, hJ0⟩ := Reg.bj_end (n := 7) hall (by show ∀ b ∈ ([] : List (Nat × Tmp × Nat)), b.1 < 7 ∧ b.2.2 < 7; decide) (by show ∀ m ∈ ([(3, 15), (4, 16)] : List (Nat × Tmp)), m.1 < 7; decide) (by show ∀ k ∈ ([5, 6] : List Nat), k < 7; decide) hJ
    have hm15 : (Reg.byH bs (fun A n c => .agg #[.int .i64 kd, .slice A n c, .int .i64 lo, .int .i64 hi, .int .i64 va]) data).pred v15 W1 W1.heap.size := by have h := hJM (3, 15) (List.mem_of_getElem? (i := 0) rfl); simpa [Act.eval, Act.put] using h
    have hm16 : (Reg.byH bs (fun A n c => .agg (ansV A n c ⟨0, ⟨kd, data, lo, hi, va⟩⟩)) data).pred v16 W1 W1.heap.size := by have h := hJM (4, 16) (List.mem_of_getElem? (i := 1) rfl); simpa [Act.eval, Act.put] using h
    obtain ⟨cs4, hS4, hX4⟩ := hJ0 (4, w.heap.size + 1 + 1, 5) (List.mem_of_getElem? (i := 0) rfl)
    have hX4 : (Reg.rowM (Reg.eqM (.agg #[.int .i64 kd, .slice A n c, .int .i64 lo, .int .i64 hi, .int .i64 va, .bool true]))).pred cs4 W1 W1.heap.size := hX4
    obtain ⟨cs5, hS5, hX5⟩ := hJ0 (5, w.heap.size + 1 + 1 + 1, 6) (List.mem_of_getElem? (i := 1) rfl)
    have hX5 : (Reg.rowM (Reg.byH bs (fun A n c => .agg (ansV A n c ⟨0, ⟨kd, data, lo, hi, va⟩⟩)) data)).pred cs5 W1 W1.heap.size := hX5
    clear hJM hJB hJN hJ0 hJ hall 
    go_simp
    replace hwf : Reg.KeepB W0.heap.size [w.heap.size + 1 + 1, w.heap.size + 1 + 1 + 1] W0 W1 := hwf
    have hbw : Below w.heap.size W0 W1 := hwf.below (by omega) (by intro b hb; simp only [List.mem_cons, List.not_mem_nil, or_false] at hb; rcases hb with rfl | rfl <;> omega)
    have HS0_1 := Lib.hid (hwf.str HS0_0.out (by omega) (by simp only [List.mem_cons, List.not_mem_nil, or_false, not_or]; omega))
    have HS1_1 := Lib.hid (hwf.str HS1_0.out (by omega) (by simp only [List.mem_cons, List.not_mem_nil, or_false, not_or]; omega))
    have HB_1 := Lib.hid (HB_0.out.trans hbw)
    have hw_1 := HB_1.out.size
    have hws_1 := hbw.size
    have HYt_1 := Lib.hid (HYt_0.out.keepB HNU.out hwf)
    clear HYt_0
    have HS2_1 := Lib.hid hS4
    clear hS4
    have HS3_1 := Lib.hid hS5
    clear hS5
    clear f0_0 HS0_0 hf0_0 f1_0 HS1_0 hf1_0 f2_0 HS2_0 hf2_0 f3_0 HS3_0 hf3_0
    clear HNU
    clear hwf hbw hOK
    obtain ⟨AB, nB, cB, eB, hyB⟩ := hX5
    have e4 : cs4 = #[.int .i64 kd, .slice A n c, .int .i64 lo, .int .i64 hi, .int .i64 va, .bool true] := by injection hX4
    have e5 : cs5 = ansV AB nB cB ⟨0, ⟨kd, data, lo, hi, va⟩⟩ := by injection eB
    subst e4 e5
    clear hX4 eB hm15 hm16
    have HS3_1 : Hid (Str W1 (w.heap.size + 1 + 1 + 1) #[.int .i64 0, .int .i64 kd, .slice AB nB cB, .int .i64 lo, .int .i64 hi, .int .i64 va]) := HS3_1
    have HYB : Hid (BytesH bs W1 AB nB cB data) := Lib.hid hyB
    clear hyB
    have f0_1 := str6 HS0_1.out
    have hl0_1 := HS0_1.out.lt
    have hf0_1 := fun j => HS0_1.out.frozen j
    have f1_1 := str6 HS1_1.out
    have hl1_1 := HS1_1.out.lt
    have hf1_1 := fun j => HS1_1.out.frozen j
    have f2_1 := str6 HS2_1.out
    have hl2_1 := HS2_1.out.lt
    have hf2_1 := fun j => HS2_1.out.frozen j
    have f3_1 := str6 HS3_1.out
    have hl3_1 := HS3_1.out.lt
    have hf3_1 := fun j => HS3_1.out.frozen j
    go_wp2_with fail
    exact bodyPost_ret (v := .tuple #[.agg #[.int .i64 kd, .slice A n c, .int .i64 lo, .int .i64 hi, .int .i64 va, .bool true], .agg #[.int .i64 0, .int .i64 kd, .slice AB nB cB, .int .i64 lo, .int .i64 hi, .int .i64 va]]) (by simp [results, Tryz.results90, go_sem, *]) rfl ⟨A, n, c, AB, nB, cB, rfl, HYt_1.out, HYB.out, HB_1.out⟩
end Go.Proofs.YtpklclnehlgcpaaGreat.ModelW
end
