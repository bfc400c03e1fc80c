/-
  Parts of the proof of PlanGrows.
-/
import Derived.Test.YtpklclnehlgcpaaGreatPlanG15
import Derived.Laws.EntriesVeiled
section
namespace Go.Proofs.YtpklclnehlgcpaaGreat.ModelW
open Go.RowKit
set_option linter.unusedVariables false
set_option maxRecDepth 100000 in
set_option maxHeartbeats 1000000 in
theorem moveAdd_none (bs : List Nat) (act : Int) (xk : ByteArray) (Ax : Option Addr) (nx cx : Nat) (xlo xhi xn : Int)  (w : World) (hbs : ∀ b ∈ bs, b < w.heap.size) (bf : Nat) (hbf : bf < w.heap.size) (hfc : w.cell? ⟨bf, 0, none⟩ = some (.func (.func 95) #[] #[])) :
    Calls Tryz.prog 105 #[.agg #[.int .i64 0, .slice none 0 0, .int .i64 0, .int .i64 0, .int .i64 0, .bool false], .agg #[.int .i64 act, .string xk, .slice Ax nx cx, .int .i64 xlo, .int .i64 xhi, .int .i64 xn], .pointer (some ⟨bf, 0, none⟩)] w (GivesRule bs w (5, none, CellP.none)) := by
  have hb1 : bf < w.heap.size + 1 := by omega
  have hb2 : bf < w.heap.size + 1 + 1 := by omega
  have hb3 : bf < w.heap.size + 1 + 1 + 1 := by omega
  go_enter Tryz.func105, Tryz.ntmps105
  go_wp2_with fail
  generalize hW0 : ((((w).alloc (.cells #[.int .i64 0, .slice none 0 0, .int .i64 0, .int .i64 0, .int .i64 0, .bool false] 122)).alloc (.cells #[.int .i64 act, .string xk, .slice Ax nx cx, .int .i64 xlo, .int .i64 xhi, .int .i64 xn] 62)).alloc (.cells #[.int .i64 0, .slice none 0 0, .int .i64 0, .int .i64 0, .int .i64 0, .bool false] 122)).alloc (.cells #[.int .i64 0, .int .i64 0, .slice none 0 0, .int .i64 0, .int .i64 0, .int .i64 0] 58) = W0
  obtain ⟨HS0_0, HS1_0, HS2_0, HS3_0, HB_0, hw_0, hz0⟩ := new4 hW0
  clear hW0 hz0
  have f0_0 := str6 HS0_0.out
  have hl0_0 := HS0_0.out.lt
  have hf0_0 := fun j => HS0_0.out.frozen j
  have f1_0 := str6 HS1_0.out
  have hl1_0 := HS1_0.out.lt
  have hf1_0 := fun j => HS1_0.out.frozen j
  have f2_0 := str6 HS2_0.out
  have hl2_0 := HS2_0.out.lt
  have hf2_0 := fun j => HS2_0.out.frozen j
  have f3_0 := str6 HS3_0.out
  have hl3_0 := HS3_0.out.lt
  have hf3_0 := fun j => HS3_0.out.frozen j
  clear hfc
  go_wp2_with fail
  refine (refuse_any 5 _).mono ?_
  rintro e W1 ⟨rfl, hb1⟩
  have HS0_1 := Lib.hid (HS0_0.out.next hb1)
  have HS1_1 := Lib.hid (HS1_0.out.next hb1)
  have HS2_1 := Lib.hid (HS2_0.out.next hb1)
  have HS3_1 := Lib.hid (HS3_0.out.next hb1)
  have HB_1 := Lib.hid (bstep HB_0.out hb1)
  have hw_1 := HB_1.out.size
  have hws_1 := (hb1).size
  clear f0_0 HS0_0 hf0_0 f1_0 HS1_0 hf1_0 f2_0 HS2_0 hf2_0 f3_0 HS3_0 hf3_0
  clear hb1
  have f0_1 := str6 HS0_1.out
  have hl0_1 := HS0_1.out.lt
  have hf0_1 := fun j => HS0_1.out.frozen j
  have f1_1 := str6 HS1_1.out
  have hl1_1 := HS1_1.out.lt
  have hf1_1 := fun j => HS1_1.out.frozen j
  have f2_1 := str6 HS2_1.out
  have hl2_1 := HS2_1.out.lt
  have hf2_1 := fun j => HS2_1.out.frozen j
  have f3_1 := str6 HS3_1.out
  have hl3_1 := HS3_1.out.lt
  have hf3_1 := fun j => HS3_1.out.frozen j
  go_wp2_with fail
  generalize hW2 : ((((((W1).setCell ⟨w.heap.size + 1 + 1, 0, none⟩ (.int .i64 0)).setCell ⟨w.heap.size + 1 + 1, 1, none⟩ (.slice none 0 0)).setCell ⟨w.heap.size + 1 + 1, 2, none⟩ (.int .i64 0)).setCell ⟨w.heap.size + 1 + 1, 3, none⟩ (.int .i64 0)).setCell ⟨w.heap.size + 1 + 1, 4, none⟩ (.int .i64 0)).setCell ⟨w.heap.size + 1 + 1, 5, none⟩ (.bool false) = W2
  have HS2_2 : Hid (Str W2 (w.heap.size + 1 + 1) #[.int .i64 0, .slice none 0 0, .int .i64 0, .int .i64 0, .int .i64 0, .bool false]) := Lib.hid (by rw [← hW2]; have := ((((((HS2_1.out).set 0 (.int .i64 0)).set 1 (.slice none 0 0)).set 2 (.int .i64 0)).set 3 (.int .i64 0)).set 4 (.int .i64 0)).set 5 (.bool false); simpa using this)
  have hgr2 : W1.grownBy W2 (some (w.heap.size + 1 + 1)) := by rw [← hW2]; exact grown_set (grown_set (grown_set (grown_set (grown_set (grown_set (grown_refl W1 (w.heap.size + 1 + 1)) 0 (_)) 1 (_)) 2 (_)) 3 (_)) 4 (_)) 5 (_)
  have HS0_2 := Lib.hid (HS0_1.out.grown hgr2 (by omega))
  have HS1_2 := Lib.hid (HS1_1.out.grown hgr2 (by omega))
  have HS3_2 := Lib.hid (HS3_1.out.grown hgr2 (by omega))
  have HB_2 := Lib.hid (below_grown HB_1.out hgr2 (by omega))
  have hw_2 := HB_2.out.size
  have hws_2 := hgr2.size
  clear hW2
  clear f0_1 HS0_1 hf0_1 f1_1 HS1_1 hf1_1 f2_1 HS2_1 hf2_1 f3_1 HS3_1 hf3_1
  clear hgr2
  have f0_2 := str6 HS0_2.out
  have hl0_2 := HS0_2.out.lt
  have hf0_2 := fun j => HS0_2.out.frozen j
  have f1_2 := str6 HS1_2.out
  have hl1_2 := HS1_2.out.lt
  have hf1_2 := fun j => HS1_2.out.frozen j
  have f2_2 := str6 HS2_2.out
  have hl2_2 := HS2_2.out.lt
  have hf2_2 := fun j => HS2_2.out.frozen j
  have f3_2 := str6 HS3_2.out
  have hl3_2 := HS3_2.out.lt
  have hf3_2 := fun j => HS3_2.out.frozen j
  generalize hW3 : ((((((W2).setCell ⟨w.heap.size + 1 + 1 + 1, 0, none⟩ (.int .i64 5)).setCell ⟨w.heap.size + 1 + 1 + 1, 1, none⟩ (.int .i64 0)).setCell ⟨w.heap.size + 1 + 1 + 1, 2, none⟩ (.slice none 0 0)).setCell ⟨w.heap.size + 1 + 1 + 1, 3, none⟩ (.int .i64 0)).setCell ⟨w.heap.size + 1 + 1 + 1, 4, none⟩ (.int .i64 0)).setCell ⟨w.heap.size + 1 + 1 + 1, 5, none⟩ (.int .i64 0) = W3
  have HS3_3 : Hid (Str W3 (w.heap.size + 1 + 1 + 1) #[.int .i64 5, .int .i64 0, .slice none 0 0, .int .i64 0, .int .i64 0, .int .i64 0]) := Lib.hid (by rw [← hW3]; have := ((((((HS3_2.out).set 0 (.int .i64 5)).set 1 (.int .i64 0)).set 2 (.slice none 0 0)).set 3 (.int .i64 0)).set 4 (.int .i64 0)).set 5 (.int .i64 0); simpa using this)
  have hgr3 : W2.grownBy W3 (some (w.heap.size + 1 + 1 + 1)) := by rw [← hW3]; exact grown_set (grown_set (grown_set (grown_set (grown_set (grown_set (grown_refl W2 (w.heap.size + 1 + 1 + 1)) 0 (_)) 1 (_)) 2 (_)) 3 (_)) 4 (_)) 5 (_)
  have HS0_3 := Lib.hid (HS0_2.out.grown hgr3 (by omega))
  have HS1_3 := Lib.hid (HS1_2.out.grown hgr3 (by omega))
  have HS2_3 := Lib.hid (HS2_2.out.grown hgr3 (by omega))
  have HB_3 := Lib.hid (below_grown HB_2.out hgr3 (by omega))
  have hw_3 := HB_3.out.size
  have hws_3 := hgr3.size
  clear hW3
  clear f0_2 HS0_2 hf0_2 f1_2 HS1_2 hf1_2 f2_2 HS2_2 hf2_2 f3_2 HS3_2 hf3_2
  clear hgr3
  have f0_3 := str6 HS0_3.out
  have hl0_3 := HS0_3.out.lt
  have hf0_3 := fun j => HS0_3.out.frozen j
  have f1_3 := str6 HS1_3.out
  have hl1_3 := HS1_3.out.lt
  have hf1_3 := fun j => HS1_3.out.frozen j
  have f2_3 := str6 HS2_3.out
  have hl2_3 := HS2_3.out.lt
  have hf2_3 := fun j => HS2_3.out.frozen j
  have f3_3 := str6 HS3_3.out
  have hl3_3 := HS3_3.out.lt
  have hf3_3 := fun j => HS3_3.out.frozen j
  exact bodyPost_ret (v := .tuple #[.agg #[.int .i64 0, .slice none 0 0, .int .i64 0, .int .i64 0, .int .i64 0, .bool false], .agg #[.int .i64 5, .int .i64 0, .slice none 0 0, .int .i64 0, .int .i64 0, .int .i64 0]]) (by simp [results, Tryz.results105, go_sem, *]) rfl ⟨none, 0, 0, none, 0, 0, rfl, BytesH.none_ _ _, BytesH.none_ _ _, HB_3.out⟩
set_option maxRecDepth 100000 in
set_option maxHeartbeats 1000000 in
theorem moveAdd_rec (bs : List Nat) (act : Int) (xk : ByteArray) (Ax : Option Addr) (nx cx : Nat) (xlo xhi xn : Int) (A : Option Addr) (n c : Nat) (kd : Int) (data : List UInt8) (lo hi va : Int) (w : World) (hbs : ∀ b ∈ bs, b < w.heap.size) (bf : Nat) (hbf : bf < w.heap.size) (hfc : w.cell? ⟨bf, 0, none⟩ = some (.func (.func 95) #[] #[])) (hk : ¬ kd = 2) :
    Calls Tryz.prog 105 #[.agg #[.int .i64 kd, .slice A n c, .int .i64 lo, .int .i64 hi, .int .i64 va, .bool true], .agg #[.int .i64 act, .string xk, .slice Ax nx cx, .int .i64 xlo, .int .i64 xhi, .int .i64 xn], .pointer (some ⟨bf, 0, none⟩)] w (GivesRule bs w (6, none, CellP.none)) := by
  have hk2 : (kd != 2) = true := by simpa using hk
  have hb1 : bf < w.heap.size + 1 := by omega
  have hb2 : bf < w.heap.size + 1 + 1 := by omega
  have hb3 : bf < w.heap.size + 1 + 1 + 1 := by omega
  go_enter Tryz.func105, Tryz.ntmps105
  go_wp2_with fail
  generalize hW0 : ((((w).alloc (.cells #[.int .i64 kd, .slice A n c, .int .i64 lo, .int .i64 hi, .int .i64 va, .bool true] 122)).alloc (.cells #[.int .i64 act, .string xk, .slice Ax nx cx, .int .i64 xlo, .int .i64 xhi, .int .i64 xn] 62)).alloc (.cells #[.int .i64 0, .slice none 0 0, .int .i64 0, .int .i64 0, .int .i64 0, .bool false] 122)).alloc (.cells #[.int .i64 0, .int .i64 0, .slice none 0 0, .int .i64 0, .int .i64 0, .int .i64 0] 58) = W0
  obtain ⟨HS0_0, HS1_0, HS2_0, HS3_0, HB_0, hw_0, hz0⟩ := new4 hW0
  clear hW0 hz0
  have f0_0 := str6 HS0_0.out
  have hl0_0 := HS0_0.out.lt
  have hf0_0 := fun j => HS0_0.out.frozen j
  have f1_0 := str6 HS1_0.out
  have hl1_0 := HS1_0.out.lt
  have hf1_0 := fun j => HS1_0.out.frozen j
  have f2_0 := str6 HS2_0.out
  have hl2_0 := HS2_0.out.lt
  have hf2_0 := fun j => HS2_0.out.frozen j
  have f3_0 := str6 HS3_0.out
  have hl3_0 := HS3_0.out.lt
  have hf3_0 := fun j => HS3_0.out.frozen j
  clear hfc
  go_wp2_with fail
  refine (refuse_any 6 _).mono ?_
  rintro e W1 ⟨rfl, hb1⟩
  have HS0_1 := Lib.hid (HS0_0.out.next hb1)
  have HS1_1 := Lib.hid (HS1_0.out.next hb1)
  have HS2_1 := Lib.hid (HS2_0.out.next hb1)
  have HS3_1 := Lib.hid (HS3_0.out.next hb1)
  have HB_1 := Lib.hid (bstep HB_0.out hb1)
  have hw_1 := HB_1.out.size
  have hws_1 := (hb1).size
  clear f0_0 HS0_0 hf0_0 f1_0 HS1_0 hf1_0 f2_0 HS2_0 hf2_0 f3_0 HS3_0 hf3_0
  clear hb1
  have f0_1 := str6 HS0_1.out
  have hl0_1 := HS0_1.out.lt
  have hf0_1 := fun j => HS0_1.out.frozen j
  have f1_1 := str6 HS1_1.out
  have hl1_1 := HS1_1.out.lt
  have hf1_1 := fun j => HS1_1.out.frozen j
  have f2_1 := str6 HS2_1.out
  have hl2_1 := HS2_1.out.lt
  have hf2_1 := fun j => HS2_1.out.frozen j
  have f3_1 := str6 HS3_1.out
  have hl3_1 := HS3_1.out.lt
  have hf3_1 := fun j => HS3_1.out.frozen j
  go_wp2_with fail
  generalize hW2 : ((((((W1).setCell ⟨w.heap.size + 1 + 1, 0, none⟩ (.int .i64 0)).setCell ⟨w.heap.size + 1 + 1, 1, none⟩ (.slice none 0 0)).setCell ⟨w.heap.size + 1 + 1, 2, none⟩ (.int .i64 0)).setCell ⟨w.heap.size + 1 + 1, 3, none⟩ (.int .i64 0)).setCell ⟨w.heap.size + 1 + 1, 4, none⟩ (.int .i64 0)).setCell ⟨w.heap.size + 1 + 1, 5, none⟩ (.bool false) = W2
  have HS2_2 : Hid (Str W2 (w.heap.size + 1 + 1) #[.int .i64 0, .slice none 0 0, .int .i64 0, .int .i64 0, .int .i64 0, .bool false]) := Lib.hid (by rw [← hW2]; have := ((((((HS2_1.out).set 0 (.int .i64 0)).set 1 (.slice none 0 0)).set 2 (.int .i64 0)).set 3 (.int .i64 0)).set 4 (.int .i64 0)).set 5 (.bool false); simpa using this)
  have hgr2 : W1.grownBy W2 (some (w.heap.size + 1 + 1)) := by rw [← hW2]; exact grown_set (grown_set (grown_set (grown_set (grown_set (grown_set (grown_refl W1 (w.heap.size + 1 + 1)) 0 (_)) 1 (_)) 2 (_)) 3 (_)) 4 (_)) 5 (_)
  have HS0_2 := Lib.hid (HS0_1.out.grown hgr2 (by omega))
  have HS1_2 := Lib.hid (HS1_1.out.grown hgr2 (by omega))
  have HS3_2 := Lib.hid (HS3_1.out.grown hgr2 (by omega))
  have HB_2 := Lib.hid (below_grown HB_1.out hgr2 (by omega))
  have hw_2 := HB_2.out.size
  have hws_2 := hgr2.size
  clear hW2
  clear f0_1 HS0_1 hf0_1 f1_1 HS1_1 hf1_1 f2_1 HS2_1 hf2_1 f3_1 HS3_1 hf3_1
  clear hgr2
  have f0_2 := str6 HS0_2.out
  have hl0_2 := HS0_2.out.lt
  have hf0_2 := fun j => HS0_2.out.frozen j
  have f1_2 := str6 HS1_2.out
  have hl1_2 := HS1_2.out.lt
  have hf1_2 := fun j => HS1_2.out.frozen j
  have f2_2 := str6 HS2_2.out
  have hl2_2 := HS2_2.out.lt
  have hf2_2 := fun j => HS2_2.out.frozen j
  have f3_2 := str6 HS3_2.out
  have hl3_2 := HS3_2.out.lt
  have hf3_2 := fun j => HS3_2.out.frozen j
  generalize hW3 : ((((((W2).setCell ⟨w.heap.size + 1 + 1 + 1, 0, none⟩ (.int .i64 6)).setCell ⟨w.heap.size + 1 + 1 + 1, 1, none⟩ (.int .i64 0)).setCell ⟨w.heap.size + 1 + 1 + 1, 2, none⟩ (.slice none 0 0)).setCell ⟨w.heap.size + 1 + 1 + 1, 3, none⟩ (.int .i64 0)).setCell ⟨w.heap.size + 1 + 1 + 1, 4, none⟩ (.int .i64 0)).setCell ⟨w.heap.size + 1 + 1 + 1, 5, none⟩ (.int .i64 0) = W3
  have HS3_3 : Hid (Str W3 (w.heap.size + 1 + 1 + 1) #[.int .i64 6, .int .i64 0, .slice none 0 0, .int .i64 0, .int .i64 0, .int .i64 0]) := Lib.hid (by rw [← hW3]; have := ((((((HS3_2.out).set 0 (.int .i64 6)).set 1 (.int .i64 0)).set 2 (.slice none 0 0)).set 3 (.int .i64 0)).set 4 (.int .i64 0)).set 5 (.int .i64 0); simpa using this)
  have hgr3 : W2.grownBy W3 (some (w.heap.size + 1 + 1 + 1)) := by rw [← hW3]; exact grown_set (grown_set (grown_set (grown_set (grown_set (grown_set (grown_refl W2 (w.heap.size + 1 + 1 + 1)) 0 (_)) 1 (_)) 2 (_)) 3 (_)) 4 (_)) 5 (_)
  have HS0_3 := Lib.hid (HS0_2.out.grown hgr3 (by omega))
  have HS1_3 := Lib.hid (HS1_2.out.grown hgr3 (by omega))
  have HS2_3 := Lib.hid (HS2_2.out.grown hgr3 (by omega))
  have HB_3 := Lib.hid (below_grown HB_2.out hgr3 (by omega))
  have hw_3 := HB_3.out.size
  have hws_3 := hgr3.size
  clear hW3
  clear f0_2 HS0_2 hf0_2 f1_2 HS1_2 hf1_2 f2_2 HS2_2 hf2_2 f3_2 HS3_2 hf3_2
  clear hgr3
  have f0_3 := str6 HS0_3.out
  have hl0_3 := HS0_3.out.lt
  have hf0_3 := fun j => HS0_3.out.frozen j
  have f1_3 := str6 HS1_3.out
  have hl1_3 := HS1_3.out.lt
  have hf1_3 := fun j => HS1_3.out.frozen j
  have f2_3 := str6 HS2_3.out
  have hl2_3 := HS2_3.out.lt
  have hf2_3 := fun j => HS2_3.out.frozen j
  have f3_3 := str6 HS3_3.out
  have hl3_3 := HS3_3.out.lt
  have hf3_3 := fun j => HS3_3.out.frozen j
  exact bodyPost_ret (v := .tuple #[.agg #[.int .i64 0, .slice none 0 0, .int .i64 0, .int .i64 0, .int .i64 0, .bool false], .agg #[.int .i64 6, .int .i64 0, .slice none 0 0, .int .i64 0, .int .i64 0, .int .i64 0]]) (by simp [results, Tryz.results105, go_sem, *]) rfl ⟨none, 0, 0, none, 0, 0, rfl, BytesH.none_ _ _, BytesH.none_ _ _, HB_3.out⟩
set_option maxRecDepth 100000 in
set_option maxHeartbeats 1000000 in
theorem moveAdd_unfit (bs : List Nat) (act : Int) (xk : ByteArray) (Ax : Option Addr) (nx cx : Nat) (xlo xhi xn : Int) (A : Option Addr) (n c : Nat) (data : List UInt8) (lo hi va : Int) (w : World) (hbs : ∀ b ∈ bs, b < w.heap.size) (bf : Nat) (hbf : bf < w.heap.size) (hfc : w.cell? ⟨bf, 0, none⟩ = some (.func (.func 95) #[] #[])) (v1 : In64 va) (v2 : In64 xn) (hf : WideP.fits (va + xn) = false) :
    Calls Tryz.prog 105 #[.agg #[.int .i64 2, .slice A n c, .int .i64 lo, .int .i64 hi, .int .i64 va, .bool true], .agg #[.int .i64 act, .string xk, .slice Ax nx cx, .int .i64 xlo, .int .i64 xhi, .int .i64 xn], .pointer (some ⟨bf, 0, none⟩)] w (GivesRule bs w (8, none, CellP.none)) := by
  have HF := Lib.hid hf
  clear hf
  have hb1 : bf < w.heap.size + 1 := by omega
  have hb2 : bf < w.heap.size + 1 + 1 := by omega
  have hb3 : bf < w.heap.size + 1 + 1 + 1 := by omega
  go_enter Tryz.func105, Tryz.ntmps105
  go_wp2_with fail
  generalize hW0 : ((((w).alloc (.cells #[.int .i64 2, .slice A n c, .int .i64 lo, .int .i64 hi, .int .i64 va, .bool true] 122)).alloc (.cells #[.int .i64 act, .string xk, .slice Ax nx cx, .int .i64 xlo, .int .i64 xhi, .int .i64 xn] 62)).alloc (.cells #[.int .i64 0, .slice none 0 0, .int .i64 0, .int .i64 0, .int .i64 0, .bool false] 122)).alloc (.cells #[.int .i64 0, .int .i64 0, .slice none 0 0, .int .i64 0, .int .i64 0, .int .i64 0] 58) = W0
  obtain ⟨HS0_0, HS1_0, HS2_0, HS3_0, HB_0, hw_0, hz0⟩ := new4 hW0
  clear hW0 hz0
  have f0_0 := str6 HS0_0.out
  have hl0_0 := HS0_0.out.lt
  have hf0_0 := fun j => HS0_0.out.frozen j
  have f1_0 := str6 HS1_0.out
  have hl1_0 := HS1_0.out.lt
  have hf1_0 := fun j => HS1_0.out.frozen j
  have f2_0 := str6 HS2_0.out
  have hl2_0 := HS2_0.out.lt
  have hf2_0 := fun j => HS2_0.out.frozen j
  have f3_0 := str6 HS3_0.out
  have hl3_0 := HS3_0.out.lt
  have hf3_0 := fun j => HS3_0.out.frozen j
  clear hfc
  go_wp2_with fail
  refine (WideW.add_any va xn v1.1 v1.2 v2.1 v2.2 _).mono ?_
  rintro e W1 ⟨rfl, hb1⟩
  rw [HF.out]
  have HS0_1 := Lib.hid (HS0_0.out.next hb1)
  have HS1_1 := Lib.hid (HS1_0.out.next hb1)
  have HS2_1 := Lib.hid (HS2_0.out.next hb1)
  have HS3_1 := Lib.hid (HS3_0.out.next hb1)
  have HB_1 := Lib.hid (bstep HB_0.out hb1)
  have hw_1 := HB_1.out.size
  have hws_1 := (hb1).size
  clear f0_0 HS0_0 hf0_0 f1_0 HS1_0 hf1_0 f2_0 HS2_0 hf2_0 f3_0 HS3_0 hf3_0
  clear hb1
  have f0_1 := str6 HS0_1.out
  have hl0_1 := HS0_1.out.lt
  have hf0_1 := fun j => HS0_1.out.frozen j
  have f1_1 := str6 HS1_1.out
  have hl1_1 := HS1_1.out.lt
  have hf1_1 := fun j => HS1_1.out.frozen j
  have f2_1 := str6 HS2_1.out
  have hl2_1 := HS2_1.out.lt
  have hf2_1 := fun j => HS2_1.out.frozen j
  have f3_1 := str6 HS3_1.out
  have hl3_1 := HS3_1.out.lt
  have hf3_1 := fun j => HS3_1.out.frozen j
  go_wp2_with fail
  refine (refuse_any 8 _).mono ?_
  rintro e W2 ⟨rfl, hb2⟩
  have HS0_2 := Lib.hid (HS0_1.out.next hb2)
  have HS1_2 := Lib.hid (HS1_1.out.next hb2)
  have HS2_2 := Lib.hid (HS2_1.out.next hb2)
  have HS3_2 := Lib.hid (HS3_1.out.next hb2)
  have HB_2 := Lib.hid (bstep HB_1.out hb2)
  have hw_2 := HB_2.out.size
  have hws_2 := (hb2).size
  clear f0_1 HS0_1 hf0_1 f1_1 HS1_1 hf1_1 f2_1 HS2_1 hf2_1 f3_1 HS3_1 hf3_1
  clear hb2
  have f0_2 := str6 HS0_2.out
  have hl0_2 := HS0_2.out.lt
  have hf0_2 := fun j => HS0_2.out.frozen j
  have f1_2 := str6 HS1_2.out
  have hl1_2 := HS1_2.out.lt
  have hf1_2 := fun j => HS1_2.out.frozen j
  have f2_2 := str6 HS2_2.out
  have hl2_2 := HS2_2.out.lt
  have hf2_2 := fun j => HS2_2.out.frozen j
  have f3_2 := str6 HS3_2.out
  have hl3_2 := HS3_2.out.lt
  have hf3_2 := fun j => HS3_2.out.frozen j
  go_wp2_with fail
  generalize hW3 : ((((((W2).setCell ⟨w.heap.size + 1 + 1, 0, none⟩ (.int .i64 0)).setCell ⟨w.heap.size + 1 + 1, 1, none⟩ (.slice none 0 0)).setCell ⟨w.heap.size + 1 + 1, 2, none⟩ (.int .i64 0)).setCell ⟨w.heap.size + 1 + 1, 3, none⟩ (.int .i64 0)).setCell ⟨w.heap.size + 1 + 1, 4, none⟩ (.int .i64 0)).setCell ⟨w.heap.size + 1 + 1, 5, none⟩ (.bool false) = W3
  have HS2_3 : Hid (Str W3 (w.heap.size + 1 + 1) #[.int .i64 0, .slice none 0 0, .int .i64 0, .int .i64 0, .int .i64 0, .bool false]) := Lib.hid (by rw [← hW3]; have := ((((((HS2_2.out).set 0 (.int .i64 0)).set 1 (.slice none 0 0)).set 2 (.int .i64 0)).set 3 (.int .i64 0)).set 4 (.int .i64 0)).set 5 (.bool false); simpa using this)
  have hgr3 : W2.grownBy W3 (some (w.heap.size + 1 + 1)) := by rw [← hW3]; exact grown_set (grown_set (grown_set (grown_set (grown_set (grown_set (grown_refl W2 (w.heap.size + 1 + 1)) 0 (_)) 1 (_)) 2 (_)) 3 (_)) 4 (_)) 5 (_)
  have HS0_3 := Lib.hid (HS0_2.out.grown hgr3 (by omega))
  have HS1_3 := Lib.hid (HS1_2.out.grown hgr3 (by omega))
  have HS3_3 := Lib.hid (HS3_2.out.grown hgr3 (by omega))
  have HB_3 := Lib.hid (below_grown HB_2.out hgr3 (by omega))
  have hw_3 := HB_3.out.size
  have hws_3 := hgr3.size
  clear hW3
  clear f0_2 HS0_2 hf0_2 f1_2 HS1_2 hf1_2 f2_2 HS2_2 hf2_2 f3_2 HS3_2 hf3_2
  clear hgr3
  have f0_3 := str6 HS0_3.out
  have hl0_3 := HS0_3.out.lt
  have hf0_3 := fun j => HS0_3.out.frozen j
  have f1_3 := str6 HS1_3.out
  have hl1_3 := HS1_3.out.lt
  have hf1_3 := fun j => HS1_3.out.frozen j
  have f2_3 := str6 HS2_3.out
  have hl2_3 := HS2_3.out.lt
  have hf2_3 := fun j => HS2_3.out.frozen j
  have f3_3 := str6 HS3_3.out
  have hl3_3 := HS3_3.out.lt
  have hf3_3 := fun j => HS3_3.out.frozen j
  generalize hW4 : ((((((W3).setCell ⟨w.heap.size + 1 + 1 + 1, 0, none⟩ (.int .i64 8)).setCell ⟨w.heap.size + 1 + 1 + 1, 1, none⟩ (.int .i64 0)).setCell ⟨w.heap.size + 1 + 1 + 1, 2, none⟩ (.slice none 0 0)).setCell ⟨w.heap.size + 1 + 1 + 1, 3, none⟩ (.int .i64 0)).setCell ⟨w.heap.size + 1 + 1 + 1, 4, none⟩ (.int .i64 0)).setCell ⟨w.heap.size + 1 + 1 + 1, 5, none⟩ (.int .i64 0) = W4
  have HS3_4 : Hid (Str W4 (w.heap.size + 1 + 1 + 1) #[.int .i64 8, .int .i64 0, .slice none 0 0, .int .i64 0, .int .i64 0, .int .i64 0]) := Lib.hid (by rw [← hW4]; have := ((((((HS3_3.out).set 0 (.int .i64 8)).set 1 (.int .i64 0)).set 2 (.slice none 0 0)).set 3 (.int .i64 0)).set 4 (.int .i64 0)).set 5 (.int .i64 0); simpa using this)
  have hgr4 : W3.grownBy W4 (some (w.heap.size + 1 + 1 + 1)) := by rw [← hW4]; exact grown_set (grown_set (grown_set (grown_set (grown_set (grown_set (grown_refl W3 (w.heap.size + 1 + 1 + 1)) 0 (_)) 1 (_)) 2 (_)) 3 (_)) 4 (_)) 5 (_)
  have HS0_4 := Lib.hid (HS0_3.out.grown hgr4 (by omega))
  have HS1_4 := Lib.hid (HS1_3.out.grown hgr4 (by omega))
  have HS2_4 := Lib.hid (HS2_3.out.grown hgr4 (by omega))
  have HB_4 := Lib.hid (below_grown HB_3.out hgr4 (by omega))
  have hw_4 := HB_4.out.size
  have hws_4 := hgr4.size
  clear hW4
  clear f0_3 HS0_3 hf0_3 f1_3 HS1_3 hf1_3 f2_3 HS2_3 hf2_3 f3_3 HS3_3 hf3_3
  clear hgr4
  have f0_4 := str6 HS0_4.out
  have hl0_4 := HS0_4.out.lt
  have hf0_4 := fun j => HS0_4.out.frozen j
  have f1_4 := str6 HS1_4.out
  have hl1_4 := HS1_4.out.lt
  have hf1_4 := fun j => HS1_4.out.frozen j
  have f2_4 := str6 HS2_4.out
  have hl2_4 := HS2_4.out.lt
  have hf2_4 := fun j => HS2_4.out.frozen j
  have f3_4 := str6 HS3_4.out
  have hl3_4 := HS3_4.out.lt
  have hf3_4 := fun j => HS3_4.out.frozen j
  exact bodyPost_ret (v := .tuple #[.agg #[.int .i64 0, .slice none 0 0, .int .i64 0, .int .i64 0, .int .i64 0, .bool false], .agg #[.int .i64 8, .int .i64 0, .slice none 0 0, .int .i64 0, .int .i64 0, .int .i64 0]]) (by simp [results, Tryz.results105, go_sem, *]) rfl ⟨none, 0, 0, none, 0, 0, rfl, BytesH.none_ _ _, BytesH.none_ _ _, HB_4.out⟩
set_option maxRecDepth 100000 in
set_option maxHeartbeats 1000000 in
theorem moveAdd_low (bs : List Nat) (act : Int) (xk : ByteArray) (Ax : Option Addr) (nx cx : Nat) (xlo xhi xn : Int) (A : Option Addr) (n c : Nat) (data : List UInt8) (lo hi va : Int) (w : World) (hbs : ∀ b ∈ bs, b < w.heap.size) (bf : Nat) (hbf : bf < w.heap.size) (hfc : w.cell? ⟨bf, 0, none⟩ = some (.func (.func 95) #[] #[])) (v1 : In64 va) (v2 : In64 xn) (hf : WideP.fits (va + xn) = true) (hc : va + xn < lo) :
    Calls Tryz.prog 105 #[.agg #[.int .i64 2, .slice A n c, .int .i64 lo, .int .i64 hi, .int .i64 va, .bool true], .agg #[.int .i64 act, .string xk, .slice Ax nx cx, .int .i64 xlo, .int .i64 xhi, .int .i64 xn], .pointer (some ⟨bf, 0, none⟩)] w (GivesRule bs w (8, none, CellP.none)) := by
  have HF := Lib.hid hf
  have HN : Hid (WideP.num (va + xn) = va + xn) := Lib.hid (by unfold WideP.num; rw [hf]; rfl)
  clear hf
  have hb1 : bf < w.heap.size + 1 := by omega
  have hb2 : bf < w.heap.size + 1 + 1 := by omega
  have hb3 : bf < w.heap.size + 1 + 1 + 1 := by omega
  go_enter Tryz.func105, Tryz.ntmps105
  go_wp2_with fail
  generalize hW0 : ((((w).alloc (.cells #[.int .i64 2, .slice A n c, .int .i64 lo, .int .i64 hi, .int .i64 va, .bool true] 122)).alloc (.cells #[.int .i64 act, .string xk, .slice Ax nx cx, .int .i64 xlo, .int .i64 xhi, .int .i64 xn] 62)).alloc (.cells #[.int .i64 0, .slice none 0 0, .int .i64 0, .int .i64 0, .int .i64 0, .bool false] 122)).alloc (.cells #[.int .i64 0, .int .i64 0, .slice none 0 0, .int .i64 0, .int .i64 0, .int .i64 0] 58) = W0
  obtain ⟨HS0_0, HS1_0, HS2_0, HS3_0, HB_0, hw_0, hz0⟩ := new4 hW0
  clear hW0 hz0
  have f0_0 := str6 HS0_0.out
  have hl0_0 := HS0_0.out.lt
  have hf0_0 := fun j => HS0_0.out.frozen j
  have f1_0 := str6 HS1_0.out
  have hl1_0 := HS1_0.out.lt
  have hf1_0 := fun j => HS1_0.out.frozen j
  have f2_0 := str6 HS2_0.out
  have hl2_0 := HS2_0.out.lt
  have hf2_0 := fun j => HS2_0.out.frozen j
  have f3_0 := str6 HS3_0.out
  have hl3_0 := HS3_0.out.lt
  have hf3_0 := fun j => HS3_0.out.frozen j
  clear hfc
  go_wp2_with fail
  refine (WideW.add_any va xn v1.1 v1.2 v2.1 v2.2 _).mono ?_
  rintro e W1 ⟨rfl, hb1⟩
  rw [HF.out, HN.out]
  have HS0_1 := Lib.hid (HS0_0.out.next hb1)
  have HS1_1 := Lib.hid (HS1_0.out.next hb1)
  have HS2_1 := Lib.hid (HS2_0.out.next hb1)
  have HS3_1 := Lib.hid (HS3_0.out.next hb1)
  have HB_1 := Lib.hid (bstep HB_0.out hb1)
  have hw_1 := HB_1.out.size
  have hws_1 := (hb1).size
  clear f0_0 HS0_0 hf0_0 f1_0 HS1_0 hf1_0 f2_0 HS2_0 hf2_0 f3_0 HS3_0 hf3_0
  clear hb1
  have f0_1 := str6 HS0_1.out
  have hl0_1 := HS0_1.out.lt
  have hf0_1 := fun j => HS0_1.out.frozen j
  have f1_1 := str6 HS1_1.out
  have hl1_1 := HS1_1.out.lt
  have hf1_1 := fun j => HS1_1.out.frozen j
  have f2_1 := str6 HS2_1.out
  have hl2_1 := HS2_1.out.lt
  have hf2_1 := fun j => HS2_1.out.frozen j
  have f3_1 := str6 HS3_1.out
  have hl3_1 := HS3_1.out.lt
  have hf3_1 := fun j => HS3_1.out.frozen j
  go_wp2_with fail
  refine (refuse_any 8 _).mono ?_
  rintro e W2 ⟨rfl, hb2⟩
  have HS0_2 := Lib.hid (HS0_1.out.next hb2)
  have HS1_2 := Lib.hid (HS1_1.out.next hb2)
  have HS2_2 := Lib.hid (HS2_1.out.next hb2)
  have HS3_2 := Lib.hid (HS3_1.out.next hb2)
  have HB_2 := Lib.hid (bstep HB_1.out hb2)
  have hw_2 := HB_2.out.size
  have hws_2 := (hb2).size
  clear f0_1 HS0_1 hf0_1 f1_1 HS1_1 hf1_1 f2_1 HS2_1 hf2_1 f3_1 HS3_1 hf3_1
  clear hb2
  have f0_2 := str6 HS0_2.out
  have hl0_2 := HS0_2.out.lt
  have hf0_2 := fun j => HS0_2.out.frozen j
  have f1_2 := str6 HS1_2.out
  have hl1_2 := HS1_2.out.lt
  have hf1_2 := fun j => HS1_2.out.frozen j
  have f2_2 := str6 HS2_2.out
  have hl2_2 := HS2_2.out.lt
  have hf2_2 := fun j => HS2_2.out.frozen j
  have f3_2 := str6 HS3_2.out
  have hl3_2 := HS3_2.out.lt
  have hf3_2 := fun j => HS3_2.out.frozen j
  go_wp2_with fail
  generalize hW3 : ((((((W2).setCell ⟨w.heap.size + 1 + 1, 0, none⟩ (.int .i64 0)).setCell ⟨w.heap.size + 1 + 1, 1, none⟩ (.slice none 0 0)).setCell ⟨w.heap.size + 1 + 1, 2, none⟩ (.int .i64 0)).setCell ⟨w.heap.size + 1 + 1, 3, none⟩ (.int .i64 0)).setCell ⟨w.heap.size + 1 + 1, 4, none⟩ (.int .i64 0)).setCell ⟨w.heap.size + 1 + 1, 5, none⟩ (.bool false) = W3
  have HS2_3 : Hid (Str W3 (w.heap.size + 1 + 1) #[.int .i64 0, .slice none 0 0, .int .i64 0, .int .i64 0, .int .i64 0, .bool false]) := Lib.hid (by rw [← hW3]; have := ((((((HS2_2.out).set 0 (.int .i64 0)).set 1 (.slice none 0 0)).set 2 (.int .i64 0)).set 3 (.int .i64 0)).set 4 (.int .i64 0)).set 5 (.bool false); simpa using this)
  have hgr3 : W2.grownBy W3 (some (w.heap.size + 1 + 1)) := by rw [← hW3]; exact grown_set (grown_set (grown_set (grown_set (grown_set (grown_set (grown_refl W2 (w.heap.size + 1 + 1)) 0 (_)) 1 (_)) 2 (_)) 3 (_)) 4 (_)) 5 (_)
  have HS0_3 := Lib.hid (HS0_2.out.grown hgr3 (by omega))
  have HS1_3 := Lib.hid (HS1_2.out.grown hgr3 (by omega))
  have HS3_3 := Lib.hid (HS3_2.out.grown hgr3 (by omega))
  have HB_3 := Lib.hid (below_grown HB_2.out hgr3 (by omega))
  have hw_3 := HB_3.out.size
  have hws_3 := hgr3.size
  clear hW3
  clear f0_2 HS0_2 hf0_2 f1_2 HS1_2 hf1_2 f2_2 HS2_2 hf2_2 f3_2 HS3_2 hf3_2
  clear hgr3
  have f0_3 := str6 HS0_3.out
  have hl0_3 := HS0_3.out.lt
  have hf0_3 := fun j => HS0_3.out.frozen j
  have f1_3 := str6 HS1_3.out
  have hl1_3 := HS1_3.out.lt
  have hf1_3 := fun j => HS1_3.out.frozen j
  have f2_3 := str6 HS2_3.out
  have hl2_3 := HS2_3.out.lt
  have hf2_3 := fun j => HS2_3.out.frozen j
  have f3_3 := str6 HS3_3.out
  have hl3_3 := HS3_3.out.lt
  have hf3_3 := fun j => HS3_3.out.frozen j
  generalize hW4 : ((((((W3).setCell ⟨w.heap.size + 1 + 1 + 1, 0, none⟩ (.int .i64 8)).setCell ⟨w.heap.size + 1 + 1 + 1, 1, none⟩ (.int .i64 0)).setCell ⟨w.heap.size + 1 + 1 + 1, 2, none⟩ (.slice none 0 0)).setCell ⟨w.heap.size + 1 + 1 + 1, 3, none⟩ (.int .i64 0)).setCell ⟨w.heap.size + 1 + 1 + 1, 4, none⟩ (.int .i64 0)).setCell ⟨w.heap.size + 1 + 1 + 1, 5, none⟩ (.int .i64 0) = W4
  have HS3_4 : Hid (Str W4 (w.heap.size + 1 + 1 + 1) #[.int .i64 8, .int .i64 0, .slice none 0 0, .int .i64 0, .int .i64 0, .int .i64 0]) := Lib.hid (by rw [← hW4]; have := ((((((HS3_3.out).set 0 (.int .i64 8)).set 1 (.int .i64 0)).set 2 (.slice none 0 0)).set 3 (.int .i64 0)).set 4 (.int .i64 0)).set 5 (.int .i64 0); simpa using this)
  have hgr4 : W3.grownBy W4 (some (w.heap.size + 1 + 1 + 1)) := by rw [← hW4]; exact grown_set (grown_set (grown_set (grown_set (grown_set (grown_set (grown_refl W3 (w.heap.size + 1 + 1 + 1)) 0 (_)) 1 (_)) 2 (_)) 3 (_)) 4 (_)) 5 (_)
  have HS0_4 := Lib.hid (HS0_3.out.grown hgr4 (by omega))
  have HS1_4 := Lib.hid (HS1_3.out.grown hgr4 (by omega))
  have HS2_4 := Lib.hid (HS2_3.out.grown hgr4 (by omega))
  have HB_4 := Lib.hid (below_grown HB_3.out hgr4 (by omega))
  have hw_4 := HB_4.out.size
  have hws_4 := hgr4.size
  clear hW4
  clear f0_3 HS0_3 hf0_3 f1_3 HS1_3 hf1_3 f2_3 HS2_3 hf2_3 f3_3 HS3_3 hf3_3
  clear hgr4
  have f0_4 := str6 HS0_4.out
  have hl0_4 := HS0_4.out.lt
  have hf0_4 := fun j => HS0_4.out.frozen j
  have f1_4 := str6 HS1_4.out
  have hl1_4 := HS1_4.out.lt
  have hf1_4 := fun j => HS1_4.out.frozen j
  have f2_4 := str6 HS2_4.out
  have hl2_4 := HS2_4.out.lt
  have hf2_4 := fun j => HS2_4.out.frozen j
  have f3_4 := str6 HS3_4.out
  have hl3_4 := HS3_4.out.lt
  have hf3_4 := fun j => HS3_4.out.frozen j
  exact bodyPost_ret (v := .tuple #[.agg #[.int .i64 0, .slice none 0 0, .int .i64 0, .int .i64 0, .int .i64 0, .bool false], .agg #[.int .i64 8, .int .i64 0, .slice none 0 0, .int .i64 0, .int .i64 0, .int .i64 0]]) (by simp [results, Tryz.results105, go_sem, *]) rfl ⟨none, 0, 0, none, 0, 0, rfl, BytesH.none_ _ _, BytesH.none_ _ _, HB_4.out⟩
set_option maxRecDepth 100000 in
set_option maxHeartbeats 1000000 in
theorem moveAdd_high (bs : List Nat) (act : Int) (xk : ByteArray) (Ax : Option Addr) (nx cx : Nat) (xlo xhi xn : Int) (A : Option Addr) (n c : Nat) (data : List UInt8) (lo hi va : Int) (w : World) (hbs : ∀ b ∈ bs, b < w.heap.size) (bf : Nat) (hbf : bf < w.heap.size) (hfc : w.cell? ⟨bf, 0, none⟩ = some (.func (.func 95) #[] #[])) (v1 : In64 va) (v2 : In64 xn) (hf : WideP.fits (va + xn) = true) (hl : lo ≤ va + xn) (hc : hi < va + xn) :
    Calls Tryz.prog 105 #[.agg #[.int .i64 2, .slice A n c, .int .i64 lo, .int .i64 hi, .int .i64 va, .bool true], .agg #[.int .i64 act, .string xk, .slice Ax nx cx, .int .i64 xlo, .int .i64 xhi, .int .i64 xn], .pointer (some ⟨bf, 0, none⟩)] w (GivesRule bs w (8, none, CellP.none)) := by
  have HF := Lib.hid hf
  have HN : Hid (WideP.num (va + xn) = va + xn) := Lib.hid (by unfold WideP.num; rw [hf]; rfl)
  clear hf
  have hl1 : ¬ va + xn < lo := by omega
  have hb1 : bf < w.heap.size + 1 := by omega
  have hb2 : bf < w.heap.size + 1 + 1 := by omega
  have hb3 : bf < w.heap.size + 1 + 1 + 1 := by omega
  go_enter Tryz.func105, Tryz.ntmps105
  go_wp2_with fail
  generalize hW0 : ((((w).alloc (.cells #[.int .i64 2, .slice A n c, .int .i64 lo, .int .i64 hi, .int .i64 va, .bool true] 122)).alloc (.cells #[.int .i64 act, .string xk, .slice Ax nx cx, .int .i64 xlo, .int .i64 xhi, .int .i64 xn] 62)).alloc (.cells #[.int .i64 0, .slice none 0 0, .int .i64 0, .int .i64 0, .int .i64 0, .bool false] 122)).alloc (.cells #[.int .i64 0, .int .i64 0, .slice none 0 0, .int .i64 0, .int .i64 0, .int .i64 0] 58) = W0
  obtain ⟨HS0_0, HS1_0, HS2_0, HS3_0, HB_0, hw_0, hz0⟩ := new4 hW0
  clear hW0 hz0
  have f0_0 := str6 HS0_0.out
  have hl0_0 := HS0_0.out.lt
  have hf0_0 := fun j => HS0_0.out.frozen j
  have f1_0 := str6 HS1_0.out
  have hl1_0 := HS1_0.out.lt
  have hf1_0 := fun j => HS1_0.out.frozen j
  have f2_0 := str6 HS2_0.out
  have hl2_0 := HS2_0.out.lt
  have hf2_0 := fun j => HS2_0.out.frozen j
  have f3_0 := str6 HS3_0.out
  have hl3_0 := HS3_0.out.lt
  have hf3_0 := fun j => HS3_0.out.frozen j
  clear hfc
  go_wp2_with fail
  refine (WideW.add_any va xn v1.1 v1.2 v2.1 v2.2 _).mono ?_
  rintro e W1 ⟨rfl, hb1⟩
  rw [HF.out, HN.out]
  have HS0_1 := Lib.hid (HS0_0.out.next hb1)
  have HS1_1 := Lib.hid (HS1_0.out.next hb1)
  have HS2_1 := Lib.hid (HS2_0.out.next hb1)
  have HS3_1 := Lib.hid (HS3_0.out.next hb1)
  have HB_1 := Lib.hid (bstep HB_0.out hb1)
  have hw_1 := HB_1.out.size
  have hws_1 := (hb1).size
  clear f0_0 HS0_0 hf0_0 f1_0 HS1_0 hf1_0 f2_0 HS2_0 hf2_0 f3_0 HS3_0 hf3_0
  clear hb1
  have f0_1 := str6 HS0_1.out
  have hl0_1 := HS0_1.out.lt
  have hf0_1 := fun j => HS0_1.out.frozen j
  have f1_1 := str6 HS1_1.out
  have hl1_1 := HS1_1.out.lt
  have hf1_1 := fun j => HS1_1.out.frozen j
  have f2_1 := str6 HS2_1.out
  have hl2_1 := HS2_1.out.lt
  have hf2_1 := fun j => HS2_1.out.frozen j
  have f3_1 := str6 HS3_1.out
  have hl3_1 := HS3_1.out.lt
  have hf3_1 := fun j => HS3_1.out.frozen j
  go_wp2_with fail
  refine (refuse_any 8 _).mono ?_
  rintro e W2 ⟨rfl, hb2⟩
  have HS0_2 := Lib.hid (HS0_1.out.next hb2)
  have HS1_2 := Lib.hid (HS1_1.out.next hb2)
  have HS2_2 := Lib.hid (HS2_1.out.next hb2)
  have HS3_2 := Lib.hid (HS3_1.out.next hb2)
  have HB_2 := Lib.hid (bstep HB_1.out hb2)
  have hw_2 := HB_2.out.size
  have hws_2 := (hb2).size
  clear f0_1 HS0_1 hf0_1 f1_1 HS1_1 hf1_1 f2_1 HS2_1 hf2_1 f3_1 HS3_1 hf3_1
  clear hb2
  have f0_2 := str6 HS0_2.out
  have hl0_2 := HS0_2.out.lt
  have hf0_2 := fun j => HS0_2.out.frozen j
  have f1_2 := str6 HS1_2.out
  have hl1_2 := HS1_2.out.lt
  have hf1_2 := fun j => HS1_2.out.frozen j
  have f2_2 := str6 HS2_2.out
  have hl2_2 := HS2_2.out.lt
  have hf2_2 := fun j => HS2_2.out.frozen j
  have f3_2 := str6 HS3_2.out
  have hl3_2 := HS3_2.out.lt
  have hf3_2 := fun j => HS3_2.out.frozen j
  go_wp2_with fail
  generalize hW3 : ((((((W2).setCell ⟨w.heap.size + 1 + 1, 0, none⟩ (.int .i64 0)).setCell ⟨w.heap.size + 1 + 1, 1, none⟩ (.slice none 0 0)).setCell ⟨w.heap.size + 1 + 1, 2, none⟩ (.int .i64 0)).setCell ⟨w.heap.size + 1 + 1, 3, none⟩ (.int .i64 0)).setCell ⟨w.heap.size + 1 + 1, 4, none⟩ (.int .i64 0)).setCell ⟨w.heap.size + 1 + 1, 5, none⟩ (.bool false) = W3
  have HS2_3 : Hid (Str W3 (w.heap.size + 1 + 1) #[.int .i64 0, .slice none 0 0, .int .i64 0, .int .i64 0, .int .i64 0, .bool false]) := Lib.hid (by rw [← hW3]; have := ((((((HS2_2.out).set 0 (.int .i64 0)).set 1 (.slice none 0 0)).set 2 (.int .i64 0)).set 3 (.int .i64 0)).set 4 (.int .i64 0)).set 5 (.bool false); simpa using this)
  have hgr3 : W2.grownBy W3 (some (w.heap.size + 1 + 1)) := by rw [← hW3]; exact grown_set (grown_set (grown_set (grown_set (grown_set (grown_set (grown_refl W2 (w.heap.size + 1 + 1)) 0 (_)) 1 (_)) 2 (_)) 3 (_)) 4 (_)) 5 (_)
  have HS0_3 := Lib.hid (HS0_2.out.grown hgr3 (by omega))
  have HS1_3 := Lib.hid (HS1_2.out.grown hgr3 (by omega))
  have HS3_3 := Lib.hid (HS3_2.out.grown hgr3 (by omega))
  have HB_3 := Lib.hid (below_grown HB_2.out hgr3 (by omega))
  have hw_3 := HB_3.out.size
  have hws_3 := hgr3.size
  clear hW3
  clear f0_2 HS0_2 hf0_2 f1_2 HS1_2 hf1_2 f2_2 HS2_2 hf2_2 f3_2 HS3_2 hf3_2
  clear hgr3
  have f0_3 := str6 HS0_3.out
  have hl0_3 := HS0_3.out.lt
  have hf0_3 := fun j => HS0_3.out.frozen j
  have f1_3 := str6 HS1_3.out
  have hl1_3 := HS1_3.out.lt
  have hf1_3 := fun j => HS1_3.out.frozen j
  have f2_3 := str6 HS2_3.out
  have hl2_3 := HS2_3.out.lt
  have hf2_3 := fun j => HS2_3.out.frozen j
  have f3_3 := str6 HS3_3.out
  have hl3_3 := HS3_3.out.lt
  have hf3_3 := fun j => HS3_3.out.frozen j
  generalize hW4 : ((((((W3).setCell ⟨w.heap.size + 1 + 1 + 1, 0, none⟩ (.int .i64 8)).setCell ⟨w.heap.size + 1 + 1 + 1, 1, none⟩ (.int .i64 0)).setCell ⟨w.heap.size + 1 + 1 + 1, 2, none⟩ (.slice none 0 0)).setCell ⟨w.heap.size + 1 + 1 + 1, 3, none⟩ (.int .i64 0)).setCell ⟨w.heap.size + 1 + 1 + 1, 4, none⟩ (.int .i64 0)).setCell ⟨w.heap.size + 1 + 1 + 1, 5, none⟩ (.int .i64 0) = W4
  have HS3_4 : Hid (Str W4 (w.heap.size + 1 + 1 + 1) #[.int .i64 8, .int .i64 0, .slice none 0 0, .int .i64 0, .int .i64 0, .int .i64 0]) := Lib.hid (by rw [← hW4]; have := ((((((HS3_3.out).set 0 (.int .i64 8)).set 1 (.int .i64 0)).set 2 (.slice none 0 0)).set 3 (.int .i64 0)).set 4 (.int .i64 0)).set 5 (.int .i64 0); simpa using this)
  have hgr4 : W3.grownBy W4 (some (w.heap.size + 1 + 1 + 1)) := by rw [← hW4]; exact grown_set (grown_set (grown_set (grown_set (grown_set (grown_set (grown_refl W3 (w.heap.size + 1 + 1 + 1)) 0 (_)) 1 (_)) 2 (_)) 3 (_)) 4 (_)) 5 (_)
  have HS0_4 := Lib.hid (HS0_3.out.grown hgr4 (by omega))
  have HS1_4 := Lib.hid (HS1_3.out.grown hgr4 (by omega))
  have HS2_4 := Lib.hid (HS2_3.out.grown hgr4 (by omega))
  have HB_4 := Lib.hid (below_grown HB_3.out hgr4 (by omega))
  have hw_4 := HB_4.out.size
  have hws_4 := hgr4.size
  clear hW4
  clear f0_3 HS0_3 hf0_3 f1_3 HS1_3 hf1_3 f2_3 HS2_3 hf2_3 f3_3 HS3_3 hf3_3
  clear hgr4
  have f0_4 := str6 HS0_4.out
  have hl0_4 := HS0_4.out.lt
  have hf0_4 := fun j => HS0_4.out.frozen j
  have f1_4 := str6 HS1_4.out
  have hl1_4 := HS1_4.out.lt
  have hf1_4 := fun j => HS1_4.out.frozen j
  have f2_4 := str6 HS2_4.out
  have hl2_4 := HS2_4.out.lt
  have hf2_4 := fun j => HS2_4.out.frozen j
  have f3_4 := str6 HS3_4.out
  have hl3_4 := HS3_4.out.lt
  have hf3_4 := fun j => HS3_4.out.frozen j
  exact bodyPost_ret (v := .tuple #[.agg #[.int .i64 0, .slice none 0 0, .int .i64 0, .int .i64 0, .int .i64 0, .bool false], .agg #[.int .i64 8, .int .i64 0, .slice none 0 0, .int .i64 0, .int .i64 0, .int .i64 0]]) (by simp [results, Tryz.results105, go_sem, *]) rfl ⟨none, 0, 0, none, 0, 0, rfl, BytesH.none_ _ _, BytesH.none_ _ _, HB_4.out⟩
set_option maxRecDepth 100000 in
set_option maxHeartbeats 1000000 in
theorem moveAdd_ok (bs : List Nat) (act : Int) (xk : ByteArray) (Ax : Option Addr) (nx cx : Nat) (xlo xhi xn : Int) (A : Option Addr) (n c : Nat) (data : List UInt8) (lo hi va : Int) (w : World) (hbs : ∀ b ∈ bs, b < w.heap.size) (bf : Nat) (hbf : bf < w.heap.size) (hfc : w.cell? ⟨bf, 0, none⟩ = some (.func (.func 95) #[] #[])) (v1 : In64 va) (v2 : In64 xn) (hf : WideP.fits (va + xn) = true) (hl : lo ≤ va + xn) (hh : va + xn ≤ hi) :
    Calls Tryz.prog 105 #[.agg #[.int .i64 2, .slice A n c, .int .i64 lo, .int .i64 hi, .int .i64 va, .bool true], .agg #[.int .i64 act, .string xk, .slice Ax nx cx, .int .i64 xlo, .int .i64 xhi, .int .i64 xn], .pointer (some ⟨bf, 0, none⟩)] w (GivesRule bs w (0, some ⟨2, [], lo, hi, va + xn⟩, CellP.none)) := by
  have HF := Lib.hid hf
  have HN : Hid (WideP.num (va + xn) = va + xn) := Lib.hid (by unfold WideP.num; rw [hf]; rfl)
  clear hf
  have hl1 : ¬ va + xn < lo := by omega
  have hh1 : ¬ hi < va + xn := by omega
  have hb1 : bf < w.heap.size + 1 := by omega
  have hb2 : bf < w.heap.size + 1 + 1 := by omega
  have hb3 : bf < w.heap.size + 1 + 1 + 1 := by omega
  go_enter Tryz.func105, Tryz.ntmps105
  go_wp2_with fail
  generalize hW0 : ((((w).alloc (.cells #[.int .i64 2, .slice A n c, .int .i64 lo, .int .i64 hi, .int .i64 va, .bool true] 122)).alloc (.cells #[.int .i64 act, .string xk, .slice Ax nx cx, .int .i64 xlo, .int .i64 xhi, .int .i64 xn] 62)).alloc (.cells #[.int .i64 0, .slice none 0 0, .int .i64 0, .int .i64 0, .int .i64 0, .bool false] 122)).alloc (.cells #[.int .i64 0, .int .i64 0, .slice none 0 0, .int .i64 0, .int .i64 0, .int .i64 0] 58) = W0
  obtain ⟨HS0_0, HS1_0, HS2_0, HS3_0, HB_0, hw_0, hz0⟩ := new4 hW0
  clear hW0 hz0
  have f0_0 := str6 HS0_0.out
  have hl0_0 := HS0_0.out.lt
  have hf0_0 := fun j => HS0_0.out.frozen j
  have f1_0 := str6 HS1_0.out
  have hl1_0 := HS1_0.out.lt
  have hf1_0 := fun j => HS1_0.out.frozen j
  have f2_0 := str6 HS2_0.out
  have hl2_0 := HS2_0.out.lt
  have hf2_0 := fun j => HS2_0.out.frozen j
  have f3_0 := str6 HS3_0.out
  have hl3_0 := HS3_0.out.lt
  have hf3_0 := fun j => HS3_0.out.frozen j
  clear hfc
  go_wp2_with fail
  refine (WideW.add_any va xn v1.1 v1.2 v2.1 v2.2 _).mono ?_
  rintro e W1 ⟨rfl, hb1⟩
  rw [HF.out, HN.out]
  have HS0_1 := Lib.hid (HS0_0.out.next hb1)
  have HS1_1 := Lib.hid (HS1_0.out.next hb1)
  have HS2_1 := Lib.hid (HS2_0.out.next hb1)
  have HS3_1 := Lib.hid (HS3_0.out.next hb1)
  have HB_1 := Lib.hid (bstep HB_0.out hb1)
  have hw_1 := HB_1.out.size
  have hws_1 := (hb1).size
  clear f0_0 HS0_0 hf0_0 f1_0 HS1_0 hf1_0 f2_0 HS2_0 hf2_0 f3_0 HS3_0 hf3_0
  clear hb1
  have f0_1 := str6 HS0_1.out
  have hl0_1 := HS0_1.out.lt
  have hf0_1 := fun j => HS0_1.out.frozen j
  have f1_1 := str6 HS1_1.out
  have hl1_1 := HS1_1.out.lt
  have hf1_1 := fun j => HS1_1.out.frozen j
  have f2_1 := str6 HS2_1.out
  have hl2_1 := HS2_1.out.lt
  have hf2_1 := fun j => HS2_1.out.frozen j
  have f3_1 := str6 HS3_1.out
  have hl3_1 := HS3_1.out.lt
  have hf3_1 := fun j => HS3_1.out.frozen j
  go_wp2_with fail
  refine (counter_any lo hi (va + xn) _).mono ?_
  rintro e W2 ⟨rfl, hb2⟩
  have HS0_2 := Lib.hid (HS0_1.out.next hb2)
  have HS1_2 := Lib.hid (HS1_1.out.next hb2)
  have HS2_2 := Lib.hid (HS2_1.out.next hb2)
  have HS3_2 := Lib.hid (HS3_1.out.next hb2)
  have HB_2 := Lib.hid (bstep HB_1.out hb2)
  have hw_2 := HB_2.out.size
  have hws_2 := (hb2).size
  clear f0_1 HS0_1 hf0_1 f1_1 HS1_1 hf1_1 f2_1 HS2_1 hf2_1 f3_1 HS3_1 hf3_1
  clear hb2
  have f0_2 := str6 HS0_2.out
  have hl0_2 := HS0_2.out.lt
  have hf0_2 := fun j => HS0_2.out.frozen j
  have f1_2 := str6 HS1_2.out
  have hl1_2 := HS1_2.out.lt
  have hf1_2 := fun j => HS1_2.out.frozen j
  have f2_2 := str6 HS2_2.out
  have hl2_2 := HS2_2.out.lt
  have hf2_2 := fun j => HS2_2.out.frozen j
  have f3_2 := str6 HS3_2.out
  have hl3_2 := HS3_2.out.lt
  have hf3_2 := fun j => HS3_2.out.frozen j
  go_wp2_with fail
  generalize hW3 : ((((((W2).setCell ⟨w.heap.size + 1 + 1, 0, none⟩ (.int .i64 2)).setCell ⟨w.heap.size + 1 + 1, 1, none⟩ (.slice none 0 0)).setCell ⟨w.heap.size + 1 + 1, 2, none⟩ (.int .i64 lo)).setCell ⟨w.heap.size + 1 + 1, 3, none⟩ (.int .i64 hi)).setCell ⟨w.heap.size + 1 + 1, 4, none⟩ (.int .i64 (va + xn))).setCell ⟨w.heap.size + 1 + 1, 5, none⟩ (.bool true) = W3
  have HS2_3 : Hid (Str W3 (w.heap.size + 1 + 1) #[.int .i64 2, .slice none 0 0, .int .i64 lo, .int .i64 hi, .int .i64 (va + xn), .bool true]) := Lib.hid (by rw [← hW3]; have := ((((((HS2_2.out).set 0 (.int .i64 2)).set 1 (.slice none 0 0)).set 2 (.int .i64 lo)).set 3 (.int .i64 hi)).set 4 (.int .i64 (va + xn))).set 5 (.bool true); simpa using this)
  have hgr3 : W2.grownBy W3 (some (w.heap.size + 1 + 1)) := by rw [← hW3]; exact grown_set (grown_set (grown_set (grown_set (grown_set (grown_set (grown_refl W2 (w.heap.size + 1 + 1)) 0 (_)) 1 (_)) 2 (_)) 3 (_)) 4 (_)) 5 (_)
  have HS0_3 := Lib.hid (HS0_2.out.grown hgr3 (by omega))
  have HS1_3 := Lib.hid (HS1_2.out.grown hgr3 (by omega))
  have HS3_3 := Lib.hid (HS3_2.out.grown hgr3 (by omega))
  have HB_3 := Lib.hid (below_grown HB_2.out hgr3 (by omega))
  have hw_3 := HB_3.out.size
  have hws_3 := hgr3.size
  clear hW3
  clear f0_2 HS0_2 hf0_2 f1_2 HS1_2 hf1_2 f2_2 HS2_2 hf2_2 f3_2 HS3_2 hf3_2
  clear hgr3
  have f0_3 := str6 HS0_3.out
  have hl0_3 := HS0_3.out.lt
  have hf0_3 := fun j => HS0_3.out.frozen j
  have f1_3 := str6 HS1_3.out
  have hl1_3 := HS1_3.out.lt
  have hf1_3 := fun j => HS1_3.out.frozen j
  have f2_3 := str6 HS2_3.out
  have hl2_3 := HS2_3.out.lt
  have hf2_3 := fun j => HS2_3.out.frozen j
  have f3_3 := str6 HS3_3.out
  have hl3_3 := HS3_3.out.lt
  have hf3_3 := fun j => HS3_3.out.frozen j
  generalize hW4 : ((((((W3).setCell ⟨w.heap.size + 1 + 1 + 1, 0, none⟩ (.int .i64 0)).setCell ⟨w.heap.size + 1 + 1 + 1, 1, none⟩ (.int .i64 0)).setCell ⟨w.heap.size + 1 + 1 + 1, 2, none⟩ (.slice none 0 0)).setCell ⟨w.heap.size + 1 + 1 + 1, 3, none⟩ (.int .i64 0)).setCell ⟨w.heap.size + 1 + 1 + 1, 4, none⟩ (.int .i64 0)).setCell ⟨w.heap.size + 1 + 1 + 1, 5, none⟩ (.int .i64 0) = W4
  have HS3_4 : Hid (Str W4 (w.heap.size + 1 + 1 + 1) #[.int .i64 0, .int .i64 0, .slice none 0 0, .int .i64 0, .int .i64 0, .int .i64 0]) := Lib.hid (by rw [← hW4]; have := ((((((HS3_3.out).set 0 (.int .i64 0)).set 1 (.int .i64 0)).set 2 (.slice none 0 0)).set 3 (.int .i64 0)).set 4 (.int .i64 0)).set 5 (.int .i64 0); simpa using this)
  have hgr4 : W3.grownBy W4 (some (w.heap.size + 1 + 1 + 1)) := by rw [← hW4]; exact grown_set (grown_set (grown_set (grown_set (grown_set (grown_set (grown_refl W3 (w.heap.size + 1 + 1 + 1)) 0 (_)) 1 (_)) 2 (_)) 3 (_)) 4 (_)) 5 (_)
  have HS0_4 := Lib.hid (HS0_3.out.grown hgr4 (by omega))
  have HS1_4 := Lib.hid (HS1_3.out.grown hgr4 (by omega))
  have HS2_4 := Lib.hid (HS2_3.out.grown hgr4 (by omega))
  have HB_4 := Lib.hid (below_grown HB_3.out hgr4 (by omega))
  have hw_4 := HB_4.out.size
  have hws_4 := hgr4.size
  clear hW4
  clear f0_3 HS0_3 hf0_3 f1_3 HS1_3 hf1_3 f2_3 HS2_3 hf2_3 f3_3 HS3_3 hf3_3
  clear hgr4
  have f0_4 := str6 HS0_4.out
  have hl0_4 := HS0_4.out.lt
  have hf0_4 := fun j => HS0_4.out.frozen j
  have f1_4 := str6 HS1_4.out
  have hl1_4 := HS1_4.out.lt
  have hf1_4 := fun j => HS1_4.out.frozen j
  have f2_4 := str6 HS2_4.out
  have hl2_4 := HS2_4.out.lt
  have hf2_4 := fun j => HS2_4.out.frozen j
  have f3_4 := str6 HS3_4.out
  have hl3_4 := HS3_4.out.lt
  have hf3_4 := fun j => HS3_4.out.frozen j
  exact bodyPost_ret (v := .tuple #[.agg #[.int .i64 2, .slice none 0 0, .int .i64 lo, .int .i64 hi, .int .i64 (va + xn), .bool true], .agg #[.int .i64 0, .int .i64 0, .slice none 0 0, .int .i64 0, .int .i64 0, .int .i64 0]]) (by simp [results, Tryz.results105, go_sem, *]) rfl ⟨none, 0, 0, none, 0, 0, rfl, BytesH.none_ _ _, BytesH.none_ _ _, HB_4.out⟩
set_option maxRecDepth 100000 in
set_option maxHeartbeats 1000000 in
theorem moveSub_none (bs : List Nat) (act : Int) (xk : ByteArray) (Ax : Option Addr) (nx cx : Nat) (xlo xhi xn : Int)  (w : World) (hbs : ∀ b ∈ bs, b < w.heap.size) (bf : Nat) (hbf : bf < w.heap.size) (hfc : w.cell? ⟨bf, 0, none⟩ = some (.func (.func 96) #[] #[])) :
    Calls Tryz.prog 105 #[.agg #[.int .i64 0, .slice none 0 0, .int .i64 0, .int .i64 0, .int .i64 0, .bool false], .agg #[.int .i64 act, .string xk, .slice Ax nx cx, .int .i64 xlo, .int .i64 xhi, .int .i64 xn], .pointer (some ⟨bf, 0, none⟩)] w (GivesRule bs w (5, none, CellP.none)) := by
  have hb1 : bf < w.heap.size + 1 := by omega
  have hb2 : bf < w.heap.size + 1 + 1 := by omega
  have hb3 : bf < w.heap.size + 1 + 1 + 1 := by omega
  go_enter Tryz.func105, Tryz.ntmps105
  go_wp2_with fail
  generalize hW0 : ((((w).alloc (.cells #[.int .i64 0, .slice none 0 0, .int .i64 0, .int .i64 0, .int .i64 0, .bool false] 122)).alloc (.cells #[.int .i64 act, .string xk, .slice Ax nx cx, .int .i64 xlo, .int .i64 xhi, .int .i64 xn] 62)).alloc (.cells #[.int .i64 0, .slice none 0 0, .int .i64 0, .int .i64 0, .int .i64 0, .bool false] 122)).alloc (.cells #[.int .i64 0, .int .i64 0, .slice none 0 0, .int .i64 0, .int .i64 0, .int .i64 0] 58) = W0
  obtain ⟨HS0_0, HS1_0, HS2_0, HS3_0, HB_0, hw_0, hz0⟩ := new4 hW0
  clear hW0 hz0
  have f0_0 := str6 HS0_0.out
  have hl0_0 := HS0_0.out.lt
  have hf0_0 := fun j => HS0_0.out.frozen j
  have f1_0 := str6 HS1_0.out
  have hl1_0 := HS1_0.out.lt
  have hf1_0 := fun j => HS1_0.out.frozen j
  have f2_0 := str6 HS2_0.out
  have hl2_0 := HS2_0.out.lt
  have hf2_0 := fun j => HS2_0.out.frozen j
  have f3_0 := str6 HS3_0.out
  have hl3_0 := HS3_0.out.lt
  have hf3_0 := fun j => HS3_0.out.frozen j
  clear hfc
  go_wp2_with fail
  refine (refuse_any 5 _).mono ?_
  rintro e W1 ⟨rfl, hb1⟩
  have HS0_1 := Lib.hid (HS0_0.out.next hb1)
  have HS1_1 := Lib.hid (HS1_0.out.next hb1)
  have HS2_1 := Lib.hid (HS2_0.out.next hb1)
  have HS3_1 := Lib.hid (HS3_0.out.next hb1)
  have HB_1 := Lib.hid (bstep HB_0.out hb1)
  have hw_1 := HB_1.out.size
  have hws_1 := (hb1).size
  clear f0_0 HS0_0 hf0_0 f1_0 HS1_0 hf1_0 f2_0 HS2_0 hf2_0 f3_0 HS3_0 hf3_0
  clear hb1
  have f0_1 := str6 HS0_1.out
  have hl0_1 := HS0_1.out.lt
  have hf0_1 := fun j => HS0_1.out.frozen j
  have f1_1 := str6 HS1_1.out
  have hl1_1 := HS1_1.out.lt
  have hf1_1 := fun j => HS1_1.out.frozen j
  have f2_1 := str6 HS2_1.out
  have hl2_1 := HS2_1.out.lt
  have hf2_1 := fun j => HS2_1.out.frozen j
  have f3_1 := str6 HS3_1.out
  have hl3_1 := HS3_1.out.lt
  have hf3_1 := fun j => HS3_1.out.frozen j
  go_wp2_with fail
  generalize hW2 : ((((((W1).setCell ⟨w.heap.size + 1 + 1, 0, none⟩ (.int .i64 0)).setCell ⟨w.heap.size + 1 + 1, 1, none⟩ (.slice none 0 0)).setCell ⟨w.heap.size + 1 + 1, 2, none⟩ (.int .i64 0)).setCell ⟨w.heap.size + 1 + 1, 3, none⟩ (.int .i64 0)).setCell ⟨w.heap.size + 1 + 1, 4, none⟩ (.int .i64 0)).setCell ⟨w.heap.size + 1 + 1, 5, none⟩ (.bool false) = W2
  have HS2_2 : Hid (Str W2 (w.heap.size + 1 + 1) #[.int .i64 0, .slice none 0 0, .int .i64 0, .int .i64 0, .int .i64 0, .bool false]) := Lib.hid (by rw [← hW2]; have := ((((((HS2_1.out).set 0 (.int .i64 0)).set 1 (.slice none 0 0)).set 2 (.int .i64 0)).set 3 (.int .i64 0)).set 4 (.int .i64 0)).set 5 (.bool false); simpa using this)
  have hgr2 : W1.grownBy W2 (some (w.heap.size + 1 + 1)) := by rw [← hW2]; exact grown_set (grown_set (grown_set (grown_set (grown_set (grown_set (grown_refl W1 (w.heap.size + 1 + 1)) 0 (_)) 1 (_)) 2 (_)) 3 (_)) 4 (_)) 5 (_)
  have HS0_2 := Lib.hid (HS0_1.out.grown hgr2 (by omega))
  have HS1_2 := Lib.hid (HS1_1.out.grown hgr2 (by omega))
  have HS3_2 := Lib.hid (HS3_1.out.grown hgr2 (by omega))
  have HB_2 := Lib.hid (below_grown HB_1.out hgr2 (by omega))
  have hw_2 := HB_2.out.size
  have hws_2 := hgr2.size
  clear hW2
  clear f0_1 HS0_1 hf0_1 f1_1 HS1_1 hf1_1 f2_1 HS2_1 hf2_1 f3_1 HS3_1 hf3_1
  clear hgr2
  have f0_2 := str6 HS0_2.out
  have hl0_2 := HS0_2.out.lt
  have hf0_2 := fun j => HS0_2.out.frozen j
  have f1_2 := str6 HS1_2.out
  have hl1_2 := HS1_2.out.lt
  have hf1_2 := fun j => HS1_2.out.frozen j
  have f2_2 := str6 HS2_2.out
  have hl2_2 := HS2_2.out.lt
  have hf2_2 := fun j => HS2_2.out.frozen j
  have f3_2 := str6 HS3_2.out
  have hl3_2 := HS3_2.out.lt
  have hf3_2 := fun j => HS3_2.out.frozen j
  generalize hW3 : ((((((W2).setCell ⟨w.heap.size + 1 + 1 + 1, 0, none⟩ (.int .i64 5)).setCell ⟨w.heap.size + 1 + 1 + 1, 1, none⟩ (.int .i64 0)).setCell ⟨w.heap.size + 1 + 1 + 1, 2, none⟩ (.slice none 0 0)).setCell ⟨w.heap.size + 1 + 1 + 1, 3, none⟩ (.int .i64 0)).setCell ⟨w.heap.size + 1 + 1 + 1, 4, none⟩ (.int .i64 0)).setCell ⟨w.heap.size + 1 + 1 + 1, 5, none⟩ (.int .i64 0) = W3
  have HS3_3 : Hid (Str W3 (w.heap.size + 1 + 1 + 1) #[.int .i64 5, .int .i64 0, .slice none 0 0, .int .i64 0, .int .i64 0, .int .i64 0]) := Lib.hid (by rw [← hW3]; have := ((((((HS3_2.out).set 0 (.int .i64 5)).set 1 (.int .i64 0)).set 2 (.slice none 0 0)).set 3 (.int .i64 0)).set 4 (.int .i64 0)).set 5 (.int .i64 0); simpa using this)
  have hgr3 : W2.grownBy W3 (some (w.heap.size + 1 + 1 + 1)) := by rw [← hW3]; exact grown_set (grown_set (grown_set (grown_set (grown_set (grown_set (grown_refl W2 (w.heap.size + 1 + 1 + 1)) 0 (_)) 1 (_)) 2 (_)) 3 (_)) 4 (_)) 5 (_)
  have HS0_3 := Lib.hid (HS0_2.out.grown hgr3 (by omega))
  have HS1_3 := Lib.hid (HS1_2.out.grown hgr3 (by omega))
  have HS2_3 := Lib.hid (HS2_2.out.grown hgr3 (by omega))
  have HB_3 := Lib.hid (below_grown HB_2.out hgr3 (by omega))
  have hw_3 := HB_3.out.size
  have hws_3 := hgr3.size
  clear hW3
  clear f0_2 HS0_2 hf0_2 f1_2 HS1_2 hf1_2 f2_2 HS2_2 hf2_2 f3_2 HS3_2 hf3_2
  clear hgr3
  have f0_3 := str6 HS0_3.out
  have hl0_3 := HS0_3.out.lt
  have hf0_3 := fun j => HS0_3.out.frozen j
  have f1_3 := str6 HS1_3.out
  have hl1_3 := HS1_3.out.lt
  have hf1_3 := fun j => HS1_3.out.frozen j
  have f2_3 := str6 HS2_3.out
  have hl2_3 := HS2_3.out.lt
  have hf2_3 := fun j => HS2_3.out.frozen j
  have f3_3 := str6 HS3_3.out
  have hl3_3 := HS3_3.out.lt
  have hf3_3 := fun j => HS3_3.out.frozen j
  exact bodyPost_ret (v := .tuple #[.agg #[.int .i64 0, .slice none 0 0, .int .i64 0, .int .i64 0, .int .i64 0, .bool false], .agg #[.int .i64 5, .int .i64 0, .slice none 0 0, .int .i64 0, .int .i64 0, .int .i64 0]]) (by simp [results, Tryz.results105, go_sem, *]) rfl ⟨none, 0, 0, none, 0, 0, rfl, BytesH.none_ _ _, BytesH.none_ _ _, HB_3.out⟩
set_option maxRecDepth 100000 in
set_option maxHeartbeats 1000000 in
theorem moveSub_rec (bs : List Nat) (act : Int) (xk : ByteArray) (Ax : Option Addr) (nx cx : Nat) (xlo xhi xn : Int) (A : Option Addr) (n c : Nat) (kd : Int) (data : List UInt8) (lo hi va : Int) (w : World) (hbs : ∀ b ∈ bs, b < w.heap.size) (bf : Nat) (hbf : bf < w.heap.size) (hfc : w.cell? ⟨bf, 0, none⟩ = some (.func (.func 96) #[] #[])) (hk : ¬ kd = 2) :
    Calls Tryz.prog 105 #[.agg #[.int .i64 kd, .slice A n c, .int .i64 lo, .int .i64 hi, .int .i64 va, .bool true], .agg #[.int .i64 act, .string xk, .slice Ax nx cx, .int .i64 xlo, .int .i64 xhi, .int .i64 xn], .pointer (some ⟨bf, 0, none⟩)] w (GivesRule bs w (6, none, CellP.none)) := by
  have hk2 : (kd != 2) = true := by simpa using hk
  have hb1 : bf < w.heap.size + 1 := by omega
  have hb2 : bf < w.heap.size + 1 + 1 := by omega
  have hb3 : bf < w.heap.size + 1 + 1 + 1 := by omega
  go_enter Tryz.func105, Tryz.ntmps105
  go_wp2_with fail
  generalize hW0 : ((((w).alloc (.cells #[.int .i64 kd, .slice A n c, .int .i64 lo, .int .i64 hi, .int .i64 va, .bool true] 122)).alloc (.cells #[.int .i64 act, .string xk, .slice Ax nx cx, .int .i64 xlo, .int .i64 xhi, .int .i64 xn] 62)).alloc (.cells #[.int .i64 0, .slice none 0 0, .int .i64 0, .int .i64 0, .int .i64 0, .bool false] 122)).alloc (.cells #[.int .i64 0, .int .i64 0, .slice none 0 0, .int .i64 0, .int .i64 0, .int .i64 0] 58) = W0
  obtain ⟨HS0_0, HS1_0, HS2_0, HS3_0, HB_0, hw_0, hz0⟩ := new4 hW0
  clear hW0 hz0
  have f0_0 := str6 HS0_0.out
  have hl0_0 := HS0_0.out.lt
  have hf0_0 := fun j => HS0_0.out.frozen j
  have f1_0 := str6 HS1_0.out
  have hl1_0 := HS1_0.out.lt
  have hf1_0 := fun j => HS1_0.out.frozen j
  have f2_0 := str6 HS2_0.out
  have hl2_0 := HS2_0.out.lt
  have hf2_0 := fun j => HS2_0.out.frozen j
  have f3_0 := str6 HS3_0.out
  have hl3_0 := HS3_0.out.lt
  have hf3_0 := fun j => HS3_0.out.frozen j
  clear hfc
  go_wp2_with fail
  refine (refuse_any 6 _).mono ?_
  rintro e W1 ⟨rfl, hb1⟩
  have HS0_1 := Lib.hid (HS0_0.out.next hb1)
  have HS1_1 := Lib.hid (HS1_0.out.next hb1)
  have HS2_1 := Lib.hid (HS2_0.out.next hb1)
  have HS3_1 := Lib.hid (HS3_0.out.next hb1)
  have HB_1 := Lib.hid (bstep HB_0.out hb1)
  have hw_1 := HB_1.out.size
  have hws_1 := (hb1).size
  clear f0_0 HS0_0 hf0_0 f1_0 HS1_0 hf1_0 f2_0 HS2_0 hf2_0 f3_0 HS3_0 hf3_0
  clear hb1
  have f0_1 := str6 HS0_1.out
  have hl0_1 := HS0_1.out.lt
  have hf0_1 := fun j => HS0_1.out.frozen j
  have f1_1 := str6 HS1_1.out
  have hl1_1 := HS1_1.out.lt
  have hf1_1 := fun j => HS1_1.out.frozen j
  have f2_1 := str6 HS2_1.out
  have hl2_1 := HS2_1.out.lt
  have hf2_1 := fun j => HS2_1.out.frozen j
  have f3_1 := str6 HS3_1.out
  have hl3_1 := HS3_1.out.lt
  have hf3_1 := fun j => HS3_1.out.frozen j
  go_wp2_with fail
  generalize hW2 : ((((((W1).setCell ⟨w.heap.size + 1 + 1, 0, none⟩ (.int .i64 0)).setCell ⟨w.heap.size + 1 + 1, 1, none⟩ (.slice none 0 0)).setCell ⟨w.heap.size + 1 + 1, 2, none⟩ (.int .i64 0)).setCell ⟨w.heap.size + 1 + 1, 3, none⟩ (.int .i64 0)).setCell ⟨w.heap.size + 1 + 1, 4, none⟩ (.int .i64 0)).setCell ⟨w.heap.size + 1 + 1, 5, none⟩ (.bool false) = W2
  have HS2_2 : Hid (Str W2 (w.heap.size + 1 + 1) #[.int .i64 0, .slice none 0 0, .int .i64 0, .int .i64 0, .int .i64 0, .bool false]) := Lib.hid (by rw [← hW2]; have := ((((((HS2_1.out).set 0 (.int .i64 0)).set 1 (.slice none 0 0)).set 2 (.int .i64 0)).set 3 (.int .i64 0)).set 4 (.int .i64 0)).set 5 (.bool false); simpa using this)
  have hgr2 : W1.grownBy W2 (some (w.heap.size + 1 + 1)) := by rw [← hW2]; exact grown_set (grown_set (grown_set (grown_set (grown_set (grown_set (grown_refl W1 (w.heap.size + 1 + 1)) 0 (_)) 1 (_)) 2 (_)) 3 (_)) 4 (_)) 5 (_)
  have HS0_2 := Lib.hid (HS0_1.out.grown hgr2 (by omega))
  have HS1_2 := Lib.hid (HS1_1.out.grown hgr2 (by omega))
  have HS3_2 := Lib.hid (HS3_1.out.grown hgr2 (by omega))
  have HB_2 := Lib.hid (below_grown HB_1.out hgr2 (by omega))
  have hw_2 := HB_2.out.size
  have hws_2 := hgr2.size
  clear hW2
  clear f0_1 HS0_1 hf0_1 f1_1 HS1_1 hf1_1 f2_1 HS2_1 hf2_1 f3_1 HS3_1 hf3_1
  clear hgr2
  have f0_2 := str6 HS0_2.out
  have hl0_2 := HS0_2.out.lt
  have hf0_2 := fun j => HS0_2.out.frozen j
  have f1_2 := str6 HS1_2.out
  have hl1_2 := HS1_2.out.lt
  have hf1_2 := fun j => HS1_2.out.frozen j
  have f2_2 := str6 HS2_2.out
  have hl2_2 := HS2_2.out.lt
  have hf2_2 := fun j => HS2_2.out.frozen j
  have f3_2 := str6 HS3_2.out
  have hl3_2 := HS3_2.out.lt
  have hf3_2 := fun j => HS3_2.out.frozen j
  generalize hW3 : ((((((W2).setCell ⟨w.heap.size + 1 + 1 + 1, 0, none⟩ (.int .i64 6)).setCell ⟨w.heap.size + 1 + 1 + 1, 1, none⟩ (.int .i64 0)).setCell ⟨w.heap.size + 1 + 1 + 1, 2, none⟩ (.slice none 0 0)).setCell ⟨w.heap.size + 1 + 1 + 1, 3, none⟩ (.int .i64 0)).setCell ⟨w.heap.size + 1 + 1 + 1, 4, none⟩ (.int .i64 0)).setCell ⟨w.heap.size + 1 + 1 + 1, 5, none⟩ (.int .i64 0) = W3
  have HS3_3 : Hid (Str W3 (w.heap.size + 1 + 1 + 1) #[.int .i64 6, .int .i64 0, .slice none 0 0, .int .i64 0, .int .i64 0, .int .i64 0]) := Lib.hid (by rw [← hW3]; have := ((((((HS3_2.out).set 0 (.int .i64 6)).set 1 (.int .i64 0)).set 2 (.slice none 0 0)).set 3 (.int .i64 0)).set 4 (.int .i64 0)).set 5 (.int .i64 0); simpa using this)
  have hgr3 : W2.grownBy W3 (some (w.heap.size + 1 + 1 + 1)) := by rw [← hW3]; exact grown_set (grown_set (grown_set (grown_set (grown_set (grown_set (grown_refl W2 (w.heap.size + 1 + 1 + 1)) 0 (_)) 1 (_)) 2 (_)) 3 (_)) 4 (_)) 5 (_)
  have HS0_3 := Lib.hid (HS0_2.out.grown hgr3 (by omega))
  have HS1_3 := Lib.hid (HS1_2.out.grown hgr3 (by omega))
  have HS2_3 := Lib.hid (HS2_2.out.grown hgr3 (by omega))
  have HB_3 := Lib.hid (below_grown HB_2.out hgr3 (by omega))
  have hw_3 := HB_3.out.size
  have hws_3 := hgr3.size
  clear hW3
  clear f0_2 HS0_2 hf0_2 f1_2 HS1_2 hf1_2 f2_2 HS2_2 hf2_2 f3_2 HS3_2 hf3_2
  clear hgr3
  have f0_3 := str6 HS0_3.out
  have hl0_3 := HS0_3.out.lt
  have hf0_3 := fun j => HS0_3.out.frozen j
  have f1_3 := str6 HS1_3.out
  have hl1_3 := HS1_3.out.lt
  have hf1_3 := fun j => HS1_3.out.frozen j
  have f2_3 := str6 HS2_3.out
  have hl2_3 := HS2_3.out.lt
  have hf2_3 := fun j => HS2_3.out.frozen j
  have f3_3 := str6 HS3_3.out
  have hl3_3 := HS3_3.out.lt
  have hf3_3 := fun j => HS3_3.out.frozen j
  exact bodyPost_ret (v := .tuple #[.agg #[.int .i64 0, .slice none 0 0, .int .i64 0, .int .i64 0, .int .i64 0, .bool false], .agg #[.int .i64 6, .int .i64 0, .slice none 0 0, .int .i64 0, .int .i64 0, .int .i64 0]]) (by simp [results, Tryz.results105, go_sem, *]) rfl ⟨none, 0, 0, none, 0, 0, rfl, BytesH.none_ _ _, BytesH.none_ _ _, HB_3.out⟩
set_option maxRecDepth 100000 in
set_option maxHeartbeats 1000000 in
theorem moveSub_unfit (bs : List Nat) (act : Int) (xk : ByteArray) (Ax : Option Addr) (nx cx : Nat) (xlo xhi xn : Int) (A : Option Addr) (n c : Nat) (data : List UInt8) (lo hi va : Int) (w : World) (hbs : ∀ b ∈ bs, b < w.heap.size) (bf : Nat) (hbf : bf < w.heap.size) (hfc : w.cell? ⟨bf, 0, none⟩ = some (.func (.func 96) #[] #[])) (v1 : In64 va) (v2 : In64 xn) (hf : WideP.fits (va - xn) = false) :
    Calls Tryz.prog 105 #[.agg #[.int .i64 2, .slice A n c, .int .i64 lo, .int .i64 hi, .int .i64 va, .bool true], .agg #[.int .i64 act, .string xk, .slice Ax nx cx, .int .i64 xlo, .int .i64 xhi, .int .i64 xn], .pointer (some ⟨bf, 0, none⟩)] w (GivesRule bs w (8, none, CellP.none)) := by
  have HF := Lib.hid hf
  clear hf
  have hb1 : bf < w.heap.size + 1 := by omega
  have hb2 : bf < w.heap.size + 1 + 1 := by omega
  have hb3 : bf < w.heap.size + 1 + 1 + 1 := by omega
  go_enter Tryz.func105, Tryz.ntmps105
  go_wp2_with fail
  generalize hW0 : ((((w).alloc (.cells #[.int .i64 2, .slice A n c, .int .i64 lo, .int .i64 hi, .int .i64 va, .bool true] 122)).alloc (.cells #[.int .i64 act, .string xk, .slice Ax nx cx, .int .i64 xlo, .int .i64 xhi, .int .i64 xn] 62)).alloc (.cells #[.int .i64 0, .slice none 0 0, .int .i64 0, .int .i64 0, .int .i64 0, .bool false] 122)).alloc (.cells #[.int .i64 0, .int .i64 0, .slice none 0 0, .int .i64 0, .int .i64 0, .int .i64 0] 58) = W0
  obtain ⟨HS0_0, HS1_0, HS2_0, HS3_0, HB_0, hw_0, hz0⟩ := new4 hW0
  clear hW0 hz0
  have f0_0 := str6 HS0_0.out
  have hl0_0 := HS0_0.out.lt
  have hf0_0 := fun j => HS0_0.out.frozen j
  have f1_0 := str6 HS1_0.out
  have hl1_0 := HS1_0.out.lt
  have hf1_0 := fun j => HS1_0.out.frozen j
  have f2_0 := str6 HS2_0.out
  have hl2_0 := HS2_0.out.lt
  have hf2_0 := fun j => HS2_0.out.frozen j
  have f3_0 := str6 HS3_0.out
  have hl3_0 := HS3_0.out.lt
  have hf3_0 := fun j => HS3_0.out.frozen j
  clear hfc
  go_wp2_with fail
  refine (WideW.sub_any va xn v1.1 v1.2 v2.1 v2.2 _).mono ?_
  rintro e W1 ⟨rfl, hb1⟩
  rw [HF.out]
  have HS0_1 := Lib.hid (HS0_0.out.next hb1)
  have HS1_1 := Lib.hid (HS1_0.out.next hb1)
  have HS2_1 := Lib.hid (HS2_0.out.next hb1)
  have HS3_1 := Lib.hid (HS3_0.out.next hb1)
  have HB_1 := Lib.hid (bstep HB_0.out hb1)
  have hw_1 := HB_1.out.size
  have hws_1 := (hb1).size
  clear f0_0 HS0_0 hf0_0 f1_0 HS1_0 hf1_0 f2_0 HS2_0 hf2_0 f3_0 HS3_0 hf3_0
  clear hb1
  have f0_1 := str6 HS0_1.out
  have hl0_1 := HS0_1.out.lt
  have hf0_1 := fun j => HS0_1.out.frozen j
  have f1_1 := str6 HS1_1.out
  have hl1_1 := HS1_1.out.lt
  have hf1_1 := fun j => HS1_1.out.frozen j
  have f2_1 := str6 HS2_1.out
  have hl2_1 := HS2_1.out.lt
  have hf2_1 := fun j => HS2_1.out.frozen j
  have f3_1 := str6 HS3_1.out
  have hl3_1 := HS3_1.out.lt
  have hf3_1 := fun j => HS3_1.out.frozen j
  go_wp2_with fail
  refine (refuse_any 8 _).mono ?_
  rintro e W2 ⟨rfl, hb2⟩
  have HS0_2 := Lib.hid (HS0_1.out.next hb2)
  have HS1_2 := Lib.hid (HS1_1.out.next hb2)
  have HS2_2 := Lib.hid (HS2_1.out.next hb2)
  have HS3_2 := Lib.hid (HS3_1.out.next hb2)
  have HB_2 := Lib.hid (bstep HB_1.out hb2)
  have hw_2 := HB_2.out.size
  have hws_2 := (hb2).size
  clear f0_1 HS0_1 hf0_1 f1_1 HS1_1 hf1_1 f2_1 HS2_1 hf2_1 f3_1 HS3_1 hf3_1
  clear hb2
  have f0_2 := str6 HS0_2.out
  have hl0_2 := HS0_2.out.lt
  have hf0_2 := fun j => HS0_2.out.frozen j
  have f1_2 := str6 HS1_2.out
  have hl1_2 := HS1_2.out.lt
  have hf1_2 := fun j => HS1_2.out.frozen j
  have f2_2 := str6 HS2_2.out
  have hl2_2 := HS2_2.out.lt
  have hf2_2 := fun j => HS2_2.out.frozen j
  have f3_2 := str6 HS3_2.out
  have hl3_2 := HS3_2.out.lt
  have hf3_2 := fun j => HS3_2.out.frozen j
  go_wp2_with fail
  generalize hW3 : ((((((W2).setCell ⟨w.heap.size + 1 + 1, 0, none⟩ (.int .i64 0)).setCell ⟨w.heap.size + 1 + 1, 1, none⟩ (.slice none 0 0)).setCell ⟨w.heap.size + 1 + 1, 2, none⟩ (.int .i64 0)).setCell ⟨w.heap.size + 1 + 1, 3, none⟩ (.int .i64 0)).setCell ⟨w.heap.size + 1 + 1, 4, none⟩ (.int .i64 0)).setCell ⟨w.heap.size + 1 + 1, 5, none⟩ (.bool false) = W3
  have HS2_3 : Hid (Str W3 (w.heap.size + 1 + 1) #[.int .i64 0, .slice none 0 0, .int .i64 0, .int .i64 0, .int .i64 0, .bool false]) := Lib.hid (by rw [← hW3]; have := ((((((HS2_2.out).set 0 (.int .i64 0)).set 1 (.slice none 0 0)).set 2 (.int .i64 0)).set 3 (.int .i64 0)).set 4 (.int .i64 0)).set 5 (.bool false); simpa using this)
  have hgr3 : W2.grownBy W3 (some (w.heap.size + 1 + 1)) := by rw [← hW3]; exact grown_set (grown_set (grown_set (grown_set (grown_set (grown_set (grown_refl W2 (w.heap.size + 1 + 1)) 0 (_)) 1 (_)) 2 (_)) 3 (_)) 4 (_)) 5 (_)
  have HS0_3 := Lib.hid (HS0_2.out.grown hgr3 (by omega))
  have HS1_3 := Lib.hid (HS1_2.out.grown hgr3 (by omega))
  have HS3_3 := Lib.hid (HS3_2.out.grown hgr3 (by omega))
  have HB_3 := Lib.hid (below_grown HB_2.out hgr3 (by omega))
  have hw_3 := HB_3.out.size
  have hws_3 := hgr3.size
  clear hW3
  clear f0_2 HS0_2 hf0_2 f1_2 HS1_2 hf1_2 f2_2 HS2_2 hf2_2 f3_2 HS3_2 hf3_2
  clear hgr3
  have f0_3 := str6 HS0_3.out
  have hl0_3 := HS0_3.out.lt
  have hf0_3 := fun j => HS0_3.out.frozen j
  have f1_3 := str6 HS1_3.out
  have hl1_3 := HS1_3.out.lt
  have hf1_3 := fun j => HS1_3.out.frozen j
  have f2_3 := str6 HS2_3.out
  have hl2_3 := HS2_3.out.lt
  have hf2_3 := fun j => HS2_3.out.frozen j
  have f3_3 := str6 HS3_3.out
  have hl3_3 := HS3_3.out.lt
  have hf3_3 := fun j => HS3_3.out.frozen j
  generalize hW4 : ((((((W3).setCell ⟨w.heap.size + 1 + 1 + 1, 0, none⟩ (.int .i64 8)).setCell ⟨w.heap.size + 1 + 1 + 1, 1, none⟩ (.int .i64 0)).setCell ⟨w.heap.size + 1 + 1 + 1, 2, none⟩ (.slice none 0 0)).setCell ⟨w.heap.size + 1 + 1 + 1, 3, none⟩ (.int .i64 0)).setCell ⟨w.heap.size + 1 + 1 + 1, 4, none⟩ (.int .i64 0)).setCell ⟨w.heap.size + 1 + 1 + 1, 5, none⟩ (.int .i64 0) = W4
  have HS3_4 : Hid (Str W4 (w.heap.size + 1 + 1 + 1) #[.int .i64 8, .int .i64 0, .slice none 0 0, .int .i64 0, .int .i64 0, .int .i64 0]) := Lib.hid (by rw [← hW4]; have := ((((((HS3_3.out).set 0 (.int .i64 8)).set 1 (.int .i64 0)).set 2 (.slice none 0 0)).set 3 (.int .i64 0)).set 4 (.int .i64 0)).set 5 (.int .i64 0); simpa using this)
  have hgr4 : W3.grownBy W4 (some (w.heap.size + 1 + 1 + 1)) := by rw [← hW4]; exact grown_set (grown_set (grown_set (grown_set (grown_set (grown_set (grown_refl W3 (w.heap.size + 1 + 1 + 1)) 0 (_)) 1 (_)) 2 (_)) 3 (_)) 4 (_)) 5 (_)
  have HS0_4 := Lib.hid (HS0_3.out.grown hgr4 (by omega))
  have HS1_4 := Lib.hid (HS1_3.out.grown hgr4 (by omega))
  have HS2_4 := Lib.hid (HS2_3.out.grown hgr4 (by omega))
  have HB_4 := Lib.hid (below_grown HB_3.out hgr4 (by omega))
  have hw_4 := HB_4.out.size
  have hws_4 := hgr4.size
  clear hW4
  clear f0_3 HS0_3 hf0_3 f1_3 HS1_3 hf1_3 f2_3 HS2_3 hf2_3 f3_3 HS3_3 hf3_3
  clear hgr4
  have f0_4 := str6 HS0_4.out
  have hl0_4 := HS0_4.out.lt
  have hf0_4 := fun j => HS0_4.out.frozen j
  have f1_4 := str6 HS1_4.out
  have hl1_4 := HS1_4.out.lt
  have hf1_4 := fun j => HS1_4.out.frozen j
  have f2_4 := str6 HS2_4.out
  have hl2_4 := HS2_4.out.lt
  have hf2_4 := fun j => HS2_4.out.frozen j
  have f3_4 := str6 HS3_4.out
  have hl3_4 := HS3_4.out.lt
  have hf3_4 := fun j => HS3_4.out.frozen j
  exact bodyPost_ret (v := .tuple #[.agg #[.int .i64 0, .slice none 0 0, .int .i64 0, .int .i64 0, .int .i64 0, .bool false], .agg #[.int .i64 8, .int .i64 0, .slice none 0 0, .int .i64 0, .int .i64 0, .int .i64 0]]) (by simp [results, Tryz.results105, go_sem, *]) rfl ⟨none, 0, 0, none, 0, 0, rfl, BytesH.none_ _ _, BytesH.none_ _ _, HB_4.out⟩
set_option maxRecDepth 100000 in
set_option maxHeartbeats 1000000 in
theorem moveSub_low (bs : List Nat) (act : Int) (xk : ByteArray) (Ax : Option Addr) (nx cx : Nat) (xlo xhi xn : Int) (A : Option Addr) (n c : Nat) (data : List UInt8) (lo hi va : Int) (w : World) (hbs : ∀ b ∈ bs, b < w.heap.size) (bf : Nat) (hbf : bf < w.heap.size) (hfc : w.cell? ⟨bf, 0, none⟩ = some (.func (.func 96) #[] #[])) (v1 : In64 va) (v2 : In64 xn) (hf : WideP.fits (va - xn) = true) (hc : va - xn < lo) :
    Calls Tryz.prog 105 #[.agg #[.int .i64 2, .slice A n c, .int .i64 lo, .int .i64 hi, .int .i64 va, .bool true], .agg #[.int .i64 act, .string xk, .slice Ax nx cx, .int .i64 xlo, .int .i64 xhi, .int .i64 xn], .pointer (some ⟨bf, 0, none⟩)] w (GivesRule bs w (8, none, CellP.none)) := by
  have HF := Lib.hid hf
  have HN : Hid (WideP.num (va - xn) = va - xn) := Lib.hid (by unfold WideP.num; rw [hf]; rfl)
  clear hf
  have hb1 : bf < w.heap.size + 1 := by omega
  have hb2 : bf < w.heap.size + 1 + 1 := by omega
  have hb3 : bf < w.heap.size + 1 + 1 + 1 := by omega
  go_enter Tryz.func105, Tryz.ntmps105
  go_wp2_with fail
  generalize hW0 : ((((w).alloc (.cells #[.int .i64 2, .slice A n c, .int .i64 lo, .int .i64 hi, .int .i64 va, .bool true] 122)).alloc (.cells #[.int .i64 act, .string xk, .slice Ax nx cx, .int .i64 xlo, .int .i64 xhi, .int .i64 xn] 62)).alloc (.cells #[.int .i64 0, .slice none 0 0, .int .i64 0, .int .i64 0, .int .i64 0, .bool false] 122)).alloc (.cells #[.int .i64 0, .int .i64 0, .slice none 0 0, .int .i64 0, .int .i64 0, .int .i64 0] 58) = W0
  obtain ⟨HS0_0, HS1_0, HS2_0, HS3_0, HB_0, hw_0, hz0⟩ := new4 hW0
  clear hW0 hz0
  have f0_0 := str6 HS0_0.out
  have hl0_0 := HS0_0.out.lt
  have hf0_0 := fun j => HS0_0.out.frozen j
  have f1_0 := str6 HS1_0.out
  have hl1_0 := HS1_0.out.lt
  have hf1_0 := fun j => HS1_0.out.frozen j
  have f2_0 := str6 HS2_0.out
  have hl2_0 := HS2_0.out.lt
  have hf2_0 := fun j => HS2_0.out.frozen j
  have f3_0 := str6 HS3_0.out
  have hl3_0 := HS3_0.out.lt
  have hf3_0 := fun j => HS3_0.out.frozen j
  clear hfc
  go_wp2_with fail
  refine (WideW.sub_any va xn v1.1 v1.2 v2.1 v2.2 _).mono ?_
  rintro e W1 ⟨rfl, hb1⟩
  rw [HF.out, HN.out]
  have HS0_1 := Lib.hid (HS0_0.out.next hb1)
  have HS1_1 := Lib.hid (HS1_0.out.next hb1)
  have HS2_1 := Lib.hid (HS2_0.out.next hb1)
  have HS3_1 := Lib.hid (HS3_0.out.next hb1)
  have HB_1 := Lib.hid (bstep HB_0.out hb1)
  have hw_1 := HB_1.out.size
  have hws_1 := (hb1).size
  clear f0_0 HS0_0 hf0_0 f1_0 HS1_0 hf1_0 f2_0 HS2_0 hf2_0 f3_0 HS3_0 hf3_0
  clear hb1
  have f0_1 := str6 HS0_1.out
  have hl0_1 := HS0_1.out.lt
  have hf0_1 := fun j => HS0_1.out.frozen j
  have f1_1 := str6 HS1_1.out
  have hl1_1 := HS1_1.out.lt
  have hf1_1 := fun j => HS1_1.out.frozen j
  have f2_1 := str6 HS2_1.out
  have hl2_1 := HS2_1.out.lt
  have hf2_1 := fun j => HS2_1.out.frozen j
  have f3_1 := str6 HS3_1.out
  have hl3_1 := HS3_1.out.lt
  have hf3_1 := fun j => HS3_1.out.frozen j
  go_wp2_with fail
  refine (refuse_any 8 _).mono ?_
  rintro e W2 ⟨rfl, hb2⟩
  have HS0_2 := Lib.hid (HS0_1.out.next hb2)
  have HS1_2 := Lib.hid (HS1_1.out.next hb2)
  have HS2_2 := Lib.hid (HS2_1.out.next hb2)
  have HS3_2 := Lib.hid (HS3_1.out.next hb2)
  have HB_2 := Lib.hid (bstep HB_1.out hb2)
  have hw_2 := HB_2.out.size
  have hws_2 := (hb2).size
  clear f0_1 HS0_1 hf0_1 f1_1 HS1_1 hf1_1 f2_1 HS2_1 hf2_1 f3_1 HS3_1 hf3_1
  clear hb2
  have f0_2 := str6 HS0_2.out
  have hl0_2 := HS0_2.out.lt
  have hf0_2 := fun j => HS0_2.out.frozen j
  have f1_2 := str6 HS1_2.out
  have hl1_2 := HS1_2.out.lt
  have hf1_2 := fun j => HS1_2.out.frozen j
  have f2_2 := str6 HS2_2.out
  have hl2_2 := HS2_2.out.lt
  have hf2_2 := fun j => HS2_2.out.frozen j
  have f3_2 := str6 HS3_2.out
  have hl3_2 := HS3_2.out.lt
  have hf3_2 := fun j => HS3_2.out.frozen j
  go_wp2_with fail
  generalize hW3 : ((((((W2).setCell ⟨w.heap.size + 1 + 1, 0, none⟩ (.int .i64 0)).setCell ⟨w.heap.size + 1 + 1, 1, none⟩ (.slice none 0 0)).setCell ⟨w.heap.size + 1 + 1, 2, none⟩ (.int .i64 0)).setCell ⟨w.heap.size + 1 + 1, 3, none⟩ (.int .i64 0)).setCell ⟨w.heap.size + 1 + 1, 4, none⟩ (.int .i64 0)).setCell ⟨w.heap.size + 1 + 1, 5, none⟩ (.bool false) = W3
  have HS2_3 : Hid (Str W3 (w.heap.size + 1 + 1) #[.int .i64 0, .slice none 0 0, .int .i64 0, .int .i64 0, .int .i64 0, .bool false]) := Lib.hid (by rw [← hW3]; have := ((((((HS2_2.out).set 0 (.int .i64 0)).set 1 (.slice none 0 0)).set 2 (.int .i64 0)).set 3 (.int .i64 0)).set 4 (.int .i64 0)).set 5 (.bool false); simpa using this)
  have hgr3 : W2.grownBy W3 (some (w.heap.size + 1 + 1)) := by rw [← hW3]; exact grown_set (grown_set (grown_set (grown_set (grown_set (grown_set (grown_refl W2 (w.heap.size + 1 + 1)) 0 (_)) 1 (_)) 2 (_)) 3 (_)) 4 (_)) 5 (_)
  have HS0_3 := Lib.hid (HS0_2.out.grown hgr3 (by omega))
  have HS1_3 := Lib.hid (HS1_2.out.grown hgr3 (by omega))
  have HS3_3 := Lib.hid (HS3_2.out.grown hgr3 (by omega))
  have HB_3 := Lib.hid (below_grown HB_2.out hgr3 (by omega))
  have hw_3 := HB_3.out.size
  have hws_3 := hgr3.size
  clear hW3
  clear f0_2 HS0_2 hf0_2 f1_2 HS1_2 hf1_2 f2_2 HS2_2 hf2_2 f3_2 HS3_2 hf3_2
  clear hgr3
  have f0_3 := str6 HS0_3.out
  have hl0_3 := HS0_3.out.lt
  have hf0_3 := fun j => HS0_3.out.frozen j
  have f1_3 := str6 HS1_3.out
  have hl1_3 := HS1_3.out.lt
  have hf1_3 := fun j => HS1_3.out.frozen j
  have f2_3 := str6 HS2_3.out
  have hl2_3 := HS2_3.out.lt
  have hf2_3 := fun j => HS2_3.out.frozen j
  have f3_3 := str6 HS3_3.out
  have hl3_3 := HS3_3.out.lt
  have hf3_3 := fun j => HS3_3.out.frozen j
  generalize hW4 : ((((((W3).setCell ⟨w.heap.size + 1 + 1 + 1, 0, none⟩ (.int .i64 8)).setCell ⟨w.heap.size + 1 + 1 + 1, 1, none⟩ (.int .i64 0)).setCell ⟨w.heap.size + 1 + 1 + 1, 2, none⟩ (.slice none 0 0)).setCell ⟨w.heap.size + 1 + 1 + 1, 3, none⟩ (.int .i64 0)).setCell ⟨w.heap.size + 1 + 1 + 1, 4, none⟩ (.int .i64 0)).setCell ⟨w.heap.size + 1 + 1 + 1, 5, none⟩ (.int .i64 0) = W4
  have HS3_4 : Hid (Str W4 (w.heap.size + 1 + 1 + 1) #[.int .i64 8, .int .i64 0, .slice none 0 0, .int .i64 0, .int .i64 0, .int .i64 0]) := Lib.hid (by rw [← hW4]; have := ((((((HS3_3.out).set 0 (.int .i64 8)).set 1 (.int .i64 0)).set 2 (.slice none 0 0)).set 3 (.int .i64 0)).set 4 (.int .i64 0)).set 5 (.int .i64 0); simpa using this)
  have hgr4 : W3.grownBy W4 (some (w.heap.size + 1 + 1 + 1)) := by rw [← hW4]; exact grown_set (grown_set (grown_set (grown_set (grown_set (grown_set (grown_refl W3 (w.heap.size + 1 + 1 + 1)) 0 (_)) 1 (_)) 2 (_)) 3 (_)) 4 (_)) 5 (_)
  have HS0_4 := Lib.hid (HS0_3.out.grown hgr4 (by omega))
  have HS1_4 := Lib.hid (HS1_3.out.grown hgr4 (by omega))
  have HS2_4 := Lib.hid (HS2_3.out.grown hgr4 (by omega))
  have HB_4 := Lib.hid (below_grown HB_3.out hgr4 (by omega))
  have hw_4 := HB_4.out.size
  have hws_4 := hgr4.size
  clear hW4
  clear f0_3 HS0_3 hf0_3 f1_3 HS1_3 hf1_3 f2_3 HS2_3 hf2_3 f3_3 HS3_3 hf3_3
  clear hgr4
  have f0_4 := str6 HS0_4.out
  have hl0_4 := HS0_4.out.lt
  have hf0_4 := fun j => HS0_4.out.frozen j
  have f1_4 := str6 HS1_4.out
  have hl1_4 := HS1_4.out.lt
  have hf1_4 := fun j => HS1_4.out.frozen j
  have f2_4 := str6 HS2_4.out
  have hl2_4 := HS2_4.out.lt
  have hf2_4 := fun j => HS2_4.out.frozen j
  have f3_4 := str6 HS3_4.out
  have hl3_4 := HS3_4.out.lt
  have hf3_4 := fun j => HS3_4.out.frozen j
  exact bodyPost_ret (v := .tuple #[.agg #[.int .i64 0, .slice none 0 0, .int .i64 0, .int .i64 0, .int .i64 0, .bool false], .agg #[.int .i64 8, .int .i64 0, .slice none 0 0, .int .i64 0, .int .i64 0, .int .i64 0]]) (by simp [results, Tryz.results105, go_sem, *]) rfl ⟨none, 0, 0, none, 0, 0, rfl, BytesH.none_ _ _, BytesH.none_ _ _, HB_4.out⟩
set_option maxRecDepth 100000 in
set_option maxHeartbeats 1000000 in
theorem moveSub_high (bs : List Nat) (act : Int) (xk : ByteArray) (Ax : Option Addr) (nx cx : Nat) (xlo xhi xn : Int) (A : Option Addr) (n c : Nat) (data : List UInt8) (lo hi va : Int) (w : World) (hbs : ∀ b ∈ bs, b < w.heap.size) (bf : Nat) (hbf : bf < w.heap.size) (hfc : w.cell? ⟨bf, 0, none⟩ = some (.func (.func 96) #[] #[])) (v1 : In64 va) (v2 : In64 xn) (hf : WideP.fits (va - xn) = true) (hl : lo ≤ va - xn) (hc : hi < va - xn) :
    Calls Tryz.prog 105 #[.agg #[.int .i64 2, .slice A n c, .int .i64 lo, .int .i64 hi, .int .i64 va, .bool true], .agg #[.int .i64 act, .string xk, .slice Ax nx cx, .int .i64 xlo, .int .i64 xhi, .int .i64 xn], .pointer (some ⟨bf, 0, none⟩)] w (GivesRule bs w (8, none, CellP.none)) := by
  have HF := Lib.hid hf
  have HN : Hid (WideP.num (va - xn) = va - xn) := Lib.hid (by unfold WideP.num; rw [hf]; rfl)
  clear hf
  have hl1 : ¬ va - xn < lo := by omega
  have hb1 : bf < w.heap.size + 1 := by omega
  have hb2 : bf < w.heap.size + 1 + 1 := by omega
  have hb3 : bf < w.heap.size + 1 + 1 + 1 := by omega
  go_enter Tryz.func105, Tryz.ntmps105
  go_wp2_with fail
  generalize hW0 : ((((w).alloc (.cells #[.int .i64 2, .slice A n c, .int .i64 lo, .int .i64 hi, .int .i64 va, .bool true] 122)).alloc (.cells #[.int .i64 act, .string xk, .slice Ax nx cx, .int .i64 xlo, .int .i64 xhi, .int .i64 xn] 62)).alloc (.cells #[.int .i64 0, .slice none 0 0, .int .i64 0, .int .i64 0, .int .i64 0, .bool false] 122)).alloc (.cells #[.int .i64 0, .int .i64 0, .slice none 0 0, .int .i64 0, .int .i64 0, .int .i64 0] 58) = W0
  obtain ⟨HS0_0, HS1_0, HS2_0, HS3_0, HB_0, hw_0, hz0⟩ := new4 hW0
  clear hW0 hz0
  have f0_0 := str6 HS0_0.out
  have hl0_0 := HS0_0.out.lt
  have hf0_0 := fun j => HS0_0.out.frozen j
  have f1_0 := str6 HS1_0.out
  have hl1_0 := HS1_0.out.lt
  have hf1_0 := fun j => HS1_0.out.frozen j
  have f2_0 := str6 HS2_0.out
  have hl2_0 := HS2_0.out.lt
  have hf2_0 := fun j => HS2_0.out.frozen j
  have f3_0 := str6 HS3_0.out
  have hl3_0 := HS3_0.out.lt
  have hf3_0 := fun j => HS3_0.out.frozen j
  clear hfc
  go_wp2_with fail
  refine (WideW.sub_any va xn v1.1 v1.2 v2.1 v2.2 _).mono ?_
  rintro e W1 ⟨rfl, hb1⟩
  rw [HF.out, HN.out]
  have HS0_1 := Lib.hid (HS0_0.out.next hb1)
  have HS1_1 := Lib.hid (HS1_0.out.next hb1)
  have HS2_1 := Lib.hid (HS2_0.out.next hb1)
  have HS3_1 := Lib.hid (HS3_0.out.next hb1)
  have HB_1 := Lib.hid (bstep HB_0.out hb1)
  have hw_1 := HB_1.out.size
  have hws_1 := (hb1).size
  clear f0_0 HS0_0 hf0_0 f1_0 HS1_0 hf1_0 f2_0 HS2_0 hf2_0 f3_0 HS3_0 hf3_0
  clear hb1
  have f0_1 := str6 HS0_1.out
  have hl0_1 := HS0_1.out.lt
  have hf0_1 := fun j => HS0_1.out.frozen j
  have f1_1 := str6 HS1_1.out
  have hl1_1 := HS1_1.out.lt
  have hf1_1 := fun j => HS1_1.out.frozen j
  have f2_1 := str6 HS2_1.out
  have hl2_1 := HS2_1.out.lt
  have hf2_1 := fun j => HS2_1.out.frozen j
  have f3_1 := str6 HS3_1.out
  have hl3_1 := HS3_1.out.lt
  have hf3_1 := fun j => HS3_1.out.frozen j
  go_wp2_with fail
  refine (refuse_any 8 _).mono ?_
  rintro e W2 ⟨rfl, hb2⟩
  have HS0_2 := Lib.hid (HS0_1.out.next hb2)
  have HS1_2 := Lib.hid (HS1_1.out.next hb2)
  have HS2_2 := Lib.hid (HS2_1.out.next hb2)
  have HS3_2 := Lib.hid (HS3_1.out.next hb2)
  have HB_2 := Lib.hid (bstep HB_1.out hb2)
  have hw_2 := HB_2.out.size
  have hws_2 := (hb2).size
  clear f0_1 HS0_1 hf0_1 f1_1 HS1_1 hf1_1 f2_1 HS2_1 hf2_1 f3_1 HS3_1 hf3_1
  clear hb2
  have f0_2 := str6 HS0_2.out
  have hl0_2 := HS0_2.out.lt
  have hf0_2 := fun j => HS0_2.out.frozen j
  have f1_2 := str6 HS1_2.out
  have hl1_2 := HS1_2.out.lt
  have hf1_2 := fun j => HS1_2.out.frozen j
  have f2_2 := str6 HS2_2.out
  have hl2_2 := HS2_2.out.lt
  have hf2_2 := fun j => HS2_2.out.frozen j
  have f3_2 := str6 HS3_2.out
  have hl3_2 := HS3_2.out.lt
  have hf3_2 := fun j => HS3_2.out.frozen j
  go_wp2_with fail
  generalize hW3 : ((((((W2).setCell ⟨w.heap.size + 1 + 1, 0, none⟩ (.int .i64 0)).setCell ⟨w.heap.size + 1 + 1, 1, none⟩ (.slice none 0 0)).setCell ⟨w.heap.size + 1 + 1, 2, none⟩ (.int .i64 0)).setCell ⟨w.heap.size + 1 + 1, 3, none⟩ (.int .i64 0)).setCell ⟨w.heap.size + 1 + 1, 4, none⟩ (.int .i64 0)).setCell ⟨w.heap.size + 1 + 1, 5, none⟩ (.bool false) = W3
  have HS2_3 : Hid (Str W3 (w.heap.size + 1 + 1) #[.int .i64 0, .slice none 0 0, .int .i64 0, .int .i64 0, .int .i64 0, .bool false]) := Lib.hid (by rw [← hW3]; have := ((((((HS2_2.out).set 0 (.int .i64 0)).set 1 (.slice none 0 0)).set 2 (.int .i64 0)).set 3 (.int .i64 0)).set 4 (.int .i64 0)).set 5 (.bool false); simpa using this)
  have hgr3 : W2.grownBy W3 (some (w.heap.size + 1 + 1)) := by rw [← hW3]; exact grown_set (grown_set (grown_set (grown_set (grown_set (grown_set (grown_refl W2 (w.heap.size + 1 + 1)) 0 (_)) 1 (_)) 2 (_)) 3 (_)) 4 (_)) 5 (_)
  have HS0_3 := Lib.hid (HS0_2.out.grown hgr3 (by omega))
  have HS1_3 := Lib.hid (HS1_2.out.grown hgr3 (by omega))
  have HS3_3 := Lib.hid (HS3_2.out.grown hgr3 (by omega))
  have HB_3 := Lib.hid (below_grown HB_2.out hgr3 (by omega))
  have hw_3 := HB_3.out.size
  have hws_3 := hgr3.size
  clear hW3
  clear f0_2 HS0_2 hf0_2 f1_2 HS1_2 hf1_2 f2_2 HS2_2 hf2_2 f3_2 HS3_2 hf3_2
  clear hgr3
  have f0_3 := str6 HS0_3.out
  have hl0_3 := HS0_3.out.lt
  have hf0_3 := fun j => HS0_3.out.frozen j
  have f1_3 := str6 HS1_3.out
  have hl1_3 := HS1_3.out.lt
  have hf1_3 := fun j => HS1_3.out.frozen j
  have f2_3 := str6 HS2_3.out
  have hl2_3 := HS2_3.out.lt
  have hf2_3 := fun j => HS2_3.out.frozen j
  have f3_3 := str6 HS3_3.out
  have hl3_3 := HS3_3.out.lt
  have hf3_3 := fun j => HS3_3.out.frozen j
  generalize hW4 : ((((((W3).setCell ⟨w.heap.size + 1 + 1 + 1, 0, none⟩ (.int .i64 8)).setCell ⟨w.heap.size + 1 + 1 + 1, 1, none⟩ (.int .i64 0)).setCell ⟨w.heap.size + 1 + 1 + 1, 2, none⟩ (.slice none 0 0)).setCell ⟨w.heap.size + 1 + 1 + 1, 3, none⟩ (.int .i64 0)).setCell ⟨w.heap.size + 1 + 1 + 1, 4, none⟩ (.int .i64 0)).setCell ⟨w.heap.size + 1 + 1 + 1, 5, none⟩ (.int .i64 0) = W4
  have HS3_4 : Hid (Str W4 (w.heap.size + 1 + 1 + 1) #[.int .i64 8, .int .i64 0, .slice none 0 0, .int .i64 0, .int .i64 0, .int .i64 0]) := Lib.hid (by rw [← hW4]; have := ((((((HS3_3.out).set 0 (.int .i64 8)).set 1 (.int .i64 0)).set 2 (.slice none 0 0)).set 3 (.int .i64 0)).set 4 (.int .i64 0)).set 5 (.int .i64 0); simpa using this)
  have hgr4 : W3.grownBy W4 (some (w.heap.size + 1 + 1 + 1)) := by rw [← hW4]; exact grown_set (grown_set (grown_set (grown_set (grown_set (grown_set (grown_refl W3 (w.heap.size + 1 + 1 + 1)) 0 (_)) 1 (_)) 2 (_)) 3 (_)) 4 (_)) 5 (_)
  have HS0_4 := Lib.hid (HS0_3.out.grown hgr4 (by omega))
  have HS1_4 := Lib.hid (HS1_3.out.grown hgr4 (by omega))
  have HS2_4 := Lib.hid (HS2_3.out.grown hgr4 (by omega))
  have HB_4 := Lib.hid (below_grown HB_3.out hgr4 (by omega))
  have hw_4 := HB_4.out.size
  have hws_4 := hgr4.size
  clear hW4
  clear f0_3 HS0_3 hf0_3 f1_3 HS1_3 hf1_3 f2_3 HS2_3 hf2_3 f3_3 HS3_3 hf3_3
  clear hgr4
  have f0_4 := str6 HS0_4.out
  have hl0_4 := HS0_4.out.lt
  have hf0_4 := fun j => HS0_4.out.frozen j
  have f1_4 := str6 HS1_4.out
  have hl1_4 := HS1_4.out.lt
  have hf1_4 := fun j => HS1_4.out.frozen j
  have f2_4 := str6 HS2_4.out
  have hl2_4 := HS2_4.out.lt
  have hf2_4 := fun j => HS2_4.out.frozen j
  have f3_4 := str6 HS3_4.out
  have hl3_4 := HS3_4.out.lt
  have hf3_4 := fun j => HS3_4.out.frozen j
  exact bodyPost_ret (v := .tuple #[.agg #[.int .i64 0, .slice none 0 0, .int .i64 0, .int .i64 0, .int .i64 0, .bool false], .agg #[.int .i64 8, .int .i64 0, .slice none 0 0, .int .i64 0, .int .i64 0, .int .i64 0]]) (by simp [results, Tryz.results105, go_sem, *]) rfl ⟨none, 0, 0, none, 0, 0, rfl, BytesH.none_ _ _, BytesH.none_ _ _, HB_4.out⟩
set_option maxRecDepth 100000 in
set_option maxHeartbeats 1000000 in
theorem moveSub_ok (bs : List Nat) (act : Int) (xk : ByteArray) (Ax : Option Addr) (nx cx : Nat) (xlo xhi xn : Int) (A : Option Addr) (n c : Nat) (data : List UInt8) (lo hi va : Int) (w : World) (hbs : ∀ b ∈ bs, b < w.heap.size) (bf : Nat) (hbf : bf < w.heap.size) (hfc : w.cell? ⟨bf, 0, none⟩ = some (.func (.func 96) #[] #[])) (v1 : In64 va) (v2 : In64 xn) (hf : WideP.fits (va - xn) = true) (hl : lo ≤ va - xn) (hh : va - xn ≤ hi) :
    Calls Tryz.prog 105 #[.agg #[.int .i64 2, .slice A n c, .int .i64 lo, .int .i64 hi, .int .i64 va, .bool true], .agg #[.int .i64 act, .string xk, .slice Ax nx cx, .int .i64 xlo, .int .i64 xhi, .int .i64 xn], .pointer (some ⟨bf, 0, none⟩)] w (GivesRule bs w (0, some ⟨2, [], lo, hi, va - xn⟩, CellP.none)) := by
  have HF := Lib.hid hf
  have HN : Hid (WideP.num (va - xn) = va - xn) := Lib.hid (by unfold WideP.num; rw [hf]; rfl)
  clear hf
  have hl1 : ¬ va - xn < lo := by omega
  have hh1 : ¬ hi < va - xn := by omega
  have hb1 : bf < w.heap.size + 1 := by omega
  have hb2 : bf < w.heap.size + 1 + 1 := by omega
  have hb3 : bf < w.heap.size + 1 + 1 + 1 := by omega
  go_enter Tryz.func105, Tryz.ntmps105
  go_wp2_with fail
  generalize hW0 : ((((w).alloc (.cells #[.int .i64 2, .slice A n c, .int .i64 lo, .int .i64 hi, .int .i64 va, .bool true] 122)).alloc (.cells #[.int .i64 act, .string xk, .slice Ax nx cx, .int .i64 xlo, .int .i64 xhi, .int .i64 xn] 62)).alloc (.cells #[.int .i64 0, .slice none 0 0, .int .i64 0, .int .i64 0, .int .i64 0, .bool false] 122)).alloc (.cells #[.int .i64 0, .int .i64 0, .slice none 0 0, .int .i64 0, .int .i64 0, .int .i64 0] 58) = W0
  obtain ⟨HS0_0, HS1_0, HS2_0, HS3_0, HB_0, hw_0, hz0⟩ := new4 hW0
  clear hW0 hz0
  have f0_0 := str6 HS0_0.out
  have hl0_0 := HS0_0.out.lt
  have hf0_0 := fun j => HS0_0.out.frozen j
  have f1_0 := str6 HS1_0.out
  have hl1_0 := HS1_0.out.lt
  have hf1_0 := fun j => HS1_0.out.frozen j
  have f2_0 := str6 HS2_0.out
  have hl2_0 := HS2_0.out.lt
  have hf2_0 := fun j => HS2_0.out.frozen j
  have f3_0 := str6 HS3_0.out
  have hl3_0 := HS3_0.out.lt
  have hf3_0 := fun j => HS3_0.out.frozen j
  clear hfc
  go_wp2_with fail
  refine (WideW.sub_any va xn v1.1 v1.2 v2.1 v2.2 _).mono ?_
  rintro e W1 ⟨rfl, hb1⟩
  rw [HF.out, HN.out]
  have HS0_1 := Lib.hid (HS0_0.out.next hb1)
  have HS1_1 := Lib.hid (HS1_0.out.next hb1)
  have HS2_1 := Lib.hid (HS2_0.out.next hb1)
  have HS3_1 := Lib.hid (HS3_0.out.next hb1)
  have HB_1 := Lib.hid (bstep HB_0.out hb1)
  have hw_1 := HB_1.out.size
  have hws_1 := (hb1).size
  clear f0_0 HS0_0 hf0_0 f1_0 HS1_0 hf1_0 f2_0 HS2_0 hf2_0 f3_0 HS3_0 hf3_0
  clear hb1
  have f0_1 := str6 HS0_1.out
  have hl0_1 := HS0_1.out.lt
  have hf0_1 := fun j => HS0_1.out.frozen j
  have f1_1 := str6 HS1_1.out
  have hl1_1 := HS1_1.out.lt
  have hf1_1 := fun j => HS1_1.out.frozen j
  have f2_1 := str6 HS2_1.out
  have hl2_1 := HS2_1.out.lt
  have hf2_1 := fun j => HS2_1.out.frozen j
  have f3_1 := str6 HS3_1.out
  have hl3_1 := HS3_1.out.lt
  have hf3_1 := fun j => HS3_1.out.frozen j
  go_wp2_with fail
  refine (counter_any lo hi (va - xn) _).mono ?_
  rintro e W2 ⟨rfl, hb2⟩
  have HS0_2 := Lib.hid (HS0_1.out.next hb2)
  have HS1_2 := Lib.hid (HS1_1.out.next hb2)
  have HS2_2 := Lib.hid (HS2_1.out.next hb2)
  have HS3_2 := Lib.hid (HS3_1.out.next hb2)
  have HB_2 := Lib.hid (bstep HB_1.out hb2)
  have hw_2 := HB_2.out.size
  have hws_2 := (hb2).size
  clear f0_1 HS0_1 hf0_1 f1_1 HS1_1 hf1_1 f2_1 HS2_1 hf2_1 f3_1 HS3_1 hf3_1
  clear hb2
  have f0_2 := str6 HS0_2.out
  have hl0_2 := HS0_2.out.lt
  have hf0_2 := fun j => HS0_2.out.frozen j
  have f1_2 := str6 HS1_2.out
  have hl1_2 := HS1_2.out.lt
  have hf1_2 := fun j => HS1_2.out.frozen j
  have f2_2 := str6 HS2_2.out
  have hl2_2 := HS2_2.out.lt
  have hf2_2 := fun j => HS2_2.out.frozen j
  have f3_2 := str6 HS3_2.out
  have hl3_2 := HS3_2.out.lt
  have hf3_2 := fun j => HS3_2.out.frozen j
  go_wp2_with fail
  generalize hW3 : ((((((W2).setCell ⟨w.heap.size + 1 + 1, 0, none⟩ (.int .i64 2)).setCell ⟨w.heap.size + 1 + 1, 1, none⟩ (.slice none 0 0)).setCell ⟨w.heap.size + 1 + 1, 2, none⟩ (.int .i64 lo)).setCell ⟨w.heap.size + 1 + 1, 3, none⟩ (.int .i64 hi)).setCell ⟨w.heap.size + 1 + 1, 4, none⟩ (.int .i64 (va - xn))).setCell ⟨w.heap.size + 1 + 1, 5, none⟩ (.bool true) = W3
  have HS2_3 : Hid (Str W3 (w.heap.size + 1 + 1) #[.int .i64 2, .slice none 0 0, .int .i64 lo, .int .i64 hi, .int .i64 (va - xn), .bool true]) := Lib.hid (by rw [← hW3]; have := ((((((HS2_2.out).set 0 (.int .i64 2)).set 1 (.slice none 0 0)).set 2 (.int .i64 lo)).set 3 (.int .i64 hi)).set 4 (.int .i64 (va - xn))).set 5 (.bool true); simpa using this)
  have hgr3 : W2.grownBy W3 (some (w.heap.size + 1 + 1)) := by rw [← hW3]; exact grown_set (grown_set (grown_set (grown_set (grown_set (grown_set (grown_refl W2 (w.heap.size + 1 + 1)) 0 (_)) 1 (_)) 2 (_)) 3 (_)) 4 (_)) 5 (_)
  have HS0_3 := Lib.hid (HS0_2.out.grown hgr3 (by omega))
  have HS1_3 := Lib.hid (HS1_2.out.grown hgr3 (by omega))
  have HS3_3 := Lib.hid (HS3_2.out.grown hgr3 (by omega))
  have HB_3 := Lib.hid (below_grown HB_2.out hgr3 (by omega))
  have hw_3 := HB_3.out.size
  have hws_3 := hgr3.size
  clear hW3
  clear f0_2 HS0_2 hf0_2 f1_2 HS1_2 hf1_2 f2_2 HS2_2 hf2_2 f3_2 HS3_2 hf3_2
  clear hgr3
  have f0_3 := str6 HS0_3.out
  have hl0_3 := HS0_3.out.lt
  have hf0_3 := fun j => HS0_3.out.frozen j
  have f1_3 := str6 HS1_3.out
  have hl1_3 := HS1_3.out.lt
  have hf1_3 := fun j => HS1_3.out.frozen j
  have f2_3 := str6 HS2_3.out
  have hl2_3 := HS2_3.out.lt
  have hf2_3 := fun j => HS2_3.out.frozen j
  have f3_3 := str6 HS3_3.out
  have hl3_3 := HS3_3.out.lt
  have hf3_3 := fun j => HS3_3.out.frozen j
  generalize hW4 : ((((((W3).setCell ⟨w.heap.size + 1 + 1 + 1, 0, none⟩ (.int .i64 0)).setCell ⟨w.heap.size + 1 + 1 + 1, 1, none⟩ (.int .i64 0)).setCell ⟨w.heap.size + 1 + 1 + 1, 2, none⟩ (.slice none 0 0)).setCell ⟨w.heap.size + 1 + 1 + 1, 3, none⟩ (.int .i64 0)).setCell ⟨w.heap.size + 1 + 1 + 1, 4, none⟩ (.int .i64 0)).setCell ⟨w.heap.size + 1 + 1 + 1, 5, none⟩ (.int .i64 0) = W4
  have HS3_4 : Hid (Str W4 (w.heap.size + 1 + 1 + 1) #[.int .i64 0, .int .i64 0, .slice none 0 0, .int .i64 0, .int .i64 0, .int .i64 0]) := Lib.hid (by rw [← hW4]; have := ((((((HS3_3.out).set 0 (.int .i64 0)).set 1 (.int .i64 0)).set 2 (.slice none 0 0)).set 3 (.int .i64 0)).set 4 (.int .i64 0)).set 5 (.int .i64 0); simpa using this)
  have hgr4 : W3.grownBy W4 (some (w.heap.size + 1 + 1 + 1)) := by rw [← hW4]; exact grown_set (grown_set (grown_set (grown_set (grown_set (grown_set (grown_refl W3 (w.heap.size + 1 + 1 + 1)) 0 (_)) 1 (_)) 2 (_)) 3 (_)) 4 (_)) 5 (_)
  have HS0_4 := Lib.hid (HS0_3.out.grown hgr4 (by omega))
  have HS1_4 := Lib.hid (HS1_3.out.grown hgr4 (by omega))
  have HS2_4 := Lib.hid (HS2_3.out.grown hgr4 (by omega))
  have HB_4 := Lib.hid (below_grown HB_3.out hgr4 (by omega))
  have hw_4 := HB_4.out.size
  have hws_4 := hgr4.size
  clear hW4
  clear f0_3 HS0_3 hf0_3 f1_3 HS1_3 hf1_3 f2_3 HS2_3 hf2_3 f3_3 HS3_3 hf3_3
  clear hgr4
  have f0_4 := str6 HS0_4.out
  have hl0_4 := HS0_4.out.lt
  have hf0_4 := fun j => HS0_4.out.frozen j
  have f1_4 := str6 HS1_4.out
  have hl1_4 := HS1_4.out.lt
  have hf1_4 := fun j => HS1_4.out.frozen j
  have f2_4 := str6 HS2_4.out
  have hl2_4 := HS2_4.out.lt
  have hf2_4 := fun j => HS2_4.out.frozen j
  have f3_4 := str6 HS3_4.out
  have hl3_4 := HS3_4.out.lt
  have hf3_4 := fun j => HS3_4.out.frozen j
  exact bodyPost_ret (v := .tuple #[.agg #[.int .i64 2, .slice none 0 0, .int .i64 lo, .int .i64 hi, .int .i64 (va - xn), .bool true], .agg #[.int .i64 0, .int .i64 0, .slice none 0 0, .int .i64 0, .int .i64 0, .int .i64 0]]) (by simp [results, Tryz.results105, go_sem, *]) rfl ⟨none, 0, 0, none, 0, 0, rfl, BytesH.none_ _ _, BytesH.none_ _ _, HB_4.out⟩
set_option maxHeartbeats 400000 in
theorem move_any (f : FuncId) (w : World) : Calls Tryz.prog 94 #[.func (.func f) #[] #[]] w fun e w' => e = .returned (.func (.func 105) #[] #[.pointer (some ⟨w.heap.size, 0, none⟩)]) ∧ w' = w.alloc (.cells #[.func (.func f) #[] #[]] 144) := by
  go_enter Tryz.func94, Tryz.ntmps94
  go_wp2
  go_ret
  exact ⟨rfl, rfl⟩
/-- what rules tells: where the two sums lie -/
def rulesV (b c : Nat) : Array Value := #[.func (.func 90) #[] #[], .func (.func 91) #[] #[], .func (.func 92) #[] #[], .func (.func 93) #[] #[], .func (.func 105) #[] #[.pointer (some ⟨b, 0, none⟩)], .func (.func 105) #[] #[.pointer (some ⟨c, 0, none⟩)]]
set_option maxRecDepth 100000 in
set_option maxHeartbeats 1000000 in
theorem rules_any (w : World) : Calls Tryz.prog 75 #[] w fun e w' => ∃ b c, e = .returned (.agg (rulesV b c)) ∧ w.heap.size ≤ b ∧ w.heap.size ≤ c ∧ Str w' b #[.func (.func 95) #[] #[]] ∧ Str w' c #[.func (.func 96) #[] #[]] ∧ Below w.heap.size w w' := by
  go_enter Tryz.func75, Tryz.ntmps75
  go_wp2_with fail
  refine (move_any _ _).mono ?_
  rintro e w1 ⟨rfl, rfl⟩
  go_wp2_with fail
  refine (move_any _ _).mono ?_
  rintro e w1 ⟨rfl, rfl⟩
  go_wp2_with fail
  exact bodyPost_ret (v := .agg (rulesV (w.heap.size + 1) (w.heap.size + 1 + 1))) (by simp [results, Tryz.results75, go_sem, rulesV]) rfl ⟨_, _, rfl, by omega, by omega, by have := (Str.new (w.alloc (.cells (rulesV (w.heap.size + 1) (w.heap.size + 1 + 1)) 127)) #[.func (.func 95) #[] #[]] 144).alloc (.cells #[.func (.func 96) #[] #[]] 144); simpa [rulesV] using this, by have := (Str.new ((w.alloc (.cells (rulesV (w.heap.size + 1) (w.heap.size + 1 + 1)) 127)).alloc (.cells #[.func (.func 95) #[] #[]] 144)) #[.func (.func 96) #[] #[]] 144); simpa [rulesV] using this, balloc (balloc (balloc (bsame w) _) _) _⟩
theorem does0 (bs : List Nat) (t : Option Cell) (A : Option Addr) (n c : Nat) (xk : ByteArray) (xdata : List UInt8) (Ax : Option Addr) (nx cx : Nat) (xlo xhi xn : Int) (w : World) (hbs : ∀ b ∈ bs, b < w.heap.size) (h : BytesH bs w A n c (t.elim [] (·.data))) (hn : n ≤ 100000) : Calls Tryz.prog 90 #[.agg (thingV A n c t), .agg #[.int .i64 0, .string xk, .slice Ax nx cx, .int .i64 xlo, .int .i64 xhi, .int .i64 xn]] w (GivesRule bs w (ModelP.rule t ⟨0, xk, xdata, xlo, xhi, xn⟩)) := by
  cases t with
  | none =>
    exact read_none bs 0 xk Ax nx cx xlo xhi xn w hbs
  | some c0 =>
    obtain ⟨kd, data, lo, hi, va⟩ := c0
    exact read_some bs 0 xk Ax nx cx xlo xhi xn A n c kd data lo hi va w hbs h hn
theorem does1 (bs : List Nat) (t : Option Cell) (A : Option Addr) (n c : Nat) (xk : ByteArray) (xdata : List UInt8) (Ax : Option Addr) (nx cx : Nat) (xlo xhi xn : Int) (w : World) (hbs : ∀ b ∈ bs, b < w.heap.size) (h : BytesH bs w A n c (t.elim [] (·.data))) (hn : n ≤ 100000) (B : Nat) (hx : Bytes w B Ax nx cx xdata) (hB : B ≤ w.heap.size) (hnx : nx ≤ 100000) : Calls Tryz.prog 91 #[.agg (thingV A n c t), .agg #[.int .i64 1, .string xk, .slice Ax nx cx, .int .i64 xlo, .int .i64 xhi, .int .i64 xn]] w (GivesRule bs w (ModelP.rule t ⟨1, xk, xdata, xlo, xhi, xn⟩)) := by
  cases t with
  | none =>
    exact write_none bs 1 xk Ax nx cx xlo xhi xn w hbs xdata B hx hB hnx
  | some c0 =>
    obtain ⟨kd, data, lo, hi, va⟩ := c0
    by_cases hk : kd = 2
    · subst hk
      have e : ModelP.rule (some ⟨2, data, lo, hi, va⟩) ⟨1, xk, xdata, xlo, xhi, xn⟩ = (6, none, CellP.none) := by simp [ModelP.rule]
      rw [e]
      exact write_counter bs 1 xk Ax nx cx xlo xhi xn A n c data lo hi va w hbs h hn
    · have e : ModelP.rule (some ⟨kd, data, lo, hi, va⟩) ⟨1, xk, xdata, xlo, xhi, xn⟩ = (0, some ⟨1, xdata, 0, 0, 0⟩, CellP.none) := by simp [ModelP.rule, hk]
      rw [e]
      exact write_some bs 1 xk Ax nx cx xlo xhi xn A n c kd data lo hi va w hbs h hn xdata B hx hB hnx hk
theorem does2 (bs : List Nat) (t : Option Cell) (A : Option Addr) (n c : Nat) (xk : ByteArray) (xdata : List UInt8) (Ax : Option Addr) (nx cx : Nat) (xlo xhi xn : Int) (w : World) (hbs : ∀ b ∈ bs, b < w.heap.size) (h : BytesH bs w A n c (t.elim [] (·.data))) (hn : n ≤ 100000) : Calls Tryz.prog 92 #[.agg (thingV A n c t), .agg #[.int .i64 2, .string xk, .slice Ax nx cx, .int .i64 xlo, .int .i64 xhi, .int .i64 xn]] w (GivesRule bs w (ModelP.rule t ⟨2, xk, xdata, xlo, xhi, xn⟩)) := by
  cases t with
  | none =>
    exact create_none bs 2 xk Ax nx cx xlo xhi xn w hbs
  | some c0 =>
    obtain ⟨kd, data, lo, hi, va⟩ := c0
    exact create_some bs 2 xk Ax nx cx xlo xhi xn A n c kd data lo hi va w hbs h hn
theorem does3 (bs : List Nat) (t : Option Cell) (A : Option Addr) (n c : Nat) (xk : ByteArray) (xdata : List UInt8) (Ax : Option Addr) (nx cx : Nat) (xlo xhi xn : Int) (w : World) (hbs : ∀ b ∈ bs, b < w.heap.size) (h : BytesH bs w A n c (t.elim [] (·.data))) (hn : n ≤ 100000) : Calls Tryz.prog 93 #[.agg (thingV A n c t), .agg #[.int .i64 3, .string xk, .slice Ax nx cx, .int .i64 xlo, .int .i64 xhi, .int .i64 xn]] w (GivesRule bs w (ModelP.rule t ⟨3, xk, xdata, xlo, xhi, xn⟩)) := by
  cases t with
  | none =>
    exact drop_none bs 3 xk Ax nx cx xlo xhi xn w hbs
  | some c0 =>
    obtain ⟨kd, data, lo, hi, va⟩ := c0
    exact drop_some bs 3 xk Ax nx cx xlo xhi xn A n c kd data lo hi va w hbs h hn
theorem does4 (bs : List Nat) (t : Option Cell) (A : Option Addr) (n c : Nat) (xk : ByteArray) (xdata : List UInt8) (Ax : Option Addr) (nx cx : Nat) (xlo xhi xn : Int) (w : World) (hbs : ∀ b ∈ bs, b < w.heap.size) (h : BytesH bs w A n c (t.elim [] (·.data))) (hn : n ≤ 100000) (bf : Nat) (hbf : bf < w.heap.size) (hfc : w.cell? ⟨bf, 0, none⟩ = some (.func (.func 95) #[] #[])) (v2 : In64 xn) (v1 : ∀ c0, t = some c0 → In64 c0.val ∧ In64 c0.lo ∧ In64 c0.hi) : Calls Tryz.prog 105 #[.agg (thingV A n c t), .agg #[.int .i64 4, .string xk, .slice Ax nx cx, .int .i64 xlo, .int .i64 xhi, .int .i64 xn], .pointer (some ⟨bf, 0, none⟩)] w (GivesRule bs w (ModelP.rule t ⟨4, xk, xdata, xlo, xhi, xn⟩)) := by
  cases t with
  | none =>
    exact moveAdd_none bs 4 xk Ax nx cx xlo xhi xn w hbs bf hbf hfc
  | some c0 =>
    obtain ⟨kd, data, lo, hi, va⟩ := c0
    obtain ⟨u1, v3, v4⟩ := v1 _ rfl
    clear v1
    dsimp only at u1 v3 v4
    by_cases hk : kd = 2
    · subst hk
      by_cases hf : WideP.fits (va + xn) = true
      · by_cases hl : va + xn < lo
        · have e : ModelP.rule (some ⟨2, data, lo, hi, va⟩) ⟨4, xk, xdata, xlo, xhi, xn⟩ = (8, none, CellP.none) := by simp [ModelP.rule, hl]
          rw [e]
          exact moveAdd_low bs 4 xk Ax nx cx xlo xhi xn A n c data lo hi va w hbs bf hbf hfc u1 v2 hf hl
        · by_cases hh : hi < va + xn
          · have e : ModelP.rule (some ⟨2, data, lo, hi, va⟩) ⟨4, xk, xdata, xlo, xhi, xn⟩ = (8, none, CellP.none) := by simp [ModelP.rule, hh]
            rw [e]
            exact moveAdd_high bs 4 xk Ax nx cx xlo xhi xn A n c data lo hi va w hbs bf hbf hfc u1 v2 hf (by omega) hh
          · have e : ModelP.rule (some ⟨2, data, lo, hi, va⟩) ⟨4, xk, xdata, xlo, xhi, xn⟩ = (0, some ⟨2, [], lo, hi, va + xn⟩, CellP.none) := by simp [ModelP.rule, hh, hl]
            rw [e]
            exact moveAdd_ok bs 4 xk Ax nx cx xlo xhi xn A n c data lo hi va w hbs bf hbf hfc u1 v2 hf (by omega) (by omega)
      · have hc : va + xn < lo ∨ hi < va + xn := by
          unfold WideP.fits In64 at *
          simp only [Bool.and_eq_true, decide_eq_true_eq] at hf
          omega
        have e : ModelP.rule (some ⟨2, data, lo, hi, va⟩) ⟨4, xk, xdata, xlo, xhi, xn⟩ = (8, none, CellP.none) := by simp [ModelP.rule, hc]
        rw [e]
        exact moveAdd_unfit bs 4 xk Ax nx cx xlo xhi xn A n c data lo hi va w hbs bf hbf hfc u1 v2 (by simpa using hf)
    · have e : ModelP.rule (some ⟨kd, data, lo, hi, va⟩) ⟨4, xk, xdata, xlo, xhi, xn⟩ = (6, none, CellP.none) := by simp [ModelP.rule, hk]
      rw [e]
      exact moveAdd_rec bs 4 xk Ax nx cx xlo xhi xn A n c kd data lo hi va w hbs bf hbf hfc hk
theorem does5 (bs : List Nat) (t : Option Cell) (A : Option Addr) (n c : Nat) (xk : ByteArray) (xdata : List UInt8) (Ax : Option Addr) (nx cx : Nat) (xlo xhi xn : Int) (w : World) (hbs : ∀ b ∈ bs, b < w.heap.size) (h : BytesH bs w A n c (t.elim [] (·.data))) (hn : n ≤ 100000) (bf : Nat) (hbf : bf < w.heap.size) (hfc : w.cell? ⟨bf, 0, none⟩ = some (.func (.func 96) #[] #[])) (v2 : In64 xn) (v1 : ∀ c0, t = some c0 → In64 c0.val ∧ In64 c0.lo ∧ In64 c0.hi) : Calls Tryz.prog 105 #[.agg (thingV A n c t), .agg #[.int .i64 5, .string xk, .slice Ax nx cx, .int .i64 xlo, .int .i64 xhi, .int .i64 xn], .pointer (some ⟨bf, 0, none⟩)] w (GivesRule bs w (ModelP.rule t ⟨5, xk, xdata, xlo, xhi, xn⟩)) := by
  cases t with
  | none =>
    exact moveSub_none bs 5 xk Ax nx cx xlo xhi xn w hbs bf hbf hfc
  | some c0 =>
    obtain ⟨kd, data, lo, hi, va⟩ := c0
    obtain ⟨u1, v3, v4⟩ := v1 _ rfl
    clear v1
    dsimp only at u1 v3 v4
    by_cases hk : kd = 2
    · subst hk
      by_cases hf : WideP.fits (va - xn) = true
      · by_cases hl : va - xn < lo
        · have e : ModelP.rule (some ⟨2, data, lo, hi, va⟩) ⟨5, xk, xdata, xlo, xhi, xn⟩ = (8, none, CellP.none) := by simp [ModelP.rule, hl]
          rw [e]
          exact moveSub_low bs 5 xk Ax nx cx xlo xhi xn A n c data lo hi va w hbs bf hbf hfc u1 v2 hf hl
        · by_cases hh : hi < va - xn
          · have e : ModelP.rule (some ⟨2, data, lo, hi, va⟩) ⟨5, xk, xdata, xlo, xhi, xn⟩ = (8, none, CellP.none) := by simp [ModelP.rule, hh]
            rw [e]
            exact moveSub_high bs 5 xk Ax nx cx xlo xhi xn A n c data lo hi va w hbs bf hbf hfc u1 v2 hf (by omega) hh
          · have e : ModelP.rule (some ⟨2, data, lo, hi, va⟩) ⟨5, xk, xdata, xlo, xhi, xn⟩ = (0, some ⟨2, [], lo, hi, va - xn⟩, CellP.none) := by simp [ModelP.rule, hh, hl]
            rw [e]
            exact moveSub_ok bs 5 xk Ax nx cx xlo xhi xn A n c data lo hi va w hbs bf hbf hfc u1 v2 hf (by omega) (by omega)
      · have hc : va - xn < lo ∨ hi < va - xn := by
          unfold WideP.fits In64 at *
          simp only [Bool.and_eq_true, decide_eq_true_eq] at hf
          omega
        have e : ModelP.rule (some ⟨2, data, lo, hi, va⟩) ⟨5, xk, xdata, xlo, xhi, xn⟩ = (8, none, CellP.none) := by simp [ModelP.rule, hc]
        rw [e]
        exact moveSub_unfit bs 5 xk Ax nx cx xlo xhi xn A n c data lo hi va w hbs bf hbf hfc u1 v2 (by simpa using hf)
    · have e : ModelP.rule (some ⟨kd, data, lo, hi, va⟩) ⟨5, xk, xdata, xlo, xhi, xn⟩ = (6, none, CellP.none) := by simp [ModelP.rule, hk]
      rw [e]
      exact moveSub_rec bs 5 xk Ax nx cx xlo xhi xn A n c kd data lo hi va w hbs bf hbf hfc hk
end Go.Proofs.YtpklclnehlgcpaaGreat.ModelW
end
