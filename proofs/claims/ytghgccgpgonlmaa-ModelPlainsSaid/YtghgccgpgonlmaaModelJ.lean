/-
  What counts of an operation: the program's and the reference's.
-/
import Derived.Test.YtghgccgpgonlmaaModelH
import Derived.RegionTactic
namespace Go.Proofs.Ytghgccgpgonlmaa.ModelW
open Go.RowKit
set_option linter.unusedVariables false
/-- the call hands back an operation -/
def GivesOp (w : World) (x : OpX) (e : Ending) (w' : World) : Prop := ∃ A n c, e = .returned (.agg (opV x A n c).toArray) ∧ Bytes w' w'.heap.size A n c x.data ∧ Below w.heap.size w w'
set_option maxRecDepth 100000 in
set_option maxHeartbeats 1000000 in
theorem Plain_1 (xk : ByteArray) (xdata : List UInt8) (Ax : Option Addr) (nx cx Bx : Nat) (xlo xhi xn : Int) (w : World) (hx : Bytes w Bx Ax nx cx xdata) (hBx : Bx ≤ w.heap.size) (hnx : nx ≤ 100000) :
    Calls Try.prog 18 #[.agg #[.int .i64 1, .string xk, .slice Ax nx cx, .int .i64 xlo, .int .i64 xhi, .int .i64 xn]] w (GivesOp w (ModelP.plain ⟨1, xk, xdata, xlo, xhi, xn⟩)) := by
  have H := Lib.hid hx
  clear hx
  have HE : Hid (ModelP.plain ⟨1, xk, xdata, xlo, xhi, xn⟩ = ⟨1, xk, xdata, 0, 0, 0⟩) := Lib.hid (by simp [ModelP.plain])
  rw [HE.out]
  clear HE
  go_enter Try.func18, Try.ntmps18
  go_wp2_with fail
  generalize hW0 : ((w).alloc (.cells #[.int .i64 1, .string xk, .slice Ax nx cx, .int .i64 xlo, .int .i64 xhi, .int .i64 xn] 24)).alloc (.cells #[.int .i64 0, .string ⟨#[]⟩, .slice none 0 0, .int .i64 0, .int .i64 0, .int .i64 0] 24) = W0
  have HS0_0 : Hid (Str W0 (w.heap.size) #[.int .i64 1, .string xk, .slice Ax nx cx, .int .i64 xlo, .int .i64 xhi, .int .i64 xn]) := Lib.hid (by rw [← hW0]; have := (Str.new (w) #[.int .i64 1, .string xk, .slice Ax nx cx, .int .i64 xlo, .int .i64 xhi, .int .i64 xn] 24).alloc (.cells #[.int .i64 0, .string ⟨#[]⟩, .slice none 0 0, .int .i64 0, .int .i64 0, .int .i64 0] 24); simpa using this)
  have HS1_0 : Hid (Str W0 (w.heap.size + 1) #[.int .i64 0, .string ⟨#[]⟩, .slice none 0 0, .int .i64 0, .int .i64 0, .int .i64 0]) := Lib.hid (by rw [← hW0]; have := Str.new ((w).alloc (.cells #[.int .i64 1, .string xk, .slice Ax nx cx, .int .i64 xlo, .int .i64 xhi, .int .i64 xn] 24)) #[.int .i64 0, .string ⟨#[]⟩, .slice none 0 0, .int .i64 0, .int .i64 0, .int .i64 0] 24; simpa using this)
  have HB_0 : Hid (Below w.heap.size w W0) := Lib.hid (by rw [← hW0]; exact balloc (balloc (bsame w) _) _)
  have hw_0 := HB_0.out.size
  have hz0 : W0.heap.size = w.heap.size + 1 + 1 := by rw [← hW0]; simp
  clear hW0
  obtain ⟨f0_0_0, f0_0_1, f0_0_2, f0_0_3, f0_0_4, f0_0_5⟩ := str6 HS0_0.out
  have hl0_0 := HS0_0.out.lt
  have hf0_0 := fun j => HS0_0.out.frozen j
  obtain ⟨f1_0_0, f1_0_1, f1_0_2, f1_0_3, f1_0_4, f1_0_5⟩ := str6 HS1_0.out
  have hl1_0 := HS1_0.out.lt
  have hf1_0 := fun j => HS1_0.out.frozen j
  generalize hW1 : W0.alloc (.cells #[.int .i64 1, .string xk, .slice none 0 0, .int .i64 0, .int .i64 0, .int .i64 0] 24) = W1
  have HS0_1 : Hid (Str W1 (w.heap.size) #[.int .i64 1, .string xk, .slice Ax nx cx, .int .i64 xlo, .int .i64 xhi, .int .i64 xn]) := Lib.hid (by rw [← hW1]; exact HS0_0.out.alloc _)
  have HS1_1 : Hid (Str W1 (w.heap.size + 1) #[.int .i64 0, .string ⟨#[]⟩, .slice none 0 0, .int .i64 0, .int .i64 0, .int .i64 0]) := Lib.hid (by rw [← hW1]; exact HS1_0.out.alloc _)
  have HS2_1 : Hid (Str W1 W0.heap.size #[.int .i64 1, .string xk, .slice none 0 0, .int .i64 0, .int .i64 0, .int .i64 0]) := Lib.hid (by rw [← hW1]; exact Str.new W0 #[.int .i64 1, .string xk, .slice none 0 0, .int .i64 0, .int .i64 0, .int .i64 0] 24)
  have hba1 : Below W0.heap.size W0 W1 := by rw [← hW1]; exact balloc (bsame _) _
  have HB_1 := Lib.hid (bstep HB_0.out hba1)
  have hw_1 := HB_1.out.size
  have hws_1 := hba1.size
  clear hW1
  clear f0_0_0 f0_0_1 f0_0_2 f0_0_3 f0_0_4 f0_0_5 HS0_0 hf0_0 f1_0_0 f1_0_1 f1_0_2 f1_0_3 f1_0_4 f1_0_5 HS1_0 hf1_0
  obtain ⟨f0_1_0, f0_1_1, f0_1_2, f0_1_3, f0_1_4, f0_1_5⟩ := str6 HS0_1.out
  have hl0_1 := HS0_1.out.lt
  have hf0_1 := fun j => HS0_1.out.frozen j
  obtain ⟨f1_1_0, f1_1_1, f1_1_2, f1_1_3, f1_1_4, f1_1_5⟩ := str6 HS1_1.out
  have hl1_1 := HS1_1.out.lt
  have hf1_1 := fun j => HS1_1.out.frozen j
  obtain ⟨f2_1_0, f2_1_1, f2_1_2, f2_1_3, f2_1_4, f2_1_5⟩ := str6 HS2_1.out
  have hl2_1 := HS2_1.out.lt
  have hf2_1 := fun j => HS2_1.out.frozen j
  simp only [hz0] at *
  refine (copyData_any [] Ax nx cx Bx xdata _ (by intro b hb; cases hb) (H.out.below (HB_1.out.mono hBx)) (by omega) hnx).mono ?_
  rintro e W2 ⟨A1, n1, c1, rfl, hy1, hb2⟩
  have HS0_2 := Lib.hid (HS0_1.out.next hb2)
  have HS1_2 := Lib.hid (HS1_1.out.next hb2)
  have HS2_2 := Lib.hid (HS2_1.out.next hb2)
  have HB_2 := Lib.hid (bstep HB_1.out hb2)
  have hw_2 := HB_2.out.size
  have hws_2 := (hb2).size
  clear f0_1_0 f0_1_1 f0_1_2 f0_1_3 f0_1_4 f0_1_5 HS0_1 hf0_1 f1_1_0 f1_1_1 f1_1_2 f1_1_3 f1_1_4 f1_1_5 HS1_1 hf1_1 f2_1_0 f2_1_1 f2_1_2 f2_1_3 f2_1_4 f2_1_5 HS2_1 hf2_1
  clear hb2
  obtain ⟨f0_2_0, f0_2_1, f0_2_2, f0_2_3, f0_2_4, f0_2_5⟩ := str6 HS0_2.out
  have hl0_2 := HS0_2.out.lt
  have hf0_2 := fun j => HS0_2.out.frozen j
  obtain ⟨f1_2_0, f1_2_1, f1_2_2, f1_2_3, f1_2_4, f1_2_5⟩ := str6 HS1_2.out
  have hl1_2 := HS1_2.out.lt
  have hf1_2 := fun j => HS1_2.out.frozen j
  obtain ⟨f2_2_0, f2_2_1, f2_2_2, f2_2_3, f2_2_4, f2_2_5⟩ := str6 HS2_2.out
  have hl2_2 := HS2_2.out.lt
  have hf2_2 := fun j => HS2_2.out.frozen j
  have HYa_2 := Lib.hid (hy1.bytes)
  clear hy1
  go_wp2_with fail
  generalize hW3 : (W2).setCell ⟨w.heap.size + 1 + 1, 2, none⟩ (.slice A1 n1 c1) = W3
  have HS0_3 : Hid (Str W3 (w.heap.size) #[.int .i64 1, .string xk, .slice Ax nx cx, .int .i64 xlo, .int .i64 xhi, .int .i64 xn]) := Lib.hid (by rw [← hW3]; exact (HS0_2.out).other 2 _ (by omega))
  have HS1_3 : Hid (Str W3 (w.heap.size + 1) #[.int .i64 0, .string ⟨#[]⟩, .slice none 0 0, .int .i64 0, .int .i64 0, .int .i64 0]) := Lib.hid (by rw [← hW3]; exact (HS1_2.out).other 2 _ (by omega))
  have HS2_3 : Hid (Str W3 (w.heap.size + 1 + 1) #[.int .i64 1, .string xk, .slice A1 n1 c1, .int .i64 0, .int .i64 0, .int .i64 0]) := Lib.hid (by rw [← hW3]; have := (HS2_2.out).set 2 (.slice A1 n1 c1); simpa using this)
  have hgr3 : W2.grownBy W3 (some (w.heap.size + 1 + 1)) := by rw [← hW3]; exact grown_set (grown_refl W2 (w.heap.size + 1 + 1)) 2 (.slice A1 n1 c1)
  have HB_3 := Lib.hid (below_grown HB_2.out hgr3 (by omega))
  have hw_3 := HB_3.out.size
  have hws_3 := hgr3.size
  have HYa_3 := Lib.hid ((Bytes.grown HYa_2.out (Nat.le_refl _) HS2_2.out rfl hgr3).more hws_3)
  clear HYa_2
  clear hW3
  clear f0_2_0 f0_2_1 f0_2_2 f0_2_3 f0_2_4 f0_2_5 HS0_2 hf0_2 f1_2_0 f1_2_1 f1_2_2 f1_2_3 f1_2_4 f1_2_5 HS1_2 hf1_2 f2_2_0 f2_2_1 f2_2_2 f2_2_3 f2_2_4 f2_2_5 HS2_2 hf2_2
  clear hgr3
  obtain ⟨f0_3_0, f0_3_1, f0_3_2, f0_3_3, f0_3_4, f0_3_5⟩ := str6 HS0_3.out
  have hl0_3 := HS0_3.out.lt
  have hf0_3 := fun j => HS0_3.out.frozen j
  obtain ⟨f1_3_0, f1_3_1, f1_3_2, f1_3_3, f1_3_4, f1_3_5⟩ := str6 HS1_3.out
  have hl1_3 := HS1_3.out.lt
  have hf1_3 := fun j => HS1_3.out.frozen j
  obtain ⟨f2_3_0, f2_3_1, f2_3_2, f2_3_3, f2_3_4, f2_3_5⟩ := str6 HS2_3.out
  have hl2_3 := HS2_3.out.lt
  have hf2_3 := fun j => HS2_3.out.frozen j
  generalize hW4 : ((((((W3).setCell ⟨w.heap.size + 1, 0, none⟩ (.int .i64 1)).setCell ⟨w.heap.size + 1, 1, none⟩ (.string xk)).setCell ⟨w.heap.size + 1, 2, none⟩ (.slice A1 n1 c1)).setCell ⟨w.heap.size + 1, 3, none⟩ (.int .i64 0)).setCell ⟨w.heap.size + 1, 4, none⟩ (.int .i64 0)).setCell ⟨w.heap.size + 1, 5, none⟩ (.int .i64 0) = W4
  have HS0_4 : Hid (Str W4 (w.heap.size) #[.int .i64 1, .string xk, .slice Ax nx cx, .int .i64 xlo, .int .i64 xhi, .int .i64 xn]) := Lib.hid (by rw [← hW4]; exact ((((((HS0_3.out).other 0 _ (by omega)).other 1 _ (by omega)).other 2 _ (by omega)).other 3 _ (by omega)).other 4 _ (by omega)).other 5 _ (by omega))
  have HS1_4 : Hid (Str W4 (w.heap.size + 1) #[.int .i64 1, .string xk, .slice A1 n1 c1, .int .i64 0, .int .i64 0, .int .i64 0]) := Lib.hid (by rw [← hW4]; have := ((((((HS1_3.out).set 0 (.int .i64 1)).set 1 (.string xk)).set 2 (.slice A1 n1 c1)).set 3 (.int .i64 0)).set 4 (.int .i64 0)).set 5 (.int .i64 0); simpa using this)
  have HS2_4 : Hid (Str W4 (w.heap.size + 1 + 1) #[.int .i64 1, .string xk, .slice A1 n1 c1, .int .i64 0, .int .i64 0, .int .i64 0]) := Lib.hid (by rw [← hW4]; exact ((((((HS2_3.out).other 0 _ (by omega)).other 1 _ (by omega)).other 2 _ (by omega)).other 3 _ (by omega)).other 4 _ (by omega)).other 5 _ (by omega))
  have hgr4 : W3.grownBy W4 (some (w.heap.size + 1)) := by rw [← hW4]; exact grown_set (grown_set (grown_set (grown_set (grown_set (grown_set (grown_refl W3 (w.heap.size + 1)) 0 (.int .i64 1)) 1 (.string xk)) 2 (.slice A1 n1 c1)) 3 (.int .i64 0)) 4 (.int .i64 0)) 5 (.int .i64 0)
  have HB_4 := Lib.hid (below_grown HB_3.out hgr4 (by omega))
  have hw_4 := HB_4.out.size
  have hws_4 := hgr4.size
  have HYa_4 := Lib.hid ((Bytes.grown HYa_3.out (Nat.le_refl _) HS1_3.out rfl hgr4).more hws_4)
  clear HYa_3
  clear hW4
  clear f0_3_0 f0_3_1 f0_3_2 f0_3_3 f0_3_4 f0_3_5 HS0_3 hf0_3 f1_3_0 f1_3_1 f1_3_2 f1_3_3 f1_3_4 f1_3_5 HS1_3 hf1_3 f2_3_0 f2_3_1 f2_3_2 f2_3_3 f2_3_4 f2_3_5 HS2_3 hf2_3
  clear hgr4
  obtain ⟨f0_4_0, f0_4_1, f0_4_2, f0_4_3, f0_4_4, f0_4_5⟩ := str6 HS0_4.out
  have hl0_4 := HS0_4.out.lt
  have hf0_4 := fun j => HS0_4.out.frozen j
  obtain ⟨f1_4_0, f1_4_1, f1_4_2, f1_4_3, f1_4_4, f1_4_5⟩ := str6 HS1_4.out
  have hl1_4 := HS1_4.out.lt
  have hf1_4 := fun j => HS1_4.out.frozen j
  obtain ⟨f2_4_0, f2_4_1, f2_4_2, f2_4_3, f2_4_4, f2_4_5⟩ := str6 HS2_4.out
  have hl2_4 := HS2_4.out.lt
  have hf2_4 := fun j => HS2_4.out.frozen j
  exact bodyPost_ret (v := .agg #[.int .i64 1, .string xk, .slice A1 n1 c1, .int .i64 0, .int .i64 0, .int .i64 0]) (by simp [results, Try.results18, go_sem, *]) rfl ⟨A1, n1, c1, rfl, HYa_4.out, HB_4.out⟩
set_option maxRecDepth 100000 in
set_option maxHeartbeats 1000000 in
theorem Plain_2 (xk : ByteArray) (xdata : List UInt8) (Ax : Option Addr) (nx cx Bx : Nat) (xlo xhi xn : Int) (w : World) (hx : Bytes w Bx Ax nx cx xdata) (hBx : Bx ≤ w.heap.size) (hnx : nx ≤ 100000) :
    Calls Try.prog 18 #[.agg #[.int .i64 2, .string xk, .slice Ax nx cx, .int .i64 xlo, .int .i64 xhi, .int .i64 xn]] w (GivesOp w (ModelP.plain ⟨2, xk, xdata, xlo, xhi, xn⟩)) := by
  have H := Lib.hid hx
  clear hx
  have HE : Hid (ModelP.plain ⟨2, xk, xdata, xlo, xhi, xn⟩ = ⟨2, xk, [], xlo, xhi, xn⟩) := Lib.hid (by simp [ModelP.plain])
  rw [HE.out]
  clear HE
  go_enter Try.func18, Try.ntmps18
  go_wp2
  go_region
  go_wp2
  exact bodyPost_ret (v := .agg #[.int .i64 2, .string xk, .slice none 0 0, .int .i64 xlo, .int .i64 xhi, .int .i64 xn]) (by simp [results, Try.results18, go_sem, *]) rfl ⟨none, 0, 0, rfl, Bytes.none_ _ _, (balloc (balloc (balloc (bsame w) _) _) _).drew⟩
set_option maxRecDepth 100000 in
set_option maxHeartbeats 1000000 in
theorem Plain_4 (xk : ByteArray) (xdata : List UInt8) (Ax : Option Addr) (nx cx Bx : Nat) (xlo xhi xn : Int) (w : World) (hx : Bytes w Bx Ax nx cx xdata) (hBx : Bx ≤ w.heap.size) (hnx : nx ≤ 100000) :
    Calls Try.prog 18 #[.agg #[.int .i64 4, .string xk, .slice Ax nx cx, .int .i64 xlo, .int .i64 xhi, .int .i64 xn]] w (GivesOp w (ModelP.plain ⟨4, xk, xdata, xlo, xhi, xn⟩)) := by
  have H := Lib.hid hx
  clear hx
  have HE : Hid (ModelP.plain ⟨4, xk, xdata, xlo, xhi, xn⟩ = ⟨4, xk, [], 0, 0, xn⟩) := Lib.hid (by simp [ModelP.plain])
  rw [HE.out]
  clear HE
  go_enter Try.func18, Try.ntmps18
  go_wp2
  exact bodyPost_ret (v := .agg #[.int .i64 4, .string xk, .slice none 0 0, .int .i64 0, .int .i64 0, .int .i64 xn]) (by simp [results, Try.results18, go_sem, *]) rfl ⟨none, 0, 0, rfl, Bytes.none_ _ _, (balloc (balloc (balloc (bsame w) _) _) _)⟩
set_option maxRecDepth 100000 in
set_option maxHeartbeats 1000000 in
theorem Plain_5 (xk : ByteArray) (xdata : List UInt8) (Ax : Option Addr) (nx cx Bx : Nat) (xlo xhi xn : Int) (w : World) (hx : Bytes w Bx Ax nx cx xdata) (hBx : Bx ≤ w.heap.size) (hnx : nx ≤ 100000) :
    Calls Try.prog 18 #[.agg #[.int .i64 5, .string xk, .slice Ax nx cx, .int .i64 xlo, .int .i64 xhi, .int .i64 xn]] w (GivesOp w (ModelP.plain ⟨5, xk, xdata, xlo, xhi, xn⟩)) := by
  have H := Lib.hid hx
  clear hx
  have HE : Hid (ModelP.plain ⟨5, xk, xdata, xlo, xhi, xn⟩ = ⟨5, xk, [], 0, 0, xn⟩) := Lib.hid (by simp [ModelP.plain])
  rw [HE.out]
  clear HE
  go_enter Try.func18, Try.ntmps18
  go_wp2
  exact bodyPost_ret (v := .agg #[.int .i64 5, .string xk, .slice none 0 0, .int .i64 0, .int .i64 0, .int .i64 xn]) (by simp [results, Try.results18, go_sem, *]) rfl ⟨none, 0, 0, rfl, Bytes.none_ _ _, (balloc (balloc (balloc (bsame w) _) _) _)⟩
set_option maxRecDepth 100000 in
set_option maxHeartbeats 1000000 in
theorem Plain_act (act : Int) (xk : ByteArray) (xdata : List UInt8) (Ax : Option Addr) (nx cx Bx : Nat) (xlo xhi xn : Int) (w : World) (hx : Bytes w Bx Ax nx cx xdata) (hBx : Bx ≤ w.heap.size) (hnx : nx ≤ 100000) (h1 : ¬ act = 1) (h2 : ¬ act = 2) (h4 : ¬ act = 4) (h5 : ¬ act = 5) :
    Calls Try.prog 18 #[.agg #[.int .i64 act, .string xk, .slice Ax nx cx, .int .i64 xlo, .int .i64 xhi, .int .i64 xn]] w (GivesOp w (ModelP.plain ⟨act, xk, xdata, xlo, xhi, xn⟩)) := by
  have H := Lib.hid hx
  clear hx
  have HE : Hid (ModelP.plain ⟨act, xk, xdata, xlo, xhi, xn⟩ = ⟨act, xk, [], 0, 0, 0⟩) := Lib.hid (by simp [ModelP.plain, h1, h2, h4, h5])
  have q1 : (act == 1) = false := by simpa using h1
  have q2 : (act == 2) = false := by simpa using h2
  have q4 : (act == 4) = false := by simpa using h4
  have q5 : (act == 5) = false := by simpa using h5
  rw [HE.out]
  clear HE
  go_enter Try.func18, Try.ntmps18
  go_wp2
  exact bodyPost_ret (v := .agg #[.int .i64 act, .string xk, .slice none 0 0, .int .i64 0, .int .i64 0, .int .i64 0]) (by simp [results, Try.results18, go_sem, *]) rfl ⟨none, 0, 0, rfl, Bytes.none_ _ _, (balloc (balloc (balloc (bsame w) _) _) _)⟩
set_option maxRecDepth 100000 in
set_option maxHeartbeats 1000000 in
theorem refPlain_1 (xk : ByteArray) (xdata : List UInt8) (Ax : Option Addr) (nx cx Bx : Nat) (xlo xhi xn : Int) (w : World) (hx : Bytes w Bx Ax nx cx xdata) (hBx : Bx ≤ w.heap.size) (hnx : nx ≤ 100000) :
    Calls Try.prog 19 #[.agg #[.int .i64 1, .string xk, .slice Ax nx cx, .int .i64 xlo, .int .i64 xhi, .int .i64 xn]] w (GivesOp w (ModelP.plain ⟨1, xk, xdata, xlo, xhi, xn⟩)) := by
  have H := Lib.hid hx
  clear hx
  have HE : Hid (ModelP.plain ⟨1, xk, xdata, xlo, xhi, xn⟩ = ⟨1, xk, xdata, 0, 0, 0⟩) := Lib.hid (by simp [ModelP.plain])
  rw [HE.out]
  clear HE
  go_enter Try.func19, Try.ntmps19
  go_wp2
  exact bodyPost_ret (v := .agg #[.int .i64 1, .string xk, .slice Ax nx cx, .int .i64 0, .int .i64 0, .int .i64 0]) (by simp [results, Try.results19, go_sem, *]) rfl ⟨Ax, nx, cx, rfl, (H.out.below ((balloc (balloc (balloc (bsame w) _) _) _).mono hBx)).more (by simp; omega), (balloc (balloc (balloc (bsame w) _) _) _)⟩
set_option maxRecDepth 100000 in
set_option maxHeartbeats 1000000 in
theorem refPlain_2 (xk : ByteArray) (xdata : List UInt8) (Ax : Option Addr) (nx cx Bx : Nat) (xlo xhi xn : Int) (w : World) (hx : Bytes w Bx Ax nx cx xdata) (hBx : Bx ≤ w.heap.size) (hnx : nx ≤ 100000) :
    Calls Try.prog 19 #[.agg #[.int .i64 2, .string xk, .slice Ax nx cx, .int .i64 xlo, .int .i64 xhi, .int .i64 xn]] w (GivesOp w (ModelP.plain ⟨2, xk, xdata, xlo, xhi, xn⟩)) := by
  have H := Lib.hid hx
  clear hx
  have HE : Hid (ModelP.plain ⟨2, xk, xdata, xlo, xhi, xn⟩ = ⟨2, xk, [], xlo, xhi, xn⟩) := Lib.hid (by simp [ModelP.plain])
  rw [HE.out]
  clear HE
  go_enter Try.func19, Try.ntmps19
  go_wp2
  go_region
  go_wp2
  exact bodyPost_ret (v := .agg #[.int .i64 2, .string xk, .slice none 0 0, .int .i64 xlo, .int .i64 xhi, .int .i64 xn]) (by simp [results, Try.results19, go_sem, *]) rfl ⟨none, 0, 0, rfl, Bytes.none_ _ _, (balloc (balloc (balloc (bsame w) _) _) _).drew⟩
set_option maxRecDepth 100000 in
set_option maxHeartbeats 1000000 in
theorem refPlain_4 (xk : ByteArray) (xdata : List UInt8) (Ax : Option Addr) (nx cx Bx : Nat) (xlo xhi xn : Int) (w : World) (hx : Bytes w Bx Ax nx cx xdata) (hBx : Bx ≤ w.heap.size) (hnx : nx ≤ 100000) :
    Calls Try.prog 19 #[.agg #[.int .i64 4, .string xk, .slice Ax nx cx, .int .i64 xlo, .int .i64 xhi, .int .i64 xn]] w (GivesOp w (ModelP.plain ⟨4, xk, xdata, xlo, xhi, xn⟩)) := by
  have H := Lib.hid hx
  clear hx
  have HE : Hid (ModelP.plain ⟨4, xk, xdata, xlo, xhi, xn⟩ = ⟨4, xk, [], 0, 0, xn⟩) := Lib.hid (by simp [ModelP.plain])
  rw [HE.out]
  clear HE
  go_enter Try.func19, Try.ntmps19
  go_wp2
  exact bodyPost_ret (v := .agg #[.int .i64 4, .string xk, .slice none 0 0, .int .i64 0, .int .i64 0, .int .i64 xn]) (by simp [results, Try.results19, go_sem, *]) rfl ⟨none, 0, 0, rfl, Bytes.none_ _ _, (balloc (balloc (balloc (bsame w) _) _) _)⟩
set_option maxRecDepth 100000 in
set_option maxHeartbeats 1000000 in
theorem refPlain_5 (xk : ByteArray) (xdata : List UInt8) (Ax : Option Addr) (nx cx Bx : Nat) (xlo xhi xn : Int) (w : World) (hx : Bytes w Bx Ax nx cx xdata) (hBx : Bx ≤ w.heap.size) (hnx : nx ≤ 100000) :
    Calls Try.prog 19 #[.agg #[.int .i64 5, .string xk, .slice Ax nx cx, .int .i64 xlo, .int .i64 xhi, .int .i64 xn]] w (GivesOp w (ModelP.plain ⟨5, xk, xdata, xlo, xhi, xn⟩)) := by
  have H := Lib.hid hx
  clear hx
  have HE : Hid (ModelP.plain ⟨5, xk, xdata, xlo, xhi, xn⟩ = ⟨5, xk, [], 0, 0, xn⟩) := Lib.hid (by simp [ModelP.plain])
  rw [HE.out]
  clear HE
  go_enter Try.func19, Try.ntmps19
  go_wp2
  exact bodyPost_ret (v := .agg #[.int .i64 5, .string xk, .slice none 0 0, .int .i64 0, .int .i64 0, .int .i64 xn]) (by simp [results, Try.results19, go_sem, *]) rfl ⟨none, 0, 0, rfl, Bytes.none_ _ _, (balloc (balloc (balloc (bsame w) _) _) _)⟩
set_option maxRecDepth 100000 in
set_option maxHeartbeats 1000000 in
theorem refPlain_act (act : Int) (xk : ByteArray) (xdata : List UInt8) (Ax : Option Addr) (nx cx Bx : Nat) (xlo xhi xn : Int) (w : World) (hx : Bytes w Bx Ax nx cx xdata) (hBx : Bx ≤ w.heap.size) (hnx : nx ≤ 100000) (h1 : ¬ act = 1) (h2 : ¬ act = 2) (h4 : ¬ act = 4) (h5 : ¬ act = 5) :
    Calls Try.prog 19 #[.agg #[.int .i64 act, .string xk, .slice Ax nx cx, .int .i64 xlo, .int .i64 xhi, .int .i64 xn]] w (GivesOp w (ModelP.plain ⟨act, xk, xdata, xlo, xhi, xn⟩)) := by
  have H := Lib.hid hx
  clear hx
  have HE : Hid (ModelP.plain ⟨act, xk, xdata, xlo, xhi, xn⟩ = ⟨act, xk, [], 0, 0, 0⟩) := Lib.hid (by simp [ModelP.plain, h1, h2, h4, h5])
  have q1 : (act == 1) = false := by simpa using h1
  have q2 : (act == 2) = false := by simpa using h2
  have q4 : (act == 4) = false := by simpa using h4
  have q5 : (act == 5) = false := by simpa using h5
  rw [HE.out]
  clear HE
  go_enter Try.func19, Try.ntmps19
  go_wp2
  exact bodyPost_ret (v := .agg #[.int .i64 act, .string xk, .slice none 0 0, .int .i64 0, .int .i64 0, .int .i64 0]) (by simp [results, Try.results19, go_sem, *]) rfl ⟨none, 0, 0, rfl, Bytes.none_ _ _, (balloc (balloc (balloc (bsame w) _) _) _)⟩
theorem Plain_any (x : OpX) (Ax : Option Addr) (nx cx Bx : Nat) (w : World) (hx : Bytes w Bx Ax nx cx x.data) (hBx : Bx ≤ w.heap.size) (hnx : nx ≤ 100000) :
    Calls Try.prog 18 #[.agg (opV x Ax nx cx).toArray] w (GivesOp w (ModelP.plain x)) := by
  obtain ⟨act, xk, xdata, xlo, xhi, xn⟩ := x
  by_cases h1 : act = 1
  · subst h1; exact Plain_1 xk xdata Ax nx cx Bx xlo xhi xn w hx hBx hnx
  · by_cases h2 : act = 2
    · subst h2; exact Plain_2 xk xdata Ax nx cx Bx xlo xhi xn w hx hBx hnx
    · by_cases h4 : act = 4
      · subst h4; exact Plain_4 xk xdata Ax nx cx Bx xlo xhi xn w hx hBx hnx
      · by_cases h5 : act = 5
        · subst h5; exact Plain_5 xk xdata Ax nx cx Bx xlo xhi xn w hx hBx hnx
        · exact Plain_act act xk xdata Ax nx cx Bx xlo xhi xn w hx hBx hnx h1 h2 h4 h5
theorem refPlain_any (x : OpX) (Ax : Option Addr) (nx cx Bx : Nat) (w : World) (hx : Bytes w Bx Ax nx cx x.data) (hBx : Bx ≤ w.heap.size) (hnx : nx ≤ 100000) :
    Calls Try.prog 19 #[.agg (opV x Ax nx cx).toArray] w (GivesOp w (ModelP.plain x)) := by
  obtain ⟨act, xk, xdata, xlo, xhi, xn⟩ := x
  by_cases h1 : act = 1
  · subst h1; exact refPlain_1 xk xdata Ax nx cx Bx xlo xhi xn w hx hBx hnx
  · by_cases h2 : act = 2
    · subst h2; exact refPlain_2 xk xdata Ax nx cx Bx xlo xhi xn w hx hBx hnx
    · by_cases h4 : act = 4
      · subst h4; exact refPlain_4 xk xdata Ax nx cx Bx xlo xhi xn w hx hBx hnx
      · by_cases h5 : act = 5
        · subst h5; exact refPlain_5 xk xdata Ax nx cx Bx xlo xhi xn w hx hBx hnx
        · exact refPlain_act act xk xdata Ax nx cx Bx xlo xhi xn w hx hBx hnx h1 h2 h4 h5
end Go.Proofs.Ytghgccgpgonlmaa.ModelW
