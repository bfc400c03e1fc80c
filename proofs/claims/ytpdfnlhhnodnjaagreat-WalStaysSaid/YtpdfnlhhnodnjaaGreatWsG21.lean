/-
  Parts of the proof of WalStays.
-/
import Derived.Test.YtpdfnlhhnodnjaaGreatWsG5
import Derived.Test.YtpdfnlhhnodnjaaGreatWsG13
import Derived.Test.YtpdfnlhhnodnjaaGreatWsG19
import Derived.Test.YtpdfnlhhnodnjaaGreatWsG20
import Derived.Deep.RegionWith
section
namespace Go.Proofs.YtpdfnlhhnodnjaaGreat
theorem Rd.grown {w w1 : World} {b g : Nat} {l : List UInt8} {bad : Bool} {cs : Array Value} (h : Rd w b l bad) (_hB : w.heap.size ≤ w.heap.size) (hs : Str w g cs) (hn : notU8 cs = true) (hg : w.grownBy w1 (some g)) (hne : b ≠ g) : Rd w1 b l bad := by
  obtain ⟨A, n, c, hS, hy⟩ := h
  exact ⟨A, n, c, hS.grown hg hne, Bytes.grown hy (Nat.le_of_lt hS.lt) hs hn hg⟩
end Go.Proofs.YtpdfnlhhnodnjaaGreat
namespace Go.Proofs.YtpdfnlhhnodnjaaGreat.UndoW
open Go.RowKit
set_option linter.unusedVariables false
attribute [local go_sem ↓] al64_fold ld64_fold st64_fold bd64_fold sl64_fold cp_fold
/-- the call hands back an undo, a number, an error -/
def GotUndo (w : World) (r : Undo × Int × Int) (e : Ending) (w' : World) : Prop := ∃ A n cap, e = .returned (.tuple #[.agg #[.int .i64 r.1.act, .string r.1.key, .int .i64 r.1.item.state, .string r.1.item.key, .int .i64 r.1.item.cell.kind, .slice A n cap, .int .i64 r.1.item.cell.lo, .int .i64 r.1.item.cell.hi, .int .i64 r.1.item.cell.val, .int .i64 r.1.n], .int .i64 r.2.1, .int .i64 r.2.2]) ∧ Bytes w' w'.heap.size A n cap r.1.item.cell.data ∧ Below w.heap.size w w'
/-- and its bytes lie where nothing was before -/
def NewUndo (w : World) (r : Undo × Int × Int) (e : Ending) (w' : World) : Prop := ∃ A n cap, e = .returned (.tuple #[.agg #[.int .i64 r.1.act, .string r.1.key, .int .i64 r.1.item.state, .string r.1.item.key, .int .i64 r.1.item.cell.kind, .slice A n cap, .int .i64 r.1.item.cell.lo, .int .i64 r.1.item.cell.hi, .int .i64 r.1.item.cell.val, .int .i64 r.1.n], .int .i64 r.2.1, .int .i64 r.2.2]) ∧ (Bytes w' w'.heap.size A n cap r.1.item.cell.data ∧ ∀ a, A = some a → w.heap.size ≤ a.block) ∧ Below w.heap.size w w'
theorem NewUndo.got {w w' : World} {r : Undo × Int × Int} {e : Ending} (h : NewUndo w r e w') : GotUndo w r e w' := by
  obtain ⟨A, n, c, h1, h2, h3⟩ := h
  exact ⟨A, n, c, h1, h2.1, h3⟩
theorem ok_rd {w : World} {b : Nat} {l : List UInt8} {bad : Bool} (h : Rd w b l bad) : Calls Tryz.prog 86 #[.pointer (some ⟨b, 0, none⟩)] w fun e w' => e = .returned (.bool (!bad)) ∧ w = w' := by
  obtain ⟨A, n, c, hS, -⟩ := h
  exact RdW.ok_any b _ bad w hS
theorem num1 (x : UInt8) (l : List UInt8) : RdP.numV (x :: l) false 1 = (x.toNat : Int) ∧ RdP.numL (x :: l) false 1 = l ∧ RdP.numB (x :: l) false 1 = false := by
  refine ⟨?_, by simp [RdP.numL], by simp [RdP.numB]⟩
  rw [UndoP.numV_k1]
  simp [UndoP.k1]

set_option maxRecDepth 100000 in
set_option maxHeartbeats 1000000 in
theorem get_nil (A : Option Addr) (n c B : Nat)  (w : World) (h : Bytes w B A n c []) (hB : B ≤ w.heap.size) (hn : n ≤ 1000000)  : Calls Tryz.prog 90 #[.slice A n c] w (NewUndo w (UndoP.get [])) := by
  rw [UndoP.get_nil]
  have Hh := Lib.hid h
  have hln := h.len
  have HLN := Lib.hid hln
  clear h hln
  go_enter Tryz.func90, Tryz.ntmps90
  go_wp2_with fail
  generalize hW0 : (w).alloc (.cells #[.int .i64 0, .string ⟨#[]⟩, .int .i64 0, .string ⟨#[]⟩, .int .i64 0, .slice none 0 0, .int .i64 0, .int .i64 0, .int .i64 0, .int .i64 0] 38) = W0
  have HS0_0 : Hid (Str W0 (w.heap.size) #[.int .i64 0, .string ⟨#[]⟩, .int .i64 0, .string ⟨#[]⟩, .int .i64 0, .slice none 0 0, .int .i64 0, .int .i64 0, .int .i64 0, .int .i64 0]) := Lib.hid (by rw [← hW0]; have := Str.new (w) #[.int .i64 0, .string ⟨#[]⟩, .int .i64 0, .string ⟨#[]⟩, .int .i64 0, .slice none 0 0, .int .i64 0, .int .i64 0, .int .i64 0, .int .i64 0] 38; simpa using this)
  have HB_0 : Hid (Below w.heap.size w W0) := Lib.hid (by rw [← hW0]; exact balloc (bsame w) _)
  have hw_0 := HB_0.out.size
  clear hW0
  obtain ⟨f0_0_0, f0_0_1, f0_0_2, f0_0_3, f0_0_4, f0_0_5, f0_0_6, f0_0_7, f0_0_8, f0_0_9⟩ := str10 HS0_0.out
  have hl0_0 := HS0_0.out.lt
  have hf0_0 := fun j => HS0_0.out.frozen j
  refine (RdW.read_any A n c B [] _ (Hh.out.below (HB_0.out.mono hB)) (by omega) (by omega)).mono ?_
  rintro e W1 ⟨b, rfl, hbb, hR, hb1⟩
  have HS0_1 := Lib.hid (HS0_0.out.next hb1)
  have HB_1 := Lib.hid (bstep HB_0.out hb1)
  have hw_1 := HB_1.out.size
  have hws_1 := (hb1).size
  clear f0_0_0 f0_0_1 f0_0_2 f0_0_3 f0_0_4 f0_0_5 f0_0_6 f0_0_7 f0_0_8 f0_0_9 HS0_0 hf0_0
  clear hb1
  obtain ⟨f0_1_0, f0_1_1, f0_1_2, f0_1_3, f0_1_4, f0_1_5, f0_1_6, f0_1_7, f0_1_8, f0_1_9⟩ := str10 HS0_1.out
  have hl0_1 := HS0_1.out.lt
  have hf0_1 := fun j => HS0_1.out.frozen j
  have HR_1 := Lib.hid hR
  have hbl := hR.lt
  clear hR
  go_wp2_with fail
  refine (RdW.num_any b _ _ 1 _ HR_1.out (by omega) (by omega)).mono ?_
  rintro e W2 ⟨rfl, hR, hg⟩
  have HR_2 := Lib.hid hR
  clear HR_1 hR
  have HS0_2 := Lib.hid (HS0_1.out.grown hg (by omega))
  have HB_2 := Lib.hid (below_grown HB_1.out hg (by omega))
  have hw_2 := HB_2.out.size
  have hws_2 := (hg).size
  clear f0_1_0 f0_1_1 f0_1_2 f0_1_3 f0_1_4 f0_1_5 f0_1_6 f0_1_7 f0_1_8 f0_1_9 HS0_1 hf0_1
  clear hg
  obtain ⟨f0_2_0, f0_2_1, f0_2_2, f0_2_3, f0_2_4, f0_2_5, f0_2_6, f0_2_7, f0_2_8, f0_2_9⟩ := str10 HS0_2.out
  have hl0_2 := HS0_2.out.lt
  have hf0_2 := fun j => HS0_2.out.frozen j
  rw [show RdP.numV [] false 1 = 0 from rfl]
  rw [show RdP.numL [] false 1 = [] from rfl, show RdP.numB [] false 1 = true from rfl] at HR_2
  go_wp2_with fail
  generalize hW3 : W2.alloc (.cells #[.int .i64 0, .string ⟨#[]⟩, .int .i64 0, .string ⟨#[]⟩, .int .i64 0, .slice none 0 0, .int .i64 0, .int .i64 0, .int .i64 0, .int .i64 0] 38) = W3
  have HS0_3 : Hid (Str W3 (w.heap.size) #[.int .i64 0, .string ⟨#[]⟩, .int .i64 0, .string ⟨#[]⟩, .int .i64 0, .slice none 0 0, .int .i64 0, .int .i64 0, .int .i64 0, .int .i64 0]) := Lib.hid (by rw [← hW3]; exact HS0_2.out.alloc _)
  have HS1_3 : Hid (Str W3 W2.heap.size #[.int .i64 0, .string ⟨#[]⟩, .int .i64 0, .string ⟨#[]⟩, .int .i64 0, .slice none 0 0, .int .i64 0, .int .i64 0, .int .i64 0, .int .i64 0]) := Lib.hid (by rw [← hW3]; exact Str.new W2 #[.int .i64 0, .string ⟨#[]⟩, .int .i64 0, .string ⟨#[]⟩, .int .i64 0, .slice none 0 0, .int .i64 0, .int .i64 0, .int .i64 0, .int .i64 0] 38)
  have hba3 : Below W2.heap.size W2 W3 := by rw [← hW3]; exact balloc (bsame _) _
  have HB_3 := Lib.hid (bstep HB_2.out hba3)
  have hw_3 := HB_3.out.size
  have hws_3 := hba3.size
  have HR_3 := Lib.hid (HR_2.out.below hba3)
  clear HR_2
  clear hW3
  clear f0_2_0 f0_2_1 f0_2_2 f0_2_3 f0_2_4 f0_2_5 f0_2_6 f0_2_7 f0_2_8 f0_2_9 HS0_2 hf0_2
  obtain ⟨f0_3_0, f0_3_1, f0_3_2, f0_3_3, f0_3_4, f0_3_5, f0_3_6, f0_3_7, f0_3_8, f0_3_9⟩ := str10 HS0_3.out
  have hl0_3 := HS0_3.out.lt
  have hf0_3 := fun j => HS0_3.out.frozen j
  obtain ⟨f1_3_0, f1_3_1, f1_3_2, f1_3_3, f1_3_4, f1_3_5, f1_3_6, f1_3_7, f1_3_8, f1_3_9⟩ := str10 HS1_3.out
  have hl1_3 := HS1_3.out.lt
  clear hba3
  refine (ok_rd HR_3.out).mono ?_
  rintro e w_ ⟨rfl, rfl⟩
  go_wp2_with fail
  generalize hW4 : ((((((((((W3).setCell ⟨w.heap.size, 0, none⟩ (.int .i64 0)).setCell ⟨w.heap.size, 1, none⟩ (.string ⟨#[]⟩)).setCell ⟨w.heap.size, 2, none⟩ (.int .i64 0)).setCell ⟨w.heap.size, 3, none⟩ (.string ⟨#[]⟩)).setCell ⟨w.heap.size, 4, none⟩ (.int .i64 0)).setCell ⟨w.heap.size, 5, none⟩ (.slice none 0 0)).setCell ⟨w.heap.size, 6, none⟩ (.int .i64 0)).setCell ⟨w.heap.size, 7, none⟩ (.int .i64 0)).setCell ⟨w.heap.size, 8, none⟩ (.int .i64 0)).setCell ⟨w.heap.size, 9, none⟩ (.int .i64 0) = W4
  have HS0_4 : Hid (Str W4 (w.heap.size) #[.int .i64 0, .string ⟨#[]⟩, .int .i64 0, .string ⟨#[]⟩, .int .i64 0, .slice none 0 0, .int .i64 0, .int .i64 0, .int .i64 0, .int .i64 0]) := Lib.hid (by rw [← hW4]; have := ((((((((((HS0_3.out).set 0 (.int .i64 0)).set 1 (.string ⟨#[]⟩)).set 2 (.int .i64 0)).set 3 (.string ⟨#[]⟩)).set 4 (.int .i64 0)).set 5 (.slice none 0 0)).set 6 (.int .i64 0)).set 7 (.int .i64 0)).set 8 (.int .i64 0)).set 9 (.int .i64 0); simpa using this)
  have HS1_4 : Hid (Str W4 (W2.heap.size) #[.int .i64 0, .string ⟨#[]⟩, .int .i64 0, .string ⟨#[]⟩, .int .i64 0, .slice none 0 0, .int .i64 0, .int .i64 0, .int .i64 0, .int .i64 0]) := Lib.hid (by rw [← hW4]; exact ((((((((((HS1_3.out).other 0 _ (by omega)).other 1 _ (by omega)).other 2 _ (by omega)).other 3 _ (by omega)).other 4 _ (by omega)).other 5 _ (by omega)).other 6 _ (by omega)).other 7 _ (by omega)).other 8 _ (by omega)).other 9 _ (by omega))
  have hgr4 : W3.grownBy W4 (some (w.heap.size)) := by rw [← hW4]; exact grown_set (grown_set (grown_set (grown_set (grown_set (grown_set (grown_set (grown_set (grown_set (grown_set (grown_refl W3 (w.heap.size)) 0 (.int .i64 0)) 1 (.string ⟨#[]⟩)) 2 (.int .i64 0)) 3 (.string ⟨#[]⟩)) 4 (.int .i64 0)) 5 (.slice none 0 0)) 6 (.int .i64 0)) 7 (.int .i64 0)) 8 (.int .i64 0)) 9 (.int .i64 0)
  have HB_4 := Lib.hid (below_grown HB_3.out hgr4 (by omega))
  have hw_4 := HB_4.out.size
  have hws_4 := hgr4.size
  clear hW4
  clear f0_3_0 f0_3_1 f0_3_2 f0_3_3 f0_3_4 f0_3_5 f0_3_6 f0_3_7 f0_3_8 f0_3_9 HS0_3 hf0_3 f1_3_0 f1_3_1 f1_3_2 f1_3_3 f1_3_4 f1_3_5 f1_3_6 f1_3_7 f1_3_8 f1_3_9 HS1_3
  clear hgr4
  obtain ⟨f0_4_0, f0_4_1, f0_4_2, f0_4_3, f0_4_4, f0_4_5, f0_4_6, f0_4_7, f0_4_8, f0_4_9⟩ := str10 HS0_4.out
  have hl0_4 := HS0_4.out.lt
  have hf0_4 := fun j => HS0_4.out.frozen j
  obtain ⟨f1_4_0, f1_4_1, f1_4_2, f1_4_3, f1_4_4, f1_4_5, f1_4_6, f1_4_7, f1_4_8, f1_4_9⟩ := str10 HS1_4.out
  have hl1_4 := HS1_4.out.lt
  exact bodyPost_ret (v := .tuple #[.agg #[.int .i64 0, .string ⟨#[]⟩, .int .i64 0, .string ⟨#[]⟩, .int .i64 0, .slice none 0 0, .int .i64 0, .int .i64 0, .int .i64 0, .int .i64 0], .int .i64 0, .int .i64 13]) (by simp [results, Tryz.results90, go_sem, *]) rfl ⟨none, 0, 0, rfl, ⟨Bytes.none_ _ _, fun a e => by cases e⟩, HB_4.out⟩

set_option maxRecDepth 100000 in
set_option maxHeartbeats 1000000 in
theorem get_big (A : Option Addr) (n c B : Nat) (x : UInt8) (l : List UInt8) (w : World) (h : Bytes w B A n c (x :: l)) (hB : B ≤ w.heap.size) (hn : n ≤ 1000000) (hx : 3 < x.toNat) : Calls Tryz.prog 90 #[.slice A n c] w (NewUndo w (UndoP.get (x :: l))) := by
  rw [UndoP.get_form x l hx]
  obtain ⟨xv, hxv, hx3⟩ : ∃ xv : Int, (x.toNat : Int) = xv ∧ 3 < xv := ⟨_, rfl, by omega⟩
  have q0 : ¬ xv = 0 := by omega
  have q1 : ¬ xv = 1 := by omega
  have q2 : ¬ xv = 2 := by omega
  have q3 : ¬ xv = 3 := by omega
  clear hx
  have Hh := Lib.hid h
  have hln := h.len
  have HLN := Lib.hid hln
  clear h hln
  go_enter Tryz.func90, Tryz.ntmps90
  go_wp2_with fail
  generalize hW0 : (w).alloc (.cells #[.int .i64 0, .string ⟨#[]⟩, .int .i64 0, .string ⟨#[]⟩, .int .i64 0, .slice none 0 0, .int .i64 0, .int .i64 0, .int .i64 0, .int .i64 0] 38) = W0
  have HS0_0 : Hid (Str W0 (w.heap.size) #[.int .i64 0, .string ⟨#[]⟩, .int .i64 0, .string ⟨#[]⟩, .int .i64 0, .slice none 0 0, .int .i64 0, .int .i64 0, .int .i64 0, .int .i64 0]) := Lib.hid (by rw [← hW0]; have := Str.new (w) #[.int .i64 0, .string ⟨#[]⟩, .int .i64 0, .string ⟨#[]⟩, .int .i64 0, .slice none 0 0, .int .i64 0, .int .i64 0, .int .i64 0, .int .i64 0] 38; simpa using this)
  have HB_0 : Hid (Below w.heap.size w W0) := Lib.hid (by rw [← hW0]; exact balloc (bsame w) _)
  have hw_0 := HB_0.out.size
  clear hW0
  obtain ⟨f0_0_0, f0_0_1, f0_0_2, f0_0_3, f0_0_4, f0_0_5, f0_0_6, f0_0_7, f0_0_8, f0_0_9⟩ := str10 HS0_0.out
  have hl0_0 := HS0_0.out.lt
  have hf0_0 := fun j => HS0_0.out.frozen j
  refine (RdW.read_any A n c B (x :: l) _ (Hh.out.below (HB_0.out.mono hB)) (by omega) (by omega)).mono ?_
  rintro e W1 ⟨b, rfl, hbb, hR, hb1⟩
  have HS0_1 := Lib.hid (HS0_0.out.next hb1)
  have HB_1 := Lib.hid (bstep HB_0.out hb1)
  have hw_1 := HB_1.out.size
  have hws_1 := (hb1).size
  clear f0_0_0 f0_0_1 f0_0_2 f0_0_3 f0_0_4 f0_0_5 f0_0_6 f0_0_7 f0_0_8 f0_0_9 HS0_0 hf0_0
  clear hb1
  obtain ⟨f0_1_0, f0_1_1, f0_1_2, f0_1_3, f0_1_4, f0_1_5, f0_1_6, f0_1_7, f0_1_8, f0_1_9⟩ := str10 HS0_1.out
  have hl0_1 := HS0_1.out.lt
  have hf0_1 := fun j => HS0_1.out.frozen j
  have HR_1 := Lib.hid hR
  have hbl := hR.lt
  clear hR
  go_wp2_with fail
  refine (RdW.num_any b _ _ 1 _ HR_1.out (by omega) (by omega)).mono ?_
  rintro e W2 ⟨rfl, hR, hg⟩
  have HR_2 := Lib.hid hR
  clear HR_1 hR
  have HS0_2 := Lib.hid (HS0_1.out.grown hg (by omega))
  have HB_2 := Lib.hid (below_grown HB_1.out hg (by omega))
  have hw_2 := HB_2.out.size
  have hws_2 := (hg).size
  clear f0_1_0 f0_1_1 f0_1_2 f0_1_3 f0_1_4 f0_1_5 f0_1_6 f0_1_7 f0_1_8 f0_1_9 HS0_1 hf0_1
  clear hg
  obtain ⟨f0_2_0, f0_2_1, f0_2_2, f0_2_3, f0_2_4, f0_2_5, f0_2_6, f0_2_7, f0_2_8, f0_2_9⟩ := str10 HS0_2.out
  have hl0_2 := HS0_2.out.lt
  have hf0_2 := fun j => HS0_2.out.frozen j
  rw [(num1 x l).2.1, (num1 x l).2.2] at HR_2
  rw [(num1 x l).1, hxv]
  go_wp2_with fail
  generalize hW3 : W2.alloc (.cells #[.int .i64 xv, .string ⟨#[]⟩, .int .i64 0, .string ⟨#[]⟩, .int .i64 0, .slice none 0 0, .int .i64 0, .int .i64 0, .int .i64 0, .int .i64 0] 38) = W3
  have HS0_3 : Hid (Str W3 (w.heap.size) #[.int .i64 0, .string ⟨#[]⟩, .int .i64 0, .string ⟨#[]⟩, .int .i64 0, .slice none 0 0, .int .i64 0, .int .i64 0, .int .i64 0, .int .i64 0]) := Lib.hid (by rw [← hW3]; exact HS0_2.out.alloc _)
  have HS1_3 : Hid (Str W3 W2.heap.size #[.int .i64 xv, .string ⟨#[]⟩, .int .i64 0, .string ⟨#[]⟩, .int .i64 0, .slice none 0 0, .int .i64 0, .int .i64 0, .int .i64 0, .int .i64 0]) := Lib.hid (by rw [← hW3]; exact Str.new W2 #[.int .i64 xv, .string ⟨#[]⟩, .int .i64 0, .string ⟨#[]⟩, .int .i64 0, .slice none 0 0, .int .i64 0, .int .i64 0, .int .i64 0, .int .i64 0] 38)
  have hba3 : Below W2.heap.size W2 W3 := by rw [← hW3]; exact balloc (bsame _) _
  have HB_3 := Lib.hid (bstep HB_2.out hba3)
  have hw_3 := HB_3.out.size
  have hws_3 := hba3.size
  have HR_3 := Lib.hid (HR_2.out.below hba3)
  clear HR_2
  clear hW3
  clear f0_2_0 f0_2_1 f0_2_2 f0_2_3 f0_2_4 f0_2_5 f0_2_6 f0_2_7 f0_2_8 f0_2_9 HS0_2 hf0_2
  obtain ⟨f0_3_0, f0_3_1, f0_3_2, f0_3_3, f0_3_4, f0_3_5, f0_3_6, f0_3_7, f0_3_8, f0_3_9⟩ := str10 HS0_3.out
  have hl0_3 := HS0_3.out.lt
  have hf0_3 := fun j => HS0_3.out.frozen j
  obtain ⟨f1_3_0, f1_3_1, f1_3_2, f1_3_3, f1_3_4, f1_3_5, f1_3_6, f1_3_7, f1_3_8, f1_3_9⟩ := str10 HS1_3.out
  have hl1_3 := HS1_3.out.lt
  clear hba3
  refine (ok_rd HR_3.out).mono ?_
  rintro e w_ ⟨rfl, rfl⟩
  go_wp2_with fail
  generalize hW4 : ((((((((((W3).setCell ⟨w.heap.size, 0, none⟩ (.int .i64 0)).setCell ⟨w.heap.size, 1, none⟩ (.string ⟨#[]⟩)).setCell ⟨w.heap.size, 2, none⟩ (.int .i64 0)).setCell ⟨w.heap.size, 3, none⟩ (.string ⟨#[]⟩)).setCell ⟨w.heap.size, 4, none⟩ (.int .i64 0)).setCell ⟨w.heap.size, 5, none⟩ (.slice none 0 0)).setCell ⟨w.heap.size, 6, none⟩ (.int .i64 0)).setCell ⟨w.heap.size, 7, none⟩ (.int .i64 0)).setCell ⟨w.heap.size, 8, none⟩ (.int .i64 0)).setCell ⟨w.heap.size, 9, none⟩ (.int .i64 0) = W4
  have HS0_4 : Hid (Str W4 (w.heap.size) #[.int .i64 0, .string ⟨#[]⟩, .int .i64 0, .string ⟨#[]⟩, .int .i64 0, .slice none 0 0, .int .i64 0, .int .i64 0, .int .i64 0, .int .i64 0]) := Lib.hid (by rw [← hW4]; have := ((((((((((HS0_3.out).set 0 (.int .i64 0)).set 1 (.string ⟨#[]⟩)).set 2 (.int .i64 0)).set 3 (.string ⟨#[]⟩)).set 4 (.int .i64 0)).set 5 (.slice none 0 0)).set 6 (.int .i64 0)).set 7 (.int .i64 0)).set 8 (.int .i64 0)).set 9 (.int .i64 0); simpa using this)
  have HS1_4 : Hid (Str W4 (W2.heap.size) #[.int .i64 xv, .string ⟨#[]⟩, .int .i64 0, .string ⟨#[]⟩, .int .i64 0, .slice none 0 0, .int .i64 0, .int .i64 0, .int .i64 0, .int .i64 0]) := Lib.hid (by rw [← hW4]; exact ((((((((((HS1_3.out).other 0 _ (by omega)).other 1 _ (by omega)).other 2 _ (by omega)).other 3 _ (by omega)).other 4 _ (by omega)).other 5 _ (by omega)).other 6 _ (by omega)).other 7 _ (by omega)).other 8 _ (by omega)).other 9 _ (by omega))
  have hgr4 : W3.grownBy W4 (some (w.heap.size)) := by rw [← hW4]; exact grown_set (grown_set (grown_set (grown_set (grown_set (grown_set (grown_set (grown_set (grown_set (grown_set (grown_refl W3 (w.heap.size)) 0 (.int .i64 0)) 1 (.string ⟨#[]⟩)) 2 (.int .i64 0)) 3 (.string ⟨#[]⟩)) 4 (.int .i64 0)) 5 (.slice none 0 0)) 6 (.int .i64 0)) 7 (.int .i64 0)) 8 (.int .i64 0)) 9 (.int .i64 0)
  have HB_4 := Lib.hid (below_grown HB_3.out hgr4 (by omega))
  have hw_4 := HB_4.out.size
  have hws_4 := hgr4.size
  clear hW4
  clear f0_3_0 f0_3_1 f0_3_2 f0_3_3 f0_3_4 f0_3_5 f0_3_6 f0_3_7 f0_3_8 f0_3_9 HS0_3 hf0_3 f1_3_0 f1_3_1 f1_3_2 f1_3_3 f1_3_4 f1_3_5 f1_3_6 f1_3_7 f1_3_8 f1_3_9 HS1_3
  clear hgr4
  obtain ⟨f0_4_0, f0_4_1, f0_4_2, f0_4_3, f0_4_4, f0_4_5, f0_4_6, f0_4_7, f0_4_8, f0_4_9⟩ := str10 HS0_4.out
  have hl0_4 := HS0_4.out.lt
  have hf0_4 := fun j => HS0_4.out.frozen j
  obtain ⟨f1_4_0, f1_4_1, f1_4_2, f1_4_3, f1_4_4, f1_4_5, f1_4_6, f1_4_7, f1_4_8, f1_4_9⟩ := str10 HS1_4.out
  have hl1_4 := HS1_4.out.lt
  exact bodyPost_ret (v := .tuple #[.agg #[.int .i64 0, .string ⟨#[]⟩, .int .i64 0, .string ⟨#[]⟩, .int .i64 0, .slice none 0 0, .int .i64 0, .int .i64 0, .int .i64 0, .int .i64 0], .int .i64 0, .int .i64 12]) (by simp [results, Tryz.results90, go_sem, *]) rfl ⟨none, 0, 0, rfl, ⟨Bytes.none_ _ _, fun a e => by cases e⟩, HB_4.out⟩

set_option maxRecDepth 100000 in
set_option maxHeartbeats 1000000 in
theorem get_0 (A : Option Addr) (n c B : Nat) (x : UInt8) (l : List UInt8) (w : World) (h : Bytes w B A n c (x :: l)) (hB : B ≤ w.heap.size) (hn : n ≤ 1000000) (hx : (x.toNat : Int) = 0) : Calls Tryz.prog 90 #[.slice A n c] w (NewUndo w (UndoP.get (x :: l))) := by
  rw [UndoP.get_zero x l (by omega)]
  have Hh := Lib.hid h
  have hln := h.len
  have HLN := Lib.hid hln
  clear h hln
  go_enter Tryz.func90, Tryz.ntmps90
  go_wp2_with fail
  generalize hW0 : (w).alloc (.cells #[.int .i64 0, .string ⟨#[]⟩, .int .i64 0, .string ⟨#[]⟩, .int .i64 0, .slice none 0 0, .int .i64 0, .int .i64 0, .int .i64 0, .int .i64 0] 38) = W0
  have HS0_0 : Hid (Str W0 (w.heap.size) #[.int .i64 0, .string ⟨#[]⟩, .int .i64 0, .string ⟨#[]⟩, .int .i64 0, .slice none 0 0, .int .i64 0, .int .i64 0, .int .i64 0, .int .i64 0]) := Lib.hid (by rw [← hW0]; have := Str.new (w) #[.int .i64 0, .string ⟨#[]⟩, .int .i64 0, .string ⟨#[]⟩, .int .i64 0, .slice none 0 0, .int .i64 0, .int .i64 0, .int .i64 0, .int .i64 0] 38; simpa using this)
  have HB_0 : Hid (Below w.heap.size w W0) := Lib.hid (by rw [← hW0]; exact balloc (bsame w) _)
  have hw_0 := HB_0.out.size
  clear hW0
  obtain ⟨f0_0_0, f0_0_1, f0_0_2, f0_0_3, f0_0_4, f0_0_5, f0_0_6, f0_0_7, f0_0_8, f0_0_9⟩ := str10 HS0_0.out
  have hl0_0 := HS0_0.out.lt
  have hf0_0 := fun j => HS0_0.out.frozen j
  refine (RdW.read_any A n c B (x :: l) _ (Hh.out.below (HB_0.out.mono hB)) (by omega) (by omega)).mono ?_
  rintro e W1 ⟨b, rfl, hbb, hR, hb1⟩
  have HS0_1 := Lib.hid (HS0_0.out.next hb1)
  have HB_1 := Lib.hid (bstep HB_0.out hb1)
  have hw_1 := HB_1.out.size
  have hws_1 := (hb1).size
  clear f0_0_0 f0_0_1 f0_0_2 f0_0_3 f0_0_4 f0_0_5 f0_0_6 f0_0_7 f0_0_8 f0_0_9 HS0_0 hf0_0
  clear hb1
  obtain ⟨f0_1_0, f0_1_1, f0_1_2, f0_1_3, f0_1_4, f0_1_5, f0_1_6, f0_1_7, f0_1_8, f0_1_9⟩ := str10 HS0_1.out
  have hl0_1 := HS0_1.out.lt
  have hf0_1 := fun j => HS0_1.out.frozen j
  have HR_1 := Lib.hid hR
  have hbl := hR.lt
  clear hR
  go_wp2_with fail
  refine (RdW.num_any b _ _ 1 _ HR_1.out (by omega) (by omega)).mono ?_
  rintro e W2 ⟨rfl, hR, hg⟩
  have HR_2 := Lib.hid hR
  clear HR_1 hR
  have HS0_2 := Lib.hid (HS0_1.out.grown hg (by omega))
  have HB_2 := Lib.hid (below_grown HB_1.out hg (by omega))
  have hw_2 := HB_2.out.size
  have hws_2 := (hg).size
  clear f0_1_0 f0_1_1 f0_1_2 f0_1_3 f0_1_4 f0_1_5 f0_1_6 f0_1_7 f0_1_8 f0_1_9 HS0_1 hf0_1
  clear hg
  obtain ⟨f0_2_0, f0_2_1, f0_2_2, f0_2_3, f0_2_4, f0_2_5, f0_2_6, f0_2_7, f0_2_8, f0_2_9⟩ := str10 HS0_2.out
  have hl0_2 := HS0_2.out.lt
  have hf0_2 := fun j => HS0_2.out.frozen j
  rw [(num1 x l).2.1, (num1 x l).2.2] at HR_2
  rw [(num1 x l).1, hx]
  go_wp2_with fail
  generalize hW3 : W2.alloc (.cells #[.int .i64 0, .string ⟨#[]⟩, .int .i64 0, .string ⟨#[]⟩, .int .i64 0, .slice none 0 0, .int .i64 0, .int .i64 0, .int .i64 0, .int .i64 0] 38) = W3
  have HS0_3 : Hid (Str W3 (w.heap.size) #[.int .i64 0, .string ⟨#[]⟩, .int .i64 0, .string ⟨#[]⟩, .int .i64 0, .slice none 0 0, .int .i64 0, .int .i64 0, .int .i64 0, .int .i64 0]) := Lib.hid (by rw [← hW3]; exact HS0_2.out.alloc _)
  have HS1_3 : Hid (Str W3 W2.heap.size #[.int .i64 0, .string ⟨#[]⟩, .int .i64 0, .string ⟨#[]⟩, .int .i64 0, .slice none 0 0, .int .i64 0, .int .i64 0, .int .i64 0, .int .i64 0]) := Lib.hid (by rw [← hW3]; exact Str.new W2 #[.int .i64 0, .string ⟨#[]⟩, .int .i64 0, .string ⟨#[]⟩, .int .i64 0, .slice none 0 0, .int .i64 0, .int .i64 0, .int .i64 0, .int .i64 0] 38)
  have hba3 : Below W2.heap.size W2 W3 := by rw [← hW3]; exact balloc (bsame _) _
  have HB_3 := Lib.hid (bstep HB_2.out hba3)
  have hw_3 := HB_3.out.size
  have hws_3 := hba3.size
  have HR_3 := Lib.hid (HR_2.out.below hba3)
  clear HR_2
  clear hW3
  clear f0_2_0 f0_2_1 f0_2_2 f0_2_3 f0_2_4 f0_2_5 f0_2_6 f0_2_7 f0_2_8 f0_2_9 HS0_2 hf0_2
  obtain ⟨f0_3_0, f0_3_1, f0_3_2, f0_3_3, f0_3_4, f0_3_5, f0_3_6, f0_3_7, f0_3_8, f0_3_9⟩ := str10 HS0_3.out
  have hl0_3 := HS0_3.out.lt
  have hf0_3 := fun j => HS0_3.out.frozen j
  obtain ⟨f1_3_0, f1_3_1, f1_3_2, f1_3_3, f1_3_4, f1_3_5, f1_3_6, f1_3_7, f1_3_8, f1_3_9⟩ := str10 HS1_3.out
  have hl1_3 := HS1_3.out.lt
  clear hba3
  refine (ok_rd HR_3.out).mono ?_
  rintro e w_ ⟨rfl, rfl⟩
  go_wp2_with fail
  refine (ok_rd HR_3.out).mono ?_
  rintro e w_ ⟨rfl, rfl⟩
  go_wp2_with fail
  refine (check_any 0 ⟨#[]⟩ none 0 0 0 0 ⟨#[]⟩ 0 [] 0 0 0 0 _ (Bytes.none_ _ _) (Nat.zero_le _) (by decide) (by decide)).mono ?_
  rintro e W4 ⟨rfl, hb4⟩
  rw [show UndoP.right ⟨0, ⟨#[]⟩, ⟨0, ⟨#[]⟩, ⟨0, [], 0, 0, 0⟩⟩, 0⟩ = true from by decide +kernel, show CellP.code true = 0 from rfl]
  have HS0_4 := Lib.hid (HS0_3.out.next hb4)
  have HS1_4 := Lib.hid (HS1_3.out.next hb4)
  have HB_4 := Lib.hid (bstep HB_3.out hb4)
  have hw_4 := HB_4.out.size
  have hws_4 := (hb4).size
  have HR_4 := Lib.hid (HR_3.out.below hb4)
  clear HR_3
  clear f0_3_0 f0_3_1 f0_3_2 f0_3_3 f0_3_4 f0_3_5 f0_3_6 f0_3_7 f0_3_8 f0_3_9 HS0_3 hf0_3 f1_3_0 f1_3_1 f1_3_2 f1_3_3 f1_3_4 f1_3_5 f1_3_6 f1_3_7 f1_3_8 f1_3_9 HS1_3
  clear hb4
  obtain ⟨f0_4_0, f0_4_1, f0_4_2, f0_4_3, f0_4_4, f0_4_5, f0_4_6, f0_4_7, f0_4_8, f0_4_9⟩ := str10 HS0_4.out
  have hl0_4 := HS0_4.out.lt
  have hf0_4 := fun j => HS0_4.out.frozen j
  obtain ⟨f1_4_0, f1_4_1, f1_4_2, f1_4_3, f1_4_4, f1_4_5, f1_4_6, f1_4_7, f1_4_8, f1_4_9⟩ := str10 HS1_4.out
  have hl1_4 := HS1_4.out.lt
  go_wp2_with fail
  have hn9 : n = l.length + 1 := by have := HLN.out; simp at this; omega
  have HNL : Hid ((n : Int) - (l.length : Int) = 1) := Lib.hid (by omega)
  have hl9 : l.length ≤ 1000000 := by omega
  clear hn9
  obtain ⟨tr, htr⟩ := HS0_4.out
  have HT := Lib.hid htr
  clear htr
  have HG := Lib.hid (HS0_4.out.lt)
  refine Reg.wp_region_vals (R := (Reg.putW w.heap.size (.cells #[.int .i64 0, .string ⟨#[]⟩, .int .i64 0, .string ⟨#[]⟩, .int .i64 0, .slice none 0 0, .int .i64 0, .int .i64 0, .int .i64 0, .int .i64 0] tr (0, 0)))) (W := W4) [Reg.eqv (.agg #[.int .i64 0, .string ⟨#[]⟩, .int .i64 0, .string ⟨#[]⟩, .int .i64 0, .slice none 0 0, .int .i64 0, .int .i64 0, .int .i64 0, .int .i64 0]), Reg.eqv (.slice A n c), Reg.eqv (.int .i64 (n : Int)), Reg.eqv (.pointer (some ⟨b, 0, none⟩)), Reg.eqv (.int .i64 (l.length : Int)), Reg.eqv (.int .i64 ((n : Int) - (l.length : Int))), Reg.written w.heap.size (.cells #[.int .i64 0, .string ⟨#[]⟩, .int .i64 0, .string ⟨#[]⟩, .int .i64 0, .slice none 0 0, .int .i64 0, .int .i64 0, .int .i64 0, .int .i64 0] tr (0, 0)), Reg.eqv (.int .i64 ((n : Int) - (l.length : Int))), Reg.eqv (.int .i64 0)] 77 [[(6, none)], [(0, none)], [(72, some 1)], [(5, none)], [(74, some 3)], [(73, some 2), (75, some 4)], [(2, none), (71, some 0)], [(76, some 5)], []] rfl (by kernel_rfl) (by kernel_rfl) (by kernel_rfl) ?_ [some 71, some 72, some 73, some 74, some 75, some 76, none, some 3, some 4] (by kernel_rfl) ?_
  · refine ⟨?_, ?_, ?_, ?_, ?_, ?_, ?_, ?_, ?_, trivial⟩
    · intro ax wx hx hs
      obtain ⟨e6, -⟩ := hs
      have g6 := Reg.ev (v := .pointer (some ⟨W2.heap.size, 0, none⟩)) e6
      refine Reg.obl_free rfl ?_
      have hc := fun j => Reg.put_cell hx HG.out (W2.heap.size) j (by omega) (by omega)
      exact Reg.wp_eqv (Option.some_ne_none _) (by go_simp) rfl
    · intro ax wx hx hs
      obtain ⟨e0, -⟩ := hs
      have g0 := Reg.ev (v := .slice A n c) e0
      exact Reg.obl_free rfl (Reg.wp_eqv (Option.some_ne_none _) (by go_simp) rfl)
    · intro ax wx hx hs
      obtain ⟨e72, -⟩ := hs
      have g72 := Reg.ev (v := .slice A n c) e72
      exact Reg.obl_free rfl (Reg.wp_eqv (Option.some_ne_none _) (by go_simp) rfl)
    · intro ax wx hx hs
      obtain ⟨e5, -⟩ := hs
      have g5 := Reg.ev (v := .pointer (some ⟨b, 0, none⟩)) e5
      exact Reg.obl_free rfl (Reg.wp_eqv (Option.some_ne_none _) (by go_simp) rfl)
    · intro ax wx hx hs
      obtain ⟨e74, -⟩ := hs
      have g74 := Reg.ev (v := .pointer (some ⟨b, 0, none⟩)) e74
      refine Reg.obl_free rfl ?_
      have hrd := Rd.grown HR_4.out (Nat.le_refl _) HS0_4.out rfl (Reg.put_grown hx HG.out) (by omega)
      go_simp
      refine (RdW.left_any b _ _ _ hrd).mono ?_
      rintro e wy ⟨rfl, rfl⟩
      exact Reg.done (Option.some_ne_none _) (by first | rfl | simp) (Reg.put_below (bsame _))
    · intro ax wx hx hs
      obtain ⟨e73, e75, -⟩ := hs
      have g73 := Reg.ev (v := .int .i64 (n : Int)) e73
      have g75 := Reg.ev (v := .int .i64 (l.length : Int)) e75
      refine Reg.obl_free rfl ?_
      exact Reg.wp_eqv (Option.some_ne_none _) (by go_simp; exact IntWalk.i64_in _ (by omega)) rfl
    · intro ax wx hx hs
      obtain ⟨e2, e71, -⟩ := hs
      have g2 := Reg.ev (v := .pointer (some ⟨w.heap.size, 0, none⟩)) e2
      have g71 := Reg.ev (v := .agg #[.int .i64 0, .string ⟨#[]⟩, .int .i64 0, .string ⟨#[]⟩, .int .i64 0, .slice none 0 0, .int .i64 0, .int .i64 0, .int .i64 0, .int .i64 0]) e71
      refine Reg.obl_free rfl ?_
      rcases Reg.put_str hx HT.out with hgs | hgs
      all_goals
        have hS : Str wx w.heap.size _ := ⟨_, hgs⟩
        obtain ⟨y0, y1, y2, y3, y4, y5, y6, y7, y8, y9⟩ := str10 hS
        have hfz := fun j => hS.frozen j
        have ho : _ := Reg.setStr_heap (Reg.setStr_heap (Reg.setStr_heap (Reg.setStr_heap (Reg.setStr_heap (Reg.setStr_heap (Reg.setStr_heap (Reg.setStr_heap (Reg.setStr_heap (Reg.setStr_heap (hgs) 0 (.int .i64 0)) 1 (.string ⟨#[]⟩)) 2 (.int .i64 0)) 3 (.string ⟨#[]⟩)) 4 (.int .i64 0)) 5 (.slice none 0 0)) 6 (.int .i64 0)) 7 (.int .i64 0)) 8 (.int .i64 0)) 9 (.int .i64 0)
        go_simp
        exact ⟨undef, rfl, fun _ => rfl, (show _ = some _ from (by simpa using ho)), Reg.put_set (grown_set (grown_set (grown_set (grown_set (grown_set (grown_set (grown_set (grown_set (grown_set (grown_set (grown_refl wx _) 0 _) 1 _) 2 _) 3 _) 4 _) 5 _) 6 _) 7 _) 8 _) 9 _) (by simpa using ho)⟩
    · intro ax wx hx hs
      obtain ⟨e76, -⟩ := hs
      have g76 := Reg.ev (v := .int .i64 ((n : Int) - (l.length : Int))) e76
      exact Reg.obl_free rfl (Reg.wp_eqv (Option.some_ne_none _) (by go_simp) rfl)
    · intro ax wx hx hs
      exact Reg.obl_free rfl (Reg.wp_eqv (Option.some_ne_none _) (by go_simp) rfl)
  · intro W5 hwf
    simp only [Reg.Fin]
    rintro _ rfl _ rfl _ rfl _ rfl _ rfl _ rfl vn6 hn6 _ rfl _ rfl
    go_simp
    have hgr := Reg.put_grown hwf HG.out
    have HSF : Hid (Str W5 w.heap.size #[.int .i64 0, .string ⟨#[]⟩, .int .i64 0, .string ⟨#[]⟩, .int .i64 0, .slice none 0 0, .int .i64 0, .int .i64 0, .int .i64 0, .int .i64 0]) := Lib.hid ⟨_, hn6⟩
    have HBF := Lib.hid (below_grown HB_4.out hgr (by omega))
    clear hgr hwf hn6
    obtain ⟨z0, z1, z2, z3, z4, z5, z6, z7, z8, z9⟩ := str10 HSF.out
    have hlk := HSF.out.lt
    go_wp2_with fail
    refine bodyPost_ret (v := .tuple #[.agg #[.int .i64 0, .string ⟨#[]⟩, .int .i64 0, .string ⟨#[]⟩, .int .i64 0, .slice none 0 0, .int .i64 0, .int .i64 0, .int .i64 0, .int .i64 0], .int .i64 ((n : Int) - (l.length : Int)), .int .i64 0]) (by simp [results, Tryz.results90, go_sem, z0, z1, z2, z3, z4, z5, z6, z7, z8, z9]) rfl ?_
    rw [HNL.out]
    exact ⟨none, 0, 0, rfl, ⟨Bytes.none_ _ _, fun a e => by cases e⟩, HBF.out⟩

set_option maxRecDepth 100000 in
set_option maxHeartbeats 1000000 in
theorem get_2 (A : Option Addr) (n c B : Nat) (x : UInt8) (l : List UInt8) (w : World) (h : Bytes w B A n c (x :: l)) (hB : B ≤ w.heap.size) (hn : n ≤ 1000000) (hx : (x.toNat : Int) = 2) : Calls Tryz.prog 90 #[.slice A n c] w (NewUndo w (UndoP.get (x :: l))) := by
  have Hh := Lib.hid h
  have hln := h.len
  have HLN := Lib.hid hln
  clear h hln
  go_enter Tryz.func90, Tryz.ntmps90
  go_wp2_with fail
  generalize hW0 : (w).alloc (.cells #[.int .i64 0, .string ⟨#[]⟩, .int .i64 0, .string ⟨#[]⟩, .int .i64 0, .slice none 0 0, .int .i64 0, .int .i64 0, .int .i64 0, .int .i64 0] 38) = W0
  have HS0_0 : Hid (Str W0 (w.heap.size) #[.int .i64 0, .string ⟨#[]⟩, .int .i64 0, .string ⟨#[]⟩, .int .i64 0, .slice none 0 0, .int .i64 0, .int .i64 0, .int .i64 0, .int .i64 0]) := Lib.hid (by rw [← hW0]; have := Str.new (w) #[.int .i64 0, .string ⟨#[]⟩, .int .i64 0, .string ⟨#[]⟩, .int .i64 0, .slice none 0 0, .int .i64 0, .int .i64 0, .int .i64 0, .int .i64 0] 38; simpa using this)
  have HB_0 : Hid (Below w.heap.size w W0) := Lib.hid (by rw [← hW0]; exact balloc (bsame w) _)
  have hw_0 := HB_0.out.size
  clear hW0
  obtain ⟨f0_0_0, f0_0_1, f0_0_2, f0_0_3, f0_0_4, f0_0_5, f0_0_6, f0_0_7, f0_0_8, f0_0_9⟩ := str10 HS0_0.out
  have hl0_0 := HS0_0.out.lt
  have hf0_0 := fun j => HS0_0.out.frozen j
  refine (RdW.read_any A n c B (x :: l) _ (Hh.out.below (HB_0.out.mono hB)) (by omega) (by omega)).mono ?_
  rintro e W1 ⟨b, rfl, hbb, hR, hb1⟩
  have HS0_1 := Lib.hid (HS0_0.out.next hb1)
  have HB_1 := Lib.hid (bstep HB_0.out hb1)
  have hw_1 := HB_1.out.size
  have hws_1 := (hb1).size
  clear f0_0_0 f0_0_1 f0_0_2 f0_0_3 f0_0_4 f0_0_5 f0_0_6 f0_0_7 f0_0_8 f0_0_9 HS0_0 hf0_0
  clear hb1
  obtain ⟨f0_1_0, f0_1_1, f0_1_2, f0_1_3, f0_1_4, f0_1_5, f0_1_6, f0_1_7, f0_1_8, f0_1_9⟩ := str10 HS0_1.out
  have hl0_1 := HS0_1.out.lt
  have hf0_1 := fun j => HS0_1.out.frozen j
  have HR_1 := Lib.hid hR
  have hbl := hR.lt
  clear hR
  go_wp2_with fail
  refine (RdW.num_any b _ _ 1 _ HR_1.out (by omega) (by omega)).mono ?_
  rintro e W2 ⟨rfl, hR, hg⟩
  have HR_2 := Lib.hid hR
  clear HR_1 hR
  have HS0_2 := Lib.hid (HS0_1.out.grown hg (by omega))
  have HB_2 := Lib.hid (below_grown HB_1.out hg (by omega))
  have hw_2 := HB_2.out.size
  have hws_2 := (hg).size
  clear f0_1_0 f0_1_1 f0_1_2 f0_1_3 f0_1_4 f0_1_5 f0_1_6 f0_1_7 f0_1_8 f0_1_9 HS0_1 hf0_1
  clear hg
  obtain ⟨f0_2_0, f0_2_1, f0_2_2, f0_2_3, f0_2_4, f0_2_5, f0_2_6, f0_2_7, f0_2_8, f0_2_9⟩ := str10 HS0_2.out
  have hl0_2 := HS0_2.out.lt
  have hf0_2 := fun j => HS0_2.out.frozen j
  rw [(num1 x l).2.1, (num1 x l).2.2] at HR_2
  rw [(num1 x l).1, hx]
  go_wp2_with fail
  generalize hW3 : W2.alloc (.cells #[.int .i64 2, .string ⟨#[]⟩, .int .i64 0, .string ⟨#[]⟩, .int .i64 0, .slice none 0 0, .int .i64 0, .int .i64 0, .int .i64 0, .int .i64 0] 38) = W3
  have HS0_3 : Hid (Str W3 (w.heap.size) #[.int .i64 0, .string ⟨#[]⟩, .int .i64 0, .string ⟨#[]⟩, .int .i64 0, .slice none 0 0, .int .i64 0, .int .i64 0, .int .i64 0, .int .i64 0]) := Lib.hid (by rw [← hW3]; exact HS0_2.out.alloc _)
  have HS1_3 : Hid (Str W3 W2.heap.size #[.int .i64 2, .string ⟨#[]⟩, .int .i64 0, .string ⟨#[]⟩, .int .i64 0, .slice none 0 0, .int .i64 0, .int .i64 0, .int .i64 0, .int .i64 0]) := Lib.hid (by rw [← hW3]; exact Str.new W2 #[.int .i64 2, .string ⟨#[]⟩, .int .i64 0, .string ⟨#[]⟩, .int .i64 0, .slice none 0 0, .int .i64 0, .int .i64 0, .int .i64 0, .int .i64 0] 38)
  have hba3 : Below W2.heap.size W2 W3 := by rw [← hW3]; exact balloc (bsame _) _
  have HB_3 := Lib.hid (bstep HB_2.out hba3)
  have hw_3 := HB_3.out.size
  have hws_3 := hba3.size
  have HR_3 := Lib.hid (HR_2.out.below hba3)
  clear HR_2
  clear hW3
  clear f0_2_0 f0_2_1 f0_2_2 f0_2_3 f0_2_4 f0_2_5 f0_2_6 f0_2_7 f0_2_8 f0_2_9 HS0_2 hf0_2
  obtain ⟨f0_3_0, f0_3_1, f0_3_2, f0_3_3, f0_3_4, f0_3_5, f0_3_6, f0_3_7, f0_3_8, f0_3_9⟩ := str10 HS0_3.out
  have hl0_3 := HS0_3.out.lt
  have hf0_3 := fun j => HS0_3.out.frozen j
  obtain ⟨f1_3_0, f1_3_1, f1_3_2, f1_3_3, f1_3_4, f1_3_5, f1_3_6, f1_3_7, f1_3_8, f1_3_9⟩ := str10 HS1_3.out
  have hl1_3 := HS1_3.out.lt
  clear hba3
  refine (ok_rd HR_3.out).mono ?_
  rintro e w_ ⟨rfl, rfl⟩
  go_wp2_with fail
  refine (RdW.num_any b _ _ 1 _ HR_3.out (by omega) (by omega)).mono ?_
  rintro e W4 ⟨rfl, hR, hg⟩
  have HR_4 := Lib.hid hR
  clear HR_3 hR
  have HS0_4 := Lib.hid (HS0_3.out.grown hg (by omega))
  have HS1_4 := Lib.hid (HS1_3.out.grown hg (by omega))
  have HB_4 := Lib.hid (below_grown HB_3.out hg (by omega))
  have hw_4 := HB_4.out.size
  have hws_4 := (hg).size
  clear f0_3_0 f0_3_1 f0_3_2 f0_3_3 f0_3_4 f0_3_5 f0_3_6 f0_3_7 f0_3_8 f0_3_9 HS0_3 hf0_3 f1_3_0 f1_3_1 f1_3_2 f1_3_3 f1_3_4 f1_3_5 f1_3_6 f1_3_7 f1_3_8 f1_3_9 HS1_3
  clear hg
  obtain ⟨f0_4_0, f0_4_1, f0_4_2, f0_4_3, f0_4_4, f0_4_5, f0_4_6, f0_4_7, f0_4_8, f0_4_9⟩ := str10 HS0_4.out
  have hl0_4 := HS0_4.out.lt
  have hf0_4 := fun j => HS0_4.out.frozen j
  obtain ⟨f1_4_0, f1_4_1, f1_4_2, f1_4_3, f1_4_4, f1_4_5, f1_4_6, f1_4_7, f1_4_8, f1_4_9⟩ := str10 HS1_4.out
  have hl1_4 := HS1_4.out.lt
  rw [UndoP.numV_k1 l]
  have hk1 := UndoP.k1_le l
  go_wp2_with fail
  refine (RdW.bytes_any b (UndoP.L2 l) (UndoP.b2 l) (UndoP.k1 l) _ HR_4.out (by omega)).mono ?_
  rintro e W5 ⟨A5, n5, c5, rfl, hy5, hR, hg⟩
  have HR_5 := Lib.hid hR
  clear HR_4 hR
  have HS0_5 := Lib.hid (HS0_4.out.grown hg (by omega))
  have HS1_5 := Lib.hid (HS1_4.out.grown hg (by omega))
  have HB_5 := Lib.hid (below_grown HB_4.out hg (by omega))
  have hw_5 := HB_5.out.size
  have hws_5 := (hg).size
  clear f0_4_0 f0_4_1 f0_4_2 f0_4_3 f0_4_4 f0_4_5 f0_4_6 f0_4_7 f0_4_8 f0_4_9 HS0_4 hf0_4 f1_4_0 f1_4_1 f1_4_2 f1_4_3 f1_4_4 f1_4_5 f1_4_6 f1_4_7 f1_4_8 f1_4_9 HS1_4
  clear hg
  obtain ⟨f0_5_0, f0_5_1, f0_5_2, f0_5_3, f0_5_4, f0_5_5, f0_5_6, f0_5_7, f0_5_8, f0_5_9⟩ := str10 HS0_5.out
  have hl0_5 := HS0_5.out.lt
  have hf0_5 := fun j => HS0_5.out.frozen j
  obtain ⟨f1_5_0, f1_5_1, f1_5_2, f1_5_3, f1_5_4, f1_5_5, f1_5_6, f1_5_7, f1_5_8, f1_5_9⟩ := str10 HS1_5.out
  have hl1_5 := HS1_5.out.lt
  have hy6 : Bytes W5 W5.heap.size A5 n5 c5 (UndoP.K l) := hy5
  have hcv := run_str (P := Tryz.prog) 32 9 5 Tryz.underlying32 Tryz.underlying5 Tryz.underlying9 hy6
  have HKS : Hid ((strOf (UndoP.K l)).size ≤ maxLen) := Lib.hid (by show (UndoP.K l).length ≤ maxLen; rw [hy6.len]; exact Nat.le_trans hy6.2.1 hy6.2.2.1)
  clear hy5 hy6
  have hfu := fun j => HS1_5.out.frozen j
  go_wp2_with fail
  generalize hW6 : (W5).setCell ⟨W2.heap.size, 1, none⟩ (.string (strOf (UndoP.K l))) = W6
  have HS0_6 : Hid (Str W6 (w.heap.size) #[.int .i64 0, .string ⟨#[]⟩, .int .i64 0, .string ⟨#[]⟩, .int .i64 0, .slice none 0 0, .int .i64 0, .int .i64 0, .int .i64 0, .int .i64 0]) := Lib.hid (by rw [← hW6]; exact (HS0_5.out).other 1 _ (by omega))
  have HS1_6 : Hid (Str W6 (W2.heap.size) #[.int .i64 2, .string (strOf (UndoP.K l)), .int .i64 0, .string ⟨#[]⟩, .int .i64 0, .slice none 0 0, .int .i64 0, .int .i64 0, .int .i64 0, .int .i64 0]) := Lib.hid (by rw [← hW6]; have := (HS1_5.out).set 1 (.string (strOf (UndoP.K l))); simpa using this)
  have hgr6 : W5.grownBy W6 (some (W2.heap.size)) := by rw [← hW6]; exact grown_set (grown_refl W5 (W2.heap.size)) 1 (.string (strOf (UndoP.K l)))
  have HB_6 := Lib.hid (below_grown HB_5.out hgr6 (by omega))
  have hw_6 := HB_6.out.size
  have hws_6 := hgr6.size
  have HR_6 := Lib.hid ((Rd.grown HR_5.out (Nat.le_refl _) HS1_5.out rfl hgr6 (by omega)))
  clear HR_5
  clear hW6
  clear f0_5_0 f0_5_1 f0_5_2 f0_5_3 f0_5_4 f0_5_5 f0_5_6 f0_5_7 f0_5_8 f0_5_9 HS0_5 hf0_5 f1_5_0 f1_5_1 f1_5_2 f1_5_3 f1_5_4 f1_5_5 f1_5_6 f1_5_7 f1_5_8 f1_5_9 HS1_5
  clear hgr6
  obtain ⟨f0_6_0, f0_6_1, f0_6_2, f0_6_3, f0_6_4, f0_6_5, f0_6_6, f0_6_7, f0_6_8, f0_6_9⟩ := str10 HS0_6.out
  have hl0_6 := HS0_6.out.lt
  have hf0_6 := fun j => HS0_6.out.frozen j
  obtain ⟨f1_6_0, f1_6_1, f1_6_2, f1_6_3, f1_6_4, f1_6_5, f1_6_6, f1_6_7, f1_6_8, f1_6_9⟩ := str10 HS1_6.out
  have hl1_6 := HS1_6.out.lt
  clear hcv hfu
  refine (RdW.num_any b _ _ 8 _ HR_6.out (by omega) (by omega)).mono ?_
  rintro e W7 ⟨rfl, hR, hg⟩
  have HR_7 := Lib.hid hR
  clear HR_6 hR
  have HS0_7 := Lib.hid (HS0_6.out.grown hg (by omega))
  have HS1_7 := Lib.hid (HS1_6.out.grown hg (by omega))
  have HB_7 := Lib.hid (below_grown HB_6.out hg (by omega))
  have hw_7 := HB_7.out.size
  have hws_7 := (hg).size
  clear f0_6_0 f0_6_1 f0_6_2 f0_6_3 f0_6_4 f0_6_5 f0_6_6 f0_6_7 f0_6_8 f0_6_9 HS0_6 hf0_6 f1_6_0 f1_6_1 f1_6_2 f1_6_3 f1_6_4 f1_6_5 f1_6_6 f1_6_7 f1_6_8 f1_6_9 HS1_6
  clear hg
  obtain ⟨f0_7_0, f0_7_1, f0_7_2, f0_7_3, f0_7_4, f0_7_5, f0_7_6, f0_7_7, f0_7_8, f0_7_9⟩ := str10 HS0_7.out
  have hl0_7 := HS0_7.out.lt
  have hf0_7 := fun j => HS0_7.out.frozen j
  obtain ⟨f1_7_0, f1_7_1, f1_7_2, f1_7_3, f1_7_4, f1_7_5, f1_7_6, f1_7_7, f1_7_8, f1_7_9⟩ := str10 HS1_7.out
  have hl1_7 := HS1_7.out.lt
  have hR : Rd W7 b (UndoP.L4 l) (UndoP.b4 l) := HR_7.out
  clear HR_7
  have HR_7 := Lib.hid hR
  clear hR
  have hfu := fun j => HS1_7.out.frozen j
  rw [show RdP.numV (RdP.tl (UndoP.L2 l) (UndoP.b2 l) (UndoP.k1 l)) (RdP.tb (UndoP.L2 l) (UndoP.b2 l) (UndoP.k1 l)) 8 = UndoP.N4 l from rfl]
  go_wp2_with fail
  generalize hW8 : (W7).setCell ⟨W2.heap.size, 9, none⟩ (.int .i64 (UndoP.N4 l)) = W8
  have HS0_8 : Hid (Str W8 (w.heap.size) #[.int .i64 0, .string ⟨#[]⟩, .int .i64 0, .string ⟨#[]⟩, .int .i64 0, .slice none 0 0, .int .i64 0, .int .i64 0, .int .i64 0, .int .i64 0]) := Lib.hid (by rw [← hW8]; exact (HS0_7.out).other 9 _ (by omega))
  have HS1_8 : Hid (Str W8 (W2.heap.size) #[.int .i64 2, .string (strOf (UndoP.K l)), .int .i64 0, .string ⟨#[]⟩, .int .i64 0, .slice none 0 0, .int .i64 0, .int .i64 0, .int .i64 0, .int .i64 (UndoP.N4 l)]) := Lib.hid (by rw [← hW8]; have := (HS1_7.out).set 9 (.int .i64 (UndoP.N4 l)); simpa using this)
  have hgr8 : W7.grownBy W8 (some (W2.heap.size)) := by rw [← hW8]; exact grown_set (grown_refl W7 (W2.heap.size)) 9 (.int .i64 (UndoP.N4 l))
  have HB_8 := Lib.hid (below_grown HB_7.out hgr8 (by omega))
  have hw_8 := HB_8.out.size
  have hws_8 := hgr8.size
  have HR_8 := Lib.hid ((Rd.grown HR_7.out (Nat.le_refl _) HS1_7.out rfl hgr8 (by omega)))
  clear HR_7
  clear hW8
  clear f0_7_0 f0_7_1 f0_7_2 f0_7_3 f0_7_4 f0_7_5 f0_7_6 f0_7_7 f0_7_8 f0_7_9 HS0_7 hf0_7 f1_7_0 f1_7_1 f1_7_2 f1_7_3 f1_7_4 f1_7_5 f1_7_6 f1_7_7 f1_7_8 f1_7_9 HS1_7
  clear hgr8
  obtain ⟨f0_8_0, f0_8_1, f0_8_2, f0_8_3, f0_8_4, f0_8_5, f0_8_6, f0_8_7, f0_8_8, f0_8_9⟩ := str10 HS0_8.out
  have hl0_8 := HS0_8.out.lt
  have hf0_8 := fun j => HS0_8.out.frozen j
  obtain ⟨f1_8_0, f1_8_1, f1_8_2, f1_8_3, f1_8_4, f1_8_5, f1_8_6, f1_8_7, f1_8_8, f1_8_9⟩ := str10 HS1_8.out
  have hl1_8 := HS1_8.out.lt
  clear hfu
  refine (ok_rd HR_8.out).mono ?_
  rintro e w_ ⟨rfl, rfl⟩
  cases hb4 : UndoP.b4 l
  case true =>
    have HE : Hid (UndoP.get (x :: l) = (UndoP.none, 0, 13)) := Lib.hid (UndoP.get_short4 x l (by omega) hb4)
    clear HR_8
    go_wp2_with fail
    generalize hW9 : ((((((((((W8).setCell ⟨w.heap.size, 0, none⟩ (.int .i64 0)).setCell ⟨w.heap.size, 1, none⟩ (.string ⟨#[]⟩)).setCell ⟨w.heap.size, 2, none⟩ (.int .i64 0)).setCell ⟨w.heap.size, 3, none⟩ (.string ⟨#[]⟩)).setCell ⟨w.heap.size, 4, none⟩ (.int .i64 0)).setCell ⟨w.heap.size, 5, none⟩ (.slice none 0 0)).setCell ⟨w.heap.size, 6, none⟩ (.int .i64 0)).setCell ⟨w.heap.size, 7, none⟩ (.int .i64 0)).setCell ⟨w.heap.size, 8, none⟩ (.int .i64 0)).setCell ⟨w.heap.size, 9, none⟩ (.int .i64 0) = W9
    have HS0_9 : Hid (Str W9 (w.heap.size) #[.int .i64 0, .string ⟨#[]⟩, .int .i64 0, .string ⟨#[]⟩, .int .i64 0, .slice none 0 0, .int .i64 0, .int .i64 0, .int .i64 0, .int .i64 0]) := Lib.hid (by rw [← hW9]; have := ((((((((((HS0_8.out).set 0 (.int .i64 0)).set 1 (.string ⟨#[]⟩)).set 2 (.int .i64 0)).set 3 (.string ⟨#[]⟩)).set 4 (.int .i64 0)).set 5 (.slice none 0 0)).set 6 (.int .i64 0)).set 7 (.int .i64 0)).set 8 (.int .i64 0)).set 9 (.int .i64 0); simpa using this)
    have HS1_9 : Hid (Str W9 (W2.heap.size) #[.int .i64 2, .string (strOf (UndoP.K l)), .int .i64 0, .string ⟨#[]⟩, .int .i64 0, .slice none 0 0, .int .i64 0, .int .i64 0, .int .i64 0, .int .i64 (UndoP.N4 l)]) := Lib.hid (by rw [← hW9]; exact ((((((((((HS1_8.out).other 0 _ (by omega)).other 1 _ (by omega)).other 2 _ (by omega)).other 3 _ (by omega)).other 4 _ (by omega)).other 5 _ (by omega)).other 6 _ (by omega)).other 7 _ (by omega)).other 8 _ (by omega)).other 9 _ (by omega))
    have hgr9 : W8.grownBy W9 (some (w.heap.size)) := by rw [← hW9]; exact grown_set (grown_set (grown_set (grown_set (grown_set (grown_set (grown_set (grown_set (grown_set (grown_set (grown_refl W8 (w.heap.size)) 0 (.int .i64 0)) 1 (.string ⟨#[]⟩)) 2 (.int .i64 0)) 3 (.string ⟨#[]⟩)) 4 (.int .i64 0)) 5 (.slice none 0 0)) 6 (.int .i64 0)) 7 (.int .i64 0)) 8 (.int .i64 0)) 9 (.int .i64 0)
    have HB_9 := Lib.hid (below_grown HB_8.out hgr9 (by omega))
    have hw_9 := HB_9.out.size
    have hws_9 := hgr9.size
    clear hW9
    clear f0_8_0 f0_8_1 f0_8_2 f0_8_3 f0_8_4 f0_8_5 f0_8_6 f0_8_7 f0_8_8 f0_8_9 HS0_8 hf0_8 f1_8_0 f1_8_1 f1_8_2 f1_8_3 f1_8_4 f1_8_5 f1_8_6 f1_8_7 f1_8_8 f1_8_9 HS1_8
    clear hgr9
    obtain ⟨f0_9_0, f0_9_1, f0_9_2, f0_9_3, f0_9_4, f0_9_5, f0_9_6, f0_9_7, f0_9_8, f0_9_9⟩ := str10 HS0_9.out
    have hl0_9 := HS0_9.out.lt
    have hf0_9 := fun j => HS0_9.out.frozen j
    obtain ⟨f1_9_0, f1_9_1, f1_9_2, f1_9_3, f1_9_4, f1_9_5, f1_9_6, f1_9_7, f1_9_8, f1_9_9⟩ := str10 HS1_9.out
    have hl1_9 := HS1_9.out.lt
    refine bodyPost_ret (v := .tuple #[.agg #[.int .i64 0, .string ⟨#[]⟩, .int .i64 0, .string ⟨#[]⟩, .int .i64 0, .slice none 0 0, .int .i64 0, .int .i64 0, .int .i64 0, .int .i64 0], .int .i64 0, .int .i64 13]) (by simp [results, Tryz.results90, go_sem, *]) rfl ?_
    rw [HE.out]
    exact ⟨none, 0, 0, rfl, ⟨Bytes.none_ _ _, fun a e => by cases e⟩, HB_9.out⟩
  case false =>
    have HG4 := Lib.hid (UndoP.get_full4 x l (by omega) hb4)
    have hxn : x.toNat = 2 := by omega
    rw [hxn] at HG4
    rw [hb4] at HR_8
    clear hxn hb4
    go_wp2_with fail
    refine (check_any 2 (strOf (UndoP.K l)) none 0 0 0 0 ⟨#[]⟩ 0 [] 0 0 0 (UndoP.N4 l) _ (Bytes.none_ _ _) (Nat.zero_le _) (by decide) HKS.out).mono ?_
    rintro e W9 ⟨rfl, hb9⟩
    rw [show UndoP.right ⟨2, strOf (UndoP.K l), ⟨0, ⟨#[]⟩, ⟨0, [], 0, 0, 0⟩⟩, UndoP.N4 l⟩ = UndoP.right (UndoP.U4 2 l) from rfl]
    have HS0_9 := Lib.hid (HS0_8.out.next hb9)
    have HS1_9 := Lib.hid (HS1_8.out.next hb9)
    have HB_9 := Lib.hid (bstep HB_8.out hb9)
    have hw_9 := HB_9.out.size
    have hws_9 := (hb9).size
    have HR_9 := Lib.hid (HR_8.out.below hb9)
    clear HR_8
    clear f0_8_0 f0_8_1 f0_8_2 f0_8_3 f0_8_4 f0_8_5 f0_8_6 f0_8_7 f0_8_8 f0_8_9 HS0_8 hf0_8 f1_8_0 f1_8_1 f1_8_2 f1_8_3 f1_8_4 f1_8_5 f1_8_6 f1_8_7 f1_8_8 f1_8_9 HS1_8
    clear hb9
    obtain ⟨f0_9_0, f0_9_1, f0_9_2, f0_9_3, f0_9_4, f0_9_5, f0_9_6, f0_9_7, f0_9_8, f0_9_9⟩ := str10 HS0_9.out
    have hl0_9 := HS0_9.out.lt
    have hf0_9 := fun j => HS0_9.out.frozen j
    obtain ⟨f1_9_0, f1_9_1, f1_9_2, f1_9_3, f1_9_4, f1_9_5, f1_9_6, f1_9_7, f1_9_8, f1_9_9⟩ := str10 HS1_9.out
    have hl1_9 := HS1_9.out.lt
    cases hr : UndoP.right (UndoP.U4 2 l)
    case false =>
      have HE : Hid (UndoP.get (x :: l) = (UndoP.none, 0, 12)) := Lib.hid (by rw [HG4.out, if_neg (by rw [hr]; simp)])
      rw [show CellP.code false = 1 from rfl]
      clear HR_9
      go_wp2_with fail
      generalize hW10 : ((((((((((W9).setCell ⟨w.heap.size, 0, none⟩ (.int .i64 0)).setCell ⟨w.heap.size, 1, none⟩ (.string ⟨#[]⟩)).setCell ⟨w.heap.size, 2, none⟩ (.int .i64 0)).setCell ⟨w.heap.size, 3, none⟩ (.string ⟨#[]⟩)).setCell ⟨w.heap.size, 4, none⟩ (.int .i64 0)).setCell ⟨w.heap.size, 5, none⟩ (.slice none 0 0)).setCell ⟨w.heap.size, 6, none⟩ (.int .i64 0)).setCell ⟨w.heap.size, 7, none⟩ (.int .i64 0)).setCell ⟨w.heap.size, 8, none⟩ (.int .i64 0)).setCell ⟨w.heap.size, 9, none⟩ (.int .i64 0) = W10
      have HS0_10 : Hid (Str W10 (w.heap.size) #[.int .i64 0, .string ⟨#[]⟩, .int .i64 0, .string ⟨#[]⟩, .int .i64 0, .slice none 0 0, .int .i64 0, .int .i64 0, .int .i64 0, .int .i64 0]) := Lib.hid (by rw [← hW10]; have := ((((((((((HS0_9.out).set 0 (.int .i64 0)).set 1 (.string ⟨#[]⟩)).set 2 (.int .i64 0)).set 3 (.string ⟨#[]⟩)).set 4 (.int .i64 0)).set 5 (.slice none 0 0)).set 6 (.int .i64 0)).set 7 (.int .i64 0)).set 8 (.int .i64 0)).set 9 (.int .i64 0); simpa using this)
      have HS1_10 : Hid (Str W10 (W2.heap.size) #[.int .i64 2, .string (strOf (UndoP.K l)), .int .i64 0, .string ⟨#[]⟩, .int .i64 0, .slice none 0 0, .int .i64 0, .int .i64 0, .int .i64 0, .int .i64 (UndoP.N4 l)]) := Lib.hid (by rw [← hW10]; exact ((((((((((HS1_9.out).other 0 _ (by omega)).other 1 _ (by omega)).other 2 _ (by omega)).other 3 _ (by omega)).other 4 _ (by omega)).other 5 _ (by omega)).other 6 _ (by omega)).other 7 _ (by omega)).other 8 _ (by omega)).other 9 _ (by omega))
      have hgr10 : W9.grownBy W10 (some (w.heap.size)) := by rw [← hW10]; exact grown_set (grown_set (grown_set (grown_set (grown_set (grown_set (grown_set (grown_set (grown_set (grown_set (grown_refl W9 (w.heap.size)) 0 (.int .i64 0)) 1 (.string ⟨#[]⟩)) 2 (.int .i64 0)) 3 (.string ⟨#[]⟩)) 4 (.int .i64 0)) 5 (.slice none 0 0)) 6 (.int .i64 0)) 7 (.int .i64 0)) 8 (.int .i64 0)) 9 (.int .i64 0)
      have HB_10 := Lib.hid (below_grown HB_9.out hgr10 (by omega))
      have hw_10 := HB_10.out.size
      have hws_10 := hgr10.size
      clear hW10
      clear f0_9_0 f0_9_1 f0_9_2 f0_9_3 f0_9_4 f0_9_5 f0_9_6 f0_9_7 f0_9_8 f0_9_9 HS0_9 hf0_9 f1_9_0 f1_9_1 f1_9_2 f1_9_3 f1_9_4 f1_9_5 f1_9_6 f1_9_7 f1_9_8 f1_9_9 HS1_9
      clear hgr10
      obtain ⟨f0_10_0, f0_10_1, f0_10_2, f0_10_3, f0_10_4, f0_10_5, f0_10_6, f0_10_7, f0_10_8, f0_10_9⟩ := str10 HS0_10.out
      have hl0_10 := HS0_10.out.lt
      have hf0_10 := fun j => HS0_10.out.frozen j
      obtain ⟨f1_10_0, f1_10_1, f1_10_2, f1_10_3, f1_10_4, f1_10_5, f1_10_6, f1_10_7, f1_10_8, f1_10_9⟩ := str10 HS1_10.out
      have hl1_10 := HS1_10.out.lt
      refine bodyPost_ret (v := .tuple #[.agg #[.int .i64 0, .string ⟨#[]⟩, .int .i64 0, .string ⟨#[]⟩, .int .i64 0, .slice none 0 0, .int .i64 0, .int .i64 0, .int .i64 0, .int .i64 0], .int .i64 0, .int .i64 12]) (by simp [results, Tryz.results90, go_sem, *]) rfl ?_
      rw [HE.out]
      exact ⟨none, 0, 0, rfl, ⟨Bytes.none_ _ _, fun a e => by cases e⟩, HB_10.out⟩
    case true =>
      have HE : Hid (UndoP.get (x :: l) = ((UndoP.U4 2 l), ((l.length + 1 : Nat) : Int) - ((UndoP.L4 l).length : Int), 0)) := Lib.hid (by rw [HG4.out, if_pos hr])
      rw [show CellP.code true = 0 from rfl]
      have hn9 : n = l.length + 1 := by have := HLN.out; simp at this; omega
      have HNL : Hid ((n : Int) = ((l.length + 1 : Nat) : Int)) := Lib.hid (by omega)
      have hL4 : (UndoP.L4 l).length ≤ 1000000 := by have := UndoP.L4_le l; omega
      clear hn9
      go_wp2_with fail
      obtain ⟨tr, htr⟩ := HS0_9.out
      have HT := Lib.hid htr
      clear htr
      have HG := Lib.hid (HS0_9.out.lt)
      refine Reg.wp_region_vals (R := (Reg.putW w.heap.size (.cells #[.int .i64 2, .string (strOf (UndoP.K l)), .int .i64 0, .string ⟨#[]⟩, .int .i64 0, .slice none 0 0, .int .i64 0, .int .i64 0, .int .i64 0, .int .i64 (UndoP.N4 l)] tr (0, 0)))) (W := W9) [Reg.eqv (.agg #[.int .i64 2, .string (strOf (UndoP.K l)), .int .i64 0, .string ⟨#[]⟩, .int .i64 0, .slice none 0 0, .int .i64 0, .int .i64 0, .int .i64 0, .int .i64 (UndoP.N4 l)]), Reg.eqv (.slice A n c), Reg.eqv (.int .i64 (n : Int)), Reg.eqv (.pointer (some ⟨b, 0, none⟩)), Reg.eqv (.int .i64 ((UndoP.L4 l).length : Int)), Reg.eqv (.int .i64 ((n : Int) - ((UndoP.L4 l).length : Int))), Reg.written w.heap.size (.cells #[.int .i64 2, .string (strOf (UndoP.K l)), .int .i64 0, .string ⟨#[]⟩, .int .i64 0, .slice none 0 0, .int .i64 0, .int .i64 0, .int .i64 0, .int .i64 (UndoP.N4 l)] tr (0, 0)), Reg.eqv (.int .i64 ((n : Int) - ((UndoP.L4 l).length : Int))), Reg.eqv (.int .i64 0)] 77 [[(6, none)], [(0, none)], [(72, some 1)], [(5, none)], [(74, some 3)], [(73, some 2), (75, some 4)], [(2, none), (71, some 0)], [(76, some 5)], []] rfl (by kernel_rfl) (by kernel_rfl) (by kernel_rfl) ?_ [some 71, some 72, some 73, some 74, some 75, some 76, none, some 3, some 4] (by kernel_rfl) ?_
      · refine ⟨?_, ?_, ?_, ?_, ?_, ?_, ?_, ?_, ?_, trivial⟩
        · intro ax wx hx hs
          obtain ⟨e6, -⟩ := hs
          have g6 := Reg.ev (v := .pointer (some ⟨W2.heap.size, 0, none⟩)) e6
          refine Reg.obl_free rfl ?_
          have hc := fun j => Reg.put_cell hx HG.out (W2.heap.size) j (by omega) (by omega)
          exact Reg.wp_eqv (Option.some_ne_none _) (by go_simp) rfl
        · intro ax wx hx hs
          obtain ⟨e0, -⟩ := hs
          have g0 := Reg.ev (v := .slice A n c) e0
          exact Reg.obl_free rfl (Reg.wp_eqv (Option.some_ne_none _) (by go_simp) rfl)
        · intro ax wx hx hs
          obtain ⟨e72, -⟩ := hs
          have g72 := Reg.ev (v := .slice A n c) e72
          exact Reg.obl_free rfl (Reg.wp_eqv (Option.some_ne_none _) (by go_simp) rfl)
        · intro ax wx hx hs
          obtain ⟨e5, -⟩ := hs
          have g5 := Reg.ev (v := .pointer (some ⟨b, 0, none⟩)) e5
          exact Reg.obl_free rfl (Reg.wp_eqv (Option.some_ne_none _) (by go_simp) rfl)
        · intro ax wx hx hs
          obtain ⟨e74, -⟩ := hs
          have g74 := Reg.ev (v := .pointer (some ⟨b, 0, none⟩)) e74
          refine Reg.obl_free rfl ?_
          have hrd := Rd.grown HR_9.out (Nat.le_refl _) HS0_9.out rfl (Reg.put_grown hx HG.out) (by omega)
          go_simp
          refine (RdW.left_any b _ _ _ hrd).mono ?_
          rintro e wy ⟨rfl, rfl⟩
          exact Reg.done (Option.some_ne_none _) (by first | rfl | simp) (Reg.put_below (bsame _))
        · intro ax wx hx hs
          obtain ⟨e73, e75, -⟩ := hs
          have g73 := Reg.ev (v := .int .i64 (n : Int)) e73
          have g75 := Reg.ev (v := .int .i64 ((UndoP.L4 l).length : Int)) e75
          refine Reg.obl_free rfl ?_
          exact Reg.wp_eqv (Option.some_ne_none _) (by go_simp; exact IntWalk.i64_in _ (by omega)) rfl
        · intro ax wx hx hs
          obtain ⟨e2, e71, -⟩ := hs
          have g2 := Reg.ev (v := .pointer (some ⟨w.heap.size, 0, none⟩)) e2
          have g71 := Reg.ev (v := .agg #[.int .i64 2, .string (strOf (UndoP.K l)), .int .i64 0, .string ⟨#[]⟩, .int .i64 0, .slice none 0 0, .int .i64 0, .int .i64 0, .int .i64 0, .int .i64 (UndoP.N4 l)]) e71
          refine Reg.obl_free rfl ?_
          rcases Reg.put_str hx HT.out with hgs | hgs
          all_goals
            have hS : Str wx w.heap.size _ := ⟨_, hgs⟩
            obtain ⟨y0, y1, y2, y3, y4, y5, y6, y7, y8, y9⟩ := str10 hS
            have hfz := fun j => hS.frozen j
            have ho : _ := Reg.setStr_heap (Reg.setStr_heap (Reg.setStr_heap (Reg.setStr_heap (Reg.setStr_heap (Reg.setStr_heap (Reg.setStr_heap (Reg.setStr_heap (Reg.setStr_heap (Reg.setStr_heap (hgs) 0 (.int .i64 2)) 1 (.string (strOf (UndoP.K l)))) 2 (.int .i64 0)) 3 (.string ⟨#[]⟩)) 4 (.int .i64 0)) 5 (.slice none 0 0)) 6 (.int .i64 0)) 7 (.int .i64 0)) 8 (.int .i64 0)) 9 (.int .i64 (UndoP.N4 l))
            go_simp
            exact ⟨undef, rfl, fun _ => rfl, (show _ = some _ from (by simpa using ho)), Reg.put_set (grown_set (grown_set (grown_set (grown_set (grown_set (grown_set (grown_set (grown_set (grown_set (grown_set (grown_refl wx _) 0 _) 1 _) 2 _) 3 _) 4 _) 5 _) 6 _) 7 _) 8 _) 9 _) (by simpa using ho)⟩
        · intro ax wx hx hs
          obtain ⟨e76, -⟩ := hs
          have g76 := Reg.ev (v := .int .i64 ((n : Int) - ((UndoP.L4 l).length : Int))) e76
          exact Reg.obl_free rfl (Reg.wp_eqv (Option.some_ne_none _) (by go_simp) rfl)
        · intro ax wx hx hs
          exact Reg.obl_free rfl (Reg.wp_eqv (Option.some_ne_none _) (by go_simp) rfl)
      · intro W10 hwf
        simp only [Reg.Fin]
        rintro _ rfl _ rfl _ rfl _ rfl _ rfl _ rfl vn6 hn6 _ rfl _ rfl
        go_simp
        have hgr := Reg.put_grown hwf HG.out
        have HSF : Hid (Str W10 w.heap.size #[.int .i64 2, .string (strOf (UndoP.K l)), .int .i64 0, .string ⟨#[]⟩, .int .i64 0, .slice none 0 0, .int .i64 0, .int .i64 0, .int .i64 0, .int .i64 (UndoP.N4 l)]) := Lib.hid ⟨_, hn6⟩
        have HBF := Lib.hid (below_grown HB_9.out hgr (by omega))
        clear hgr hwf hn6
        obtain ⟨z0, z1, z2, z3, z4, z5, z6, z7, z8, z9⟩ := str10 HSF.out
        have hlk := HSF.out.lt
        go_wp2_with fail
        refine bodyPost_ret (v := .tuple #[.agg #[.int .i64 2, .string (strOf (UndoP.K l)), .int .i64 0, .string ⟨#[]⟩, .int .i64 0, .slice none 0 0, .int .i64 0, .int .i64 0, .int .i64 0, .int .i64 (UndoP.N4 l)], .int .i64 ((n : Int) - ((UndoP.L4 l).length : Int)), .int .i64 0]) (by simp [results, Tryz.results90, go_sem, z0, z1, z2, z3, z4, z5, z6, z7, z8, z9]) rfl ?_
        rw [HE.out, HNL.out]
        exact ⟨none, 0, 0, rfl, ⟨Bytes.none_ _ _, fun a e => by cases e⟩, HBF.out⟩

set_option maxRecDepth 100000 in
set_option maxHeartbeats 1000000 in
theorem get_3 (A : Option Addr) (n c B : Nat) (x : UInt8) (l : List UInt8) (w : World) (h : Bytes w B A n c (x :: l)) (hB : B ≤ w.heap.size) (hn : n ≤ 1000000) (hx : (x.toNat : Int) = 3) : Calls Tryz.prog 90 #[.slice A n c] w (NewUndo w (UndoP.get (x :: l))) := by
  have Hh := Lib.hid h
  have hln := h.len
  have HLN := Lib.hid hln
  clear h hln
  go_enter Tryz.func90, Tryz.ntmps90
  go_wp2_with fail
  generalize hW0 : (w).alloc (.cells #[.int .i64 0, .string ⟨#[]⟩, .int .i64 0, .string ⟨#[]⟩, .int .i64 0, .slice none 0 0, .int .i64 0, .int .i64 0, .int .i64 0, .int .i64 0] 38) = W0
  have HS0_0 : Hid (Str W0 (w.heap.size) #[.int .i64 0, .string ⟨#[]⟩, .int .i64 0, .string ⟨#[]⟩, .int .i64 0, .slice none 0 0, .int .i64 0, .int .i64 0, .int .i64 0, .int .i64 0]) := Lib.hid (by rw [← hW0]; have := Str.new (w) #[.int .i64 0, .string ⟨#[]⟩, .int .i64 0, .string ⟨#[]⟩, .int .i64 0, .slice none 0 0, .int .i64 0, .int .i64 0, .int .i64 0, .int .i64 0] 38; simpa using this)
  have HB_0 : Hid (Below w.heap.size w W0) := Lib.hid (by rw [← hW0]; exact balloc (bsame w) _)
  have hw_0 := HB_0.out.size
  clear hW0
  obtain ⟨f0_0_0, f0_0_1, f0_0_2, f0_0_3, f0_0_4, f0_0_5, f0_0_6, f0_0_7, f0_0_8, f0_0_9⟩ := str10 HS0_0.out
  have hl0_0 := HS0_0.out.lt
  have hf0_0 := fun j => HS0_0.out.frozen j
  refine (RdW.read_any A n c B (x :: l) _ (Hh.out.below (HB_0.out.mono hB)) (by omega) (by omega)).mono ?_
  rintro e W1 ⟨b, rfl, hbb, hR, hb1⟩
  have HS0_1 := Lib.hid (HS0_0.out.next hb1)
  have HB_1 := Lib.hid (bstep HB_0.out hb1)
  have hw_1 := HB_1.out.size
  have hws_1 := (hb1).size
  clear f0_0_0 f0_0_1 f0_0_2 f0_0_3 f0_0_4 f0_0_5 f0_0_6 f0_0_7 f0_0_8 f0_0_9 HS0_0 hf0_0
  clear hb1
  obtain ⟨f0_1_0, f0_1_1, f0_1_2, f0_1_3, f0_1_4, f0_1_5, f0_1_6, f0_1_7, f0_1_8, f0_1_9⟩ := str10 HS0_1.out
  have hl0_1 := HS0_1.out.lt
  have hf0_1 := fun j => HS0_1.out.frozen j
  have HR_1 := Lib.hid hR
  have hbl := hR.lt
  clear hR
  go_wp2_with fail
  refine (RdW.num_any b _ _ 1 _ HR_1.out (by omega) (by omega)).mono ?_
  rintro e W2 ⟨rfl, hR, hg⟩
  have HR_2 := Lib.hid hR
  clear HR_1 hR
  have HS0_2 := Lib.hid (HS0_1.out.grown hg (by omega))
  have HB_2 := Lib.hid (below_grown HB_1.out hg (by omega))
  have hw_2 := HB_2.out.size
  have hws_2 := (hg).size
  clear f0_1_0 f0_1_1 f0_1_2 f0_1_3 f0_1_4 f0_1_5 f0_1_6 f0_1_7 f0_1_8 f0_1_9 HS0_1 hf0_1
  clear hg
  obtain ⟨f0_2_0, f0_2_1, f0_2_2, f0_2_3, f0_2_4, f0_2_5, f0_2_6, f0_2_7, f0_2_8, f0_2_9⟩ := str10 HS0_2.out
  have hl0_2 := HS0_2.out.lt
  have hf0_2 := fun j => HS0_2.out.frozen j
  rw [(num1 x l).2.1, (num1 x l).2.2] at HR_2
  rw [(num1 x l).1, hx]
  go_wp2_with fail
  generalize hW3 : W2.alloc (.cells #[.int .i64 3, .string ⟨#[]⟩, .int .i64 0, .string ⟨#[]⟩, .int .i64 0, .slice none 0 0, .int .i64 0, .int .i64 0, .int .i64 0, .int .i64 0] 38) = W3
  have HS0_3 : Hid (Str W3 (w.heap.size) #[.int .i64 0, .string ⟨#[]⟩, .int .i64 0, .string ⟨#[]⟩, .int .i64 0, .slice none 0 0, .int .i64 0, .int .i64 0, .int .i64 0, .int .i64 0]) := Lib.hid (by rw [← hW3]; exact HS0_2.out.alloc _)
  have HS1_3 : Hid (Str W3 W2.heap.size #[.int .i64 3, .string ⟨#[]⟩, .int .i64 0, .string ⟨#[]⟩, .int .i64 0, .slice none 0 0, .int .i64 0, .int .i64 0, .int .i64 0, .int .i64 0]) := Lib.hid (by rw [← hW3]; exact Str.new W2 #[.int .i64 3, .string ⟨#[]⟩, .int .i64 0, .string ⟨#[]⟩, .int .i64 0, .slice none 0 0, .int .i64 0, .int .i64 0, .int .i64 0, .int .i64 0] 38)
  have hba3 : Below W2.heap.size W2 W3 := by rw [← hW3]; exact balloc (bsame _) _
  have HB_3 := Lib.hid (bstep HB_2.out hba3)
  have hw_3 := HB_3.out.size
  have hws_3 := hba3.size
  have HR_3 := Lib.hid (HR_2.out.below hba3)
  clear HR_2
  clear hW3
  clear f0_2_0 f0_2_1 f0_2_2 f0_2_3 f0_2_4 f0_2_5 f0_2_6 f0_2_7 f0_2_8 f0_2_9 HS0_2 hf0_2
  obtain ⟨f0_3_0, f0_3_1, f0_3_2, f0_3_3, f0_3_4, f0_3_5, f0_3_6, f0_3_7, f0_3_8, f0_3_9⟩ := str10 HS0_3.out
  have hl0_3 := HS0_3.out.lt
  have hf0_3 := fun j => HS0_3.out.frozen j
  obtain ⟨f1_3_0, f1_3_1, f1_3_2, f1_3_3, f1_3_4, f1_3_5, f1_3_6, f1_3_7, f1_3_8, f1_3_9⟩ := str10 HS1_3.out
  have hl1_3 := HS1_3.out.lt
  clear hba3
  refine (ok_rd HR_3.out).mono ?_
  rintro e w_ ⟨rfl, rfl⟩
  go_wp2_with fail
  refine (RdW.num_any b _ _ 1 _ HR_3.out (by omega) (by omega)).mono ?_
  rintro e W4 ⟨rfl, hR, hg⟩
  have HR_4 := Lib.hid hR
  clear HR_3 hR
  have HS0_4 := Lib.hid (HS0_3.out.grown hg (by omega))
  have HS1_4 := Lib.hid (HS1_3.out.grown hg (by omega))
  have HB_4 := Lib.hid (below_grown HB_3.out hg (by omega))
  have hw_4 := HB_4.out.size
  have hws_4 := (hg).size
  clear f0_3_0 f0_3_1 f0_3_2 f0_3_3 f0_3_4 f0_3_5 f0_3_6 f0_3_7 f0_3_8 f0_3_9 HS0_3 hf0_3 f1_3_0 f1_3_1 f1_3_2 f1_3_3 f1_3_4 f1_3_5 f1_3_6 f1_3_7 f1_3_8 f1_3_9 HS1_3
  clear hg
  obtain ⟨f0_4_0, f0_4_1, f0_4_2, f0_4_3, f0_4_4, f0_4_5, f0_4_6, f0_4_7, f0_4_8, f0_4_9⟩ := str10 HS0_4.out
  have hl0_4 := HS0_4.out.lt
  have hf0_4 := fun j => HS0_4.out.frozen j
  obtain ⟨f1_4_0, f1_4_1, f1_4_2, f1_4_3, f1_4_4, f1_4_5, f1_4_6, f1_4_7, f1_4_8, f1_4_9⟩ := str10 HS1_4.out
  have hl1_4 := HS1_4.out.lt
  rw [UndoP.numV_k1 l]
  have hk1 := UndoP.k1_le l
  go_wp2_with fail
  refine (RdW.bytes_any b (UndoP.L2 l) (UndoP.b2 l) (UndoP.k1 l) _ HR_4.out (by omega)).mono ?_
  rintro e W5 ⟨A5, n5, c5, rfl, hy5, hR, hg⟩
  have HR_5 := Lib.hid hR
  clear HR_4 hR
  have HS0_5 := Lib.hid (HS0_4.out.grown hg (by omega))
  have HS1_5 := Lib.hid (HS1_4.out.grown hg (by omega))
  have HB_5 := Lib.hid (below_grown HB_4.out hg (by omega))
  have hw_5 := HB_5.out.size
  have hws_5 := (hg).size
  clear f0_4_0 f0_4_1 f0_4_2 f0_4_3 f0_4_4 f0_4_5 f0_4_6 f0_4_7 f0_4_8 f0_4_9 HS0_4 hf0_4 f1_4_0 f1_4_1 f1_4_2 f1_4_3 f1_4_4 f1_4_5 f1_4_6 f1_4_7 f1_4_8 f1_4_9 HS1_4
  clear hg
  obtain ⟨f0_5_0, f0_5_1, f0_5_2, f0_5_3, f0_5_4, f0_5_5, f0_5_6, f0_5_7, f0_5_8, f0_5_9⟩ := str10 HS0_5.out
  have hl0_5 := HS0_5.out.lt
  have hf0_5 := fun j => HS0_5.out.frozen j
  obtain ⟨f1_5_0, f1_5_1, f1_5_2, f1_5_3, f1_5_4, f1_5_5, f1_5_6, f1_5_7, f1_5_8, f1_5_9⟩ := str10 HS1_5.out
  have hl1_5 := HS1_5.out.lt
  have hy6 : Bytes W5 W5.heap.size A5 n5 c5 (UndoP.K l) := hy5
  have hcv := run_str (P := Tryz.prog) 32 9 5 Tryz.underlying32 Tryz.underlying5 Tryz.underlying9 hy6
  have HKS : Hid ((strOf (UndoP.K l)).size ≤ maxLen) := Lib.hid (by show (UndoP.K l).length ≤ maxLen; rw [hy6.len]; exact Nat.le_trans hy6.2.1 hy6.2.2.1)
  clear hy5 hy6
  have hfu := fun j => HS1_5.out.frozen j
  go_wp2_with fail
  generalize hW6 : (W5).setCell ⟨W2.heap.size, 1, none⟩ (.string (strOf (UndoP.K l))) = W6
  have HS0_6 : Hid (Str W6 (w.heap.size) #[.int .i64 0, .string ⟨#[]⟩, .int .i64 0, .string ⟨#[]⟩, .int .i64 0, .slice none 0 0, .int .i64 0, .int .i64 0, .int .i64 0, .int .i64 0]) := Lib.hid (by rw [← hW6]; exact (HS0_5.out).other 1 _ (by omega))
  have HS1_6 : Hid (Str W6 (W2.heap.size) #[.int .i64 3, .string (strOf (UndoP.K l)), .int .i64 0, .string ⟨#[]⟩, .int .i64 0, .slice none 0 0, .int .i64 0, .int .i64 0, .int .i64 0, .int .i64 0]) := Lib.hid (by rw [← hW6]; have := (HS1_5.out).set 1 (.string (strOf (UndoP.K l))); simpa using this)
  have hgr6 : W5.grownBy W6 (some (W2.heap.size)) := by rw [← hW6]; exact grown_set (grown_refl W5 (W2.heap.size)) 1 (.string (strOf (UndoP.K l)))
  have HB_6 := Lib.hid (below_grown HB_5.out hgr6 (by omega))
  have hw_6 := HB_6.out.size
  have hws_6 := hgr6.size
  have HR_6 := Lib.hid ((Rd.grown HR_5.out (Nat.le_refl _) HS1_5.out rfl hgr6 (by omega)))
  clear HR_5
  clear hW6
  clear f0_5_0 f0_5_1 f0_5_2 f0_5_3 f0_5_4 f0_5_5 f0_5_6 f0_5_7 f0_5_8 f0_5_9 HS0_5 hf0_5 f1_5_0 f1_5_1 f1_5_2 f1_5_3 f1_5_4 f1_5_5 f1_5_6 f1_5_7 f1_5_8 f1_5_9 HS1_5
  clear hgr6
  obtain ⟨f0_6_0, f0_6_1, f0_6_2, f0_6_3, f0_6_4, f0_6_5, f0_6_6, f0_6_7, f0_6_8, f0_6_9⟩ := str10 HS0_6.out
  have hl0_6 := HS0_6.out.lt
  have hf0_6 := fun j => HS0_6.out.frozen j
  obtain ⟨f1_6_0, f1_6_1, f1_6_2, f1_6_3, f1_6_4, f1_6_5, f1_6_6, f1_6_7, f1_6_8, f1_6_9⟩ := str10 HS1_6.out
  have hl1_6 := HS1_6.out.lt
  clear hcv hfu
  refine (RdW.num_any b _ _ 8 _ HR_6.out (by omega) (by omega)).mono ?_
  rintro e W7 ⟨rfl, hR, hg⟩
  have HR_7 := Lib.hid hR
  clear HR_6 hR
  have HS0_7 := Lib.hid (HS0_6.out.grown hg (by omega))
  have HS1_7 := Lib.hid (HS1_6.out.grown hg (by omega))
  have HB_7 := Lib.hid (below_grown HB_6.out hg (by omega))
  have hw_7 := HB_7.out.size
  have hws_7 := (hg).size
  clear f0_6_0 f0_6_1 f0_6_2 f0_6_3 f0_6_4 f0_6_5 f0_6_6 f0_6_7 f0_6_8 f0_6_9 HS0_6 hf0_6 f1_6_0 f1_6_1 f1_6_2 f1_6_3 f1_6_4 f1_6_5 f1_6_6 f1_6_7 f1_6_8 f1_6_9 HS1_6
  clear hg
  obtain ⟨f0_7_0, f0_7_1, f0_7_2, f0_7_3, f0_7_4, f0_7_5, f0_7_6, f0_7_7, f0_7_8, f0_7_9⟩ := str10 HS0_7.out
  have hl0_7 := HS0_7.out.lt
  have hf0_7 := fun j => HS0_7.out.frozen j
  obtain ⟨f1_7_0, f1_7_1, f1_7_2, f1_7_3, f1_7_4, f1_7_5, f1_7_6, f1_7_7, f1_7_8, f1_7_9⟩ := str10 HS1_7.out
  have hl1_7 := HS1_7.out.lt
  have hR : Rd W7 b (UndoP.L4 l) (UndoP.b4 l) := HR_7.out
  clear HR_7
  have HR_7 := Lib.hid hR
  clear hR
  have hfu := fun j => HS1_7.out.frozen j
  rw [show RdP.numV (RdP.tl (UndoP.L2 l) (UndoP.b2 l) (UndoP.k1 l)) (RdP.tb (UndoP.L2 l) (UndoP.b2 l) (UndoP.k1 l)) 8 = UndoP.N4 l from rfl]
  go_wp2_with fail
  generalize hW8 : (W7).setCell ⟨W2.heap.size, 9, none⟩ (.int .i64 (UndoP.N4 l)) = W8
  have HS0_8 : Hid (Str W8 (w.heap.size) #[.int .i64 0, .string ⟨#[]⟩, .int .i64 0, .string ⟨#[]⟩, .int .i64 0, .slice none 0 0, .int .i64 0, .int .i64 0, .int .i64 0, .int .i64 0]) := Lib.hid (by rw [← hW8]; exact (HS0_7.out).other 9 _ (by omega))
  have HS1_8 : Hid (Str W8 (W2.heap.size) #[.int .i64 3, .string (strOf (UndoP.K l)), .int .i64 0, .string ⟨#[]⟩, .int .i64 0, .slice none 0 0, .int .i64 0, .int .i64 0, .int .i64 0, .int .i64 (UndoP.N4 l)]) := Lib.hid (by rw [← hW8]; have := (HS1_7.out).set 9 (.int .i64 (UndoP.N4 l)); simpa using this)
  have hgr8 : W7.grownBy W8 (some (W2.heap.size)) := by rw [← hW8]; exact grown_set (grown_refl W7 (W2.heap.size)) 9 (.int .i64 (UndoP.N4 l))
  have HB_8 := Lib.hid (below_grown HB_7.out hgr8 (by omega))
  have hw_8 := HB_8.out.size
  have hws_8 := hgr8.size
  have HR_8 := Lib.hid ((Rd.grown HR_7.out (Nat.le_refl _) HS1_7.out rfl hgr8 (by omega)))
  clear HR_7
  clear hW8
  clear f0_7_0 f0_7_1 f0_7_2 f0_7_3 f0_7_4 f0_7_5 f0_7_6 f0_7_7 f0_7_8 f0_7_9 HS0_7 hf0_7 f1_7_0 f1_7_1 f1_7_2 f1_7_3 f1_7_4 f1_7_5 f1_7_6 f1_7_7 f1_7_8 f1_7_9 HS1_7
  clear hgr8
  obtain ⟨f0_8_0, f0_8_1, f0_8_2, f0_8_3, f0_8_4, f0_8_5, f0_8_6, f0_8_7, f0_8_8, f0_8_9⟩ := str10 HS0_8.out
  have hl0_8 := HS0_8.out.lt
  have hf0_8 := fun j => HS0_8.out.frozen j
  obtain ⟨f1_8_0, f1_8_1, f1_8_2, f1_8_3, f1_8_4, f1_8_5, f1_8_6, f1_8_7, f1_8_8, f1_8_9⟩ := str10 HS1_8.out
  have hl1_8 := HS1_8.out.lt
  clear hfu
  refine (ok_rd HR_8.out).mono ?_
  rintro e w_ ⟨rfl, rfl⟩
  cases hb4 : UndoP.b4 l
  case true =>
    have HE : Hid (UndoP.get (x :: l) = (UndoP.none, 0, 13)) := Lib.hid (UndoP.get_short4 x l (by omega) hb4)
    clear HR_8
    go_wp2_with fail
    generalize hW9 : ((((((((((W8).setCell ⟨w.heap.size, 0, none⟩ (.int .i64 0)).setCell ⟨w.heap.size, 1, none⟩ (.string ⟨#[]⟩)).setCell ⟨w.heap.size, 2, none⟩ (.int .i64 0)).setCell ⟨w.heap.size, 3, none⟩ (.string ⟨#[]⟩)).setCell ⟨w.heap.size, 4, none⟩ (.int .i64 0)).setCell ⟨w.heap.size, 5, none⟩ (.slice none 0 0)).setCell ⟨w.heap.size, 6, none⟩ (.int .i64 0)).setCell ⟨w.heap.size, 7, none⟩ (.int .i64 0)).setCell ⟨w.heap.size, 8, none⟩ (.int .i64 0)).setCell ⟨w.heap.size, 9, none⟩ (.int .i64 0) = W9
    have HS0_9 : Hid (Str W9 (w.heap.size) #[.int .i64 0, .string ⟨#[]⟩, .int .i64 0, .string ⟨#[]⟩, .int .i64 0, .slice none 0 0, .int .i64 0, .int .i64 0, .int .i64 0, .int .i64 0]) := Lib.hid (by rw [← hW9]; have := ((((((((((HS0_8.out).set 0 (.int .i64 0)).set 1 (.string ⟨#[]⟩)).set 2 (.int .i64 0)).set 3 (.string ⟨#[]⟩)).set 4 (.int .i64 0)).set 5 (.slice none 0 0)).set 6 (.int .i64 0)).set 7 (.int .i64 0)).set 8 (.int .i64 0)).set 9 (.int .i64 0); simpa using this)
    have HS1_9 : Hid (Str W9 (W2.heap.size) #[.int .i64 3, .string (strOf (UndoP.K l)), .int .i64 0, .string ⟨#[]⟩, .int .i64 0, .slice none 0 0, .int .i64 0, .int .i64 0, .int .i64 0, .int .i64 (UndoP.N4 l)]) := Lib.hid (by rw [← hW9]; exact ((((((((((HS1_8.out).other 0 _ (by omega)).other 1 _ (by omega)).other 2 _ (by omega)).other 3 _ (by omega)).other 4 _ (by omega)).other 5 _ (by omega)).other 6 _ (by omega)).other 7 _ (by omega)).other 8 _ (by omega)).other 9 _ (by omega))
    have hgr9 : W8.grownBy W9 (some (w.heap.size)) := by rw [← hW9]; exact grown_set (grown_set (grown_set (grown_set (grown_set (grown_set (grown_set (grown_set (grown_set (grown_set (grown_refl W8 (w.heap.size)) 0 (.int .i64 0)) 1 (.string ⟨#[]⟩)) 2 (.int .i64 0)) 3 (.string ⟨#[]⟩)) 4 (.int .i64 0)) 5 (.slice none 0 0)) 6 (.int .i64 0)) 7 (.int .i64 0)) 8 (.int .i64 0)) 9 (.int .i64 0)
    have HB_9 := Lib.hid (below_grown HB_8.out hgr9 (by omega))
    have hw_9 := HB_9.out.size
    have hws_9 := hgr9.size
    clear hW9
    clear f0_8_0 f0_8_1 f0_8_2 f0_8_3 f0_8_4 f0_8_5 f0_8_6 f0_8_7 f0_8_8 f0_8_9 HS0_8 hf0_8 f1_8_0 f1_8_1 f1_8_2 f1_8_3 f1_8_4 f1_8_5 f1_8_6 f1_8_7 f1_8_8 f1_8_9 HS1_8
    clear hgr9
    obtain ⟨f0_9_0, f0_9_1, f0_9_2, f0_9_3, f0_9_4, f0_9_5, f0_9_6, f0_9_7, f0_9_8, f0_9_9⟩ := str10 HS0_9.out
    have hl0_9 := HS0_9.out.lt
    have hf0_9 := fun j => HS0_9.out.frozen j
    obtain ⟨f1_9_0, f1_9_1, f1_9_2, f1_9_3, f1_9_4, f1_9_5, f1_9_6, f1_9_7, f1_9_8, f1_9_9⟩ := str10 HS1_9.out
    have hl1_9 := HS1_9.out.lt
    refine bodyPost_ret (v := .tuple #[.agg #[.int .i64 0, .string ⟨#[]⟩, .int .i64 0, .string ⟨#[]⟩, .int .i64 0, .slice none 0 0, .int .i64 0, .int .i64 0, .int .i64 0, .int .i64 0], .int .i64 0, .int .i64 13]) (by simp [results, Tryz.results90, go_sem, *]) rfl ?_
    rw [HE.out]
    exact ⟨none, 0, 0, rfl, ⟨Bytes.none_ _ _, fun a e => by cases e⟩, HB_9.out⟩
  case false =>
    have HG4 := Lib.hid (UndoP.get_full4 x l (by omega) hb4)
    have hxn : x.toNat = 3 := by omega
    rw [hxn] at HG4
    rw [hb4] at HR_8
    clear hxn hb4
    go_wp2_with fail
    refine (check_any 3 (strOf (UndoP.K l)) none 0 0 0 0 ⟨#[]⟩ 0 [] 0 0 0 (UndoP.N4 l) _ (Bytes.none_ _ _) (Nat.zero_le _) (by decide) HKS.out).mono ?_
    rintro e W9 ⟨rfl, hb9⟩
    rw [show UndoP.right ⟨3, strOf (UndoP.K l), ⟨0, ⟨#[]⟩, ⟨0, [], 0, 0, 0⟩⟩, UndoP.N4 l⟩ = UndoP.right (UndoP.U4 3 l) from rfl]
    have HS0_9 := Lib.hid (HS0_8.out.next hb9)
    have HS1_9 := Lib.hid (HS1_8.out.next hb9)
    have HB_9 := Lib.hid (bstep HB_8.out hb9)
    have hw_9 := HB_9.out.size
    have hws_9 := (hb9).size
    have HR_9 := Lib.hid (HR_8.out.below hb9)
    clear HR_8
    clear f0_8_0 f0_8_1 f0_8_2 f0_8_3 f0_8_4 f0_8_5 f0_8_6 f0_8_7 f0_8_8 f0_8_9 HS0_8 hf0_8 f1_8_0 f1_8_1 f1_8_2 f1_8_3 f1_8_4 f1_8_5 f1_8_6 f1_8_7 f1_8_8 f1_8_9 HS1_8
    clear hb9
    obtain ⟨f0_9_0, f0_9_1, f0_9_2, f0_9_3, f0_9_4, f0_9_5, f0_9_6, f0_9_7, f0_9_8, f0_9_9⟩ := str10 HS0_9.out
    have hl0_9 := HS0_9.out.lt
    have hf0_9 := fun j => HS0_9.out.frozen j
    obtain ⟨f1_9_0, f1_9_1, f1_9_2, f1_9_3, f1_9_4, f1_9_5, f1_9_6, f1_9_7, f1_9_8, f1_9_9⟩ := str10 HS1_9.out
    have hl1_9 := HS1_9.out.lt
    cases hr : UndoP.right (UndoP.U4 3 l)
    case false =>
      have HE : Hid (UndoP.get (x :: l) = (UndoP.none, 0, 12)) := Lib.hid (by rw [HG4.out, if_neg (by rw [hr]; simp)])
      rw [show CellP.code false = 1 from rfl]
      clear HR_9
      go_wp2_with fail
      generalize hW10 : ((((((((((W9).setCell ⟨w.heap.size, 0, none⟩ (.int .i64 0)).setCell ⟨w.heap.size, 1, none⟩ (.string ⟨#[]⟩)).setCell ⟨w.heap.size, 2, none⟩ (.int .i64 0)).setCell ⟨w.heap.size, 3, none⟩ (.string ⟨#[]⟩)).setCell ⟨w.heap.size, 4, none⟩ (.int .i64 0)).setCell ⟨w.heap.size, 5, none⟩ (.slice none 0 0)).setCell ⟨w.heap.size, 6, none⟩ (.int .i64 0)).setCell ⟨w.heap.size, 7, none⟩ (.int .i64 0)).setCell ⟨w.heap.size, 8, none⟩ (.int .i64 0)).setCell ⟨w.heap.size, 9, none⟩ (.int .i64 0) = W10
      have HS0_10 : Hid (Str W10 (w.heap.size) #[.int .i64 0, .string ⟨#[]⟩, .int .i64 0, .string ⟨#[]⟩, .int .i64 0, .slice none 0 0, .int .i64 0, .int .i64 0, .int .i64 0, .int .i64 0]) := Lib.hid (by rw [← hW10]; have := ((((((((((HS0_9.out).set 0 (.int .i64 0)).set 1 (.string ⟨#[]⟩)).set 2 (.int .i64 0)).set 3 (.string ⟨#[]⟩)).set 4 (.int .i64 0)).set 5 (.slice none 0 0)).set 6 (.int .i64 0)).set 7 (.int .i64 0)).set 8 (.int .i64 0)).set 9 (.int .i64 0); simpa using this)
      have HS1_10 : Hid (Str W10 (W2.heap.size) #[.int .i64 3, .string (strOf (UndoP.K l)), .int .i64 0, .string ⟨#[]⟩, .int .i64 0, .slice none 0 0, .int .i64 0, .int .i64 0, .int .i64 0, .int .i64 (UndoP.N4 l)]) := Lib.hid (by rw [← hW10]; exact ((((((((((HS1_9.out).other 0 _ (by omega)).other 1 _ (by omega)).other 2 _ (by omega)).other 3 _ (by omega)).other 4 _ (by omega)).other 5 _ (by omega)).other 6 _ (by omega)).other 7 _ (by omega)).other 8 _ (by omega)).other 9 _ (by omega))
      have hgr10 : W9.grownBy W10 (some (w.heap.size)) := by rw [← hW10]; exact grown_set (grown_set (grown_set (grown_set (grown_set (grown_set (grown_set (grown_set (grown_set (grown_set (grown_refl W9 (w.heap.size)) 0 (.int .i64 0)) 1 (.string ⟨#[]⟩)) 2 (.int .i64 0)) 3 (.string ⟨#[]⟩)) 4 (.int .i64 0)) 5 (.slice none 0 0)) 6 (.int .i64 0)) 7 (.int .i64 0)) 8 (.int .i64 0)) 9 (.int .i64 0)
      have HB_10 := Lib.hid (below_grown HB_9.out hgr10 (by omega))
      have hw_10 := HB_10.out.size
      have hws_10 := hgr10.size
      clear hW10
      clear f0_9_0 f0_9_1 f0_9_2 f0_9_3 f0_9_4 f0_9_5 f0_9_6 f0_9_7 f0_9_8 f0_9_9 HS0_9 hf0_9 f1_9_0 f1_9_1 f1_9_2 f1_9_3 f1_9_4 f1_9_5 f1_9_6 f1_9_7 f1_9_8 f1_9_9 HS1_9
      clear hgr10
      obtain ⟨f0_10_0, f0_10_1, f0_10_2, f0_10_3, f0_10_4, f0_10_5, f0_10_6, f0_10_7, f0_10_8, f0_10_9⟩ := str10 HS0_10.out
      have hl0_10 := HS0_10.out.lt
      have hf0_10 := fun j => HS0_10.out.frozen j
      obtain ⟨f1_10_0, f1_10_1, f1_10_2, f1_10_3, f1_10_4, f1_10_5, f1_10_6, f1_10_7, f1_10_8, f1_10_9⟩ := str10 HS1_10.out
      have hl1_10 := HS1_10.out.lt
      refine bodyPost_ret (v := .tuple #[.agg #[.int .i64 0, .string ⟨#[]⟩, .int .i64 0, .string ⟨#[]⟩, .int .i64 0, .slice none 0 0, .int .i64 0, .int .i64 0, .int .i64 0, .int .i64 0], .int .i64 0, .int .i64 12]) (by simp [results, Tryz.results90, go_sem, *]) rfl ?_
      rw [HE.out]
      exact ⟨none, 0, 0, rfl, ⟨Bytes.none_ _ _, fun a e => by cases e⟩, HB_10.out⟩
    case true =>
      have HE : Hid (UndoP.get (x :: l) = ((UndoP.U4 3 l), ((l.length + 1 : Nat) : Int) - ((UndoP.L4 l).length : Int), 0)) := Lib.hid (by rw [HG4.out, if_pos hr])
      rw [show CellP.code true = 0 from rfl]
      have hn9 : n = l.length + 1 := by have := HLN.out; simp at this; omega
      have HNL : Hid ((n : Int) = ((l.length + 1 : Nat) : Int)) := Lib.hid (by omega)
      have hL4 : (UndoP.L4 l).length ≤ 1000000 := by have := UndoP.L4_le l; omega
      clear hn9
      go_wp2_with fail
      obtain ⟨tr, htr⟩ := HS0_9.out
      have HT := Lib.hid htr
      clear htr
      have HG := Lib.hid (HS0_9.out.lt)
      refine Reg.wp_region_vals (R := (Reg.putW w.heap.size (.cells #[.int .i64 3, .string (strOf (UndoP.K l)), .int .i64 0, .string ⟨#[]⟩, .int .i64 0, .slice none 0 0, .int .i64 0, .int .i64 0, .int .i64 0, .int .i64 (UndoP.N4 l)] tr (0, 0)))) (W := W9) [Reg.eqv (.agg #[.int .i64 3, .string (strOf (UndoP.K l)), .int .i64 0, .string ⟨#[]⟩, .int .i64 0, .slice none 0 0, .int .i64 0, .int .i64 0, .int .i64 0, .int .i64 (UndoP.N4 l)]), Reg.eqv (.slice A n c), Reg.eqv (.int .i64 (n : Int)), Reg.eqv (.pointer (some ⟨b, 0, none⟩)), Reg.eqv (.int .i64 ((UndoP.L4 l).length : Int)), Reg.eqv (.int .i64 ((n : Int) - ((UndoP.L4 l).length : Int))), Reg.written w.heap.size (.cells #[.int .i64 3, .string (strOf (UndoP.K l)), .int .i64 0, .string ⟨#[]⟩, .int .i64 0, .slice none 0 0, .int .i64 0, .int .i64 0, .int .i64 0, .int .i64 (UndoP.N4 l)] tr (0, 0)), Reg.eqv (.int .i64 ((n : Int) - ((UndoP.L4 l).length : Int))), Reg.eqv (.int .i64 0)] 77 [[(6, none)], [(0, none)], [(72, some 1)], [(5, none)], [(74, some 3)], [(73, some 2), (75, some 4)], [(2, none), (71, some 0)], [(76, some 5)], []] rfl (by kernel_rfl) (by kernel_rfl) (by kernel_rfl) ?_ [some 71, some 72, some 73, some 74, some 75, some 76, none, some 3, some 4] (by kernel_rfl) ?_
      · refine ⟨?_, ?_, ?_, ?_, ?_, ?_, ?_, ?_, ?_, trivial⟩
        · intro ax wx hx hs
          obtain ⟨e6, -⟩ := hs
          have g6 := Reg.ev (v := .pointer (some ⟨W2.heap.size, 0, none⟩)) e6
          refine Reg.obl_free rfl ?_
          have hc := fun j => Reg.put_cell hx HG.out (W2.heap.size) j (by omega) (by omega)
          exact Reg.wp_eqv (Option.some_ne_none _) (by go_simp) rfl
        · intro ax wx hx hs
          obtain ⟨e0, -⟩ := hs
          have g0 := Reg.ev (v := .slice A n c) e0
          exact Reg.obl_free rfl (Reg.wp_eqv (Option.some_ne_none _) (by go_simp) rfl)
        · intro ax wx hx hs
          obtain ⟨e72, -⟩ := hs
          have g72 := Reg.ev (v := .slice A n c) e72
          exact Reg.obl_free rfl (Reg.wp_eqv (Option.some_ne_none _) (by go_simp) rfl)
        · intro ax wx hx hs
          obtain ⟨e5, -⟩ := hs
          have g5 := Reg.ev (v := .pointer (some ⟨b, 0, none⟩)) e5
          exact Reg.obl_free rfl (Reg.wp_eqv (Option.some_ne_none _) (by go_simp) rfl)
        · intro ax wx hx hs
          obtain ⟨e74, -⟩ := hs
          have g74 := Reg.ev (v := .pointer (some ⟨b, 0, none⟩)) e74
          refine Reg.obl_free rfl ?_
          have hrd := Rd.grown HR_9.out (Nat.le_refl _) HS0_9.out rfl (Reg.put_grown hx HG.out) (by omega)
          go_simp
          refine (RdW.left_any b _ _ _ hrd).mono ?_
          rintro e wy ⟨rfl, rfl⟩
          exact Reg.done (Option.some_ne_none _) (by first | rfl | simp) (Reg.put_below (bsame _))
        · intro ax wx hx hs
          obtain ⟨e73, e75, -⟩ := hs
          have g73 := Reg.ev (v := .int .i64 (n : Int)) e73
          have g75 := Reg.ev (v := .int .i64 ((UndoP.L4 l).length : Int)) e75
          refine Reg.obl_free rfl ?_
          exact Reg.wp_eqv (Option.some_ne_none _) (by go_simp; exact IntWalk.i64_in _ (by omega)) rfl
        · intro ax wx hx hs
          obtain ⟨e2, e71, -⟩ := hs
          have g2 := Reg.ev (v := .pointer (some ⟨w.heap.size, 0, none⟩)) e2
          have g71 := Reg.ev (v := .agg #[.int .i64 3, .string (strOf (UndoP.K l)), .int .i64 0, .string ⟨#[]⟩, .int .i64 0, .slice none 0 0, .int .i64 0, .int .i64 0, .int .i64 0, .int .i64 (UndoP.N4 l)]) e71
          refine Reg.obl_free rfl ?_
          rcases Reg.put_str hx HT.out with hgs | hgs
          all_goals
            have hS : Str wx w.heap.size _ := ⟨_, hgs⟩
            obtain ⟨y0, y1, y2, y3, y4, y5, y6, y7, y8, y9⟩ := str10 hS
            have hfz := fun j => hS.frozen j
            have ho : _ := Reg.setStr_heap (Reg.setStr_heap (Reg.setStr_heap (Reg.setStr_heap (Reg.setStr_heap (Reg.setStr_heap (Reg.setStr_heap (Reg.setStr_heap (Reg.setStr_heap (Reg.setStr_heap (hgs) 0 (.int .i64 3)) 1 (.string (strOf (UndoP.K l)))) 2 (.int .i64 0)) 3 (.string ⟨#[]⟩)) 4 (.int .i64 0)) 5 (.slice none 0 0)) 6 (.int .i64 0)) 7 (.int .i64 0)) 8 (.int .i64 0)) 9 (.int .i64 (UndoP.N4 l))
            go_simp
            exact ⟨undef, rfl, fun _ => rfl, (show _ = some _ from (by simpa using ho)), Reg.put_set (grown_set (grown_set (grown_set (grown_set (grown_set (grown_set (grown_set (grown_set (grown_set (grown_set (grown_refl wx _) 0 _) 1 _) 2 _) 3 _) 4 _) 5 _) 6 _) 7 _) 8 _) 9 _) (by simpa using ho)⟩
        · intro ax wx hx hs
          obtain ⟨e76, -⟩ := hs
          have g76 := Reg.ev (v := .int .i64 ((n : Int) - ((UndoP.L4 l).length : Int))) e76
          exact Reg.obl_free rfl (Reg.wp_eqv (Option.some_ne_none _) (by go_simp) rfl)
        · intro ax wx hx hs
          exact Reg.obl_free rfl (Reg.wp_eqv (Option.some_ne_none _) (by go_simp) rfl)
      · intro W10 hwf
        simp only [Reg.Fin]
        rintro _ rfl _ rfl _ rfl _ rfl _ rfl _ rfl vn6 hn6 _ rfl _ rfl
        go_simp
        have hgr := Reg.put_grown hwf HG.out
        have HSF : Hid (Str W10 w.heap.size #[.int .i64 3, .string (strOf (UndoP.K l)), .int .i64 0, .string ⟨#[]⟩, .int .i64 0, .slice none 0 0, .int .i64 0, .int .i64 0, .int .i64 0, .int .i64 (UndoP.N4 l)]) := Lib.hid ⟨_, hn6⟩
        have HBF := Lib.hid (below_grown HB_9.out hgr (by omega))
        clear hgr hwf hn6
        obtain ⟨z0, z1, z2, z3, z4, z5, z6, z7, z8, z9⟩ := str10 HSF.out
        have hlk := HSF.out.lt
        go_wp2_with fail
        refine bodyPost_ret (v := .tuple #[.agg #[.int .i64 3, .string (strOf (UndoP.K l)), .int .i64 0, .string ⟨#[]⟩, .int .i64 0, .slice none 0 0, .int .i64 0, .int .i64 0, .int .i64 0, .int .i64 (UndoP.N4 l)], .int .i64 ((n : Int) - ((UndoP.L4 l).length : Int)), .int .i64 0]) (by simp [results, Tryz.results90, go_sem, z0, z1, z2, z3, z4, z5, z6, z7, z8, z9]) rfl ?_
        rw [HE.out, HNL.out]
        exact ⟨none, 0, 0, rfl, ⟨Bytes.none_ _ _, fun a e => by cases e⟩, HBF.out⟩
end Go.Proofs.YtpdfnlhhnodnjaaGreat.UndoW
end
