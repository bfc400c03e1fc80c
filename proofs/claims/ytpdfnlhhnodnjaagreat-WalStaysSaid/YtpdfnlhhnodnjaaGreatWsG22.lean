/-
  Parts of the proof of WalStays.
-/
import Derived.Test.YtpdfnlhhnodnjaaGreatWsG21
import Derived.Test.YtpdfnlhhnodnjaaGreatWsG7
section
namespace Go.Proofs.YtpdfnlhhnodnjaaGreat.UndoW
open Go.RowKit
set_option linter.unusedVariables false
attribute [local go_sem ↓] al64_fold ld64_fold st64_fold bd64_fold sl64_fold cp_fold
theorem _root_.Go.Proofs.YtpdfnlhhnodnjaaGreat.Rd.above {w w1 : World} {b g : Nat} {l : List UInt8} {bad : Bool} (h : Rd w b l bad) (hg : w.grownBy w1 (some g)) (hlt : b < g) : Rd w1 b l bad := by
  obtain ⟨A, n, c, hS, hy⟩ := h
  have hl := hS.lt
  exact ⟨A, n, c, hS.grown hg (by omega), hy.keep fun p hp => World.cell?_of_block (a := p) (hg.block p.block (by omega) (by intro e; injection e; omega))⟩
theorem key_le (l : List UInt8) : (SlotP.get l).1.key.size ≤ l.length := by
  unfold SlotP.get
  split
  · exact Nat.zero_le _
  · split
    · show ((l.drop 2).take _).length ≤ _
      simp
      omega
    · exact Nat.zero_le _

set_option maxRecDepth 100000 in
set_option maxHeartbeats 4000000 in
theorem get_1 (A : Option Addr) (n c B : Nat) (x : UInt8) (l : List UInt8) (w : World) (h : Bytes w B A n c (x :: l)) (hB : B ≤ w.heap.size) (hn : n ≤ 1000000) (hx : (x.toNat : Int) = 1) : Calls Tryz.prog 90 #[.slice A n c] w (NewUndo w (UndoP.get (x :: l))) := by
  have Hh := Lib.hid h
  have hln := h.len
  have HLN := Lib.hid hln
  clear h hln
  go_enter Tryz.func90, Tryz.ntmps90
  go_wp2_with fail
  generalize hW0 : (w).alloc (.cells #[.int .i64 0, .string ⟨#[]⟩, .int .i64 0, .string ⟨#[]⟩, .int .i64 0, .slice none 0 0, .int .i64 0, .int .i64 0, .int .i64 0, .int .i64 0] 38) = W0
  have HS0_0 : Hid (Str W0 (w.heap.size) #[.int .i64 0, .string ⟨#[]⟩, .int .i64 0, .string ⟨#[]⟩, .int .i64 0, .slice none 0 0, .int .i64 0, .int .i64 0, .int .i64 0, .int .i64 0]) := Lib.hid (by rw [← hW0]; have := Str.new (w) #[.int .i64 0, .string ⟨#[]⟩, .int .i64 0, .string ⟨#[]⟩, .int .i64 0, .slice none 0 0, .int .i64 0, .int .i64 0, .int .i64 0, .int .i64 0] 38; simpa using this)
  have HB_0 : Hid (Below w.heap.size w W0) := Lib.hid (by rw [← hW0]; exact balloc (bsame w) _)
  have hw_0 := HB_0.out.size
  clear hW0
  obtain ⟨f0_0_0, f0_0_1, f0_0_2, f0_0_3, f0_0_4, f0_0_5, f0_0_6, f0_0_7, f0_0_8, f0_0_9⟩ := str10 HS0_0.out
  have hl0_0 := HS0_0.out.lt
  have hf0_0 := fun j => HS0_0.out.frozen j
  refine (RdW.read_any A n c B (x :: l) _ (Hh.out.below (HB_0.out.mono hB)) (by omega) (by omega)).mono ?_
  rintro e W1 ⟨b, rfl, hbb, hR, hb1⟩
  have HS0_1 := Lib.hid (HS0_0.out.next hb1)
  have HB_1 := Lib.hid (bstep HB_0.out hb1)
  have hw_1 := HB_1.out.size
  have hws_1 := (hb1).size
  clear f0_0_0 f0_0_1 f0_0_2 f0_0_3 f0_0_4 f0_0_5 f0_0_6 f0_0_7 f0_0_8 f0_0_9 HS0_0 hf0_0
  clear hb1
  obtain ⟨f0_1_0, f0_1_1, f0_1_2, f0_1_3, f0_1_4, f0_1_5, f0_1_6, f0_1_7, f0_1_8, f0_1_9⟩ := str10 HS0_1.out
  have hl0_1 := HS0_1.out.lt
  have hf0_1 := fun j => HS0_1.out.frozen j
  have HR_1 := Lib.hid hR
  have hbl := hR.lt
  clear hR
  go_wp2_with fail
  refine (RdW.num_any b _ _ 1 _ HR_1.out (by omega) (by omega)).mono ?_
  rintro e W2 ⟨rfl, hR, hg⟩
  have HR_2 := Lib.hid hR
  clear HR_1 hR
  have HS0_2 := Lib.hid (HS0_1.out.grown hg (by omega))
  have HB_2 := Lib.hid (below_grown HB_1.out hg (by omega))
  have hw_2 := HB_2.out.size
  have hws_2 := (hg).size
  clear f0_1_0 f0_1_1 f0_1_2 f0_1_3 f0_1_4 f0_1_5 f0_1_6 f0_1_7 f0_1_8 f0_1_9 HS0_1 hf0_1
  clear hg
  obtain ⟨f0_2_0, f0_2_1, f0_2_2, f0_2_3, f0_2_4, f0_2_5, f0_2_6, f0_2_7, f0_2_8, f0_2_9⟩ := str10 HS0_2.out
  have hl0_2 := HS0_2.out.lt
  have hf0_2 := fun j => HS0_2.out.frozen j
  rw [(num1 x l).2.1, (num1 x l).2.2] at HR_2
  rw [(num1 x l).1, hx]
  go_wp2_with fail
  generalize hW3 : W2.alloc (.cells #[.int .i64 1, .string ⟨#[]⟩, .int .i64 0, .string ⟨#[]⟩, .int .i64 0, .slice none 0 0, .int .i64 0, .int .i64 0, .int .i64 0, .int .i64 0] 38) = W3
  have HS0_3 : Hid (Str W3 (w.heap.size) #[.int .i64 0, .string ⟨#[]⟩, .int .i64 0, .string ⟨#[]⟩, .int .i64 0, .slice none 0 0, .int .i64 0, .int .i64 0, .int .i64 0, .int .i64 0]) := Lib.hid (by rw [← hW3]; exact HS0_2.out.alloc _)
  have HS1_3 : Hid (Str W3 W2.heap.size #[.int .i64 1, .string ⟨#[]⟩, .int .i64 0, .string ⟨#[]⟩, .int .i64 0, .slice none 0 0, .int .i64 0, .int .i64 0, .int .i64 0, .int .i64 0]) := Lib.hid (by rw [← hW3]; exact Str.new W2 #[.int .i64 1, .string ⟨#[]⟩, .int .i64 0, .string ⟨#[]⟩, .int .i64 0, .slice none 0 0, .int .i64 0, .int .i64 0, .int .i64 0, .int .i64 0] 38)
  have hba3 : Below W2.heap.size W2 W3 := by rw [← hW3]; exact balloc (bsame _) _
  have HB_3 := Lib.hid (bstep HB_2.out hba3)
  have hw_3 := HB_3.out.size
  have hws_3 := hba3.size
  have HR_3 := Lib.hid (HR_2.out.below hba3)
  clear HR_2
  clear hW3
  clear f0_2_0 f0_2_1 f0_2_2 f0_2_3 f0_2_4 f0_2_5 f0_2_6 f0_2_7 f0_2_8 f0_2_9 HS0_2 hf0_2
  obtain ⟨f0_3_0, f0_3_1, f0_3_2, f0_3_3, f0_3_4, f0_3_5, f0_3_6, f0_3_7, f0_3_8, f0_3_9⟩ := str10 HS0_3.out
  have hl0_3 := HS0_3.out.lt
  have hf0_3 := fun j => HS0_3.out.frozen j
  obtain ⟨f1_3_0, f1_3_1, f1_3_2, f1_3_3, f1_3_4, f1_3_5, f1_3_6, f1_3_7, f1_3_8, f1_3_9⟩ := str10 HS1_3.out
  have hl1_3 := HS1_3.out.lt
  clear hba3
  refine (ok_rd HR_3.out).mono ?_
  rintro e w_ ⟨rfl, rfl⟩
  go_wp2_with fail
  refine (RdW.num_any b _ _ 1 _ HR_3.out (by omega) (by omega)).mono ?_
  rintro e W4 ⟨rfl, hR, hg⟩
  have HR_4 := Lib.hid hR
  clear HR_3 hR
  have HS0_4 := Lib.hid (HS0_3.out.grown hg (by omega))
  have HS1_4 := Lib.hid (HS1_3.out.grown hg (by omega))
  have HB_4 := Lib.hid (below_grown HB_3.out hg (by omega))
  have hw_4 := HB_4.out.size
  have hws_4 := (hg).size
  clear f0_3_0 f0_3_1 f0_3_2 f0_3_3 f0_3_4 f0_3_5 f0_3_6 f0_3_7 f0_3_8 f0_3_9 HS0_3 hf0_3 f1_3_0 f1_3_1 f1_3_2 f1_3_3 f1_3_4 f1_3_5 f1_3_6 f1_3_7 f1_3_8 f1_3_9 HS1_3
  clear hg
  obtain ⟨f0_4_0, f0_4_1, f0_4_2, f0_4_3, f0_4_4, f0_4_5, f0_4_6, f0_4_7, f0_4_8, f0_4_9⟩ := str10 HS0_4.out
  have hl0_4 := HS0_4.out.lt
  have hf0_4 := fun j => HS0_4.out.frozen j
  obtain ⟨f1_4_0, f1_4_1, f1_4_2, f1_4_3, f1_4_4, f1_4_5, f1_4_6, f1_4_7, f1_4_8, f1_4_9⟩ := str10 HS1_4.out
  have hl1_4 := HS1_4.out.lt
  rw [UndoP.numV_k1 l]
  have hk1 := UndoP.k1_le l
  go_wp2_with fail
  refine (RdW.bytes_any b (UndoP.L2 l) (UndoP.b2 l) (UndoP.k1 l) _ HR_4.out (by omega)).mono ?_
  rintro e W5 ⟨A5, n5, c5, rfl, hy5, hR, hg⟩
  have HR_5 := Lib.hid hR
  clear HR_4 hR
  have HS0_5 := Lib.hid (HS0_4.out.grown hg (by omega))
  have HS1_5 := Lib.hid (HS1_4.out.grown hg (by omega))
  have HB_5 := Lib.hid (below_grown HB_4.out hg (by omega))
  have hw_5 := HB_5.out.size
  have hws_5 := (hg).size
  clear f0_4_0 f0_4_1 f0_4_2 f0_4_3 f0_4_4 f0_4_5 f0_4_6 f0_4_7 f0_4_8 f0_4_9 HS0_4 hf0_4 f1_4_0 f1_4_1 f1_4_2 f1_4_3 f1_4_4 f1_4_5 f1_4_6 f1_4_7 f1_4_8 f1_4_9 HS1_4
  clear hg
  obtain ⟨f0_5_0, f0_5_1, f0_5_2, f0_5_3, f0_5_4, f0_5_5, f0_5_6, f0_5_7, f0_5_8, f0_5_9⟩ := str10 HS0_5.out
  have hl0_5 := HS0_5.out.lt
  have hf0_5 := fun j => HS0_5.out.frozen j
  obtain ⟨f1_5_0, f1_5_1, f1_5_2, f1_5_3, f1_5_4, f1_5_5, f1_5_6, f1_5_7, f1_5_8, f1_5_9⟩ := str10 HS1_5.out
  have hl1_5 := HS1_5.out.lt
  have hy6 : Bytes W5 W5.heap.size A5 n5 c5 (UndoP.K l) := hy5
  have hcv := run_str (P := Tryz.prog) 32 9 5 Tryz.underlying32 Tryz.underlying5 Tryz.underlying9 hy6
  have HKS : Hid ((strOf (UndoP.K l)).size ≤ maxLen) := Lib.hid (by show (UndoP.K l).length ≤ maxLen; rw [hy6.len]; exact Nat.le_trans hy6.2.1 hy6.2.2.1)
  clear hy5 hy6
  have hfu := fun j => HS1_5.out.frozen j
  have hal := fun W => run_al (P := Tryz.prog) arr64 W
  go_wp2_with fail
  generalize hW6 : (W5).setCell ⟨W2.heap.size, 1, none⟩ (.string (strOf (UndoP.K l))) = W6
  have HS0_6 : Hid (Str W6 (w.heap.size) #[.int .i64 0, .string ⟨#[]⟩, .int .i64 0, .string ⟨#[]⟩, .int .i64 0, .slice none 0 0, .int .i64 0, .int .i64 0, .int .i64 0, .int .i64 0]) := Lib.hid (by rw [← hW6]; exact (HS0_5.out).other 1 _ (by omega))
  have HS1_6 : Hid (Str W6 (W2.heap.size) #[.int .i64 1, .string (strOf (UndoP.K l)), .int .i64 0, .string ⟨#[]⟩, .int .i64 0, .slice none 0 0, .int .i64 0, .int .i64 0, .int .i64 0, .int .i64 0]) := Lib.hid (by rw [← hW6]; have := (HS1_5.out).set 1 (.string (strOf (UndoP.K l))); simpa using this)
  have hgr6 : W5.grownBy W6 (some (W2.heap.size)) := by rw [← hW6]; exact grown_set (grown_refl W5 (W2.heap.size)) 1 (.string (strOf (UndoP.K l)))
  have HB_6 := Lib.hid (below_grown HB_5.out hgr6 (by omega))
  have hw_6 := HB_6.out.size
  have hws_6 := hgr6.size
  have HR_6 := Lib.hid ((Rd.grown HR_5.out (Nat.le_refl _) HS1_5.out rfl hgr6 (by omega)))
  clear HR_5
  have hz6 : W6.heap.size = W5.heap.size := by rw [← hW6]; simp
  clear hW6
  clear f0_5_0 f0_5_1 f0_5_2 f0_5_3 f0_5_4 f0_5_5 f0_5_6 f0_5_7 f0_5_8 f0_5_9 HS0_5 hf0_5 f1_5_0 f1_5_1 f1_5_2 f1_5_3 f1_5_4 f1_5_5 f1_5_6 f1_5_7 f1_5_8 f1_5_9 HS1_5
  clear hgr6
  obtain ⟨f0_6_0, f0_6_1, f0_6_2, f0_6_3, f0_6_4, f0_6_5, f0_6_6, f0_6_7, f0_6_8, f0_6_9⟩ := str10 HS0_6.out
  have hl0_6 := HS0_6.out.lt
  have hf0_6 := fun j => HS0_6.out.frozen j
  obtain ⟨f1_6_0, f1_6_1, f1_6_2, f1_6_3, f1_6_4, f1_6_5, f1_6_6, f1_6_7, f1_6_8, f1_6_9⟩ := str10 HS1_6.out
  have hl1_6 := HS1_6.out.lt
  clear hcv hfu
  generalize hW7 : W6.alloc (.cells (rowV (SlotP.zeros 64)) 118) = W7
  have HS0_7 : Hid (Str W7 (w.heap.size) #[.int .i64 0, .string ⟨#[]⟩, .int .i64 0, .string ⟨#[]⟩, .int .i64 0, .slice none 0 0, .int .i64 0, .int .i64 0, .int .i64 0, .int .i64 0]) := Lib.hid (by rw [← hW7]; exact HS0_6.out.alloc _)
  have HS1_7 : Hid (Str W7 (W2.heap.size) #[.int .i64 1, .string (strOf (UndoP.K l)), .int .i64 0, .string ⟨#[]⟩, .int .i64 0, .slice none 0 0, .int .i64 0, .int .i64 0, .int .i64 0, .int .i64 0]) := Lib.hid (by rw [← hW7]; exact HS1_6.out.alloc _)
  have HS2_7 : Hid (Str W7 W6.heap.size (rowV (SlotP.zeros 64))) := Lib.hid (by rw [← hW7]; exact Str.new W6 (rowV (SlotP.zeros 64)) 118)
  have hba7 : Below W6.heap.size W6 W7 := by rw [← hW7]; exact balloc (bsame _) _
  have HB_7 := Lib.hid (bstep HB_6.out hba7)
  have hw_7 := HB_7.out.size
  have hws_7 := hba7.size
  have HR_7 := Lib.hid (HR_6.out.below hba7)
  clear HR_6
  clear hW7
  clear f0_6_0 f0_6_1 f0_6_2 f0_6_3 f0_6_4 f0_6_5 f0_6_6 f0_6_7 f0_6_8 f0_6_9 HS0_6 hf0_6 f1_6_0 f1_6_1 f1_6_2 f1_6_3 f1_6_4 f1_6_5 f1_6_6 f1_6_7 f1_6_8 f1_6_9 HS1_6
  obtain ⟨f0_7_0, f0_7_1, f0_7_2, f0_7_3, f0_7_4, f0_7_5, f0_7_6, f0_7_7, f0_7_8, f0_7_9⟩ := str10 HS0_7.out
  have hl0_7 := HS0_7.out.lt
  have hf0_7 := fun j => HS0_7.out.frozen j
  obtain ⟨f1_7_0, f1_7_1, f1_7_2, f1_7_3, f1_7_4, f1_7_5, f1_7_6, f1_7_7, f1_7_8, f1_7_9⟩ := str10 HS1_7.out
  have hl1_7 := HS1_7.out.lt
  have hl2_7 := HS2_7.out.lt
  clear hba7 hal
  rw [hz6] at HS2_7 hl2_7
  have hR : Rd W7 b (UndoP.L3 l) (UndoP.b3 l) := HR_7.out
  clear HR_7
  have HR_7 := Lib.hid hR
  clear hR
  have hsl := fun W => run_sl_all (P := Tryz.prog) arr64 W5.heap.size W
  have HRD : Hid (∀ m, Rd (W7.drewN m) b (UndoP.L3 l) (UndoP.b3 l)) := Lib.hid (fun _ => HR_7.out)
  have HZ : Hid ((SlotP.zeros 64).length = 64) := Lib.hid (SlotPut.zeros_len 64)
  go_region_with (go_at_call 87; refine (RdW.bytes_any b (UndoP.L3 l) (UndoP.b3 l) 64 _ (by first | exact HR_7.out | exact HRD.out _) (by omega)).mono ?_; rintro e W8 ⟨A7, n7, c7, rfl, hy7, hR, hg⟩; have hg' : W7.grownBy W8 (some b) := ⟨hg.os, hg.tape, hg.output, hg.size, hg.block⟩; obtain ⟨W9, hcp, hV9, hg9⟩ := copy_bytes (P := Tryz.prog) 32 32 3 5 Tryz.underlying32 Be.sizeU8 (dLen := 64) (dCap := 64) (off := 0) (HS2_7.out.grown hg' (by omega)) hy7 (by rw [HZ.out]; omega))
  all_goals
    clear hcp hg hsl HRD
    have HR8 := Lib.hid hR
    clear HR_7 hR
    have HS0_8 := Lib.hid (HS0_7.out.grown hg' (by omega))
    have HS1_8 := Lib.hid (HS1_7.out.grown hg' (by omega))
    have HS2_8 := Lib.hid (HS2_7.out.grown hg' (by omega))
    have HB_8 := Lib.hid (below_grown HB_7.out hg' (by omega))
    have hw_8 := HB_8.out.size
    have hws_8 := (hg').size
    clear f0_7_0 f0_7_1 f0_7_2 f0_7_3 f0_7_4 f0_7_5 f0_7_6 f0_7_7 f0_7_8 f0_7_9 HS0_7 hf0_7 f1_7_0 f1_7_1 f1_7_2 f1_7_3 f1_7_4 f1_7_5 f1_7_6 f1_7_7 f1_7_8 f1_7_9 HS1_7 HS2_7
    clear hg'
    obtain ⟨f0_8_0, f0_8_1, f0_8_2, f0_8_3, f0_8_4, f0_8_5, f0_8_6, f0_8_7, f0_8_8, f0_8_9⟩ := str10 HS0_8.out
    have hl0_8 := HS0_8.out.lt
    have hf0_8 := fun j => HS0_8.out.frozen j
    obtain ⟨f1_8_0, f1_8_1, f1_8_2, f1_8_3, f1_8_4, f1_8_5, f1_8_6, f1_8_7, f1_8_8, f1_8_9⟩ := str10 HS1_8.out
    have hl1_8 := HS1_8.out.lt
    have hl2_8 := HS2_8.out.lt
    have hV : Str W9 W5.heap.size (rowV (UndoP.raw l)) := by
      have h9 : (UndoP.S5 l).take 64 = UndoP.S5 l := List.take_of_length_le (UndoP.S5_le l)
      have h8 := hV9
      rw [show RdP.th (UndoP.L3 l) (UndoP.b3 l) 64 = UndoP.S5 l from rfl, h9] at h8
      exact h8
    clear hV9 hy7
    have HS0_9 := Lib.hid (HS0_8.out.grown hg9 (by omega))
    have HS1_9 := Lib.hid (HS1_8.out.grown hg9 (by omega))
    have HS2_9 := Lib.hid hV
    have HB_9 := Lib.hid (below_grown HB_8.out hg9 (by omega))
    have hw_9 := HB_9.out.size
    have hws_9 := hg9.size
    have hRR : Rd W9 b (UndoP.L5 l) (UndoP.b5 l) := HR8.out.above hg9 (by omega)
    have HR_9 := Lib.hid hRR
    clear HR8 hRR hV hg9
    clear f0_8_0 f0_8_1 f0_8_2 f0_8_3 f0_8_4 f0_8_5 f0_8_6 f0_8_7 f0_8_8 f0_8_9 HS0_8 hf0_8 f1_8_0 f1_8_1 f1_8_2 f1_8_3 f1_8_4 f1_8_5 f1_8_6 f1_8_7 f1_8_8 f1_8_9 HS1_8 HS2_8
    obtain ⟨f0_9_0, f0_9_1, f0_9_2, f0_9_3, f0_9_4, f0_9_5, f0_9_6, f0_9_7, f0_9_8, f0_9_9⟩ := str10 HS0_9.out
    have hl0_9 := HS0_9.out.lt
    have hf0_9 := fun j => HS0_9.out.frozen j
    obtain ⟨f1_9_0, f1_9_1, f1_9_2, f1_9_3, f1_9_4, f1_9_5, f1_9_6, f1_9_7, f1_9_8, f1_9_9⟩ := str10 HS1_9.out
    have hl1_9 := HS1_9.out.lt
    have hl2_9 := HS2_9.out.lt
    have HLR := Lib.hid (UndoP.raw_length l)
    have hld := run_ld (P := Tryz.prog) arr64 HS2_9.out HLR.out
    go_wp2_with fail
    have HGI := Lib.hid (fun W => SlotGet.get_new (UndoP.raw l) HLR.out W)
    have HU5 : Hid (UndoP.U5 l = ⟨1, SlotP.text (UndoP.K l), (SlotP.get (UndoP.raw l)).1, 0⟩) := Lib.hid rfl
    generalize hrr : SlotP.get (UndoP.raw l) = r at HGI HU5
    have HRR := Lib.hid hrr
    clear hrr
    obtain ⟨⟨rs, rk, rkind, rdata, rlo, rhi, rval⟩, er⟩ := r
    refine (HGI.out _).mono ?_
    rintro e W10 ⟨A10, n10, c10, rfl, ⟨hy10, hnew10⟩, hb10⟩
    have HNW10 : Hid (∀ a, A10 = some a → w.heap.size ≤ a.block) := Lib.hid (fun a e => Nat.le_trans HB_9.out.size (hnew10 a e))
    clear hnew10
    dsimp only at *
    clear hld HGI
    have HS0_10 := Lib.hid (HS0_9.out.next hb10)
    have HS1_10 := Lib.hid (HS1_9.out.next hb10)
    have HS2_10 := Lib.hid (HS2_9.out.next hb10)
    have HB_10 := Lib.hid (bstep HB_9.out hb10)
    have hw_10 := HB_10.out.size
    have hws_10 := (hb10).size
    have HR_10 := Lib.hid (HR_9.out.below hb10)
    clear HR_9
    clear f0_9_0 f0_9_1 f0_9_2 f0_9_3 f0_9_4 f0_9_5 f0_9_6 f0_9_7 f0_9_8 f0_9_9 HS0_9 hf0_9 f1_9_0 f1_9_1 f1_9_2 f1_9_3 f1_9_4 f1_9_5 f1_9_6 f1_9_7 f1_9_8 f1_9_9 HS1_9 HS2_9
    clear hb10
    obtain ⟨f0_10_0, f0_10_1, f0_10_2, f0_10_3, f0_10_4, f0_10_5, f0_10_6, f0_10_7, f0_10_8, f0_10_9⟩ := str10 HS0_10.out
    have hl0_10 := HS0_10.out.lt
    have hf0_10 := fun j => HS0_10.out.frozen j
    obtain ⟨f1_10_0, f1_10_1, f1_10_2, f1_10_3, f1_10_4, f1_10_5, f1_10_6, f1_10_7, f1_10_8, f1_10_9⟩ := str10 HS1_10.out
    have hl1_10 := HS1_10.out.lt
    have hl2_10 := HS2_10.out.lt
    have HYz_10 := Lib.hid (hy10)
    clear hy10
    have hfu := fun j => HS1_10.out.frozen j
    go_wp2_with fail
    have hrk : rk.size ≤ maxLen := by have h1 := key_le (UndoP.raw l); rw [HRR.out, HLR.out] at h1; exact Nat.le_trans h1 (by decide)
    generalize hW11 : (((((((W10).setCell ⟨W2.heap.size, 2, none⟩ (.int .i64 rs)).setCell ⟨W2.heap.size, 3, none⟩ (.string rk)).setCell ⟨W2.heap.size, 4, none⟩ (.int .i64 rkind)).setCell ⟨W2.heap.size, 5, none⟩ (.slice A10 n10 c10)).setCell ⟨W2.heap.size, 6, none⟩ (.int .i64 rlo)).setCell ⟨W2.heap.size, 7, none⟩ (.int .i64 rhi)).setCell ⟨W2.heap.size, 8, none⟩ (.int .i64 rval) = W11
    have HS0_11 : Hid (Str W11 (w.heap.size) #[.int .i64 0, .string ⟨#[]⟩, .int .i64 0, .string ⟨#[]⟩, .int .i64 0, .slice none 0 0, .int .i64 0, .int .i64 0, .int .i64 0, .int .i64 0]) := Lib.hid (by rw [← hW11]; exact (((((((HS0_10.out).other 2 _ (by omega)).other 3 _ (by omega)).other 4 _ (by omega)).other 5 _ (by omega)).other 6 _ (by omega)).other 7 _ (by omega)).other 8 _ (by omega))
    have HS1_11 : Hid (Str W11 (W2.heap.size) #[.int .i64 1, .string (strOf (UndoP.K l)), .int .i64 rs, .string rk, .int .i64 rkind, .slice A10 n10 c10, .int .i64 rlo, .int .i64 rhi, .int .i64 rval, .int .i64 0]) := Lib.hid (by rw [← hW11]; have := (((((((HS1_10.out).set 2 (.int .i64 rs)).set 3 (.string rk)).set 4 (.int .i64 rkind)).set 5 (.slice A10 n10 c10)).set 6 (.int .i64 rlo)).set 7 (.int .i64 rhi)).set 8 (.int .i64 rval); simpa using this)
    have HS2_11 : Hid (Str W11 (W5.heap.size) (rowV (UndoP.raw l))) := Lib.hid (by rw [← hW11]; exact (((((((HS2_10.out).other 2 _ (by omega)).other 3 _ (by omega)).other 4 _ (by omega)).other 5 _ (by omega)).other 6 _ (by omega)).other 7 _ (by omega)).other 8 _ (by omega))
    have hgr11 : W10.grownBy W11 (some (W2.heap.size)) := by rw [← hW11]; exact grown_set (grown_set (grown_set (grown_set (grown_set (grown_set (grown_set (grown_refl W10 (W2.heap.size)) 2 (.int .i64 rs)) 3 (.string rk)) 4 (.int .i64 rkind)) 5 (.slice A10 n10 c10)) 6 (.int .i64 rlo)) 7 (.int .i64 rhi)) 8 (.int .i64 rval)
    have HB_11 := Lib.hid (below_grown HB_10.out hgr11 (by omega))
    have hw_11 := HB_11.out.size
    have hws_11 := hgr11.size
    have HYz_11 := Lib.hid ((Bytes.grown HYz_10.out (Nat.le_refl _) HS1_10.out rfl hgr11).more hws_11)
    clear HYz_10
    have HR_11 := Lib.hid ((Rd.grown HR_10.out (Nat.le_refl _) HS1_10.out rfl hgr11 (by omega)))
    clear HR_10
    clear hW11
    clear f0_10_0 f0_10_1 f0_10_2 f0_10_3 f0_10_4 f0_10_5 f0_10_6 f0_10_7 f0_10_8 f0_10_9 HS0_10 hf0_10 f1_10_0 f1_10_1 f1_10_2 f1_10_3 f1_10_4 f1_10_5 f1_10_6 f1_10_7 f1_10_8 f1_10_9 HS1_10 HS2_10
    clear hgr11
    obtain ⟨f0_11_0, f0_11_1, f0_11_2, f0_11_3, f0_11_4, f0_11_5, f0_11_6, f0_11_7, f0_11_8, f0_11_9⟩ := str10 HS0_11.out
    have hl0_11 := HS0_11.out.lt
    have hf0_11 := fun j => HS0_11.out.frozen j
    obtain ⟨f1_11_0, f1_11_1, f1_11_2, f1_11_3, f1_11_4, f1_11_5, f1_11_6, f1_11_7, f1_11_8, f1_11_9⟩ := str10 HS1_11.out
    have hl1_11 := HS1_11.out.lt
    have hl2_11 := HS2_11.out.lt
    clear hfu
    generalize hW12 : W11.alloc (.cells #[.int .i64 rs, .string rk, .int .i64 rkind, .slice A10 n10 c10, .int .i64 rlo, .int .i64 rhi, .int .i64 rval] 36) = W12
    have HS0_12 : Hid (Str W12 (w.heap.size) #[.int .i64 0, .string ⟨#[]⟩, .int .i64 0, .string ⟨#[]⟩, .int .i64 0, .slice none 0 0, .int .i64 0, .int .i64 0, .int .i64 0, .int .i64 0]) := Lib.hid (by rw [← hW12]; exact HS0_11.out.alloc _)
    have HS1_12 : Hid (Str W12 (W2.heap.size) #[.int .i64 1, .string (strOf (UndoP.K l)), .int .i64 rs, .string rk, .int .i64 rkind, .slice A10 n10 c10, .int .i64 rlo, .int .i64 rhi, .int .i64 rval, .int .i64 0]) := Lib.hid (by rw [← hW12]; exact HS1_11.out.alloc _)
    have HS2_12 : Hid (Str W12 (W5.heap.size) (rowV (UndoP.raw l))) := Lib.hid (by rw [← hW12]; exact HS2_11.out.alloc _)
    have HS3_12 : Hid (Str W12 W11.heap.size #[.int .i64 rs, .string rk, .int .i64 rkind, .slice A10 n10 c10, .int .i64 rlo, .int .i64 rhi, .int .i64 rval]) := Lib.hid (by rw [← hW12]; exact Str.new W11 #[.int .i64 rs, .string rk, .int .i64 rkind, .slice A10 n10 c10, .int .i64 rlo, .int .i64 rhi, .int .i64 rval] 36)
    have hba12 : Below W11.heap.size W11 W12 := by rw [← hW12]; exact balloc (bsame _) _
    have HB_12 := Lib.hid (bstep HB_11.out hba12)
    have hw_12 := HB_12.out.size
    have hws_12 := hba12.size
    have HYz_12 := Lib.hid (HYz_11.out.next hba12)
    clear HYz_11
    have HR_12 := Lib.hid (HR_11.out.below hba12)
    clear HR_11
    clear hW12
    clear f0_11_0 f0_11_1 f0_11_2 f0_11_3 f0_11_4 f0_11_5 f0_11_6 f0_11_7 f0_11_8 f0_11_9 HS0_11 hf0_11 f1_11_0 f1_11_1 f1_11_2 f1_11_3 f1_11_4 f1_11_5 f1_11_6 f1_11_7 f1_11_8 f1_11_9 HS1_11 HS2_11
    obtain ⟨f0_12_0, f0_12_1, f0_12_2, f0_12_3, f0_12_4, f0_12_5, f0_12_6, f0_12_7, f0_12_8, f0_12_9⟩ := str10 HS0_12.out
    have hl0_12 := HS0_12.out.lt
    have hf0_12 := fun j => HS0_12.out.frozen j
    obtain ⟨f1_12_0, f1_12_1, f1_12_2, f1_12_3, f1_12_4, f1_12_5, f1_12_6, f1_12_7, f1_12_8, f1_12_9⟩ := str10 HS1_12.out
    have hl1_12 := HS1_12.out.lt
    have hl2_12 := HS2_12.out.lt
    obtain ⟨f3_12_0, f3_12_1, f3_12_2, f3_12_3, f3_12_4, f3_12_5, f3_12_6⟩ := str7 HS3_12.out
    have hl3_12 := HS3_12.out.lt
    clear hba12
    refine (ok_rd HR_12.out).mono ?_
    rintro e w_ ⟨rfl, rfl⟩
    cases hb5 : UndoP.b5 l
    case true =>
      have HE : Hid (UndoP.get (x :: l) = (UndoP.none, 0, 13)) := Lib.hid (UndoP.get_short5 x l (by omega) hb5)
      clear HR_12
      go_wp2_with fail
      generalize hW13 : ((((((((((W12).setCell ⟨w.heap.size, 0, none⟩ (.int .i64 0)).setCell ⟨w.heap.size, 1, none⟩ (.string ⟨#[]⟩)).setCell ⟨w.heap.size, 2, none⟩ (.int .i64 0)).setCell ⟨w.heap.size, 3, none⟩ (.string ⟨#[]⟩)).setCell ⟨w.heap.size, 4, none⟩ (.int .i64 0)).setCell ⟨w.heap.size, 5, none⟩ (.slice none 0 0)).setCell ⟨w.heap.size, 6, none⟩ (.int .i64 0)).setCell ⟨w.heap.size, 7, none⟩ (.int .i64 0)).setCell ⟨w.heap.size, 8, none⟩ (.int .i64 0)).setCell ⟨w.heap.size, 9, none⟩ (.int .i64 0) = W13
      have HS0_13 : Hid (Str W13 (w.heap.size) #[.int .i64 0, .string ⟨#[]⟩, .int .i64 0, .string ⟨#[]⟩, .int .i64 0, .slice none 0 0, .int .i64 0, .int .i64 0, .int .i64 0, .int .i64 0]) := Lib.hid (by rw [← hW13]; have := ((((((((((HS0_12.out).set 0 (.int .i64 0)).set 1 (.string ⟨#[]⟩)).set 2 (.int .i64 0)).set 3 (.string ⟨#[]⟩)).set 4 (.int .i64 0)).set 5 (.slice none 0 0)).set 6 (.int .i64 0)).set 7 (.int .i64 0)).set 8 (.int .i64 0)).set 9 (.int .i64 0); simpa using this)
      have HS1_13 : Hid (Str W13 (W2.heap.size) #[.int .i64 1, .string (strOf (UndoP.K l)), .int .i64 rs, .string rk, .int .i64 rkind, .slice A10 n10 c10, .int .i64 rlo, .int .i64 rhi, .int .i64 rval, .int .i64 0]) := Lib.hid (by rw [← hW13]; exact ((((((((((HS1_12.out).other 0 _ (by omega)).other 1 _ (by omega)).other 2 _ (by omega)).other 3 _ (by omega)).other 4 _ (by omega)).other 5 _ (by omega)).other 6 _ (by omega)).other 7 _ (by omega)).other 8 _ (by omega)).other 9 _ (by omega))
      have HS2_13 : Hid (Str W13 (W5.heap.size) (rowV (UndoP.raw l))) := Lib.hid (by rw [← hW13]; exact ((((((((((HS2_12.out).other 0 _ (by omega)).other 1 _ (by omega)).other 2 _ (by omega)).other 3 _ (by omega)).other 4 _ (by omega)).other 5 _ (by omega)).other 6 _ (by omega)).other 7 _ (by omega)).other 8 _ (by omega)).other 9 _ (by omega))
      have HS3_13 : Hid (Str W13 (W11.heap.size) #[.int .i64 rs, .string rk, .int .i64 rkind, .slice A10 n10 c10, .int .i64 rlo, .int .i64 rhi, .int .i64 rval]) := Lib.hid (by rw [← hW13]; exact ((((((((((HS3_12.out).other 0 _ (by omega)).other 1 _ (by omega)).other 2 _ (by omega)).other 3 _ (by omega)).other 4 _ (by omega)).other 5 _ (by omega)).other 6 _ (by omega)).other 7 _ (by omega)).other 8 _ (by omega)).other 9 _ (by omega))
      have hgr13 : W12.grownBy W13 (some (w.heap.size)) := by rw [← hW13]; exact grown_set (grown_set (grown_set (grown_set (grown_set (grown_set (grown_set (grown_set (grown_set (grown_set (grown_refl W12 (w.heap.size)) 0 (.int .i64 0)) 1 (.string ⟨#[]⟩)) 2 (.int .i64 0)) 3 (.string ⟨#[]⟩)) 4 (.int .i64 0)) 5 (.slice none 0 0)) 6 (.int .i64 0)) 7 (.int .i64 0)) 8 (.int .i64 0)) 9 (.int .i64 0)
      have HB_13 := Lib.hid (below_grown HB_12.out hgr13 (by omega))
      have hw_13 := HB_13.out.size
      have hws_13 := hgr13.size
      have HYz_13 := Lib.hid ((Bytes.grown HYz_12.out (Nat.le_refl _) HS0_12.out rfl hgr13).more hws_13)
      clear HYz_12
      clear hW13
      clear f0_12_0 f0_12_1 f0_12_2 f0_12_3 f0_12_4 f0_12_5 f0_12_6 f0_12_7 f0_12_8 f0_12_9 HS0_12 hf0_12 f1_12_0 f1_12_1 f1_12_2 f1_12_3 f1_12_4 f1_12_5 f1_12_6 f1_12_7 f1_12_8 f1_12_9 HS1_12 HS2_12 f3_12_0 f3_12_1 f3_12_2 f3_12_3 f3_12_4 f3_12_5 f3_12_6 HS3_12
      clear hgr13
      obtain ⟨f0_13_0, f0_13_1, f0_13_2, f0_13_3, f0_13_4, f0_13_5, f0_13_6, f0_13_7, f0_13_8, f0_13_9⟩ := str10 HS0_13.out
      have hl0_13 := HS0_13.out.lt
      have hf0_13 := fun j => HS0_13.out.frozen j
      obtain ⟨f1_13_0, f1_13_1, f1_13_2, f1_13_3, f1_13_4, f1_13_5, f1_13_6, f1_13_7, f1_13_8, f1_13_9⟩ := str10 HS1_13.out
      have hl1_13 := HS1_13.out.lt
      have hl2_13 := HS2_13.out.lt
      obtain ⟨f3_13_0, f3_13_1, f3_13_2, f3_13_3, f3_13_4, f3_13_5, f3_13_6⟩ := str7 HS3_13.out
      have hl3_13 := HS3_13.out.lt
      refine bodyPost_ret (v := .tuple #[.agg #[.int .i64 0, .string ⟨#[]⟩, .int .i64 0, .string ⟨#[]⟩, .int .i64 0, .slice none 0 0, .int .i64 0, .int .i64 0, .int .i64 0, .int .i64 0], .int .i64 0, .int .i64 13]) (by simp [results, Tryz.results90, go_sem, *]) rfl ?_
      rw [HE.out]
      exact ⟨none, 0, 0, rfl, ⟨Bytes.none_ _ _, fun a e => by cases e⟩, HB_13.out⟩
    have HG5 := Lib.hid (UndoP.get_full5 x l (by omega) hb5)
    rw [HRR.out] at HG5
    rw [hb5] at HR_12
    clear hb5
    by_cases her : er = 0
    case neg =>
      have HE : Hid (UndoP.get (x :: l) = (UndoP.none, 0, 12)) := Lib.hid (by rw [HG5.out, if_neg (fun h => her h.1)])
      clear HR_12
      have her2 : (er == 0) = false := by simpa using her
      go_wp2_with fail
      generalize hW13 : ((((((((((W12).setCell ⟨w.heap.size, 0, none⟩ (.int .i64 0)).setCell ⟨w.heap.size, 1, none⟩ (.string ⟨#[]⟩)).setCell ⟨w.heap.size, 2, none⟩ (.int .i64 0)).setCell ⟨w.heap.size, 3, none⟩ (.string ⟨#[]⟩)).setCell ⟨w.heap.size, 4, none⟩ (.int .i64 0)).setCell ⟨w.heap.size, 5, none⟩ (.slice none 0 0)).setCell ⟨w.heap.size, 6, none⟩ (.int .i64 0)).setCell ⟨w.heap.size, 7, none⟩ (.int .i64 0)).setCell ⟨w.heap.size, 8, none⟩ (.int .i64 0)).setCell ⟨w.heap.size, 9, none⟩ (.int .i64 0) = W13
      have HS0_13 : Hid (Str W13 (w.heap.size) #[.int .i64 0, .string ⟨#[]⟩, .int .i64 0, .string ⟨#[]⟩, .int .i64 0, .slice none 0 0, .int .i64 0, .int .i64 0, .int .i64 0, .int .i64 0]) := Lib.hid (by rw [← hW13]; have := ((((((((((HS0_12.out).set 0 (.int .i64 0)).set 1 (.string ⟨#[]⟩)).set 2 (.int .i64 0)).set 3 (.string ⟨#[]⟩)).set 4 (.int .i64 0)).set 5 (.slice none 0 0)).set 6 (.int .i64 0)).set 7 (.int .i64 0)).set 8 (.int .i64 0)).set 9 (.int .i64 0); simpa using this)
      have HS1_13 : Hid (Str W13 (W2.heap.size) #[.int .i64 1, .string (strOf (UndoP.K l)), .int .i64 rs, .string rk, .int .i64 rkind, .slice A10 n10 c10, .int .i64 rlo, .int .i64 rhi, .int .i64 rval, .int .i64 0]) := Lib.hid (by rw [← hW13]; exact ((((((((((HS1_12.out).other 0 _ (by omega)).other 1 _ (by omega)).other 2 _ (by omega)).other 3 _ (by omega)).other 4 _ (by omega)).other 5 _ (by omega)).other 6 _ (by omega)).other 7 _ (by omega)).other 8 _ (by omega)).other 9 _ (by omega))
      have HS2_13 : Hid (Str W13 (W5.heap.size) (rowV (UndoP.raw l))) := Lib.hid (by rw [← hW13]; exact ((((((((((HS2_12.out).other 0 _ (by omega)).other 1 _ (by omega)).other 2 _ (by omega)).other 3 _ (by omega)).other 4 _ (by omega)).other 5 _ (by omega)).other 6 _ (by omega)).other 7 _ (by omega)).other 8 _ (by omega)).other 9 _ (by omega))
      have HS3_13 : Hid (Str W13 (W11.heap.size) #[.int .i64 rs, .string rk, .int .i64 rkind, .slice A10 n10 c10, .int .i64 rlo, .int .i64 rhi, .int .i64 rval]) := Lib.hid (by rw [← hW13]; exact ((((((((((HS3_12.out).other 0 _ (by omega)).other 1 _ (by omega)).other 2 _ (by omega)).other 3 _ (by omega)).other 4 _ (by omega)).other 5 _ (by omega)).other 6 _ (by omega)).other 7 _ (by omega)).other 8 _ (by omega)).other 9 _ (by omega))
      have hgr13 : W12.grownBy W13 (some (w.heap.size)) := by rw [← hW13]; exact grown_set (grown_set (grown_set (grown_set (grown_set (grown_set (grown_set (grown_set (grown_set (grown_set (grown_refl W12 (w.heap.size)) 0 (.int .i64 0)) 1 (.string ⟨#[]⟩)) 2 (.int .i64 0)) 3 (.string ⟨#[]⟩)) 4 (.int .i64 0)) 5 (.slice none 0 0)) 6 (.int .i64 0)) 7 (.int .i64 0)) 8 (.int .i64 0)) 9 (.int .i64 0)
      have HB_13 := Lib.hid (below_grown HB_12.out hgr13 (by omega))
      have hw_13 := HB_13.out.size
      have hws_13 := hgr13.size
      have HYz_13 := Lib.hid ((Bytes.grown HYz_12.out (Nat.le_refl _) HS0_12.out rfl hgr13).more hws_13)
      clear HYz_12
      clear hW13
      clear f0_12_0 f0_12_1 f0_12_2 f0_12_3 f0_12_4 f0_12_5 f0_12_6 f0_12_7 f0_12_8 f0_12_9 HS0_12 hf0_12 f1_12_0 f1_12_1 f1_12_2 f1_12_3 f1_12_4 f1_12_5 f1_12_6 f1_12_7 f1_12_8 f1_12_9 HS1_12 HS2_12 f3_12_0 f3_12_1 f3_12_2 f3_12_3 f3_12_4 f3_12_5 f3_12_6 HS3_12
      clear hgr13
      obtain ⟨f0_13_0, f0_13_1, f0_13_2, f0_13_3, f0_13_4, f0_13_5, f0_13_6, f0_13_7, f0_13_8, f0_13_9⟩ := str10 HS0_13.out
      have hl0_13 := HS0_13.out.lt
      have hf0_13 := fun j => HS0_13.out.frozen j
      obtain ⟨f1_13_0, f1_13_1, f1_13_2, f1_13_3, f1_13_4, f1_13_5, f1_13_6, f1_13_7, f1_13_8, f1_13_9⟩ := str10 HS1_13.out
      have hl1_13 := HS1_13.out.lt
      have hl2_13 := HS2_13.out.lt
      obtain ⟨f3_13_0, f3_13_1, f3_13_2, f3_13_3, f3_13_4, f3_13_5, f3_13_6⟩ := str7 HS3_13.out
      have hl3_13 := HS3_13.out.lt
      refine bodyPost_ret (v := .tuple #[.agg #[.int .i64 0, .string ⟨#[]⟩, .int .i64 0, .string ⟨#[]⟩, .int .i64 0, .slice none 0 0, .int .i64 0, .int .i64 0, .int .i64 0, .int .i64 0], .int .i64 0, .int .i64 12]) (by simp [results, Tryz.results90, go_sem, *]) rfl ?_
      rw [HE.out]
      exact ⟨none, 0, 0, rfl, ⟨Bytes.none_ _ _, fun a e => by cases e⟩, HB_13.out⟩
    subst her
    go_wp2_with fail
    refine (check_any 1 (strOf (UndoP.K l)) A10 n10 c10 W12.heap.size rs rk rkind rdata rlo rhi rval 0 _ HYz_12.out (Nat.le_refl _) hrk HKS.out).mono ?_
    rintro e W13 ⟨rfl, hb13⟩
    rw [show UndoP.right ⟨1, strOf (UndoP.K l), ⟨rs, rk, ⟨rkind, rdata, rlo, rhi, rval⟩⟩, 0⟩ = UndoP.right (UndoP.U5 l) from by rw [HU5.out]; rfl]
    have HS0_13 := Lib.hid (HS0_12.out.next hb13)
    have HS1_13 := Lib.hid (HS1_12.out.next hb13)
    have HS2_13 := Lib.hid (HS2_12.out.next hb13)
    have HS3_13 := Lib.hid (HS3_12.out.next hb13)
    have HB_13 := Lib.hid (bstep HB_12.out hb13)
    have hw_13 := HB_13.out.size
    have hws_13 := (hb13).size
    have HYz_13 := Lib.hid (HYz_12.out.next hb13)
    clear HYz_12
    have HR_13 := Lib.hid (HR_12.out.below hb13)
    clear HR_12
    clear f0_12_0 f0_12_1 f0_12_2 f0_12_3 f0_12_4 f0_12_5 f0_12_6 f0_12_7 f0_12_8 f0_12_9 HS0_12 hf0_12 f1_12_0 f1_12_1 f1_12_2 f1_12_3 f1_12_4 f1_12_5 f1_12_6 f1_12_7 f1_12_8 f1_12_9 HS1_12 HS2_12 f3_12_0 f3_12_1 f3_12_2 f3_12_3 f3_12_4 f3_12_5 f3_12_6 HS3_12
    clear hb13
    obtain ⟨f0_13_0, f0_13_1, f0_13_2, f0_13_3, f0_13_4, f0_13_5, f0_13_6, f0_13_7, f0_13_8, f0_13_9⟩ := str10 HS0_13.out
    have hl0_13 := HS0_13.out.lt
    have hf0_13 := fun j => HS0_13.out.frozen j
    obtain ⟨f1_13_0, f1_13_1, f1_13_2, f1_13_3, f1_13_4, f1_13_5, f1_13_6, f1_13_7, f1_13_8, f1_13_9⟩ := str10 HS1_13.out
    have hl1_13 := HS1_13.out.lt
    have hl2_13 := HS2_13.out.lt
    obtain ⟨f3_13_0, f3_13_1, f3_13_2, f3_13_3, f3_13_4, f3_13_5, f3_13_6⟩ := str7 HS3_13.out
    have hl3_13 := HS3_13.out.lt
    cases hr : UndoP.right (UndoP.U5 l)
    case false =>
      have HE : Hid (UndoP.get (x :: l) = (UndoP.none, 0, 12)) := Lib.hid (by rw [HG5.out, if_neg (by rw [hr]; simp)])
      rw [show CellP.code false = 1 from rfl]
      clear HR_13
      go_wp2_with fail
      generalize hW14 : ((((((((((W13).setCell ⟨w.heap.size, 0, none⟩ (.int .i64 0)).setCell ⟨w.heap.size, 1, none⟩ (.string ⟨#[]⟩)).setCell ⟨w.heap.size, 2, none⟩ (.int .i64 0)).setCell ⟨w.heap.size, 3, none⟩ (.string ⟨#[]⟩)).setCell ⟨w.heap.size, 4, none⟩ (.int .i64 0)).setCell ⟨w.heap.size, 5, none⟩ (.slice none 0 0)).setCell ⟨w.heap.size, 6, none⟩ (.int .i64 0)).setCell ⟨w.heap.size, 7, none⟩ (.int .i64 0)).setCell ⟨w.heap.size, 8, none⟩ (.int .i64 0)).setCell ⟨w.heap.size, 9, none⟩ (.int .i64 0) = W14
      have HS0_14 : Hid (Str W14 (w.heap.size) #[.int .i64 0, .string ⟨#[]⟩, .int .i64 0, .string ⟨#[]⟩, .int .i64 0, .slice none 0 0, .int .i64 0, .int .i64 0, .int .i64 0, .int .i64 0]) := Lib.hid (by rw [← hW14]; have := ((((((((((HS0_13.out).set 0 (.int .i64 0)).set 1 (.string ⟨#[]⟩)).set 2 (.int .i64 0)).set 3 (.string ⟨#[]⟩)).set 4 (.int .i64 0)).set 5 (.slice none 0 0)).set 6 (.int .i64 0)).set 7 (.int .i64 0)).set 8 (.int .i64 0)).set 9 (.int .i64 0); simpa using this)
      have HS1_14 : Hid (Str W14 (W2.heap.size) #[.int .i64 1, .string (strOf (UndoP.K l)), .int .i64 rs, .string rk, .int .i64 rkind, .slice A10 n10 c10, .int .i64 rlo, .int .i64 rhi, .int .i64 rval, .int .i64 0]) := Lib.hid (by rw [← hW14]; exact ((((((((((HS1_13.out).other 0 _ (by omega)).other 1 _ (by omega)).other 2 _ (by omega)).other 3 _ (by omega)).other 4 _ (by omega)).other 5 _ (by omega)).other 6 _ (by omega)).other 7 _ (by omega)).other 8 _ (by omega)).other 9 _ (by omega))
      have HS2_14 : Hid (Str W14 (W5.heap.size) (rowV (UndoP.raw l))) := Lib.hid (by rw [← hW14]; exact ((((((((((HS2_13.out).other 0 _ (by omega)).other 1 _ (by omega)).other 2 _ (by omega)).other 3 _ (by omega)).other 4 _ (by omega)).other 5 _ (by omega)).other 6 _ (by omega)).other 7 _ (by omega)).other 8 _ (by omega)).other 9 _ (by omega))
      have HS3_14 : Hid (Str W14 (W11.heap.size) #[.int .i64 rs, .string rk, .int .i64 rkind, .slice A10 n10 c10, .int .i64 rlo, .int .i64 rhi, .int .i64 rval]) := Lib.hid (by rw [← hW14]; exact ((((((((((HS3_13.out).other 0 _ (by omega)).other 1 _ (by omega)).other 2 _ (by omega)).other 3 _ (by omega)).other 4 _ (by omega)).other 5 _ (by omega)).other 6 _ (by omega)).other 7 _ (by omega)).other 8 _ (by omega)).other 9 _ (by omega))
      have hgr14 : W13.grownBy W14 (some (w.heap.size)) := by rw [← hW14]; exact grown_set (grown_set (grown_set (grown_set (grown_set (grown_set (grown_set (grown_set (grown_set (grown_set (grown_refl W13 (w.heap.size)) 0 (.int .i64 0)) 1 (.string ⟨#[]⟩)) 2 (.int .i64 0)) 3 (.string ⟨#[]⟩)) 4 (.int .i64 0)) 5 (.slice none 0 0)) 6 (.int .i64 0)) 7 (.int .i64 0)) 8 (.int .i64 0)) 9 (.int .i64 0)
      have HB_14 := Lib.hid (below_grown HB_13.out hgr14 (by omega))
      have hw_14 := HB_14.out.size
      have hws_14 := hgr14.size
      have HYz_14 := Lib.hid ((Bytes.grown HYz_13.out (Nat.le_refl _) HS0_13.out rfl hgr14).more hws_14)
      clear HYz_13
      clear hW14
      clear f0_13_0 f0_13_1 f0_13_2 f0_13_3 f0_13_4 f0_13_5 f0_13_6 f0_13_7 f0_13_8 f0_13_9 HS0_13 hf0_13 f1_13_0 f1_13_1 f1_13_2 f1_13_3 f1_13_4 f1_13_5 f1_13_6 f1_13_7 f1_13_8 f1_13_9 HS1_13 HS2_13 f3_13_0 f3_13_1 f3_13_2 f3_13_3 f3_13_4 f3_13_5 f3_13_6 HS3_13
      clear hgr14
      obtain ⟨f0_14_0, f0_14_1, f0_14_2, f0_14_3, f0_14_4, f0_14_5, f0_14_6, f0_14_7, f0_14_8, f0_14_9⟩ := str10 HS0_14.out
      have hl0_14 := HS0_14.out.lt
      have hf0_14 := fun j => HS0_14.out.frozen j
      obtain ⟨f1_14_0, f1_14_1, f1_14_2, f1_14_3, f1_14_4, f1_14_5, f1_14_6, f1_14_7, f1_14_8, f1_14_9⟩ := str10 HS1_14.out
      have hl1_14 := HS1_14.out.lt
      have hl2_14 := HS2_14.out.lt
      obtain ⟨f3_14_0, f3_14_1, f3_14_2, f3_14_3, f3_14_4, f3_14_5, f3_14_6⟩ := str7 HS3_14.out
      have hl3_14 := HS3_14.out.lt
      refine bodyPost_ret (v := .tuple #[.agg #[.int .i64 0, .string ⟨#[]⟩, .int .i64 0, .string ⟨#[]⟩, .int .i64 0, .slice none 0 0, .int .i64 0, .int .i64 0, .int .i64 0, .int .i64 0], .int .i64 0, .int .i64 12]) (by simp [results, Tryz.results90, go_sem, *]) rfl ?_
      rw [HE.out]
      exact ⟨none, 0, 0, rfl, ⟨Bytes.none_ _ _, fun a e => by cases e⟩, HB_14.out⟩
    have HE : Hid (UndoP.get (x :: l) = (UndoP.U5 l, ((l.length + 1 : Nat) : Int) - ((UndoP.L5 l).length : Int), 0)) := Lib.hid (by rw [HG5.out, if_pos (by simp [hr])])
    rw [show CellP.code true = 0 from rfl]
    have hn9 : n = l.length + 1 := by have := HLN.out; simp at this; omega
    have HNL : Hid ((n : Int) = ((l.length + 1 : Nat) : Int)) := Lib.hid (by omega)
    have hL5 : (UndoP.L5 l).length ≤ 1000000 := by have := UndoP.L5_le l; omega
    clear hn9
    go_wp2_with fail
    obtain ⟨tr, htr⟩ := HS0_13.out
    have HT := Lib.hid htr
    clear htr
    have HG := Lib.hid (HS0_13.out.lt)
    refine Reg.wp_region_vals (R := (Reg.putW w.heap.size (.cells #[.int .i64 1, .string (strOf (UndoP.K l)), .int .i64 rs, .string rk, .int .i64 rkind, .slice A10 n10 c10, .int .i64 rlo, .int .i64 rhi, .int .i64 rval, .int .i64 0] tr (0, 0)))) (W := W13) [Reg.eqv (.agg #[.int .i64 1, .string (strOf (UndoP.K l)), .int .i64 rs, .string rk, .int .i64 rkind, .slice A10 n10 c10, .int .i64 rlo, .int .i64 rhi, .int .i64 rval, .int .i64 0]), Reg.eqv (.slice A n c), Reg.eqv (.int .i64 (n : Int)), Reg.eqv (.pointer (some ⟨b, 0, none⟩)), Reg.eqv (.int .i64 ((UndoP.L5 l).length : Int)), Reg.eqv (.int .i64 ((n : Int) - ((UndoP.L5 l).length : Int))), Reg.written w.heap.size (.cells #[.int .i64 1, .string (strOf (UndoP.K l)), .int .i64 rs, .string rk, .int .i64 rkind, .slice A10 n10 c10, .int .i64 rlo, .int .i64 rhi, .int .i64 rval, .int .i64 0] tr (0, 0)), Reg.eqv (.int .i64 ((n : Int) - ((UndoP.L5 l).length : Int))), Reg.eqv (.int .i64 0)] 77 [[(6, none)], [(0, none)], [(72, some 1)], [(5, none)], [(74, some 3)], [(73, some 2), (75, some 4)], [(2, none), (71, some 0)], [(76, some 5)], []] rfl (by kernel_rfl) (by kernel_rfl) (by kernel_rfl) ?_ [some 71, some 72, some 73, some 74, some 75, some 76, none, some 3, some 4] (by kernel_rfl) ?_
    · refine ⟨?_, ?_, ?_, ?_, ?_, ?_, ?_, ?_, ?_, trivial⟩
      · intro ax wx hx hs
        obtain ⟨e6, -⟩ := hs
        have g6 := Reg.ev (v := .pointer (some ⟨W2.heap.size, 0, none⟩)) e6
        refine Reg.obl_free rfl ?_
        have hc := fun j => Reg.put_cell hx HG.out (W2.heap.size) j (by omega) (by omega)
        exact Reg.wp_eqv (Option.some_ne_none _) (by go_simp) rfl
      · intro ax wx hx hs
        obtain ⟨e0, -⟩ := hs
        have g0 := Reg.ev (v := .slice A n c) e0
        exact Reg.obl_free rfl (Reg.wp_eqv (Option.some_ne_none _) (by go_simp) rfl)
      · intro ax wx hx hs
        obtain ⟨e72, -⟩ := hs
        have g72 := Reg.ev (v := .slice A n c) e72
        exact Reg.obl_free rfl (Reg.wp_eqv (Option.some_ne_none _) (by go_simp) rfl)
      · intro ax wx hx hs
        obtain ⟨e5, -⟩ := hs
        have g5 := Reg.ev (v := .pointer (some ⟨b, 0, none⟩)) e5
        exact Reg.obl_free rfl (Reg.wp_eqv (Option.some_ne_none _) (by go_simp) rfl)
      · intro ax wx hx hs
        obtain ⟨e74, -⟩ := hs
        have g74 := Reg.ev (v := .pointer (some ⟨b, 0, none⟩)) e74
        refine Reg.obl_free rfl ?_
        have hrd := Rd.grown HR_13.out (Nat.le_refl _) HS0_13.out rfl (Reg.put_grown hx HG.out) (by omega)
        go_simp
        refine (RdW.left_any b _ _ _ hrd).mono ?_
        rintro e wy ⟨rfl, rfl⟩
        exact Reg.done (Option.some_ne_none _) (by first | rfl | simp) (Reg.put_below (bsame _))
      · intro ax wx hx hs
        obtain ⟨e73, e75, -⟩ := hs
        have g73 := Reg.ev (v := .int .i64 (n : Int)) e73
        have g75 := Reg.ev (v := .int .i64 ((UndoP.L5 l).length : Int)) e75
        refine Reg.obl_free rfl ?_
        exact Reg.wp_eqv (Option.some_ne_none _) (by go_simp; exact IntWalk.i64_in _ (by omega)) rfl
      · intro ax wx hx hs
        obtain ⟨e2, e71, -⟩ := hs
        have g2 := Reg.ev (v := .pointer (some ⟨w.heap.size, 0, none⟩)) e2
        have g71 := Reg.ev (v := .agg #[.int .i64 1, .string (strOf (UndoP.K l)), .int .i64 rs, .string rk, .int .i64 rkind, .slice A10 n10 c10, .int .i64 rlo, .int .i64 rhi, .int .i64 rval, .int .i64 0]) e71
        refine Reg.obl_free rfl ?_
        rcases Reg.put_str hx HT.out with hgs | hgs
        all_goals
          have hS : Str wx w.heap.size _ := ⟨_, hgs⟩
          obtain ⟨y0, y1, y2, y3, y4, y5, y6, y7, y8, y9⟩ := str10 hS
          have hfz := fun j => hS.frozen j
          have ho : _ := Reg.setStr_heap (Reg.setStr_heap (Reg.setStr_heap (Reg.setStr_heap (Reg.setStr_heap (Reg.setStr_heap (Reg.setStr_heap (Reg.setStr_heap (Reg.setStr_heap (Reg.setStr_heap (hgs) 0 (.int .i64 1)) 1 (.string (strOf (UndoP.K l)))) 2 (.int .i64 rs)) 3 (.string rk)) 4 (.int .i64 rkind)) 5 (.slice A10 n10 c10)) 6 (.int .i64 rlo)) 7 (.int .i64 rhi)) 8 (.int .i64 rval)) 9 (.int .i64 0)
          go_simp
          exact ⟨undef, rfl, fun _ => rfl, (show _ = some _ from (by simpa using ho)), Reg.put_set (grown_set (grown_set (grown_set (grown_set (grown_set (grown_set (grown_set (grown_set (grown_set (grown_set (grown_refl wx _) 0 _) 1 _) 2 _) 3 _) 4 _) 5 _) 6 _) 7 _) 8 _) 9 _) (by simpa using ho)⟩
      · intro ax wx hx hs
        obtain ⟨e76, -⟩ := hs
        have g76 := Reg.ev (v := .int .i64 ((n : Int) - ((UndoP.L5 l).length : Int))) e76
        exact Reg.obl_free rfl (Reg.wp_eqv (Option.some_ne_none _) (by go_simp) rfl)
      · intro ax wx hx hs
        exact Reg.obl_free rfl (Reg.wp_eqv (Option.some_ne_none _) (by go_simp) rfl)
    · intro W14 hwf
      simp only [Reg.Fin]
      rintro _ rfl _ rfl _ rfl _ rfl _ rfl _ rfl vn6 hn6 _ rfl _ rfl
      go_simp
      have hgr := Reg.put_grown hwf HG.out
      have HSF : Hid (Str W14 w.heap.size #[.int .i64 1, .string (strOf (UndoP.K l)), .int .i64 rs, .string rk, .int .i64 rkind, .slice A10 n10 c10, .int .i64 rlo, .int .i64 rhi, .int .i64 rval, .int .i64 0]) := Lib.hid ⟨_, hn6⟩
      have HBF := Lib.hid (below_grown HB_13.out hgr (by omega))
      have HYF := Lib.hid ((Bytes.grown HYz_13.out (Nat.le_refl _) HS0_13.out rfl hgr).more hgr.size)
      clear hgr hwf hn6
      obtain ⟨z0, z1, z2, z3, z4, z5, z6, z7, z8, z9⟩ := str10 HSF.out
      have hlk := HSF.out.lt
      go_wp2_with fail
      refine bodyPost_ret (v := .tuple #[.agg #[.int .i64 1, .string (strOf (UndoP.K l)), .int .i64 rs, .string rk, .int .i64 rkind, .slice A10 n10 c10, .int .i64 rlo, .int .i64 rhi, .int .i64 rval, .int .i64 0], .int .i64 ((n : Int) - ((UndoP.L5 l).length : Int)), .int .i64 0]) (by simp [results, Tryz.results90, go_sem, z0, z1, z2, z3, z4, z5, z6, z7, z8, z9]) rfl ?_
      rw [HE.out, HNL.out, HU5.out]
      exact ⟨A10, n10, c10, rfl, ⟨HYF.out, HNW10.out⟩, HBF.out⟩

set_option maxRecDepth 100000 in
set_option maxHeartbeats 4000000 in
theorem get_new (A : Option Addr) (n c B : Nat) (l : List UInt8) (w : World) (h : Bytes w B A n c l) (hB : B ≤ w.heap.size) (hn : n ≤ 1000000)  : Calls Tryz.prog 90 #[.slice A n c] w (NewUndo w (UndoP.get l)) := by
  cases l with
  | nil => exact get_nil A n c B w h hB hn
  | cons x l =>
    by_cases h0 : (x.toNat : Int) = 0
    · exact get_0 A n c B x l w h hB hn h0
    by_cases h1 : (x.toNat : Int) = 1
    · exact get_1 A n c B x l w h hB hn h1
    by_cases h2 : (x.toNat : Int) = 2
    · exact get_2 A n c B x l w h hB hn h2
    by_cases h3 : (x.toNat : Int) = 3
    · exact get_3 A n c B x l w h hB hn h3
    exact get_big A n c B x l w h hB hn (by omega)
theorem get_any (A : Option Addr) (n c B : Nat) (l : List UInt8) (w : World) (h : Bytes w B A n c l) (hB : B ≤ w.heap.size) (hn : n ≤ 1000000)  : Calls Tryz.prog 90 #[.slice A n c] w (GotUndo w (UndoP.get l)) := (get_new A n c B l w h hB hn).mono fun _ _ h => h.got
end Go.Proofs.YtpdfnlhhnodnjaaGreat.UndoW
end
