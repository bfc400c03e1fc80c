/-
  Parts of the proof of PoolNils.
-/
import Derived.Test.YtcfieofcnpalgaaPoolG20
import Derived.Test.YtcfieofcnpalgaaPoolG0
section
namespace Go.Proofs.Ytcfieofcnpalgaa.poolNils
open Go.RowKit PoolW Law20
set_option linter.unusedVariables false
set_option linter.unusedSimpArgs false
attribute [local go_sem ↓] ldPage_fold stPage_fold bdPage_fold alPage_fold
theorem told_step {w W W' : World} {p d lg : Nat} {bs : List Nat} {S : PoolX} (hB : Below w.heap.size w W) (hN : ∀ b ∈ bs, w.heap.size ≤ b) (hT : ∃ bs', Pool W' p d lg bs' S ∧ (∀ b ∈ bs', b ∈ bs ∨ W.heap.size ≤ b) ∧ Reg.KeepB W.heap.size bs W W') :
    ∃ bs', Pool W' p d lg bs' S ∧ (∀ b ∈ bs', w.heap.size ≤ b) ∧ Below w.heap.size w W' := by
  obtain ⟨bs', h1, h2, h3⟩ := hT
  have hsz := hB.size
  exact ⟨bs', h1, fun b hb => (h2 b hb).elim (hN b) (by omega), hB.trans (h3.below hsz hN)⟩
def S0 (n : Int) : PoolX := ⟨DevP.new 2, 0, n, []⟩
section
variable {n no : Int}
theorem find_out : PoolP.find (S0 n).fs no = none := rfl
theorem free_out (hn : 1 ≤ n) : PoolP.free (S0 n) = (S0 n, 0) := by unfold PoolP.free; rw [if_pos (by show ((0 : Nat) : Int) < n; omega)]
theorem fits_out (h : no < 0 ∨ 2 ≤ no) : PoolP.fits (S0 n).D no = false := by
  unfold PoolP.fits
  rw [show (S0 n).D.safe.length = 2 from rfl]
  rcases h with h | h
  · simp; omega
  · simp; omega
theorem get_out (hn : 1 ≤ n) (h : no < 0 ∨ 2 ≤ no) : PoolP.get (S0 n) no = (S0 n, (SlotP.zeros 512, 2)) := by
  rw [PoolP.get_none find_out, free_out hn, if_pos rfl]
  unfold PoolP.fetch
  rw [fits_out h, if_pos (by intro hh; cases hh)]
  unfold PoolP.read
  rw [fits_out h]
  rfl
theorem fresh_out (h : no < 0 ∨ 2 ≤ no) : PoolP.fresh (S0 n) no = (S0 n, 2) := by
  rw [PoolP.fresh_none find_out, if_pos (by rw [show (S0 n).D.safe.length = 2 from rfl]; omega)]
theorem set_out (x : List UInt8) : PoolP.set (S0 n) no x = (S0 n, 5) := PoolP.set_none find_out
theorem pin_out : PoolP.pin (S0 n) no = (S0 n, 5) := PoolP.pin_none find_out
theorem small_out : DevP.Small (S0 n).D := ⟨by show (0 : Int) ≤ 1000000000; omega, by show (0 : Int) + (0 : Nat) ≤ 100000000000000; omega, by show (0 : Nat) ≤ 1000000000; omega⟩
end
set_option maxRecDepth 100000 in
set_option maxHeartbeats 4000000 in
theorem walk_in (no n : Int) (hno : In64 no) (w : World) (h0 : 0 ≤ no) (h1 : no < 2) : Calls Try.prog 3 #[.int .i64 no, .int .i64 n] w fun e w' => e = .returned (.bool true) ∧ Below w.heap.size w w' := by
  have d0 : decide (0 ≤ no) = true := by simpa using h0
  have d1 : decide (no < 2) = true := by simpa using h1
  have hal := fun W => run_al (P := Try.prog) arrPage W
  have hz := PageN.zeros_len 512
  have HBw := Lib.hid (bsame w)
  go_enter Try.func3, Try.ntmps3
  go_wp2_with fail
  refine (get_nil no w).mono ?_
  rintro e W1 ⟨rfl, hb1⟩
  have HBW1 := Lib.hid hb1
  clear hb1
  have hstW2 := run_st (P := Try.prog) arrPage (Str.new W1 (rowV (SlotP.zeros 512)) 24) (by rw [rowV_size]; exact hz) hz
  obtain ⟨W2, hWW2⟩ : ∃ W, (W1.alloc (.cells (rowV (SlotP.zeros 512)) 24)).setRow W1.heap.size (rowV (SlotP.zeros 512)) = W := ⟨_, rfl⟩
  rw [hWW2] at hstW2
  have hbW2 : Below W1.heap.size W1 W2 := by rw [← hWW2]; exact below_setRow (balloc (bsame _) _) (Nat.le_refl _) _
  have HBW2 := Lib.hid (bstep HBW1.out hbW2)
  clear hWW2 hbW2
  go_wp2_with fail
  refine (DevW.new_any 2 W2).mono ?_
  rintro e W3 ⟨d, db3, rfl, hD3, hn3, hb3⟩
  have hD3' : DevW.Dev W3 d db3 (DevP.new 2) := hD3
  have HD3 := Lib.hid hD3'
  have hw2 := HBW2.out.size
  have HN3 : Hid (∀ b ∈ db3, w.heap.size ≤ b) := Lib.hid (fun b hb => by have := hn3 b hb; omega)
  have HBW3 := Lib.hid (bstep HBW2.out hb3)
  clear hD3 hD3' hn3 hb3
  go_wp2_with fail
  obtain ⟨W4, hW4⟩ : ∃ W, W3.alloc (.cells #[.int .i64 0] 33) = W := ⟨_, rfl⟩
  have hb4 : Below W3.heap.size W3 W4 := by rw [← hW4]; exact balloc (bsame _) _
  have hL4 : Str W4 W3.heap.size #[.int .i64 0] := by rw [← hW4]; exact Str.new _ _ _
  try rw [hW4]
  have hw3 := HBW3.out.size
  have hnd4 : (W3.heap.size :: db3).Nodup := List.nodup_cons.2 ⟨fun hm => by have : W3.heap.size < W3.heap.size := HD3.out.lt _ hm; omega, dev_nodup HD3.out⟩
  have HBW4 := Lib.hid (bstep HBW3.out hb4)
  refine (new_any n d W3.heap.size db3 (DevP.new 2) 0 W4 (HD3.out.below hb4) hL4 hnd4).mono ?_
  rintro e W5 ⟨p, rfl, hp, hP5, hb5⟩
  have HBW5 := Lib.hid (bstep HBW4.out hb5)
  have HN5 : Hid (∀ b ∈ p :: W3.heap.size :: db3, w.heap.size ≤ b) := Lib.hid (fun b hb => by
    have := HBW4.out.size
    simp only [List.mem_cons] at hb
    rcases hb with rfl | rfl | hb
    · omega
    · omega
    · exact HN3.out b hb)
  have HP5 : Hid (Pool W5 p d W3.heap.size (p :: W3.heap.size :: db3) (S0 (min (max n 1) 64))) := Lib.hid hP5
  have hn1 : 1 ≤ min (max n 1) 64 := by omega
  generalize min (max n 1) 64 = n1 at *
  generalize p :: W3.heap.size :: db3 = bs5 at *
  clear hW4 hb4 hL4 hnd4 hP5 hb5 hp hstW2
  go_wp2_with fail
  refine (live_any W5).mono ?_
  rintro e WE ⟨rfl, hbE⟩
  have HBE := Lib.hid (bstep HBW5.out hbE)
  clear hbE
  go_wp2_with fail
  go_ret
  exact ⟨rfl, HBE.out⟩
set_option maxRecDepth 100000 in
set_option maxHeartbeats 4000000 in
theorem walk_low (no n : Int) (hno : In64 no) (w : World) (hl : no < 0) : Calls Try.prog 3 #[.int .i64 no, .int .i64 n] w fun e w' => e = .returned (.bool true) ∧ Below w.heap.size w w' := by
  have d0 : decide (0 ≤ no) = false := by simp; omega
  have hout : no < 0 ∨ 2 ≤ no := .inl hl
  have hal := fun W => run_al (P := Try.prog) arrPage W
  have hz := PageN.zeros_len 512
  have HBw := Lib.hid (bsame w)
  go_enter Try.func3, Try.ntmps3
  go_wp2_with fail
  refine (get_nil no w).mono ?_
  rintro e W1 ⟨rfl, hb1⟩
  have HBW1 := Lib.hid hb1
  clear hb1
  have hstW2 := run_st (P := Try.prog) arrPage (Str.new W1 (rowV (SlotP.zeros 512)) 24) (by rw [rowV_size]; exact hz) hz
  obtain ⟨W2, hWW2⟩ : ∃ W, (W1.alloc (.cells (rowV (SlotP.zeros 512)) 24)).setRow W1.heap.size (rowV (SlotP.zeros 512)) = W := ⟨_, rfl⟩
  rw [hWW2] at hstW2
  have hbW2 : Below W1.heap.size W1 W2 := by rw [← hWW2]; exact below_setRow (balloc (bsame _) _) (Nat.le_refl _) _
  have HBW2 := Lib.hid (bstep HBW1.out hbW2)
  clear hWW2 hbW2
  go_wp2_with fail
  refine (DevW.new_any 2 W2).mono ?_
  rintro e W3 ⟨d, db3, rfl, hD3, hn3, hb3⟩
  have hD3' : DevW.Dev W3 d db3 (DevP.new 2) := hD3
  have HD3 := Lib.hid hD3'
  have hw2 := HBW2.out.size
  have HN3 : Hid (∀ b ∈ db3, w.heap.size ≤ b) := Lib.hid (fun b hb => by have := hn3 b hb; omega)
  have HBW3 := Lib.hid (bstep HBW2.out hb3)
  clear hD3 hD3' hn3 hb3
  go_wp2_with fail
  obtain ⟨W4, hW4⟩ : ∃ W, W3.alloc (.cells #[.int .i64 0] 33) = W := ⟨_, rfl⟩
  have hb4 : Below W3.heap.size W3 W4 := by rw [← hW4]; exact balloc (bsame _) _
  have hL4 : Str W4 W3.heap.size #[.int .i64 0] := by rw [← hW4]; exact Str.new _ _ _
  try rw [hW4]
  have hw3 := HBW3.out.size
  have hnd4 : (W3.heap.size :: db3).Nodup := List.nodup_cons.2 ⟨fun hm => by have : W3.heap.size < W3.heap.size := HD3.out.lt _ hm; omega, dev_nodup HD3.out⟩
  have HBW4 := Lib.hid (bstep HBW3.out hb4)
  refine (new_any n d W3.heap.size db3 (DevP.new 2) 0 W4 (HD3.out.below hb4) hL4 hnd4).mono ?_
  rintro e W5 ⟨p, rfl, hp, hP5, hb5⟩
  have HBW5 := Lib.hid (bstep HBW4.out hb5)
  have HN5 : Hid (∀ b ∈ p :: W3.heap.size :: db3, w.heap.size ≤ b) := Lib.hid (fun b hb => by
    have := HBW4.out.size
    simp only [List.mem_cons] at hb
    rcases hb with rfl | rfl | hb
    · omega
    · omega
    · exact HN3.out b hb)
  have HP5 : Hid (Pool W5 p d W3.heap.size (p :: W3.heap.size :: db3) (S0 (min (max n 1) 64))) := Lib.hid hP5
  have hn1 : 1 ≤ min (max n 1) 64 := by omega
  generalize min (max n 1) 64 = n1 at *
  generalize p :: W3.heap.size :: db3 = bs5 at *
  clear hW4 hb4 hL4 hnd4 hP5 hb5 hp hstW2
  have HNW5 := HN5
  have HPW5 := HP5
  clear HN5 HP5
  go_wp2_with fail
  refine (get_any p d W3.heap.size _ (S0 n1) no W5 HPW5.out small_out (by rw [free_out hn1]; exact small_out.1) (by rw [free_out hn1]; show (0 : Nat) ≤ 90; omega) hno).mono ?_
  rintro e W6 ⟨rfl, hT⟩
  rw [get_out hn1 hout] at hT ⊢
  obtain ⟨bsW6, hP, hN, hB⟩ := told_step HBW5.out HNW5.out hT
  have HPW6 := Lib.hid hP
  have HNW6 := Lib.hid hN
  have HBW6 := Lib.hid hB
  clear hT hP hN hB
  have hstW7 := run_st (P := Try.prog) arrPage (Str.new W6 (rowV (SlotP.zeros 512)) 24) (by rw [rowV_size]; exact hz) hz
  obtain ⟨W7, hWW7⟩ : ∃ W, (W6.alloc (.cells (rowV (SlotP.zeros 512)) 24)).setRow W6.heap.size (rowV (SlotP.zeros 512)) = W := ⟨_, rfl⟩
  rw [hWW7] at hstW7
  have hbW7 : Below W6.heap.size W6 W7 := by rw [← hWW7]; exact below_setRow (balloc (bsame _) _) (Nat.le_refl _) _
  have HBW7 := Lib.hid (bstep HBW6.out hbW7)
  have HPW7 := Lib.hid (HPW6.out.next hbW7)
  have HNW7 := HNW6
  clear hWW7 hbW7
  go_wp2_with fail
  refine (code_any 4 W7).mono ?_
  rintro e w' ⟨rfl, rfl⟩
  go_wp2_with fail
  refine (PageW.new_any no W7).mono ?_
  rintro e W8 ⟨rfl, hb⟩
  have HBW8 := Lib.hid (bstep HBW7.out hb)
  have HPW8 := Lib.hid (HPW7.out.next hb)
  clear hb
  have HNW8 := HNW7
  go_wp2_with fail
  refine (set_nil no _ W8).mono ?_
  rintro e W9 ⟨rfl, hb⟩
  have HBW9 := Lib.hid (bstep HBW8.out hb)
  have HPW9 := Lib.hid (HPW8.out.next hb)
  clear hb
  have HNW9 := HNW8
  go_wp2_with fail
  refine (code_any 4 W9).mono ?_
  rintro e w' ⟨rfl, rfl⟩
  go_wp2_with fail
  refine (fresh_nil no W9).mono ?_
  rintro e w' ⟨rfl, rfl⟩
  go_wp2_with fail
  refine (code_any 4 W9).mono ?_
  rintro e w' ⟨rfl, rfl⟩
  go_wp2_with fail
  refine (pin_nil no W9).mono ?_
  rintro e w' ⟨rfl, rfl⟩
  go_wp2_with fail
  refine (code_any 4 W9).mono ?_
  rintro e w' ⟨rfl, rfl⟩
  go_wp2_with fail
  refine (unpin_nil no W9).mono ?_
  rintro e w' ⟨rfl, rfl⟩
  go_wp2_with fail
  refine (flush_nil no W9).mono ?_
  rintro e w' ⟨rfl, rfl⟩
  go_wp2_with fail
  refine (code_any 4 W9).mono ?_
  rintro e w' ⟨rfl, rfl⟩
  go_wp2_with fail
  refine (in_nil no W9).mono ?_
  rintro e w' ⟨rfl, rfl⟩
  go_wp2_with fail
  refine (dirty_nil no W9).mono ?_
  rintro e w' ⟨rfl, rfl⟩
  go_wp2_with fail
  obtain ⟨WL, hWL⟩ : ∃ W, W9.alloc (.cells #[.int .i64 0] 33) = W := ⟨_, rfl⟩
  have hbL : Below W9.heap.size W9 WL := by rw [← hWL]; exact balloc (bsame _) _
  try rw [hWL]
  have HBWL := Lib.hid (bstep HBW9.out hbL)
  have HPWL := Lib.hid (HPW9.out.next hbL)
  have HNWL := HNW9
  clear hWL hbL
  refine (new_nodev n W9.heap.size WL).mono ?_
  rintro e w' ⟨rfl, rfl⟩
  go_wp2_with fail
  refine (DevW.new_any 1 WL).mono ?_
  rintro e W10 ⟨d9, db9, rfl, -, -, hb⟩
  have HBW10 := Lib.hid (bstep HBWL.out hb)
  have HPW10 := Lib.hid (HPWL.out.next hb)
  have HNW10 := HNWL
  clear hb
  go_wp2_with fail
  refine (new_nolog n d9 W10).mono ?_
  rintro e w' ⟨rfl, rfl⟩
  go_wp2_with fail
  refine (code_any 2 W10).mono ?_
  rintro e w' ⟨rfl, rfl⟩
  go_wp2_with fail
  refine (fresh_any p d W3.heap.size _ (S0 n1) no W10 HPW10.out small_out (by rw [free_out hn1]; show (0 : Nat) ≤ 90; omega) hno).mono ?_
  rintro e W11 ⟨rfl, hT⟩
  rw [fresh_out hout] at hT ⊢
  obtain ⟨bsW11, hP, hN, hB⟩ := told_step HBW10.out HNW10.out hT
  have HPW11 := Lib.hid hP
  have HNW11 := Lib.hid hN
  have HBW11 := Lib.hid hB
  clear hT hP hN hB
  go_wp2_with fail
  refine (code_any 2 W11).mono ?_
  rintro e w' ⟨rfl, rfl⟩
  go_wp2_with fail
  refine (PageW.new_any no W11).mono ?_
  rintro e W12 ⟨rfl, hb⟩
  have HBW12 := Lib.hid (bstep HBW11.out hb)
  have HPW12 := Lib.hid (HPW11.out.next hb)
  clear hb
  have HNW12 := HNW11
  go_wp2_with fail
  refine (set_any p d W3.heap.size _ (S0 n1) no _ (blank_len no) W12 HPW12.out).mono ?_
  rintro e W13 ⟨rfl, hT⟩
  rw [set_out] at hT ⊢
  obtain ⟨bsW13, hP, hN, hB⟩ := told_step HBW12.out HNW12.out hT
  have HPW13 := Lib.hid hP
  have HNW13 := Lib.hid hN
  have HBW13 := Lib.hid hB
  clear hT hP hN hB
  go_wp2_with fail
  refine (code_any 5 W13).mono ?_
  rintro e w' ⟨rfl, rfl⟩
  go_wp2_with fail
  refine (pin_any p d W3.heap.size _ (S0 n1) no W13 HPW13.out (fun f hf => by cases hf)).mono ?_
  rintro e W14 ⟨rfl, hT⟩
  rw [pin_out] at hT ⊢
  obtain ⟨bsW14, hP, hN, hB⟩ := told_step HBW13.out HNW13.out hT
  have HPW14 := Lib.hid hP
  have HNW14 := Lib.hid hN
  have HBW14 := Lib.hid hB
  clear hT hP hN hB
  go_wp2_with fail
  refine (code_any 5 W14).mono ?_
  rintro e w' ⟨rfl, rfl⟩
  go_wp2_with fail
  refine (live_any W14).mono ?_
  rintro e WE ⟨rfl, hbE⟩
  have HBE := Lib.hid (bstep HBW14.out hbE)
  clear hbE
  go_wp2_with fail
  go_ret
  exact ⟨rfl, HBE.out⟩
set_option maxRecDepth 100000 in
set_option maxHeartbeats 4000000 in
theorem walk_high (no n : Int) (hno : In64 no) (w : World) (hl : 2 ≤ no) : Calls Try.prog 3 #[.int .i64 no, .int .i64 n] w fun e w' => e = .returned (.bool true) ∧ Below w.heap.size w w' := by
  have d0 : decide (0 ≤ no) = true := by simp; omega
  have d1 : decide (no < 2) = false := by simp; omega
  have hout : no < 0 ∨ 2 ≤ no := .inr hl
  have hal := fun W => run_al (P := Try.prog) arrPage W
  have hz := PageN.zeros_len 512
  have HBw := Lib.hid (bsame w)
  go_enter Try.func3, Try.ntmps3
  go_wp2_with fail
  refine (get_nil no w).mono ?_
  rintro e W1 ⟨rfl, hb1⟩
  have HBW1 := Lib.hid hb1
  clear hb1
  have hstW2 := run_st (P := Try.prog) arrPage (Str.new W1 (rowV (SlotP.zeros 512)) 24) (by rw [rowV_size]; exact hz) hz
  obtain ⟨W2, hWW2⟩ : ∃ W, (W1.alloc (.cells (rowV (SlotP.zeros 512)) 24)).setRow W1.heap.size (rowV (SlotP.zeros 512)) = W := ⟨_, rfl⟩
  rw [hWW2] at hstW2
  have hbW2 : Below W1.heap.size W1 W2 := by rw [← hWW2]; exact below_setRow (balloc (bsame _) _) (Nat.le_refl _) _
  have HBW2 := Lib.hid (bstep HBW1.out hbW2)
  clear hWW2 hbW2
  go_wp2_with fail
  refine (DevW.new_any 2 W2).mono ?_
  rintro e W3 ⟨d, db3, rfl, hD3, hn3, hb3⟩
  have hD3' : DevW.Dev W3 d db3 (DevP.new 2) := hD3
  have HD3 := Lib.hid hD3'
  have hw2 := HBW2.out.size
  have HN3 : Hid (∀ b ∈ db3, w.heap.size ≤ b) := Lib.hid (fun b hb => by have := hn3 b hb; omega)
  have HBW3 := Lib.hid (bstep HBW2.out hb3)
  clear hD3 hD3' hn3 hb3
  go_wp2_with fail
  obtain ⟨W4, hW4⟩ : ∃ W, W3.alloc (.cells #[.int .i64 0] 33) = W := ⟨_, rfl⟩
  have hb4 : Below W3.heap.size W3 W4 := by rw [← hW4]; exact balloc (bsame _) _
  have hL4 : Str W4 W3.heap.size #[.int .i64 0] := by rw [← hW4]; exact Str.new _ _ _
  try rw [hW4]
  have hw3 := HBW3.out.size
  have hnd4 : (W3.heap.size :: db3).Nodup := List.nodup_cons.2 ⟨fun hm => by have : W3.heap.size < W3.heap.size := HD3.out.lt _ hm; omega, dev_nodup HD3.out⟩
  have HBW4 := Lib.hid (bstep HBW3.out hb4)
  refine (new_any n d W3.heap.size db3 (DevP.new 2) 0 W4 (HD3.out.below hb4) hL4 hnd4).mono ?_
  rintro e W5 ⟨p, rfl, hp, hP5, hb5⟩
  have HBW5 := Lib.hid (bstep HBW4.out hb5)
  have HN5 : Hid (∀ b ∈ p :: W3.heap.size :: db3, w.heap.size ≤ b) := Lib.hid (fun b hb => by
    have := HBW4.out.size
    simp only [List.mem_cons] at hb
    rcases hb with rfl | rfl | hb
    · omega
    · omega
    · exact HN3.out b hb)
  have HP5 : Hid (Pool W5 p d W3.heap.size (p :: W3.heap.size :: db3) (S0 (min (max n 1) 64))) := Lib.hid hP5
  have hn1 : 1 ≤ min (max n 1) 64 := by omega
  generalize min (max n 1) 64 = n1 at *
  generalize p :: W3.heap.size :: db3 = bs5 at *
  clear hW4 hb4 hL4 hnd4 hP5 hb5 hp hstW2
  have HNW5 := HN5
  have HPW5 := HP5
  clear HN5 HP5
  go_wp2_with fail
  refine (get_any p d W3.heap.size _ (S0 n1) no W5 HPW5.out small_out (by rw [free_out hn1]; exact small_out.1) (by rw [free_out hn1]; show (0 : Nat) ≤ 90; omega) hno).mono ?_
  rintro e W6 ⟨rfl, hT⟩
  rw [get_out hn1 hout] at hT ⊢
  obtain ⟨bsW6, hP, hN, hB⟩ := told_step HBW5.out HNW5.out hT
  have HPW6 := Lib.hid hP
  have HNW6 := Lib.hid hN
  have HBW6 := Lib.hid hB
  clear hT hP hN hB
  have hstW7 := run_st (P := Try.prog) arrPage (Str.new W6 (rowV (SlotP.zeros 512)) 24) (by rw [rowV_size]; exact hz) hz
  obtain ⟨W7, hWW7⟩ : ∃ W, (W6.alloc (.cells (rowV (SlotP.zeros 512)) 24)).setRow W6.heap.size (rowV (SlotP.zeros 512)) = W := ⟨_, rfl⟩
  rw [hWW7] at hstW7
  have hbW7 : Below W6.heap.size W6 W7 := by rw [← hWW7]; exact below_setRow (balloc (bsame _) _) (Nat.le_refl _) _
  have HBW7 := Lib.hid (bstep HBW6.out hbW7)
  have HPW7 := Lib.hid (HPW6.out.next hbW7)
  have HNW7 := HNW6
  clear hWW7 hbW7
  go_wp2_with fail
  refine (code_any 4 W7).mono ?_
  rintro e w' ⟨rfl, rfl⟩
  go_wp2_with fail
  refine (PageW.new_any no W7).mono ?_
  rintro e W8 ⟨rfl, hb⟩
  have HBW8 := Lib.hid (bstep HBW7.out hb)
  have HPW8 := Lib.hid (HPW7.out.next hb)
  clear hb
  have HNW8 := HNW7
  go_wp2_with fail
  refine (set_nil no _ W8).mono ?_
  rintro e W9 ⟨rfl, hb⟩
  have HBW9 := Lib.hid (bstep HBW8.out hb)
  have HPW9 := Lib.hid (HPW8.out.next hb)
  clear hb
  have HNW9 := HNW8
  go_wp2_with fail
  refine (code_any 4 W9).mono ?_
  rintro e w' ⟨rfl, rfl⟩
  go_wp2_with fail
  refine (fresh_nil no W9).mono ?_
  rintro e w' ⟨rfl, rfl⟩
  go_wp2_with fail
  refine (code_any 4 W9).mono ?_
  rintro e w' ⟨rfl, rfl⟩
  go_wp2_with fail
  refine (pin_nil no W9).mono ?_
  rintro e w' ⟨rfl, rfl⟩
  go_wp2_with fail
  refine (code_any 4 W9).mono ?_
  rintro e w' ⟨rfl, rfl⟩
  go_wp2_with fail
  refine (unpin_nil no W9).mono ?_
  rintro e w' ⟨rfl, rfl⟩
  go_wp2_with fail
  refine (flush_nil no W9).mono ?_
  rintro e w' ⟨rfl, rfl⟩
  go_wp2_with fail
  refine (code_any 4 W9).mono ?_
  rintro e w' ⟨rfl, rfl⟩
  go_wp2_with fail
  refine (in_nil no W9).mono ?_
  rintro e w' ⟨rfl, rfl⟩
  go_wp2_with fail
  refine (dirty_nil no W9).mono ?_
  rintro e w' ⟨rfl, rfl⟩
  go_wp2_with fail
  obtain ⟨WL, hWL⟩ : ∃ W, W9.alloc (.cells #[.int .i64 0] 33) = W := ⟨_, rfl⟩
  have hbL : Below W9.heap.size W9 WL := by rw [← hWL]; exact balloc (bsame _) _
  try rw [hWL]
  have HBWL := Lib.hid (bstep HBW9.out hbL)
  have HPWL := Lib.hid (HPW9.out.next hbL)
  have HNWL := HNW9
  clear hWL hbL
  refine (new_nodev n W9.heap.size WL).mono ?_
  rintro e w' ⟨rfl, rfl⟩
  go_wp2_with fail
  refine (DevW.new_any 1 WL).mono ?_
  rintro e W10 ⟨d9, db9, rfl, -, -, hb⟩
  have HBW10 := Lib.hid (bstep HBWL.out hb)
  have HPW10 := Lib.hid (HPWL.out.next hb)
  have HNW10 := HNWL
  clear hb
  go_wp2_with fail
  refine (new_nolog n d9 W10).mono ?_
  rintro e w' ⟨rfl, rfl⟩
  go_wp2_with fail
  refine (code_any 2 W10).mono ?_
  rintro e w' ⟨rfl, rfl⟩
  go_wp2_with fail
  refine (fresh_any p d W3.heap.size _ (S0 n1) no W10 HPW10.out small_out (by rw [free_out hn1]; show (0 : Nat) ≤ 90; omega) hno).mono ?_
  rintro e W11 ⟨rfl, hT⟩
  rw [fresh_out hout] at hT ⊢
  obtain ⟨bsW11, hP, hN, hB⟩ := told_step HBW10.out HNW10.out hT
  have HPW11 := Lib.hid hP
  have HNW11 := Lib.hid hN
  have HBW11 := Lib.hid hB
  clear hT hP hN hB
  go_wp2_with fail
  refine (code_any 2 W11).mono ?_
  rintro e w' ⟨rfl, rfl⟩
  go_wp2_with fail
  refine (PageW.new_any no W11).mono ?_
  rintro e W12 ⟨rfl, hb⟩
  have HBW12 := Lib.hid (bstep HBW11.out hb)
  have HPW12 := Lib.hid (HPW11.out.next hb)
  clear hb
  have HNW12 := HNW11
  go_wp2_with fail
  refine (set_any p d W3.heap.size _ (S0 n1) no _ (blank_len no) W12 HPW12.out).mono ?_
  rintro e W13 ⟨rfl, hT⟩
  rw [set_out] at hT ⊢
  obtain ⟨bsW13, hP, hN, hB⟩ := told_step HBW12.out HNW12.out hT
  have HPW13 := Lib.hid hP
  have HNW13 := Lib.hid hN
  have HBW13 := Lib.hid hB
  clear hT hP hN hB
  go_wp2_with fail
  refine (code_any 5 W13).mono ?_
  rintro e w' ⟨rfl, rfl⟩
  go_wp2_with fail
  refine (pin_any p d W3.heap.size _ (S0 n1) no W13 HPW13.out (fun f hf => by cases hf)).mono ?_
  rintro e W14 ⟨rfl, hT⟩
  rw [pin_out] at hT ⊢
  obtain ⟨bsW14, hP, hN, hB⟩ := told_step HBW13.out HNW13.out hT
  have HPW14 := Lib.hid hP
  have HNW14 := Lib.hid hN
  have HBW14 := Lib.hid hB
  clear hT hP hN hB
  go_wp2_with fail
  refine (code_any 5 W14).mono ?_
  rintro e w' ⟨rfl, rfl⟩
  go_wp2_with fail
  refine (live_any W14).mono ?_
  rintro e WE ⟨rfl, hbE⟩
  have HBE := Lib.hid (bstep HBW14.out hbE)
  clear hbE
  go_wp2_with fail
  go_ret
  exact ⟨rfl, HBE.out⟩
theorem walk (v0 v1 : Value) (a0 a1 : Int) (w : World) (g0 : RInt w v0 a0) (g1 : RInt w v1 a1) : Calls Try.prog 3 #[v0, v1] w fun e w' => e = .returned (.bool true) ∧ Below w.heap.size w w' := by
  obtain ⟨rfl, h0⟩ := g0
  obtain ⟨rfl, -⟩ := g1
  by_cases h1 : a0 < 0
  · exact walk_low a0 a1 h0 w h1
  · by_cases h2 : a0 < 2
    · exact walk_in a0 a1 h0 w (by omega) h2
    · exact walk_high a0 a1 h0 w (by omega)
end Go.Proofs.Ytcfieofcnpalgaa.poolNils
end
