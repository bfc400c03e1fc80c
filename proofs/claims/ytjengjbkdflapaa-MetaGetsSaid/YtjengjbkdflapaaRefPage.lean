/-
  The walks of the reference's pages: Put, Zeros, New, numbers, slots.
-/
import Derived.Test.YtjengjbkdflapaaRefSlotGet
import Derived.Test.YtjengjbkdflapaaPPage
namespace Go.Proofs.Ytjengjbkdflapaa.RefPage
open Go.RowKit
attribute [local go_sem ↓] app_fold cut_fold

set_option maxRecDepth 100000 in
set_option maxHeartbeats 1000000 in
theorem put_any (A : Option Addr) (n c B : Nat) (l : List UInt8) (a : Nat) (A2 : Option Addr) (m c2 B2 : Nat) (s : List UInt8) (w : World) (h : Bytes w B A n c l) (hB : B ≤ w.heap.size) (h2 : Bytes w B2 A2 m c2 s) (hB2 : B2 ≤ w.heap.size) (ha : a + m ≤ n) (hn : n ≤ 1000000000) :
    Calls Try.prog 53 #[.slice A n c, .int .i64 (a : Int), .slice A2 m c2] w (GivesBytes w (SlotP.over l a s)) := by
  have hcm := h.2.2.1
  have hnc := h.2.1
  unfold maxLen at hcm
  have hl := h.len
  have hl2 := h2.len
  obtain ⟨A3, c3, w3, happ3, hO3, hb3⟩ := (Own.empty w w.heap.size (Nat.le_refl _)).app ((h.cut 0 a c (by omega) (by omega) (by omega) (Nat.le_refl _)).alloc hB _) (by omega) (by simp)
  simp only [Nat.sub_zero, Nat.zero_add, List.nil_append, List.drop_zero] at happ3 hO3
  have hB3 : Below w.heap.size w w3 := ((Below.refl _ w).alloc (Nat.le_refl _) _).trans hb3
  obtain ⟨A4, c4, w4, happ4, hO4, hb4⟩ := hO3.app (h2.below (hB3.mono hB2)) (by omega) hB3.size
  have hB4 : Below w.heap.size w w4 := hB3.trans hb4
  obtain ⟨A5, c5, w5, happ5, hO5, hb5⟩ := hO4.app ((h.cut (a + m) n c (by omega) (by omega) (by omega) (Nat.le_refl _)).below (hB4.mono hB)) (by omega) hB4.size
  have hB5 : Below w.heap.size w w5 := hB4.trans hb5
  have hres : (l.take a ++ s) ++ (l.drop (a + m)).take (n - (a + m)) = SlotP.over l a s := by
    have e : (l.drop (a + m)).take (n - (a + m)) = l.drop (a + m) := List.take_of_length_le (by rw [List.length_drop]; omega)
    unfold SlotP.over
    rw [List.append_assoc, e, hl2]
  rw [hres] at hO5
  have HO := Lib.hid hO5
  have HB := Lib.hid hB5
  have hb1 : (a : Int) + (m : Int) ≤ (n : Int) := by omega
  have hb2 : (0 : Int) ≤ (a : Int) + (m : Int) := by omega
  have hb6 : ((a : Int) + (m : Int)).toNat = a + m := by omega
  have hb7 : (a : Int) ≤ (c : Int) := by omega
  clear hO3 hb3 hO4 hb4 hO5 hb5 hB3 hB4 hB5 hres h h2 hl hl2
  go_enter Try.func53, Try.ntmps53
  go_wp2
  go_ret
  exact ⟨A5, n, c5, rfl, (by have := HO.out.bytes; rwa [show a + m + (n - (a + m)) = n by omega] at this), HB.out⟩

theorem zeros_snoc (k : Nat) : SlotP.zeros k ++ [0] = SlotP.zeros (k + 1) := by
  unfold SlotP.zeros
  rw [List.replicate_succ']
set_option maxRecDepth 100000 in
set_option maxHeartbeats 1000000 in
theorem zeros_any (n : Nat) (hn : n ≤ 100000) (w : World) : Calls Try.prog 90 #[.int .i64 (n : Int)] w (GivesBytes w (SlotP.zeros n)) := by
  go_enter Try.func90, Try.ntmps90
  go_wp2
  go_loopw [3, 4] (fun b i wr => ∃ (k : Nat) (A : Option Addr) (c : Nat), k ≤ n ∧ i = .int .i64 (k : Int) ∧ b = .slice A k c ∧ Own wr w.heap.size A k c (SlotP.zeros k) ∧ Below w.heap.size w wr) (fun _ i _ => n - (intOf i).toNat)
  case atStart => exact ⟨0, none, 0, Nat.zero_le _, rfl, rfl, Own.none_ _ _, bsame w⟩
  case round =>
    obtain ⟨k, A9, c9, hk, rfl, rfl, hO, hB⟩ := hrel
    have HO := Lib.hid hO
    have HB := Lib.hid hB
    have hbs := hB.size
    clear hO hB
    by_cases hlt : k < n
    · obtain ⟨A8, c8, w8, happ, hO8, hb8⟩ := (HO.out.alloc (.cells #[.int .u8 ((0 : UInt8).toNat : Int)] 5)).app (Own.one wr 0 (by omega) 0).bytes (by omega) (by simp; omega)
      have h0 : ((0 : UInt8).toNat : Int) = 0 := rfl
      simp only [h0] at happ
      have HO8 := Lib.hid hO8
      have HB8 := Lib.hid (HB.out.trans (((Below.refl _ wr).alloc (by omega) (.cells #[.int .u8 ((0 : UInt8).toNat : Int)] 5)).trans hb8))
      clear hO8 hb8 h0
      go_wp2
      go_roundw
      case rel =>
        refine ⟨k + 1, A8, c8, by omega, by go_num, rfl, ?_, HB8.out⟩
        have := HO8.out
        rwa [zeros_snoc] at this
      case measure => simp [intOf]; omega
    · go_wp2
      go_ret
      have hk : k = n := by omega
      subst hk
      exact ⟨A9, k, c9, rfl, HO.out.bytes, HB.out⟩

set_option maxHeartbeats 400000 in
theorem num_any (A : Option Addr) (n c B a width : Nat) (l : List UInt8) (w : World) (h : Bytes w B A n c l) (ha : a ≤ 4611686018427387904) (hw1 : 1 ≤ width) (hw8 : width ≤ 8) :
    Calls Try.prog 88 #[.slice A n c, .int .i64 (a : Int), .int .i64 (width : Int)] w fun e w' => e = .returned (.int .i64 (NumP.val l a width)) ∧ w = w' := by
  have H := Lib.hid h
  clear h
  go_enter Try.func88, Try.ntmps88
  go_wp2_with fail
  refine (NumW.at_any A n c B a width l _ H.out ha hw1 hw8).mono ?_
  rintro e w1 ⟨rfl, rfl⟩
  go_wp2_with fail
  go_ret
  exact ⟨rfl, rfl⟩

set_option maxHeartbeats 400000 in
theorem no_any (A : Option Addr) (n c B : Nat) (l : List UInt8) (w : World) (h : Bytes w B A n c l) : Calls Try.prog 42 #[.slice A n c] w fun e w' => e = .returned (.int .i64 (NumP.val l 12 2)) ∧ w = w' := by
  have H := Lib.hid h
  clear h
  go_enter Try.func42, Try.ntmps42
  go_wp2_with fail
  refine (num_any A n c B 12 2 l _ H.out (by omega) (by omega) (by omega)).mono ?_
  rintro e w1 ⟨rfl, rfl⟩
  go_wp2_with fail
  go_ret
  exact ⟨rfl, rfl⟩

set_option maxHeartbeats 400000 in
theorem lsn_any (A : Option Addr) (n c B : Nat) (l : List UInt8) (w : World) (h : Bytes w B A n c l) : Calls Try.prog 44 #[.slice A n c] w fun e w' => e = .returned (.int .i64 (NumP.val l 4 8)) ∧ w = w' := by
  have H := Lib.hid h
  clear h
  go_enter Try.func44, Try.ntmps44
  go_wp2_with fail
  refine (num_any A n c B 4 8 l _ H.out (by omega) (by omega) (by omega)).mono ?_
  rintro e w1 ⟨rfl, rfl⟩
  go_wp2_with fail
  go_ret
  exact ⟨rfl, rfl⟩

set_option maxHeartbeats 400000 in
theorem next_any (A : Option Addr) (n c B : Nat) (l : List UInt8) (w : World) (h : Bytes w B A n c l) : Calls Try.prog 46 #[.slice A n c] w fun e w' => e = .returned (.int .i64 (NumP.val l 14 2)) ∧ w = w' := by
  have H := Lib.hid h
  clear h
  go_enter Try.func46, Try.ntmps46
  go_wp2_with fail
  refine (num_any A n c B 14 2 l _ H.out (by omega) (by omega) (by omega)).mono ?_
  rintro e w1 ⟨rfl, rfl⟩
  go_wp2_with fail
  go_ret
  exact ⟨rfl, rfl⟩

set_option maxHeartbeats 400000 in
theorem note_any (A : Option Addr) (n c B : Nat) (l : List UInt8) (w : World) (h : Bytes w B A n c l) : Calls Try.prog 48 #[.slice A n c] w fun e w' => e = .returned (.int .i64 (NumP.val l 16 8)) ∧ w = w' := by
  have H := Lib.hid h
  clear h
  go_enter Try.func48, Try.ntmps48
  go_wp2_with fail
  refine (num_any A n c B 16 8 l _ H.out (by omega) (by omega) (by omega)).mono ?_
  rintro e w1 ⟨rfl, rfl⟩
  go_wp2_with fail
  go_ret
  exact ⟨rfl, rfl⟩

set_option maxRecDepth 100000 in
set_option maxHeartbeats 1000000 in
theorem new_any (m : Int) (w : World) : Calls Try.prog 55 #[.int .i64 m] w (GivesBytes w (SlotP.over (SlotP.zeros 512) 12 (BeP.parts 2 m))) := by
  go_enter Try.func55, Try.ntmps55
  go_wp2_with fail
  refine (zeros_any 512 (by omega) _).mono ?_
  rintro e w1 ⟨A1, n1, c1, rfl, hy1, hb1⟩
  have hn1 : n1 = 512 := by rw [← hy1.len]; simp [SlotP.zeros]
  subst hn1
  have HY1 := Lib.hid hy1
  have HB1 := Lib.hid hb1
  clear hy1 hb1
  go_wp2_with fail
  refine (RefBytes.bytes_any 2 m _ (by omega)).mono ?_
  rintro e w2 ⟨A2, n2, c2, rfl, hy2, hb2⟩
  have hn2 : n2 = 2 := by rw [← hy2.len, BeP.parts_length]
  subst hn2
  have HY2 := Lib.hid hy2
  have HY1' := Lib.hid (HY1.out.next hb2)
  have HB2 := Lib.hid (bstep HB1.out hb2)
  clear hy2 hb2
  go_wp2_with fail
  refine (put_any A1 512 c1 _ _ 12 A2 2 c2 _ _ _ HY1'.out (Nat.le_refl _) HY2.out (Nat.le_refl _) (by omega) (by omega)).mono ?_
  rintro e w3 ⟨A3, n3, c3, rfl, hy3, hb3⟩
  have HY3 := Lib.hid hy3
  have HB3 := Lib.hid (bstep HB2.out hb3)
  clear hy3 hb3
  go_wp2_with fail
  go_ret
  exact ⟨A3, n3, c3, rfl, HY3.out, HB3.out⟩

set_option maxRecDepth 100000 in
set_option maxHeartbeats 1000000 in
theorem slot_any (A : Option Addr) (c B : Nat) (l : List UInt8) (i : Int) (w : World) (h : Bytes w B A 512 c l) (hB : B ≤ w.heap.size) : Calls Try.prog 37 #[.slice A 512 c, .int .i64 i] w (SlotGet.GotItem w (PageP.slot l i)) := by
  have hcm := h.2.2.1
  have hnc := h.2.1
  unfold maxLen at hcm
  by_cases hi : i < 0 ∨ 7 ≤ i
  · have HG : Hid (PageP.slot l i = (SlotP.none, 2)) := Lib.hid (by unfold PageP.slot; rw [if_pos hi])
    rw [HG.out]
    rcases hi with hi | hi
    · go_enter Try.func37, Try.ntmps37
      go_wp2
      refine bodyPost_ret (v := .tuple #[.agg #[.int .i64 0, .string ⟨#[]⟩, .int .i64 0, .slice none 0 0, .int .i64 0, .int .i64 0, .int .i64 0], .int .i64 2]) ?_ rfl ?_
      · simp [results, Try.results37, go_sem]
      · exact SlotGet.got_none _ _ _ (balloc (bsame w) _)
    · have hi' : ¬ i < 0 := by omega
      have hi6 : 6 < i := by omega
      go_enter Try.func37, Try.ntmps37
      go_wp2
      refine bodyPost_ret (v := .tuple #[.agg #[.int .i64 0, .string ⟨#[]⟩, .int .i64 0, .slice none 0 0, .int .i64 0, .int .i64 0, .int .i64 0], .int .i64 2]) ?_ rfl ?_
      · simp [results, Try.results37, go_sem]
      · exact SlotGet.got_none _ _ _ (balloc (bsame w) _)
  · obtain ⟨j, rfl⟩ : ∃ j : Nat, i = (j : Int) := ⟨i.toNat, by omega⟩
    have HG : Hid (PageP.slot l (j : Int) = SlotP.get ((l.drop (32 + j * 64)).take 64)) := Lib.hid (by unfold PageP.slot; rw [if_neg hi, show (j : Int).toNat = j by omega])
    rw [HG.out]
    have hj : j < 7 := by omega
    have hcut := h.cut (32 + 64 * j) (96 + 64 * j) c (by omega) (by omega) (by omega) (Nat.le_refl _)
    rw [show 96 + 64 * j - (32 + 64 * j) = 64 by omega] at hcut
    have HCUT := Lib.hid hcut
    have ht1 : (32 + 64 * (j : Int)).toNat = 32 + 64 * j := by omega
    have ht2 : (96 + 64 * (j : Int)).toNat = 96 + 64 * j := by omega
    have ht3 : 96 + 64 * j - (32 + 64 * j) = 64 := by omega
    have hb1 : (0 : Int) ≤ 32 + 64 * (j : Int) := by omega
    have hb2 : (0 : Int) ≤ 96 + 64 * (j : Int) := by omega
    have hb3 : 96 + 64 * (j : Int) ≤ (c : Int) := by omega
    have hb4 : 32 + 64 * (j : Int) ≤ 96 + 64 * (j : Int) := by omega
    clear hcut h hi
    go_enter Try.func37, Try.ntmps37
    go_wp2_with fail
    generalize hW0 : (w).alloc (.cells #[.int .i64 0, .string ⟨#[]⟩, .int .i64 0, .slice none 0 0, .int .i64 0, .int .i64 0, .int .i64 0] 38) = W0
    have HS0_0 : Hid (Str W0 (w.heap.size) #[.int .i64 0, .string ⟨#[]⟩, .int .i64 0, .slice none 0 0, .int .i64 0, .int .i64 0, .int .i64 0]) := Lib.hid (by rw [← hW0]; have := Str.new (w) #[.int .i64 0, .string ⟨#[]⟩, .int .i64 0, .slice none 0 0, .int .i64 0, .int .i64 0, .int .i64 0] 38; simpa using this)
    have HB_0 : Hid (Below w.heap.size w W0) := Lib.hid (by rw [← hW0]; exact balloc (bsame w) _)
    have hw_0 := HB_0.out.size
    clear hW0
    obtain ⟨f0_0_0, f0_0_1, f0_0_2, f0_0_3, f0_0_4, f0_0_5, f0_0_6⟩ := str7 HS0_0.out
    have hl0_0 := HS0_0.out.lt
    have hf0_0 := fun j => HS0_0.out.frozen j
    refine (RefSlotGet.get_any _ _ B _ _ (HCUT.out.below (HB_0.out.mono hB)) (by omega)).mono ?_
    rintro e W1 ⟨A1, n1, c1, rfl, hy1, hb1⟩
    rw [show 32 + 64 * j = 32 + j * 64 by omega] at hy1 ⊢
    generalize SlotP.get ((l.drop (32 + j * 64)).take 64) = r at *
    obtain ⟨⟨s, k, kind, data, lo, hi, val⟩, er⟩ := r
    dsimp only at *
    have HY1 := Lib.hid hy1
    clear hy1
    have HS0_1 := Lib.hid (HS0_0.out.next hb1)
    have HB_1 := Lib.hid (bstep HB_0.out hb1)
    have hw_1 := HB_1.out.size
    have hws_1 := (hb1).size
    clear f0_0_0 f0_0_1 f0_0_2 f0_0_3 f0_0_4 f0_0_5 f0_0_6 HS0_0 hf0_0
    clear hb1
    obtain ⟨f0_1_0, f0_1_1, f0_1_2, f0_1_3, f0_1_4, f0_1_5, f0_1_6⟩ := str7 HS0_1.out
    have hl0_1 := HS0_1.out.lt
    have hf0_1 := fun j => HS0_1.out.frozen j
    go_wp2_with fail
    generalize hW2 : (((((((W1).setCell ⟨w.heap.size, 0, none⟩ (.int .i64 s)).setCell ⟨w.heap.size, 1, none⟩ (.string k)).setCell ⟨w.heap.size, 2, none⟩ (.int .i64 kind)).setCell ⟨w.heap.size, 3, none⟩ (.slice A1 n1 c1)).setCell ⟨w.heap.size, 4, none⟩ (.int .i64 lo)).setCell ⟨w.heap.size, 5, none⟩ (.int .i64 hi)).setCell ⟨w.heap.size, 6, none⟩ (.int .i64 val) = W2
    have HS0_2 : Hid (Str W2 (w.heap.size) #[.int .i64 s, .string k, .int .i64 kind, .slice A1 n1 c1, .int .i64 lo, .int .i64 hi, .int .i64 val]) := Lib.hid (by rw [← hW2]; have := (((((((HS0_1.out).set 0 (.int .i64 s)).set 1 (.string k)).set 2 (.int .i64 kind)).set 3 (.slice A1 n1 c1)).set 4 (.int .i64 lo)).set 5 (.int .i64 hi)).set 6 (.int .i64 val); simpa using this)
    have hgr2 : W1.grownBy W2 (some (w.heap.size)) := by rw [← hW2]; exact grown_set (grown_set (grown_set (grown_set (grown_set (grown_set (grown_set (grown_refl W1 (w.heap.size)) 0 (.int .i64 s)) 1 (.string k)) 2 (.int .i64 kind)) 3 (.slice A1 n1 c1)) 4 (.int .i64 lo)) 5 (.int .i64 hi)) 6 (.int .i64 val)
    have HB_2 := Lib.hid (below_grown HB_1.out hgr2 (by omega))
    have hw_2 := HB_2.out.size
    have hws_2 := hgr2.size
    have HY2 : Hid (Bytes W2 W2.heap.size A1 n1 c1 data) := Lib.hid ((Bytes.grown HY1.out (Nat.le_refl _) HS0_1.out rfl hgr2).more hws_2)
    clear hW2
    clear f0_1_0 f0_1_1 f0_1_2 f0_1_3 f0_1_4 f0_1_5 f0_1_6 HS0_1 hf0_1
    clear hgr2
    obtain ⟨f0_2_0, f0_2_1, f0_2_2, f0_2_3, f0_2_4, f0_2_5, f0_2_6⟩ := str7 HS0_2.out
    have hl0_2 := HS0_2.out.lt
    have hf0_2 := fun j => HS0_2.out.frozen j
    refine bodyPost_ret (v := .tuple #[.agg #[.int .i64 s, .string k, .int .i64 kind, .slice A1 n1 c1, .int .i64 lo, .int .i64 hi, .int .i64 val], .int .i64 er]) ?_ rfl ?_
    · simp [results, Try.results37, go_sem, *]
    · exact ⟨A1, n1, c1, rfl, HY2.out, HB_2.out⟩

set_option maxRecDepth 100000 in
set_option maxHeartbeats 1000000 in
theorem withSlot_any (A : Option Addr) (c B : Nat) (l : List UInt8) (i : Int) (A2 : Option Addr) (n2 c2 B2 : Nat) (x : Item) (w : World) (h : Bytes w B A 512 c l) (hB : B ≤ w.heap.size) (h2 : Bytes w B2 A2 n2 c2 x.cell.data) (hB2 : B2 ≤ w.heap.size) (hk : x.key.size ≤ maxLen) :
    Calls Try.prog 40 #[.slice A 512 c, .int .i64 i, SlotW.itemV A2 n2 c2 x] w (GivesBytes w (PageP.withSlot l i x)) := by
  have hcm := h.2.2.1
  have hnc := h.2.1
  unfold maxLen at hcm
  have H := Lib.hid h
  have H2 := Lib.hid h2
  have HK := Lib.hid hk
  clear h h2 hk
  by_cases hi : i < 0 ∨ 7 ≤ i
  · have HG : Hid (PageP.withSlot l i x = l) := Lib.hid (by unfold PageP.withSlot; rw [if_pos hi])
    rw [HG.out]
    obtain ⟨s, k, kind, data, lo, hi', val⟩ := x
    rcases hi with hi | hi
    · go_enter Try.func40, Try.ntmps40
      go_wp2
      go_ret
      exact ⟨A, 512, c, rfl, (H.out.alloc hB _).more (by simp; omega), balloc (bsame w) _⟩
    · have hi1 : ¬ i < 0 := by omega
      have hi6 : 6 < i := by omega
      go_enter Try.func40, Try.ntmps40
      go_wp2
      go_ret
      exact ⟨A, 512, c, rfl, (H.out.alloc hB _).more (by simp; omega), balloc (bsame w) _⟩
  · obtain ⟨j, rfl⟩ : ∃ j : Nat, i = (j : Int) := ⟨i.toNat, by omega⟩
    have HG : Hid (PageP.withSlot l (j : Int) x = SlotP.over l (32 + j * 64) (SlotP.bytes x)) := Lib.hid (by unfold PageP.withSlot; rw [if_neg hi, show (j : Int).toNat = j by omega])
    rw [HG.out]
    have hj : j < 7 := by omega
    clear hi
    obtain ⟨s, k, kind, data, lo, hi', val⟩ := x
    dsimp only at *
    go_enter Try.func40, Try.ntmps40
    go_wp2_with fail
    generalize hW0 : (w).alloc (.cells #[.int .i64 s, .string k, .int .i64 kind, .slice A2 n2 c2, .int .i64 lo, .int .i64 hi', .int .i64 val] 38) = W0
    have HS0_0 : Hid (Str W0 (w.heap.size) #[.int .i64 s, .string k, .int .i64 kind, .slice A2 n2 c2, .int .i64 lo, .int .i64 hi', .int .i64 val]) := Lib.hid (by rw [← hW0]; have := Str.new (w) #[.int .i64 s, .string k, .int .i64 kind, .slice A2 n2 c2, .int .i64 lo, .int .i64 hi', .int .i64 val] 38; simpa using this)
    have HB_0 : Hid (Below w.heap.size w W0) := Lib.hid (by rw [← hW0]; exact balloc (bsame w) _)
    have hw_0 := HB_0.out.size
    clear hW0
    obtain ⟨f0_0_0, f0_0_1, f0_0_2, f0_0_3, f0_0_4, f0_0_5, f0_0_6⟩ := str7 HS0_0.out
    have hl0_0 := HS0_0.out.lt
    refine (RefSlotBytes.bytes_any A2 n2 c2 B2 ⟨s, k, kind, data, lo, hi', val⟩ _ (H2.out.below (HB_0.out.mono hB2)) (by omega) HK.out).mono ?_
    rintro e W1 ⟨A3, n3, c3, rfl, hy3, hb1⟩
    have hn3 : n3 = 64 := by rw [← hy3.len]; exact SlotP.bytes_length _
    subst hn3
    have HY1 := Lib.hid hy3
    clear hy3
    have HS0_1 := Lib.hid (HS0_0.out.next hb1)
    have HB_1 := Lib.hid (bstep HB_0.out hb1)
    have hw_1 := HB_1.out.size
    have hws_1 := (hb1).size
    clear f0_0_0 f0_0_1 f0_0_2 f0_0_3 f0_0_4 f0_0_5 f0_0_6 HS0_0
    clear hb1
    obtain ⟨f0_1_0, f0_1_1, f0_1_2, f0_1_3, f0_1_4, f0_1_5, f0_1_6⟩ := str7 HS0_1.out
    have hl0_1 := HS0_1.out.lt
    go_wp2_with fail
    rw [show (32 + 64 * (j : Int)) = ((32 + j * 64 : Nat) : Int) by omega]
    refine (put_any A 512 c B l (32 + j * 64) A3 64 c3 _ _ _ (H.out.below (HB_1.out.mono hB)) (by omega) HY1.out (Nat.le_refl _) (by omega) (by omega)).mono ?_
    rintro e W2 ⟨A4, n4, c4, rfl, hy4, hb2⟩
    have HY2 := Lib.hid hy4
    clear hy4
    have HS0_2 := Lib.hid (HS0_1.out.next hb2)
    have HB_2 := Lib.hid (bstep HB_1.out hb2)
    have hw_2 := HB_2.out.size
    have hws_2 := (hb2).size
    clear f0_1_0 f0_1_1 f0_1_2 f0_1_3 f0_1_4 f0_1_5 f0_1_6 HS0_1
    clear hb2
    obtain ⟨f0_2_0, f0_2_1, f0_2_2, f0_2_3, f0_2_4, f0_2_5, f0_2_6⟩ := str7 HS0_2.out
    have hl0_2 := HS0_2.out.lt
    go_wp2_with fail
    go_ret
    exact ⟨A4, n4, c4, rfl, HY2.out, HB_2.out⟩
end Go.Proofs.Ytjengjbkdflapaa.RefPage
