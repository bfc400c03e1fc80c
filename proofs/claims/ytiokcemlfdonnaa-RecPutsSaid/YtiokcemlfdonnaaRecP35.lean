/-
  Texts of one claim, joined: RefCellBytes, RefSlotBytes.
-/
import Derived.Test.YtiokcemlfdonnaaProg
import Derived.Test.YtiokcemlfdonnaaRecP8
import Derived.Test.YtiokcemlfdonnaaRecP24
import Derived.Test.YtiokcemlfdonnaaRecP9
import Derived.Test.YtiokcemlfdonnaaRecP5
import Derived.Test.YtiokcemlfdonnaaRecP17
namespace Go.Proofs.Ytiokcemlfdonnaa.RefCellBytes
open Go.RowKit
attribute [local go_sem ↓] app_fold

theorem bytes_rec (c : Cell) (hr : CellP.right c = true) (hk : c.kind = 1) : CellP.bytes c = [1] ++ ([UInt8.ofNat c.data.length] ++ c.data) := by
  unfold CellP.bytes
  rw [if_pos hr, if_pos hk]
  rfl
theorem bytes_cnt (c : Cell) (hr : CellP.right c = true) (hk : c.kind = 2) : CellP.bytes c = [2] ++ (BeP.parts 8 c.lo ++ (BeP.parts 8 c.hi ++ BeP.parts 8 c.val)) := by
  unfold CellP.bytes
  rw [if_pos hr, if_neg (by omega)]
set_option maxRecDepth 100000 in
set_option maxHeartbeats 1000000 in
theorem bytes_any (A : Option Addr) (n cap B : Nat) (x : Cell) (w : World) (h : Bytes w B A n cap x.data) (hB : B ≤ w.heap.size) :
    Calls Try.prog 114 #[.agg #[.int .i64 x.kind, .slice A n cap, .int .i64 x.lo, .int .i64 x.hi, .int .i64 x.val]] w (GivesBytes w (CellP.bytes x)) := by
  obtain ⟨i0, hi, hz0, hz1, hz2⟩ := info_parts Be.infoU8
  have hln := h.len
  have hmx := Nat.le_trans h.2.1 h.2.2.1
  have HR := Lib.hid (fun W => CellW.right_any A n cap x W hln hmx)
  have H := Lib.hid h
  cases hr : CellP.right x
  · have HB : Hid (CellP.bytes x = []) := Lib.hid (by simp [CellP.bytes, hr])
    rw [HB.out]
    have HRR := Lib.hid hr
    obtain ⟨kind, data, lo, hi', val⟩ := x
    dsimp only at *
    clear hr
    go_enter Try.func114, Try.ntmps114
    go_wp2_with fail
    refine (HR.out _).mono ?_
    rintro e w1 ⟨rfl, hb⟩
    rw [HRR.out]
    go_wp2_with fail
    go_ret
    exact ⟨none, 0, 0, rfl, Bytes.none_ _ _, bstep (balloc (bsame _) _) hb⟩
  · have HRR := Lib.hid hr
    by_cases hk : x.kind = 1
    · have HBY := Lib.hid (bytes_rec x hr hk)
      rw [HBY.out]
      have h32 : n ≤ 32 := by
        unfold CellP.right at hr
        rw [if_pos hk] at hr
        simp at hr
        omega
      obtain ⟨ys, hys⟩ : ∃ ys, [1] ++ ([UInt8.ofNat x.data.length] ++ x.data) = ys := ⟨_, rfl⟩
      rw [hys]
      have HYS := Lib.hid hys
      clear hys
      obtain ⟨kind, data, lo, hi', val⟩ := x
      dsimp only at *
      subst hk
      have hcv : ((n : Int) % 256) = (n : Int) := by omega
      have hu : ((UInt8.ofNat data.length).toNat : Int) = (n : Int) := by
        simp
        omega
      clear hr h
      go_enter Try.func114, Try.ntmps114
      go_wp2_with fail
      refine (HR.out _).mono ?_
      rintro e w1 ⟨rfl, hb⟩
      rw [HRR.out]
      have hS := (Str.new w #[.int .i64 1, .slice A n cap, .int .i64 lo, .int .i64 hi', .int .i64 val] 25).next hb
      have hD := (H.out.alloc hB (.cells #[.int .i64 1, .slice A n cap, .int .i64 lo, .int .i64 hi', .int .i64 val] 25)).below (hb.mono (by simp; omega))
      have hs1 := hb.size
      simp only [World.size_alloc] at hs1
      have hO1 := (Own.one w1 (w.heap.size + 1) (by omega) 1).alloc (.cells #[.int .u8 ((UInt8.ofNat data.length).toNat : Int)] 5)
      have hO2 := Own.one (w1.alloc (.cells #[.int .u8 ((1 : UInt8).toNat : Int)] 5)) 0 (by omega) (UInt8.ofNat data.length)
      obtain ⟨A3, c3, w3, happ3, hO3, hb3⟩ := hO1.app hO2.bytes (by omega) (by simp; omega)
      have hD3 := ((hD.alloc (by omega) (.cells #[.int .u8 ((1 : UInt8).toNat : Int)] 5)).alloc (by simp; omega) (.cells #[.int .u8 ((UInt8.ofNat data.length).toNat : Int)] 5)).below (hb3.mono (by omega))
      have hs3 := hb3.size
      simp only [World.size_alloc] at hs3
      obtain ⟨A4, c4, w4, happ4, hO4, hb4⟩ := hO3.app hD3 (by omega) (by omega)
      have hS3 := (hS.alloc _).alloc (.cells #[.int .u8 ((UInt8.ofNat data.length).toNat : Int)] 5) |>.below hb3 (by omega)
      obtain ⟨k0, k1, k2, k3, k4⟩ := str5 hS
      obtain ⟨q0, q1, q2, q3, q4⟩ := str5 hS3
      have HB4 : Hid (Below w.heap.size w w4) := Lib.hid ((bstep (balloc (bsame _) _) hb).trans (((balloc (balloc (bsame w1) _) _).mono (by omega)).trans ((hb3.mono (by omega)).trans (hb4.mono (by omega)))))
      have HO4 := Lib.hid hO4
      have hu1 : ((1 : UInt8).toNat : Int) = 1 := rfl
      simp only [hu, hu1, World.size_alloc] at happ3
      have HO4' : Hid (Own w4 (w.heap.size + 1) A4 (1 + 1 + n) c4 ([1] ++ ([UInt8.ofNat data.length] ++ data))) := Lib.hid (by simpa using HO4.out)
      have hs1' : w.heap.size < w1.heap.size := by omega
      have hs3' : w.heap.size < w3.heap.size := by omega
      clear hS hD hO1 hO2 hO3 hb3 hD3 hO4 hb4 hS3 hb
      have HLN := Lib.hid hln
      clear hln
      go_wp2_with fail
      go_ret
      rw [← HYS.out]
      exact ⟨A4, _, c4, rfl, HO4'.out.bytes, HB4.out⟩
    · have hk2 : x.kind = 2 := by
        unfold CellP.right at hr
        rw [if_neg hk] at hr
        simp at hr
        exact hr.1
      have HBY := Lib.hid (bytes_cnt x hr hk2)
      rw [HBY.out]
      obtain ⟨ys, hys⟩ : ∃ ys, [2] ++ (BeP.parts 8 x.lo ++ (BeP.parts 8 x.hi ++ BeP.parts 8 x.val)) = ys := ⟨_, rfl⟩
      rw [hys]
      have HYS := Lib.hid hys
      clear hys
      obtain ⟨kind, data, lo, hi', val⟩ := x
      dsimp only at *
      subst hk2
      clear hr h hk
      have HLN := Lib.hid hln
      clear hln
      go_enter Try.func114, Try.ntmps114
      go_wp2_with fail
      refine (HR.out _).mono ?_
      rintro e w1 ⟨rfl, hb⟩
      rw [HRR.out]
      have hS := (Str.new w #[.int .i64 2, .slice A n cap, .int .i64 lo, .int .i64 hi', .int .i64 val] 25).next hb
      have hs1 := hb.size
      simp only [World.size_alloc] at hs1
      have hs1' : w.heap.size < w1.heap.size := by omega
      have HO1 := Lib.hid (Own.one w1 (w.heap.size + 1) (by omega) 2)
      have HS := Lib.hid hS
      have HB1 := Lib.hid (bstep (balloc (bsame _) _) hb)
      obtain ⟨k0, k1, k2, k3, k4⟩ := str5 hS
      clear hS hb
      go_wp2_with fail
      refine (RefBytes.bytes_any 8 lo _ (by omega)).mono ?_
      rintro e w2 ⟨A2, n2, c2, rfl, hY2, hb2⟩
      obtain rfl : n2 = 8 := by rw [← hY2.len, BeP.parts_length]
      have hs2 := hb2.size
      simp only [World.size_alloc] at hs2
      obtain ⟨A3, c3, w3, happ3, hO3, hb3⟩ := (HO1.out.next hb2).app hY2 (by omega) (by omega)
      have hs3 := hb3.size
      have HB3 : Hid (Below w.heap.size w w3) := Lib.hid (HB1.out.trans (((balloc (bsame w1) _).mono (by omega)).trans ((hb2.mono (by simp; omega)).trans (hb3.mono (by omega)))))
      have hS3 := ((HS.out.alloc _).next hb2).below hb3 (by omega)
      have HS3 := Lib.hid hS3
      have HO3 := Lib.hid hO3
      have hs3' : w.heap.size < w3.heap.size := by omega
      obtain ⟨p0, p1, p2, p3, p4⟩ := str5 hS3
      clear hS3 hO3 hb3 hb2 hY2
      go_wp2_with fail
      refine (RefBytes.bytes_any 8 hi' _ (by omega)).mono ?_
      rintro e w4 ⟨A4, n4, c4, rfl, hY4, hb4⟩
      obtain rfl : n4 = 8 := by rw [← hY4.len, BeP.parts_length]
      have hs4 := hb4.size
      obtain ⟨A5, c5, w5, happ5, hO5, hb5⟩ := (HO3.out.next hb4).app hY4 (by omega) (by omega)
      have hs5 := hb5.size
      have HB5 : Hid (Below w.heap.size w w5) := Lib.hid (HB3.out.trans ((hb4.mono (by omega)).trans (hb5.mono (by omega))))
      have hS5 := (HS3.out.next hb4).below hb5 (by omega)
      have HO5 := Lib.hid hO5
      have hs5' : w.heap.size < w5.heap.size := by omega
      obtain ⟨r0, r1, r2, r3, r4⟩ := str5 hS5
      clear hS5 hO5 hb5 hb4 hY4
      go_wp2_with fail
      refine (RefBytes.bytes_any 8 val _ (by omega)).mono ?_
      rintro e w6 ⟨A6, n6, c6, rfl, hY6, hb6⟩
      obtain rfl : n6 = 8 := by rw [← hY6.len, BeP.parts_length]
      have hs6 := hb6.size
      obtain ⟨A7, c7, w7, happ7, hO7, hb7⟩ := (HO5.out.next hb6).app hY6 (by omega) (by omega)
      have HB7 : Hid (Below w.heap.size w w7) := Lib.hid (HB5.out.trans ((hb6.mono (by omega)).trans (hb7.mono (by omega))))
      have HO7 := Lib.hid hO7
      clear hO7 hb7 hb6 hY6
      go_wp2_with fail
      go_ret
      rw [← HYS.out]
      have := HO7.out.bytes
      simp only [List.append_assoc] at this
      exact ⟨A7, _, c7, rfl, this, HB7.out⟩
end Go.Proofs.Ytiokcemlfdonnaa.RefCellBytes
namespace Go.Proofs.Ytiokcemlfdonnaa.RefSlotBytes
open Go.RowKit
attribute [local go_sem ↓] app_fold

def lenV (v : Value) : Nat := match v with | .slice _ n _ => n | _ => 0
/-- what holds at a round's head -/
def Rel (w : World) (base : Nat) (l : List UInt8) (b : Value) (wr : World) : Prop :=
  ∃ (A : Option Addr) (k c : Nat), b = .slice A k c ∧ l.length ≤ k ∧ k ≤ 64 ∧ Own wr base A k c (l ++ SlotP.zeros (k - l.length)) ∧ Below w.heap.size w wr ∧ base ≤ wr.heap.size
/-- two bytes that the call has just laid -/
theorem lit2 (w : World) (a b : UInt8) : Bytes (w.alloc (.cells #[.int .u8 (a.toNat : Int), .int .u8 (b.toNat : Int)] 5)) (w.heap.size + 1) (some ⟨w.heap.size, 0, none⟩) 2 2 [a, b] :=
  ⟨rfl, Nat.le_refl _, by decide, fun _ => ⟨w.heap.size, 0, rfl, by omega, fun j u hu => by
    rw [World.cell?_alloc_mark]
    have hj : j < 2 := by
      have := (List.getElem?_eq_some_iff.1 hu).1
      simpa using this
    match j, hj with
    | 0, _ => simp at hu; subst hu; rfl
    | 1, _ => simp at hu; subst hu; rfl⟩⟩
theorem zeros_snoc (l : List UInt8) (k : Nat) (h : l.length ≤ k) : (l ++ SlotP.zeros (k - l.length)) ++ [0] = l ++ SlotP.zeros (k + 1 - l.length) := by
  rw [List.append_assoc, show k + 1 - l.length = (k - l.length) + 1 by omega]
  unfold SlotP.zeros
  rw [List.replicate_succ']

set_option maxRecDepth 100000 in
set_option maxHeartbeats 1000000 in
theorem bytes_zero (A : Option Addr) (n cap B : Nat) (x : Item) (w : World) (h : Bytes w B A n cap x.cell.data) (hB : B ≤ w.heap.size) (hk : x.key.size ≤ maxLen) (h0 : ¬ (x.state ≠ 0 ∧ SlotP.right x = true)) :
    Calls Try.prog 84 #[SlotW.itemV A n cap x] w (GivesBytes w (SlotP.bytes x)) := by
  have HC := Lib.hid (fun W (hW : Bytes W B A n cap x.cell.data) (hB : B ≤ W.heap.size) => SlotW.right_any A n cap B x W hW hB hk)
  have H := Lib.hid h
  have HFIN : Hid (SlotP.bytes x = [] ++ SlotP.zeros (64 - ([] : List UInt8).length)) := Lib.hid (by unfold SlotP.bytes; rw [if_neg h0]; rfl)
  clear h hk
  obtain ⟨L, hL⟩ : ∃ L : List UInt8, [] = L := ⟨_, rfl⟩
  rw [hL] at HFIN
  have HL := Lib.hid hL
  clear hL
  by_cases hs : x.state = 0
  · obtain ⟨s, k, kind, data, lo, hi, val⟩ := x
    dsimp only at *
    subst hs
    clear h0
    go_enter Try.func84, Try.ntmps84
    go_wp2
    go_loopw [3] (fun b wr => Rel w (w.heap.size + 1) L b wr) (fun b _ => 64 - lenV b)
    case atStart => exact ⟨none, 0, 0, rfl, by rw [← HL.out]; exact Nat.le_refl _, by omega, by rw [← HL.out]; exact Own.none_ _ _, balloc (bsame w) _, by simp⟩
    case round =>
      obtain ⟨A9, k9, c9, rfl, hk1, hk2, hO, hB, hbs⟩ := hrel
      have HO := Lib.hid hO
      have HB := Lib.hid hB
      clear hO hB
      by_cases hlt : k9 < 64
      · obtain ⟨A8, c8, w8, happ, hO8, hb8⟩ := (HO.out.alloc (.cells #[.int .u8 ((0 : UInt8).toNat : Int)] 5)).app (Own.one wr 0 (by omega) 0).bytes (by omega) (by simp; omega)
        have h0 : ((0 : UInt8).toNat : Int) = 0 := rfl
        simp only [h0] at happ
        have HO8 := Lib.hid hO8
        have HB8 := Lib.hid (HB.out.trans (((Below.refl _ wr).alloc (by omega) (.cells #[.int .u8 ((0 : UInt8).toNat : Int)] 5)).trans (hb8.mono (by omega))))
        have hs8 : w.heap.size + 1 ≤ w8.heap.size := by have := hb8.size; simp at this; omega
        clear hO8 hb8 h0
        go_wp2
        go_roundw
        case rel =>
          refine ⟨A8, k9 + 1, c8, rfl, by omega, by omega, ?_, HB8.out, hs8⟩
          have := HO8.out
          rwa [zeros_snoc L k9 hk1] at this
        case measure => simp [lenV]; omega
      · go_wp2
        go_ret
        have hk : k9 = 64 := by omega
        subst hk
        rw [HFIN.out]
        exact ⟨A9, 64, c9, rfl, HO.out.bytes, HB.out⟩
  · have hr : SlotP.right x = false := by
      cases hb : SlotP.right x
      · rfl
      · exact absurd ⟨hs, hb⟩ h0
    have HR := Lib.hid hr
    obtain ⟨s, k, kind, data, lo, hi, val⟩ := x
    dsimp only at *
    have hs0 : (s != 0) = true := by simpa using hs
    clear h0 hr
    go_enter Try.func84, Try.ntmps84
    go_wp2_with fail
    refine (HC.out _ (H.out.alloc hB _) (by simp; omega)).mono ?_
    rintro e w1 ⟨rfl, hb⟩
    rw [HR.out]
    have HB1 := Lib.hid (bstep (balloc (bsame w) _) hb)
    have hs1 : w.heap.size + 1 ≤ w1.heap.size := by have := hb.size; simp at this; omega
    clear hb
    go_wp2
    go_loopw [3] (fun b wr => Rel w (w.heap.size + 1) L b wr) (fun b _ => 64 - lenV b)
    case atStart => exact ⟨none, 0, 0, rfl, by rw [← HL.out]; exact Nat.le_refl _, by omega, by rw [← HL.out]; exact Own.none_ _ _, HB1.out, hs1⟩
    case round =>
      obtain ⟨A9, k9, c9, rfl, hk1, hk2, hO, hB, hbs⟩ := hrel
      have HO := Lib.hid hO
      have HB := Lib.hid hB
      clear hO hB
      by_cases hlt : k9 < 64
      · obtain ⟨A8, c8, w8, happ, hO8, hb8⟩ := (HO.out.alloc (.cells #[.int .u8 ((0 : UInt8).toNat : Int)] 5)).app (Own.one wr 0 (by omega) 0).bytes (by omega) (by simp; omega)
        have h0 : ((0 : UInt8).toNat : Int) = 0 := rfl
        simp only [h0] at happ
        have HO8 := Lib.hid hO8
        have HB8 := Lib.hid (HB.out.trans (((Below.refl _ wr).alloc (by omega) (.cells #[.int .u8 ((0 : UInt8).toNat : Int)] 5)).trans (hb8.mono (by omega))))
        have hs8 : w.heap.size + 1 ≤ w8.heap.size := by have := hb8.size; simp at this; omega
        clear hO8 hb8 h0
        go_wp2
        go_roundw
        case rel =>
          refine ⟨A8, k9 + 1, c8, rfl, by omega, by omega, ?_, HB8.out, hs8⟩
          have := HO8.out
          rwa [zeros_snoc L k9 hk1] at this
        case measure => simp [lenV]; omega
      · go_wp2
        go_ret
        have hk : k9 = 64 := by omega
        subst hk
        rw [HFIN.out]
        exact ⟨A9, 64, c9, rfl, HO.out.bytes, HB.out⟩

set_option maxRecDepth 100000 in
set_option maxHeartbeats 1000000 in
theorem bytes_full (A : Option Addr) (n cap B : Nat) (x : Item) (w : World) (h : Bytes w B A n cap x.cell.data) (hB : B ≤ w.heap.size) (hk : x.key.size ≤ maxLen) (h0 : x.state ≠ 0) (hr : SlotP.right x = true) :
    Calls Try.prog 84 #[SlotW.itemV A n cap x] w (GivesBytes w (SlotP.bytes x)) := by
  have HC := Lib.hid (fun W (hW : Bytes W B A n cap x.cell.data) (hB : B ≤ W.heap.size) => SlotW.right_any A n cap B x W hW hB hk)
  have H := Lib.hid h
  have hlb := SlotP.body_len x h0 hr
  have HFIN : Hid (SlotP.bytes x = SlotP.body x ++ SlotP.zeros (64 - (SlotP.body x).length)) := Lib.hid (by unfold SlotP.bytes; rw [if_pos ⟨h0, hr⟩])
  have HBD : Hid (SlotP.body x = ([UInt8.ofNat x.state.toNat, UInt8.ofNat x.key.size] ++ x.key.data.toList) ++ CellP.bytes x.cell) := Lib.hid (by unfold SlotP.body; rw [List.append_assoc])
  have hk16 : x.key.size ≤ 16 := SlotP.right_key x h0 hr
  have h12 := SlotP.right_state x h0 hr
  have HBL := Lib.hid (SlotP.cell_le x.cell)
  have HR := Lib.hid hr
  obtain ⟨L, hL⟩ : ∃ L : List UInt8, SlotP.body x = L := ⟨_, rfl⟩
  rw [hL] at HFIN HBD hlb
  clear hL h hk hr
  obtain ⟨s, k, kind, data, lo, hi, val⟩ := x
  dsimp only at *
  have hkm : ((k.size : Int) % 256) = (k.size : Int) := by omega
  have hkb : ((UInt8.ofNat k.size).toNat : Int) = (k.size : Int) := by simp; omega
  have HKB := Lib.hid hkb
  clear hkb
  have hs0 : (s != 0) = true := by simpa using h0
  rcases h12 with rfl | rfl
  · clear h0 hs0
    go_enter Try.func84, Try.ntmps84
    go_wp2_with fail
    generalize hW0 : (w).alloc (.cells #[.int .i64 1, .string k, .int .i64 kind, .slice A n cap, .int .i64 lo, .int .i64 hi, .int .i64 val] 27) = W0
    have HS0_0 : Hid (Str W0 (w.heap.size) #[.int .i64 1, .string k, .int .i64 kind, .slice A n cap, .int .i64 lo, .int .i64 hi, .int .i64 val]) := Lib.hid (by rw [← hW0]; have := Str.new (w) #[.int .i64 1, .string k, .int .i64 kind, .slice A n cap, .int .i64 lo, .int .i64 hi, .int .i64 val] 27; simpa using this)
    have HB_0 : Hid (Below w.heap.size w W0) := Lib.hid (by rw [← hW0]; exact balloc (bsame w) _)
    have hw_0 := HB_0.out.size
    clear hW0
    obtain ⟨f0_0_0, f0_0_1, f0_0_2, f0_0_3, f0_0_4, f0_0_5, f0_0_6⟩ := str7 HS0_0.out
    have hl0_0 := HS0_0.out.lt
    refine (HC.out _ (H.out.below (HB_0.out.mono hB)) (by omega)).mono ?_
    rintro e W1 ⟨rfl, hb1⟩
    rw [HR.out]
    have HS0_1 := Lib.hid (HS0_0.out.next hb1)
    have HB_1 := Lib.hid (bstep HB_0.out hb1)
    have hw_1 := HB_1.out.size
    have hws_1 := (hb1).size
    clear f0_0_0 f0_0_1 f0_0_2 f0_0_3 f0_0_4 f0_0_5 f0_0_6 HS0_0
    clear hb1
    obtain ⟨f0_1_0, f0_1_1, f0_1_2, f0_1_3, f0_1_4, f0_1_5, f0_1_6⟩ := str7 HS0_1.out
    have hl0_1 := HS0_1.out.lt
    obtain ⟨A3, c3, w3, happ3, hO3, hb3⟩ := (Own.none_ (W1.alloc (.cells #[.int .u8 ((1 : UInt8).toNat : Int), .int .u8 ((UInt8.ofNat k.size).toNat : Int)] 5)) (w.heap.size + 1)).app (lit2 W1 1 (UInt8.ofNat k.size)) (by omega) (by simp; omega)
    have h1b : ((1 : UInt8).toNat : Int) = 1 := rfl
    simp only [h1b, HKB.out] at happ3 hb3
    have hs3 : w.heap.size + 1 ≤ w3.heap.size := by have := hb3.size; simp at this; omega
    obtain ⟨A4, c4, w4, happ4, hO4, hb4⟩ := hO3.appStr k (by omega) hs3
    have hB13 : Below (w.heap.size + 1) W1 w3 := ((Below.refl _ W1).alloc (by omega) _).trans hb3
    have hB14 : Below (w.heap.size + 1) W1 w4 := hB13.trans hb4
    have hs4 : w.heap.size + 1 ≤ w4.heap.size := by have := hb4.size; omega
    have hS3 := HS0_1.out.below hB13 (by omega)
    have hS4 := HS0_1.out.below hB14 (by omega)
    obtain ⟨u0, u1, u2, u3, u4, u5, u6⟩ := str7 hS3
    obtain ⟨x0, x1, x2, x3, x4, x5, x6⟩ := str7 hS4
    have hl3 := hS3.lt
    have hl4 := hS4.lt
    have HS4 := Lib.hid hS4
    have HB4 := Lib.hid (HB_1.out.trans (hB14.mono (by omega)))
    have HO4 := Lib.hid hO4
    simp only [Nat.zero_add, List.nil_append] at happ3 happ4 HO4
    clear hO3 hb3 hO4 hb4 hB13 hB14 hS3 hS4 h1b
    go_wp2_with fail
    refine (RefCellBytes.bytes_any A n cap B ⟨kind, data, lo, hi, val⟩ _ (H.out.below (HB4.out.mono hB)) (by omega)).mono ?_
    rintro e w5 ⟨A5, n5, c5, rfl, hy5, hb5⟩
    have hn5 := hy5.len
    obtain ⟨A6, c6, w6, happ6, hO6, hb6⟩ := (HO4.out.next hb5).app hy5 (by have := HBL.out; omega) (by have := hb5.size; omega)
    have HB6 := Lib.hid (HB4.out.trans ((hb5.mono (by omega)).trans (hb6.mono (by omega))))
    have hs6 : w.heap.size + 1 ≤ w6.heap.size := by have := hb5.size; have := hb6.size; omega
    have hO6' : Own w6 (w.heap.size + 1) A6 (1 + 1 + k.size + n5) c6 L := by
      rw [HBD.out]
      have h2 : UInt8.ofNat (Int.toNat 1) = 1 := rfl
      rw [h2]
      exact hO6
    have hlen := hO6'.len
    have HO6 := Lib.hid hO6'
    have HN5 := Lib.hid hn5
    clear hO6 hO6' hb5 hb6 hy5 hn5 happ3 happ4 u0 u1 u2 u3 u4 u5 u6 x0 x1 x2 x3 x4 x5 x6
    have hle : 1 + 1 + k.size + n5 ≤ 64 := by omega
    have hge : L.length ≤ 1 + 1 + k.size + n5 := by omega
    have HLE := Lib.hid hlen
    clear hlen hlb
    go_wp2
    go_loopw [3] (fun b wr => Rel w (w.heap.size + 1) L b wr) (fun b _ => 64 - lenV b)
    case atStart => exact ⟨A6, 1 + 1 + k.size + n5, c6, rfl, hge, hle, by rw [show 1 + 1 + k.size + n5 - L.length = 0 by have := HLE.out; omega]; simpa [SlotP.zeros] using HO6.out, HB6.out, hs6⟩
    case round =>
      obtain ⟨A9, k9, c9, rfl, hk1, hk2, hO, hB, hbs⟩ := hrel
      have HO := Lib.hid hO
      have HB := Lib.hid hB
      clear hO hB
      by_cases hlt : k9 < 64
      · obtain ⟨A8, c8, w8, happ, hO8, hb8⟩ := (HO.out.alloc (.cells #[.int .u8 ((0 : UInt8).toNat : Int)] 5)).app (Own.one wr 0 (by omega) 0).bytes (by omega) (by simp; omega)
        have h0 : ((0 : UInt8).toNat : Int) = 0 := rfl
        simp only [h0] at happ
        have HO8 := Lib.hid hO8
        have HB8 := Lib.hid (HB.out.trans (((Below.refl _ wr).alloc (by omega) (.cells #[.int .u8 ((0 : UInt8).toNat : Int)] 5)).trans (hb8.mono (by omega))))
        have hs8 : w.heap.size + 1 ≤ w8.heap.size := by have := hb8.size; simp at this; omega
        clear hO8 hb8 h0
        go_wp2
        go_roundw
        case rel =>
          refine ⟨A8, k9 + 1, c8, rfl, by omega, by omega, ?_, HB8.out, hs8⟩
          have := HO8.out
          rwa [zeros_snoc L k9 hk1] at this
        case measure => simp [lenV]; omega
      · go_wp2
        go_ret
        have hk : k9 = 64 := by omega
        subst hk
        rw [HFIN.out]
        exact ⟨A9, 64, c9, rfl, HO.out.bytes, HB.out⟩
  · clear h0 hs0
    go_enter Try.func84, Try.ntmps84
    go_wp2_with fail
    generalize hW0 : (w).alloc (.cells #[.int .i64 2, .string k, .int .i64 kind, .slice A n cap, .int .i64 lo, .int .i64 hi, .int .i64 val] 27) = W0
    have HS0_0 : Hid (Str W0 (w.heap.size) #[.int .i64 2, .string k, .int .i64 kind, .slice A n cap, .int .i64 lo, .int .i64 hi, .int .i64 val]) := Lib.hid (by rw [← hW0]; have := Str.new (w) #[.int .i64 2, .string k, .int .i64 kind, .slice A n cap, .int .i64 lo, .int .i64 hi, .int .i64 val] 27; simpa using this)
    have HB_0 : Hid (Below w.heap.size w W0) := Lib.hid (by rw [← hW0]; exact balloc (bsame w) _)
    have hw_0 := HB_0.out.size
    clear hW0
    obtain ⟨f0_0_0, f0_0_1, f0_0_2, f0_0_3, f0_0_4, f0_0_5, f0_0_6⟩ := str7 HS0_0.out
    have hl0_0 := HS0_0.out.lt
    refine (HC.out _ (H.out.below (HB_0.out.mono hB)) (by omega)).mono ?_
    rintro e W1 ⟨rfl, hb1⟩
    rw [HR.out]
    have HS0_1 := Lib.hid (HS0_0.out.next hb1)
    have HB_1 := Lib.hid (bstep HB_0.out hb1)
    have hw_1 := HB_1.out.size
    have hws_1 := (hb1).size
    clear f0_0_0 f0_0_1 f0_0_2 f0_0_3 f0_0_4 f0_0_5 f0_0_6 HS0_0
    clear hb1
    obtain ⟨f0_1_0, f0_1_1, f0_1_2, f0_1_3, f0_1_4, f0_1_5, f0_1_6⟩ := str7 HS0_1.out
    have hl0_1 := HS0_1.out.lt
    obtain ⟨A3, c3, w3, happ3, hO3, hb3⟩ := (Own.none_ (W1.alloc (.cells #[.int .u8 ((2 : UInt8).toNat : Int), .int .u8 ((UInt8.ofNat k.size).toNat : Int)] 5)) (w.heap.size + 1)).app (lit2 W1 2 (UInt8.ofNat k.size)) (by omega) (by simp; omega)
    have h1b : ((2 : UInt8).toNat : Int) = 2 := rfl
    simp only [h1b, HKB.out] at happ3 hb3
    have hs3 : w.heap.size + 1 ≤ w3.heap.size := by have := hb3.size; simp at this; omega
    obtain ⟨A4, c4, w4, happ4, hO4, hb4⟩ := hO3.appStr k (by omega) hs3
    have hB13 : Below (w.heap.size + 1) W1 w3 := ((Below.refl _ W1).alloc (by omega) _).trans hb3
    have hB14 : Below (w.heap.size + 1) W1 w4 := hB13.trans hb4
    have hs4 : w.heap.size + 1 ≤ w4.heap.size := by have := hb4.size; omega
    have hS3 := HS0_1.out.below hB13 (by omega)
    have hS4 := HS0_1.out.below hB14 (by omega)
    obtain ⟨u0, u1, u2, u3, u4, u5, u6⟩ := str7 hS3
    obtain ⟨x0, x1, x2, x3, x4, x5, x6⟩ := str7 hS4
    have hl3 := hS3.lt
    have hl4 := hS4.lt
    have HS4 := Lib.hid hS4
    have HB4 := Lib.hid (HB_1.out.trans (hB14.mono (by omega)))
    have HO4 := Lib.hid hO4
    simp only [Nat.zero_add, List.nil_append] at happ3 happ4 HO4
    clear hO3 hb3 hO4 hb4 hB13 hB14 hS3 hS4 h1b
    go_wp2_with fail
    refine (RefCellBytes.bytes_any A n cap B ⟨kind, data, lo, hi, val⟩ _ (H.out.below (HB4.out.mono hB)) (by omega)).mono ?_
    rintro e w5 ⟨A5, n5, c5, rfl, hy5, hb5⟩
    have hn5 := hy5.len
    obtain ⟨A6, c6, w6, happ6, hO6, hb6⟩ := (HO4.out.next hb5).app hy5 (by have := HBL.out; omega) (by have := hb5.size; omega)
    have HB6 := Lib.hid (HB4.out.trans ((hb5.mono (by omega)).trans (hb6.mono (by omega))))
    have hs6 : w.heap.size + 1 ≤ w6.heap.size := by have := hb5.size; have := hb6.size; omega
    have hO6' : Own w6 (w.heap.size + 1) A6 (1 + 1 + k.size + n5) c6 L := by
      rw [HBD.out]
      have h2 : UInt8.ofNat (Int.toNat 2) = 2 := rfl
      rw [h2]
      exact hO6
    have hlen := hO6'.len
    have HO6 := Lib.hid hO6'
    have HN5 := Lib.hid hn5
    clear hO6 hO6' hb5 hb6 hy5 hn5 happ3 happ4 u0 u1 u2 u3 u4 u5 u6 x0 x1 x2 x3 x4 x5 x6
    have hle : 1 + 1 + k.size + n5 ≤ 64 := by omega
    have hge : L.length ≤ 1 + 1 + k.size + n5 := by omega
    have HLE := Lib.hid hlen
    clear hlen hlb
    go_wp2
    go_loopw [3] (fun b wr => Rel w (w.heap.size + 1) L b wr) (fun b _ => 64 - lenV b)
    case atStart => exact ⟨A6, 1 + 1 + k.size + n5, c6, rfl, hge, hle, by rw [show 1 + 1 + k.size + n5 - L.length = 0 by have := HLE.out; omega]; simpa [SlotP.zeros] using HO6.out, HB6.out, hs6⟩
    case round =>
      obtain ⟨A9, k9, c9, rfl, hk1, hk2, hO, hB, hbs⟩ := hrel
      have HO := Lib.hid hO
      have HB := Lib.hid hB
      clear hO hB
      by_cases hlt : k9 < 64
      · obtain ⟨A8, c8, w8, happ, hO8, hb8⟩ := (HO.out.alloc (.cells #[.int .u8 ((0 : UInt8).toNat : Int)] 5)).app (Own.one wr 0 (by omega) 0).bytes (by omega) (by simp; omega)
        have h0 : ((0 : UInt8).toNat : Int) = 0 := rfl
        simp only [h0] at happ
        have HO8 := Lib.hid hO8
        have HB8 := Lib.hid (HB.out.trans (((Below.refl _ wr).alloc (by omega) (.cells #[.int .u8 ((0 : UInt8).toNat : Int)] 5)).trans (hb8.mono (by omega))))
        have hs8 : w.heap.size + 1 ≤ w8.heap.size := by have := hb8.size; simp at this; omega
        clear hO8 hb8 h0
        go_wp2
        go_roundw
        case rel =>
          refine ⟨A8, k9 + 1, c8, rfl, by omega, by omega, ?_, HB8.out, hs8⟩
          have := HO8.out
          rwa [zeros_snoc L k9 hk1] at this
        case measure => simp [lenV]; omega
      · go_wp2
        go_ret
        have hk : k9 = 64 := by omega
        subst hk
        rw [HFIN.out]
        exact ⟨A9, 64, c9, rfl, HO.out.bytes, HB.out⟩

theorem bytes_any (A : Option Addr) (n cap B : Nat) (x : Item) (w : World) (h : Bytes w B A n cap x.cell.data) (hB : B ≤ w.heap.size) (hk : x.key.size ≤ maxLen) :
    Calls Try.prog 84 #[SlotW.itemV A n cap x] w (GivesBytes w (SlotP.bytes x)) := by
  by_cases h0 : x.state ≠ 0 ∧ SlotP.right x = true
  · exact bytes_full A n cap B x w h hB hk h0.1 h0.2
  · exact bytes_zero A n cap B x w h hB hk h0
end Go.Proofs.Ytiokcemlfdonnaa.RefSlotBytes
