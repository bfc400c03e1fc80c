/-
  Parts of the proof of PlanGrows.
-/
import Derived.Test.YtpklclnehlgcpaaGreatPlanG9
import Derived.Lib.AppendStr
import Derived.Test.YtpklclnehlgcpaaGreatPlanG7
import Derived.Test.YtpklclnehlgcpaaGreatPlanG6
import Derived.Test.YtpklclnehlgcpaaGreatPlanG8
import Derived.Test.YtpklclnehlgcpaaGreatPlanG4
section
namespace Go.Proofs.YtpklclnehlgcpaaGreat
open Go.RowKit

theorem Own.appStr {w : World} {base n c : Nat} {A : Option Addr} {l : List UInt8} (h : Own w base A n c l) (s : ByteArray) (hn : n + s.size ≤ 140737488355328) (hb : base ≤ w.heap.size) :
    ∃ A' c' w', (appSem #[23, 9] 23 #[.slice A n c, .string s]).run Tryz.prog w = .ok (.slice A' (n + s.size) c') w' ∧ Own w' base A' (n + s.size) c' (l ++ s.data.toList) ∧ Below base w w' := by
  obtain ⟨i0, hi, hz0, hz1, hz2⟩ := info_parts Be.infoU8
  obtain ⟨v', w', happ, hown, hgrow, _⟩ := Lib.run_append_own_string (P := Tryz.prog) w base 23 9 23 5 i0 Tryz.underlying23 Tryz.underlying9 hi hz0 hz1 hz2 (.slice A n c) n (l.map byteV) h s (by unfold maxLen; omega) hn hb
  obtain ⟨A', c', rfl⟩ := own_slice hown
  have hm : (l ++ s.data.toList).map byteV = l.map byteV ++ Lib.strCells s := by rw [List.map_append]; rfl
  refine ⟨A', c', w', happ, ?_, (Below.refl _ w).grown hgrow hb (own_block h)⟩
  unfold Own
  rw [hm]
  exact hown
end Go.Proofs.YtpklclnehlgcpaaGreat
end
section
namespace Go.Proofs.YtpklclnehlgcpaaGreat.RefSlotBytes
open Go.RowKit
attribute [local go_sem ↓] app_fold

def lenV (v : Value) : Nat := match v with | .slice _ n _ => n | _ => 0
/-- what holds at a round's head -/
def Rel (w : World) (base : Nat) (l : List UInt8) (b : Value) (wr : World) : Prop :=
  ∃ (A : Option Addr) (k c : Nat), b = .slice A k c ∧ l.length ≤ k ∧ k ≤ 64 ∧ Own wr base A k c (l ++ SlotP.zeros (k - l.length)) ∧ Below w.heap.size w wr ∧ base ≤ wr.heap.size
/-- two bytes that the call has just laid -/
theorem lit2 (w : World) (a b : UInt8) : Bytes (w.alloc (.cells #[.int .u8 (a.toNat : Int), .int .u8 (b.toNat : Int)] 5)) (w.heap.size + 1) (some ⟨w.heap.size, 0, none⟩) 2 2 [a, b] :=
  ⟨rfl, Nat.le_refl _, by decide, fun _ => ⟨w.heap.size, 0, rfl, by omega, fun j u hu => by
    rw [World.cell?_alloc_mark]
    have hj : j < 2 := by
      have := (List.getElem?_eq_some_iff.1 hu).1
      simpa using this
    match j, hj with
    | 0, _ => simp at hu; subst hu; rfl
    | 1, _ => simp at hu; subst hu; rfl⟩⟩
theorem zeros_snoc (l : List UInt8) (k : Nat) (h : l.length ≤ k) : (l ++ SlotP.zeros (k - l.length)) ++ [0] = l ++ SlotP.zeros (k + 1 - l.length) := by
  rw [List.append_assoc, show k + 1 - l.length = (k - l.length) + 1 by omega]
  unfold SlotP.zeros
  rw [List.replicate_succ']

set_option maxRecDepth 100000 in
set_option maxHeartbeats 1000000 in
theorem bytes_zero (A : Option Addr) (n cap B : Nat) (x : Item) (w : World) (h : Bytes w B A n cap x.cell.data) (hB : B ≤ w.heap.size) (hk : x.key.size ≤ maxLen) (h0 : ¬ (x.state ≠ 0 ∧ SlotP.right x = true)) :
    Calls Tryz.prog 31 #[SlotW.itemV A n cap x] w (GivesBytes w (SlotP.bytes x)) := by
  have HC := Lib.hid (fun W (hW : Bytes W B A n cap x.cell.data) (hB : B ≤ W.heap.size) => SlotW.right_any A n cap B x W hW hB hk)
  have H := Lib.hid h
  have HFIN : Hid (SlotP.bytes x = [] ++ SlotP.zeros (64 - ([] : List UInt8).length)) := Lib.hid (by unfold SlotP.bytes; rw [if_neg h0]; rfl)
  clear h hk
  obtain ⟨L, hL⟩ : ∃ L : List UInt8, [] = L := ⟨_, rfl⟩
  rw [hL] at HFIN
  have HL := Lib.hid hL
  clear hL
  by_cases hs : x.state = 0
  · obtain ⟨s, k, kind, data, lo, hi, val⟩ := x
    dsimp only at *
    subst hs
    clear h0
    go_enter Tryz.func31, Tryz.ntmps31
    go_wp2
    go_loopw [3] (fun b wr => Rel w (w.heap.size + 1) L b wr) (fun b _ => 64 - lenV b)
    case atStart => exact ⟨none, 0, 0, rfl, by rw [← HL.out]; exact Nat.le_refl _, by omega, by rw [← HL.out]; exact Own.none_ _ _, balloc (bsame w) _, by simp⟩
    case round =>
      obtain ⟨A9, k9, c9, rfl, hk1, hk2, hO, hB, hbs⟩ := hrel
      have HO := Lib.hid hO
      have HB := Lib.hid hB
      clear hO hB
      by_cases hlt : k9 < 64
      · obtain ⟨A8, c8, w8, happ, hO8, hb8⟩ := (HO.out.alloc (.cells #[.int .u8 ((0 : UInt8).toNat : Int)] 5)).app (Own.one wr 0 (by omega) 0).bytes (by omega) (by simp; omega)
        have h0 : ((0 : UInt8).toNat : Int) = 0 := rfl
        simp only [h0] at happ
        have HO8 := Lib.hid hO8
        have HB8 := Lib.hid (HB.out.trans (((Below.refl _ wr).alloc (by omega) (.cells #[.int .u8 ((0 : UInt8).toNat : Int)] 5)).trans (hb8.mono (by omega))))
        have hs8 : w.heap.size + 1 ≤ w8.heap.size := by have := hb8.size; simp at this; omega
        clear hO8 hb8 h0
        go_wp2
        go_roundw
        case rel =>
          refine ⟨A8, k9 + 1, c8, rfl, by omega, by omega, ?_, HB8.out, hs8⟩
          have := HO8.out
          rwa [zeros_snoc L k9 hk1] at this
        case measure => simp [lenV]; omega
      · go_wp2
        go_ret
        have hk : k9 = 64 := by omega
        subst hk
        rw [HFIN.out]
        exact ⟨A9, 64, c9, rfl, HO.out.bytes, HB.out⟩
  · have hr : SlotP.right x = false := by
      cases hb : SlotP.right x
      · rfl
      · exact absurd ⟨hs, hb⟩ h0
    have HR := Lib.hid hr
    obtain ⟨s, k, kind, data, lo, hi, val⟩ := x
    dsimp only at *
    have hs0 : (s != 0) = true := by simpa using hs
    clear h0 hr
    go_enter Tryz.func31, Tryz.ntmps31
    go_wp2_with fail
    refine (HC.out _ (H.out.alloc hB _) (by simp; omega)).mono ?_
    rintro e w1 ⟨rfl, hb⟩
    rw [HR.out]
    have HB1 := Lib.hid (bstep (balloc (bsame w) _) hb)
    have hs1 : w.heap.size + 1 ≤ w1.heap.size := by have := hb.size; simp at this; omega
    clear hb
    go_wp2
    go_loopw [3] (fun b wr => Rel w (w.heap.size + 1) L b wr) (fun b _ => 64 - lenV b)
    case atStart => exact ⟨none, 0, 0, rfl, by rw [← HL.out]; exact Nat.le_refl _, by omega, by rw [← HL.out]; exact Own.none_ _ _, HB1.out, hs1⟩
    case round =>
      obtain ⟨A9, k9, c9, rfl, hk1, hk2, hO, hB, hbs⟩ := hrel
      have HO := Lib.hid hO
      have HB := Lib.hid hB
      clear hO hB
      by_cases hlt : k9 < 64
      · obtain ⟨A8, c8, w8, happ, hO8, hb8⟩ := (HO.out.alloc (.cells #[.int .u8 ((0 : UInt8).toNat : Int)] 5)).app (Own.one wr 0 (by omega) 0).bytes (by omega) (by simp; omega)
        have h0 : ((0 : UInt8).toNat : Int) = 0 := rfl
        simp only [h0] at happ
        have HO8 := Lib.hid hO8
        have HB8 := Lib.hid (HB.out.trans (((Below.refl _ wr).alloc (by omega) (.cells #[.int .u8 ((0 : UInt8).toNat : Int)] 5)).trans (hb8.mono (by omega))))
        have hs8 : w.heap.size + 1 ≤ w8.heap.size := by have := hb8.size; simp at this; omega
        clear hO8 hb8 h0
        go_wp2
        go_roundw
        case rel =>
          refine ⟨A8, k9 + 1, c8, rfl, by omega, by omega, ?_, HB8.out, hs8⟩
          have := HO8.out
          rwa [zeros_snoc L k9 hk1] at this
        case measure => simp [lenV]; omega
      · go_wp2
        go_ret
        have hk : k9 = 64 := by omega
        subst hk
        rw [HFIN.out]
        exact ⟨A9, 64, c9, rfl, HO.out.bytes, HB.out⟩

set_option maxRecDepth 100000 in
set_option maxHeartbeats 1000000 in
theorem bytes_full (A : Option Addr) (n cap B : Nat) (x : Item) (w : World) (h : Bytes w B A n cap x.cell.data) (hB : B ≤ w.heap.size) (hk : x.key.size ≤ maxLen) (h0 : x.state ≠ 0) (hr : SlotP.right x = true) :
    Calls Tryz.prog 31 #[SlotW.itemV A n cap x] w (GivesBytes w (SlotP.bytes x)) := by
  have HC := Lib.hid (fun W (hW : Bytes W B A n cap x.cell.data) (hB : B ≤ W.heap.size) => SlotW.right_any A n cap B x W hW hB hk)
  have H := Lib.hid h
  have hlb := SlotP.body_len x h0 hr
  have HFIN : Hid (SlotP.bytes x = SlotP.body x ++ SlotP.zeros (64 - (SlotP.body x).length)) := Lib.hid (by unfold SlotP.bytes; rw [if_pos ⟨h0, hr⟩])
  have HBD : Hid (SlotP.body x = ([UInt8.ofNat x.state.toNat, UInt8.ofNat x.key.size] ++ x.key.data.toList) ++ CellP.bytes x.cell) := Lib.hid (by unfold SlotP.body; rw [List.append_assoc])
  have hk16 : x.key.size ≤ 16 := SlotP.right_key x h0 hr
  have h12 := SlotP.right_state x h0 hr
  have HBL := Lib.hid (SlotP.cell_le x.cell)
  have HR := Lib.hid hr
  obtain ⟨L, hL⟩ : ∃ L : List UInt8, SlotP.body x = L := ⟨_, rfl⟩
  rw [hL] at HFIN HBD hlb
  clear hL h hk hr
  obtain ⟨s, k, kind, data, lo, hi, val⟩ := x
  dsimp only at *
  have hkm : ((k.size : Int) % 256) = (k.size : Int) := by omega
  have hkb : ((UInt8.ofNat k.size).toNat : Int) = (k.size : Int) := by simp; omega
  have HKB := Lib.hid hkb
  clear hkb
  have hs0 : (s != 0) = true := by simpa using h0
  rcases h12 with rfl | rfl
  · clear h0 hs0
    go_enter Tryz.func31, Tryz.ntmps31
    go_wp2_with fail
    generalize hW0 : (w).alloc (.cells #[.int .i64 1, .string k, .int .i64 kind, .slice A n cap, .int .i64 lo, .int .i64 hi, .int .i64 val] 27) = W0
    have HS0_0 : Hid (Str W0 (w.heap.size) #[.int .i64 1, .string k, .int .i64 kind, .slice A n cap, .int .i64 lo, .int .i64 hi, .int .i64 val]) := Lib.hid (by rw [← hW0]; have := Str.new (w) #[.int .i64 1, .string k, .int .i64 kind, .slice A n cap, .int .i64 lo, .int .i64 hi, .int .i64 val] 27; simpa using this)
    have HB_0 : Hid (Below w.heap.size w W0) := Lib.hid (by rw [← hW0]; exact balloc (bsame w) _)
    have hw_0 := HB_0.out.size
    clear hW0
    obtain ⟨f0_0_0, f0_0_1, f0_0_2, f0_0_3, f0_0_4, f0_0_5, f0_0_6⟩ := str7 HS0_0.out
    have hl0_0 := HS0_0.out.lt
    refine (HC.out _ (H.out.below (HB_0.out.mono hB)) (by omega)).mono ?_
    rintro e W1 ⟨rfl, hb1⟩
    rw [HR.out]
    have HS0_1 := Lib.hid (HS0_0.out.next hb1)
    have HB_1 := Lib.hid (bstep HB_0.out hb1)
    have hw_1 := HB_1.out.size
    have hws_1 := (hb1).size
    clear f0_0_0 f0_0_1 f0_0_2 f0_0_3 f0_0_4 f0_0_5 f0_0_6 HS0_0
    clear hb1
    obtain ⟨f0_1_0, f0_1_1, f0_1_2, f0_1_3, f0_1_4, f0_1_5, f0_1_6⟩ := str7 HS0_1.out
    have hl0_1 := HS0_1.out.lt
    obtain ⟨A3, c3, w3, happ3, hO3, hb3⟩ := (Own.none_ (W1.alloc (.cells #[.int .u8 ((1 : UInt8).toNat : Int), .int .u8 ((UInt8.ofNat k.size).toNat : Int)] 5)) (w.heap.size + 1)).app (lit2 W1 1 (UInt8.ofNat k.size)) (by omega) (by simp; omega)
    have h1b : ((1 : UInt8).toNat : Int) = 1 := rfl
    simp only [h1b, HKB.out] at happ3 hb3
    have hs3 : w.heap.size + 1 ≤ w3.heap.size := by have := hb3.size; simp at this; omega
    obtain ⟨A4, c4, w4, happ4, hO4, hb4⟩ := hO3.appStr k (by omega) hs3
    have hB13 : Below (w.heap.size + 1) W1 w3 := ((Below.refl _ W1).alloc (by omega) _).trans hb3
    have hB14 : Below (w.heap.size + 1) W1 w4 := hB13.trans hb4
    have hs4 : w.heap.size + 1 ≤ w4.heap.size := by have := hb4.size; omega
    have hS3 := HS0_1.out.below hB13 (by omega)
    have hS4 := HS0_1.out.below hB14 (by omega)
    obtain ⟨u0, u1, u2, u3, u4, u5, u6⟩ := str7 hS3
    obtain ⟨x0, x1, x2, x3, x4, x5, x6⟩ := str7 hS4
    have hl3 := hS3.lt
    have hl4 := hS4.lt
    have HS4 := Lib.hid hS4
    have HB4 := Lib.hid (HB_1.out.trans (hB14.mono (by omega)))
    have HO4 := Lib.hid hO4
    simp only [Nat.zero_add, List.nil_append] at happ3 happ4 HO4
    clear hO3 hb3 hO4 hb4 hB13 hB14 hS3 hS4 h1b
    go_wp2_with fail
    refine (RefCellBytes.bytes_any A n cap B ⟨kind, data, lo, hi, val⟩ _ (H.out.below (HB4.out.mono hB)) (by omega)).mono ?_
    rintro e w5 ⟨A5, n5, c5, rfl, hy5, hb5⟩
    have hn5 := hy5.len
    obtain ⟨A6, c6, w6, happ6, hO6, hb6⟩ := (HO4.out.next hb5).app hy5 (by have := HBL.out; omega) (by have := hb5.size; omega)
    have HB6 := Lib.hid (HB4.out.trans ((hb5.mono (by omega)).trans (hb6.mono (by omega))))
    have hs6 : w.heap.size + 1 ≤ w6.heap.size := by have := hb5.size; have := hb6.size; omega
    have hO6' : Own w6 (w.heap.size + 1) A6 (1 + 1 + k.size + n5) c6 L := by
      rw [HBD.out]
      have h2 : UInt8.ofNat (Int.toNat 1) = 1 := rfl
      rw [h2]
      exact hO6
    have hlen := hO6'.len
    have HO6 := Lib.hid hO6'
    have HN5 := Lib.hid hn5
    clear hO6 hO6' hb5 hb6 hy5 hn5 happ3 happ4 u0 u1 u2 u3 u4 u5 u6 x0 x1 x2 x3 x4 x5 x6
    have hle : 1 + 1 + k.size + n5 ≤ 64 := by omega
    have hge : L.length ≤ 1 + 1 + k.size + n5 := by omega
    have HLE := Lib.hid hlen
    clear hlen hlb
    go_wp2
    go_loopw [3] (fun b wr => Rel w (w.heap.size + 1) L b wr) (fun b _ => 64 - lenV b)
    case atStart => exact ⟨A6, 1 + 1 + k.size + n5, c6, rfl, hge, hle, by rw [show 1 + 1 + k.size + n5 - L.length = 0 by have := HLE.out; omega]; simpa [SlotP.zeros] using HO6.out, HB6.out, hs6⟩
    case round =>
      obtain ⟨A9, k9, c9, rfl, hk1, hk2, hO, hB, hbs⟩ := hrel
      have HO := Lib.hid hO
      have HB := Lib.hid hB
      clear hO hB
      by_cases hlt : k9 < 64
      · obtain ⟨A8, c8, w8, happ, hO8, hb8⟩ := (HO.out.alloc (.cells #[.int .u8 ((0 : UInt8).toNat : Int)] 5)).app (Own.one wr 0 (by omega) 0).bytes (by omega) (by simp; omega)
        have h0 : ((0 : UInt8).toNat : Int) = 0 := rfl
        simp only [h0] at happ
        have HO8 := Lib.hid hO8
        have HB8 := Lib.hid (HB.out.trans (((Below.refl _ wr).alloc (by omega) (.cells #[.int .u8 ((0 : UInt8).toNat : Int)] 5)).trans (hb8.mono (by omega))))
        have hs8 : w.heap.size + 1 ≤ w8.heap.size := by have := hb8.size; simp at this; omega
        clear hO8 hb8 h0
        go_wp2
        go_roundw
        case rel =>
          refine ⟨A8, k9 + 1, c8, rfl, by omega, by omega, ?_, HB8.out, hs8⟩
          have := HO8.out
          rwa [zeros_snoc L k9 hk1] at this
        case measure => simp [lenV]; omega
      · go_wp2
        go_ret
        have hk : k9 = 64 := by omega
        subst hk
        rw [HFIN.out]
        exact ⟨A9, 64, c9, rfl, HO.out.bytes, HB.out⟩
  · clear h0 hs0
    go_enter Tryz.func31, Tryz.ntmps31
    go_wp2_with fail
    generalize hW0 : (w).alloc (.cells #[.int .i64 2, .string k, .int .i64 kind, .slice A n cap, .int .i64 lo, .int .i64 hi, .int .i64 val] 27) = W0
    have HS0_0 : Hid (Str W0 (w.heap.size) #[.int .i64 2, .string k, .int .i64 kind, .slice A n cap, .int .i64 lo, .int .i64 hi, .int .i64 val]) := Lib.hid (by rw [← hW0]; have := Str.new (w) #[.int .i64 2, .string k, .int .i64 kind, .slice A n cap, .int .i64 lo, .int .i64 hi, .int .i64 val] 27; simpa using this)
    have HB_0 : Hid (Below w.heap.size w W0) := Lib.hid (by rw [← hW0]; exact balloc (bsame w) _)
    have hw_0 := HB_0.out.size
    clear hW0
    obtain ⟨f0_0_0, f0_0_1, f0_0_2, f0_0_3, f0_0_4, f0_0_5, f0_0_6⟩ := str7 HS0_0.out
    have hl0_0 := HS0_0.out.lt
    refine (HC.out _ (H.out.below (HB_0.out.mono hB)) (by omega)).mono ?_
    rintro e W1 ⟨rfl, hb1⟩
    rw [HR.out]
    have HS0_1 := Lib.hid (HS0_0.out.next hb1)
    have HB_1 := Lib.hid (bstep HB_0.out hb1)
    have hw_1 := HB_1.out.size
    have hws_1 := (hb1).size
    clear f0_0_0 f0_0_1 f0_0_2 f0_0_3 f0_0_4 f0_0_5 f0_0_6 HS0_0
    clear hb1
    obtain ⟨f0_1_0, f0_1_1, f0_1_2, f0_1_3, f0_1_4, f0_1_5, f0_1_6⟩ := str7 HS0_1.out
    have hl0_1 := HS0_1.out.lt
    obtain ⟨A3, c3, w3, happ3, hO3, hb3⟩ := (Own.none_ (W1.alloc (.cells #[.int .u8 ((2 : UInt8).toNat : Int), .int .u8 ((UInt8.ofNat k.size).toNat : Int)] 5)) (w.heap.size + 1)).app (lit2 W1 2 (UInt8.ofNat k.size)) (by omega) (by simp; omega)
    have h1b : ((2 : UInt8).toNat : Int) = 2 := rfl
    simp only [h1b, HKB.out] at happ3 hb3
    have hs3 : w.heap.size + 1 ≤ w3.heap.size := by have := hb3.size; simp at this; omega
    obtain ⟨A4, c4, w4, happ4, hO4, hb4⟩ := hO3.appStr k (by omega) hs3
    have hB13 : Below (w.heap.size + 1) W1 w3 := ((Below.refl _ W1).alloc (by omega) _).trans hb3
    have hB14 : Below (w.heap.size + 1) W1 w4 := hB13.trans hb4
    have hs4 : w.heap.size + 1 ≤ w4.heap.size := by have := hb4.size; omega
    have hS3 := HS0_1.out.below hB13 (by omega)
    have hS4 := HS0_1.out.below hB14 (by omega)
    obtain ⟨u0, u1, u2, u3, u4, u5, u6⟩ := str7 hS3
    obtain ⟨x0, x1, x2, x3, x4, x5, x6⟩ := str7 hS4
    have hl3 := hS3.lt
    have hl4 := hS4.lt
    have HS4 := Lib.hid hS4
    have HB4 := Lib.hid (HB_1.out.trans (hB14.mono (by omega)))
    have HO4 := Lib.hid hO4
    simp only [Nat.zero_add, List.nil_append] at happ3 happ4 HO4
    clear hO3 hb3 hO4 hb4 hB13 hB14 hS3 hS4 h1b
    go_wp2_with fail
    refine (RefCellBytes.bytes_any A n cap B ⟨kind, data, lo, hi, val⟩ _ (H.out.below (HB4.out.mono hB)) (by omega)).mono ?_
    rintro e w5 ⟨A5, n5, c5, rfl, hy5, hb5⟩
    have hn5 := hy5.len
    obtain ⟨A6, c6, w6, happ6, hO6, hb6⟩ := (HO4.out.next hb5).app hy5 (by have := HBL.out; omega) (by have := hb5.size; omega)
    have HB6 := Lib.hid (HB4.out.trans ((hb5.mono (by omega)).trans (hb6.mono (by omega))))
    have hs6 : w.heap.size + 1 ≤ w6.heap.size := by have := hb5.size; have := hb6.size; omega
    have hO6' : Own w6 (w.heap.size + 1) A6 (1 + 1 + k.size + n5) c6 L := by
      rw [HBD.out]
      have h2 : UInt8.ofNat (Int.toNat 2) = 2 := rfl
      rw [h2]
      exact hO6
    have hlen := hO6'.len
    have HO6 := Lib.hid hO6'
    have HN5 := Lib.hid hn5
    clear hO6 hO6' hb5 hb6 hy5 hn5 happ3 happ4 u0 u1 u2 u3 u4 u5 u6 x0 x1 x2 x3 x4 x5 x6
    have hle : 1 + 1 + k.size + n5 ≤ 64 := by omega
    have hge : L.length ≤ 1 + 1 + k.size + n5 := by omega
    have HLE := Lib.hid hlen
    clear hlen hlb
    go_wp2
    go_loopw [3] (fun b wr => Rel w (w.heap.size + 1) L b wr) (fun b _ => 64 - lenV b)
    case atStart => exact ⟨A6, 1 + 1 + k.size + n5, c6, rfl, hge, hle, by rw [show 1 + 1 + k.size + n5 - L.length = 0 by have := HLE.out; omega]; simpa [SlotP.zeros] using HO6.out, HB6.out, hs6⟩
    case round =>
      obtain ⟨A9, k9, c9, rfl, hk1, hk2, hO, hB, hbs⟩ := hrel
      have HO := Lib.hid hO
      have HB := Lib.hid hB
      clear hO hB
      by_cases hlt : k9 < 64
      · obtain ⟨A8, c8, w8, happ, hO8, hb8⟩ := (HO.out.alloc (.cells #[.int .u8 ((0 : UInt8).toNat : Int)] 5)).app (Own.one wr 0 (by omega) 0).bytes (by omega) (by simp; omega)
        have h0 : ((0 : UInt8).toNat : Int) = 0 := rfl
        simp only [h0] at happ
        have HO8 := Lib.hid hO8
        have HB8 := Lib.hid (HB.out.trans (((Below.refl _ wr).alloc (by omega) (.cells #[.int .u8 ((0 : UInt8).toNat : Int)] 5)).trans (hb8.mono (by omega))))
        have hs8 : w.heap.size + 1 ≤ w8.heap.size := by have := hb8.size; simp at this; omega
        clear hO8 hb8 h0
        go_wp2
        go_roundw
        case rel =>
          refine ⟨A8, k9 + 1, c8, rfl, by omega, by omega, ?_, HB8.out, hs8⟩
          have := HO8.out
          rwa [zeros_snoc L k9 hk1] at this
        case measure => simp [lenV]; omega
      · go_wp2
        go_ret
        have hk : k9 = 64 := by omega
        subst hk
        rw [HFIN.out]
        exact ⟨A9, 64, c9, rfl, HO.out.bytes, HB.out⟩

theorem bytes_any (A : Option Addr) (n cap B : Nat) (x : Item) (w : World) (h : Bytes w B A n cap x.cell.data) (hB : B ≤ w.heap.size) (hk : x.key.size ≤ maxLen) :
    Calls Tryz.prog 31 #[SlotW.itemV A n cap x] w (GivesBytes w (SlotP.bytes x)) := by
  by_cases h0 : x.state ≠ 0 ∧ SlotP.right x = true
  · exact bytes_full A n cap B x w h hB hk h0.1 h0.2
  · exact bytes_zero A n cap B x w h hB hk h0
end Go.Proofs.YtpklclnehlgcpaaGreat.RefSlotBytes
end
section
namespace Go.Proofs.YtpklclnehlgcpaaGreat.RefSlotGet
open Go.RowKit
attribute [local go_sem ↓] app_fold cut_fold

end Go.Proofs.YtpklclnehlgcpaaGreat.RefSlotGet
end
section
namespace Go.Proofs.YtpklclnehlgcpaaGreat.RefPage
open Go.RowKit
attribute [local go_sem ↓] app_fold cut_fold

set_option maxRecDepth 100000 in
set_option maxHeartbeats 1000000 in
theorem put_any (A : Option Addr) (n c B : Nat) (l : List UInt8) (a : Nat) (A2 : Option Addr) (m c2 B2 : Nat) (s : List UInt8) (w : World) (h : Bytes w B A n c l) (hB : B ≤ w.heap.size) (h2 : Bytes w B2 A2 m c2 s) (hB2 : B2 ≤ w.heap.size) (ha : a + m ≤ n) (hn : n ≤ 1000000000) :
    Calls Tryz.prog 30 #[.slice A n c, .int .i64 (a : Int), .slice A2 m c2] w (GivesBytes w (SlotP.over l a s)) := by
  have hcm := h.2.2.1
  have hnc := h.2.1
  unfold maxLen at hcm
  have hl := h.len
  have hl2 := h2.len
  obtain ⟨A3, c3, w3, happ3, hO3, hb3⟩ := (Own.empty w w.heap.size (Nat.le_refl _)).app ((h.cut 0 a c (by omega) (by omega) (by omega) (Nat.le_refl _)).alloc hB _) (by omega) (by simp)
  simp only [Nat.sub_zero, Nat.zero_add, List.nil_append, List.drop_zero] at happ3 hO3
  have hB3 : Below w.heap.size w w3 := ((Below.refl _ w).alloc (Nat.le_refl _) _).trans hb3
  obtain ⟨A4, c4, w4, happ4, hO4, hb4⟩ := hO3.app (h2.below (hB3.mono hB2)) (by omega) hB3.size
  have hB4 : Below w.heap.size w w4 := hB3.trans hb4
  obtain ⟨A5, c5, w5, happ5, hO5, hb5⟩ := hO4.app ((h.cut (a + m) n c (by omega) (by omega) (by omega) (Nat.le_refl _)).below (hB4.mono hB)) (by omega) hB4.size
  have hB5 : Below w.heap.size w w5 := hB4.trans hb5
  have hres : (l.take a ++ s) ++ (l.drop (a + m)).take (n - (a + m)) = SlotP.over l a s := by
    have e : (l.drop (a + m)).take (n - (a + m)) = l.drop (a + m) := List.take_of_length_le (by rw [List.length_drop]; omega)
    unfold SlotP.over
    rw [List.append_assoc, e, hl2]
  rw [hres] at hO5
  have HO := Lib.hid hO5
  have HB := Lib.hid hB5
  have hb1 : (a : Int) + (m : Int) ≤ (n : Int) := by omega
  have hb2 : (0 : Int) ≤ (a : Int) + (m : Int) := by omega
  have hb6 : ((a : Int) + (m : Int)).toNat = a + m := by omega
  have hb7 : (a : Int) ≤ (c : Int) := by omega
  clear hO3 hb3 hO4 hb4 hO5 hb5 hB3 hB4 hB5 hres h h2 hl hl2
  go_enter Tryz.func30, Tryz.ntmps30
  go_wp2
  go_ret
  exact ⟨A5, n, c5, rfl, (by have := HO.out.bytes; rwa [show a + m + (n - (a + m)) = n by omega] at this), HB.out⟩

theorem zeros_snoc (k : Nat) : SlotP.zeros k ++ [0] = SlotP.zeros (k + 1) := by
  unfold SlotP.zeros
  rw [List.replicate_succ']
set_option maxRecDepth 100000 in
set_option maxHeartbeats 1000000 in
theorem zeros_any (n : Nat) (hn : n ≤ 100000) (w : World) : Calls Tryz.prog 57 #[.int .i64 (n : Int)] w (GivesBytes w (SlotP.zeros n)) := by
  go_enter Tryz.func57, Tryz.ntmps57
  go_wp2
  go_loopw [3, 4] (fun b i wr => ∃ (k : Nat) (A : Option Addr) (c : Nat), k ≤ n ∧ i = .int .i64 (k : Int) ∧ b = .slice A k c ∧ Own wr w.heap.size A k c (SlotP.zeros k) ∧ Below w.heap.size w wr) (fun _ i _ => n - (intOf i).toNat)
  case atStart => exact ⟨0, none, 0, Nat.zero_le _, rfl, rfl, Own.none_ _ _, bsame w⟩
  case round =>
    obtain ⟨k, A9, c9, hk, rfl, rfl, hO, hB⟩ := hrel
    have HO := Lib.hid hO
    have HB := Lib.hid hB
    have hbs := hB.size
    clear hO hB
    by_cases hlt : k < n
    · obtain ⟨A8, c8, w8, happ, hO8, hb8⟩ := (HO.out.alloc (.cells #[.int .u8 ((0 : UInt8).toNat : Int)] 5)).app (Own.one wr 0 (by omega) 0).bytes (by omega) (by simp; omega)
      have h0 : ((0 : UInt8).toNat : Int) = 0 := rfl
      simp only [h0] at happ
      have HO8 := Lib.hid hO8
      have HB8 := Lib.hid (HB.out.trans (((Below.refl _ wr).alloc (by omega) (.cells #[.int .u8 ((0 : UInt8).toNat : Int)] 5)).trans hb8))
      clear hO8 hb8 h0
      go_wp2
      go_roundw
      case rel =>
        refine ⟨k + 1, A8, c8, by omega, by go_num, rfl, ?_, HB8.out⟩
        have := HO8.out
        rwa [zeros_snoc] at this
      case measure => simp [intOf]; omega
    · go_wp2
      go_ret
      have hk : k = n := by omega
      subst hk
      exact ⟨A9, k, c9, rfl, HO.out.bytes, HB.out⟩

set_option maxHeartbeats 400000 in
theorem num_any (A : Option Addr) (n c B a width : Nat) (l : List UInt8) (w : World) (h : Bytes w B A n c l) (ha : a ≤ 4611686018427387904) (hw1 : 1 ≤ width) (hw8 : width ≤ 8) :
    Calls Tryz.prog 50 #[.slice A n c, .int .i64 (a : Int), .int .i64 (width : Int)] w fun e w' => e = .returned (.int .i64 (NumP.val l a width)) ∧ w = w' := by
  have H := Lib.hid h
  clear h
  go_enter Tryz.func50, Tryz.ntmps50
  go_wp2_with fail
  refine (NumW.at_any A n c B a width l _ H.out ha hw1 hw8).mono ?_
  rintro e w1 ⟨rfl, rfl⟩
  go_wp2_with fail
  go_ret
  exact ⟨rfl, rfl⟩

set_option maxHeartbeats 400000 in
theorem no_any (A : Option Addr) (n c B : Nat) (l : List UInt8) (w : World) (h : Bytes w B A n c l) : Calls Tryz.prog 28 #[.slice A n c] w fun e w' => e = .returned (.int .i64 (NumP.val l 12 2)) ∧ w = w' := by
  have H := Lib.hid h
  clear h
  go_enter Tryz.func28, Tryz.ntmps28
  go_wp2_with fail
  refine (num_any A n c B 12 2 l _ H.out (by omega) (by omega) (by omega)).mono ?_
  rintro e w1 ⟨rfl, rfl⟩
  go_wp2_with fail
  go_ret
  exact ⟨rfl, rfl⟩

set_option maxRecDepth 100000 in
set_option maxHeartbeats 1000000 in
theorem new_any (m : Int) (w : World) : Calls Tryz.prog 38 #[.int .i64 m] w (GivesBytes w (SlotP.over (SlotP.zeros 512) 12 (BeP.parts 2 m))) := by
  go_enter Tryz.func38, Tryz.ntmps38
  go_wp2_with fail
  refine (zeros_any 512 (by omega) _).mono ?_
  rintro e w1 ⟨A1, n1, c1, rfl, hy1, hb1⟩
  have hn1 : n1 = 512 := by rw [← hy1.len]; simp [SlotP.zeros]
  subst hn1
  have HY1 := Lib.hid hy1
  have HB1 := Lib.hid hb1
  clear hy1 hb1
  go_wp2_with fail
  refine (RefBytes.bytes_any 2 m _ (by omega)).mono ?_
  rintro e w2 ⟨A2, n2, c2, rfl, hy2, hb2⟩
  have hn2 : n2 = 2 := by rw [← hy2.len, BeP.parts_length]
  subst hn2
  have HY2 := Lib.hid hy2
  have HY1' := Lib.hid (HY1.out.next hb2)
  have HB2 := Lib.hid (bstep HB1.out hb2)
  clear hy2 hb2
  go_wp2_with fail
  refine (put_any A1 512 c1 _ _ 12 A2 2 c2 _ _ _ HY1'.out (Nat.le_refl _) HY2.out (Nat.le_refl _) (by omega) (by omega)).mono ?_
  rintro e w3 ⟨A3, n3, c3, rfl, hy3, hb3⟩
  have HY3 := Lib.hid hy3
  have HB3 := Lib.hid (bstep HB2.out hb3)
  clear hy3 hb3
  go_wp2_with fail
  go_ret
  exact ⟨A3, n3, c3, rfl, HY3.out, HB3.out⟩

set_option maxRecDepth 100000 in
set_option maxHeartbeats 1000000 in
theorem withSlot_any (A : Option Addr) (c B : Nat) (l : List UInt8) (i : Int) (A2 : Option Addr) (n2 c2 B2 : Nat) (x : Item) (w : World) (h : Bytes w B A 512 c l) (hB : B ≤ w.heap.size) (h2 : Bytes w B2 A2 n2 c2 x.cell.data) (hB2 : B2 ≤ w.heap.size) (hk : x.key.size ≤ maxLen) :
    Calls Tryz.prog 13 #[.slice A 512 c, .int .i64 i, SlotW.itemV A2 n2 c2 x] w (GivesBytes w (PageP.withSlot l i x)) := by
  have hcm := h.2.2.1
  have hnc := h.2.1
  unfold maxLen at hcm
  have H := Lib.hid h
  have H2 := Lib.hid h2
  have HK := Lib.hid hk
  clear h h2 hk
  by_cases hi : i < 0 ∨ 7 ≤ i
  · have HG : Hid (PageP.withSlot l i x = l) := Lib.hid (by unfold PageP.withSlot; rw [if_pos hi])
    rw [HG.out]
    obtain ⟨s, k, kind, data, lo, hi', val⟩ := x
    rcases hi with hi | hi
    · go_enter Tryz.func13, Tryz.ntmps13
      go_wp2
      go_ret
      exact ⟨A, 512, c, rfl, (H.out.alloc hB _).more (by simp; omega), balloc (bsame w) _⟩
    · have hi1 : ¬ i < 0 := by omega
      have hi6 : 6 < i := by omega
      go_enter Tryz.func13, Tryz.ntmps13
      go_wp2
      go_ret
      exact ⟨A, 512, c, rfl, (H.out.alloc hB _).more (by simp; omega), balloc (bsame w) _⟩
  · obtain ⟨j, rfl⟩ : ∃ j : Nat, i = (j : Int) := ⟨i.toNat, by omega⟩
    have HG : Hid (PageP.withSlot l (j : Int) x = SlotP.over l (32 + j * 64) (SlotP.bytes x)) := Lib.hid (by unfold PageP.withSlot; rw [if_neg hi, show (j : Int).toNat = j by omega])
    rw [HG.out]
    have hj : j < 7 := by omega
    clear hi
    obtain ⟨s, k, kind, data, lo, hi', val⟩ := x
    dsimp only at *
    go_enter Tryz.func13, Tryz.ntmps13
    go_wp2_with fail
    generalize hW0 : (w).alloc (.cells #[.int .i64 s, .string k, .int .i64 kind, .slice A2 n2 c2, .int .i64 lo, .int .i64 hi', .int .i64 val] 27) = W0
    have HS0_0 : Hid (Str W0 (w.heap.size) #[.int .i64 s, .string k, .int .i64 kind, .slice A2 n2 c2, .int .i64 lo, .int .i64 hi', .int .i64 val]) := Lib.hid (by rw [← hW0]; have := Str.new (w) #[.int .i64 s, .string k, .int .i64 kind, .slice A2 n2 c2, .int .i64 lo, .int .i64 hi', .int .i64 val] 27; simpa using this)
    have HB_0 : Hid (Below w.heap.size w W0) := Lib.hid (by rw [← hW0]; exact balloc (bsame w) _)
    have hw_0 := HB_0.out.size
    clear hW0
    obtain ⟨f0_0_0, f0_0_1, f0_0_2, f0_0_3, f0_0_4, f0_0_5, f0_0_6⟩ := str7 HS0_0.out
    have hl0_0 := HS0_0.out.lt
    refine (RefSlotBytes.bytes_any A2 n2 c2 B2 ⟨s, k, kind, data, lo, hi', val⟩ _ (H2.out.below (HB_0.out.mono hB2)) (by omega) HK.out).mono ?_
    rintro e W1 ⟨A3, n3, c3, rfl, hy3, hb1⟩
    have hn3 : n3 = 64 := by rw [← hy3.len]; exact SlotP.bytes_length _
    subst hn3
    have HY1 := Lib.hid hy3
    clear hy3
    have HS0_1 := Lib.hid (HS0_0.out.next hb1)
    have HB_1 := Lib.hid (bstep HB_0.out hb1)
    have hw_1 := HB_1.out.size
    have hws_1 := (hb1).size
    clear f0_0_0 f0_0_1 f0_0_2 f0_0_3 f0_0_4 f0_0_5 f0_0_6 HS0_0
    clear hb1
    obtain ⟨f0_1_0, f0_1_1, f0_1_2, f0_1_3, f0_1_4, f0_1_5, f0_1_6⟩ := str7 HS0_1.out
    have hl0_1 := HS0_1.out.lt
    go_wp2_with fail
    rw [show (32 + 64 * (j : Int)) = ((32 + j * 64 : Nat) : Int) by omega]
    refine (put_any A 512 c B l (32 + j * 64) A3 64 c3 _ _ _ (H.out.below (HB_1.out.mono hB)) (by omega) HY1.out (Nat.le_refl _) (by omega) (by omega)).mono ?_
    rintro e W2 ⟨A4, n4, c4, rfl, hy4, hb2⟩
    have HY2 := Lib.hid hy4
    clear hy4
    have HS0_2 := Lib.hid (HS0_1.out.next hb2)
    have HB_2 := Lib.hid (bstep HB_1.out hb2)
    have hw_2 := HB_2.out.size
    have hws_2 := (hb2).size
    clear f0_1_0 f0_1_1 f0_1_2 f0_1_3 f0_1_4 f0_1_5 f0_1_6 HS0_1
    clear hb2
    obtain ⟨f0_2_0, f0_2_1, f0_2_2, f0_2_3, f0_2_4, f0_2_5, f0_2_6⟩ := str7 HS0_2.out
    have hl0_2 := HS0_2.out.lt
    go_wp2_with fail
    go_ret
    exact ⟨A4, n4, c4, rfl, HY2.out, HB_2.out⟩
end Go.Proofs.YtpklclnehlgcpaaGreat.RefPage
end
section
namespace Go.Proofs.YtpklclnehlgcpaaGreat
open Go.RowKit
set_option linter.unusedVariables false
set_option linter.unusedSimpArgs false
namespace DiffP
theorem apply_len {p : List UInt8} (hp : p.length = 512) : ∀ l, (apply p l).1.length = 512
  | [] => hp
  | r :: l => by
    cases h : PatchP.within r with
    | true => rw [apply_go h]; exact apply_len (put_len hp (within_of h)) l
    | false => rw [apply_no h]; exact SlotPut.zeros_len 512
termination_by l => l.length
end DiffP
namespace PlanP
/-- what makes the slot x -/
def put (p : List UInt8) (i : Int) (x : Item) : PatchX := ⟨NumP.val p 12 2, false, DiffP.diff p (PageP.withSlot p i x)⟩
/-- a page anew, with the old one's stamp -/
def fresh (p : List UInt8) (no : Int) : List UInt8 := SlotP.over (SlotP.over (SlotP.zeros 512) 12 (BeP.parts 2 no)) 4 (BeP.parts 8 (NumP.val p 4 8))
noncomputable def apply (p : List UInt8) (y : PatchX) : List UInt8 × Int := DiffP.apply (if y.fresh then fresh p y.page else p) y.runs
theorem fresh_len (p : List UInt8) (no : Int) : (fresh p no).length = 512 := by
  unfold fresh
  rw [SlotP.over_length _ _ _ (by rw [BeP.parts_length, SlotP.over_length _ _ _ (by rw [BeP.parts_length, SlotPut.zeros_len]; omega), SlotPut.zeros_len]; omega), SlotP.over_length _ _ _ (by rw [BeP.parts_length, SlotPut.zeros_len]; omega), SlotPut.zeros_len]
end PlanP
namespace Reg
/-- runs in a value, a row of the call's own -/
def runsM (base : Nat) (V : Option Addr → Nat → Nat → Value) (l : List RunX) : SP ext := ⟨fun v w => ∃ A n c, v = V A n c ∧ OwnE RunE 79 w base A n c l, fun _ _ _ hb ⟨A, n, c, e, h⟩ => ⟨A, n, c, e, h.next hb⟩⟩
/-- bytes in a value -/
def bytes2 (l : List UInt8) : SP ext := ⟨fun v w => ∃ A n c, v = .slice A n c ∧ Bytes w w.heap.size A n c l, fun _ w w' hb ⟨A, n, c, e, h⟩ => ⟨A, n, c, e, (h.below hb).more (Below.size hb)⟩⟩
end Reg
/-- the call hands a patch over, its runs its own -/
def GivesPatch (w : World) (x : PatchX) (e : Ending) (w' : World) : Prop := ∃ A n c, e = .returned (.agg (patchV x A n c).toArray) ∧ OwnE RunE 79 w' w.heap.size A n c x.runs ∧ Below w.heap.size w w'
namespace PlanW
attribute [local go_sem ↓] alPage_fold ldPage_fold stPage_fold bdPage_fold slPage_fold
set_option maxRecDepth 100000 in
set_option maxHeartbeats 1000000 in
theorem refPut_any (p : List UInt8) (hp : p.length = 512) (i : Int) (A : Option Addr) (n cap B : Nat) (x : Item) (w : World) (Ap : Option Addr) (cp Bp : Nat) (hy : Bytes w Bp Ap 512 cp p) (hBp : Bp ≤ w.heap.size) (h : Bytes w B A n cap x.cell.data) (hB : B ≤ w.heap.size) (hk : x.key.size ≤ maxLen) :
    Calls Tryz.prog 10 #[.slice Ap 512 cp, .int .i64 i, SlotW.itemV A n cap x] w (GivesPatch w (PlanP.put p i x)) := by
  have HL := Lib.hid hp
  have H := Lib.hid h
  have HK := Lib.hid hk
  have HY := Lib.hid hy
  clear hy
  have HWL := Lib.hid (PageP.withSlot_length p hp i x)
  clear hp h hk
  obtain ⟨s, k, kind, data, lo, hi, val⟩ := x
  dsimp only [SlotW.itemV] at *
  go_enter Tryz.func10, Tryz.ntmps10
  go_wp2_with fail
  generalize hW0 : ((w).alloc (.cells #[.int .i64 s, .string k, .int .i64 kind, .slice A n cap, .int .i64 lo, .int .i64 hi, .int .i64 val] 27)).alloc (.cells #[.int .i64 0, .bool false, .slice none 0 0] 33) = W0
  have HS0_0 : Hid (Str W0 (w.heap.size) #[.int .i64 s, .string k, .int .i64 kind, .slice A n cap, .int .i64 lo, .int .i64 hi, .int .i64 val]) := Lib.hid (by rw [← hW0]; have := (Str.new (w) #[.int .i64 s, .string k, .int .i64 kind, .slice A n cap, .int .i64 lo, .int .i64 hi, .int .i64 val] 27).alloc (.cells #[.int .i64 0, .bool false, .slice none 0 0] 33); simpa using this)
  have HS1_0 : Hid (Str W0 (w.heap.size + 1) #[.int .i64 0, .bool false, .slice none 0 0]) := Lib.hid (by rw [← hW0]; have := Str.new ((w).alloc (.cells #[.int .i64 s, .string k, .int .i64 kind, .slice A n cap, .int .i64 lo, .int .i64 hi, .int .i64 val] 27)) #[.int .i64 0, .bool false, .slice none 0 0] 33; simpa using this)
  have HB_0 : Hid (Below w.heap.size w W0) := Lib.hid (by rw [← hW0]; exact balloc (balloc (bsame w) _) _)
  have hw_0 := HB_0.out.size
  clear hW0
  obtain ⟨f0_0_0, f0_0_1, f0_0_2, f0_0_3, f0_0_4, f0_0_5, f0_0_6⟩ := str7 HS0_0.out
  have hl0_0 := HS0_0.out.lt
  obtain ⟨f1_0_0, f1_0_1, f1_0_2⟩ := str3 HS1_0.out
  have hl1_0 := HS1_0.out.lt
  have hf1_0 := fun j => HS1_0.out.frozen j
  refine Reg.wp_region_tail (R := ext) (W := W0) [Reg.eqv (.slice Ap 512 cp), Reg.eqv (.int .i64 (NumP.val p 12 2)), Reg.eqv (.slice Ap 512 cp), Reg.eqv (.slice Ap 512 cp), Reg.eqv (.int .i64 i), Reg.eqv (.agg #[.int .i64 s, .string k, .int .i64 kind, .slice A n cap, .int .i64 lo, .int .i64 hi, .int .i64 val]), Reg.bytes2 (PageP.withSlot p i ⟨s, k, ⟨kind, data, lo, hi, val⟩⟩), Reg.runsM W0.heap.size (fun A n c => .slice A n c) (DiffP.diff p (PageP.withSlot p i ⟨s, k, ⟨kind, data, lo, hi, val⟩⟩)), Reg.runsM W0.heap.size (fun A n c => .agg #[.int .i64 (NumP.val p 12 2), .bool false, .slice A n c]) (DiffP.diff p (PageP.withSlot p i ⟨s, k, ⟨kind, data, lo, hi, val⟩⟩))] 16 9 _ [[(0, none)], [(7, some 0)], [(0, none)], [(0, none)], [(1, none)], [(5, none)], [(10, some 3), (11, some 4), (12, some 5)], [(9, some 2), (13, some 6)], [(8, some 1), (14, some 7)]] rfl (by kernel_rfl) (by kernel_rfl) (by rfl) (by rfl) rfl (by kernel_rfl) ?_ [some 7, some 8, some 9, some 10, some 11, some 12, some 13, some 14, some 15] (by kernel_rfl) ?_
  · refine ⟨?_, ?_, ?_, ?_, ?_, ?_, ?_, ?_, ?_, trivial⟩
    · intro ax wx hx hs
      obtain ⟨e0, -⟩ := hs
      have g0 := Reg.ev (v := .slice Ap 512 cp) e0
      exact Reg.obl_free rfl (Reg.wp_eqv (Option.some_ne_none _) (by go_simp) rfl)
    · intro ax wx hx hs
      obtain ⟨e7, -⟩ := hs
      have g7 := Reg.ev (v := .slice Ap 512 cp) e7
      refine Reg.obl_free rfl ?_
      have hx' : Below W0.heap.size W0 wx := hx
      have hwx := hx'.size
      go_simp
      refine (RefPage.no_any Ap 512 cp Bp p wx (HY.out.below ((HB_0.out.mono hBp).trans (hx'.mono (by omega))))).mono ?_
      rintro e wy ⟨rfl, rfl⟩
      exact Reg.done (Option.some_ne_none _) rfl (bsame wx)
    · intro ax wx hx hs
      obtain ⟨e0, -⟩ := hs
      have g0 := Reg.ev (v := .slice Ap 512 cp) e0
      exact Reg.obl_free rfl (Reg.wp_eqv (Option.some_ne_none _) (by go_simp) rfl)
    · intro ax wx hx hs
      obtain ⟨e0, -⟩ := hs
      have g0 := Reg.ev (v := .slice Ap 512 cp) e0
      exact Reg.obl_free rfl (Reg.wp_eqv (Option.some_ne_none _) (by go_simp) rfl)
    · intro ax wx hx hs
      obtain ⟨e1, -⟩ := hs
      have g1 := Reg.ev (v := .int .i64 i) e1
      exact Reg.obl_free rfl (Reg.wp_eqv (Option.some_ne_none _) (by go_simp) rfl)
    · intro ax wx hx hs
      obtain ⟨e5, -⟩ := hs
      have g5 := Reg.ev (v := .pointer (some ⟨w.heap.size, 0, none⟩)) e5
      have hx' : Below W0.heap.size W0 wx := hx
      have li := str7 (HS0_0.out.next hx')
      exact Reg.obl_free rfl (Reg.wp_eqv (Option.some_ne_none _) (by go_simp) rfl)
    · intro ax wx hx hs
      obtain ⟨e10, e11, e12, -⟩ := hs
      have g10 := Reg.ev (v := .slice Ap 512 cp) e10
      have g11 := Reg.ev (v := .int .i64 i) e11
      have g12 := Reg.ev (v := .agg #[.int .i64 s, .string k, .int .i64 kind, .slice A n cap, .int .i64 lo, .int .i64 hi, .int .i64 val]) e12
      refine Reg.obl_free rfl ?_
      have hx' : Below W0.heap.size W0 wx := hx
      have hwx := hx'.size
      go_simp
      refine (RefPage.withSlot_any Ap cp Bp p i A n cap B ⟨s, k, ⟨kind, data, lo, hi, val⟩⟩ wx (HY.out.below ((HB_0.out.mono hBp).trans (hx'.mono (by omega)))) (by omega) (H.out.below ((HB_0.out.mono hB).trans (hx'.mono (by omega)))) (by omega) HK.out).mono ?_
      rintro e wy ⟨A1, n1, c1, rfl, hy1, hby⟩
      exact Reg.done (Option.some_ne_none _) ⟨A1, n1, c1, rfl, hy1⟩ hby
    · intro ax wx hx hs
      obtain ⟨e9, e13, -⟩ := hs
      have g9 := Reg.ev (v := .slice Ap 512 cp) e9
      refine Reg.obl_free rfl ?_
      obtain ⟨A1, n1, c1, e13, hy1⟩ := e13
      have g13 := Reg.ev e13
      have hn1 : n1 = 512 := hy1.len.symm.trans HWL.out
      subst hn1
      have hx' : Below W0.heap.size W0 wx := hx
      have hwx := hx'.size
      go_simp
      refine (RefDiff.diff_any Ap A1 cp c1 Bp wx.heap.size p (PageP.withSlot p i ⟨s, k, ⟨kind, data, lo, hi, val⟩⟩) HL.out HWL.out wx (HY.out.below ((HB_0.out.mono hBp).trans (hx'.mono (by omega)))) (by omega) hy1 (Nat.le_refl _)).mono ?_
      rintro e wy ⟨A2, n2, c2, rfl, hO, hby⟩
      exact Reg.done (Option.some_ne_none _) ⟨A2, n2, c2, rfl, hO.less hwx⟩ hby
    · intro ax wx hx hs
      obtain ⟨e8, e14, -⟩ := hs
      have g8 := Reg.ev (v := .int .i64 (NumP.val p 12 2)) e8
      refine Reg.obl_free rfl ?_
      obtain ⟨A2, n2, c2, e14, hO⟩ := e14
      have g14 := Reg.ev e14
      exact Reg.wp_same (Option.some_ne_none _) (by go_simp) ⟨A2, n2, c2, rfl, hO⟩
  · intro W1 hwf
    simp only [Reg.Fin]
    rintro _ rfl _ rfl _ rfl _ rfl _ rfl _ rfl v13 h13 v14 h14 v15 h15
    obtain ⟨A2, n2, c2, rfl, hO⟩ := h15
    have hwf' : Below W0.heap.size W0 W1 := hwf
    have HO1 := Lib.hid hO
    have hR := HS1_0.out.next hwf'
    have HB1 := Lib.hid (bstep HB_0.out hwf')
    have lR := str3 hR
    have lf := fun j => hR.frozen j
    have lt := hR.lt
    have hg3 := grown_set (grown_set (grown_set (grown_refl W1 (w.heap.size + 1)) 0 (.int .i64 (NumP.val p 12 2))) 1 (.bool false)) 2 (.slice A2 n2 c2)
    have hS3 := ((hR.set 0 (.int .i64 (NumP.val p 12 2))).set 1 (.bool false)).set 2 (.slice A2 n2 c2)
    have HB3 := Lib.hid (below_grown HB1.out hg3 (by omega))
    have HO3 := Lib.hid (HO1.out.grownU runE_byt hR rfl hg3 (fun a e => by have := HO1.out.ge a e; have := HB_0.out.size; omega))
    clear hwf hwf' hO
    refine Reg.Goal.mk ?_
    go_simp
    go_wp2_with fail
    obtain ⟨WF, hWF⟩ : ∃ WF, ((W1.setCell ⟨w.heap.size + 1, 0, none⟩ (.int .i64 (NumP.val p 12 2))).setCell ⟨w.heap.size + 1, 1, none⟩ (.bool false)).setCell ⟨w.heap.size + 1, 2, none⟩ (.slice A2 n2 c2) = WF := ⟨_, rfl⟩
    rw [hWF] at hS3 HB3 HO3 ⊢
    have lF := str3 (by simpa using hS3)
    clear lR lf lt hg3 hS3
    exact bodyPost_ret (v := .agg #[.int .i64 (NumP.val p 12 2), .bool false, .slice A2 n2 c2]) (by simp [results, Tryz.results10, go_sem, *]) rfl ⟨A2, n2, c2, rfl, HO3.out.less HB_0.out.size, HB3.out⟩
set_option maxRecDepth 100000 in
set_option maxHeartbeats 1000000 in
theorem Apply_false (p : List UInt8) (hp : p.length = 512) (pg : Int) (l : List RunX) (A : Option Addr) (n c B : Nat) (w : World) (hE : Elems RunE w B A n c l) (hB : B ≤ w.heap.size) :
    Calls Tryz.prog 8 #[.agg (rowV p), .agg #[.int .i64 pg, .bool false, .slice A n c]] w fun e w' => e = .returned (.tuple #[.agg (rowV (PlanP.apply p ⟨pg, false, l⟩).1), .int .i64 (PlanP.apply p ⟨pg, false, l⟩).2]) ∧ Below w.heap.size w w' := by
  have hal := fun W => run_al (P := Tryz.prog) arrPage W
  have HL := Lib.hid hp
  have HE := Lib.hid hE
  have HZ := Lib.hid (SlotPut.zeros_len 512)
  clear hp hE
  go_enter Tryz.func8, Tryz.ntmps8
  go_wp2_with fail
  generalize hW0 : (((w).alloc (.cells (rowV p) 30)).alloc (.cells #[.int .i64 pg, .bool false, .slice A n c] 33)).alloc (.cells (rowV (SlotP.zeros 512)) 30) = W0
  have HS0_0 : Hid (Str W0 (w.heap.size) (rowV p)) := Lib.hid (by rw [← hW0]; have := ((Str.new (w) (rowV p) 30).alloc (.cells #[.int .i64 pg, .bool false, .slice A n c] 33)).alloc (.cells (rowV (SlotP.zeros 512)) 30); simpa using this)
  have HS1_0 : Hid (Str W0 (w.heap.size + 1) #[.int .i64 pg, .bool false, .slice A n c]) := Lib.hid (by rw [← hW0]; have := (Str.new ((w).alloc (.cells (rowV p) 30)) #[.int .i64 pg, .bool false, .slice A n c] 33).alloc (.cells (rowV (SlotP.zeros 512)) 30); simpa using this)
  have HS2_0 : Hid (Str W0 (w.heap.size + 1 + 1) (rowV (SlotP.zeros 512))) := Lib.hid (by rw [← hW0]; have := Str.new (((w).alloc (.cells (rowV p) 30)).alloc (.cells #[.int .i64 pg, .bool false, .slice A n c] 33)) (rowV (SlotP.zeros 512)) 30; simpa using this)
  have HB_0 : Hid (Below w.heap.size w W0) := Lib.hid (by rw [← hW0]; exact balloc (balloc (balloc (bsame w) _) _) _)
  have hw_0 := HB_0.out.size
  clear hW0
  have hl0_0 := HS0_0.out.lt
  obtain ⟨f1_0_0, f1_0_1, f1_0_2⟩ := str3 HS1_0.out
  have hl1_0 := HS1_0.out.lt
  have hl2_0 := HS2_0.out.lt
  clear hal
  have HP := HS0_0
  have HX := HS1_0
  have HR := HS2_0
  have HBB := HB_0
  have HFL := HL
  obtain ⟨W2, hW2⟩ : ∃ W2, W0 = W2 := ⟨_, rfl⟩
  subst hW2
  have hld := run_ld (P := Tryz.prog) arrPage HP.out HFL.out
  have lX := str3 HX.out
  have hlX := HX.out.lt
  have hwB := HBB.out.size
  try rw [hld]
  go_wp2_with fail
  refine (PatchW.Apply_any p HFL.out A n c B l W0 (HE.out.below (HBB.out.mono hB)) (by omega)).mono ?_
  rintro e W3 ⟨rfl, hb3⟩
  have hAL : (DiffP.apply p l).1.length = 512 := DiffP.apply_len HFL.out l
  have HAL := Lib.hid hAL
  have hst3 := run_st (P := Tryz.prog) arrPage (HR.out.next hb3) (by rw [rowV_size]; exact HZ.out) HAL.out
  have HSF := Lib.hid ((HR.out.next hb3).setRow (cs' := rowV (DiffP.apply p l).1))
  have HBF := Lib.hid (below_setRow (bstep HBB.out hb3) (by omega : w.heap.size ≤ w.heap.size + 1 + 1) (rowV (DiffP.apply p l).1))
  clear hb3 hAL hld
  go_wp2_with fail
  exact bodyPost_ret (v := .tuple #[.agg (rowV (DiffP.apply p l).1), .int .i64 (DiffP.apply p l).2]) (PatchW.results_page Tryz.results8 _ HSF.out HAL.out rfl) rfl ⟨rfl, HBF.out⟩
set_option maxRecDepth 100000 in
set_option maxHeartbeats 1000000 in
theorem Apply_true (p : List UInt8) (hp : p.length = 512) (pg : Int) (l : List RunX) (A : Option Addr) (n c B : Nat) (w : World) (hE : Elems RunE w B A n c l) (hB : B ≤ w.heap.size) :
    Calls Tryz.prog 8 #[.agg (rowV p), .agg #[.int .i64 pg, .bool true, .slice A n c]] w fun e w' => e = .returned (.tuple #[.agg (rowV (PlanP.apply p ⟨pg, true, l⟩).1), .int .i64 (PlanP.apply p ⟨pg, true, l⟩).2]) ∧ Below w.heap.size w w' := by
  have hal := fun W => run_al (P := Tryz.prog) arrPage W
  have HL := Lib.hid hp
  have HE := Lib.hid hE
  have HZ := Lib.hid (SlotPut.zeros_len 512)
  clear hp hE
  go_enter Tryz.func8, Tryz.ntmps8
  go_wp2_with fail
  generalize hW0 : (((w).alloc (.cells (rowV p) 30)).alloc (.cells #[.int .i64 pg, .bool true, .slice A n c] 33)).alloc (.cells (rowV (SlotP.zeros 512)) 30) = W0
  have HS0_0 : Hid (Str W0 (w.heap.size) (rowV p)) := Lib.hid (by rw [← hW0]; have := ((Str.new (w) (rowV p) 30).alloc (.cells #[.int .i64 pg, .bool true, .slice A n c] 33)).alloc (.cells (rowV (SlotP.zeros 512)) 30); simpa using this)
  have HS1_0 : Hid (Str W0 (w.heap.size + 1) #[.int .i64 pg, .bool true, .slice A n c]) := Lib.hid (by rw [← hW0]; have := (Str.new ((w).alloc (.cells (rowV p) 30)) #[.int .i64 pg, .bool true, .slice A n c] 33).alloc (.cells (rowV (SlotP.zeros 512)) 30); simpa using this)
  have HS2_0 : Hid (Str W0 (w.heap.size + 1 + 1) (rowV (SlotP.zeros 512))) := Lib.hid (by rw [← hW0]; have := Str.new (((w).alloc (.cells (rowV p) 30)).alloc (.cells #[.int .i64 pg, .bool true, .slice A n c] 33)) (rowV (SlotP.zeros 512)) 30; simpa using this)
  have HB_0 : Hid (Below w.heap.size w W0) := Lib.hid (by rw [← hW0]; exact balloc (balloc (balloc (bsame w) _) _) _)
  have hw_0 := HB_0.out.size
  clear hW0
  have hl0_0 := HS0_0.out.lt
  obtain ⟨f1_0_0, f1_0_1, f1_0_2⟩ := str3 HS1_0.out
  have hl1_0 := HS1_0.out.lt
  have hl2_0 := HS2_0.out.lt
  clear hal
  go_wp2_with fail
  have HNL : Hid ((SlotP.over (SlotP.zeros 512) 12 (BeP.parts 2 pg)).length = 512) := Lib.hid (by rw [SlotP.over_length _ _ _ (by rw [BeP.parts_length, SlotPut.zeros_len]; omega), SlotPut.zeros_len])
  have HFL := Lib.hid (PlanP.fresh_len p pg)
  refine Reg.wp_region_tail (R := ext) (W := W0) [Reg.eqv (.pointer (some ⟨w.heap.size + 1, 0, none⟩)), Reg.eqv (.int .i64 pg), Reg.eqv (.agg (rowV (SlotP.over (SlotP.zeros 512) 12 (BeP.parts 2 pg)))), Reg.eqv (.agg (rowV p)), Reg.eqv (.int .i64 (NumP.val p 4 8)), Reg.eqv (.agg (rowV (PlanP.fresh p pg)))] 20 6 _ [[(3, none)], [(8, some 0)], [(9, some 1)], [(2, none)], [(11, some 3)], [(10, some 2), (12, some 4)]] rfl (by kernel_rfl) (by kernel_rfl) (by rfl) (by rfl) rfl (by kernel_rfl) ?_ [some 8, some 9, some 10, some 11, some 12, some 13] (by kernel_rfl) ?_
  · refine ⟨?_, ?_, ?_, ?_, ?_, ?_, trivial⟩
    · intro ax wx hx hs
      obtain ⟨e3, -⟩ := hs
      have g3 := Reg.ev (v := .pointer (some ⟨w.heap.size + 1, 0, none⟩)) e3
      exact Reg.obl_free rfl (Reg.wp_eqv (Option.some_ne_none _) (by go_simp) rfl)
    · intro ax wx hx hs
      obtain ⟨e8, -⟩ := hs
      have g8 := Reg.ev (v := .pointer (some ⟨w.heap.size + 1, 0, none⟩)) e8
      have hx' : Below W0.heap.size W0 wx := hx
      have li := str3 (HS1_0.out.next hx')
      have hld := run_ld (P := Tryz.prog) arrPage (HS0_0.out.next hx') HL.out
      exact Reg.obl_free rfl (Reg.wp_eqv (Option.some_ne_none _) (by go_simp) rfl)
    · intro ax wx hx hs
      obtain ⟨e9, -⟩ := hs
      have g9 := Reg.ev (v := .int .i64 pg) e9
      refine Reg.obl_free rfl ?_
      have hx' : Below W0.heap.size W0 wx := hx
      go_simp
      refine (PageW.new_any pg wx).mono ?_
      rintro e wy ⟨rfl, hby⟩
      exact Reg.done (Option.some_ne_none _) rfl hby
    · intro ax wx hx hs
      obtain ⟨e2, -⟩ := hs
      have g2 := Reg.ev (v := .pointer (some ⟨w.heap.size, 0, none⟩)) e2
      have hx' : Below W0.heap.size W0 wx := hx
      have li := str3 (HS1_0.out.next hx')
      have hld := run_ld (P := Tryz.prog) arrPage (HS0_0.out.next hx') HL.out
      exact Reg.obl_free rfl (Reg.wp_eqv (Option.some_ne_none _) (by go_simp) rfl)
    · intro ax wx hx hs
      obtain ⟨e11, -⟩ := hs
      have g11 := Reg.ev (v := .agg (rowV p)) e11
      refine Reg.obl_free rfl ?_
      have hx' : Below W0.heap.size W0 wx := hx
      go_simp
      refine (PageW.lsn_any p HL.out wx).mono ?_
      rintro e wy ⟨rfl, hby⟩
      exact Reg.done (Option.some_ne_none _) rfl hby
    · intro ax wx hx hs
      obtain ⟨e10, e12, -⟩ := hs
      have g10 := Reg.ev (v := .agg (rowV (SlotP.over (SlotP.zeros 512) 12 (BeP.parts 2 pg)))) e10
      have g12 := Reg.ev (v := .int .i64 (NumP.val p 4 8)) e12
      refine Reg.obl_free rfl ?_
      have hx' : Below W0.heap.size W0 wx := hx
      go_simp
      refine (PageW.withLSN_any (SlotP.over (SlotP.zeros 512) 12 (BeP.parts 2 pg)) HNL.out _ wx).mono ?_
      rintro e wy ⟨rfl, hby⟩
      exact Reg.done (Option.some_ne_none _) rfl hby
  · intro W1 hwf
    simp only [Reg.Fin]
    rintro _ rfl _ rfl _ rfl _ rfl _ rfl _ rfl
    have hwf' : Below W0.heap.size W0 W1 := hwf
    have hst1 := run_st (P := Tryz.prog) arrPage (HS0_0.out.next hwf') (by rw [rowV_size]; exact HL.out) HFL.out
    have HP := Lib.hid ((HS0_0.out.next hwf').setRow (cs' := rowV (PlanP.fresh p pg)))
    have HX := Lib.hid ((HS1_0.out.next hwf').setRow_other (b' := w.heap.size) (cs' := rowV (PlanP.fresh p pg)) (by omega))
    have HR := Lib.hid ((HS2_0.out.next hwf').setRow_other (b' := w.heap.size) (cs' := rowV (PlanP.fresh p pg)) (by omega))
    have HBB := Lib.hid (below_setRow (bstep HB_0.out hwf') (Nat.le_refl _) (rowV (PlanP.fresh p pg)))
    obtain ⟨W2, hW2⟩ : ∃ W2, W1.setRow w.heap.size (rowV (PlanP.fresh p pg)) = W2 := ⟨_, rfl⟩
    rw [hW2] at hst1 HP HX HR HBB
    clear hW2 hwf hwf' HS0_0 HS1_0 HS2_0 f1_0_0 f1_0_1 f1_0_2
    refine Reg.Goal.mk ?_
    go_simp
    have hld := run_ld (P := Tryz.prog) arrPage HP.out HFL.out
    have lX := str3 HX.out
    have hlX := HX.out.lt
    have hwB := HBB.out.size
    try rw [hld]
    go_wp2_with fail
    refine (PatchW.Apply_any (PlanP.fresh p pg) HFL.out A n c B l W2 (HE.out.below (HBB.out.mono hB)) (by omega)).mono ?_
    rintro e W3 ⟨rfl, hb3⟩
    have hAL : (DiffP.apply (PlanP.fresh p pg) l).1.length = 512 := DiffP.apply_len HFL.out l
    have HAL := Lib.hid hAL
    have hst3 := run_st (P := Tryz.prog) arrPage (HR.out.next hb3) (by rw [rowV_size]; exact HZ.out) HAL.out
    have HSF := Lib.hid ((HR.out.next hb3).setRow (cs' := rowV (DiffP.apply (PlanP.fresh p pg) l).1))
    have HBF := Lib.hid (below_setRow (bstep HBB.out hb3) (by omega : w.heap.size ≤ w.heap.size + 1 + 1) (rowV (DiffP.apply (PlanP.fresh p pg) l).1))
    clear hb3 hAL hld
    go_wp2_with fail
    exact bodyPost_ret (v := .tuple #[.agg (rowV (DiffP.apply (PlanP.fresh p pg) l).1), .int .i64 (DiffP.apply (PlanP.fresh p pg) l).2]) (PatchW.results_page Tryz.results8 _ HSF.out HAL.out rfl) rfl ⟨rfl, HBF.out⟩
theorem Apply_any (p : List UInt8) (hp : p.length = 512) (y : PatchX) (A : Option Addr) (n c B : Nat) (w : World) (hE : Elems RunE w B A n c y.runs) (hB : B ≤ w.heap.size) :
    Calls Tryz.prog 8 #[.agg (rowV p), .agg (patchV y A n c).toArray] w fun e w' => e = .returned (.tuple #[.agg (rowV (PlanP.apply p y).1), .int .i64 (PlanP.apply p y).2]) ∧ Below w.heap.size w w' := by
  obtain ⟨pg, fr, l⟩ := y
  cases fr with
  | true => exact Apply_true p hp pg l A n c B w hE hB
  | false => exact Apply_false p hp pg l A n c B w hE hB
end PlanW
end Go.Proofs.YtpklclnehlgcpaaGreat
end
