/-
  The walk of SlotSames: the Go text returns true for every two items, and writes nothing that was there.
-/
import Derived.Test.YtjengjbkdflapaaOpen3
import Derived.Test.YtjengjbkdflapaaLive06
namespace Go.Proofs.Ytjengjbkdflapaa.slotSames
open Go.RowKit

theorem two_beq (b : Bool) : (b == b) = true := by cases b <;> rfl

set_option maxRecDepth 100000 in
set_option maxHeartbeats 2000000 in
theorem walk (v0 v1 : Value) (a0 a1 : Item) (w : World) (g0 : RItem w w.heap.size v0 a0) (g1 : RItem w w.heap.size v1 a1) :
    Calls Try.prog 4 #[v0, v1] w fun e w' => e = .returned (.bool true) ∧ Below w.heap.size w w' := by
  obtain ⟨A, n, cap, rfl, hA, hka, ia⟩ := g0
  obtain ⟨A', n', cap', rfl, hA', hkb, ib⟩ := g1
  have HA := Lib.hid hA
  have HA' := Lib.hid hA'
  have HIA := Lib.hid ia
  have HIB := Lib.hid ib
  have HKA := Lib.hid hka
  have HKB := Lib.hid hkb
  have HE := Lib.hid (fun hx hy => SlotP.same_bytes a0 a1 hx hy ia ib)
  clear hA hA' ia ib hka hkb
  obtain ⟨s, k, kind, data, lo, hi, val⟩ := a0
  obtain ⟨s', k', kind', data', lo', hi', val'⟩ := a1
  dsimp only at *
  cases hbx : (decide ((300 : Int) < (k.size : Int)) || decide ((300 : Int) < (n : Int)))
  rotate_left
  · have HBX := Lib.hid hbx
    clear hbx
    go_enter Try.func4, Try.ntmps4
    go_wp2_with fail
    generalize hW0 : ((w).alloc (.cells #[.int .i64 s, .string k, .int .i64 kind, .slice A n cap, .int .i64 lo, .int .i64 hi, .int .i64 val] 38)).alloc (.cells #[.int .i64 s', .string k', .int .i64 kind', .slice A' n' cap', .int .i64 lo', .int .i64 hi', .int .i64 val'] 38) = W0
    have HS0_0 : Hid (Str W0 (w.heap.size) #[.int .i64 s, .string k, .int .i64 kind, .slice A n cap, .int .i64 lo, .int .i64 hi, .int .i64 val]) := Lib.hid (by rw [← hW0]; have := (Str.new (w) #[.int .i64 s, .string k, .int .i64 kind, .slice A n cap, .int .i64 lo, .int .i64 hi, .int .i64 val] 38).alloc (.cells #[.int .i64 s', .string k', .int .i64 kind', .slice A' n' cap', .int .i64 lo', .int .i64 hi', .int .i64 val'] 38); simpa using this)
    have HS1_0 : Hid (Str W0 (w.heap.size + 1) #[.int .i64 s', .string k', .int .i64 kind', .slice A' n' cap', .int .i64 lo', .int .i64 hi', .int .i64 val']) := Lib.hid (by rw [← hW0]; have := Str.new ((w).alloc (.cells #[.int .i64 s, .string k, .int .i64 kind, .slice A n cap, .int .i64 lo, .int .i64 hi, .int .i64 val] 38)) #[.int .i64 s', .string k', .int .i64 kind', .slice A' n' cap', .int .i64 lo', .int .i64 hi', .int .i64 val'] 38; simpa using this)
    have HB_0 : Hid (Below w.heap.size w W0) := Lib.hid (by rw [← hW0]; exact balloc (balloc (bsame w) _) _)
    clear hW0
    obtain ⟨f0_0_0, f0_0_1, f0_0_2, f0_0_3, f0_0_4, f0_0_5, f0_0_6⟩ := str7 HS0_0.out
    have hl0_0 := HS0_0.out.lt
    obtain ⟨f1_0_0, f1_0_1, f1_0_2, f1_0_3, f1_0_4, f1_0_5, f1_0_6⟩ := str7 HS1_0.out
    have hl1_0 := HS1_0.out.lt
    refine (SlotW.big_any A n cap ⟨s, k, kind, data, lo, hi, val⟩ _ HKA.out).mono ?_
    rintro e W1 ⟨rfl, hb1⟩
    rw [HBX.out]
    have HS0_1 := Lib.hid (HS0_0.out.next hb1)
    have HS1_1 := Lib.hid (HS1_0.out.next hb1)
    have HB_1 := Lib.hid (bstep HB_0.out hb1)
    clear f0_0_0 f0_0_1 f0_0_2 f0_0_3 f0_0_4 f0_0_5 f0_0_6 hl0_0 HS0_0 f1_0_0 f1_0_1 f1_0_2 f1_0_3 f1_0_4 f1_0_5 f1_0_6 hl1_0 HS1_0
    clear hb1
    obtain ⟨f0_1_0, f0_1_1, f0_1_2, f0_1_3, f0_1_4, f0_1_5, f0_1_6⟩ := str7 HS0_1.out
    have hl0_1 := HS0_1.out.lt
    obtain ⟨f1_1_0, f1_1_1, f1_1_2, f1_1_3, f1_1_4, f1_1_5, f1_1_6⟩ := str7 HS1_1.out
    have hl1_1 := HS1_1.out.lt
    go_wp2_with (go_at_call 25; refine (Live06.live_any _).mono ?_; rintro e Wl ⟨rfl, hbl⟩)
    go_ret
    exact ⟨rfl, bstep HB_1.out hbl⟩
  cases hby : (decide ((300 : Int) < (k'.size : Int)) || decide ((300 : Int) < (n' : Int)))
  rotate_left
  · have HBX := Lib.hid hbx
    have HBY := Lib.hid hby
    clear hbx hby
    go_enter Try.func4, Try.ntmps4
    go_wp2_with fail
    generalize hW0 : ((w).alloc (.cells #[.int .i64 s, .string k, .int .i64 kind, .slice A n cap, .int .i64 lo, .int .i64 hi, .int .i64 val] 38)).alloc (.cells #[.int .i64 s', .string k', .int .i64 kind', .slice A' n' cap', .int .i64 lo', .int .i64 hi', .int .i64 val'] 38) = W0
    have HS0_0 : Hid (Str W0 (w.heap.size) #[.int .i64 s, .string k, .int .i64 kind, .slice A n cap, .int .i64 lo, .int .i64 hi, .int .i64 val]) := Lib.hid (by rw [← hW0]; have := (Str.new (w) #[.int .i64 s, .string k, .int .i64 kind, .slice A n cap, .int .i64 lo, .int .i64 hi, .int .i64 val] 38).alloc (.cells #[.int .i64 s', .string k', .int .i64 kind', .slice A' n' cap', .int .i64 lo', .int .i64 hi', .int .i64 val'] 38); simpa using this)
    have HS1_0 : Hid (Str W0 (w.heap.size + 1) #[.int .i64 s', .string k', .int .i64 kind', .slice A' n' cap', .int .i64 lo', .int .i64 hi', .int .i64 val']) := Lib.hid (by rw [← hW0]; have := Str.new ((w).alloc (.cells #[.int .i64 s, .string k, .int .i64 kind, .slice A n cap, .int .i64 lo, .int .i64 hi, .int .i64 val] 38)) #[.int .i64 s', .string k', .int .i64 kind', .slice A' n' cap', .int .i64 lo', .int .i64 hi', .int .i64 val'] 38; simpa using this)
    have HB_0 : Hid (Below w.heap.size w W0) := Lib.hid (by rw [← hW0]; exact balloc (balloc (bsame w) _) _)
    clear hW0
    obtain ⟨f0_0_0, f0_0_1, f0_0_2, f0_0_3, f0_0_4, f0_0_5, f0_0_6⟩ := str7 HS0_0.out
    have hl0_0 := HS0_0.out.lt
    obtain ⟨f1_0_0, f1_0_1, f1_0_2, f1_0_3, f1_0_4, f1_0_5, f1_0_6⟩ := str7 HS1_0.out
    have hl1_0 := HS1_0.out.lt
    refine (SlotW.big_any A n cap ⟨s, k, kind, data, lo, hi, val⟩ _ HKA.out).mono ?_
    rintro e W1 ⟨rfl, hb1⟩
    rw [HBX.out]
    have HS0_1 := Lib.hid (HS0_0.out.next hb1)
    have HS1_1 := Lib.hid (HS1_0.out.next hb1)
    have HB_1 := Lib.hid (bstep HB_0.out hb1)
    clear f0_0_0 f0_0_1 f0_0_2 f0_0_3 f0_0_4 f0_0_5 f0_0_6 hl0_0 HS0_0 f1_0_0 f1_0_1 f1_0_2 f1_0_3 f1_0_4 f1_0_5 f1_0_6 hl1_0 HS1_0
    clear hb1
    obtain ⟨f0_1_0, f0_1_1, f0_1_2, f0_1_3, f0_1_4, f0_1_5, f0_1_6⟩ := str7 HS0_1.out
    have hl0_1 := HS0_1.out.lt
    obtain ⟨f1_1_0, f1_1_1, f1_1_2, f1_1_3, f1_1_4, f1_1_5, f1_1_6⟩ := str7 HS1_1.out
    have hl1_1 := HS1_1.out.lt
    go_wp2_with fail
    refine (SlotW.big_any A' n' cap' ⟨s', k', kind', data', lo', hi', val'⟩ _ HKB.out).mono ?_
    rintro e W2 ⟨rfl, hb2⟩
    rw [HBY.out]
    have HS0_2 := Lib.hid (HS0_1.out.next hb2)
    have HS1_2 := Lib.hid (HS1_1.out.next hb2)
    have HB_2 := Lib.hid (bstep HB_1.out hb2)
    clear f0_1_0 f0_1_1 f0_1_2 f0_1_3 f0_1_4 f0_1_5 f0_1_6 hl0_1 HS0_1 f1_1_0 f1_1_1 f1_1_2 f1_1_3 f1_1_4 f1_1_5 f1_1_6 hl1_1 HS1_1
    clear hb2
    obtain ⟨f0_2_0, f0_2_1, f0_2_2, f0_2_3, f0_2_4, f0_2_5, f0_2_6⟩ := str7 HS0_2.out
    have hl0_2 := HS0_2.out.lt
    obtain ⟨f1_2_0, f1_2_1, f1_2_2, f1_2_3, f1_2_4, f1_2_5, f1_2_6⟩ := str7 HS1_2.out
    have hl1_2 := HS1_2.out.lt
    go_wp2_with (go_at_call 25; refine (Live06.live_any _).mono ?_; rintro e Wl ⟨rfl, hbl⟩)
    go_ret
    exact ⟨rfl, bstep HB_2.out hbl⟩
  have HBX := Lib.hid hbx
  have HBY := Lib.hid hby
  clear hbx hby
  go_enter Try.func4, Try.ntmps4
  go_wp2_with fail
  generalize hW0 : ((w).alloc (.cells #[.int .i64 s, .string k, .int .i64 kind, .slice A n cap, .int .i64 lo, .int .i64 hi, .int .i64 val] 38)).alloc (.cells #[.int .i64 s', .string k', .int .i64 kind', .slice A' n' cap', .int .i64 lo', .int .i64 hi', .int .i64 val'] 38) = W0
  have HS0_0 : Hid (Str W0 (w.heap.size) #[.int .i64 s, .string k, .int .i64 kind, .slice A n cap, .int .i64 lo, .int .i64 hi, .int .i64 val]) := Lib.hid (by rw [← hW0]; have := (Str.new (w) #[.int .i64 s, .string k, .int .i64 kind, .slice A n cap, .int .i64 lo, .int .i64 hi, .int .i64 val] 38).alloc (.cells #[.int .i64 s', .string k', .int .i64 kind', .slice A' n' cap', .int .i64 lo', .int .i64 hi', .int .i64 val'] 38); simpa using this)
  have HS1_0 : Hid (Str W0 (w.heap.size + 1) #[.int .i64 s', .string k', .int .i64 kind', .slice A' n' cap', .int .i64 lo', .int .i64 hi', .int .i64 val']) := Lib.hid (by rw [← hW0]; have := Str.new ((w).alloc (.cells #[.int .i64 s, .string k, .int .i64 kind, .slice A n cap, .int .i64 lo, .int .i64 hi, .int .i64 val] 38)) #[.int .i64 s', .string k', .int .i64 kind', .slice A' n' cap', .int .i64 lo', .int .i64 hi', .int .i64 val'] 38; simpa using this)
  have HB_0 : Hid (Below w.heap.size w W0) := Lib.hid (by rw [← hW0]; exact balloc (balloc (bsame w) _) _)
  clear hW0
  obtain ⟨f0_0_0, f0_0_1, f0_0_2, f0_0_3, f0_0_4, f0_0_5, f0_0_6⟩ := str7 HS0_0.out
  have hl0_0 := HS0_0.out.lt
  obtain ⟨f1_0_0, f1_0_1, f1_0_2, f1_0_3, f1_0_4, f1_0_5, f1_0_6⟩ := str7 HS1_0.out
  have hl1_0 := HS1_0.out.lt
  refine (SlotW.big_any A n cap ⟨s, k, kind, data, lo, hi, val⟩ _ HKA.out).mono ?_
  rintro e W1 ⟨rfl, hb1⟩
  rw [HBX.out]
  have HS0_1 := Lib.hid (HS0_0.out.next hb1)
  have HS1_1 := Lib.hid (HS1_0.out.next hb1)
  have HB_1 := Lib.hid (bstep HB_0.out hb1)
  clear f0_0_0 f0_0_1 f0_0_2 f0_0_3 f0_0_4 f0_0_5 f0_0_6 hl0_0 HS0_0 f1_0_0 f1_0_1 f1_0_2 f1_0_3 f1_0_4 f1_0_5 f1_0_6 hl1_0 HS1_0
  clear hb1
  obtain ⟨f0_1_0, f0_1_1, f0_1_2, f0_1_3, f0_1_4, f0_1_5, f0_1_6⟩ := str7 HS0_1.out
  have hl0_1 := HS0_1.out.lt
  obtain ⟨f1_1_0, f1_1_1, f1_1_2, f1_1_3, f1_1_4, f1_1_5, f1_1_6⟩ := str7 HS1_1.out
  have hl1_1 := HS1_1.out.lt
  go_wp2_with fail
  refine (SlotW.big_any A' n' cap' ⟨s', k', kind', data', lo', hi', val'⟩ _ HKB.out).mono ?_
  rintro e W2 ⟨rfl, hb2⟩
  rw [HBY.out]
  have HS0_2 := Lib.hid (HS0_1.out.next hb2)
  have HS1_2 := Lib.hid (HS1_1.out.next hb2)
  have HB_2 := Lib.hid (bstep HB_1.out hb2)
  clear f0_1_0 f0_1_1 f0_1_2 f0_1_3 f0_1_4 f0_1_5 f0_1_6 hl0_1 HS0_1 f1_1_0 f1_1_1 f1_1_2 f1_1_3 f1_1_4 f1_1_5 f1_1_6 hl1_1 HS1_1
  clear hb2
  obtain ⟨f0_2_0, f0_2_1, f0_2_2, f0_2_3, f0_2_4, f0_2_5, f0_2_6⟩ := str7 HS0_2.out
  have hl0_2 := HS0_2.out.lt
  obtain ⟨f1_2_0, f1_2_1, f1_2_2, f1_2_3, f1_2_4, f1_2_5, f1_2_6⟩ := str7 HS1_2.out
  have hl1_2 := HS1_2.out.lt
  go_wp2_with fail
  refine (SlotW.same_any A A' n cap n' cap' w.heap.size w.heap.size ⟨s, k, kind, data, lo, hi, val⟩ ⟨s', k', kind', data', lo', hi', val'⟩ _ (HA.out.below HB_2.out) (HA'.out.below HB_2.out) HB_2.out.size HB_2.out.size).mono ?_
  rintro e W3 ⟨rfl, hb3⟩
  have HS0_3 := Lib.hid (HS0_2.out.next hb3)
  have HS1_3 := Lib.hid (HS1_2.out.next hb3)
  have HB_3 := Lib.hid (bstep HB_2.out hb3)
  clear f0_2_0 f0_2_1 f0_2_2 f0_2_3 f0_2_4 f0_2_5 f0_2_6 hl0_2 HS0_2 f1_2_0 f1_2_1 f1_2_2 f1_2_3 f1_2_4 f1_2_5 f1_2_6 hl1_2 HS1_2
  clear hb3
  obtain ⟨f0_3_0, f0_3_1, f0_3_2, f0_3_3, f0_3_4, f0_3_5, f0_3_6⟩ := str7 HS0_3.out
  have hl0_3 := HS0_3.out.lt
  obtain ⟨f1_3_0, f1_3_1, f1_3_2, f1_3_3, f1_3_4, f1_3_5, f1_3_6⟩ := str7 HS1_3.out
  have hl1_3 := HS1_3.out.lt
  go_wp2_with fail
  refine (SlotW.right_any A n cap w.heap.size ⟨s, k, kind, data, lo, hi, val⟩ _ (HA.out.below HB_3.out) HB_3.out.size HKA.out).mono ?_
  rintro e W4 ⟨rfl, hb4⟩
  have HS0_4 := Lib.hid (HS0_3.out.next hb4)
  have HS1_4 := Lib.hid (HS1_3.out.next hb4)
  have HB_4 := Lib.hid (bstep HB_3.out hb4)
  clear f0_3_0 f0_3_1 f0_3_2 f0_3_3 f0_3_4 f0_3_5 f0_3_6 hl0_3 HS0_3 f1_3_0 f1_3_1 f1_3_2 f1_3_3 f1_3_4 f1_3_5 f1_3_6 hl1_3 HS1_3
  clear hb4
  obtain ⟨f0_4_0, f0_4_1, f0_4_2, f0_4_3, f0_4_4, f0_4_5, f0_4_6⟩ := str7 HS0_4.out
  have hl0_4 := HS0_4.out.lt
  obtain ⟨f1_4_0, f1_4_1, f1_4_2, f1_4_3, f1_4_4, f1_4_5, f1_4_6⟩ := str7 HS1_4.out
  have hl1_4 := HS1_4.out.lt
  have hbb := two_beq (SlotP.same ⟨s, k, kind, data, lo, hi, val⟩ ⟨s', k', kind', data', lo', hi', val'⟩)
  cases hrx : SlotP.right ⟨s, k, kind, data, lo, hi, val⟩
  · clear hrx
    go_wp2_with (first | (go_at_call 28; refine (SlotW.refSame_any A A' n cap n' cap' w.heap.size w.heap.size ⟨s, k, kind, data, lo, hi, val⟩ ⟨s', k', kind', data', lo', hi', val'⟩ _ (HA.out.below HB_4.out) (HA'.out.below HB_4.out) HB_4.out.size HB_4.out.size).mono ?_; rintro e W5 ⟨rfl, hb5⟩) | (go_at_call 25; refine (Live06.live_any _).mono ?_; rintro e Wl ⟨rfl, hbl⟩))
    go_ret
    exact ⟨rfl, bstep (bstep HB_4.out hb5) hbl⟩
  · have HRX := Lib.hid hrx
    clear hrx
    go_wp2_with fail
    refine (SlotW.right_any A' n' cap' w.heap.size ⟨s', k', kind', data', lo', hi', val'⟩ _ (HA'.out.below HB_4.out) HB_4.out.size HKB.out).mono ?_
    rintro e W5 ⟨rfl, hb5⟩
    have HS0_5 := Lib.hid (HS0_4.out.next hb5)
    have HS1_5 := Lib.hid (HS1_4.out.next hb5)
    have HB_5 := Lib.hid (bstep HB_4.out hb5)
    clear f0_4_0 f0_4_1 f0_4_2 f0_4_3 f0_4_4 f0_4_5 f0_4_6 hl0_4 HS0_4 f1_4_0 f1_4_1 f1_4_2 f1_4_3 f1_4_4 f1_4_5 f1_4_6 hl1_4 HS1_4
    clear hb5
    obtain ⟨f0_5_0, f0_5_1, f0_5_2, f0_5_3, f0_5_4, f0_5_5, f0_5_6⟩ := str7 HS0_5.out
    have hl0_5 := HS0_5.out.lt
    obtain ⟨f1_5_0, f1_5_1, f1_5_2, f1_5_3, f1_5_4, f1_5_5, f1_5_6⟩ := str7 HS1_5.out
    have hl1_5 := HS1_5.out.lt
    cases hry : SlotP.right ⟨s', k', kind', data', lo', hi', val'⟩
    · clear hry
      go_wp2_with (first | (go_at_call 28; refine (SlotW.refSame_any A A' n cap n' cap' w.heap.size w.heap.size ⟨s, k, kind, data, lo, hi, val⟩ ⟨s', k', kind', data', lo', hi', val'⟩ _ (HA.out.below HB_5.out) (HA'.out.below HB_5.out) HB_5.out.size HB_5.out.size).mono ?_; rintro e W6 ⟨rfl, hb6⟩) | (go_at_call 25; refine (Live06.live_any _).mono ?_; rintro e Wl ⟨rfl, hbl⟩))
      go_ret
      exact ⟨rfl, bstep (bstep HB_5.out hb6) hbl⟩
    · have HSB := Lib.hid (HE.out HRX.out hry)
      generalize hsm : SlotP.same ⟨s, k, kind, data, lo, hi, val⟩ ⟨s', k', kind', data', lo', hi', val'⟩ = sm at *
      have HSM := Lib.hid hsm
      clear hsm hry
      go_wp2_with fail
      have harr := fun W => run_arr_eq (P := Try.prog) arr64 (SlotP.bytes ⟨s, k, kind, data, lo, hi, val⟩) (SlotP.bytes ⟨s', k', kind', data', lo', hi', val'⟩) (SlotP.bytes_length _) (SlotP.bytes_length _) W
      have hgd := arr64.guard
      rw [← HSB.out] at harr
      have hsmb := two_beq sm
      refine Reg.wp_region_vals (R := ext) (W := W5) [Reg.eqv (.bool sm), Reg.eqv (.agg #[.int .i64 s, .string k, .int .i64 kind, .slice A n cap, .int .i64 lo, .int .i64 hi, .int .i64 val]), Reg.eqv (.agg #[.int .i64 s', .string k', .int .i64 kind', .slice A' n' cap', .int .i64 lo', .int .i64 hi', .int .i64 val']), Reg.eqv (.bool sm), Reg.eqv (.bool true), Reg.eqv (.bool true), Reg.eqv (.bool sm), Reg.eqv (.agg #[.int .i64 s, .string k, .int .i64 kind, .slice A n cap, .int .i64 lo, .int .i64 hi, .int .i64 val]), Reg.eqv (.agg (rowV (SlotP.bytes ⟨s, k, kind, data, lo, hi, val⟩))), Reg.eqv (.agg #[.int .i64 s', .string k', .int .i64 kind', .slice A' n' cap', .int .i64 lo', .int .i64 hi', .int .i64 val']), Reg.eqv (.agg (rowV (SlotP.bytes ⟨s', k', kind', data', lo', hi', val'⟩))), Reg.eqv (.bool sm), Reg.eqv (.bool true), Reg.eqv (.bool true), Reg.eqv (.bool true), Reg.eqv (.bool true), Reg.eqv (.bool true), Reg.eqv (.bool true)] 49 [[(5, none)], [(2, none)], [(3, none)], [(33, some 1), (34, some 2)], [(32, some 0), (35, some 3)], [(36, some 4)], [(5, none), (37, some 5)], [(2, none), (37, some 5)], [(39, some 7), (37, some 5)], [(3, none), (37, some 5)], [(41, some 9), (37, some 5)], [(40, some 8), (42, some 10), (37, some 5)], [(38, some 6), (43, some 11), (37, some 5)], [(37, some 5), (44, some 12)], [(45, some 13)], [(46, some 14)], [(46, some 14), (47, some 15)], [(48, some 16)]] rfl (by kernel_rfl) (by kernel_rfl) (by kernel_rfl) ?_ ?_
      · refine ⟨?_, ?_, ?_, ?_, ?_, ?_, ?_, ?_, ?_, ?_, ?_, ?_, ?_, ?_, ?_, ?_, ?_, ?_, trivial⟩
        · intro ax wx hx hs
          obtain ⟨e5, -⟩ := hs
          have g5 := Reg.ev (v := .bool sm) e5
          exact Reg.obl_free rfl (Reg.wp_eqv (Option.some_ne_none _) (by go_simp) rfl)
        · intro ax wx hx hs
          obtain ⟨e2, -⟩ := hs
          have g2 := Reg.ev (v := .pointer (some ⟨w.heap.size, 0, none⟩)) e2
          obtain ⟨hc, -⟩ := bcell hx
          exact Reg.obl_free rfl (Reg.wp_eqv (Option.some_ne_none _) (by go_simp) rfl)
        · intro ax wx hx hs
          obtain ⟨e3, -⟩ := hs
          have g3 := Reg.ev (v := .pointer (some ⟨w.heap.size + 1, 0, none⟩)) e3
          obtain ⟨hc, -⟩ := bcell hx
          exact Reg.obl_free rfl (Reg.wp_eqv (Option.some_ne_none _) (by go_simp) rfl)
        · intro ax wx hx hs
          obtain ⟨e33, e34, -⟩ := hs
          have g33 := Reg.ev (v := .agg #[.int .i64 s, .string k, .int .i64 kind, .slice A n cap, .int .i64 lo, .int .i64 hi, .int .i64 val]) e33
          have g34 := Reg.ev (v := .agg #[.int .i64 s', .string k', .int .i64 kind', .slice A' n' cap', .int .i64 lo', .int .i64 hi', .int .i64 val']) e34
          refine Reg.obl_free rfl ?_
          go_simp
          have hx' : Below W5.heap.size W5 wx := hx
          refine (SlotW.refSame_any A A' n cap n' cap' w.heap.size w.heap.size ⟨s, k, kind, data, lo, hi, val⟩ ⟨s', k', kind', data', lo', hi', val'⟩ _ (HA.out.below (bstep HB_5.out hx')) (HA'.out.below (bstep HB_5.out hx')) (bstep HB_5.out hx').size (bstep HB_5.out hx').size).mono ?_
          rintro e wy ⟨rfl, hby⟩
          rw [HSM.out]
          exact Reg.done (Option.some_ne_none _) rfl hby
        · intro ax wx hx hs
          obtain ⟨e32, e35, -⟩ := hs
          have g32 := Reg.ev (v := .bool sm) e32
          have g35 := Reg.ev (v := .bool sm) e35
          exact Reg.obl_free rfl (Reg.wp_eqv (Option.some_ne_none _) (by go_simp) rfl)
        · intro ax wx hx hs
          obtain ⟨e36, -⟩ := hs
          have g36 := Reg.ev (v := .bool true) e36
          exact Reg.obl_free rfl (Reg.wp_eqv (Option.some_ne_none _) (by go_simp) rfl)
        · intro ax wx hx hs
          obtain ⟨e5, e37, -⟩ := hs
          have g5 := Reg.ev (v := .bool sm) e5
          have g37 := Reg.ev (v := .bool true) e37
          exact Reg.obl_want rfl rfl e37 (Reg.wp_eqv (Option.some_ne_none _) (by go_simp) rfl)
        · intro ax wx hx hs
          obtain ⟨e2, e37, -⟩ := hs
          have g2 := Reg.ev (v := .pointer (some ⟨w.heap.size, 0, none⟩)) e2
          have g37 := Reg.ev (v := .bool true) e37
          obtain ⟨hc, -⟩ := bcell hx
          exact Reg.obl_want rfl rfl e37 (Reg.wp_eqv (Option.some_ne_none _) (by go_simp) rfl)
        · intro ax wx hx hs
          obtain ⟨e39, e37, -⟩ := hs
          have g39 := Reg.ev (v := .agg #[.int .i64 s, .string k, .int .i64 kind, .slice A n cap, .int .i64 lo, .int .i64 hi, .int .i64 val]) e39
          have g37 := Reg.ev (v := .bool true) e37
          refine Reg.obl_want rfl rfl e37 ?_
          go_simp
          have hx' : Below W5.heap.size W5 wx := hx
          refine (SlotPut.put_any A n cap w.heap.size ⟨s, k, kind, data, lo, hi, val⟩ _ (HA.out.below (bstep HB_5.out hx')) (bstep HB_5.out hx').size HKA.out).mono ?_
          rintro e wy ⟨rfl, hby⟩
          exact Reg.done (Option.some_ne_none _) rfl hby
        · intro ax wx hx hs
          obtain ⟨e3, e37, -⟩ := hs
          have g3 := Reg.ev (v := .pointer (some ⟨w.heap.size + 1, 0, none⟩)) e3
          have g37 := Reg.ev (v := .bool true) e37
          obtain ⟨hc, -⟩ := bcell hx
          exact Reg.obl_want rfl rfl e37 (Reg.wp_eqv (Option.some_ne_none _) (by go_simp) rfl)
        · intro ax wx hx hs
          obtain ⟨e41, e37, -⟩ := hs
          have g41 := Reg.ev (v := .agg #[.int .i64 s', .string k', .int .i64 kind', .slice A' n' cap', .int .i64 lo', .int .i64 hi', .int .i64 val']) e41
          have g37 := Reg.ev (v := .bool true) e37
          refine Reg.obl_want rfl rfl e37 ?_
          go_simp
          have hx' : Below W5.heap.size W5 wx := hx
          refine (SlotPut.put_any A' n' cap' w.heap.size ⟨s', k', kind', data', lo', hi', val'⟩ _ (HA'.out.below (bstep HB_5.out hx')) (bstep HB_5.out hx').size HKB.out).mono ?_
          rintro e wy ⟨rfl, hby⟩
          exact Reg.done (Option.some_ne_none _) rfl hby
        · intro ax wx hx hs
          obtain ⟨e40, e42, e37, -⟩ := hs
          have g40 := Reg.ev (v := .agg (rowV (SlotP.bytes ⟨s, k, kind, data, lo, hi, val⟩))) e40
          have g42 := Reg.ev (v := .agg (rowV (SlotP.bytes ⟨s', k', kind', data', lo', hi', val'⟩))) e42
          have g37 := Reg.ev (v := .bool true) e37
          exact Reg.obl_want rfl rfl e37 (Reg.wp_eqv (Option.some_ne_none _) (by go_simp) rfl)
        · intro ax wx hx hs
          obtain ⟨e38, e43, e37, -⟩ := hs
          have g38 := Reg.ev (v := .bool sm) e38
          have g43 := Reg.ev (v := .bool sm) e43
          have g37 := Reg.ev (v := .bool true) e37
          exact Reg.obl_want rfl rfl e37 (Reg.wp_eqv (Option.some_ne_none _) (by go_simp) rfl)
        · intro ax wx hx hs
          obtain ⟨e37, e44, -⟩ := hs
          have g37 := Reg.ev (v := .bool true) e37
          have g44 := Reg.ev (v := .bool true) e44
          exact Reg.obl_free rfl (Reg.wp_eqv (Option.some_ne_none _) (by go_simp) rfl)
        · intro ax wx hx hs
          obtain ⟨e45, -⟩ := hs
          have g45 := Reg.ev (v := .bool true) e45
          exact Reg.obl_free rfl (Reg.wp_eqv (Option.some_ne_none _) (by go_simp) rfl)
        · intro ax wx hx hs
          obtain ⟨e46, -⟩ := hs
          have g46 := Reg.ev (v := .bool true) e46
          refine Reg.obl_want rfl rfl e46 ?_
          go_simp
          refine (Live06.live_any _).mono ?_
          rintro e wy ⟨rfl, hby⟩
          exact Reg.done (Option.some_ne_none _) rfl hby
        · intro ax wx hx hs
          obtain ⟨e46, e47, -⟩ := hs
          have g46 := Reg.ev (v := .bool true) e46
          have g47 := Reg.ev (v := .bool true) e47
          exact Reg.obl_free rfl (Reg.wp_eqv (Option.some_ne_none _) (by go_simp) rfl)
        · intro ax wx hx hs
          obtain ⟨e48, -⟩ := hs
          have g48 := Reg.ev (v := .bool true) e48
          exact Reg.obl_free rfl (Reg.wp_eqv (Option.some_ne_none _) (by go_simp) rfl)
      · rintro wf hwf _ rfl _ rfl _ rfl _ rfl _ rfl _ rfl _ rfl _ rfl _ rfl _ rfl _ rfl _ rfl _ rfl _ rfl _ rfl _ rfl _ rfl _ rfl
        refine Reg.fin_nil ?_
        go_simp
        go_wp2_with fail
        go_ret
        exact ⟨rfl, bstep HB_5.out hwf⟩
end Go.Proofs.Ytjengjbkdflapaa.slotSames
