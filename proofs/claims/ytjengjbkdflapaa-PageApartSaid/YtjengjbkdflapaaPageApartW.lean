/-
  The walk of PageApart: the Go text returns true for every input, and writes nothing that was there.
-/
import Derived.Test.YtjengjbkdflapaaOpen3
import Derived.Test.YtjengjbkdflapaaLive07
import Derived.Test.YtjengjbkdflapaaPApart
namespace Go.Proofs.Ytjengjbkdflapaa.pageApart
open Go.RowKit
attribute [local go_sem ↓] alPage_fold ldPage_fold stPage_fold bdPage_fold slPage_fold ld512_fold sl512_fold

theorem qSlot (l : List UInt8) (hl : l.length = 512) (i : Int) (A : Option Addr) (n cap B : Nat) (x : Item) (w : World) (h : Bytes w B A n cap x.cell.data) (hB : B ≤ w.heap.size) (hk : x.key.size ≤ maxLen) :
    Calls Try.prog 38 #[.agg (rowV l), .int .i64 i, SlotW.itemV A n cap x] w fun e w' => e = .returned (.agg (rowV (PageP.q1 l i x))) ∧ Below w.heap.size w w' := PageW.withSlot_any l hl i A n cap B x w h hB hk
theorem rSlot (l : List UInt8) (hl : l.length = 512) (i : Int) (m : Int) (A : Option Addr) (n cap B : Nat) (x : Item) (w : World) (h : Bytes w B A n cap x.cell.data) (hB : B ≤ w.heap.size) (hk : x.key.size ≤ maxLen) :
    Calls Try.prog 38 #[.agg (rowV (PageP.r3 l m)), .int .i64 i, SlotW.itemV A n cap x] w fun e w' => e = .returned (.agg (rowV (PageP.q4 l i x m))) ∧ Below w.heap.size w w' := by
  have := PageW.withSlot_any (PageP.r3 l m) (PageP.r3_length l hl m) i A n cap B x w h hB hk
  rwa [PageP.r4_eq l hl i x m] at this
theorem qLSN (l : List UInt8) (hl : l.length = 512) (i : Int) (x : Item) (m : Int) (w : World) : Calls Try.prog 49 #[.agg (rowV (PageP.q1 l i x)), .int .i64 m] w fun e w' => e = .returned (.agg (rowV (PageP.q2 l i x m))) ∧ Below w.heap.size w w' := PageW.withLSN_any _ (PageP.q1_length l hl i x) m w
theorem qNext (l : List UInt8) (hl : l.length = 512) (i : Int) (x : Item) (m : Int) (w : World) : Calls Try.prog 50 #[.agg (rowV (PageP.q2 l i x m)), .int .i64 m] w fun e w' => e = .returned (.agg (rowV (PageP.q3 l i x m))) ∧ Below w.heap.size w w' := PageW.withNext_any _ (PageP.q2_length l hl i x m) m w
theorem qNote (l : List UInt8) (hl : l.length = 512) (i : Int) (x : Item) (m : Int) (w : World) : Calls Try.prog 51 #[.agg (rowV (PageP.q3 l i x m)), .int .i64 m] w fun e w' => e = .returned (.agg (rowV (PageP.q4 l i x m))) ∧ Below w.heap.size w w' := PageW.withNote_any _ (PageP.q3_length l hl i x m) m w
theorem rNote (l : List UInt8) (hl : l.length = 512) (m : Int) (w : World) : Calls Try.prog 51 #[.agg (rowV l), .int .i64 m] w fun e w' => e = .returned (.agg (rowV (PageP.r1 l m))) ∧ Below w.heap.size w w' := PageW.withNote_any _ hl m w
theorem rNext (l : List UInt8) (hl : l.length = 512) (m : Int) (w : World) : Calls Try.prog 50 #[.agg (rowV (PageP.r1 l m)), .int .i64 m] w fun e w' => e = .returned (.agg (rowV (PageP.r2 l m))) ∧ Below w.heap.size w w' := PageW.withNext_any _ (PageP.r1_length l hl m) m w
theorem rLSN (l : List UInt8) (hl : l.length = 512) (m : Int) (w : World) : Calls Try.prog 49 #[.agg (rowV (PageP.r2 l m)), .int .i64 m] w fun e w' => e = .returned (.agg (rowV (PageP.r3 l m))) ∧ Below w.heap.size w w' := PageW.withLSN_any _ (PageP.r2_length l hl m) m w
theorem qno (l : List UInt8) (hl : l.length = 512) (i : Int) (x : Item) (m : Int) (w : World) : Calls Try.prog 41 #[.agg (rowV (PageP.q4 l i x m))] w fun e w' => e = .returned (.int .i64 (NumP.val l 12 2)) ∧ Below w.heap.size w w' := by
  have := PageW.no_any _ (PageP.q4_length l hl i x m) w
  rwa [PageP.q4_no l hl i x m] at this
theorem qlsn (l : List UInt8) (hl : l.length = 512) (i : Int) (x : Item) (m : Int) (hm : In64 m) (w : World) : Calls Try.prog 43 #[.agg (rowV (PageP.q4 l i x m))] w fun e w' => e = .returned (.int .i64 m) ∧ Below w.heap.size w w' := by
  have := PageW.lsn_any _ (PageP.q4_length l hl i x m) w
  rwa [PageP.q4_lsn l hl i x m hm] at this
theorem qnote (l : List UInt8) (hl : l.length = 512) (i : Int) (x : Item) (m : Int) (hm : In64 m) (w : World) : Calls Try.prog 47 #[.agg (rowV (PageP.q4 l i x m))] w fun e w' => e = .returned (.int .i64 m) ∧ Below w.heap.size w w' := by
  have := PageW.note_any _ (PageP.q4_length l hl i x m) w
  rwa [PageP.q4_note l hl i x m hm] at this

def Apt (w : World) (a b : Nat) (l l' : List UInt8) (i : Value) (wr : World) : Prop := ∃ k : Nat, k ≤ 7 ∧ i = .int .i64 (k : Int) ∧ Str wr a (rowV l) ∧ Str wr b (rowV l') ∧ Below w.heap.size w wr
set_option maxRecDepth 100000 in
set_option maxHeartbeats 4000000 in
theorem walk (v0 v1 v2 v3 : Value) (l : List UInt8) (i : Int) (a2 : Item) (m : Int) (w : World) (g0 : RArr 512 v0 l) (g1 : RInt w v1 i) (g2 : RItem w w.heap.size v2 a2) (g3 : RInt w v3 m) :
    Calls Try.prog 9 #[v0, v1, v2, v3] w fun e w' => e = .returned (.bool true) ∧ Below w.heap.size w w' := by
  obtain ⟨rfl, hl⟩ := g0
  obtain ⟨rfl, -⟩ := g1
  obtain ⟨A, n, cap, rfl, hA, hka, -⟩ := g2
  obtain ⟨rfl, hm⟩ := g3
  have HM : Hid (In64 m) := Lib.hid (by unfold In64; omega)
  have HL := Lib.hid hl
  have HA := Lib.hid hA
  have HKA := Lib.hid hka
  have hn := Nat.le_trans hA.2.1 hA.2.2.1
  unfold maxLen at hn hka
  clear hA hl
  obtain ⟨s, k, kind, data, lo, hi, val⟩ := a2
  dsimp only at *
  by_cases hbig : 300 < k.size
  · go_enter Try.func9, Try.ntmps9
    go_wp2_with (go_at_call 35; refine (Live07.live_any _).mono ?_; rintro e w' ⟨rfl, hb⟩)
    go_ret
    exact ⟨rfl, bstep (balloc (balloc (bsame w) _) _) hb⟩
  by_cases hbig' : 300 < n
  · go_enter Try.func9, Try.ntmps9
    go_wp2_with (go_at_call 35; refine (Live07.live_any _).mono ?_; rintro e w' ⟨rfl, hb⟩)
    go_ret
    exact ⟨rfl, bstep (balloc (balloc (bsame w) _) _) hb⟩
  obtain ⟨W0, hW0⟩ : ∃ W0, ((w).alloc (.cells (rowV l) 50)).alloc (.cells #[.int .i64 s, .string k, .int .i64 kind, .slice A n cap, .int .i64 lo, .int .i64 hi, .int .i64 val] 38) = W0 := ⟨_, rfl⟩
  have HS0_0 : Hid (Str W0 (w.heap.size) (rowV l)) := Lib.hid (by rw [← hW0]; have := (Str.new (w) (rowV l) 50).alloc (.cells #[.int .i64 s, .string k, .int .i64 kind, .slice A n cap, .int .i64 lo, .int .i64 hi, .int .i64 val] 38); simpa using this)
  have HS1_0 : Hid (Str W0 (w.heap.size + 1) #[.int .i64 s, .string k, .int .i64 kind, .slice A n cap, .int .i64 lo, .int .i64 hi, .int .i64 val]) := Lib.hid (by rw [← hW0]; have := Str.new ((w).alloc (.cells (rowV l) 50)) #[.int .i64 s, .string k, .int .i64 kind, .slice A n cap, .int .i64 lo, .int .i64 hi, .int .i64 val] 38; simpa using this)
  have HB_0 : Hid (Below w.heap.size w W0) := Lib.hid (by rw [← hW0]; exact balloc (balloc (bsame w) _) _)
  have hw_0 := HB_0.out.size
  have hz0 : W0.heap.size = w.heap.size + 1 + 1 := by rw [← hW0]; simp
  have HW0 := Lib.hid hW0
  have hl0_0 := HS0_0.out.lt
  have hl1_0 := HS1_0.out.lt
  have hld := run_ld (P := Try.prog) arr512 HS0_0.out HL.out
  have hal := fun W => run_al (P := Try.prog) arrPage W
  have hst0 := run_st (P := Try.prog) arrPage (Str.new W0 (rowV (SlotP.zeros 512)) 51) (by rw [rowV_size]; exact SlotPut.zeros_len 512) (HL.out)
  obtain ⟨W1, hW1⟩ : ∃ W, (W0.alloc (.cells (rowV (SlotP.zeros 512)) 51)).setRow W0.heap.size (rowV l) = W := ⟨_, rfl⟩
  rw [hW1] at hst0
  rw [hz0] at hst0
  have HS0_1 : Hid (Str W1 (w.heap.size) (rowV l)) := Lib.hid (by rw [← hW1]; exact (HS0_0.out.alloc _).setRow_other (by omega))
  have HS1_1 : Hid (Str W1 (w.heap.size + 1) #[.int .i64 s, .string k, .int .i64 kind, .slice A n cap, .int .i64 lo, .int .i64 hi, .int .i64 val]) := Lib.hid (by rw [← hW1]; exact (HS1_0.out.alloc _).setRow_other (by omega))
  have HS2_1 : Hid (Str W1 (w.heap.size + 1 + 1) (rowV l)) := Lib.hid (by rw [← hW1, ← hz0]; exact (Str.new W0 (rowV (SlotP.zeros 512)) 51).setRow)
  have hba1 : Below W0.heap.size W0 W1 := by rw [← hW1]; exact below_setRow (balloc (bsame _) _) (Nat.le_refl _) _
  have HB_1 := Lib.hid (bstep HB_0.out hba1)
  have hw_1 := HB_1.out.size
  have hws_1 := hba1.size
  clear hW1 hba1
  clear HS0_0 HS1_0
  have hl0_1 := HS0_1.out.lt
  obtain ⟨f1_1_0, f1_1_1, f1_1_2, f1_1_3, f1_1_4, f1_1_5, f1_1_6⟩ := str7 HS1_1.out
  have hl1_1 := HS1_1.out.lt
  have hl2_1 := HS2_1.out.lt
  rw [← hW0] at hld hst0
  clear hW0 hz0
  have hldp := run_ld (P := Try.prog) arrPage HS2_1.out HL.out
  go_enter Try.func9, Try.ntmps9
  go_wp2_with fail
  refine (qSlot l HL.out i A n cap w.heap.size ⟨s, k, kind, data, lo, hi, val⟩ _ (HA.out.below HB_1.out) HB_1.out.size HKA.out).mono ?_
  rintro e W2 ⟨rfl, hb2⟩
  clear hld hldp hst0 hal
  have HS0_2 := Lib.hid (HS0_1.out.next hb2)
  have HS1_2 := Lib.hid (HS1_1.out.next hb2)
  have HS2_2 := Lib.hid (HS2_1.out.next hb2)
  have HB_2 := Lib.hid (bstep HB_1.out hb2)
  have hw_2 := HB_2.out.size
  have hws_2 := (hb2).size
  clear HS0_1 f1_1_0 f1_1_1 f1_1_2 f1_1_3 f1_1_4 f1_1_5 f1_1_6 HS1_1 HS2_1
  clear hb2
  have hl0_2 := HS0_2.out.lt
  obtain ⟨f1_2_0, f1_2_1, f1_2_2, f1_2_3, f1_2_4, f1_2_5, f1_2_6⟩ := str7 HS1_2.out
  have hl1_2 := HS1_2.out.lt
  have hl2_2 := HS2_2.out.lt
  go_wp2_with fail
  refine (qLSN l HL.out i ⟨s, k, kind, data, lo, hi, val⟩ m _).mono ?_
  rintro e W3 ⟨rfl, hb3⟩
  have HS0_3 := Lib.hid (HS0_2.out.next hb3)
  have HS1_3 := Lib.hid (HS1_2.out.next hb3)
  have HS2_3 := Lib.hid (HS2_2.out.next hb3)
  have HB_3 := Lib.hid (bstep HB_2.out hb3)
  have hw_3 := HB_3.out.size
  have hws_3 := (hb3).size
  clear HS0_2 f1_2_0 f1_2_1 f1_2_2 f1_2_3 f1_2_4 f1_2_5 f1_2_6 HS1_2 HS2_2
  clear hb3
  have hl0_3 := HS0_3.out.lt
  obtain ⟨f1_3_0, f1_3_1, f1_3_2, f1_3_3, f1_3_4, f1_3_5, f1_3_6⟩ := str7 HS1_3.out
  have hl1_3 := HS1_3.out.lt
  have hl2_3 := HS2_3.out.lt
  go_wp2_with fail
  refine (qNext l HL.out i ⟨s, k, kind, data, lo, hi, val⟩ m _).mono ?_
  rintro e W4 ⟨rfl, hb4⟩
  have HS0_4 := Lib.hid (HS0_3.out.next hb4)
  have HS1_4 := Lib.hid (HS1_3.out.next hb4)
  have HS2_4 := Lib.hid (HS2_3.out.next hb4)
  have HB_4 := Lib.hid (bstep HB_3.out hb4)
  have hw_4 := HB_4.out.size
  have hws_4 := (hb4).size
  clear HS0_3 f1_3_0 f1_3_1 f1_3_2 f1_3_3 f1_3_4 f1_3_5 f1_3_6 HS1_3 HS2_3
  clear hb4
  have hl0_4 := HS0_4.out.lt
  obtain ⟨f1_4_0, f1_4_1, f1_4_2, f1_4_3, f1_4_4, f1_4_5, f1_4_6⟩ := str7 HS1_4.out
  have hl1_4 := HS1_4.out.lt
  have hl2_4 := HS2_4.out.lt
  go_wp2_with fail
  refine (qNote l HL.out i ⟨s, k, kind, data, lo, hi, val⟩ m _).mono ?_
  rintro e W5 ⟨rfl, hb5⟩
  have HS0_5 := Lib.hid (HS0_4.out.next hb5)
  have HS1_5 := Lib.hid (HS1_4.out.next hb5)
  have HS2_5 := Lib.hid (HS2_4.out.next hb5)
  have HB_5 := Lib.hid (bstep HB_4.out hb5)
  have hw_5 := HB_5.out.size
  have hws_5 := (hb5).size
  clear HS0_4 f1_4_0 f1_4_1 f1_4_2 f1_4_3 f1_4_4 f1_4_5 f1_4_6 HS1_4 HS2_4
  clear hb5
  have hl0_5 := HS0_5.out.lt
  obtain ⟨f1_5_0, f1_5_1, f1_5_2, f1_5_3, f1_5_4, f1_5_5, f1_5_6⟩ := str7 HS1_5.out
  have hl1_5 := HS1_5.out.lt
  have hl2_5 := HS2_5.out.lt
  have HQ := Lib.hid (PageP.q4_length l HL.out i ⟨s, k, kind, data, lo, hi, val⟩ m)
  have hal := fun W => run_al (P := Try.prog) arrPage W
  have hst5 := run_st (P := Try.prog) arrPage (Str.new W5 (rowV (SlotP.zeros 512)) 51) (by rw [rowV_size]; exact SlotPut.zeros_len 512) (HQ.out)
  obtain ⟨W6, hW6⟩ : ∃ W, (W5.alloc (.cells (rowV (SlotP.zeros 512)) 51)).setRow W5.heap.size (rowV (PageP.q4 l i ⟨s, k, kind, data, lo, hi, val⟩ m)) = W := ⟨_, rfl⟩
  rw [hW6] at hst5
  have HS0_6 : Hid (Str W6 (w.heap.size) (rowV l)) := Lib.hid (by rw [← hW6]; exact (HS0_5.out.alloc _).setRow_other (by omega))
  have HS1_6 : Hid (Str W6 (w.heap.size + 1) #[.int .i64 s, .string k, .int .i64 kind, .slice A n cap, .int .i64 lo, .int .i64 hi, .int .i64 val]) := Lib.hid (by rw [← hW6]; exact (HS1_5.out.alloc _).setRow_other (by omega))
  have HS2_6 : Hid (Str W6 (w.heap.size + 1 + 1) (rowV l)) := Lib.hid (by rw [← hW6]; exact (HS2_5.out.alloc _).setRow_other (by omega))
  have HS3_6 : Hid (Str W6 (W5.heap.size) (rowV (PageP.q4 l i ⟨s, k, kind, data, lo, hi, val⟩ m))) := Lib.hid (by rw [← hW6]; exact (Str.new W5 (rowV (SlotP.zeros 512)) 51).setRow)
  have hba6 : Below W5.heap.size W5 W6 := by rw [← hW6]; exact below_setRow (balloc (bsame _) _) (Nat.le_refl _) _
  have HB_6 := Lib.hid (bstep HB_5.out hba6)
  have hw_6 := HB_6.out.size
  have hws_6 := hba6.size
  clear hW6 hba6
  clear HS0_5 f1_5_0 f1_5_1 f1_5_2 f1_5_3 f1_5_4 f1_5_5 f1_5_6 HS1_5 HS2_5
  have hl0_6 := HS0_6.out.lt
  obtain ⟨f1_6_0, f1_6_1, f1_6_2, f1_6_3, f1_6_4, f1_6_5, f1_6_6⟩ := str7 HS1_6.out
  have hl1_6 := HS1_6.out.lt
  have hl2_6 := HS2_6.out.lt
  have hl3_6 := HS3_6.out.lt
  go_wp2_with fail
  clear hst5
  refine Reg.wp_region_tail (R := ext) (W := W6) [Reg.eqv (.agg (rowV l)), Reg.eqv (.int .i64 m), Reg.eqv (.agg (rowV (PageP.r1 l m))), Reg.eqv (.int .i64 m), Reg.eqv (.agg (rowV (PageP.r2 l m))), Reg.eqv (.int .i64 m), Reg.eqv (.agg (rowV (PageP.r3 l m))), Reg.eqv (.int .i64 i), Reg.eqv (.agg #[.int .i64 s, .string k, .int .i64 kind, .slice A n cap, .int .i64 lo, .int .i64 hi, .int .i64 val]), Reg.eqv (.agg (rowV (PageP.q4 l i ⟨s, k, kind, data, lo, hi, val⟩ m))), Reg.fresh W6.heap.size (rowV (SlotP.zeros 512))] 116 11 _ [[(9, none)], [(3, none)], [(40, some 0), (41, some 1)], [(3, none)], [(42, some 2), (43, some 3)], [(3, none)], [(44, some 4), (45, some 5)], [(1, none)], [(6, none)], [(46, some 6), (47, some 7), (48, some 8)], []] rfl (by kernel_rfl) (by kernel_rfl) (by rfl) (by rfl) rfl (by kernel_rfl) ?_ [some 40, some 41, some 42, some 43, some 44, some 45, some 46, some 47, some 48, some 49, some 11] (by kernel_rfl) ?_
  · refine ⟨?_, ?_, ?_, ?_, ?_, ?_, ?_, ?_, ?_, ?_, ?_, trivial⟩
    · intro ax wx hx hs
      obtain ⟨e9, -⟩ := hs
      have g9 := Reg.ev (v := .pointer (some ⟨w.heap.size + 1 + 1, 0, none⟩)) e9
      obtain ⟨hc, -⟩ := bcell hx
      refine Reg.obl_free rfl ?_
      have hx' : Below W6.heap.size W6 wx := hx
      have hld := run_ld (P := Try.prog) arrPage (HS2_6.out.next hx') HL.out
      exact Reg.wp_eqv (Option.some_ne_none _) (by go_simp) rfl
    · intro ax wx hx hs
      obtain ⟨e3, -⟩ := hs
      have g3 := Reg.ev (v := .int .i64 m) e3
      exact Reg.obl_free rfl (Reg.wp_eqv (Option.some_ne_none _) (by go_simp) rfl)
    · intro ax wx hx hs
      obtain ⟨e40, e41, -⟩ := hs
      have g40 := Reg.ev (v := .agg (rowV l)) e40
      have g41 := Reg.ev (v := .int .i64 m) e41
      refine Reg.obl_free rfl ?_
      go_simp
      refine (rNote l HL.out m _).mono ?_
      rintro e wy ⟨rfl, hby⟩
      exact Reg.done (Option.some_ne_none _) rfl hby
    · intro ax wx hx hs
      obtain ⟨e3, -⟩ := hs
      have g3 := Reg.ev (v := .int .i64 m) e3
      exact Reg.obl_free rfl (Reg.wp_eqv (Option.some_ne_none _) (by go_simp) rfl)
    · intro ax wx hx hs
      obtain ⟨e42, e43, -⟩ := hs
      have g42 := Reg.ev (v := .agg (rowV (PageP.r1 l m))) e42
      have g43 := Reg.ev (v := .int .i64 m) e43
      refine Reg.obl_free rfl ?_
      go_simp
      refine (rNext l HL.out m _).mono ?_
      rintro e wy ⟨rfl, hby⟩
      exact Reg.done (Option.some_ne_none _) rfl hby
    · intro ax wx hx hs
      obtain ⟨e3, -⟩ := hs
      have g3 := Reg.ev (v := .int .i64 m) e3
      exact Reg.obl_free rfl (Reg.wp_eqv (Option.some_ne_none _) (by go_simp) rfl)
    · intro ax wx hx hs
      obtain ⟨e44, e45, -⟩ := hs
      have g44 := Reg.ev (v := .agg (rowV (PageP.r2 l m))) e44
      have g45 := Reg.ev (v := .int .i64 m) e45
      refine Reg.obl_free rfl ?_
      go_simp
      refine (rLSN l HL.out m _).mono ?_
      rintro e wy ⟨rfl, hby⟩
      exact Reg.done (Option.some_ne_none _) rfl hby
    · intro ax wx hx hs
      obtain ⟨e1, -⟩ := hs
      have g1 := Reg.ev (v := .int .i64 i) e1
      exact Reg.obl_free rfl (Reg.wp_eqv (Option.some_ne_none _) (by go_simp) rfl)
    · intro ax wx hx hs
      obtain ⟨e6, -⟩ := hs
      have g6 := Reg.ev (v := .pointer (some ⟨w.heap.size + 1, 0, none⟩)) e6
      obtain ⟨hc, -⟩ := bcell hx
      exact Reg.obl_free rfl (Reg.wp_eqv (Option.some_ne_none _) (by go_simp) rfl)
    · intro ax wx hx hs
      obtain ⟨e46, e47, e48, -⟩ := hs
      have g46 := Reg.ev (v := .agg (rowV (PageP.r3 l m))) e46
      have g47 := Reg.ev (v := .int .i64 i) e47
      have g48 := Reg.ev (v := .agg #[.int .i64 s, .string k, .int .i64 kind, .slice A n cap, .int .i64 lo, .int .i64 hi, .int .i64 val]) e48
      refine Reg.obl_free rfl ?_
      have hx' : Below W6.heap.size W6 wx := hx
      go_simp
      refine (rSlot l HL.out i m A n cap w.heap.size ⟨s, k, kind, data, lo, hi, val⟩ _ (HA.out.below (bstep HB_6.out hx')) (bstep HB_6.out hx').size HKA.out).mono ?_
      rintro e wy ⟨rfl, hby⟩
      exact Reg.done (Option.some_ne_none _) rfl hby
    · intro ax wx hx hs
      refine Reg.obl_free rfl ?_
      have hx' : Below W6.heap.size W6 wx := hx
      go_simp
      exact Reg.done (Option.some_ne_none _) ⟨wx.heap.size, rfl, hx'.size, Str.new wx _ _⟩ (balloc (bsame wx) _)
  · intro W7 hwf
    simp only [Reg.Fin]
    rintro _ rfl _ rfl _ rfl _ rfl _ rfl _ rfl _ rfl _ rfl _ rfl _ rfl v11 h11
    obtain ⟨g, rfl, hg, hSg⟩ := h11
    have hwf' : Below W6.heap.size W6 W7 := hwf
    clear hal hwf
    have HS0_7 := Lib.hid (HS0_6.out.next hwf')
    have HS1_7 := Lib.hid (HS1_6.out.next hwf')
    have HS2_7 := Lib.hid (HS2_6.out.next hwf')
    have HS3_7 := Lib.hid (HS3_6.out.next hwf')
    have HB_7 := Lib.hid (bstep HB_6.out hwf')
    have hw_7 := HB_7.out.size
    have hws_7 := (hwf').size
    clear HS0_6 f1_6_0 f1_6_1 f1_6_2 f1_6_3 f1_6_4 f1_6_5 f1_6_6 HS1_6 HS2_6 HS3_6
    clear hwf'
    have hl0_7 := HS0_7.out.lt
    obtain ⟨f1_7_0, f1_7_1, f1_7_2, f1_7_3, f1_7_4, f1_7_5, f1_7_6⟩ := str7 HS1_7.out
    have hl1_7 := HS1_7.out.lt
    have hl2_7 := HS2_7.out.lt
    have hl3_7 := HS3_7.out.lt
    have hst7 := run_st (P := Try.prog) arrPage hSg (by rw [rowV_size]; exact SlotPut.zeros_len 512) HQ.out
    obtain ⟨W8, hW8⟩ : ∃ W, W7.setRow g (rowV (PageP.q4 l i ⟨s, k, kind, data, lo, hi, val⟩ m)) = W := ⟨_, rfl⟩
    rw [hW8] at hst7
    have HS0_8 : Hid (Str W8 (w.heap.size) (rowV l)) := Lib.hid (by rw [← hW8]; exact HS0_7.out.setRow_other (by omega))
    have HS1_8 : Hid (Str W8 (w.heap.size + 1) #[.int .i64 s, .string k, .int .i64 kind, .slice A n cap, .int .i64 lo, .int .i64 hi, .int .i64 val]) := Lib.hid (by rw [← hW8]; exact HS1_7.out.setRow_other (by omega))
    have HS2_8 : Hid (Str W8 (w.heap.size + 1 + 1) (rowV l)) := Lib.hid (by rw [← hW8]; exact HS2_7.out.setRow_other (by omega))
    have HS3_8 : Hid (Str W8 (W5.heap.size) (rowV (PageP.q4 l i ⟨s, k, kind, data, lo, hi, val⟩ m))) := Lib.hid (by rw [← hW8]; exact HS3_7.out.setRow_other (by omega))
    have HS4_8 : Hid (Str W8 g (rowV (PageP.q4 l i ⟨s, k, kind, data, lo, hi, val⟩ m))) := Lib.hid (by rw [← hW8]; exact hSg.setRow)
    have HB_8 : Hid (Below w.heap.size w W8) := Lib.hid (by rw [← hW8]; exact below_setRow HB_7.out (by omega) _)
    have hw_8 := HB_8.out.size
    clear hW8 hSg
    clear HS0_7 f1_7_0 f1_7_1 f1_7_2 f1_7_3 f1_7_4 f1_7_5 f1_7_6 HS1_7 HS2_7 HS3_7
    have hl0_8 := HS0_8.out.lt
    obtain ⟨f1_8_0, f1_8_1, f1_8_2, f1_8_3, f1_8_4, f1_8_5, f1_8_6⟩ := str7 HS1_8.out
    have hl1_8 := HS1_8.out.lt
    have hl2_8 := HS2_8.out.lt
    have hl3_8 := HS3_8.out.lt
    have hl4_8 := HS4_8.out.lt
    obtain ⟨nx, hnx⟩ : ∃ nx, NumP.val (PageP.q4 l i ⟨s, k, kind, data, lo, hi, val⟩ m) 14 2 = nx := ⟨_, rfl⟩
    have hnx0 : 0 ≤ m → nx = m.tmod 65536 := fun h => by rw [← hnx]; exact PageP.q4_next l HL.out i ⟨s, k, kind, data, lo, hi, val⟩ m h
    have HNX := Lib.hid hnx
    have harr := fun W => run_arr_eq (P := Try.prog) arrPage (PageP.q4 l i ⟨s, k, kind, data, lo, hi, val⟩ m) (PageP.q4 l i ⟨s, k, kind, data, lo, hi, val⟩ m) HQ.out HQ.out W
    rw [beq_self_eq_true] at harr
    have hgd := arrPage.guard
    clear hnx
    refine Reg.Goal.mk ?_
    go_simp
    go_wp2_with fail
    clear hst7
    have hcase : (nx = m.tmod 65536) ∨ (nx ≠ m.tmod 65536 ∧ m < 0) := by
      by_cases h0 : 0 ≤ m
      · exact Or.inl (hnx0 h0)
      · by_cases h1 : nx = m.tmod 65536
        · exact Or.inl h1
        · exact Or.inr ⟨h1, by omega⟩
    clear hnx0
    generalize hxn : NumP.val l 12 2 = xn at *
    have HXN := Lib.hid hxn
    clear hxn
    rcases hcase with hcs | ⟨hcs, hneg⟩
    · subst hcs
      refine Reg.wp_region_vals (R := ext) (W := W8) [Reg.eqv (.agg (rowV (PageP.q4 l i ⟨s, k, kind, data, lo, hi, val⟩ m))), Reg.eqv (.agg (rowV (PageP.q4 l i ⟨s, k, kind, data, lo, hi, val⟩ m))), Reg.eqv (.bool false), Reg.eqv (.bool false), Reg.eqv (.agg (rowV (PageP.q4 l i ⟨s, k, kind, data, lo, hi, val⟩ m))), Reg.eqv (.int .i64 xn), Reg.eqv (.agg (rowV l)), Reg.eqv (.int .i64 xn), Reg.eqv (.bool false), Reg.eqv (.bool false), Reg.eqv (.bool false), Reg.eqv (.agg (rowV (PageP.q4 l i ⟨s, k, kind, data, lo, hi, val⟩ m))), Reg.eqv (.int .i64 (m.tmod 65536)), Reg.eqv (.int .i64 m), Reg.eqv (.int .i64 (m.tmod 65536)), Reg.eqv (.bool false), Reg.eqv (.bool false), Reg.eqv undef, Reg.eqv undef, Reg.eqv (.bool false), Reg.eqv (.bool false), Reg.eqv (.bool false), Reg.eqv (.agg (rowV (PageP.q4 l i ⟨s, k, kind, data, lo, hi, val⟩ m))), Reg.eqv (.int .i64 m), Reg.eqv (.int .i64 m), Reg.eqv (.bool false), Reg.eqv (.bool false), Reg.eqv (.bool false), Reg.eqv (.agg (rowV (PageP.q4 l i ⟨s, k, kind, data, lo, hi, val⟩ m))), Reg.eqv (.int .i64 m), Reg.eqv (.int .i64 m), Reg.eqv (.bool false), Reg.eqv (.bool false)] 116 [[(10, none)], [(11, none)], [(50, some 0), (51, some 1)], [(52, some 2)], [(10, none), (53, some 3)], [(54, some 4), (53, some 3)], [(9, none), (53, some 3)], [(56, some 6), (53, some 3)], [(55, some 5), (57, some 7), (53, some 3)], [(53, some 3), (58, some 8)], [(59, some 9)], [(10, none), (60, some 10)], [(61, some 11), (60, some 10)], [(3, none), (60, some 10)], [(63, some 13), (60, some 10)], [(62, some 12), (64, some 14), (60, some 10)], [(65, some 15), (60, some 10)], [(3, none), (66, some 16)], [(67, some 17), (66, some 16)], [(66, some 16), (68, some 18), (60, some 10)], [(60, some 10), (69, some 19)], [(70, some 20)], [(10, none), (71, some 21)], [(72, some 22), (71, some 21)], [(3, none), (71, some 21)], [(73, some 23), (74, some 24), (71, some 21)], [(71, some 21), (75, some 25)], [(76, some 26)], [(10, none), (77, some 27)], [(78, some 28), (77, some 27)], [(3, none), (77, some 27)], [(79, some 29), (80, some 30), (77, some 27)], [(77, some 27), (81, some 31)]] rfl (by kernel_rfl) (by kernel_rfl) (by kernel_rfl) ?_ [some 50, some 51, some 52, some 53, some 54, some 55, some 56, some 57, some 58, some 59, some 60, some 61, some 62, some 63, some 64, some 65, some 66, some 67, some 68, some 69, some 70, some 71, some 72, some 73, some 74, some 75, some 76, some 77, some 78, some 79, some 80, some 81, some 82] (by kernel_rfl) ?_
      · refine ⟨?_, ?_, ?_, ?_, ?_, ?_, ?_, ?_, ?_, ?_, ?_, ?_, ?_, ?_, ?_, ?_, ?_, ?_, ?_, ?_, ?_, ?_, ?_, ?_, ?_, ?_, ?_, ?_, ?_, ?_, ?_, ?_, ?_, trivial⟩
        · intro ax wx hx hs
          obtain ⟨e10, -⟩ := hs
          have g10 := Reg.ev (v := .pointer (some ⟨W5.heap.size, 0, none⟩)) e10
          refine Reg.obl_free rfl ?_
          have hx' : Below W8.heap.size W8 wx := hx
          have hld := run_ld (P := Try.prog) arrPage (HS3_8.out.next hx') HQ.out
          exact Reg.wp_eqv (Option.some_ne_none _) (by go_simp) rfl
        · intro ax wx hx hs
          obtain ⟨e11, -⟩ := hs
          have g11 := Reg.ev (v := .pointer (some ⟨g, 0, none⟩)) e11
          refine Reg.obl_free rfl ?_
          have hx' : Below W8.heap.size W8 wx := hx
          have hld := run_ld (P := Try.prog) arrPage (HS4_8.out.next hx') HQ.out
          exact Reg.wp_eqv (Option.some_ne_none _) (by go_simp) rfl
        · intro ax wx hx hs
          obtain ⟨e50, e51, -⟩ := hs
          have g50 := Reg.ev (v := .agg (rowV (PageP.q4 l i ⟨s, k, kind, data, lo, hi, val⟩ m))) e50
          have g51 := Reg.ev (v := .agg (rowV (PageP.q4 l i ⟨s, k, kind, data, lo, hi, val⟩ m))) e51
          refine Reg.obl_free rfl ?_
          exact Reg.wp_eqv (Option.some_ne_none _) (by go_simp) rfl
        · intro ax wx hx hs
          obtain ⟨e52, -⟩ := hs
          have g52 := Reg.ev (v := .bool false) e52
          exact Reg.obl_free rfl (Reg.wp_eqv (Option.some_ne_none _) (by go_simp) rfl)
        · intro ax wx hx hs
          obtain ⟨e10, e53, -⟩ := hs
          have g10 := Reg.ev (v := .pointer (some ⟨W5.heap.size, 0, none⟩)) e10
          have g53 := Reg.ev (v := .bool false) e53
          refine Reg.obl_want rfl rfl e53 ?_
          have hx' : Below W8.heap.size W8 wx := hx
          have hld := run_ld (P := Try.prog) arrPage (HS3_8.out.next hx') HQ.out
          exact Reg.wp_eqv (Option.some_ne_none _) (by go_simp) rfl
        · intro ax wx hx hs
          obtain ⟨e54, e53, -⟩ := hs
          have g54 := Reg.ev (v := .agg (rowV (PageP.q4 l i ⟨s, k, kind, data, lo, hi, val⟩ m))) e54
          have g53 := Reg.ev (v := .bool false) e53
          refine Reg.obl_want rfl rfl e53 ?_
          go_simp
          refine (qno l HL.out i ⟨s, k, kind, data, lo, hi, val⟩ m _).mono ?_
          rintro e wy ⟨rfl, hby⟩
          rw [HXN.out]
          exact Reg.done (Option.some_ne_none _) rfl hby
        · intro ax wx hx hs
          obtain ⟨e9, e53, -⟩ := hs
          have g9 := Reg.ev (v := .pointer (some ⟨w.heap.size + 1 + 1, 0, none⟩)) e9
          have g53 := Reg.ev (v := .bool false) e53
          refine Reg.obl_want rfl rfl e53 ?_
          have hx' : Below W8.heap.size W8 wx := hx
          have hld := run_ld (P := Try.prog) arrPage (HS2_8.out.next hx') HL.out
          exact Reg.wp_eqv (Option.some_ne_none _) (by go_simp) rfl
        · intro ax wx hx hs
          obtain ⟨e56, e53, -⟩ := hs
          have g56 := Reg.ev (v := .agg (rowV l)) e56
          have g53 := Reg.ev (v := .bool false) e53
          refine Reg.obl_want rfl rfl e53 ?_
          go_simp
          refine (PageW.no_any l HL.out _).mono ?_
          rintro e wy ⟨rfl, hby⟩
          rw [HXN.out]
          exact Reg.done (Option.some_ne_none _) rfl hby
        · intro ax wx hx hs
          obtain ⟨e55, e57, e53, -⟩ := hs
          have g55 := Reg.ev (v := .int .i64 xn) e55
          have g57 := Reg.ev (v := .int .i64 xn) e57
          have g53 := Reg.ev (v := .bool false) e53
          exact Reg.obl_want rfl rfl e53 (Reg.wp_eqv (Option.some_ne_none _) (by go_simp) rfl)
        · intro ax wx hx hs
          obtain ⟨e53, e58, -⟩ := hs
          have g53 := Reg.ev (v := .bool false) e53
          have g58 := Reg.ev (v := .bool false) e58
          exact Reg.obl_free rfl (Reg.wp_eqv (Option.some_ne_none _) (by go_simp) rfl)
        · intro ax wx hx hs
          obtain ⟨e59, -⟩ := hs
          have g59 := Reg.ev (v := .bool false) e59
          exact Reg.obl_free rfl (Reg.wp_eqv (Option.some_ne_none _) (by go_simp) rfl)
        · intro ax wx hx hs
          obtain ⟨e10, e60, -⟩ := hs
          have g10 := Reg.ev (v := .pointer (some ⟨W5.heap.size, 0, none⟩)) e10
          have g60 := Reg.ev (v := .bool false) e60
          refine Reg.obl_want rfl rfl e60 ?_
          have hx' : Below W8.heap.size W8 wx := hx
          have hld := run_ld (P := Try.prog) arrPage (HS3_8.out.next hx') HQ.out
          exact Reg.wp_eqv (Option.some_ne_none _) (by go_simp) rfl
        · intro ax wx hx hs
          obtain ⟨e61, e60, -⟩ := hs
          have g61 := Reg.ev (v := .agg (rowV (PageP.q4 l i ⟨s, k, kind, data, lo, hi, val⟩ m))) e61
          have g60 := Reg.ev (v := .bool false) e60
          refine Reg.obl_want rfl rfl e60 ?_
          go_simp
          refine (PageW.next_any _ HQ.out _).mono ?_
          rintro e wy ⟨rfl, hby⟩
          rw [HNX.out]
          exact Reg.done (Option.some_ne_none _) rfl hby
        · intro ax wx hx hs
          obtain ⟨e3, e60, -⟩ := hs
          have g3 := Reg.ev (v := .int .i64 m) e3
          have g60 := Reg.ev (v := .bool false) e60
          exact Reg.obl_want rfl rfl e60 (Reg.wp_eqv (Option.some_ne_none _) (by go_simp) rfl)
        · intro ax wx hx hs
          obtain ⟨e63, e60, -⟩ := hs
          have g63 := Reg.ev (v := .int .i64 m) e63
          have g60 := Reg.ev (v := .bool false) e60
          exact Reg.obl_want rfl rfl e60 (Reg.wp_eqv (Option.some_ne_none _) (by go_simp) rfl)
        · intro ax wx hx hs
          obtain ⟨e62, e64, e60, -⟩ := hs
          have g62 := Reg.ev (v := .int .i64 (m.tmod 65536)) e62
          have g64 := Reg.ev (v := .int .i64 (m.tmod 65536)) e64
          have g60 := Reg.ev (v := .bool false) e60
          exact Reg.obl_want rfl rfl e60 (Reg.wp_eqv (Option.some_ne_none _) (by go_simp) rfl)
        · intro ax wx hx hs
          obtain ⟨e65, e60, -⟩ := hs
          have g65 := Reg.ev (v := .bool false) e65
          have g60 := Reg.ev (v := .bool false) e60
          exact Reg.obl_want rfl rfl e60 (Reg.wp_eqv (Option.some_ne_none _) (by go_simp) rfl)
        · intro ax wx hx hs
          obtain ⟨e3, e66, -⟩ := hs
          have g3 := Reg.ev (v := .int .i64 m) e3
          have g66 := Reg.ev (v := .bool false) e66
          exact Reg.obl_skip rfl rfl e66 rfl rfl
        · intro ax wx hx hs
          obtain ⟨e67, e66, -⟩ := hs
          have g67 := Reg.ev (v := undef) e67
          have g66 := Reg.ev (v := .bool false) e66
          exact Reg.obl_skip rfl rfl e66 rfl rfl
        · intro ax wx hx hs
          obtain ⟨e66, e68, e60, -⟩ := hs
          have g66 := Reg.ev (v := .bool false) e66
          have g68 := Reg.ev (v := undef) e68
          have g60 := Reg.ev (v := .bool false) e60
          exact Reg.obl_want rfl rfl e60 (Reg.wp_eqv (Option.some_ne_none _) (by go_simp) rfl)
        · intro ax wx hx hs
          obtain ⟨e60, e69, -⟩ := hs
          have g60 := Reg.ev (v := .bool false) e60
          have g69 := Reg.ev (v := .bool false) e69
          exact Reg.obl_free rfl (Reg.wp_eqv (Option.some_ne_none _) (by go_simp) rfl)
        · intro ax wx hx hs
          obtain ⟨e70, -⟩ := hs
          have g70 := Reg.ev (v := .bool false) e70
          exact Reg.obl_free rfl (Reg.wp_eqv (Option.some_ne_none _) (by go_simp) rfl)
        · intro ax wx hx hs
          obtain ⟨e10, e71, -⟩ := hs
          have g10 := Reg.ev (v := .pointer (some ⟨W5.heap.size, 0, none⟩)) e10
          have g71 := Reg.ev (v := .bool false) e71
          refine Reg.obl_want rfl rfl e71 ?_
          have hx' : Below W8.heap.size W8 wx := hx
          have hld := run_ld (P := Try.prog) arrPage (HS3_8.out.next hx') HQ.out
          exact Reg.wp_eqv (Option.some_ne_none _) (by go_simp) rfl
        · intro ax wx hx hs
          obtain ⟨e72, e71, -⟩ := hs
          have g72 := Reg.ev (v := .agg (rowV (PageP.q4 l i ⟨s, k, kind, data, lo, hi, val⟩ m))) e72
          have g71 := Reg.ev (v := .bool false) e71
          refine Reg.obl_want rfl rfl e71 ?_
          go_simp
          refine (qlsn l HL.out i ⟨s, k, kind, data, lo, hi, val⟩ m HM.out _).mono ?_
          rintro e wy ⟨rfl, hby⟩
          exact Reg.done (Option.some_ne_none _) rfl hby
        · intro ax wx hx hs
          obtain ⟨e3, e71, -⟩ := hs
          have g3 := Reg.ev (v := .int .i64 m) e3
          have g71 := Reg.ev (v := .bool false) e71
          exact Reg.obl_want rfl rfl e71 (Reg.wp_eqv (Option.some_ne_none _) (by go_simp) rfl)
        · intro ax wx hx hs
          obtain ⟨e73, e74, e71, -⟩ := hs
          have g73 := Reg.ev (v := .int .i64 m) e73
          have g74 := Reg.ev (v := .int .i64 m) e74
          have g71 := Reg.ev (v := .bool false) e71
          exact Reg.obl_want rfl rfl e71 (Reg.wp_eqv (Option.some_ne_none _) (by go_simp) rfl)
        · intro ax wx hx hs
          obtain ⟨e71, e75, -⟩ := hs
          have g71 := Reg.ev (v := .bool false) e71
          have g75 := Reg.ev (v := .bool false) e75
          exact Reg.obl_free rfl (Reg.wp_eqv (Option.some_ne_none _) (by go_simp) rfl)
        · intro ax wx hx hs
          obtain ⟨e76, -⟩ := hs
          have g76 := Reg.ev (v := .bool false) e76
          exact Reg.obl_free rfl (Reg.wp_eqv (Option.some_ne_none _) (by go_simp) rfl)
        · intro ax wx hx hs
          obtain ⟨e10, e77, -⟩ := hs
          have g10 := Reg.ev (v := .pointer (some ⟨W5.heap.size, 0, none⟩)) e10
          have g77 := Reg.ev (v := .bool false) e77
          refine Reg.obl_want rfl rfl e77 ?_
          have hx' : Below W8.heap.size W8 wx := hx
          have hld := run_ld (P := Try.prog) arrPage (HS3_8.out.next hx') HQ.out
          exact Reg.wp_eqv (Option.some_ne_none _) (by go_simp) rfl
        · intro ax wx hx hs
          obtain ⟨e78, e77, -⟩ := hs
          have g78 := Reg.ev (v := .agg (rowV (PageP.q4 l i ⟨s, k, kind, data, lo, hi, val⟩ m))) e78
          have g77 := Reg.ev (v := .bool false) e77
          refine Reg.obl_want rfl rfl e77 ?_
          go_simp
          refine (qnote l HL.out i ⟨s, k, kind, data, lo, hi, val⟩ m HM.out _).mono ?_
          rintro e wy ⟨rfl, hby⟩
          exact Reg.done (Option.some_ne_none _) rfl hby
        · intro ax wx hx hs
          obtain ⟨e3, e77, -⟩ := hs
          have g3 := Reg.ev (v := .int .i64 m) e3
          have g77 := Reg.ev (v := .bool false) e77
          exact Reg.obl_want rfl rfl e77 (Reg.wp_eqv (Option.some_ne_none _) (by go_simp) rfl)
        · intro ax wx hx hs
          obtain ⟨e79, e80, e77, -⟩ := hs
          have g79 := Reg.ev (v := .int .i64 m) e79
          have g80 := Reg.ev (v := .int .i64 m) e80
          have g77 := Reg.ev (v := .bool false) e77
          exact Reg.obl_want rfl rfl e77 (Reg.wp_eqv (Option.some_ne_none _) (by go_simp) rfl)
        · intro ax wx hx hs
          obtain ⟨e77, e81, -⟩ := hs
          have g77 := Reg.ev (v := .bool false) e77
          have g81 := Reg.ev (v := .bool false) e81
          exact Reg.obl_free rfl (Reg.wp_eqv (Option.some_ne_none _) (by go_simp) rfl)
      · intro W9 hwf
        simp only [Reg.Fin]
        rintro _ rfl _ rfl _ rfl _ rfl _ rfl _ rfl _ rfl _ rfl _ rfl _ rfl _ rfl _ rfl _ rfl _ rfl _ rfl _ rfl _ rfl _ rfl _ rfl _ rfl _ rfl _ rfl _ rfl _ rfl _ rfl _ rfl _ rfl _ rfl _ rfl _ rfl _ rfl _ rfl _ rfl
        go_simp
        have HS0_9 := Lib.hid (HS0_8.out.next hwf)
        have HS1_9 := Lib.hid (HS1_8.out.next hwf)
        have HS2_9 := Lib.hid (HS2_8.out.next hwf)
        have HS3_9 := Lib.hid (HS3_8.out.next hwf)
        have HS4_9 := Lib.hid (HS4_8.out.next hwf)
        have HB_9 := Lib.hid (bstep HB_8.out hwf)
        have hw_9 := HB_9.out.size
        have hws_9 := (hwf).size
        clear HS0_8 f1_8_0 f1_8_1 f1_8_2 f1_8_3 f1_8_4 f1_8_5 f1_8_6 HS1_8 HS2_8 HS3_8 HS4_8
        clear hwf
        have hl0_9 := HS0_9.out.lt
        obtain ⟨f1_9_0, f1_9_1, f1_9_2, f1_9_3, f1_9_4, f1_9_5, f1_9_6⟩ := str7 HS1_9.out
        have hl1_9 := HS1_9.out.lt
        have hl2_9 := HS2_9.out.lt
        have hl3_9 := HS3_9.out.lt
        have hl4_9 := HS4_9.out.lt
        clear harr hgd
        go_wp2_with fail
        go_loopw [12] (fun j wr => Apt w (w.heap.size + 1 + 1) W5.heap.size l (PageP.q4 l i ⟨s, k, kind, data, lo, hi, val⟩ m) j wr) (fun j _ => 7 - (intOf j).toNat)
        case atStart => exact ⟨0, by omega, rfl, HS2_9.out, HS3_9.out, HB_9.out⟩
        case round =>
          obtain ⟨j, hj, rfl, hS, hS', hB⟩ := hrel
          have HS := Lib.hid hS
          have HS' := Lib.hid hS'
          have HB := Lib.hid hB
          clear hS hS' hB
          by_cases hlt : j < 7
          · have HSL := Lib.hid (PageP.q4_slot l HL.out i ⟨s, k, kind, data, lo, hi, val⟩ m j hlt)
            have HC1 := Lib.hid (fun W => PageW.slot_any _ HQ.out (j : Int) W)
            have HC2 := Lib.hid (fun W => PageW.slot_any l HL.out (j : Int) W)
            generalize PageP.slot (PageP.q4 l i ⟨s, k, kind, data, lo, hi, val⟩ m) (j : Int) = r at *
            generalize PageP.slot l (j : Int) = r' at *
            obtain ⟨⟨xs, xk, xkind, xdata, xlo, xhi, xval⟩, xe⟩ := r
            obtain ⟨⟨ys, yk, ykind, ydata, ylo, yhi, yval⟩, ye⟩ := r'
            by_cases hji : (j : Int) = i
            · have hjn : ((j : Int) != i) = false := by rw [hji]; simp
              clear hji HSL
              have HS0_10 := Lib.hid HS.out
              have HS1_10 := Lib.hid HS'.out
              have HB_10 := Lib.hid HB.out
              have hw_10 := HB_10.out.size
              have hl0_10 := HS.out.lt
              clear HS HS' HB
              have hld := run_ld (P := Try.prog) arrPage HS1_10.out HQ.out
              go_wp2_with fail
              refine (HC1.out _).mono ?_
              rintro e W11 ⟨A1, n1, c1, rfl, hy1, hb11⟩
              dsimp only at *
              clear hld
              have HS0_11 := Lib.hid (HS0_10.out.next hb11)
              have HS1_11 := Lib.hid (HS1_10.out.next hb11)
              have HB_11 := Lib.hid (bstep HB_10.out hb11)
              have hw_11 := HB_11.out.size
              have hws_11 := (hb11).size
              clear HS0_10 HS1_10
              clear hb11
              have hl0_11 := HS0_11.out.lt
              have hl1_11 := HS1_11.out.lt
              have HYx_11 := Lib.hid (hy1)
              clear hy1
              go_wp2_with fail
              generalize hW12 : W11.alloc (.cells #[.int .i64 xs, .string xk, .int .i64 xkind, .slice A1 n1 c1, .int .i64 xlo, .int .i64 xhi, .int .i64 xval] 38) = W12
              have HS0_12 : Hid (Str W12 (w.heap.size + 1 + 1) (rowV l)) := Lib.hid (by rw [← hW12]; exact HS0_11.out.alloc _)
              have HS1_12 : Hid (Str W12 (W5.heap.size) (rowV (PageP.q4 l i ⟨s, k, kind, data, lo, hi, val⟩ m))) := Lib.hid (by rw [← hW12]; exact HS1_11.out.alloc _)
              have HS2_12 : Hid (Str W12 W11.heap.size #[.int .i64 xs, .string xk, .int .i64 xkind, .slice A1 n1 c1, .int .i64 xlo, .int .i64 xhi, .int .i64 xval]) := Lib.hid (by rw [← hW12]; exact Str.new W11 #[.int .i64 xs, .string xk, .int .i64 xkind, .slice A1 n1 c1, .int .i64 xlo, .int .i64 xhi, .int .i64 xval] 38)
              have hba12 : Below W11.heap.size W11 W12 := by rw [← hW12]; exact balloc (bsame _) _
              have HB_12 := Lib.hid (bstep HB_11.out hba12)
              have hw_12 := HB_12.out.size
              have hws_12 := hba12.size
              have HYx_12 := Lib.hid (HYx_11.out.next hba12)
              clear HYx_11
              clear hW12
              clear HS0_11 HS1_11
              have hl0_12 := HS0_12.out.lt
              have hl1_12 := HS1_12.out.lt
              obtain ⟨f2_12_0, f2_12_1, f2_12_2, f2_12_3, f2_12_4, f2_12_5, f2_12_6⟩ := str7 HS2_12.out
              have hl2_12 := HS2_12.out.lt
              clear hba12
              have hldp := run_ld (P := Try.prog) arrPage HS0_12.out HL.out
              go_simp
              go_wp2_with fail
              refine (HC2.out _).mono ?_
              rintro e W13 ⟨A2, n2, c2, rfl, hy2, hb13⟩
              dsimp only at *
              clear hldp
              have HS0_13 := Lib.hid (HS0_12.out.next hb13)
              have HS1_13 := Lib.hid (HS1_12.out.next hb13)
              have HS2_13 := Lib.hid (HS2_12.out.next hb13)
              have HB_13 := Lib.hid (bstep HB_12.out hb13)
              have hw_13 := HB_13.out.size
              have hws_13 := (hb13).size
              have HYx_13 := Lib.hid (HYx_12.out.next hb13)
              clear HYx_12
              clear HS0_12 HS1_12 f2_12_0 f2_12_1 f2_12_2 f2_12_3 f2_12_4 f2_12_5 f2_12_6 HS2_12
              clear hb13
              have hl0_13 := HS0_13.out.lt
              have hl1_13 := HS1_13.out.lt
              obtain ⟨f2_13_0, f2_13_1, f2_13_2, f2_13_3, f2_13_4, f2_13_5, f2_13_6⟩ := str7 HS2_13.out
              have hl2_13 := HS2_13.out.lt
              have HYy_13 := Lib.hid (hy2)
              clear hy2
              go_wp2_with fail
              go_roundw
              case rel => exact ⟨j + 1, by omega, by go_num, HS0_13.out.alloc _, HS1_13.out.alloc _, balloc HB_13.out _⟩
              case measure => simp [intOf]; omega
            · have hjn : ((j : Int) != i) = true := by simpa using hji
              cases HSL.out hji
              clear hji HSL
              have HS0_10 := Lib.hid HS.out
              have HS1_10 := Lib.hid HS'.out
              have HB_10 := Lib.hid HB.out
              have hw_10 := HB_10.out.size
              have hl0_10 := HS.out.lt
              clear HS HS' HB
              have hld := run_ld (P := Try.prog) arrPage HS1_10.out HQ.out
              go_wp2_with fail
              refine (HC1.out _).mono ?_
              rintro e W11 ⟨A1, n1, c1, rfl, hy1, hb11⟩
              dsimp only at *
              clear hld
              have HS0_11 := Lib.hid (HS0_10.out.next hb11)
              have HS1_11 := Lib.hid (HS1_10.out.next hb11)
              have HB_11 := Lib.hid (bstep HB_10.out hb11)
              have hw_11 := HB_11.out.size
              have hws_11 := (hb11).size
              clear HS0_10 HS1_10
              clear hb11
              have hl0_11 := HS0_11.out.lt
              have hl1_11 := HS1_11.out.lt
              have HYx_11 := Lib.hid (hy1)
              clear hy1
              go_wp2_with fail
              generalize hW12 : W11.alloc (.cells #[.int .i64 xs, .string xk, .int .i64 xkind, .slice A1 n1 c1, .int .i64 xlo, .int .i64 xhi, .int .i64 xval] 38) = W12
              have HS0_12 : Hid (Str W12 (w.heap.size + 1 + 1) (rowV l)) := Lib.hid (by rw [← hW12]; exact HS0_11.out.alloc _)
              have HS1_12 : Hid (Str W12 (W5.heap.size) (rowV (PageP.q4 l i ⟨s, k, kind, data, lo, hi, val⟩ m))) := Lib.hid (by rw [← hW12]; exact HS1_11.out.alloc _)
              have HS2_12 : Hid (Str W12 W11.heap.size #[.int .i64 xs, .string xk, .int .i64 xkind, .slice A1 n1 c1, .int .i64 xlo, .int .i64 xhi, .int .i64 xval]) := Lib.hid (by rw [← hW12]; exact Str.new W11 #[.int .i64 xs, .string xk, .int .i64 xkind, .slice A1 n1 c1, .int .i64 xlo, .int .i64 xhi, .int .i64 xval] 38)
              have hba12 : Below W11.heap.size W11 W12 := by rw [← hW12]; exact balloc (bsame _) _
              have HB_12 := Lib.hid (bstep HB_11.out hba12)
              have hw_12 := HB_12.out.size
              have hws_12 := hba12.size
              have HYx_12 := Lib.hid (HYx_11.out.next hba12)
              clear HYx_11
              clear hW12
              clear HS0_11 HS1_11
              have hl0_12 := HS0_12.out.lt
              have hl1_12 := HS1_12.out.lt
              obtain ⟨f2_12_0, f2_12_1, f2_12_2, f2_12_3, f2_12_4, f2_12_5, f2_12_6⟩ := str7 HS2_12.out
              have hl2_12 := HS2_12.out.lt
              clear hba12
              have hldp := run_ld (P := Try.prog) arrPage HS0_12.out HL.out
              go_simp
              go_wp2_with fail
              refine (HC2.out _).mono ?_
              rintro e W13 ⟨A2, n2, c2, rfl, hy2, hb13⟩
              dsimp only at *
              clear hldp
              have HS0_13 := Lib.hid (HS0_12.out.next hb13)
              have HS1_13 := Lib.hid (HS1_12.out.next hb13)
              have HS2_13 := Lib.hid (HS2_12.out.next hb13)
              have HB_13 := Lib.hid (bstep HB_12.out hb13)
              have hw_13 := HB_13.out.size
              have hws_13 := (hb13).size
              have HYx_13 := Lib.hid (HYx_12.out.next hb13)
              clear HYx_12
              clear HS0_12 HS1_12 f2_12_0 f2_12_1 f2_12_2 f2_12_3 f2_12_4 f2_12_5 f2_12_6 HS2_12
              clear hb13
              have hl0_13 := HS0_13.out.lt
              have hl1_13 := HS1_13.out.lt
              obtain ⟨f2_13_0, f2_13_1, f2_13_2, f2_13_3, f2_13_4, f2_13_5, f2_13_6⟩ := str7 HS2_13.out
              have hl2_13 := HS2_13.out.lt
              have HYy_13 := Lib.hid (hy2)
              clear hy2
              go_wp2_with fail
              generalize hW14 : W13.alloc (.cells #[.int .i64 xs, .string xk, .int .i64 xkind, .slice A2 n2 c2, .int .i64 xlo, .int .i64 xhi, .int .i64 xval] 38) = W14
              have HS0_14 : Hid (Str W14 (w.heap.size + 1 + 1) (rowV l)) := Lib.hid (by rw [← hW14]; exact HS0_13.out.alloc _)
              have HS1_14 : Hid (Str W14 (W5.heap.size) (rowV (PageP.q4 l i ⟨s, k, kind, data, lo, hi, val⟩ m))) := Lib.hid (by rw [← hW14]; exact HS1_13.out.alloc _)
              have HS2_14 : Hid (Str W14 (W11.heap.size) #[.int .i64 xs, .string xk, .int .i64 xkind, .slice A1 n1 c1, .int .i64 xlo, .int .i64 xhi, .int .i64 xval]) := Lib.hid (by rw [← hW14]; exact HS2_13.out.alloc _)
              have HS3_14 : Hid (Str W14 W13.heap.size #[.int .i64 xs, .string xk, .int .i64 xkind, .slice A2 n2 c2, .int .i64 xlo, .int .i64 xhi, .int .i64 xval]) := Lib.hid (by rw [← hW14]; exact Str.new W13 #[.int .i64 xs, .string xk, .int .i64 xkind, .slice A2 n2 c2, .int .i64 xlo, .int .i64 xhi, .int .i64 xval] 38)
              have hba14 : Below W13.heap.size W13 W14 := by rw [← hW14]; exact balloc (bsame _) _
              have HB_14 := Lib.hid (bstep HB_13.out hba14)
              have hw_14 := HB_14.out.size
              have hws_14 := hba14.size
              have HYx_14 := Lib.hid (HYx_13.out.next hba14)
              have HYy_14 := Lib.hid (HYy_13.out.next hba14)
              clear HYx_13 HYy_13
              clear hW14
              clear HS0_13 HS1_13 f2_13_0 f2_13_1 f2_13_2 f2_13_3 f2_13_4 f2_13_5 f2_13_6 HS2_13
              have hl0_14 := HS0_14.out.lt
              have hl1_14 := HS1_14.out.lt
              obtain ⟨f2_14_0, f2_14_1, f2_14_2, f2_14_3, f2_14_4, f2_14_5, f2_14_6⟩ := str7 HS2_14.out
              have hl2_14 := HS2_14.out.lt
              obtain ⟨f3_14_0, f3_14_1, f3_14_2, f3_14_3, f3_14_4, f3_14_5, f3_14_6⟩ := str7 HS3_14.out
              have hl3_14 := HS3_14.out.lt
              clear hba14
              go_wp2_with fail
              refine (SlotW.refSame_any A1 A2 n1 c1 n2 c2 W14.heap.size W14.heap.size ⟨xs, xk, xkind, xdata, xlo, xhi, xval⟩ ⟨xs, xk, xkind, xdata, xlo, xhi, xval⟩ _ HYx_14.out HYy_14.out (Nat.le_refl _) (Nat.le_refl _)).mono ?_
              rintro e W15 ⟨rfl, hb15⟩
              rw [SlotP.same_self]
              have HS0_15 := Lib.hid (HS0_14.out.next hb15)
              have HS1_15 := Lib.hid (HS1_14.out.next hb15)
              have HS2_15 := Lib.hid (HS2_14.out.next hb15)
              have HS3_15 := Lib.hid (HS3_14.out.next hb15)
              have HB_15 := Lib.hid (bstep HB_14.out hb15)
              have hw_15 := HB_15.out.size
              have hws_15 := (hb15).size
              have HYx_15 := Lib.hid (HYx_14.out.next hb15)
              have HYy_15 := Lib.hid (HYy_14.out.next hb15)
              clear HYx_14 HYy_14
              clear HS0_14 HS1_14 f2_14_0 f2_14_1 f2_14_2 f2_14_3 f2_14_4 f2_14_5 f2_14_6 HS2_14 f3_14_0 f3_14_1 f3_14_2 f3_14_3 f3_14_4 f3_14_5 f3_14_6 HS3_14
              clear hb15
              have hl0_15 := HS0_15.out.lt
              have hl1_15 := HS1_15.out.lt
              obtain ⟨f2_15_0, f2_15_1, f2_15_2, f2_15_3, f2_15_4, f2_15_5, f2_15_6⟩ := str7 HS2_15.out
              have hl2_15 := HS2_15.out.lt
              obtain ⟨f3_15_0, f3_15_1, f3_15_2, f3_15_3, f3_15_4, f3_15_5, f3_15_6⟩ := str7 HS3_15.out
              have hl3_15 := HS3_15.out.lt
              go_wp2_with fail
              refine (Live07.code_any _ _).mono ?_
              rintro e W15_ ⟨rfl, rfl⟩
              go_wp2_with fail
              refine (Live07.code_any _ _).mono ?_
              rintro e W15_ ⟨rfl, rfl⟩
              go_wp2_with fail
              go_roundw
              case rel => exact ⟨j + 1, by omega, by go_num, HS0_15.out, HS1_15.out, HB_15.out⟩
              case measure => simp [intOf]; omega
          · have hk7 : j = 7 := by omega
            subst hk7
            go_wp2_with fail
            refine (Live07.live_any _).mono ?_
            rintro e w5 ⟨rfl, hb5⟩
            go_wp2_with fail
            go_ret
            exact ⟨rfl, bstep HB.out hb5⟩
    · have hne : (nx != m.tmod 65536) = true := by simpa using hcs
      have HCS := Lib.hid hcs
      clear hcs
      refine Reg.wp_region_vals (R := ext) (W := W8) [Reg.eqv (.agg (rowV (PageP.q4 l i ⟨s, k, kind, data, lo, hi, val⟩ m))), Reg.eqv (.agg (rowV (PageP.q4 l i ⟨s, k, kind, data, lo, hi, val⟩ m))), Reg.eqv (.bool false), Reg.eqv (.bool false), Reg.eqv (.agg (rowV (PageP.q4 l i ⟨s, k, kind, data, lo, hi, val⟩ m))), Reg.eqv (.int .i64 xn), Reg.eqv (.agg (rowV l)), Reg.eqv (.int .i64 xn), Reg.eqv (.bool false), Reg.eqv (.bool false), Reg.eqv (.bool false), Reg.eqv (.agg (rowV (PageP.q4 l i ⟨s, k, kind, data, lo, hi, val⟩ m))), Reg.eqv (.int .i64 nx), Reg.eqv (.int .i64 m), Reg.eqv (.int .i64 (m.tmod 65536)), Reg.eqv (.bool true), Reg.eqv (.bool true), Reg.eqv (.int .i64 m), Reg.eqv (.bool false), Reg.eqv (.bool false), Reg.eqv (.bool false), Reg.eqv (.bool false), Reg.eqv (.agg (rowV (PageP.q4 l i ⟨s, k, kind, data, lo, hi, val⟩ m))), Reg.eqv (.int .i64 m), Reg.eqv (.int .i64 m), Reg.eqv (.bool false), Reg.eqv (.bool false), Reg.eqv (.bool false), Reg.eqv (.agg (rowV (PageP.q4 l i ⟨s, k, kind, data, lo, hi, val⟩ m))), Reg.eqv (.int .i64 m), Reg.eqv (.int .i64 m), Reg.eqv (.bool false), Reg.eqv (.bool false)] 116 [[(10, none)], [(11, none)], [(50, some 0), (51, some 1)], [(52, some 2)], [(10, none), (53, some 3)], [(54, some 4), (53, some 3)], [(9, none), (53, some 3)], [(56, some 6), (53, some 3)], [(55, some 5), (57, some 7), (53, some 3)], [(53, some 3), (58, some 8)], [(59, some 9)], [(10, none), (60, some 10)], [(61, some 11), (60, some 10)], [(3, none), (60, some 10)], [(63, some 13), (60, some 10)], [(62, some 12), (64, some 14), (60, some 10)], [(65, some 15), (60, some 10)], [(3, none), (66, some 16)], [(67, some 17), (66, some 16)], [(66, some 16), (68, some 18), (60, some 10)], [(60, some 10), (69, some 19)], [(70, some 20)], [(10, none), (71, some 21)], [(72, some 22), (71, some 21)], [(3, none), (71, some 21)], [(73, some 23), (74, some 24), (71, some 21)], [(71, some 21), (75, some 25)], [(76, some 26)], [(10, none), (77, some 27)], [(78, some 28), (77, some 27)], [(3, none), (77, some 27)], [(79, some 29), (80, some 30), (77, some 27)], [(77, some 27), (81, some 31)]] rfl (by kernel_rfl) (by kernel_rfl) (by kernel_rfl) ?_ [some 50, some 51, some 52, some 53, some 54, some 55, some 56, some 57, some 58, some 59, some 60, some 61, some 62, some 63, some 64, some 65, some 66, some 67, some 68, some 69, some 70, some 71, some 72, some 73, some 74, some 75, some 76, some 77, some 78, some 79, some 80, some 81, some 82] (by kernel_rfl) ?_
      · refine ⟨?_, ?_, ?_, ?_, ?_, ?_, ?_, ?_, ?_, ?_, ?_, ?_, ?_, ?_, ?_, ?_, ?_, ?_, ?_, ?_, ?_, ?_, ?_, ?_, ?_, ?_, ?_, ?_, ?_, ?_, ?_, ?_, ?_, trivial⟩
        · intro ax wx hx hs
          obtain ⟨e10, -⟩ := hs
          have g10 := Reg.ev (v := .pointer (some ⟨W5.heap.size, 0, none⟩)) e10
          refine Reg.obl_free rfl ?_
          have hx' : Below W8.heap.size W8 wx := hx
          have hld := run_ld (P := Try.prog) arrPage (HS3_8.out.next hx') HQ.out
          exact Reg.wp_eqv (Option.some_ne_none _) (by go_simp) rfl
        · intro ax wx hx hs
          obtain ⟨e11, -⟩ := hs
          have g11 := Reg.ev (v := .pointer (some ⟨g, 0, none⟩)) e11
          refine Reg.obl_free rfl ?_
          have hx' : Below W8.heap.size W8 wx := hx
          have hld := run_ld (P := Try.prog) arrPage (HS4_8.out.next hx') HQ.out
          exact Reg.wp_eqv (Option.some_ne_none _) (by go_simp) rfl
        · intro ax wx hx hs
          obtain ⟨e50, e51, -⟩ := hs
          have g50 := Reg.ev (v := .agg (rowV (PageP.q4 l i ⟨s, k, kind, data, lo, hi, val⟩ m))) e50
          have g51 := Reg.ev (v := .agg (rowV (PageP.q4 l i ⟨s, k, kind, data, lo, hi, val⟩ m))) e51
          refine Reg.obl_free rfl ?_
          exact Reg.wp_eqv (Option.some_ne_none _) (by go_simp) rfl
        · intro ax wx hx hs
          obtain ⟨e52, -⟩ := hs
          have g52 := Reg.ev (v := .bool false) e52
          exact Reg.obl_free rfl (Reg.wp_eqv (Option.some_ne_none _) (by go_simp) rfl)
        · intro ax wx hx hs
          obtain ⟨e10, e53, -⟩ := hs
          have g10 := Reg.ev (v := .pointer (some ⟨W5.heap.size, 0, none⟩)) e10
          have g53 := Reg.ev (v := .bool false) e53
          refine Reg.obl_want rfl rfl e53 ?_
          have hx' : Below W8.heap.size W8 wx := hx
          have hld := run_ld (P := Try.prog) arrPage (HS3_8.out.next hx') HQ.out
          exact Reg.wp_eqv (Option.some_ne_none _) (by go_simp) rfl
        · intro ax wx hx hs
          obtain ⟨e54, e53, -⟩ := hs
          have g54 := Reg.ev (v := .agg (rowV (PageP.q4 l i ⟨s, k, kind, data, lo, hi, val⟩ m))) e54
          have g53 := Reg.ev (v := .bool false) e53
          refine Reg.obl_want rfl rfl e53 ?_
          go_simp
          refine (qno l HL.out i ⟨s, k, kind, data, lo, hi, val⟩ m _).mono ?_
          rintro e wy ⟨rfl, hby⟩
          rw [HXN.out]
          exact Reg.done (Option.some_ne_none _) rfl hby
        · intro ax wx hx hs
          obtain ⟨e9, e53, -⟩ := hs
          have g9 := Reg.ev (v := .pointer (some ⟨w.heap.size + 1 + 1, 0, none⟩)) e9
          have g53 := Reg.ev (v := .bool false) e53
          refine Reg.obl_want rfl rfl e53 ?_
          have hx' : Below W8.heap.size W8 wx := hx
          have hld := run_ld (P := Try.prog) arrPage (HS2_8.out.next hx') HL.out
          exact Reg.wp_eqv (Option.some_ne_none _) (by go_simp) rfl
        · intro ax wx hx hs
          obtain ⟨e56, e53, -⟩ := hs
          have g56 := Reg.ev (v := .agg (rowV l)) e56
          have g53 := Reg.ev (v := .bool false) e53
          refine Reg.obl_want rfl rfl e53 ?_
          go_simp
          refine (PageW.no_any l HL.out _).mono ?_
          rintro e wy ⟨rfl, hby⟩
          rw [HXN.out]
          exact Reg.done (Option.some_ne_none _) rfl hby
        · intro ax wx hx hs
          obtain ⟨e55, e57, e53, -⟩ := hs
          have g55 := Reg.ev (v := .int .i64 xn) e55
          have g57 := Reg.ev (v := .int .i64 xn) e57
          have g53 := Reg.ev (v := .bool false) e53
          exact Reg.obl_want rfl rfl e53 (Reg.wp_eqv (Option.some_ne_none _) (by go_simp) rfl)
        · intro ax wx hx hs
          obtain ⟨e53, e58, -⟩ := hs
          have g53 := Reg.ev (v := .bool false) e53
          have g58 := Reg.ev (v := .bool false) e58
          exact Reg.obl_free rfl (Reg.wp_eqv (Option.some_ne_none _) (by go_simp) rfl)
        · intro ax wx hx hs
          obtain ⟨e59, -⟩ := hs
          have g59 := Reg.ev (v := .bool false) e59
          exact Reg.obl_free rfl (Reg.wp_eqv (Option.some_ne_none _) (by go_simp) rfl)
        · intro ax wx hx hs
          obtain ⟨e10, e60, -⟩ := hs
          have g10 := Reg.ev (v := .pointer (some ⟨W5.heap.size, 0, none⟩)) e10
          have g60 := Reg.ev (v := .bool false) e60
          refine Reg.obl_want rfl rfl e60 ?_
          have hx' : Below W8.heap.size W8 wx := hx
          have hld := run_ld (P := Try.prog) arrPage (HS3_8.out.next hx') HQ.out
          exact Reg.wp_eqv (Option.some_ne_none _) (by go_simp) rfl
        · intro ax wx hx hs
          obtain ⟨e61, e60, -⟩ := hs
          have g61 := Reg.ev (v := .agg (rowV (PageP.q4 l i ⟨s, k, kind, data, lo, hi, val⟩ m))) e61
          have g60 := Reg.ev (v := .bool false) e60
          refine Reg.obl_want rfl rfl e60 ?_
          go_simp
          refine (PageW.next_any _ HQ.out _).mono ?_
          rintro e wy ⟨rfl, hby⟩
          rw [HNX.out]
          exact Reg.done (Option.some_ne_none _) rfl hby
        · intro ax wx hx hs
          obtain ⟨e3, e60, -⟩ := hs
          have g3 := Reg.ev (v := .int .i64 m) e3
          have g60 := Reg.ev (v := .bool false) e60
          exact Reg.obl_want rfl rfl e60 (Reg.wp_eqv (Option.some_ne_none _) (by go_simp) rfl)
        · intro ax wx hx hs
          obtain ⟨e63, e60, -⟩ := hs
          have g63 := Reg.ev (v := .int .i64 m) e63
          have g60 := Reg.ev (v := .bool false) e60
          exact Reg.obl_want rfl rfl e60 (Reg.wp_eqv (Option.some_ne_none _) (by go_simp) rfl)
        · intro ax wx hx hs
          obtain ⟨e62, e64, e60, -⟩ := hs
          have g62 := Reg.ev (v := .int .i64 nx) e62
          have g64 := Reg.ev (v := .int .i64 (m.tmod 65536)) e64
          have g60 := Reg.ev (v := .bool false) e60
          exact Reg.obl_want rfl rfl e60 (Reg.wp_eqv (Option.some_ne_none _) (by go_simp) rfl)
        · intro ax wx hx hs
          obtain ⟨e65, e60, -⟩ := hs
          have g65 := Reg.ev (v := .bool true) e65
          have g60 := Reg.ev (v := .bool false) e60
          exact Reg.obl_want rfl rfl e60 (Reg.wp_eqv (Option.some_ne_none _) (by go_simp) rfl)
        · intro ax wx hx hs
          obtain ⟨e3, e66, -⟩ := hs
          have g3 := Reg.ev (v := .int .i64 m) e3
          have g66 := Reg.ev (v := .bool true) e66
          exact Reg.obl_want rfl rfl e66 (Reg.wp_eqv (Option.some_ne_none _) (by go_simp) rfl)
        · intro ax wx hx hs
          obtain ⟨e67, e66, -⟩ := hs
          have g67 := Reg.ev (v := .int .i64 m) e67
          have g66 := Reg.ev (v := .bool true) e66
          exact Reg.obl_want rfl rfl e66 (Reg.wp_eqv (Option.some_ne_none _) (by go_simp) rfl)
        · intro ax wx hx hs
          obtain ⟨e66, e68, e60, -⟩ := hs
          have g66 := Reg.ev (v := .bool true) e66
          have g68 := Reg.ev (v := .bool false) e68
          have g60 := Reg.ev (v := .bool false) e60
          exact Reg.obl_want rfl rfl e60 (Reg.wp_eqv (Option.some_ne_none _) (by go_simp) rfl)
        · intro ax wx hx hs
          obtain ⟨e60, e69, -⟩ := hs
          have g60 := Reg.ev (v := .bool false) e60
          have g69 := Reg.ev (v := .bool false) e69
          exact Reg.obl_free rfl (Reg.wp_eqv (Option.some_ne_none _) (by go_simp) rfl)
        · intro ax wx hx hs
          obtain ⟨e70, -⟩ := hs
          have g70 := Reg.ev (v := .bool false) e70
          exact Reg.obl_free rfl (Reg.wp_eqv (Option.some_ne_none _) (by go_simp) rfl)
        · intro ax wx hx hs
          obtain ⟨e10, e71, -⟩ := hs
          have g10 := Reg.ev (v := .pointer (some ⟨W5.heap.size, 0, none⟩)) e10
          have g71 := Reg.ev (v := .bool false) e71
          refine Reg.obl_want rfl rfl e71 ?_
          have hx' : Below W8.heap.size W8 wx := hx
          have hld := run_ld (P := Try.prog) arrPage (HS3_8.out.next hx') HQ.out
          exact Reg.wp_eqv (Option.some_ne_none _) (by go_simp) rfl
        · intro ax wx hx hs
          obtain ⟨e72, e71, -⟩ := hs
          have g72 := Reg.ev (v := .agg (rowV (PageP.q4 l i ⟨s, k, kind, data, lo, hi, val⟩ m))) e72
          have g71 := Reg.ev (v := .bool false) e71
          refine Reg.obl_want rfl rfl e71 ?_
          go_simp
          refine (qlsn l HL.out i ⟨s, k, kind, data, lo, hi, val⟩ m HM.out _).mono ?_
          rintro e wy ⟨rfl, hby⟩
          exact Reg.done (Option.some_ne_none _) rfl hby
        · intro ax wx hx hs
          obtain ⟨e3, e71, -⟩ := hs
          have g3 := Reg.ev (v := .int .i64 m) e3
          have g71 := Reg.ev (v := .bool false) e71
          exact Reg.obl_want rfl rfl e71 (Reg.wp_eqv (Option.some_ne_none _) (by go_simp) rfl)
        · intro ax wx hx hs
          obtain ⟨e73, e74, e71, -⟩ := hs
          have g73 := Reg.ev (v := .int .i64 m) e73
          have g74 := Reg.ev (v := .int .i64 m) e74
          have g71 := Reg.ev (v := .bool false) e71
          exact Reg.obl_want rfl rfl e71 (Reg.wp_eqv (Option.some_ne_none _) (by go_simp) rfl)
        · intro ax wx hx hs
          obtain ⟨e71, e75, -⟩ := hs
          have g71 := Reg.ev (v := .bool false) e71
          have g75 := Reg.ev (v := .bool false) e75
          exact Reg.obl_free rfl (Reg.wp_eqv (Option.some_ne_none _) (by go_simp) rfl)
        · intro ax wx hx hs
          obtain ⟨e76, -⟩ := hs
          have g76 := Reg.ev (v := .bool false) e76
          exact Reg.obl_free rfl (Reg.wp_eqv (Option.some_ne_none _) (by go_simp) rfl)
        · intro ax wx hx hs
          obtain ⟨e10, e77, -⟩ := hs
          have g10 := Reg.ev (v := .pointer (some ⟨W5.heap.size, 0, none⟩)) e10
          have g77 := Reg.ev (v := .bool false) e77
          refine Reg.obl_want rfl rfl e77 ?_
          have hx' : Below W8.heap.size W8 wx := hx
          have hld := run_ld (P := Try.prog) arrPage (HS3_8.out.next hx') HQ.out
          exact Reg.wp_eqv (Option.some_ne_none _) (by go_simp) rfl
        · intro ax wx hx hs
          obtain ⟨e78, e77, -⟩ := hs
          have g78 := Reg.ev (v := .agg (rowV (PageP.q4 l i ⟨s, k, kind, data, lo, hi, val⟩ m))) e78
          have g77 := Reg.ev (v := .bool false) e77
          refine Reg.obl_want rfl rfl e77 ?_
          go_simp
          refine (qnote l HL.out i ⟨s, k, kind, data, lo, hi, val⟩ m HM.out _).mono ?_
          rintro e wy ⟨rfl, hby⟩
          exact Reg.done (Option.some_ne_none _) rfl hby
        · intro ax wx hx hs
          obtain ⟨e3, e77, -⟩ := hs
          have g3 := Reg.ev (v := .int .i64 m) e3
          have g77 := Reg.ev (v := .bool false) e77
          exact Reg.obl_want rfl rfl e77 (Reg.wp_eqv (Option.some_ne_none _) (by go_simp) rfl)
        · intro ax wx hx hs
          obtain ⟨e79, e80, e77, -⟩ := hs
          have g79 := Reg.ev (v := .int .i64 m) e79
          have g80 := Reg.ev (v := .int .i64 m) e80
          have g77 := Reg.ev (v := .bool false) e77
          exact Reg.obl_want rfl rfl e77 (Reg.wp_eqv (Option.some_ne_none _) (by go_simp) rfl)
        · intro ax wx hx hs
          obtain ⟨e77, e81, -⟩ := hs
          have g77 := Reg.ev (v := .bool false) e77
          have g81 := Reg.ev (v := .bool false) e81
          exact Reg.obl_free rfl (Reg.wp_eqv (Option.some_ne_none _) (by go_simp) rfl)
      · intro W9 hwf
        simp only [Reg.Fin]
        rintro _ rfl _ rfl _ rfl _ rfl _ rfl _ rfl _ rfl _ rfl _ rfl _ rfl _ rfl _ rfl _ rfl _ rfl _ rfl _ rfl _ rfl _ rfl _ rfl _ rfl _ rfl _ rfl _ rfl _ rfl _ rfl _ rfl _ rfl _ rfl _ rfl _ rfl _ rfl _ rfl _ rfl
        go_simp
        have HS0_9 := Lib.hid (HS0_8.out.next hwf)
        have HS1_9 := Lib.hid (HS1_8.out.next hwf)
        have HS2_9 := Lib.hid (HS2_8.out.next hwf)
        have HS3_9 := Lib.hid (HS3_8.out.next hwf)
        have HS4_9 := Lib.hid (HS4_8.out.next hwf)
        have HB_9 := Lib.hid (bstep HB_8.out hwf)
        have hw_9 := HB_9.out.size
        have hws_9 := (hwf).size
        clear HS0_8 f1_8_0 f1_8_1 f1_8_2 f1_8_3 f1_8_4 f1_8_5 f1_8_6 HS1_8 HS2_8 HS3_8 HS4_8
        clear hwf
        have hl0_9 := HS0_9.out.lt
        obtain ⟨f1_9_0, f1_9_1, f1_9_2, f1_9_3, f1_9_4, f1_9_5, f1_9_6⟩ := str7 HS1_9.out
        have hl1_9 := HS1_9.out.lt
        have hl2_9 := HS2_9.out.lt
        have hl3_9 := HS3_9.out.lt
        have hl4_9 := HS4_9.out.lt
        clear harr hgd
        go_wp2_with fail
        go_loopw [12] (fun j wr => Apt w (w.heap.size + 1 + 1) W5.heap.size l (PageP.q4 l i ⟨s, k, kind, data, lo, hi, val⟩ m) j wr) (fun j _ => 7 - (intOf j).toNat)
        case atStart => exact ⟨0, by omega, rfl, HS2_9.out, HS3_9.out, HB_9.out⟩
        case round =>
          obtain ⟨j, hj, rfl, hS, hS', hB⟩ := hrel
          have HS := Lib.hid hS
          have HS' := Lib.hid hS'
          have HB := Lib.hid hB
          clear hS hS' hB
          by_cases hlt : j < 7
          · have HSL := Lib.hid (PageP.q4_slot l HL.out i ⟨s, k, kind, data, lo, hi, val⟩ m j hlt)
            have HC1 := Lib.hid (fun W => PageW.slot_any _ HQ.out (j : Int) W)
            have HC2 := Lib.hid (fun W => PageW.slot_any l HL.out (j : Int) W)
            generalize PageP.slot (PageP.q4 l i ⟨s, k, kind, data, lo, hi, val⟩ m) (j : Int) = r at *
            generalize PageP.slot l (j : Int) = r' at *
            obtain ⟨⟨xs, xk, xkind, xdata, xlo, xhi, xval⟩, xe⟩ := r
            obtain ⟨⟨ys, yk, ykind, ydata, ylo, yhi, yval⟩, ye⟩ := r'
            by_cases hji : (j : Int) = i
            · have hjn : ((j : Int) != i) = false := by rw [hji]; simp
              clear hji HSL
              have HS0_10 := Lib.hid HS.out
              have HS1_10 := Lib.hid HS'.out
              have HB_10 := Lib.hid HB.out
              have hw_10 := HB_10.out.size
              have hl0_10 := HS.out.lt
              clear HS HS' HB
              have hld := run_ld (P := Try.prog) arrPage HS1_10.out HQ.out
              go_wp2_with fail
              refine (HC1.out _).mono ?_
              rintro e W11 ⟨A1, n1, c1, rfl, hy1, hb11⟩
              dsimp only at *
              clear hld
              have HS0_11 := Lib.hid (HS0_10.out.next hb11)
              have HS1_11 := Lib.hid (HS1_10.out.next hb11)
              have HB_11 := Lib.hid (bstep HB_10.out hb11)
              have hw_11 := HB_11.out.size
              have hws_11 := (hb11).size
              clear HS0_10 HS1_10
              clear hb11
              have hl0_11 := HS0_11.out.lt
              have hl1_11 := HS1_11.out.lt
              have HYx_11 := Lib.hid (hy1)
              clear hy1
              go_wp2_with fail
              generalize hW12 : W11.alloc (.cells #[.int .i64 xs, .string xk, .int .i64 xkind, .slice A1 n1 c1, .int .i64 xlo, .int .i64 xhi, .int .i64 xval] 38) = W12
              have HS0_12 : Hid (Str W12 (w.heap.size + 1 + 1) (rowV l)) := Lib.hid (by rw [← hW12]; exact HS0_11.out.alloc _)
              have HS1_12 : Hid (Str W12 (W5.heap.size) (rowV (PageP.q4 l i ⟨s, k, kind, data, lo, hi, val⟩ m))) := Lib.hid (by rw [← hW12]; exact HS1_11.out.alloc _)
              have HS2_12 : Hid (Str W12 W11.heap.size #[.int .i64 xs, .string xk, .int .i64 xkind, .slice A1 n1 c1, .int .i64 xlo, .int .i64 xhi, .int .i64 xval]) := Lib.hid (by rw [← hW12]; exact Str.new W11 #[.int .i64 xs, .string xk, .int .i64 xkind, .slice A1 n1 c1, .int .i64 xlo, .int .i64 xhi, .int .i64 xval] 38)
              have hba12 : Below W11.heap.size W11 W12 := by rw [← hW12]; exact balloc (bsame _) _
              have HB_12 := Lib.hid (bstep HB_11.out hba12)
              have hw_12 := HB_12.out.size
              have hws_12 := hba12.size
              have HYx_12 := Lib.hid (HYx_11.out.next hba12)
              clear HYx_11
              clear hW12
              clear HS0_11 HS1_11
              have hl0_12 := HS0_12.out.lt
              have hl1_12 := HS1_12.out.lt
              obtain ⟨f2_12_0, f2_12_1, f2_12_2, f2_12_3, f2_12_4, f2_12_5, f2_12_6⟩ := str7 HS2_12.out
              have hl2_12 := HS2_12.out.lt
              clear hba12
              have hldp := run_ld (P := Try.prog) arrPage HS0_12.out HL.out
              go_simp
              go_wp2_with fail
              refine (HC2.out _).mono ?_
              rintro e W13 ⟨A2, n2, c2, rfl, hy2, hb13⟩
              dsimp only at *
              clear hldp
              have HS0_13 := Lib.hid (HS0_12.out.next hb13)
              have HS1_13 := Lib.hid (HS1_12.out.next hb13)
              have HS2_13 := Lib.hid (HS2_12.out.next hb13)
              have HB_13 := Lib.hid (bstep HB_12.out hb13)
              have hw_13 := HB_13.out.size
              have hws_13 := (hb13).size
              have HYx_13 := Lib.hid (HYx_12.out.next hb13)
              clear HYx_12
              clear HS0_12 HS1_12 f2_12_0 f2_12_1 f2_12_2 f2_12_3 f2_12_4 f2_12_5 f2_12_6 HS2_12
              clear hb13
              have hl0_13 := HS0_13.out.lt
              have hl1_13 := HS1_13.out.lt
              obtain ⟨f2_13_0, f2_13_1, f2_13_2, f2_13_3, f2_13_4, f2_13_5, f2_13_6⟩ := str7 HS2_13.out
              have hl2_13 := HS2_13.out.lt
              have HYy_13 := Lib.hid (hy2)
              clear hy2
              go_wp2_with fail
              go_roundw
              case rel => exact ⟨j + 1, by omega, by go_num, HS0_13.out.alloc _, HS1_13.out.alloc _, balloc HB_13.out _⟩
              case measure => simp [intOf]; omega
            · have hjn : ((j : Int) != i) = true := by simpa using hji
              cases HSL.out hji
              clear hji HSL
              have HS0_10 := Lib.hid HS.out
              have HS1_10 := Lib.hid HS'.out
              have HB_10 := Lib.hid HB.out
              have hw_10 := HB_10.out.size
              have hl0_10 := HS.out.lt
              clear HS HS' HB
              have hld := run_ld (P := Try.prog) arrPage HS1_10.out HQ.out
              go_wp2_with fail
              refine (HC1.out _).mono ?_
              rintro e W11 ⟨A1, n1, c1, rfl, hy1, hb11⟩
              dsimp only at *
              clear hld
              have HS0_11 := Lib.hid (HS0_10.out.next hb11)
              have HS1_11 := Lib.hid (HS1_10.out.next hb11)
              have HB_11 := Lib.hid (bstep HB_10.out hb11)
              have hw_11 := HB_11.out.size
              have hws_11 := (hb11).size
              clear HS0_10 HS1_10
              clear hb11
              have hl0_11 := HS0_11.out.lt
              have hl1_11 := HS1_11.out.lt
              have HYx_11 := Lib.hid (hy1)
              clear hy1
              go_wp2_with fail
              generalize hW12 : W11.alloc (.cells #[.int .i64 xs, .string xk, .int .i64 xkind, .slice A1 n1 c1, .int .i64 xlo, .int .i64 xhi, .int .i64 xval] 38) = W12
              have HS0_12 : Hid (Str W12 (w.heap.size + 1 + 1) (rowV l)) := Lib.hid (by rw [← hW12]; exact HS0_11.out.alloc _)
              have HS1_12 : Hid (Str W12 (W5.heap.size) (rowV (PageP.q4 l i ⟨s, k, kind, data, lo, hi, val⟩ m))) := Lib.hid (by rw [← hW12]; exact HS1_11.out.alloc _)
              have HS2_12 : Hid (Str W12 W11.heap.size #[.int .i64 xs, .string xk, .int .i64 xkind, .slice A1 n1 c1, .int .i64 xlo, .int .i64 xhi, .int .i64 xval]) := Lib.hid (by rw [← hW12]; exact Str.new W11 #[.int .i64 xs, .string xk, .int .i64 xkind, .slice A1 n1 c1, .int .i64 xlo, .int .i64 xhi, .int .i64 xval] 38)
              have hba12 : Below W11.heap.size W11 W12 := by rw [← hW12]; exact balloc (bsame _) _
              have HB_12 := Lib.hid (bstep HB_11.out hba12)
              have hw_12 := HB_12.out.size
              have hws_12 := hba12.size
              have HYx_12 := Lib.hid (HYx_11.out.next hba12)
              clear HYx_11
              clear hW12
              clear HS0_11 HS1_11
              have hl0_12 := HS0_12.out.lt
              have hl1_12 := HS1_12.out.lt
              obtain ⟨f2_12_0, f2_12_1, f2_12_2, f2_12_3, f2_12_4, f2_12_5, f2_12_6⟩ := str7 HS2_12.out
              have hl2_12 := HS2_12.out.lt
              clear hba12
              have hldp := run_ld (P := Try.prog) arrPage HS0_12.out HL.out
              go_simp
              go_wp2_with fail
              refine (HC2.out _).mono ?_
              rintro e W13 ⟨A2, n2, c2, rfl, hy2, hb13⟩
              dsimp only at *
              clear hldp
              have HS0_13 := Lib.hid (HS0_12.out.next hb13)
              have HS1_13 := Lib.hid (HS1_12.out.next hb13)
              have HS2_13 := Lib.hid (HS2_12.out.next hb13)
              have HB_13 := Lib.hid (bstep HB_12.out hb13)
              have hw_13 := HB_13.out.size
              have hws_13 := (hb13).size
              have HYx_13 := Lib.hid (HYx_12.out.next hb13)
              clear HYx_12
              clear HS0_12 HS1_12 f2_12_0 f2_12_1 f2_12_2 f2_12_3 f2_12_4 f2_12_5 f2_12_6 HS2_12
              clear hb13
              have hl0_13 := HS0_13.out.lt
              have hl1_13 := HS1_13.out.lt
              obtain ⟨f2_13_0, f2_13_1, f2_13_2, f2_13_3, f2_13_4, f2_13_5, f2_13_6⟩ := str7 HS2_13.out
              have hl2_13 := HS2_13.out.lt
              have HYy_13 := Lib.hid (hy2)
              clear hy2
              go_wp2_with fail
              generalize hW14 : W13.alloc (.cells #[.int .i64 xs, .string xk, .int .i64 xkind, .slice A2 n2 c2, .int .i64 xlo, .int .i64 xhi, .int .i64 xval] 38) = W14
              have HS0_14 : Hid (Str W14 (w.heap.size + 1 + 1) (rowV l)) := Lib.hid (by rw [← hW14]; exact HS0_13.out.alloc _)
              have HS1_14 : Hid (Str W14 (W5.heap.size) (rowV (PageP.q4 l i ⟨s, k, kind, data, lo, hi, val⟩ m))) := Lib.hid (by rw [← hW14]; exact HS1_13.out.alloc _)
              have HS2_14 : Hid (Str W14 (W11.heap.size) #[.int .i64 xs, .string xk, .int .i64 xkind, .slice A1 n1 c1, .int .i64 xlo, .int .i64 xhi, .int .i64 xval]) := Lib.hid (by rw [← hW14]; exact HS2_13.out.alloc _)
              have HS3_14 : Hid (Str W14 W13.heap.size #[.int .i64 xs, .string xk, .int .i64 xkind, .slice A2 n2 c2, .int .i64 xlo, .int .i64 xhi, .int .i64 xval]) := Lib.hid (by rw [← hW14]; exact Str.new W13 #[.int .i64 xs, .string xk, .int .i64 xkind, .slice A2 n2 c2, .int .i64 xlo, .int .i64 xhi, .int .i64 xval] 38)
              have hba14 : Below W13.heap.size W13 W14 := by rw [← hW14]; exact balloc (bsame _) _
              have HB_14 := Lib.hid (bstep HB_13.out hba14)
              have hw_14 := HB_14.out.size
              have hws_14 := hba14.size
              have HYx_14 := Lib.hid (HYx_13.out.next hba14)
              have HYy_14 := Lib.hid (HYy_13.out.next hba14)
              clear HYx_13 HYy_13
              clear hW14
              clear HS0_13 HS1_13 f2_13_0 f2_13_1 f2_13_2 f2_13_3 f2_13_4 f2_13_5 f2_13_6 HS2_13
              have hl0_14 := HS0_14.out.lt
              have hl1_14 := HS1_14.out.lt
              obtain ⟨f2_14_0, f2_14_1, f2_14_2, f2_14_3, f2_14_4, f2_14_5, f2_14_6⟩ := str7 HS2_14.out
              have hl2_14 := HS2_14.out.lt
              obtain ⟨f3_14_0, f3_14_1, f3_14_2, f3_14_3, f3_14_4, f3_14_5, f3_14_6⟩ := str7 HS3_14.out
              have hl3_14 := HS3_14.out.lt
              clear hba14
              go_wp2_with fail
              refine (SlotW.refSame_any A1 A2 n1 c1 n2 c2 W14.heap.size W14.heap.size ⟨xs, xk, xkind, xdata, xlo, xhi, xval⟩ ⟨xs, xk, xkind, xdata, xlo, xhi, xval⟩ _ HYx_14.out HYy_14.out (Nat.le_refl _) (Nat.le_refl _)).mono ?_
              rintro e W15 ⟨rfl, hb15⟩
              rw [SlotP.same_self]
              have HS0_15 := Lib.hid (HS0_14.out.next hb15)
              have HS1_15 := Lib.hid (HS1_14.out.next hb15)
              have HS2_15 := Lib.hid (HS2_14.out.next hb15)
              have HS3_15 := Lib.hid (HS3_14.out.next hb15)
              have HB_15 := Lib.hid (bstep HB_14.out hb15)
              have hw_15 := HB_15.out.size
              have hws_15 := (hb15).size
              have HYx_15 := Lib.hid (HYx_14.out.next hb15)
              have HYy_15 := Lib.hid (HYy_14.out.next hb15)
              clear HYx_14 HYy_14
              clear HS0_14 HS1_14 f2_14_0 f2_14_1 f2_14_2 f2_14_3 f2_14_4 f2_14_5 f2_14_6 HS2_14 f3_14_0 f3_14_1 f3_14_2 f3_14_3 f3_14_4 f3_14_5 f3_14_6 HS3_14
              clear hb15
              have hl0_15 := HS0_15.out.lt
              have hl1_15 := HS1_15.out.lt
              obtain ⟨f2_15_0, f2_15_1, f2_15_2, f2_15_3, f2_15_4, f2_15_5, f2_15_6⟩ := str7 HS2_15.out
              have hl2_15 := HS2_15.out.lt
              obtain ⟨f3_15_0, f3_15_1, f3_15_2, f3_15_3, f3_15_4, f3_15_5, f3_15_6⟩ := str7 HS3_15.out
              have hl3_15 := HS3_15.out.lt
              go_wp2_with fail
              refine (Live07.code_any _ _).mono ?_
              rintro e W15_ ⟨rfl, rfl⟩
              go_wp2_with fail
              refine (Live07.code_any _ _).mono ?_
              rintro e W15_ ⟨rfl, rfl⟩
              go_wp2_with fail
              go_roundw
              case rel => exact ⟨j + 1, by omega, by go_num, HS0_15.out, HS1_15.out, HB_15.out⟩
              case measure => simp [intOf]; omega
          · have hk7 : j = 7 := by omega
            subst hk7
            go_wp2_with fail
            refine (Live07.live_any _).mono ?_
            rintro e w5 ⟨rfl, hb5⟩
            go_wp2_with fail
            go_ret
            exact ⟨rfl, bstep HB.out hb5⟩
end Go.Proofs.Ytjengjbkdflapaa.pageApart
