/-
  Parts of the proof of PoolAhead.
-/
import Derived.Test.YtcfieofcnpalgaaGreatAhG25
import Derived.Test.YtcfieofcnpalgaaGreatAhG22
import Derived.Test.YtcfieofcnpalgaaGreatAhG23
import Derived.Test.YtcfieofcnpalgaaGreatAhG11
import Derived.Test.YtcfieofcnpalgaaGreatAhG4
import Derived.Test.YtcfieofcnpalgaaGreatAhG24
import Derived.Test.YtcfieofcnpalgaaGreatAhG10
import Derived.Shelf.Sort.Plain
import Derived.Shelf.Slices.In.SortNone
import Derived.Test.YtcfieofcnpalgaaGreatProg
import Derived.Test.YtcfieofcnpalgaaGreatAhG2
import Derived.Sort.OwnSortedInts
import Derived.Lib.OwnBridge
import Derived.Deep.OwnRows
import Derived.Lib.RowBridge
import Derived.Test.YtcfieofcnpalgaaGreatAhG20
import Derived.Test.YtcfieofcnpalgaaGreatAhG21
section
namespace Go.Proofs.YtcfieofcnpalgaaGreat
open Go.RowKit
def Reg.intS (l : List Int) : SP ext := ⟨fun v w => ∃ A n c, v = .slice A n c ∧ Elems IntE w w.heap.size A n c l, fun _ _ _ hb ⟨A, n, c, e, h⟩ => ⟨A, n, c, e, h.next hb⟩⟩
namespace Law20
open Go.RowKit PoolW
set_option linter.unusedVariables false
set_option linter.unusedSimpArgs false
attribute [local go_sem ↓] ldPage_fold stPage_fold bdPage_fold alPage_fold
theorem code_any (e : Int) (w : World) : Calls Tryz.prog 9 #[.int .i64 e] w fun r w' => r = .returned (.int .i64 e) ∧ w = w' := by
  go_enter Tryz.func9, Tryz.ntmps9
  go_wp2
  go_ret
  exact ⟨rfl, rfl⟩
/-- the devices of the example -/
def d1 (P : List UInt8) : DevX := ⟨[SlotP.zeros 512, SlotP.zeros 512], [SlotP.zeros 512, P], [], 0, 0, 0, false, 0, false, 1, 1⟩
def d2 (P Q : List UInt8) : DevX := ⟨[SlotP.zeros 512, SlotP.zeros 512], [Q, P], [], 0, 0, 0, false, 0, false, 2, 2⟩
def d3 (P Q : List UInt8) (k : Int) : DevX := ⟨[SlotP.zeros 512, SlotP.zeros 512], [Q, P], [], 0, 0, 0, false, 0, false, k, 2⟩
theorem live_write (P : List UInt8) : DevP.op (DevP.new 2) (DevW.fitsN (DevP.new 2) 1) (DevP.wrote (DevP.new 2) (1 : Int).toNat P) = d1 P := rfl
theorem live_fresh (P : List UInt8) : PoolP.fresh ⟨d1 P, 0, 1, []⟩ 0 = (⟨d1 P, 0, 1, [⟨0, PoolP.blank 0, true, 0⟩]⟩, 0) := rfl
theorem live_free (P B : List UInt8) : PoolP.free ⟨d1 P, 0, 1, [⟨0, B, true, 0⟩]⟩ = (⟨d2 P (PageP.sealed B), PoolP.force 0 (PoolP.lsn B), 1, []⟩, 0) := rfl
theorem live_fetch (P Q : List UInt8) (far : Int) (hP : PageP.right P 1 = true) : PoolP.fetch ⟨d2 P Q, far, 1, []⟩ 1 = (⟨d3 P Q 3, far, 1, [⟨1, P, false, 0⟩]⟩, (P, 0)) := by
  unfold PoolP.fetch
  rw [if_neg (by intro h; exact h rfl), show PoolP.got ⟨d2 P Q, far, 1, []⟩ 1 = P from rfl, if_pos hP]
  rfl
theorem live_get (P B : List UInt8) (hP : PageP.right P 1 = true) : PoolP.get ⟨d1 P, 0, 1, [⟨0, B, true, 0⟩]⟩ 1 = (⟨d3 P (PageP.sealed B) 3, PoolP.force 0 (PoolP.lsn B), 1, [⟨1, P, false, 0⟩]⟩, (P, 0)) := by
  rw [PoolP.get_none (by rfl), live_free, if_pos rfl, live_fetch _ _ _ hP]
theorem live_read (P Q : List UInt8) : DevP.op (d3 P Q 3) (DevW.fitsN (d3 P Q 3) 0) (d3 P Q 3) = d3 P Q 4 := rfl
theorem live_page (P Q : List UInt8) : DevP.read (d3 P Q 3) 0 (DevW.fitsN (d3 P Q 3) 0) = Q := rfl
set_option maxRecDepth 100000 in
set_option maxHeartbeats 4000000 in
theorem live_any (w : World) : Calls Tryz.prog 5 #[] w fun e w' => e = .returned (.bool true) ∧ Below w.heap.size w w' := by
  have hal := fun W => run_al (P := Tryz.prog) arrPage W
  go_enter Tryz.func5, Tryz.ntmps5
  go_wp2_with fail
  refine (DevW.new_any 2 w).mono ?_
  rintro e W1 ⟨d, db1, rfl, hD1, hn1, hb1⟩
  have HD1 : Hid (DevW.Dev W1 d db1 (DevP.new 2)) := Lib.hid hD1
  have HB1 := Lib.hid hb1
  have HN1 := Lib.hid hn1
  clear hD1 hb1 hn1
  go_wp2_with fail
  refine (PageW.new_any 1 W1).mono ?_
  rintro e W2 ⟨rfl, hb2⟩
  rw [show SlotP.over (SlotP.zeros 512) 12 (BeP.parts 2 1) = PoolP.blank 1 from rfl]
  have HD2 := Lib.hid (HD1.out.below hb2)
  have HB2 := Lib.hid (bstep HB1.out hb2)
  clear hb2
  go_wp2_with fail
  refine (PageW.sealed_any _ (blank_len 1) W2).mono ?_
  rintro e W3 ⟨rfl, hb3⟩
  have HPR : Hid (PageP.right (PageP.sealed (PoolP.blank 1)) 1 = true) := Lib.hid (by rw [PageN.blank_mk]; exact PageN.sealed_right (PageN.zeros_len 4) (by omega) (by omega))
  have HPL := Lib.hid (PageP.sealed_length _ (blank_len 1))
  generalize PageP.sealed (PoolP.blank 1) = P at *
  have HD3 := Lib.hid (HD2.out.below hb3)
  have HB3 := Lib.hid (bstep HB2.out hb3)
  clear hb3
  go_wp2_with fail
  refine (DevW.Write_any 1 P HPL.out W3 HD3.out ⟨by show (0 : Int) ≤ 1000000000; omega, by show (0 : Int) + (0 : Nat) ≤ 100000000000000; omega, by show (0 : Nat) ≤ 1000000000; omega⟩).mono ?_
  rintro e W4 ⟨rfl, db4, hD4, hn4, hk4⟩
  rw [live_write] at hD4
  have HN4 : Hid (∀ b ∈ db4, w.heap.size ≤ b) := Lib.hid (fun b hb => by
    rcases hn4 b hb with h | h
    · exact HN1.out b h
    · have := HB3.out.size; omega)
  have HB4 : Hid (Below w.heap.size w W4) := Lib.hid (HB3.out.trans (hk4.below HB3.out.size (fun b hb => HN1.out b hb)))
  have HD4 := Lib.hid hD4
  clear hD4 hn4 hk4
  go_wp2_with fail
  obtain ⟨W5, hW5⟩ : ∃ W, W4.alloc (.cells #[.int .i64 0] 34) = W := ⟨_, rfl⟩
  have hb5 : Below W4.heap.size W4 W5 := by rw [← hW5]; exact balloc (bsame _) _
  have hL5 : Str W5 W4.heap.size #[.int .i64 0] := by rw [← hW5]; exact Str.new _ _ _
  try rw [hW5]
  have hw4 := HB4.out.size
  have hnd5 : (W4.heap.size :: db4).Nodup := List.nodup_cons.2 ⟨fun hm => by have : W4.heap.size < W4.heap.size := HD4.out.lt _ hm; omega, dev_nodup HD4.out⟩
  have HB5 := Lib.hid (bstep HB4.out hb5)
  refine (new_any 1 d W4.heap.size db4 (d1 P) 0 W5 (HD4.out.below hb5) hL5 hnd5).mono ?_
  rintro e W6 ⟨p, rfl, hp, hP6, hb6⟩
  have hP6' : Pool W6 p d W4.heap.size (p :: W4.heap.size :: db4) ⟨d1 P, 0, 1, []⟩ := hP6
  have HP6 := Lib.hid hP6'
  have HB6 := Lib.hid (bstep HB5.out hb6)
  have HN6 : Hid (∀ b ∈ p :: W4.heap.size :: db4, w.heap.size ≤ b) := Lib.hid (fun b hb => by
    have := HB5.out.size
    simp only [List.mem_cons] at hb
    rcases hb with rfl | rfl | hb
    · omega
    · omega
    · exact HN4.out b hb)
  generalize p :: W4.heap.size :: db4 = bs6 at *
  clear hW5 hb5 hL5 hnd5 hP6 hP6' hb6 hp
  go_wp2_with fail
  refine (fresh_any p d W4.heap.size bs6 ⟨d1 P, 0, 1, []⟩ 0 W6 HP6.out ⟨by show (1 : Int) ≤ 1000000000; omega, by show (0 : Int) + (0 : Nat) ≤ 100000000000000; omega, by show (1 : Nat) ≤ 1000000000; omega⟩ (by show (0 : Nat) ≤ 90; omega) (by unfold In64; omega)).mono ?_
  rintro e W7 ⟨rfl, bs7, hP7, hn7, hk7⟩
  rw [live_fresh] at hP7 ⊢
  have HN7 : Hid (∀ b ∈ bs7, w.heap.size ≤ b) := Lib.hid (fun b hb => by
    rcases hn7 b hb with h | h
    · exact HN6.out b h
    · have := HB6.out.size; omega)
  have HB7 : Hid (Below w.heap.size w W7) := Lib.hid (HB6.out.trans (hk7.below HB6.out.size (fun b hb => HN6.out b hb)))
  have HP7 := Lib.hid hP7
  clear hP7 hn7 hk7
  have hsm : DevP.Small (d1 P) := ⟨by show (1 : Int) ≤ 1000000000; omega, by show (0 : Int) + (0 : Nat) ≤ 100000000000000; omega, by show (1 : Nat) ≤ 1000000000; omega⟩
  have HBL := Lib.hid (blank_len 0)
  have HBZ : Hid (PoolP.blank 0 = SlotP.over (SlotP.zeros 512) 12 (BeP.parts 2 0)) := Lib.hid rfl
  generalize PoolP.blank 0 = B at *
  go_wp2_with fail
  refine (get_any p d W4.heap.size bs7 ⟨d1 P, 0, 1, [⟨0, B, true, 0⟩]⟩ 1 W7 HP7.out hsm (by rw [live_free]; show (2 : Int) ≤ 1000000000; omega) (by rw [live_free]; show (0 : Nat) ≤ 90; omega) (by unfold In64; omega)).mono ?_
  rintro e W8 ⟨rfl, bs8, hP8, hn8, hk8⟩
  rw [live_get _ _ HPR.out] at hP8 ⊢
  have HN8 : Hid (∀ b ∈ bs8, w.heap.size ≤ b) := Lib.hid (fun b hb => by
    rcases hn8 b hb with h | h
    · exact HN7.out b h
    · have := HB7.out.size; omega)
  have HB8 : Hid (Below w.heap.size w W8) := Lib.hid (HB7.out.trans (hk8.below HB7.out.size (fun b hb => HN7.out b hb)))
  have HP8 := Lib.hid hP8
  clear hP8 hn8 hk8 hsm
  have hz := PageN.zeros_len 512
  have hst8 := run_st (P := Tryz.prog) arrPage (Str.new W8 (rowV (SlotP.zeros 512)) 42) (by rw [rowV_size]; exact hz) HPL.out
  obtain ⟨W9, hW9⟩ : ∃ W, (W8.alloc (.cells (rowV (SlotP.zeros 512)) 42)).setRow W8.heap.size (rowV P) = W := ⟨_, rfl⟩
  rw [hW9] at hst8
  have hb9 : Below W8.heap.size W8 W9 := by rw [← hW9]; exact below_setRow (balloc (bsame _) _) (Nat.le_refl _) _
  have hP9 := HP8.out.next hb9
  have HB9 := Lib.hid (bstep HB8.out hb9)
  obtain ⟨A, m, c, L, db, q1, q2, q3, q4, rfl⟩ := hP9
  have HI9 := Lib.hid q1
  have HD9 := Lib.hid q2
  have HL9 := Lib.hid q3
  have HN9 := Lib.hid q4
  clear hW9 hb9 q1 q2 q3 q4
  go_wp2_with fail
  refine (DevW.Read_any 0 W9 HD9.out (by show (3 : Int) ≤ 1000000000; omega)).mono ?_
  rintro e W10 ⟨rfl, hT⟩
  rw [live_read, live_page, show DevP.err (d3 P (PageP.sealed B) 3) (DevW.fitsN (d3 P (PageP.sealed B) 3) 0) = 0 from rfl] at *
  obtain ⟨b10, hP10, hn10, hk10⟩ := Pool.dev HI9.out HD9.out HL9.out HN9.out hT
  have HB10 : Hid (Below w.heap.size w W10) := Lib.hid (HB9.out.trans (hk10.below HB9.out.size (fun b hb => HN8.out b hb)))
  have HP10 := Lib.hid hP10
  clear hT hP10 hn10 hk10 hst8
  have hql := PageP.sealed_length B HBL.out
  have HQL := Lib.hid hql
  have hst10 := run_st (P := Tryz.prog) arrPage (Str.new W10 (rowV (SlotP.zeros 512)) 42) (by rw [rowV_size]; exact hz) hql
  obtain ⟨W11, hW11⟩ : ∃ W, (W10.alloc (.cells (rowV (SlotP.zeros 512)) 42)).setRow W10.heap.size (rowV (PageP.sealed B)) = W := ⟨_, rfl⟩
  rw [hW11] at hst10
  have hb11 : Below W10.heap.size W10 W11 := by rw [← hW11]; exact below_setRow (balloc (bsame _) _) (Nat.le_refl _) _
  have hP11 := HP10.out.next hb11
  have HB11 := Lib.hid (bstep HB10.out hb11)
  have HX11 : Hid (Str W11 W10.heap.size (rowV (PageP.sealed B))) := Lib.hid (by rw [← hW11]; exact (Str.new _ _ _).setRow)
  obtain ⟨A2, m2, c2, L2, db2, q1, q2, q3, q4, -⟩ := hP11
  have HI11 := Lib.hid q1
  have hlx := HX11.out.lt
  clear hW11 hb11 q1 q2 q3 q4 hql
  go_wp2_with fail
  refine Reg.wp_region_vals (R := ext) (W := W11) [Reg.eqv (.int .i64 0), Reg.eqv (.int .i64 0), Reg.eqv (.bool true), Reg.eqv (.bool true), Reg.eqv (.int .i64 0), Reg.eqv (.int .i64 0), Reg.eqv (.bool true), Reg.eqv (.bool true), Reg.eqv (.bool true), Reg.eqv (.agg (rowV (PageP.sealed B))), Reg.eqv (.agg (rowV B)), Reg.eqv (.agg (rowV (PageP.sealed B))), Reg.eqv (.bool true), Reg.eqv (.bool true), Reg.eqv (.bool true), Reg.eqv (.pointer (some ⟨p, 0, none⟩)), Reg.intS [1], Reg.intS [1], Reg.eqv (.bool true), Reg.eqv (.bool true), Reg.eqv (.bool true)] 50 [[(3, none)], [(30, some 0)], [(31, some 1)], [(32, some 2)], [(5, none), (33, some 3)], [(34, some 4), (33, some 3)], [(35, some 5), (33, some 3)], [(33, some 3), (36, some 6)], [(37, some 7)], [(6, none), (38, some 8)], [(38, some 8)], [(40, some 10), (38, some 8)], [(39, some 9), (41, some 11), (38, some 8)], [(38, some 8), (42, some 12)], [(43, some 13)], [(2, none), (44, some 14)], [(45, some 15), (44, some 14)], [(44, some 14)], [(46, some 16), (47, some 17), (44, some 14)], [(44, some 14), (48, some 18)], [(49, some 19)]] rfl (by kernel_rfl) (by kernel_rfl) (by kernel_rfl) ?_ [some 30, some 31, some 32, some 33, some 34, some 35, some 36, some 37, some 38, some 39, some 40, some 41, some 42, some 43, some 44, some 45, some 46, some 47, some 48, some 49, some 0] (by kernel_rfl) ?_
  · refine ⟨?_, ?_, ?_, ?_, ?_, ?_, ?_, ?_, ?_, ?_, ?_, ?_, ?_, ?_, ?_, ?_, ?_, ?_, ?_, ?_, ?_, trivial⟩
    · intro ax wx hx hs
      obtain ⟨e3, -⟩ := hs
      have g3 := Reg.ev (v := .int .i64 0) e3
      exact Reg.obl_free rfl (Reg.wp_eqv (Option.some_ne_none _) (by go_simp) rfl)
    · intro ax wx hx hs
      obtain ⟨e30, -⟩ := hs
      have g30 := Reg.ev (v := .int .i64 0) e30
      refine Reg.obl_free rfl ?_
      go_simp
      refine (code_any 0 wx).mono ?_
      rintro r wy ⟨rfl, rfl⟩
      exact Reg.done (Option.some_ne_none _) rfl (bsame _)
    · intro ax wx hx hs
      obtain ⟨e31, -⟩ := hs
      have g31 := Reg.ev (v := .int .i64 0) e31
      exact Reg.obl_free rfl (Reg.wp_eqv (Option.some_ne_none _) (by go_simp) rfl)
    · intro ax wx hx hs
      obtain ⟨e32, -⟩ := hs
      have g32 := Reg.ev (v := .bool true) e32
      exact Reg.obl_free rfl (Reg.wp_eqv (Option.some_ne_none _) (by go_simp) rfl)
    · intro ax wx hx hs
      obtain ⟨e5, e33, -⟩ := hs
      have g5 := Reg.ev (v := .int .i64 0) e5
      have g33 := Reg.ev (v := .bool true) e33
      exact Reg.obl_want rfl rfl e33 (Reg.wp_eqv (Option.some_ne_none _) (by go_simp) rfl)
    · intro ax wx hx hs
      obtain ⟨e34, e33, -⟩ := hs
      have g34 := Reg.ev (v := .int .i64 0) e34
      have g33 := Reg.ev (v := .bool true) e33
      refine Reg.obl_want rfl rfl e33 ?_
      go_simp
      refine (code_any 0 wx).mono ?_
      rintro r wy ⟨rfl, rfl⟩
      exact Reg.done (Option.some_ne_none _) rfl (bsame _)
    · intro ax wx hx hs
      obtain ⟨e35, e33, -⟩ := hs
      have g35 := Reg.ev (v := .int .i64 0) e35
      have g33 := Reg.ev (v := .bool true) e33
      exact Reg.obl_want rfl rfl e33 (Reg.wp_eqv (Option.some_ne_none _) (by go_simp) rfl)
    · intro ax wx hx hs
      obtain ⟨e33, e36, -⟩ := hs
      have g33 := Reg.ev (v := .bool true) e33
      have g36 := Reg.ev (v := .bool true) e36
      exact Reg.obl_free rfl (Reg.wp_eqv (Option.some_ne_none _) (by go_simp) rfl)
    · intro ax wx hx hs
      obtain ⟨e37, -⟩ := hs
      have g37 := Reg.ev (v := .bool true) e37
      exact Reg.obl_free rfl (Reg.wp_eqv (Option.some_ne_none _) (by go_simp) rfl)
    · intro ax wx hx hs
      obtain ⟨e6, e38, -⟩ := hs
      have g6 := Reg.ev (v := .pointer (some ⟨W10.heap.size, 0, none⟩)) e6
      have g38 := Reg.ev (v := .bool true) e38
      refine Reg.obl_want rfl rfl e38 ?_
      have hx' : Below W11.heap.size W11 wx := hx
      have hld := run_ld (P := Tryz.prog) arrPage (HX11.out.next hx') HQL.out
      exact Reg.wp_eqv (Option.some_ne_none _) (by go_simp) rfl
    · intro ax wx hx hs
      obtain ⟨e38, -⟩ := hs
      have g38 := Reg.ev (v := .bool true) e38
      refine Reg.obl_want rfl rfl e38 ?_
      go_simp
      refine (PageW.new_any 0 wx).mono ?_
      rintro r wy ⟨rfl, hby⟩
      exact Reg.done (Option.some_ne_none _) (by rw [HBZ.out]; rfl) hby
    · intro ax wx hx hs
      obtain ⟨e40, e38, -⟩ := hs
      have g40 := Reg.ev (v := .agg (rowV B)) e40
      have g38 := Reg.ev (v := .bool true) e38
      refine Reg.obl_want rfl rfl e38 ?_
      go_simp
      refine (PageW.sealed_any B HBL.out wx).mono ?_
      rintro r wy ⟨rfl, hby⟩
      exact Reg.done (Option.some_ne_none _) rfl hby
    · intro ax wx hx hs
      obtain ⟨e39, e41, e38, -⟩ := hs
      have g39 := Reg.ev (v := .agg (rowV (PageP.sealed B))) e39
      have g41 := Reg.ev (v := .agg (rowV (PageP.sealed B))) e41
      have g38 := Reg.ev (v := .bool true) e38
      refine Reg.obl_want rfl rfl e38 ?_
      have harr := run_arr_eq (P := Tryz.prog) arrPage (PageP.sealed B) (PageP.sealed B) HQL.out HQL.out wx
      rw [beq_self_eq_true] at harr
      exact Reg.wp_eqv (Option.some_ne_none _) (by go_simp) rfl
    · intro ax wx hx hs
      obtain ⟨e38, e42, -⟩ := hs
      have g38 := Reg.ev (v := .bool true) e38
      have g42 := Reg.ev (v := .bool true) e42
      exact Reg.obl_free rfl (Reg.wp_eqv (Option.some_ne_none _) (by go_simp) rfl)
    · intro ax wx hx hs
      obtain ⟨e43, -⟩ := hs
      have g43 := Reg.ev (v := .bool true) e43
      exact Reg.obl_free rfl (Reg.wp_eqv (Option.some_ne_none _) (by go_simp) rfl)
    · intro ax wx hx hs
      obtain ⟨e2, e44, -⟩ := hs
      have g2 := Reg.ev (v := .pointer (some ⟨p, 0, none⟩)) e2
      have g44 := Reg.ev (v := .bool true) e44
      exact Reg.obl_want rfl rfl e44 (Reg.wp_eqv (Option.some_ne_none _) (by go_simp) rfl)
    · intro ax wx hx hs
      obtain ⟨e45, e44, -⟩ := hs
      have g45 := Reg.ev (v := .pointer (some ⟨p, 0, none⟩)) e45
      have g44 := Reg.ev (v := .bool true) e44
      refine Reg.obl_want rfl rfl e44 ?_
      have hx' : Below W11.heap.size W11 wx := hx
      go_simp
      refine (in_at wx (HI11.out.next hx')).mono ?_
      rintro r wy ⟨A8, n8, c8, rfl, hy8, hby⟩
      exact Reg.done (Option.some_ne_none _) ⟨A8, n8, c8, rfl, hy8.elems⟩ hby
    · intro ax wx hx hs
      obtain ⟨e44, -⟩ := hs
      have g44 := Reg.ev (v := .bool true) e44
      refine Reg.obl_want rfl rfl e44 ?_
      go_simp
      exact Reg.done (Option.some_ne_none _) ⟨some ⟨wx.heap.size, 0, none⟩, 1, 1, rfl, IntE.lit (x := 1) (Str.new wx _ _)⟩ (balloc (bsame wx) _)
    · intro ax wx hx hs
      obtain ⟨e46, e47, e44, -⟩ := hs
      have g44 := Reg.ev (v := .bool true) e44
      refine Reg.obl_want rfl rfl e44 ?_
      obtain ⟨A8, n8, c8, e46, hy8⟩ := e46
      obtain ⟨A9, n9, c9, e47, hy9⟩ := e47
      have g46 := Reg.ev e46
      have g47 := Reg.ev e47
      go_simp
      refine (SameL.sameList_any _ hy8 hy9).mono ?_
      rw [decide_eq_true rfl]
      rintro e wy ⟨rfl, hby⟩
      exact Reg.done (Option.some_ne_none _) rfl hby
    · intro ax wx hx hs
      obtain ⟨e44, e48, -⟩ := hs
      have g44 := Reg.ev (v := .bool true) e44
      have g48 := Reg.ev (v := .bool true) e48
      exact Reg.obl_free rfl (Reg.wp_eqv (Option.some_ne_none _) (by go_simp) rfl)
    · intro ax wx hx hs
      obtain ⟨e49, -⟩ := hs
      have g49 := Reg.ev (v := .bool true) e49
      exact Reg.obl_free rfl (Reg.wp_eqv (Option.some_ne_none _) (by go_simp) rfl)
  · intro W12 hwf
    simp only [Reg.Fin]
    rintro _ rfl _ rfl _ rfl _ rfl _ rfl _ rfl _ rfl _ rfl _ rfl _ rfl _ rfl _ rfl _ rfl _ rfl _ rfl _ rfl v46 h46 v47 h47 _ rfl _ rfl _ rfl
    go_simp
    have hwf' : Below W11.heap.size W11 W12 := hwf
    have HB12 := Lib.hid (bstep HB11.out hwf')
    clear hwf hwf'
    go_wp2
    go_ret
    exact ⟨rfl, HB12.out⟩
end Law20
end Go.Proofs.YtcfieofcnpalgaaGreat
end
section
namespace Go.Proofs.YtcfieofcnpalgaaGreat
set_option linter.unusedVariables false
namespace PoolP
section
variable {s : PoolX} {no : Int} {k : Nat} {x : List UInt8}
theorem free_n : (free s).1.n = s.n := by
  unfold free
  repeat' split
  all_goals first
    | rfl
    | (rw [writeAt_fst])
    | (show (writeAt _ _ _).1.n = _; rw [writeAt_fst])
theorem fetch_is : (fetch s no).1.D = (read s no).D ∧ (fetch s no).1.n = s.n ∧ (fetch s no).1.fs.length ≤ s.fs.length + 1 := by
  unfold fetch
  split
  · exact ⟨rfl, rfl, by show s.fs.length ≤ _; omega⟩
  · split
    · exact ⟨rfl, rfl, by show (s.fs ++ [_]).length ≤ _; rw [List.length_append]; exact Nat.le_refl _⟩
    · exact ⟨rfl, rfl, by show s.fs.length ≤ _; omega⟩
theorem use_len {fs : List Fr} {i : Nat} {f g : Fr} (h : fs[i]? = some f) : (fs.eraseIdx i ++ [g]).length = fs.length := by
  have hi := (List.getElem?_eq_some_iff.1 h).1
  rw [List.length_append, List.length_eraseIdx_of_lt hi]
  simp; omega
/-- enough room, and not too many frames -/
structure Fine (k : Nat) (s : PoolX) : Prop where
  room : Room k s.D
  n1 : 1 ≤ s.n
  n2 : s.n ≤ 64
  fsn : (s.fs.length : Int) ≤ s.n
theorem Fine.less {j : Nat} (h : Fine k s) (hj : j ≤ k) : Fine j s := ⟨h.room.less hj, h.n1, h.n2, h.fsn⟩
theorem Fine.small (h : Fine k s) : DevP.Small s.D := h.room.small
theorem Fine.free_len (h : Fine k s) : (PoolP.free s).1.fs.length ≤ 90 := by
  have := PoolP.free_len (s := s)
  have := h.fsn
  have := h.n2
  omega
theorem Fine.free_ops (h : Fine (k + 1) s) : (PoolP.free s).1.D.ops ≤ 1000000000 := by
  have := (free_room h.room).1
  omega
theorem Fine.get (h : Fine (k + 2) s) : Fine k (PoolP.get s no).1 := by
  have hn := h.n1
  cases hf : find s.fs no with
  | some i =>
    obtain ⟨f, hi, e⟩ := find_some hf
    rw [get_some hf hi]
    exact ⟨h.room.less (by omega), h.n1, h.n2, by show ((use s.fs i f).length : Int) ≤ _; unfold use; rw [use_len hi]; exact h.fsn⟩
  | none =>
    rw [get_none hf]
    have hr := free_room h.room
    have hfn := free_n (s := s)
    split
    · rename_i h0
      have hl := free_less h.fsn h0 h.n1
      obtain ⟨f1, f2, f3⟩ := fetch_is (s := (PoolP.free s).1) (no := no)
      refine ⟨?_, by rw [f2, hfn]; exact h.n1, by rw [f2, hfn]; exact h.n2, by rw [f2, hfn]; omega⟩
      rw [f1]
      exact hr.same _
    · have := PoolP.free_len (s := s)
      have := h.fsn
      exact ⟨hr.less (by omega), by show 1 ≤ (PoolP.free s).1.n; rw [hfn]; exact h.n1, by show (PoolP.free s).1.n ≤ 64; rw [hfn]; exact h.n2, by show ((PoolP.free s).1.fs.length : Int) ≤ (PoolP.free s).1.n; rw [hfn]; omega⟩
theorem Fine.fresh (h : Fine (k + 1) s) : Fine k (PoolP.fresh s no).1 := by
  cases hf : find s.fs no with
  | some i =>
    obtain ⟨f, hi, e⟩ := find_some hf
    rw [fresh_some hf hi]
    exact ⟨h.room.less (by omega), h.n1, h.n2, by show ((s.fs.eraseIdx i ++ [_]).length : Int) ≤ _; rw [use_len hi]; exact h.fsn⟩
  | none =>
    rw [fresh_none hf]
    have hr := free_room h.room
    have hfn := free_n (s := s)
    split
    · exact h.less (by omega)
    · split
      · rename_i h0
        have hl := free_less h.fsn h0 h.n1
        refine ⟨hr, by show 1 ≤ (PoolP.free s).1.n; rw [hfn]; exact h.n1, by show (PoolP.free s).1.n ≤ 64; rw [hfn]; exact h.n2, ?_⟩
        show (((PoolP.free s).1.fs ++ [_]).length : Int) ≤ (PoolP.free s).1.n
        rw [hfn, List.length_append]
        simp; omega
      · have := PoolP.free_len (s := s)
        have := h.fsn
        exact ⟨hr, by rw [hfn]; exact h.n1, by rw [hfn]; exact h.n2, by rw [hfn]; omega⟩
theorem flushAll_is : ∀ (l : List Int) {s : PoolX} {k : Nat}, Room (k + l.length) s.D → Room k (flushAll l s).1.D ∧ (flushAll l s).1.n = s.n ∧ (flushAll l s).1.fs.length = s.fs.length
  | [], s, k, h => ⟨h, rfl, rfl⟩
  | no :: r, s, k, h => by
    have h' : Room (k + r.length + 1) s.D := h.less (by simp only [List.length_cons]; omega)
    unfold flushAll
    cases hf : find s.fs no with
    | none => exact flushAll_is r (h'.less (by omega))
    | some i =>
      obtain ⟨f, hi, e⟩ := find_some hf
      simp only [hi]
      have hw := writeAt_room (i := i) (f := f) h'
      have hl := writeAt_len (s := s) (i := i) (f := f)
      have hn : (writeAt s i f).1.n = s.n := by rw [writeAt_fst]
      split
      · obtain ⟨g1, g2, g3⟩ := flushAll_is r hw
        exact ⟨g1, g2.trans hn, g3.trans hl⟩
      · exact ⟨hw.less (by omega), hn, hl⟩
theorem dirty_len (F : List Fr) : (dirty F).length ≤ F.length := by
  unfold dirty
  rw [List.length_mergeSort, List.length_map]
  exact List.length_filter_le _ _
theorem Fine.flush (h : Fine (k + 65) s) : Fine k (PoolP.flush s).1 := by
  have hd := dirty_len s.fs
  have hf := h.fsn
  have h64 := h.n2
  obtain ⟨g1, g2, g3⟩ := flushAll_is (dirty s.fs) (s := s) (k := k + 1) (h.room.less (by omega))
  have hg : Fine (k + 1) (flushAll (dirty s.fs) s).1 := ⟨g1, by rw [g2]; exact h.n1, by rw [g2]; exact h.n2, by rw [g2, g3]; exact h.fsn⟩
  unfold PoolP.flush
  split
  · exact ⟨hg.room.synced, hg.n1, hg.n2, hg.fsn⟩
  · exact hg.less (by omega)
theorem Fine.set (h : Fine k s) : Fine k (PoolP.set s no x).1 := by
  cases hf : find s.fs no with
  | none => rw [set_none hf]; exact h
  | some i =>
    obtain ⟨f, hi, e⟩ := find_some hf
    rw [set_some hf hi]
    split
    · exact ⟨h.room, h.n1, h.n2, by show ((s.fs.eraseIdx i ++ [_]).length : Int) ≤ _; rw [use_len hi]; exact h.fsn⟩
    · exact h
theorem Fine.flush_room (h : Fine (k + 65) s) : Room (s.fs.length + 1) s.D := h.room.less (by have := h.fsn; have := h.n2; omega)
/-- the first Get of an empty pool -/
theorem get_first {n far : Int} {D : DevX} {k : Nat} {X : List UInt8} (hn : 1 ≤ n) (hk : k < D.safe.length) (ho : D.off = false) (hf : D.fused = false) (hX : D.now[k]? = some X) (hr : PageP.right X k = true) :
    PoolP.get ⟨D, far, n, []⟩ (k : Int) = (⟨DevP.done D, far, n, [⟨(k : Int), X, false, 0⟩]⟩, (X, 0)) := by
  have hfree : PoolP.free ⟨D, far, n, []⟩ = (⟨D, far, n, []⟩, 0) := by unfold PoolP.free; rw [if_pos (by show ((0 : Nat) : Int) < n; omega)]
  have hfit : PoolP.fits D (k : Int) = true := by unfold PoolP.fits; simp; omega
  have herr : DevP.err D true = 0 := by unfold DevP.err; rw [ho, hf]; rfl
  have hgot : got ⟨D, far, n, []⟩ (k : Int) = X := by
    unfold got DevP.read
    rw [hfit, if_pos herr, show ((k : Int)).toNat = k from by omega, hX, Option.getD_some]
  have hrd : read ⟨D, far, n, []⟩ (k : Int) = ⟨DevP.done D, far, n, []⟩ := by
    unfold read
    rw [hfit, op_of herr]
  rw [get_none (by rfl), hfree, if_pos rfl]
  unfold fetch
  rw [hfit, herr, if_neg (fun h => h rfl), hgot, if_pos hr, hrd]
  rfl
end
end PoolP
end Go.Proofs.YtcfieofcnpalgaaGreat
end
section
namespace Go.Proofs.YtcfieofcnpalgaaGreat
open Go.Shelf Go.RowKit
def lays189_ren : Ren where
  f x := match x with
    | 189 => 43
    | 125 => 63
    | 257 => 62
    | 128 => 81
    | 129 => 82
    | 294 => 72
    | 295 => 73
    | 296 => 74
    | 297 => 75
    | 298 => 76
    | 299 => 77
    | 216 => 78
    | 300 => 79
    | 301 => 80
    | 328 => 89
    | 329 => 90
    | 330 => 91
    | 331 => 92
    | 332 => 93
    | 215 => 94
    | 343 => 101
    | n => n
  t x := match x with
    | 28 => 25
    | 3 => 3
    | 46 => 110
    | 0 => 0
    | 51 => 112
    | 53 => 38
    | 4 => 4
    | 183 => 121
    | 182 => 120
    | 131 => 105
    | 5 => 5
    | 9 => 9
    | 218 => 138
    | 222 => 142
    | 228 => 151
    | 229 => 152
    | n => n
  g x := x
theorem lays189 : Lays.n189 Tryz.prog lays189_ren where
  mixed := rfl
  f125 := Tryz.func63.trans (by kernel_rfl)
  f128 := Tryz.func81.trans (by kernel_rfl)
  f129 := Tryz.func82.trans (by kernel_rfl)
  f189 := Tryz.func43.trans (by kernel_rfl)
  f215 := Tryz.func94.trans (by kernel_rfl)
  f216 := Tryz.func78.trans (by kernel_rfl)
  f257 := Tryz.func62.trans (by kernel_rfl)
  f294 := Tryz.func72.trans (by kernel_rfl)
  f295 := Tryz.func73.trans (by kernel_rfl)
  f296 := Tryz.func74.trans (by kernel_rfl)
  f297 := Tryz.func75.trans (by kernel_rfl)
  f298 := Tryz.func76.trans (by kernel_rfl)
  f299 := Tryz.func77.trans (by kernel_rfl)
  f300 := Tryz.func79.trans (by kernel_rfl)
  f301 := Tryz.func80.trans (by kernel_rfl)
  f328 := Tryz.func89.trans (by kernel_rfl)
  f329 := Tryz.func90.trans (by kernel_rfl)
  f330 := Tryz.func91.trans (by kernel_rfl)
  f331 := Tryz.func92.trans (by kernel_rfl)
  f332 := Tryz.func93.trans (by kernel_rfl)
  f343 := Tryz.func101.trans (by kernel_rfl)
  t0 := Tryz.underlying0
  a0 := Tryz.isAgg0
  z0 := Tryz.sizeOf0
  v0 := Tryz.zeroValue0
  t3 := Tryz.underlying3
  a3 := Tryz.isAgg3
  z3 := Tryz.sizeOf3
  v3 := Tryz.zeroValue3
  t4 := Tryz.underlying4
  a4 := Tryz.isAgg4
  z4 := Tryz.sizeOf4
  v4 := Tryz.zeroValue4
  t5 := Tryz.underlying5
  a5 := Tryz.isAgg5
  z5 := Tryz.sizeOf5
  v5 := Tryz.zeroValue5
  t9 := Tryz.underlying9
  a9 := Tryz.isAgg9
  z9 := Tryz.sizeOf9
  v9 := Tryz.zeroValue9
  t28 := Tryz.underlying25
  a28 := Tryz.isAgg25
  z28 := Tryz.sizeOf25
  v28 := Tryz.zeroValue25
  t46 := Tryz.underlying110
  a46 := Tryz.isAgg110
  z46 := Tryz.sizeOf110
  v46 := Tryz.zeroValue110
  t51 := Tryz.underlying112
  a51 := Tryz.isAgg112
  z51 := Tryz.sizeOf112
  v51 := Tryz.zeroValue112
  t53 := Tryz.underlying38
  a53 := Tryz.isAgg38
  z53 := Tryz.sizeOf38
  v53 := Tryz.zeroValue38
  t131 := Tryz.underlying105
  a131 := Tryz.isAgg105
  z131 := Tryz.sizeOf105
  v131 := Tryz.zeroValue105
  t182 := Tryz.underlying120
  a182 := Tryz.isAgg120
  z182 := Tryz.sizeOf120
  v182 := Tryz.zeroValue120
  t183 := Tryz.underlying121
  a183 := Tryz.isAgg121
  z183 := Tryz.sizeOf121
  v183 := Tryz.zeroValue121
  t218 := Tryz.underlying138
  a218 := Tryz.isAgg138
  z218 := Tryz.sizeOf138
  v218 := Tryz.zeroValue138
  t222 := Tryz.underlying142
  a222 := Tryz.isAgg142
  z222 := Tryz.sizeOf142
  v222 := Tryz.zeroValue142
  t228 := Tryz.underlying151
  a228 := Tryz.isAgg151
  z228 := Tryz.sizeOf151
  v228 := Tryz.zeroValue151
  t229 := Tryz.underlying152
  a229 := Tryz.isAgg152
  z229 := Tryz.sizeOf152
  v229 := Tryz.zeroValue152
end Go.Proofs.YtcfieofcnpalgaaGreat
end
section
namespace Go.Proofs.YtcfieofcnpalgaaGreat
open Go.RowKit Go.Maps Go.Shelf Go.Sort
set_option linter.unusedVariables false
set_option linter.unusedSimpArgs false
namespace TxnW
/-- the call hands back a slice of numbers -/
def GivesInts (w : World) (l : List Int) (e : Ending) (w' : World) : Prop := ∃ A n c, e = .returned (.slice A n c) ∧ Elems IntE w' w'.heap.size A n c l ∧ Below w.heap.size w w'
set_option maxRecDepth 100000 in
/-- slices.Sort at a row of the call's own -/
theorem sort_own (A : Option Addr) (m c base : Nat) (ss : List Int) (w : World) (h : OwnE IntE 3 w base A m c ss) (hm : m ≤ 100000) :
    Calls Tryz.prog 43 #[.slice A m c] w fun e w' => e = .returned (.tuple #[]) ∧ OwnE IntE 3 w' base A m c (ss.mergeSort fun x y => decide (x ≤ y)) ∧ w.grownBy w' ((Value.slice A 0 0).ownBlock) := by
  have hlen := h.len
  have ho := IntE.own h
  have hml : (ss.mergeSort fun x y => decide (x ≤ y)).length = m := by rw [List.length_mergeSort]; exact hlen
  by_cases h0 : m = 0
  · subst h0
    have hs : ss = [] := List.eq_nil_of_length_eq_zero hlen
    subst hs
    have := Any.slices_Sort_int_none lays189 A c w
    rw [show lays189_ren.f 189 = 43 from rfl] at this
    refine this.mono ?_
    rintro e w' ⟨rfl, rfl⟩
    exact ⟨rfl, by rw [List.mergeSort_nil]; exact h, World.grownBy.refl _ _⟩
  · rcases ho.2 with ⟨e, hn⟩ | ⟨g, cap, cur, e, hg, hb, hnc, hm2, hcs, hx⟩
    · omega
    · cases e
      rw [Nat.mul_one, ← hlen] at hx
      have hH := holds_of_blockI hb hx
      have hs := Any.slices_Sort_int lays189 g 0 c ss w hH (Array.getElem?_eq_some_iff.1 hb).1 (by omega)
      rw [hlen, show lays189_ren.f 189 = 43 from rfl] at hs
      refine hs.mono ?_
      rintro e w' ⟨rfl, nn, os, rfl⟩
      refine ⟨rfl, IntE.mk' ?_, grownBy_sortedI _⟩
      have := ownsRow_sortedI (ss := ss) (n := nn) (os := os) (ts := ss.mergeSort fun x y => decide (x ≤ y)) (by rw [List.length_mergeSort]) hg hb (by rw [hlen]; exact hnc) hm2 hcs
      rw [hlen] at this
      exact this
end TxnW
end Go.Proofs.YtcfieofcnpalgaaGreat
end
section
namespace Go.Proofs.YtcfieofcnpalgaaGreat
open Go.RowKit
set_option linter.unusedVariables false
set_option linter.unusedSimpArgs false
namespace PoolW
attribute [local go_sem ↓] app_fold
variable {p d lg m c : Nat} {n : Int} {A : Option Addr} {L : List Nat} {F : List Fr}
set_option maxRecDepth 100000 in
set_option maxHeartbeats 1000000 in
theorem dirty_at (w : World) (h : In w p d lg n A m c L F) :
    Calls Tryz.prog 16 #[.pointer (some ⟨p, 0, none⟩)] w (GivesInts w (PoolP.dirty F)) := by
  obtain ⟨i0, hi0, hz0, hz1, hz2⟩ := info_parts infoI
  have HI0 := Lib.hid hi0
  have g0 := str4 (show Str w p #[.pointer (some ⟨d, 0, none⟩), .iface 32 (.pointer (some ⟨lg, 0, none⟩)), .int .i64 n, .slice A m c] from h.box)
  have hlp := h.box.lt
  have hm100 := h.m100
  have hlen := h.row.len
  have H := Lib.hid h
  clear h hi0
  go_enter Tryz.func16, Tryz.ntmps16
  go_wp2
  go_loopw [3, 13] (fun sv iv wr => ∃ (k q cq : Nat) (B : Option Addr), k ≤ m ∧ q ≤ k ∧ iv = .int .i64 (k : Int) ∧ sv = .slice B q cq ∧ Hid (OwnE IntE 3 wr w.heap.size B q cq (((F.take k).filter (·.dirty)).map (·.no)) ∧ Below w.heap.size w wr)) (fun _ iv _ => m - (intOf iv).toNat)
  case atStart => exact ⟨0, 0, 0, none, Nat.zero_le _, Nat.le_refl _, rfl, rfl, Lib.hid ⟨OwnE.none_ _ _ _ _, bsame w⟩⟩
  case round =>
    obtain ⟨k, q, cq, B, hk, hqk, rfl, rfl, HK⟩ := hrel
    have HB := Lib.hid HK.out.2
    have hsz := HB.out.size
    by_cases hlt : k < m
    · have hd : decide ((k : Int) < (m : Int)) = true := by simp; omega
      have HR := Lib.hid (H.out.next HB.out)
      obtain ⟨b, o, x, rfl, hb, hx, q0⟩ := ptr_at HR.out.row.elems hlt
      obtain ⟨f, hf⟩ : ∃ f, F[k]? = some f := ⟨_, List.getElem?_eq_getElem (by rw [← H.out.frs.len, hlen]; exact hlt)⟩
      have hsx := HR.out.frs.str k x f hx hf
      have hok := H.out.frs.ok f (List.mem_of_getElem? hf)
      obtain ⟨q1, q2, q3⟩ := fr_cells hsx hok.x
      have HF := Lib.hid hf
      have hlx := hsx.lt
      clear hf hx hsx hok q3
      by_cases hdy : f.dirty = true
      · rw [hdy] at q2
        have hb1 : Below wr.heap.size wr (wr.alloc (.cells #[.int .i64 f.no] 3)) := balloc (bsame wr) _
        have hO1 := HK.out.1.next hb1
        obtain ⟨B2, cq2, w3, happ, hO3, hb3, hg3, hA3⟩ := hO1.app (P := Tryz.prog) 25 25 i0 _ 8 Tryz.underlying25 HI0.out hz0 hz1 hz2 rfl (IntE.lit (wr := hid B (wr.alloc (.cells #[.int .i64 f.no] 3))) (x := f.no) (Str.new wr _ _)) (by unfold maxLen; omega) (by omega) (by simp; omega)
        have HB3 := Lib.hid ((HB.out.trans (hb1.mono hsz)).trans (hb3.mono (by omega)))
        have HO3 := Lib.hid hO3
        clear hb1 hO1 hO3 hb3 hg3 hA3
        go_wp2
        go_roundw
        case rel => exact ⟨k + 1, q + 1, cq2, B2, by omega, by omega, by go_num, rfl, Lib.hid ⟨by have h := HO3.out; rwa [show (((F.take k).filter (·.dirty)).map (·.no)) ++ [f.no] = ((F.take (k + 1)).filter (·.dirty)).map (·.no) from by rw [List.take_add_one, HF.out, List.filter_append, List.map_append]; simp [hdy]] at h, HB3.out⟩⟩
        case measure => simp [intOf]; omega
      · have hdy' : f.dirty = false := by simpa using hdy
        rw [hdy'] at q2
        have HK3 : Hid (OwnE IntE 3 wr w.heap.size B q cq (((F.take (k + 1)).filter (·.dirty)).map (·.no)) ∧ Below w.heap.size w wr) := Lib.hid ⟨by
          rw [List.take_add_one, HF.out, List.filter_append, List.map_append]; simpa [hdy'] using HK.out.1, HB.out⟩
        clear HK
        go_wp2
        go_roundw
        case rel => exact ⟨k + 1, q, cq, B, by omega, by omega, by go_num, rfl, HK3⟩
        case measure => simp [intOf]; omega
    · have hd : decide ((k : Int) < (m : Int)) = false := by simp; omega
      have hkm : k = m := by omega
      subst hkm
      have HK2 : Hid (OwnE IntE 3 wr w.heap.size B q cq ((F.filter (·.dirty)).map (·.no))) := Lib.hid (by have h := HK.out.1; rwa [List.take_of_length_le (by rw [← H.out.frs.len, hlen]; exact Nat.le_refl _)] at h)
      clear HK
      go_wp2_with fail
      refine (TxnW.sort_own B q cq _ _ wr HK2.out (by omega)).mono ?_
      rintro e W2 ⟨rfl, hO, hg⟩
      have HO := Lib.hid hO
      have HB2 := Lib.hid (below_grownO HB.out hg hsz (by
        intro j hj
        cases B with
        | none => cases hj
        | some a => cases hj; have := HK2.out.ge a rfl; omega))
      clear hO hg
      go_wp2
      go_ret
      exact ⟨B, q, cq, rfl, HO.out, HB2.out⟩
end PoolW
end Go.Proofs.YtcfieofcnpalgaaGreat
end
section
namespace Go.Proofs.YtcfieofcnpalgaaGreat
open Go.RowKit
set_option linter.unusedVariables false
set_option linter.unusedSimpArgs false
namespace PoolW
theorem write_pool (p d lg m c : Nat) (n far : Int) (A : Option Addr) (L : List Nat) (F : List Fr) (db : List Nat) (X : DevX) (i g : Nat) (f : Fr) (w : World) (h1 : In w p d lg n A m c L F) (h2 : DevW.Dev w d db X) (h3 : Str w lg #[.int .i64 far]) (h4 : (blocks p lg A L db).Nodup) (hi : F[i]? = some f) (hg : L[i]? = some g) (hs : DevP.Small X) :
    Calls Tryz.prog 42 #[.pointer (some ⟨p, 0, none⟩), .pointer (some ⟨g, 0, none⟩)] w fun e w' => e = .returned (.int .i64 (PoolP.writeAt ⟨X, far, n, F⟩ i f).2) ∧ Gone w p d lg (blocks p lg A L db) (PoolP.writeAt ⟨X, far, n, F⟩ i f).1 w' := by
  refine (write_any p d lg m c n A L F db X far i g f w h1 h2 h3 h4 hi hg hs).mono ?_
  rintro e w' ⟨rfl, db', q1, q2, q3, q4, q5⟩
  have hgL : g ∈ L := List.mem_of_getElem? hg
  have hlt : ∀ b ∈ blocks p lg A L db, b < w.heap.size := Pool.lt (S := ⟨X, far, n, F⟩) ⟨A, m, c, L, db, h1, h2, h3, h4, rfl⟩
  rw [PoolP.writeAt_fst, PoolP.writeAt_snd]
  refine ⟨rfl, blocks p lg A L db', ⟨A, m, c, L, db', q1, q2, q3, blk_dev h4 (dev_nodup q2) q4 hlt, rfl⟩, fun b hb => ?_, q5.more fun b hb => ?_⟩
  · rcases mem_blocks.1 hb with h | h | h | h | h
    · exact .inl (mem_blocks.2 (.inl h))
    · exact .inl (mem_blocks.2 (.inr (.inl h)))
    · exact .inl (mem_blocks.2 (.inr (.inr (.inl h))))
    · exact .inl (mem_blocks.2 (.inr (.inr (.inr (.inl h)))))
    · exact (q4 b h).imp (fun h => mem_blocks.2 (.inr (.inr (.inr (.inr h))))) id
  · simp only [List.mem_cons] at hb
    rcases hb with rfl | rfl | hb
    · exact mem_blocks.2 (.inr (.inl rfl))
    · exact mem_blocks.2 (.inr (.inr (.inr (.inl hgL))))
    · exact mem_blocks.2 (.inr (.inr (.inr (.inr hb))))
theorem int_own {w : World} {T : TypeId} {base n c k : Nat} {A : Option Addr} {l : List Int} (h : OwnE IntE T w base A n c l) (hk : k < n) : ∃ b o x, A = some ⟨b, o, none⟩ ∧ base ≤ b ∧ b < w.heap.size ∧ l[k]? = some x ∧ w.cell? ⟨b, o + k, none⟩ = some (.int .i64 x) := by
  have hl : k < l.length := by rw [h.len]; exact hk
  obtain ⟨b, o, vs, e, hlt, hr, hc⟩ := h.elemsIn.at_ hk
  have hr' : vs = [.int .i64 (l[k]'hl)] := hr
  subst hr'
  refine ⟨b, o, _, e, by have := h.ge _ e; exact this, hlt, List.getElem?_eq_getElem hl, ?_⟩
  have := hc 0 _ rfl
  rwa [show o + k * IntE.size + 0 = o + k from by show o + k * 1 + 0 = _; omega] at this
set_option maxRecDepth 100000 in
set_option maxHeartbeats 4000000 in
theorem flush_any (p d lg : Nat) (bs : List Nat) (S : PoolX) (w : World) (h : Pool w p d lg bs S) (hr : PoolP.Room (S.fs.length + 1) S.D) :
    Calls Tryz.prog 15 #[.pointer (some ⟨p, 0, none⟩)] w (Told w p d lg bs (PoolP.flush S).1 (.int .i64 (PoolP.flush S).2)) := by
  have HP := Lib.hid h
  have HR := Lib.hid hr
  have HBL := Lib.hid h.lt
  obtain ⟨A, m, c, L, db, h1, h2, h3, h4, e⟩ := h
  have HI := Lib.hid h1
  have hll : (PoolP.dirty S.fs).length ≤ S.fs.length := by
    unfold PoolP.dirty
    rw [List.length_mergeSort, List.length_map]
    exact List.length_filter_le _ _
  have hfl : S.fs.length ≤ 100 := by have a1 := h1.m100; have a2 := h1.row.len; have a3 := h1.frs.len; omega
  clear h1 h2 h3 h4 e hr
  obtain ⟨r, hres⟩ : ∃ r, PoolP.flush S = r := ⟨_, rfl⟩
  rw [hres]
  have HRES := Lib.hid hres
  clear hres
  go_enter Tryz.func15, Tryz.ntmps15
  go_wp2_with fail
  refine (dirty_at w HI.out).mono ?_
  rintro e W1 ⟨B, n1, c1, rfl, hO, hb1⟩
  have hol := hO.len
  have HO := Lib.hid hO
  have HP1 := Lib.hid (HP.out.next hb1)
  have HB1 := Lib.hid hb1
  have hb1s := hb1.size
  obtain ⟨l, hl⟩ : ∃ l, PoolP.dirty S.fs = l := ⟨_, rfl⟩
  have HLI := Lib.hid hl
  rw [hl] at hol hll HO
  clear hO hb1 hl
  go_wp2_with fail
  go_loopw [12] (fun iv wr => ∃ (k : Nat) (s : PoolX), k ≤ n1 ∧ iv = .int .i64 (k : Int) ∧ Hid (Gone W1 p d lg bs s wr ∧ PoolP.flushAll (l.drop k) s = PoolP.flushAll l S ∧ PoolP.Room (n1 - k + 1) s.D)) (fun iv _ => n1 - (intOf iv).toNat)
  case atStart => exact ⟨0, S, Nat.zero_le _, rfl, Lib.hid ⟨Gone.same HP1.out (Below.refl _ _), rfl, HR.out.less (by omega)⟩⟩
  case round =>
    obtain ⟨k, s, hk, rfl, HK⟩ := hrel
    obtain ⟨b1, hP, hn, hkb⟩ := HK.out.1
    have HN := Lib.hid hn
    have HKB := Lib.hid hkb
    have hksz := hkb.size
    obtain ⟨A, m, c, L, db, h1, h2, h3, h4, rfl⟩ := hP
    have HI1 := Lib.hid h1
    have HD1 := Lib.hid h2
    have HL1 := Lib.hid h3
    have HN1 := Lib.hid h4
    clear h1 h2 h3 h4 hn hkb
    by_cases hlt : k < n1
    · have hd : decide ((k : Int) < (n1 : Int)) = true := by simp; omega
      obtain ⟨b, o, x, rfl, hbl, hb, hx, q0⟩ := int_own HO.out hlt
      have q1 : wr.cell? ⟨b, o + k, none⟩ = some (.int .i64 x) := by
        rw [← q0]
        exact World.cell?_of_block (HKB.out.block b hb (fun hm => by have := HBL.out b hm; omega))
      have HX := Lib.hid hx
      have hdr : l.drop k = x :: l.drop (k + 1) := by
        obtain ⟨e1, e2⟩ := List.getElem?_eq_some_iff.1 hx
        rw [List.drop_eq_getElem_cons e1, e2]
      have HDR := Lib.hid hdr
      have hblr : b < wr.heap.size := by omega
      clear hx hdr q0
      go_wp2_with fail
      refine (find_any p d lg m c s.n A L s.fs x wr HI1.out).mono ?_
      rintro e w' ⟨rfl, rfl⟩
      cases hf : PoolP.find s.fs x with
      | none =>
        simp only [Option.bind_none]
        have HK2 : Hid (Gone W1 p d lg bs s wr ∧ PoolP.flushAll (l.drop (k + 1)) s = PoolP.flushAll l S ∧ PoolP.Room (n1 - (k + 1) + 1) s.D) := Lib.hid ⟨HK.out.1, by
          have h := HK.out.2.1
          rw [HDR.out, PoolP.flushAll, hf] at h
          exact h, HK.out.2.2.less (by omega)⟩
        clear HK hf
        go_wp2
        go_roundw
        case rel => exact ⟨k + 1, s, by omega, by go_num, HK2⟩
        case measure => simp [intOf]; omega
      | some i =>
        obtain ⟨f, hi, -⟩ := PoolP.find_some hf
        obtain ⟨g, hg, -, -⟩ := HI1.out.frs.get hi
        simp only [Option.bind_some, hg, Option.map_some]
        have HG := Lib.hid hg
        have HFI := Lib.hid (And.intro hf hi)
        have HE := Lib.hid (show PoolP.flushAll (x :: l.drop (k + 1)) s = PoolP.flushAll l S from HDR.out ▸ HK.out.2.1)
        have HRO := Lib.hid HK.out.2.2
        clear hg hf hi HK
        go_wp2_with fail
        refine (write_pool p d lg m c s.n s.far A L s.fs db s.D i g f wr HI1.out HD1.out HL1.out HN1.out HFI.out.2 HG.out HRO.out.small).mono ?_
        rintro e w2 ⟨rfl, hG⟩
        rw [show (⟨s.D, s.far, s.n, s.fs⟩ : PoolX) = s from rfl] at hG ⊢
        have HG2 := Lib.hid (Gone.step HN.out HKB.out hG)
        clear hG
        by_cases he : (PoolP.writeAt s i f).2 = 0
        · rw [he]
          have HK2 : Hid (Gone W1 p d lg bs (PoolP.writeAt s i f).1 w2 ∧ PoolP.flushAll (l.drop (k + 1)) (PoolP.writeAt s i f).1 = PoolP.flushAll l S ∧ PoolP.Room (n1 - (k + 1) + 1) (PoolP.writeAt s i f).1.D) := Lib.hid ⟨HG2.out, by
            have h := HE.out
            simp only [PoolP.flushAll, HFI.out.1, HFI.out.2] at h
            rwa [if_pos he] at h, PoolP.writeAt_room (HRO.out.less (by omega))⟩
          clear he HE
          go_wp2
          go_roundw
          case rel => exact ⟨k + 1, _, by omega, by go_num, HK2⟩
          case measure => simp [intOf]; omega
        · have hne : ((PoolP.writeAt s i f).2 != 0) = true := by simpa using he
          have HF2 : Hid (PoolP.writeAt s i f = r) := Lib.hid (by
            have h := HE.out
            simp only [PoolP.flushAll, HFI.out.1, HFI.out.2] at h
            rw [if_neg he] at h
            have h2 := HRES.out
            unfold PoolP.flush at h2
            rw [HLI.out, ← h, if_neg he] at h2
            exact h2)
          generalize hY : (PoolP.writeAt s i f).2 = e1 at *
          have HY := Lib.hid hY
          clear he hY
          go_wp2
          go_ret
          refine ⟨?_, Gone.step (fun b hb => .inl hb) (Reg.KeepB.of HB1.out) ?_⟩
          · rw [← HY.out, HF2.out]; rfl
          · have h := HG2.out; rwa [HF2.out] at h
    · have hd : decide ((k : Int) < (n1 : Int)) = false := by simp; omega
      have hE : PoolP.flushAll l S = (s, 0) := by
        have h := HK.out.2.1
        rw [List.drop_of_length_le (by omega)] at h
        exact h.symm
      have HE : Hid (r = PoolP.sync s) := Lib.hid (by
        have h2 := HRES.out
        unfold PoolP.flush at h2
        rw [HLI.out, hE, if_pos rfl] at h2
        exact h2.symm)
      have HRO := Lib.hid HK.out.2.2
      have g1 := str4 (show Str wr p #[.pointer (some ⟨d, 0, none⟩), .iface 32 (.pointer (some ⟨lg, 0, none⟩)), .int .i64 s.n, .slice A m c] from HI1.out.box)
      have hlp := HI1.out.box.lt
      clear hE HK
      go_wp2_with fail
      refine (DevW.Sync_any wr HD1.out HRO.out.small.1).mono ?_
      rintro e w2 ⟨rfl, hT⟩
      have HG2 := Lib.hid (Gone.step HN.out HKB.out (Pool.dev HI1.out HD1.out HL1.out HN1.out hT))
      generalize hY : DevP.err s.D true = e1 at *
      have HY := Lib.hid hY
      clear hT hY g1 hlp
      go_wp2
      go_ret
      refine ⟨?_, Gone.step (fun b hb => .inl hb) (Reg.KeepB.of HB1.out) ?_⟩
      · rw [HE.out]; show _ = Ending.returned (.int .i64 (DevP.err s.D true)); rw [HY.out]; rfl
      · rw [HE.out]; exact HG2.out
end PoolW
end Go.Proofs.YtcfieofcnpalgaaGreat
end
