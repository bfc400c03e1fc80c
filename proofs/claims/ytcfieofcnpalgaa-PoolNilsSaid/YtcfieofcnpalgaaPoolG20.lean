/-
  Parts of the proof of PoolNils.
-/
import Derived.Test.YtcfieofcnpalgaaPoolG5
import Derived.Test.YtcfieofcnpalgaaPoolG18
import Derived.Test.YtcfieofcnpalgaaPoolG19
import Derived.Test.YtcfieofcnpalgaaPoolG7
section
namespace Go.Proofs.Ytcfieofcnpalgaa.DevW
open Go.RowKit Go.Maps
set_option linter.unusedVariables false
set_option linter.unusedSimpArgs false
/-- how many pages a device has -/
def _root_.Go.Proofs.Ytcfieofcnpalgaa.DevP.many (n : Int) : Nat := (min (max n 1) 1024).toNat
/-- the call hands back a new device -/
def GivesDev (w : World) (X : DevX) (e : Ending) (w' : World) : Prop := ∃ d bs, e = .returned (.pointer (some ⟨d, 0, none⟩)) ∧ Dev w' d bs X ∧ (∀ b ∈ bs, w.heap.size ≤ b) ∧ Below w.heap.size w w'
theorem new_in (N : Nat) (h1 : 1 ≤ N) (h2 : N ≤ 1024) (w w1 : World) (hz : w1.heap.size = w.heap.size + 1) (hb : Below w.heap.size w w1) (hO : OwnE PageE 24 w1 w.heap.size (some ⟨w.heap.size, 0, none⟩) N N (List.replicate N (SlotP.zeros 512))) (T : TypeId) :
    GivesDev w (DevP.new N) (.returned (.pointer (some ⟨w1.heap.size + 1, 0, none⟩))) ((w1.alloc (.map #[] 0)).alloc (.cells (devC N w.heap.size w1.heap.size none 0 0 (DevP.new N)) T)) := by
  have hm := MapM.made (P := Try.prog) (S := intK) (E := slE) (kt := 3) w1
  have hb1 : Below w1.heap.size w1 (w1.alloc (.map #[] 0)) := balloc (bsame w1) _
  have hs1 : (w1.alloc (.map #[] 0)).heap.size = w1.heap.size + 1 := by simp
  have hb2 : Below (w1.alloc (.map #[] 0)).heap.size (w1.alloc (.map #[] 0)) ((w1.alloc (.map #[] 0)).alloc (.cells (devC N w.heap.size w1.heap.size none 0 0 (DevP.new N)) T)) := balloc (bsame _) _
  have hlen : (List.replicate N (SlotP.zeros 512)).length = N := List.length_replicate
  have hrow : Pgs 24 w1 w.heap.size N N (List.replicate N (SlotP.zeros 512)) := hO.less (Nat.zero_le _)
  refine ⟨w1.heap.size + 1, [w1.heap.size + 1, w.heap.size, w1.heap.size], rfl, ⟨w.heap.size, w1.heap.size, [w.heap.size, w1.heap.size], none, none, 0, 0, 0, [], ⟨?_, ⟨?_, hm.at_ (hb2.block _ (by omega)), fun p hp => absurd hp List.not_mem_nil, fun k hk h => rfl, rfl, by simp; omega, Nat.zero_le _⟩, OwnS.none_ _, by simp; omega, DevP.ok_new h1 h2⟩, rfl⟩, ?_, (hb.trans (hb1.mono (by omega))).trans (hb2.mono (by omega))⟩
  · have := Str.new (w1.alloc (.map #[] 0)) (devC N w.heap.size w1.heap.size none 0 0 (DevP.new N)) T
    rw [hs1] at this
    show Str _ _ (devC (List.replicate N (SlotP.zeros 512)).length _ _ _ _ _ _)
    rw [hlen]
    exact this
  · show Pgs _ _ _ (List.replicate N (SlotP.zeros 512)).length (List.replicate N (SlotP.zeros 512)).length _
    rw [hlen]
    exact hrow.at_ ((hb2.block _ (by omega)).trans (hb1.block _ (by omega)))
  · intro b hb
    simp only [List.mem_cons, List.not_mem_nil, or_false] at hb
    omega
theorem make_pages (N : Nat) (h2 : N ≤ 1024) (w : World) : ∃ w1, (Instr.makeSlice 55 (.int .i64 (N : Int)) (.int .i64 (N : Int))).run Try.prog w = .ok (.slice (some ⟨w.heap.size, 0, none⟩) N N) w1 ∧ OwnE PageE 24 w1 w.heap.size (some ⟨w.heap.size, 0, none⟩) N N (List.replicate N (SlotP.zeros 512)) ∧ Below w.heap.size w w1 ∧ w1.heap.size = w.heap.size + 1 := by
  obtain ⟨i0, hi0, iz0, iz1, iz2⟩ := info_parts infoP
  exact own_made (E := PageE) (P := Try.prog) 55 i0 _ ((SlotP.zeros 512).map byteV) (SlotP.zeros 512) Try.underlying55 hi0 iz0 iz1 (by rw [← rowV_zeros]; rfl) (fun _ _ => ⟨rfl, List.length_replicate⟩) N (by rw [iz2]; omega) (by omega) w
set_option maxRecDepth 100000 in
set_option maxHeartbeats 1000000 in
theorem new_low (n : Int) (hn : n < 1) (w : World) : Calls Try.prog 6 #[.int .i64 n] w (GivesDev w (DevP.new 1)) := by
  obtain ⟨w1, hr, hO, hb, hz⟩ := make_pages 1 (by omega) w
  have hmm := @run_makeMap Try.prog
  have HF := Lib.hid (new_in 1 (by omega) (by omega) w w1 hz hb hO 59)
  clear hO hb hz
  simp only [Int.natCast_one] at hr
  go_enter Try.func6, Try.ntmps6
  go_wp2
  go_ret
  exact HF.out
set_option maxRecDepth 100000 in
set_option maxHeartbeats 1000000 in
theorem new_high (n : Int) (hn : 1024 < n) (w : World) : Calls Try.prog 6 #[.int .i64 n] w (GivesDev w (DevP.new 1024)) := by
  obtain ⟨w1, hr, hO, hb, hz⟩ := make_pages 1024 (by omega) w
  have hmm := @run_makeMap Try.prog
  have HF := Lib.hid (new_in 1024 (by omega) (by omega) w w1 hz hb hO 59)
  clear hO hb hz
  have hr2 : (Instr.makeSlice 55 (.int .i64 1024) (.int .i64 1024)).run Try.prog w = .ok (.slice (some ⟨w.heap.size, 0, none⟩) 1024 1024) w1 := hr
  clear hr
  go_enter Try.func6, Try.ntmps6
  go_wp2
  go_ret
  exact HF.out
set_option maxRecDepth 100000 in
set_option maxHeartbeats 1000000 in
theorem new_mid (n : Int) (N : Nat) (hn : n = (N : Int)) (h1 : 1 ≤ N) (h2 : N ≤ 1024) (w : World) : Calls Try.prog 6 #[.int .i64 n] w (GivesDev w (DevP.new N)) := by
  obtain ⟨w1, hr, hO, hb, hz⟩ := make_pages N (by omega) w
  have hmm := @run_makeMap Try.prog
  have HF := Lib.hid (new_in N (by omega) (by omega) w w1 hz hb hO 59)
  clear hO hb hz
  subst hn
  go_enter Try.func6, Try.ntmps6
  go_wp2
  go_ret
  exact HF.out
theorem new_any (n : Int) (w : World) : Calls Try.prog 6 #[.int .i64 n] w (GivesDev w (DevP.new (DevP.many n))) := by
  unfold DevP.many
  by_cases h1 : n < 1
  · rw [show (min (max n 1) 1024).toNat = 1 by omega]
    exact new_low n h1 w
  · by_cases h2 : 1024 < n
    · rw [show (min (max n 1) 1024).toNat = 1024 by omega]
      exact new_high n h2 w
    · exact new_mid n _ (by omega) (by omega) (by omega) w
section
attribute [local go_sem ↓] ldPage_fold stPage_fold bdPage_fold alPage_fold
end
end Go.Proofs.Ytcfieofcnpalgaa.DevW
end
section
namespace Go.Proofs.Ytcfieofcnpalgaa
open Go.RowKit
def Reg.intS (l : List Int) : SP ext := ⟨fun v w => ∃ A n c, v = .slice A n c ∧ Elems IntE w w.heap.size A n c l, fun _ _ _ hb ⟨A, n, c, e, h⟩ => ⟨A, n, c, e, h.next hb⟩⟩
namespace Law20
open Go.RowKit PoolW
set_option linter.unusedVariables false
set_option linter.unusedSimpArgs false
attribute [local go_sem ↓] ldPage_fold stPage_fold bdPage_fold alPage_fold
theorem code_any (e : Int) (w : World) : Calls Try.prog 8 #[.int .i64 e] w fun r w' => r = .returned (.int .i64 e) ∧ w = w' := by
  go_enter Try.func8, Try.ntmps8
  go_wp2
  go_ret
  exact ⟨rfl, rfl⟩
/-- the devices of the example -/
def d1 (P : List UInt8) : DevX := ⟨[SlotP.zeros 512, SlotP.zeros 512], [SlotP.zeros 512, P], [], 0, 0, 0, false, 0, false, 1, 1⟩
def d2 (P Q : List UInt8) : DevX := ⟨[SlotP.zeros 512, SlotP.zeros 512], [Q, P], [], 0, 0, 0, false, 0, false, 2, 2⟩
def d3 (P Q : List UInt8) (k : Int) : DevX := ⟨[SlotP.zeros 512, SlotP.zeros 512], [Q, P], [], 0, 0, 0, false, 0, false, k, 2⟩
theorem live_write (P : List UInt8) : DevP.op (DevP.new 2) (DevW.fitsN (DevP.new 2) 1) (DevP.wrote (DevP.new 2) (1 : Int).toNat P) = d1 P := rfl
theorem live_fresh (P : List UInt8) : PoolP.fresh ⟨d1 P, 0, 1, []⟩ 0 = (⟨d1 P, 0, 1, [⟨0, PoolP.blank 0, true, 0⟩]⟩, 0) := rfl
theorem live_free (P B : List UInt8) : PoolP.free ⟨d1 P, 0, 1, [⟨0, B, true, 0⟩]⟩ = (⟨d2 P (PageP.sealed B), PoolP.force 0 (PoolP.lsn B), 1, []⟩, 0) := rfl
theorem live_fetch (P Q : List UInt8) (far : Int) (hP : PageP.right P 1 = true) : PoolP.fetch ⟨d2 P Q, far, 1, []⟩ 1 = (⟨d3 P Q 3, far, 1, [⟨1, P, false, 0⟩]⟩, (P, 0)) := by
  unfold PoolP.fetch
  rw [if_neg (by intro h; exact h rfl), show PoolP.got ⟨d2 P Q, far, 1, []⟩ 1 = P from rfl, if_pos hP]
  rfl
theorem live_get (P B : List UInt8) (hP : PageP.right P 1 = true) : PoolP.get ⟨d1 P, 0, 1, [⟨0, B, true, 0⟩]⟩ 1 = (⟨d3 P (PageP.sealed B) 3, PoolP.force 0 (PoolP.lsn B), 1, [⟨1, P, false, 0⟩]⟩, (P, 0)) := by
  rw [PoolP.get_none (by rfl), live_free, if_pos rfl, live_fetch _ _ _ hP]
theorem live_read (P Q : List UInt8) : DevP.op (d3 P Q 3) (DevW.fitsN (d3 P Q 3) 0) (d3 P Q 3) = d3 P Q 4 := rfl
theorem live_page (P Q : List UInt8) : DevP.read (d3 P Q 3) 0 (DevW.fitsN (d3 P Q 3) 0) = Q := rfl
set_option maxRecDepth 100000 in
set_option maxHeartbeats 4000000 in
theorem live_any (w : World) : Calls Try.prog 7 #[] w fun e w' => e = .returned (.bool true) ∧ Below w.heap.size w w' := by
  have hal := fun W => run_al (P := Try.prog) arrPage W
  go_enter Try.func7, Try.ntmps7
  go_wp2_with fail
  refine (DevW.new_any 2 w).mono ?_
  rintro e W1 ⟨d, db1, rfl, hD1, hn1, hb1⟩
  have HD1 : Hid (DevW.Dev W1 d db1 (DevP.new 2)) := Lib.hid hD1
  have HB1 := Lib.hid hb1
  have HN1 := Lib.hid hn1
  clear hD1 hb1 hn1
  go_wp2_with fail
  refine (PageW.new_any 1 W1).mono ?_
  rintro e W2 ⟨rfl, hb2⟩
  rw [show SlotP.over (SlotP.zeros 512) 12 (BeP.parts 2 1) = PoolP.blank 1 from rfl]
  have HD2 := Lib.hid (HD1.out.below hb2)
  have HB2 := Lib.hid (bstep HB1.out hb2)
  clear hb2
  go_wp2_with fail
  refine (PageW.sealed_any _ (blank_len 1) W2).mono ?_
  rintro e W3 ⟨rfl, hb3⟩
  have HPR : Hid (PageP.right (PageP.sealed (PoolP.blank 1)) 1 = true) := Lib.hid (by rw [PageN.blank_mk]; exact PageN.sealed_right (PageN.zeros_len 4) (by omega) (by omega))
  have HPL := Lib.hid (PageP.sealed_length _ (blank_len 1))
  generalize PageP.sealed (PoolP.blank 1) = P at *
  have HD3 := Lib.hid (HD2.out.below hb3)
  have HB3 := Lib.hid (bstep HB2.out hb3)
  clear hb3
  go_wp2_with fail
  refine (DevW.Write_any 1 P HPL.out W3 HD3.out ⟨by show (0 : Int) ≤ 1000000000; omega, by show (0 : Int) + (0 : Nat) ≤ 100000000000000; omega, by show (0 : Nat) ≤ 1000000000; omega⟩).mono ?_
  rintro e W4 ⟨rfl, db4, hD4, hn4, hk4⟩
  rw [live_write] at hD4
  have HN4 : Hid (∀ b ∈ db4, w.heap.size ≤ b) := Lib.hid (fun b hb => by
    rcases hn4 b hb with h | h
    · exact HN1.out b h
    · have := HB3.out.size; omega)
  have HB4 : Hid (Below w.heap.size w W4) := Lib.hid (HB3.out.trans (hk4.below HB3.out.size (fun b hb => HN1.out b hb)))
  have HD4 := Lib.hid hD4
  clear hD4 hn4 hk4
  go_wp2_with fail
  obtain ⟨W5, hW5⟩ : ∃ W, W4.alloc (.cells #[.int .i64 0] 33) = W := ⟨_, rfl⟩
  have hb5 : Below W4.heap.size W4 W5 := by rw [← hW5]; exact balloc (bsame _) _
  have hL5 : Str W5 W4.heap.size #[.int .i64 0] := by rw [← hW5]; exact Str.new _ _ _
  try rw [hW5]
  have hw4 := HB4.out.size
  have hnd5 : (W4.heap.size :: db4).Nodup := List.nodup_cons.2 ⟨fun hm => by have : W4.heap.size < W4.heap.size := HD4.out.lt _ hm; omega, dev_nodup HD4.out⟩
  have HB5 := Lib.hid (bstep HB4.out hb5)
  refine (new_any 1 d W4.heap.size db4 (d1 P) 0 W5 (HD4.out.below hb5) hL5 hnd5).mono ?_
  rintro e W6 ⟨p, rfl, hp, hP6, hb6⟩
  have hP6' : Pool W6 p d W4.heap.size (p :: W4.heap.size :: db4) ⟨d1 P, 0, 1, []⟩ := hP6
  have HP6 := Lib.hid hP6'
  have HB6 := Lib.hid (bstep HB5.out hb6)
  have HN6 : Hid (∀ b ∈ p :: W4.heap.size :: db4, w.heap.size ≤ b) := Lib.hid (fun b hb => by
    have := HB5.out.size
    simp only [List.mem_cons] at hb
    rcases hb with rfl | rfl | hb
    · omega
    · omega
    · exact HN4.out b hb)
  generalize p :: W4.heap.size :: db4 = bs6 at *
  clear hW5 hb5 hL5 hnd5 hP6 hP6' hb6 hp
  go_wp2_with fail
  refine (fresh_any p d W4.heap.size bs6 ⟨d1 P, 0, 1, []⟩ 0 W6 HP6.out ⟨by show (1 : Int) ≤ 1000000000; omega, by show (0 : Int) + (0 : Nat) ≤ 100000000000000; omega, by show (1 : Nat) ≤ 1000000000; omega⟩ (by show (0 : Nat) ≤ 90; omega) (by unfold In64; omega)).mono ?_
  rintro e W7 ⟨rfl, bs7, hP7, hn7, hk7⟩
  rw [live_fresh] at hP7 ⊢
  have HN7 : Hid (∀ b ∈ bs7, w.heap.size ≤ b) := Lib.hid (fun b hb => by
    rcases hn7 b hb with h | h
    · exact HN6.out b h
    · have := HB6.out.size; omega)
  have HB7 : Hid (Below w.heap.size w W7) := Lib.hid (HB6.out.trans (hk7.below HB6.out.size (fun b hb => HN6.out b hb)))
  have HP7 := Lib.hid hP7
  clear hP7 hn7 hk7
  have hsm : DevP.Small (d1 P) := ⟨by show (1 : Int) ≤ 1000000000; omega, by show (0 : Int) + (0 : Nat) ≤ 100000000000000; omega, by show (1 : Nat) ≤ 1000000000; omega⟩
  have HBL := Lib.hid (blank_len 0)
  have HBZ : Hid (PoolP.blank 0 = SlotP.over (SlotP.zeros 512) 12 (BeP.parts 2 0)) := Lib.hid rfl
  generalize PoolP.blank 0 = B at *
  go_wp2_with fail
  refine (get_any p d W4.heap.size bs7 ⟨d1 P, 0, 1, [⟨0, B, true, 0⟩]⟩ 1 W7 HP7.out hsm (by rw [live_free]; show (2 : Int) ≤ 1000000000; omega) (by rw [live_free]; show (0 : Nat) ≤ 90; omega) (by unfold In64; omega)).mono ?_
  rintro e W8 ⟨rfl, bs8, hP8, hn8, hk8⟩
  rw [live_get _ _ HPR.out] at hP8 ⊢
  have HN8 : Hid (∀ b ∈ bs8, w.heap.size ≤ b) := Lib.hid (fun b hb => by
    rcases hn8 b hb with h | h
    · exact HN7.out b h
    · have := HB7.out.size; omega)
  have HB8 : Hid (Below w.heap.size w W8) := Lib.hid (HB7.out.trans (hk8.below HB7.out.size (fun b hb => HN7.out b hb)))
  have HP8 := Lib.hid hP8
  clear hP8 hn8 hk8 hsm
  have hz := PageN.zeros_len 512
  have hst8 := run_st (P := Try.prog) arrPage (Str.new W8 (rowV (SlotP.zeros 512)) 24) (by rw [rowV_size]; exact hz) HPL.out
  obtain ⟨W9, hW9⟩ : ∃ W, (W8.alloc (.cells (rowV (SlotP.zeros 512)) 24)).setRow W8.heap.size (rowV P) = W := ⟨_, rfl⟩
  rw [hW9] at hst8
  have hb9 : Below W8.heap.size W8 W9 := by rw [← hW9]; exact below_setRow (balloc (bsame _) _) (Nat.le_refl _) _
  have hP9 := HP8.out.next hb9
  have HB9 := Lib.hid (bstep HB8.out hb9)
  obtain ⟨A, m, c, L, db, q1, q2, q3, q4, rfl⟩ := hP9
  have HI9 := Lib.hid q1
  have HD9 := Lib.hid q2
  have HL9 := Lib.hid q3
  have HN9 := Lib.hid q4
  clear hW9 hb9 q1 q2 q3 q4
  go_wp2_with fail
  refine (DevW.Read_any 0 W9 HD9.out (by show (3 : Int) ≤ 1000000000; omega)).mono ?_
  rintro e W10 ⟨rfl, hT⟩
  rw [live_read, live_page, show DevP.err (d3 P (PageP.sealed B) 3) (DevW.fitsN (d3 P (PageP.sealed B) 3) 0) = 0 from rfl] at *
  obtain ⟨b10, hP10, hn10, hk10⟩ := Pool.dev HI9.out HD9.out HL9.out HN9.out hT
  have HB10 : Hid (Below w.heap.size w W10) := Lib.hid (HB9.out.trans (hk10.below HB9.out.size (fun b hb => HN8.out b hb)))
  have HP10 := Lib.hid hP10
  clear hT hP10 hn10 hk10 hst8
  have hql := PageP.sealed_length B HBL.out
  have HQL := Lib.hid hql
  have hst10 := run_st (P := Try.prog) arrPage (Str.new W10 (rowV (SlotP.zeros 512)) 24) (by rw [rowV_size]; exact hz) hql
  obtain ⟨W11, hW11⟩ : ∃ W, (W10.alloc (.cells (rowV (SlotP.zeros 512)) 24)).setRow W10.heap.size (rowV (PageP.sealed B)) = W := ⟨_, rfl⟩
  rw [hW11] at hst10
  have hb11 : Below W10.heap.size W10 W11 := by rw [← hW11]; exact below_setRow (balloc (bsame _) _) (Nat.le_refl _) _
  have hP11 := HP10.out.next hb11
  have HB11 := Lib.hid (bstep HB10.out hb11)
  have HX11 : Hid (Str W11 W10.heap.size (rowV (PageP.sealed B))) := Lib.hid (by rw [← hW11]; exact (Str.new _ _ _).setRow)
  obtain ⟨A2, m2, c2, L2, db2, q1, q2, q3, q4, -⟩ := hP11
  have HI11 := Lib.hid q1
  have hlx := HX11.out.lt
  clear hW11 hb11 q1 q2 q3 q4 hql
  go_wp2_with fail
  refine Reg.wp_region_vals (R := ext) (W := W11) [Reg.eqv (.int .i64 0), Reg.eqv (.int .i64 0), Reg.eqv (.bool true), Reg.eqv (.bool true), Reg.eqv (.int .i64 0), Reg.eqv (.int .i64 0), Reg.eqv (.bool true), Reg.eqv (.bool true), Reg.eqv (.bool true), Reg.eqv (.agg (rowV (PageP.sealed B))), Reg.eqv (.agg (rowV B)), Reg.eqv (.agg (rowV (PageP.sealed B))), Reg.eqv (.bool true), Reg.eqv (.bool true), Reg.eqv (.bool true), Reg.eqv (.pointer (some ⟨p, 0, none⟩)), Reg.intS [1], Reg.intS [1], Reg.eqv (.bool true), Reg.eqv (.bool true), Reg.eqv (.bool true)] 50 [[(3, none)], [(30, some 0)], [(31, some 1)], [(32, some 2)], [(5, none), (33, some 3)], [(34, some 4), (33, some 3)], [(35, some 5), (33, some 3)], [(33, some 3), (36, some 6)], [(37, some 7)], [(6, none), (38, some 8)], [(38, some 8)], [(40, some 10), (38, some 8)], [(39, some 9), (41, some 11), (38, some 8)], [(38, some 8), (42, some 12)], [(43, some 13)], [(2, none), (44, some 14)], [(45, some 15), (44, some 14)], [(44, some 14)], [(46, some 16), (47, some 17), (44, some 14)], [(44, some 14), (48, some 18)], [(49, some 19)]] rfl (by kernel_rfl) (by kernel_rfl) (by kernel_rfl) ?_ [some 30, some 31, some 32, some 33, some 34, some 35, some 36, some 37, some 38, some 39, some 40, some 41, some 42, some 43, some 44, some 45, some 46, some 47, some 48, some 49, some 0] (by kernel_rfl) ?_
  · refine ⟨?_, ?_, ?_, ?_, ?_, ?_, ?_, ?_, ?_, ?_, ?_, ?_, ?_, ?_, ?_, ?_, ?_, ?_, ?_, ?_, ?_, trivial⟩
    · intro ax wx hx hs
      obtain ⟨e3, -⟩ := hs
      have g3 := Reg.ev (v := .int .i64 0) e3
      exact Reg.obl_free rfl (Reg.wp_eqv (Option.some_ne_none _) (by go_simp) rfl)
    · intro ax wx hx hs
      obtain ⟨e30, -⟩ := hs
      have g30 := Reg.ev (v := .int .i64 0) e30
      refine Reg.obl_free rfl ?_
      go_simp
      refine (code_any 0 wx).mono ?_
      rintro r wy ⟨rfl, rfl⟩
      exact Reg.done (Option.some_ne_none _) rfl (bsame _)
    · intro ax wx hx hs
      obtain ⟨e31, -⟩ := hs
      have g31 := Reg.ev (v := .int .i64 0) e31
      exact Reg.obl_free rfl (Reg.wp_eqv (Option.some_ne_none _) (by go_simp) rfl)
    · intro ax wx hx hs
      obtain ⟨e32, -⟩ := hs
      have g32 := Reg.ev (v := .bool true) e32
      exact Reg.obl_free rfl (Reg.wp_eqv (Option.some_ne_none _) (by go_simp) rfl)
    · intro ax wx hx hs
      obtain ⟨e5, e33, -⟩ := hs
      have g5 := Reg.ev (v := .int .i64 0) e5
      have g33 := Reg.ev (v := .bool true) e33
      exact Reg.obl_want rfl rfl e33 (Reg.wp_eqv (Option.some_ne_none _) (by go_simp) rfl)
    · intro ax wx hx hs
      obtain ⟨e34, e33, -⟩ := hs
      have g34 := Reg.ev (v := .int .i64 0) e34
      have g33 := Reg.ev (v := .bool true) e33
      refine Reg.obl_want rfl rfl e33 ?_
      go_simp
      refine (code_any 0 wx).mono ?_
      rintro r wy ⟨rfl, rfl⟩
      exact Reg.done (Option.some_ne_none _) rfl (bsame _)
    · intro ax wx hx hs
      obtain ⟨e35, e33, -⟩ := hs
      have g35 := Reg.ev (v := .int .i64 0) e35
      have g33 := Reg.ev (v := .bool true) e33
      exact Reg.obl_want rfl rfl e33 (Reg.wp_eqv (Option.some_ne_none _) (by go_simp) rfl)
    · intro ax wx hx hs
      obtain ⟨e33, e36, -⟩ := hs
      have g33 := Reg.ev (v := .bool true) e33
      have g36 := Reg.ev (v := .bool true) e36
      exact Reg.obl_free rfl (Reg.wp_eqv (Option.some_ne_none _) (by go_simp) rfl)
    · intro ax wx hx hs
      obtain ⟨e37, -⟩ := hs
      have g37 := Reg.ev (v := .bool true) e37
      exact Reg.obl_free rfl (Reg.wp_eqv (Option.some_ne_none _) (by go_simp) rfl)
    · intro ax wx hx hs
      obtain ⟨e6, e38, -⟩ := hs
      have g6 := Reg.ev (v := .pointer (some ⟨W10.heap.size, 0, none⟩)) e6
      have g38 := Reg.ev (v := .bool true) e38
      refine Reg.obl_want rfl rfl e38 ?_
      have hx' : Below W11.heap.size W11 wx := hx
      have hld := run_ld (P := Try.prog) arrPage (HX11.out.next hx') HQL.out
      exact Reg.wp_eqv (Option.some_ne_none _) (by go_simp) rfl
    · intro ax wx hx hs
      obtain ⟨e38, -⟩ := hs
      have g38 := Reg.ev (v := .bool true) e38
      refine Reg.obl_want rfl rfl e38 ?_
      go_simp
      refine (PageW.new_any 0 wx).mono ?_
      rintro r wy ⟨rfl, hby⟩
      exact Reg.done (Option.some_ne_none _) (by rw [HBZ.out]; rfl) hby
    · intro ax wx hx hs
      obtain ⟨e40, e38, -⟩ := hs
      have g40 := Reg.ev (v := .agg (rowV B)) e40
      have g38 := Reg.ev (v := .bool true) e38
      refine Reg.obl_want rfl rfl e38 ?_
      go_simp
      refine (PageW.sealed_any B HBL.out wx).mono ?_
      rintro r wy ⟨rfl, hby⟩
      exact Reg.done (Option.some_ne_none _) rfl hby
    · intro ax wx hx hs
      obtain ⟨e39, e41, e38, -⟩ := hs
      have g39 := Reg.ev (v := .agg (rowV (PageP.sealed B))) e39
      have g41 := Reg.ev (v := .agg (rowV (PageP.sealed B))) e41
      have g38 := Reg.ev (v := .bool true) e38
      refine Reg.obl_want rfl rfl e38 ?_
      have harr := run_arr_eq (P := Try.prog) arrPage (PageP.sealed B) (PageP.sealed B) HQL.out HQL.out wx
      rw [beq_self_eq_true] at harr
      exact Reg.wp_eqv (Option.some_ne_none _) (by go_simp) rfl
    · intro ax wx hx hs
      obtain ⟨e38, e42, -⟩ := hs
      have g38 := Reg.ev (v := .bool true) e38
      have g42 := Reg.ev (v := .bool true) e42
      exact Reg.obl_free rfl (Reg.wp_eqv (Option.some_ne_none _) (by go_simp) rfl)
    · intro ax wx hx hs
      obtain ⟨e43, -⟩ := hs
      have g43 := Reg.ev (v := .bool true) e43
      exact Reg.obl_free rfl (Reg.wp_eqv (Option.some_ne_none _) (by go_simp) rfl)
    · intro ax wx hx hs
      obtain ⟨e2, e44, -⟩ := hs
      have g2 := Reg.ev (v := .pointer (some ⟨p, 0, none⟩)) e2
      have g44 := Reg.ev (v := .bool true) e44
      exact Reg.obl_want rfl rfl e44 (Reg.wp_eqv (Option.some_ne_none _) (by go_simp) rfl)
    · intro ax wx hx hs
      obtain ⟨e45, e44, -⟩ := hs
      have g45 := Reg.ev (v := .pointer (some ⟨p, 0, none⟩)) e45
      have g44 := Reg.ev (v := .bool true) e44
      refine Reg.obl_want rfl rfl e44 ?_
      have hx' : Below W11.heap.size W11 wx := hx
      go_simp
      refine (in_at wx (HI11.out.next hx')).mono ?_
      rintro r wy ⟨A8, n8, c8, rfl, hy8, hby⟩
      exact Reg.done (Option.some_ne_none _) ⟨A8, n8, c8, rfl, hy8.elems⟩ hby
    · intro ax wx hx hs
      obtain ⟨e44, -⟩ := hs
      have g44 := Reg.ev (v := .bool true) e44
      refine Reg.obl_want rfl rfl e44 ?_
      go_simp
      exact Reg.done (Option.some_ne_none _) ⟨some ⟨wx.heap.size, 0, none⟩, 1, 1, rfl, IntE.lit (x := 1) (Str.new wx _ _)⟩ (balloc (bsame wx) _)
    · intro ax wx hx hs
      obtain ⟨e46, e47, e44, -⟩ := hs
      have g44 := Reg.ev (v := .bool true) e44
      refine Reg.obl_want rfl rfl e44 ?_
      obtain ⟨A8, n8, c8, e46, hy8⟩ := e46
      obtain ⟨A9, n9, c9, e47, hy9⟩ := e47
      have g46 := Reg.ev e46
      have g47 := Reg.ev e47
      go_simp
      refine (SameL.sameList_any _ hy8 hy9).mono ?_
      rw [decide_eq_true rfl]
      rintro e wy ⟨rfl, hby⟩
      exact Reg.done (Option.some_ne_none _) rfl hby
    · intro ax wx hx hs
      obtain ⟨e44, e48, -⟩ := hs
      have g44 := Reg.ev (v := .bool true) e44
      have g48 := Reg.ev (v := .bool true) e48
      exact Reg.obl_free rfl (Reg.wp_eqv (Option.some_ne_none _) (by go_simp) rfl)
    · intro ax wx hx hs
      obtain ⟨e49, -⟩ := hs
      have g49 := Reg.ev (v := .bool true) e49
      exact Reg.obl_free rfl (Reg.wp_eqv (Option.some_ne_none _) (by go_simp) rfl)
  · intro W12 hwf
    simp only [Reg.Fin]
    rintro _ rfl _ rfl _ rfl _ rfl _ rfl _ rfl _ rfl _ rfl _ rfl _ rfl _ rfl _ rfl _ rfl _ rfl _ rfl _ rfl v46 h46 v47 h47 _ rfl _ rfl _ rfl
    go_simp
    have hwf' : Below W11.heap.size W11 W12 := hwf
    have HB12 := Lib.hid (bstep HB11.out hwf')
    clear hwf hwf'
    go_wp2
    go_ret
    exact ⟨rfl, HB12.out⟩
end Law20
end Go.Proofs.Ytcfieofcnpalgaa
end
section
namespace Go.Proofs.Ytcfieofcnpalgaa
open Go.RowKit
set_option linter.unusedVariables false
set_option linter.unusedSimpArgs false
namespace PoolW
attribute [local go_sem ↓] alPage_fold ldPage_fold stPage_fold bdPage_fold
set_option maxRecDepth 100000 in
set_option maxHeartbeats 1000000 in
theorem get_nil (no : Int) (w : World) : Calls Try.prog 4 #[.pointer none, .int .i64 no] w fun e w' => e = .returned (.tuple #[.agg (rowV (SlotP.zeros 512)), .int .i64 4]) ∧ Below w.heap.size w w' := by
  have hal := fun W => run_al (P := Try.prog) arrPage W
  have hbd := fun W => run_bd (P := Try.prog) arrPage W
  have hz : (SlotP.zeros 512).length = 512 := List.length_replicate
  obtain ⟨W0, hW0⟩ : ∃ W0, w.alloc (.cells (rowV (SlotP.zeros 512)) 24) = W0 := ⟨_, rfl⟩
  have hb0 : Below w.heap.size w W0 := by rw [← hW0]; exact balloc (bsame w) _
  have hS0 : Str W0 w.heap.size (rowV (SlotP.zeros 512)) := by rw [← hW0]; exact Str.new _ _ _
  have hst := run_st (P := Try.prog) arrPage hS0 (by rw [rowV_size]; exact hz) hz
  have hl0 := hS0.lt
  have HB := Lib.hid (below_setRow hb0 (Nat.le_refl _) (rowV (SlotP.zeros 512)))
  have HS := Lib.hid (hS0.setRow (cs' := rowV (SlotP.zeros 512)))
  clear hb0 hS0
  go_enter Try.func4, Try.ntmps4
  go_wp2_with fail
  exact bodyPost_ret (v := .tuple #[.agg (rowV (SlotP.zeros 512)), .int .i64 4]) (DevW.results_page Try.results4 _ HS.out hz rfl) rfl ⟨rfl, HB.out⟩
set_option maxRecDepth 100000 in
set_option maxHeartbeats 1000000 in
theorem set_nil (no : Int) (x : List UInt8) (w : World) : Calls Try.prog 9 #[.pointer none, .int .i64 no, .agg (rowV x)] w fun e w' => e = .returned (.int .i64 4) ∧ Below w.heap.size w w' := by
  have hwa : (Value.agg (rowV x)).cells = rowV x := rfl
  have HB := Lib.hid (balloc (bsame w) (.cells (rowV x) 24))
  go_enter Try.func9, Try.ntmps9
  go_wp2_with fail
  go_ret
  exact ⟨rfl, HB.out⟩
set_option maxRecDepth 100000 in
set_option maxHeartbeats 1000000 in
theorem fresh_nil (no : Int) (w : World) : Calls Try.prog 11 #[.pointer none, .int .i64 no] w fun e w' => e = .returned (.int .i64 4) ∧ w = w' := by
  go_enter Try.func11, Try.ntmps11
  go_wp2_with fail
  go_ret
  exact ⟨rfl, by trivial⟩
set_option maxRecDepth 100000 in
set_option maxHeartbeats 1000000 in
theorem pin_nil (no : Int) (w : World) : Calls Try.prog 12 #[.pointer none, .int .i64 no] w fun e w' => e = .returned (.int .i64 4) ∧ w = w' := by
  go_enter Try.func12, Try.ntmps12
  go_wp2_with fail
  go_ret
  exact ⟨rfl, by trivial⟩
set_option maxRecDepth 100000 in
set_option maxHeartbeats 1000000 in
theorem unpin_nil (no : Int) (w : World) : Calls Try.prog 13 #[.pointer none, .int .i64 no] w fun e w' => e = .returned (.bool false) ∧ w = w' := by
  go_enter Try.func13, Try.ntmps13
  go_wp2_with fail
  go_ret
  exact ⟨rfl, by trivial⟩
set_option maxRecDepth 100000 in
set_option maxHeartbeats 1000000 in
theorem flush_nil (no : Int) (w : World) : Calls Try.prog 14 #[.pointer none] w fun e w' => e = .returned (.int .i64 4) ∧ w = w' := by
  go_enter Try.func14, Try.ntmps14
  go_wp2_with fail
  go_ret
  exact ⟨rfl, by trivial⟩
set_option maxRecDepth 100000 in
set_option maxHeartbeats 1000000 in
theorem in_nil (no : Int) (w : World) : Calls Try.prog 15 #[.pointer none] w fun e w' => e = .returned (.slice none 0 0) ∧ w = w' := by
  go_enter Try.func15, Try.ntmps15
  go_wp2_with fail
  go_ret
  exact ⟨rfl, by trivial⟩
set_option maxRecDepth 100000 in
set_option maxHeartbeats 1000000 in
theorem dirty_nil (no : Int) (w : World) : Calls Try.prog 16 #[.pointer none] w fun e w' => e = .returned (.slice none 0 0) ∧ w = w' := by
  go_enter Try.func16, Try.ntmps16
  go_wp2_with fail
  go_ret
  exact ⟨rfl, by trivial⟩
end PoolW
end Go.Proofs.Ytcfieofcnpalgaa
end
