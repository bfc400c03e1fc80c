/-
  Parts of the proof of PoolAhead.
-/
import Derived.Test.YtcfieofcnpalgaaGreatAhG6
import Derived.Test.YtcfieofcnpalgaaGreatAhG1
import Derived.Test.YtcfieofcnpalgaaGreatAhG5
import Derived.Test.YtcfieofcnpalgaaGreatAhG0
import Derived.Test.YtcfieofcnpalgaaGreatAhG2
import Derived.Deep.AppendSrc
import Derived.Deep.Upon
import Derived.Deep.MidRow
section
namespace Go.Proofs.YtcfieofcnpalgaaGreat
open Go.RowKit
set_option linter.unusedVariables false
set_option linter.unusedSimpArgs false
namespace RefDev
theorem ints_grown {w w' : World} {g n c : Nat} {A : Option Addr} {l : List Int} (h : Elems IntE w w.heap.size A n c l) (hg : w.grownBy w' (some g)) (hne : ∀ a, A = some a → a.block ≠ g) : Elems IntE w' w'.heap.size A n c l := by
  obtain ⟨vs, hr, hl, hc, hm, hx⟩ := h
  refine ⟨vs, hr.imp fun _ _ hq => hq, hl, hc, hm, fun hp => ?_⟩
  obtain ⟨b, o, e, hb, hcell⟩ := hx hp
  exact ⟨b, o, e, Nat.lt_of_lt_of_le hb hg.size, fun j v hv => (World.cell?_of_block (a := ⟨b, o + j, none⟩) (hg.block b hb (fun e2 => by injection e2 with e2; exact hne _ e e2))).trans (hcell j v hv)⟩
/-- a slice of numbers, made since, for a region -/
def intsR (N n : Nat) : SP ext := ⟨fun v w => ∃ A c l, v = .slice A n c ∧ Elems IntE w w.heap.size A n c l ∧ ∀ a, A = some a → N ≤ a.block, fun _ _ _ hb ⟨A, c, l, e, h, hN⟩ => ⟨A, c, l, e, h.next hb, hN⟩⟩
set_option maxRecDepth 100000 in
set_option maxHeartbeats 4000000 in
theorem settle_all (As : Option Addr) (cs : Nat) (Ah : Option Addr) (ch : Nat) (k : Int) (S : List Int) (H : List (List Int)) (w : World) (hS : Hid (Elems IntE w w.heap.size As 5 cs S)) (hH : Hid (Elems RowE w w.heap.size Ah 5 ch H)) :
    Calls Tryz.prog 51 #[.agg #[.slice As 5 cs, .slice Ah 5 ch, .slice none 0 0, .int .i64 0, .int .i64 0, .int .i64 (-1), .bool false, .int .i64 k], .slice none 0 0, .bool true] w fun e w' => ∃ A n c A' n' c', e = .returned (.agg (devV A n c A' n' c' k)) ∧ Below w.heap.size w w' := by
  have hm2 := mk_rows
  go_enter Tryz.func51, Tryz.ntmps51
  go_wp2_with fail
  generalize hW0 : ((w).alloc (.cells #[.slice As 5 cs, .slice Ah 5 ch, .slice none 0 0, .int .i64 0, .int .i64 0, .int .i64 (-1), .bool false, .int .i64 k] 29)).alloc (.cells #[.slice none 0 0, .slice none 0 0, .slice none 0 0, .int .i64 0, .int .i64 0, .int .i64 0, .bool false, .int .i64 0] 29) = W0
  obtain ⟨HS0_0, HS1_0, HB_0, hw_0, hz0⟩ := new2 hW0
  clear hW0 hz0
  have f0_0 := str8 HS0_0.out
  have hl0_0 := HS0_0.out.lt
  have hf0_0 := fun j => HS0_0.out.frozen j
  have f1_0 := str8 HS1_0.out
  have hl1_0 := HS1_0.out.lt
  have hf1_0 := fun j => HS1_0.out.frozen j
  have HL0 := Lib.hid (And.intro HS0_0.out (And.intro HS1_0.out (And.intro HB_0.out (hS.out.next (HB_0.out))))) 
  clear f0_0 HS0_0 f1_0 HS1_0 hf0_0 hf1_0
  go_loopw [7, 8] (fun kv iv wr => ∃ (i kk : Nat) (A : Option Addr) (c : Nat) (S' : List Int), i ≤ 5 ∧ kk ≤ i ∧ kv = .int .i64 (kk : Int) ∧ iv = .int .i64 (i : Int) ∧ Hid (Str wr w.heap.size #[.slice A 5 c, .slice Ah 5 ch, .slice none 0 0, .int .i64 0, .int .i64 0, .int .i64 (-1), .bool false, .int .i64 k] ∧ Str wr (w.heap.size + 1) #[.slice none 0 0, .slice none 0 0, .slice none 0 0, .int .i64 0, .int .i64 0, .int .i64 0, .bool false, .int .i64 0] ∧ Below w.heap.size w wr ∧ Elems IntE wr wr.heap.size A 5 c S')) (fun _ iv _ => 5 - (intOf iv).toNat)
  case atStart => exact ⟨0, 0, As, cs, S, by omega, by omega, rfl, rfl, HL0⟩
  case round =>
    obtain ⟨i, kk, A, c, S', hi, hkk, rfl, rfl, HG⟩ := hrel
    have HB := Lib.hid HG.out.2.2.1
    have HE := Lib.hid HG.out.2.2.2
    have HS0_9 := Lib.hid HG.out.1
    have HS1_9 := Lib.hid HG.out.2.1
    have hw9 := HB.out.size
    have f0 := str8 HS0_9.out
    have f1 := str8 HS1_9.out
    have hl0 := HS0_9.out.lt
    have hl1 := HS1_9.out.lt
    have hz0 := fun j => HS0_9.out.frozen j
    have hz1 := fun j => HS1_9.out.frozen j
    clear HG HL0
    by_cases hlt : i < 5
    · have hd : decide ((i : Int) < 5) = true := by simp; omega
      have hwi : wrap64 ((i : Int) + 1) = (i : Int) + 1 := IntWalk.wrap64_in _ (by omega)
      obtain ⟨b, o, vs, rfl, hb, hrel, hcell⟩ := (hH.out.below HB.out).at_ (k := i) hlt
      obtain ⟨Ar, nr, cr, evs, hEr⟩ := hrel
      have q0 : wr.cell? ⟨b, o + i, none⟩ = some (.slice Ar nr cr) := by
        have h := hcell 0 (.slice Ar nr cr) (by rw [evs]; rfl)
        rwa [show o + i * RowE.size + 0 = o + i from by show o + i * 1 + 0 = _; omega] at h
      clear hcell evs
      by_cases hn0 : nr = 0
      · subst hn0
        clear hEr
        go_wp2
        go_roundw
        case rel => exact ⟨i + 1, kk, A, c, S', by omega, by omega, rfl, by go_num, Lib.hid ⟨HS0_9.out, HS1_9.out, HB.out, HE.out⟩⟩
        case measure => simp [intOf]; omega
      · have hd1 : decide ((nr : Int) = 0) = false := by simp; omega
        have hcap := Nat.le_trans hEr.cap.1 hEr.cap.2
        unfold maxLen at hcap
        have hd2 : decide ((0 : Int) < (nr : Int)) = true := decide_eq_true (by omega)
        have hd3 : decide ((kk : Int) < 0) = false := decide_eq_false (by omega)
        have hwk : wrap64 ((kk : Int) + 1) = (kk : Int) + 1 := IntWalk.wrap64_in _ (by omega)
        obtain ⟨u, hu⟩ : ∃ u, nr = u + 1 := ⟨nr - 1, by omega⟩
        subst hu
        obtain ⟨br, or_, x, rfl, hbr, hx, qx⟩ := SameL.int_at hEr (k := u) (by omega)
        clear hEr hx hn0
        go_wp2_with fail
        refine Reg.wp_region_tail (R := ext) (W := wr) [Reg.eqv (.pointer (some ⟨w.heap.size, 0, none⟩)), Reg.eqv (.slice A 5 c), Reg.eqv (.int .i64 (i : Int)), Reg.eqv (.pointer (some ⟨w.heap.size, 1, none⟩)), Reg.eqv (.slice (some ⟨b, o, none⟩) 5 ch), Reg.eqv (.int .i64 (i : Int)), Reg.eqv (.pointer (some ⟨b, o + i, none⟩)), Reg.eqv (.slice (some ⟨br, or_, none⟩) (u + 1) cr), Reg.eqv (.int .i64 ((u + 1 : Nat) : Int)), Reg.eqv (.int .i64 (u : Int)), Reg.eqv (.pointer (some ⟨br, or_ + u, none⟩)), Reg.eqv (.int .i64 x), (intsR wr.heap.size 5), Reg.eqv (.pointer (some ⟨w.heap.size, 0, none⟩))] 65 14 _ [[(3, none)], [(43, some 0)], [(8, none)], [(3, none)], [(46, some 3)], [(8, none)], [(47, some 4), (48, some 5)], [(49, some 6)], [(10, none)], [(51, some 8)], [(50, some 7), (52, some 9)], [(53, some 10)], [(44, some 1), (45, some 2), (54, some 11)], [(3, none)]] rfl (by kernel_rfl) (by kernel_rfl) (by rfl) (by rfl) rfl (by kernel_rfl) ?_ [some 43, some 44, some 45, some 46, some 47, some 48, some 49, some 50, some 51, some 52, some 53, some 54, some 55, some 56] (by kernel_rfl) ?_
        · refine ⟨?_, ?_, ?_, ?_, ?_, ?_, ?_, ?_, ?_, ?_, ?_, ?_, ?_, ?_, trivial⟩
          · intro ax wx hx hs
            obtain ⟨e3, -⟩ := hs
            have g3 := Reg.ev (v := .pointer (some ⟨w.heap.size, 0, none⟩)) e3
            exact Reg.obl_free rfl (Reg.wp_eqv (Option.some_ne_none _) (by go_simp) rfl)
          · intro ax wx hx hs
            obtain ⟨e43, -⟩ := hs
            have g43 := Reg.ev (v := .pointer (some ⟨w.heap.size, 0, none⟩)) e43
            have l0 := str8 (HS0_9.out.next hx)
            have l1 : wx.cell? ⟨b, o + i, none⟩ = some (.slice (some ⟨br, or_, none⟩) (u + 1) cr) := by rw [World.cell?_of_block (a := ⟨b, o + i, none⟩) (Below.block hx b (by omega))]; exact q0
            have l2 : wx.cell? ⟨br, or_ + u, none⟩ = some (.int .i64 x) := by rw [World.cell?_of_block (a := ⟨br, or_ + u, none⟩) (Below.block hx br (by omega))]; exact qx
            exact Reg.obl_free rfl (Reg.wp_eqv (Option.some_ne_none _) (by go_simp) rfl)
          · intro ax wx hx hs
            obtain ⟨e8, -⟩ := hs
            have g8 := Reg.ev (v := .int .i64 (i : Int)) e8
            exact Reg.obl_free rfl (Reg.wp_eqv (Option.some_ne_none _) (by go_simp) rfl)
          · intro ax wx hx hs
            obtain ⟨e3, -⟩ := hs
            have g3 := Reg.ev (v := .pointer (some ⟨w.heap.size, 0, none⟩)) e3
            exact Reg.obl_free rfl (Reg.wp_eqv (Option.some_ne_none _) (by go_simp) rfl)
          · intro ax wx hx hs
            obtain ⟨e46, -⟩ := hs
            have g46 := Reg.ev (v := .pointer (some ⟨w.heap.size, 1, none⟩)) e46
            have l0 := str8 (HS0_9.out.next hx)
            have l1 : wx.cell? ⟨b, o + i, none⟩ = some (.slice (some ⟨br, or_, none⟩) (u + 1) cr) := by rw [World.cell?_of_block (a := ⟨b, o + i, none⟩) (Below.block hx b (by omega))]; exact q0
            have l2 : wx.cell? ⟨br, or_ + u, none⟩ = some (.int .i64 x) := by rw [World.cell?_of_block (a := ⟨br, or_ + u, none⟩) (Below.block hx br (by omega))]; exact qx
            exact Reg.obl_free rfl (Reg.wp_eqv (Option.some_ne_none _) (by go_simp) rfl)
          · intro ax wx hx hs
            obtain ⟨e8, -⟩ := hs
            have g8 := Reg.ev (v := .int .i64 (i : Int)) e8
            exact Reg.obl_free rfl (Reg.wp_eqv (Option.some_ne_none _) (by go_simp) rfl)
          · intro ax wx hx hs
            obtain ⟨e47, e48, -⟩ := hs
            have g47 := Reg.ev (v := .slice (some ⟨b, o, none⟩) 5 ch) e47
            have g48 := Reg.ev (v := .int .i64 (i : Int)) e48
            refine Reg.obl_free rfl ?_
            exact Reg.wp_eqv (Option.some_ne_none _) (by go_simp; first | done | (intro hq; omega)) rfl
          · intro ax wx hx hs
            obtain ⟨e49, -⟩ := hs
            have g49 := Reg.ev (v := .pointer (some ⟨b, o + i, none⟩)) e49
            have l0 := str8 (HS0_9.out.next hx)
            have l1 : wx.cell? ⟨b, o + i, none⟩ = some (.slice (some ⟨br, or_, none⟩) (u + 1) cr) := by rw [World.cell?_of_block (a := ⟨b, o + i, none⟩) (Below.block hx b (by omega))]; exact q0
            have l2 : wx.cell? ⟨br, or_ + u, none⟩ = some (.int .i64 x) := by rw [World.cell?_of_block (a := ⟨br, or_ + u, none⟩) (Below.block hx br (by omega))]; exact qx
            exact Reg.obl_free rfl (Reg.wp_eqv (Option.some_ne_none _) (by go_simp) rfl)
          · intro ax wx hx hs
            obtain ⟨e10, -⟩ := hs
            have g10 := Reg.ev (v := .int .i64 ((u + 1 : Nat) : Int)) e10
            exact Reg.obl_free rfl (Reg.wp_eqv (Option.some_ne_none _) (by go_simp) rfl)
          · intro ax wx hx hs
            obtain ⟨e51, -⟩ := hs
            have g51 := Reg.ev (v := .int .i64 ((u + 1 : Nat) : Int)) e51
            refine Reg.obl_free rfl ?_
            exact Reg.wp_eqv (Option.some_ne_none _) (by go_simp; exact IntWalk.i64_in _ (by omega)) rfl
          · intro ax wx hx hs
            obtain ⟨e50, e52, -⟩ := hs
            have g50 := Reg.ev (v := .slice (some ⟨br, or_, none⟩) (u + 1) cr) e50
            have g52 := Reg.ev (v := .int .i64 (u : Int)) e52
            refine Reg.obl_free rfl ?_
            exact Reg.wp_eqv (Option.some_ne_none _) (by go_simp; first | done | (intro hq; omega)) rfl
          · intro ax wx hx hs
            obtain ⟨e53, -⟩ := hs
            have g53 := Reg.ev (v := .pointer (some ⟨br, or_ + u, none⟩)) e53
            have l0 := str8 (HS0_9.out.next hx)
            have l1 : wx.cell? ⟨b, o + i, none⟩ = some (.slice (some ⟨br, or_, none⟩) (u + 1) cr) := by rw [World.cell?_of_block (a := ⟨b, o + i, none⟩) (Below.block hx b (by omega))]; exact q0
            have l2 : wx.cell? ⟨br, or_ + u, none⟩ = some (.int .i64 x) := by rw [World.cell?_of_block (a := ⟨br, or_ + u, none⟩) (Below.block hx br (by omega))]; exact qx
            exact Reg.obl_free rfl (Reg.wp_eqv (Option.some_ne_none _) (by go_simp) rfl)
          · intro ax wx hx hs
            obtain ⟨e44, e45, e54, -⟩ := hs
            have g44 := Reg.ev (v := .slice A 5 c) e44
            have g45 := Reg.ev (v := .int .i64 (i : Int)) e45
            have g54 := Reg.ev (v := .int .i64 x) e54
            refine Reg.obl_free rfl ?_
            go_simp
            refine (set_any A 5 c i x S' wx (HE.out.next hx) (by omega) (by omega)).mono ?_
            rintro e wy ⟨A8, n8, c8, rfl, hy8, hN8, hby⟩
            have hl8 := hy8.len
            have hl9 := HE.out.len
            rw [List.length_set, hl9] at hl8
            subst hl8
            exact Reg.done (Option.some_ne_none _) ⟨A8, c8, _, rfl, hy8, fun a ha => Nat.le_trans (Below.size hx) (hN8 a ha)⟩ hby
          · intro ax wx hx hs
            obtain ⟨e3, -⟩ := hs
            have g3 := Reg.ev (v := .pointer (some ⟨w.heap.size, 0, none⟩)) e3
            exact Reg.obl_free rfl (Reg.wp_eqv (Option.some_ne_none _) (by go_simp) rfl)
        · intro W4 hwf
          simp only [Reg.Fin]
          rintro _ rfl _ rfl _ rfl _ rfl _ rfl _ rfl _ rfl _ rfl _ rfl _ rfl _ rfl _ rfl v55 h55 _ rfl
          have hwf' : Below wr.heap.size wr W4 := hwf
          obtain ⟨A8, c8, l8, e8, hE8, hN8⟩ := h55
          subst e8
          have HS0_4 := Lib.hid (HS0_9.out.next hwf')
          have f4 := str8 HS0_4.out
          have hz4 := fun j => HS0_4.out.frozen j
          have hb4 := bstep HB.out hwf'
          have hs4 := hwf'.size
          have hset : ∀ W5, W4.setCell ⟨w.heap.size, 0, none⟩ (.slice A8 5 c8) = W5 → Hid (Str W5 w.heap.size #[.slice A8 5 c8, .slice (some ⟨b, o, none⟩) 5 ch, .slice none 0 0, .int .i64 0, .int .i64 0, .int .i64 (-1), .bool false, .int .i64 k] ∧ Str W5 (w.heap.size + 1) #[.slice none 0 0, .slice none 0 0, .slice none 0 0, .int .i64 0, .int .i64 0, .int .i64 0, .bool false, .int .i64 0] ∧ Below w.heap.size w W5 ∧ ∃ l, Elems IntE W5 W5.heap.size A8 5 c8 l) := fun W5 h5 => by
            have hg : W4.grownBy W5 (some w.heap.size) := by rw [← h5]; exact grown_set (grown_refl W4 _) 0 _
            refine Lib.hid ⟨?_, (HS1_9.out.next hwf').grown hg (by omega), below_grown hb4 hg (Nat.le_refl _), ?_⟩
            · rw [← h5]
              have := HS0_4.out.set 0 (.slice A8 5 c8)
              simpa using this
            · exact ⟨l8, ints_grown hE8 hg (fun a ha => by have := hN8 a ha; omega)⟩
          clear hwf
          refine Reg.Goal.mk ?_
          go_simp
          generalize hW5 : W4.setCell ⟨w.heap.size, 0, none⟩ (.slice A8 5 c8) = W5
          obtain ⟨g1, g2, g3, l9, g4⟩ := (hset W5 hW5).out
          have HG5 := Lib.hid (And.intro g1 (And.intro g2 (And.intro g3 g4)))
          clear hset hW5 g1 g2 g3 g4 f4 hz4 f0 f1 q0 qx
          go_wp2
          go_roundw
          case rel => exact ⟨i + 1, kk + 1, A8, c8, l9, by omega, by omega, by go_num, by go_num, HG5⟩
          case measure => simp [intOf]; omega
    · have hd : decide ((i : Int) < 5) = false := by simp; omega
      go_wp2_with fail
      refine bodyPost_ret (v := .agg (devV A 5 c (some ⟨wr.heap.size, 0, none⟩) 5 5 k)) (by simp [results, Tryz.results51, go_sem, devV, *]) rfl ⟨_, _, _, _, _, _, rfl, ?_⟩
      refine balloc ?_ _
      iterate 9 refine Below.setCell ?_ (by dsimp only; omega) _
      exact HB.out
set_option maxRecDepth 100000 in
set_option maxHeartbeats 4000000 in
theorem go_sync (As : Option Addr) (cs : Nat) (Ah : Option Addr) (ch : Nat) (k : Int) (S : List Int) (H : List (List Int)) (w : World) (hS : Hid (Elems IntE w w.heap.size As 5 cs S)) (hH : Hid (Elems RowE w w.heap.size Ah 5 ch H)) (hk0 : 0 ≤ k) (hk : k ≤ 999) :
    Calls Tryz.prog 30 #[.agg #[.slice As 5 cs, .slice Ah 5 ch, .slice none 0 0, .int .i64 0, .int .i64 0, .int .i64 (-1), .bool false, .int .i64 k], .agg #[.int .i64 2, .int .i64 0, .int .i64 0, .slice none 0 0, .slice none 0 0, .int .i64 0]] w fun e w' => ∃ A n c A' n' c', e = .returned (.tuple #[.agg (devV A n c A' n' c' (k + 1)), .int .i64 0, .int .i64 0]) ∧ Below w.heap.size w w' := by
  have hwr : wrap64 (k + 1) = k + 1 := IntWalk.wrap64_in _ (by omega)
  go_enter Tryz.func30, Tryz.ntmps30
  go_wp2_with fail
  generalize hW0 : (((w).alloc (.cells #[.slice As 5 cs, .slice Ah 5 ch, .slice none 0 0, .int .i64 0, .int .i64 0, .int .i64 (-1), .bool false, .int .i64 k] 29)).alloc (.cells #[.int .i64 2, .int .i64 0, .int .i64 0, .slice none 0 0, .slice none 0 0, .int .i64 0] 67)).alloc (.cells #[.slice none 0 0, .slice none 0 0, .slice none 0 0, .int .i64 0, .int .i64 0, .int .i64 0, .bool false, .int .i64 0] 29) = W0
  obtain ⟨HS0_0, HS1_0, HS2_0, HB_0, hw_0, hz0⟩ := new3 hW0
  clear hW0 hz0
  have f0_0 := str8 HS0_0.out
  have hl0_0 := HS0_0.out.lt
  have hf0_0 := fun j => HS0_0.out.frozen j
  have f1_0 := str6 HS1_0.out
  have hl1_0 := HS1_0.out.lt
  have f2_0 := str8 HS2_0.out
  have hl2_0 := HS2_0.out.lt
  have hf2_0 := fun j => HS2_0.out.frozen j
  go_wp2_with fail
  refine (may_sync As 5 cs Ah 5 ch k 0 hk0 (by omega) W0).mono ?_
  rintro e W1 ⟨rfl, hb1⟩
  have HS0_1 := Lib.hid (HS0_0.out.next hb1)
  have HS1_1 := Lib.hid (HS1_0.out.next hb1)
  have HS2_1 := Lib.hid (HS2_0.out.next hb1)
  have HB_1 := Lib.hid (bstep HB_0.out hb1)
  have hw_1 := HB_1.out.size
  have hws_1 := (hb1).size
  clear f0_0 HS0_0 hf0_0 f1_0 HS1_0 f2_0 HS2_0 hf2_0
  clear hb1
  have f0_1 := str8 HS0_1.out
  have hl0_1 := HS0_1.out.lt
  have hf0_1 := fun j => HS0_1.out.frozen j
  have f1_1 := str6 HS1_1.out
  have hl1_1 := HS1_1.out.lt
  have f2_1 := str8 HS2_1.out
  have hl2_1 := HS2_1.out.lt
  have hf2_1 := fun j => HS2_1.out.frozen j
  unfold devV
  go_wp2_with fail
  generalize hW2 : ((((((((W1).setCell ⟨w.heap.size, 0, none⟩ (.slice As 5 cs)).setCell ⟨w.heap.size, 1, none⟩ (.slice Ah 5 ch)).setCell ⟨w.heap.size, 2, none⟩ (.slice none 0 0)).setCell ⟨w.heap.size, 3, none⟩ (.int .i64 0)).setCell ⟨w.heap.size, 4, none⟩ (.int .i64 0)).setCell ⟨w.heap.size, 5, none⟩ (.int .i64 (-1))).setCell ⟨w.heap.size, 6, none⟩ (.bool false)).setCell ⟨w.heap.size, 7, none⟩ (.int .i64 (k + 1)) = W2
  have HS0_2 : Hid (Str W2 (w.heap.size) #[.slice As 5 cs, .slice Ah 5 ch, .slice none 0 0, .int .i64 0, .int .i64 0, .int .i64 (-1), .bool false, .int .i64 (k + 1)]) := Lib.hid (by rw [← hW2]; have := ((((((((HS0_1.out).set 0 (.slice As 5 cs)).set 1 (.slice Ah 5 ch)).set 2 (.slice none 0 0)).set 3 (.int .i64 0)).set 4 (.int .i64 0)).set 5 (.int .i64 (-1))).set 6 (.bool false)).set 7 (.int .i64 (k + 1)); simpa using this)
  have hgr2 : W1.grownBy W2 (some (w.heap.size)) := by rw [← hW2]; exact grown_set (grown_set (grown_set (grown_set (grown_set (grown_set (grown_set (grown_set (grown_refl W1 (w.heap.size)) 0 (_)) 1 (_)) 2 (_)) 3 (_)) 4 (_)) 5 (_)) 6 (_)) 7 (_)
  have HS1_2 := Lib.hid (HS1_1.out.grown hgr2 (by omega))
  have HS2_2 := Lib.hid (HS2_1.out.grown hgr2 (by omega))
  have HB_2 := Lib.hid (below_grown HB_1.out hgr2 (by omega))
  have hw_2 := HB_2.out.size
  have hws_2 := hgr2.size
  clear hW2
  clear f0_1 HS0_1 hf0_1 f1_1 HS1_1 f2_1 HS2_1 hf2_1
  clear hgr2
  have f0_2 := str8 HS0_2.out
  have hl0_2 := HS0_2.out.lt
  have hf0_2 := fun j => HS0_2.out.frozen j
  have f1_2 := str6 HS1_2.out
  have hl1_2 := HS1_2.out.lt
  have f2_2 := str8 HS2_2.out
  have hl2_2 := HS2_2.out.lt
  have hf2_2 := fun j => HS2_2.out.frozen j
  refine (settle_all As cs Ah ch (k + 1) S H W2 (Lib.hid ((hS.out.below HB_2.out).more hw_2)) (Lib.hid ((hH.out.below HB_2.out).more hw_2))).mono ?_
  rintro e W3 ⟨A9, n9, c9, A8, n8, c8, rfl, hb3⟩
  have HS0_3 := Lib.hid (HS0_2.out.next hb3)
  have HS1_3 := Lib.hid (HS1_2.out.next hb3)
  have HS2_3 := Lib.hid (HS2_2.out.next hb3)
  have HB_3 := Lib.hid (bstep HB_2.out hb3)
  have hw_3 := HB_3.out.size
  have hws_3 := (hb3).size
  clear f0_2 HS0_2 hf0_2 f1_2 HS1_2 f2_2 HS2_2 hf2_2
  clear hb3
  have f0_3 := str8 HS0_3.out
  have hl0_3 := HS0_3.out.lt
  have hf0_3 := fun j => HS0_3.out.frozen j
  have f1_3 := str6 HS1_3.out
  have hl1_3 := HS1_3.out.lt
  have f2_3 := str8 HS2_3.out
  have hl2_3 := HS2_3.out.lt
  have hf2_3 := fun j => HS2_3.out.frozen j
  unfold devV
  go_wp2_with fail
  refine bodyPost_ret (v := .tuple #[.agg (devV A9 n9 c9 A8 n8 c8 (k + 1)), .int .i64 0, .int .i64 0]) (by simp [results, Tryz.results30, go_sem, devV, *]) rfl ⟨_, _, _, _, _, _, rfl, ?_⟩
  iterate 16 refine Below.setCell ?_ (by dsimp only; omega) _
  exact HB_3.out
end RefDev
end Go.Proofs.YtcfieofcnpalgaaGreat
end
section
namespace Go.Proofs.YtcfieofcnpalgaaGreat
open Go.RowKit
set_option maxRecDepth 100000

theorem arr64 : ArrT Tryz.prog 117 64 := ⟨⟨5, Tryz.underlying117, Tryz.underlying5, Be.sizeU8⟩, by kernel_rfl, by kernel_rfl⟩
theorem al64_fold : Instr.alloc 117 true (.tuple #[]) = alSem 117 := rfl
theorem bd64_fold (ps : Array (Nat × Value)) : Instr.build 117 ps = bdSem 117 ps := rfl
theorem ld64_fold (v : Value) : Instr.loadAt 117 v = ldSem 117 v := rfl
theorem st64_fold (a v : Value) : Instr.storeAt 117 a v = stSem 117 a v := rfl
theorem arrPage : ArrT Tryz.prog 42 512 := ⟨⟨5, Tryz.underlying42, Tryz.underlying5, Be.sizeU8⟩, by kernel_rfl, by kernel_rfl⟩
theorem alPage_fold : Instr.alloc 42 true (.tuple #[]) = alSem 42 := rfl
theorem bdPage_fold (ps : Array (Nat × Value)) : Instr.build 42 ps = bdSem 42 ps := rfl
theorem ldPage_fold (v : Value) : Instr.loadAt 42 v = ldSem 42 v := rfl
theorem stPage_fold (a v : Value) : Instr.storeAt 42 a v = stSem 42 a v := rfl
theorem sl64_fold (x : Value) (lo hi mx : Option Value) : Instr.sliceAt 117 x lo hi mx = slSem 117 x lo hi mx := rfl
theorem slPage_fold (x : Value) (lo hi mx : Option Value) : Instr.sliceAt 42 x lo hi mx = slSem 42 x lo hi mx := rfl
end Go.Proofs.YtcfieofcnpalgaaGreat
end
section
namespace Go.Proofs.YtcfieofcnpalgaaGreat
open Go.RowKit
set_option linter.unusedVariables false
theorem splice_cons (cur : List Value) (o : Nat) (v : Value) (r : List Value) (h : o < cur.length) : splice (cur.set o v) (o + 1) r = splice cur o (v :: r) := by
  have e : (cur.set o v).take (o + 1) = cur.take o ++ [v] := by
    refine List.ext_getElem? fun j => ?_
    have hl : (cur.take o).length = o := by rw [List.length_take]; omega
    rcases Nat.lt_trichotomy j o with hj | rfl | hj
    · rw [List.getElem?_take_of_lt (by omega), List.getElem?_set_ne (by omega), List.getElem?_append_left (by omega), List.getElem?_take_of_lt hj]
    · rw [List.getElem?_take_of_lt (by omega), List.getElem?_set_self h, List.getElem?_append_right (by omega), hl]
      simp
    · rw [List.getElem?_eq_none (by simp; omega), List.getElem?_eq_none (by simp; omega)]
  unfold splice
  rw [e, List.drop_set_of_lt (by omega)]
  simp [Nat.add_assoc, Nat.add_comm 1]
theorem setCells_heap (b : Nat) : ∀ (vs : List Value) (o : Nat) (w : World) (cur : Array Value) (t : TypeId), w.heap[b]? = some (.cells cur t (0, 0)) → o + vs.length ≤ cur.size → (w.setCells b o vs).heap[b]? = some (.cells (splice cur.toList o vs).toArray t (0, 0))
  | [], o, w, cur, t, h, _ => by
    rw [World.setCells, h]
    simp [splice]
  | v :: r, o, w, cur, t, h, hl => by
    rw [World.setCells]
    have hl' : o + 1 + r.length ≤ cur.size := by simp at hl; omega
    have h1 : (w.setCell ⟨b, o, none⟩ v).heap[b]? = some (.cells (cur.setIfInBounds o v) t (0, 0)) := by simp [World.setCell, Array.getElem?_modify, h]
    rw [setCells_heap b r (o + 1) _ _ t h1 (by simpa using hl'), Array.toList_setIfInBounds, splice_cons _ _ _ _ (by simp at hl ⊢; omega)]
theorem grown_setCells (b : Nat) : ∀ (vs : List Value) (o : Nat) (w0 w : World), w0.grownBy w (some b) → w0.grownBy (w.setCells b o vs) (some b)
  | [], _, _, _, h => h
  | v :: r, o, w0, w, h => by
    rw [World.setCells]
    exact grown_setCells b r (o + 1) w0 _ (grown_set h o v)
theorem splice_get_in {cur vs : List Value} {o j : Nat} (h : o + vs.length ≤ cur.length) (hj : j < vs.length) : (splice cur o vs)[o + j]? = vs[j]? := by
  unfold splice
  have h0 : (cur.take o).length = o := by rw [List.length_take]; omega
  rw [List.getElem?_append_right (by omega), h0, List.getElem?_append_left (by omega)]
  congr 1
  omega
theorem splice_get_out {cur vs : List Value} {o j : Nat} (h : o + vs.length ≤ cur.length) (hj : j < o ∨ o + vs.length ≤ j) : (splice cur o vs)[j]? = cur[j]? := by
  unfold splice
  have h0 : (cur.take o).length = o := by rw [List.length_take]; omega
  rcases hj with hj | hj
  · rw [List.getElem?_append_left (by omega), List.getElem?_take_of_lt hj]
  · rw [List.getElem?_append_right (by omega), h0, List.getElem?_append_right (by omega), List.getElem?_drop]
    congr 1
    omega
theorem splice_len {cur vs : List Value} {o : Nat} (h : o + vs.length ≤ cur.length) : (splice cur o vs).length = cur.length := by
  unfold splice
  simp
  omega
/-- the block that such a slice lies in, if it has room -/
def OwnS (w : World) (gb : Option Nat) (A : Option Addr) (n c : Nat) (l : List UInt8) : Prop :=
  l.length = n ∧ n ≤ c ∧ c ≤ maxLen ∧ ((c = 0 ∧ gb = none) ∨ ∃ (g o : Nat) (cur : Array Value) (T : TypeId), gb = some g ∧ A = some ⟨g, o, none⟩ ∧ w.heap[g]? = some (.cells cur T (0, 0)) ∧ o + c ≤ cur.size ∧ ∀ (j : Nat) u, l[j]? = some u → cur[o + j]? = some (byteV u))
section
variable {w w' : World} {gb : Option Nat} {A : Option Addr} {n c : Nat} {l : List UInt8}
theorem OwnS.len (h : OwnS w gb A n c l) : l.length = n := h.1
theorem OwnS.none_ (w : World) : OwnS w none none 0 0 [] := ⟨rfl, Nat.le_refl _, by unfold maxLen; omega, .inl ⟨rfl, rfl⟩⟩
theorem OwnS.lt (h : OwnS w gb A n c l) : ∀ g, gb = some g → g < w.heap.size := by
  intro g hg
  obtain ⟨-, -, -, (⟨-, e⟩ | ⟨g', o, cur, T, e, -, hh, -⟩)⟩ := h
  · rw [e] at hg; cases hg
  · rw [e] at hg; cases hg; exact (Array.getElem?_eq_some_iff.1 hh).1
theorem OwnS.at_ (h : OwnS w gb A n c l) (hb : ∀ g, gb = some g → w'.heap[g]? = w.heap[g]?) : OwnS w' gb A n c l := by
  obtain ⟨h1, h2, h3, (h4 | ⟨g, o, cur, T, e, hA, hh, r⟩)⟩ := h
  · exact ⟨h1, h2, h3, .inl h4⟩
  · exact ⟨h1, h2, h3, .inr ⟨g, o, cur, T, e, hA, (hb g e).trans hh, r⟩⟩
theorem OwnS.next (h : OwnS w gb A n c l) (hb : Below w.heap.size w w') : OwnS w' gb A n c l := h.at_ fun g e => hb.block g (h.lt g e)
theorem OwnS.grown {g : Nat} (h : OwnS w gb A n c l) (hg : w.grownBy w' (some g)) (hne : gb ≠ some g) : OwnS w' gb A n c l := h.at_ fun k e => hg.block k (h.lt k e) (by rw [← e]; exact hne)
theorem OwnS.bytes (h : OwnS w gb A n c l) : Bytes w w.heap.size A n c l := by
  obtain ⟨h1, h2, h3, (⟨h4, -⟩ | ⟨g, o, cur, T, e, hA, hh, hs, hc⟩)⟩ := h
  · exact ⟨h1, h2, h3, fun hn => absurd hn (by omega)⟩
  · exact ⟨h1, h2, h3, fun _ => ⟨g, o, hA, (Array.getElem?_eq_some_iff.1 hh).1, fun j u hu => by rw [cell_of_row w g (o + j) cur T (0, 0) hh]; exact hc j u hu⟩⟩
/-- a part of it -/
theorem OwnS.cut (h : OwnS w gb A n c l) (lo hi m : Nat) (h1 : lo ≤ hi) (h2 : hi ≤ n) (h3 : hi ≤ m) (h4 : m ≤ c) : ∃ gb', OwnS w gb' (cutA A lo m 1) (hi - lo) (m - lo) ((l.drop lo).take (hi - lo)) ∧ (gb' = gb ∨ gb' = none) := by
  obtain ⟨hl, hc, hm, hx⟩ := h
  rcases hx with ⟨h0, e⟩ | ⟨g, o, cur, T, e, hA, hh, hs, hcell⟩
  · exact ⟨none, ⟨by simp; omega, by omega, by omega, .inl ⟨by omega, rfl⟩⟩, .inr rfl⟩
  · by_cases hml : m = lo
    · exact ⟨none, ⟨by simp; omega, by omega, by omega, .inl ⟨by omega, rfl⟩⟩, .inr rfl⟩
    · refine ⟨gb, ⟨by simp; omega, by omega, by omega, .inr ⟨g, o + lo, cur, T, e, ?_, hh, by omega, fun j u hu => ?_⟩⟩, .inl rfl⟩
      · unfold cutA
        rw [if_neg hml, hA]
        simp [add_none]
      · rw [List.getElem?_take] at hu
        split at hu
        · rw [List.getElem?_drop] at hu
          rw [Nat.add_assoc]
          exact hcell _ u hu
        · cases hu
/-- an append onto it, out of whatever bytes -/
theorem OwnS.app {P : Program} (t ty e : TypeId) (ht : P.underlying t = some (.slice e)) (hi : (P.info? e).map (fun i => (i.zero, i.size, i.bytes)) = some (some (.int .u8 0), 1, 1)) (h : OwnS w gb A n c l) {B m c2 : Nat} {A2 : Option Addr} {l2 : List UInt8} (h2 : Bytes w B A2 m c2 l2) (hn : n + m ≤ 140737488355328) :
    ∃ A' c' w' gb', (appSem #[t, t] ty #[.slice A n c, .slice A2 m c2]).run P w = .ok (.slice A' (n + m) c') w' ∧ OwnS w' gb' A' (n + m) c' (l ++ l2) ∧ w.grownBy w' gb ∧ (gb' = gb ∨ gb' = some w.heap.size) := by
  obtain ⟨i0, hi0, hz0, hz1, hz2⟩ := info_parts hi
  have hm2 := h2.len
  have hln := h.len
  have hsrc : Src P 1 t (.slice A2 m c2) m (l2.map byteV) w := by
    by_cases h0 : m = 0
    · subst h0
      have : l2 = [] := List.eq_nil_of_length_eq_zero hm2
      subst this
      cases A2 with
      | none => exact Src.ofNil w ht c2
      | some a => exact Src.ofSlice w ht a 0 c2 [] (by simp) (fun j u hu => by simp at hu) (fun u hu => by cases hu)
    · obtain ⟨ad, rfl, hc⟩ := h2.src (by simp; omega)
      exact Src.ofSlice w ht ad m c2 _ (by simp [hm2]) hc (byteV_one l2)
  obtain ⟨hl, hc, hm, hx⟩ := h
  unfold appSem
  by_cases hroom : n + m ≤ c
  · rcases hx with ⟨h0, e1⟩ | ⟨g, o, cur, T, e1, hA, hh, hs, hcell⟩
    · have e2 : m = 0 := by omega
      have e3 : n = 0 := by omega
      subst e2
      have : l2 = [] := List.eq_nil_of_length_eq_zero hm2
      subst this
      exact ⟨A, c, w, none, run_append_nothing w t t ty e i0 ht hi0 A n c hc _ (by rw [hz1]; exact hsrc), ⟨by simpa using hl, by omega, hm, .inl ⟨h0, rfl⟩⟩, by rw [e1]; exact World.grownBy.refl w _, .inl e1.symm⟩
    · subst hA
      have hcl : ∀ j, j < (l2.map byteV).length → o + n + j < cur.size := fun j hj => by simp at hj; omega
      have hr := run_append_room_src (P := P) w t t ty e i0 ht hi0 g o n c (.slice A2 m c2) m (l2.map byteV) (by rw [hz1]; exact hsrc) hroom
        (fun j hj => by rw [hz1, Nat.mul_one, cell_of_row w g _ cur T (0, 0) hh, Array.getElem?_eq_getElem (hcl j hj)]; rfl)
        (fun j hj => by simp [World.frozen?, hh])
      rw [hz1, Nat.mul_one] at hr
      have hfit : o + n + (l2.map byteV).length ≤ cur.size := by simp; omega
      refine ⟨some ⟨g, o, none⟩, c, _, gb, hr, ⟨by simp; omega, by omega, hm, .inr ⟨g, o, _, T, e1, rfl, setCells_heap g _ _ w cur T hh hfit, ?_, fun j u hu => ?_⟩⟩, by rw [e1]; exact grown_setCells g _ _ w w (World.grownBy.refl w _), .inl rfl⟩
      · rw [List.size_toArray, splice_len (by simpa using hfit)]
        simpa using hs
      · rw [List.getElem?_toArray]
        by_cases hj : j < n
        · rw [splice_get_out (by simpa using hfit) (.inl (by omega)), Array.getElem?_toList]
          exact hcell j u (by rw [List.getElem?_append_left (by omega)] at hu; exact hu)
        · rw [List.getElem?_append_right (by omega)] at hu
          have hj2 : j - l.length < l2.length := (List.getElem?_eq_some_iff.1 hu).1
          have := splice_get_in (cur := cur.toList) (vs := l2.map byteV) (o := o + n) (j := j - l.length) (by simpa using hfit) (by simpa using hj2)
          rw [show o + n + (j - l.length) = o + j by omega] at this
          rw [this, List.getElem?_map, hu]
          rfl
  · have hg : c < n + m := by omega
    have hold : (Builtin.firstCells i0.size n (.slice A n c)).run P w.drew = .ok (l.map byteV).toArray w.drew := by
      rw [hz1]
      rcases hx with ⟨h0, e1⟩ | ⟨g, o, cur, T, e1, hA, hh, hs, hcell⟩
      · have e3 : n = 0 := by omega
        subst e3
        have : l = [] := List.eq_nil_of_length_eq_zero hl
        subst this
        cases A with
        | none => exact run_firstCells_none w.drew 1 0 0 c
        | some a => exact run_firstCells_some w.drew 1 0 a 0 c [] (by simp) (fun j v hv => by simp at hv)
      · subst hA
        refine run_firstCells_some w.drew 1 n _ n c _ (by simp [hl]) (fun j v hv => ?_)
        rw [List.getElem?_map, Option.map_eq_some_iff] at hv
        obtain ⟨u, hu, rfl⟩ := hv
        rw [add_none]
        show w.cell? _ = _
        rw [cell_of_row w g _ cur T (0, 0) hh]
        exact hcell j u hu
    have hr := run_append_grow_src (P := P) w t t ty e i0 _ ht hi0 hz0 A n c (l.map byteV) hold (.slice A2 m c2) m (l2.map byteV) (by rw [hz1]; exact hsrc) hg (by omega) (growslice_fits hg (by rw [hz2]; omega))
    refine ⟨_, _, _, some w.heap.size, hr, ⟨by simp; omega, grownCap_ge _ _ _ _, grownCap_le_maxLen _ _ _ _ (by unfold maxLen; omega), .inr ⟨_, 0, _, e, rfl, rfl, heap_alloc_new w.drew _, ?_, fun j u hu => ?_⟩⟩, ?_, .inr rfl⟩
    · have := grownCap_ge w (n + m) c e
      simp only [Array.size_append, List.size_toArray, List.length_append, List.length_map, size_zeroCells, Value.cells]
      simp
      omega
    · rw [Nat.zero_add]
      have hj : j < (l ++ l2).length := (List.getElem?_eq_some_iff.1 hu).1
      rw [Array.getElem?_append_left (by simpa using hj), List.getElem?_toArray, ← List.map_append, List.getElem?_map, hu]
      rfl
    · exact ⟨rfl, rfl, rfl, by simp, fun k hk _ => Below.heap_alloc w.drew _ k hk⟩
end
end Go.Proofs.YtcfieofcnpalgaaGreat
end
section
namespace Go.Proofs.YtcfieofcnpalgaaGreat
open Go.RowKit
set_option linter.unusedVariables false
/-- a page in a row -/
def PageE : El (List UInt8) where
  size := 512
  pos := by decide
  rel w B vs x := vs = x.map byteV ∧ x.length = 512
  len := by rintro w B vs p ⟨rfl, h⟩; simpa using h
  one := by rintro w B vs p ⟨rfl, _⟩ v hv; exact byteV_one p v hv
  sub := by rintro w w' B vs p hs h; exact h
  more := by rintro w B B' vs p hB h; exact h
/-- a row of pages in block g -/
abbrev Pgs (T : TypeId) (w : World) (g n c : Nat) (ps : List (List UInt8)) : Prop := OwnE PageE T w 0 (some ⟨g, 0, none⟩) n c ps
theorem pageE_rel {w w' : World} {B B' : Nat} {vs : List (List Value)} {ps : List (List UInt8)} (h : Rel2 (PageE.rel w B) vs ps) : Rel2 (PageE.rel w' B') vs ps := h.imp fun _ _ hq => hq
section
variable {T : TypeId} {w w' : World} {g n c k : Nat} {ps : List (List UInt8)} {p : List UInt8}
theorem Pgs.blk (h : Pgs T w g n c ps) : ∃ cur vs, w.heap[g]? = some (.cells cur T (0, 0)) ∧ n ≤ c ∧ c ≤ maxLen ∧ cur.size = c * 512 ∧ cur.toList.take (n * 512) = vs.flatten ∧ Rel2 (PageE.rel w 0) vs ps := by
  obtain ⟨vs, h1, h2⟩ := h
  rcases h1.2 with ⟨e, h0⟩ | ⟨g', cap, cur, e, hg, hh, hnc, hm, hc, hx⟩
  · cases e
  · cases e
    exact ⟨cur, vs, hh, hnc, hm, hc, hx, pageE_rel h2⟩
theorem Pgs.lt (h : Pgs T w g n c ps) : g < w.heap.size := by
  obtain ⟨cur, vs, hh, -⟩ := h.blk
  exact (Array.getElem?_eq_some_iff.1 hh).1
theorem Pgs.le (h : Pgs T w g n c ps) : n ≤ c := by
  obtain ⟨cur, vs, hh, hn, -⟩ := h.blk
  exact hn
theorem Pgs.at_ (h : Pgs T w g n c ps) (hb : w'.heap[g]? = w.heap[g]?) : Pgs T w' g n c ps := by
  obtain ⟨vs, h1, h2⟩ := h
  refine ⟨vs, ⟨h1.1, ?_⟩, pageE_rel h2⟩
  rcases h1.2 with ⟨e, h0⟩ | ⟨g', cap, cur, e, hg, hh, r⟩
  · cases e
  · cases e
    exact .inr ⟨g, c, cur, rfl, hg, hb.trans hh, r⟩
theorem Pgs.wide (h : Pgs T w g n c ps) : ∀ p ∈ ps, p.length = 512 := by
  obtain ⟨cur, vs, -, -, -, -, -, hr⟩ := h.blk
  intro p hp
  obtain ⟨k, hk, rfl⟩ := List.getElem_of_mem hp
  obtain ⟨v, -, hv⟩ := hr.get (List.getElem?_eq_getElem hk)
  exact hv.2
theorem Pgs.range (h : Pgs T w g n c ps) (hk : ps[k]? = some p) : w.rangeAt g (k * 512) (p.map byteV) := by
  obtain ⟨cur, vs, hh, hnc, hm, hc, hx, hr⟩ := h.blk
  have hl := h.len
  have hkl : k < ps.length := (List.getElem?_eq_some_iff.1 hk).1
  obtain ⟨v, hv, rfl, hpl⟩ := hr.get hk
  intro j u hu
  have hj : j < 512 := by have := (List.getElem?_eq_some_iff.1 hu).1; simpa [hpl] using this
  have h1 := flat_at (size := 512) vs (fun y hy => by obtain ⟨q, hq⟩ := hr.mem hy; exact PageE.len hq) k _ j u hv hu
  rw [cell_of_row w g _ cur T (0, 0) hh, ← Array.getElem?_toList]
  rw [← hx, List.getElem?_take_of_lt (by have : (k + 1) * 512 ≤ n * 512 := Nat.mul_le_mul_right _ (by omega); omega)] at h1
  exact h1
theorem page_load (h : w.rangeAt g k (p.map byteV)) (hp : p.length = 512) : (ldSem 42 (.pointer (some ⟨g, k, none⟩))).run Tryz.prog w = .ok (.agg (rowV p)) w := by
  obtain ⟨e, he, _⟩ := arrPage.und
  have := run_loadAt_mid (P := Tryz.prog) w g k 42 (p.map byteV) _ h he rfl (by rw [arrPage.size]; simp [hp])
  exact this
theorem Pgs.load (h : Pgs T w g n c ps) (hk : ps[k]? = some p) : (ldSem 42 (.pointer (some ⟨g, k * 512, none⟩))).run Tryz.prog w = .ok (.agg (rowV p)) w :=
  page_load (h.range hk) (h.wide p (List.mem_of_getElem? hk))
theorem Pgs.store (h : Pgs T w g n c ps) (hk : k < n) (hp : p.length = 512) :
    ∃ w1, (stSem 42 (.pointer (some ⟨g, k * 512, none⟩)) (.agg (rowV p))).run Tryz.prog w = .ok () w1 ∧ Pgs T w1 g n c (ps.set k p) ∧ w.grownBy w1 (some g) ∧ w1.heap.size = w.heap.size := by
  obtain ⟨g', w1, e, -, -, hr, hO, hg, hz⟩ := OwnE.write (P := Tryz.prog) h (j := k) (i := 0) (s := p.map byteV) (x := p) hk (by show 0 + _ ≤ 512; simp [hp]) (byteV_one p) (fun g vs _ hq => by
    have hl : k < ps.length := by rw [h.len]; exact hk
    obtain ⟨rfl, h2⟩ := hq _ (List.getElem?_eq_getElem hl)
    refine ⟨?_, hp⟩
    unfold overV
    simp [h2, hp])
  cases e
  refine ⟨w1, ?_, hO, hg, hz⟩
  have hsz : (Tryz.prog.info? 42).map (·.size) = some 512 := arrPage.size
  cases hq : Tryz.prog.info? 42 with
  | none => simp [hq] at hsz
  | some i =>
    have hs : i.size = 512 := by simpa [hq] using hsz
    have hr' : (storeCells ⟨g, k * 512, none⟩ (p.map byteV)).run Tryz.prog w = .ok () w1 := by simpa [PageE] using hr
    simp [stSem, Instr.storeAt, Instr.sureAddr, storeVar, sizeOf, typeInfo, hq, Value.cells, hs, rowV, hp, hr']
end
/-! ### a box that holds a page in its middle -/
def jobC (d : Nat) (n : Int) (l : List UInt8) (s : Value) : Array Value := (([Value.pointer (some ⟨d, 0, none⟩), Value.int .i64 n] : List Value) ++ l.map byteV ++ [s]).toArray
section
variable {w w' : World} {j d : Nat} {n : Int} {l p : List UInt8} {s : Value}
theorem jobC_size (hl : l.length = 512) : (jobC d n l s).size = 515 := by simp [jobC, hl]
theorem jobC_0 : (jobC d n l s)[0]? = some (.pointer (some ⟨d, 0, none⟩)) := by simp [jobC]
theorem jobC_1 : (jobC d n l s)[1]? = some (.int .i64 n) := by simp [jobC]
theorem jobC_s (hl : l.length = 512) : (jobC d n l s)[514]? = some s := by
  unfold jobC
  rw [List.getElem?_toArray, List.getElem?_append_right (by simp [hl])]
  simp [hl]
theorem jobC_range (h : Str w j (jobC d n l s)) (hl : l.length = 512) : w.rangeAt j 2 (l.map byteV) := by
  intro i v hv
  have hi : i < 512 := by have := (List.getElem?_eq_some_iff.1 hv).1; simpa [hl] using this
  rw [h.cell]
  unfold jobC
  rw [List.getElem?_toArray, List.getElem?_append_left (by simp [hl]; omega), List.getElem?_append_right (by simp)]
  simpa using hv
theorem job3 (h : Str w j (jobC d n l s)) (hl : l.length = 512) : w.cell? ⟨j, 0, none⟩ = some (.pointer (some ⟨d, 0, none⟩)) ∧ w.cell? ⟨j, 1, none⟩ = some (.int .i64 n) ∧ w.cell? ⟨j, 514, none⟩ = some s :=
  ⟨(h.cell 0).trans jobC_0, (h.cell 1).trans jobC_1, (h.cell 514).trans (jobC_s hl)⟩
theorem job_load (h : Str w j (jobC d n l s)) (hl : l.length = 512) : (ldSem 42 (.pointer (some ⟨j, 2, none⟩))).run Tryz.prog w = .ok (.agg (rowV l)) w := page_load (jobC_range h hl) hl
theorem job_store (h : Str w j (jobC d n l s)) (hl : l.length = 512) (hp : p.length = 512) :
    ∃ w1, (stSem 42 (.pointer (some ⟨j, 2, none⟩)) (.agg (rowV p))).run Tryz.prog w = .ok () w1 ∧ Str w1 j (jobC d n p s) ∧ w.grownBy w1 (some j) ∧ w1.heap.size = w.heap.size := by
  obtain ⟨t, hh⟩ := h
  have hrun := run_storeCells_at Tryz.prog j 2 t (p.map byteV) 0 _ w hh (by rw [jobC_size hl]; simp [hp]) (byteV_one p)
  simp only [Nat.add_zero, List.length_map, hp] at hrun
  have hcs : ((jobC d n l s).toList.take 2 ++ p.map byteV ++ (jobC d n l s).toList.drop (2 + 512)) = (jobC d n p s).toList := by
    simp [jobC, hl]
  refine ⟨_, ?_, ⟨t, setRow_heap w j _ (jobC d n p s) t _ hh⟩, grown_setRow w j _, sz_setRow _ _ _⟩
  rw [hcs] at hrun
  have hsz : (Tryz.prog.info? 42).map (·.size) = some 512 := arrPage.size
  cases hq : Tryz.prog.info? 42 with
  | none => simp [hq] at hsz
  | some i =>
    have hs : i.size = 512 := by simpa [hq] using hsz
    simp [stSem, Instr.storeAt, Instr.sureAddr, storeVar, sizeOf, typeInfo, hq, Value.cells, hs, rowV, hp, hrun]
end
end Go.Proofs.YtcfieofcnpalgaaGreat
end
