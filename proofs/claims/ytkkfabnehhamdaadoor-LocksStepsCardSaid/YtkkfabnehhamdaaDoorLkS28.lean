/-
  Parts of the proof of LocksSteps.
-/
import Derived.Test.YtkkfabnehhamdaaDoorLkS27
import Derived.Test.YtkkfabnehhamdaaDoorLkS22
import Derived.Test.YtkkfabnehhamdaaDoorLkS0
section
namespace Go.Proofs.YtkkfabnehhamdaaDoor
namespace Law13
open Go.RowKit Go.Maps LockP ModesP LockW RefL
set_option linter.unusedVariables false
set_option linter.unusedSimpArgs false
theorem LF.sub {F F' : List Nat} {H : Nat → Option Obj} {w0 W : World} {t M : Nat} {X : St} (h : LF F H w0 t M X W) (hs : ∀ k ∈ F', k ∈ F) : LF F' H w0 t M X W := by
  obtain ⟨N, bs, h1, h2, h3⟩ := h.lk
  exact ⟨⟨N, bs, h1, h2, fun b hb => ⟨(h3 b hb).1, fun hm => (h3 b hb).2 (hs b hm)⟩⟩, h.good, h.fit, h.bl, fun k hk => h.fr k (hs k hk)⟩
/-- between two steps -/
def Rnd (w : World) (t g i : Nat) (wr : World) : Prop := ∃ (X : St) (x : RT) (A A2 : Option Addr) (n c n2 c2 : Nat), LF (blkD g A n A2 n2) (fun k => wr.heap[k]?) w t (12 * i) X wr ∧ RP w g i x A n c A2 n2 c2 wr ∧ Sim X x
/-- the document's lists, put into the box -/
theorem boxed {w W W' : World} {t M g n c n2 c2 : Nat} {L : Nat} {X : St} {x : RT} {A A2 : Option Addr} {n0 c0 m0 d0 : Nat} {P0 P1 : Option Addr} (hl : LF (blkD g A n A2 n2) (fun k => W.heap[k]?) w t M X W) (hs : Str W g #[.slice P0 n0 c0, .slice P1 m0 d0]) (h0 : w.heap.size ≤ g) (hh : Elems H3E W W.heap.size A n c x.h) (hq : Elems H3E W W.heap.size A2 n2 c2 x.w) (hf : Few L x) (hW : (W.setCell ⟨g, 0, none⟩ (.slice A n c)).setCell ⟨g, 1, none⟩ (.slice A2 n2 c2) = W') :
    LF (blkD g A n A2 n2) (fun k => W'.heap[k]?) w t M X W' ∧ RP w g L x A n c A2 n2 c2 W' ∧ W.grownBy W' (some g) := by
  have hg : W.grownBy W' (some g) := by rw [← hW]; exact (grown_set (grown_refl W g) 0 _).trans (grown_set (grown_refl _ g) 1 _)
  exact ⟨hl.box hg (List.mem_cons_self ..) h0, ⟨by rw [← hW]; exact (hs.set 0 _).set 1 _, h0, (elems_away h3_noSl h3E_pure hh (Nat.le_refl _) hs hg).more hg.size, (elems_away h3_noSl h3E_pure hq (Nat.le_refl _) hs hg).more hg.size, hf⟩, hg⟩
end Law13
namespace locksSteps
open Go.RowKit Go.Maps LockP ModesP LockW RefL Law13
set_option linter.unusedVariables false
set_option linter.unusedSimpArgs false
set_option maxRecDepth 100000 in
set_option maxHeartbeats 16000000 in
theorem walk (v0 v1 v2 : Value) (a0 : List StepL) (a1 : ByteArray) (a2 : Int) (w : World) (g0 : RStepsL w w.heap.size v0 a0) (g1 : RStr w v1 a1) (g2 : RInt w v2 a2) (hT : Modes.Tab w) (hG : 0 < w.heap.size) :
    Calls Tryd.prog 4 #[v0, v1, v2] w fun e w' => e = .returned (.bool true) ∧ Below w.heap.size w w' := by
  obtain ⟨A0, n0, c0, rfl, hE0⟩ := g0
  obtain ⟨rfl, hsz⟩ := g1
  obtain ⟨rfl, hm0, hm1⟩ := g2
  have HE0 := Lib.hid hE0
  have HT := Lib.hid hT
  have HMI := Lib.hid (And.intro hm0 hm1)
  have hl0 := hE0.len
  have hb0 := Nat.le_trans hE0.cap.1 hE0.cap.2
  unfold maxLen at hb0 hsz
  have hgr := great_any A0 n0 c0 a0 w hE0
  clear hE0 hT hG hm0 hm1
  go_enter Tryd.func4, Tryd.ntmps4
  go_wp2_with fail
  refine hgr.mono ?_
  rintro e w' ⟨r, rfl, hr, rfl⟩
  clear hgr
  cases r with
  | true =>
    go_wp2_with fail
    refine (live_any w HT.out).mono ?_
    rintro e w' ⟨rfl, hb⟩
    go_wp2
    go_ret
    exact ⟨rfl, hb⟩
  | false =>
    obtain ⟨hn0, hk0⟩ := hr rfl
    have HK0 := Lib.hid hk0
    clear hr hk0
    by_cases h60 : 100 < a1.size
    · have hd1 : decide ((100 : Int) < (a1.size : Int)) = true := by simp; omega
      go_wp2_with fail
      refine (live_any w HT.out).mono ?_
      rintro e w' ⟨rfl, hb⟩
      go_wp2
      go_ret
      exact ⟨rfl, hb⟩
    · have hd1 : decide ((100 : Int) < (a1.size : Int)) = false := by simp; omega
      have HKZ : Hid (a1.size ≤ 100) := Lib.hid (by omega)
      go_wp2_with fail
      refine (new_ls w).mono ?_
      rintro e W1 ⟨t, rfl, hL1⟩
      obtain ⟨WB, hWB⟩ : ∃ W, W1.alloc (.cells #[.slice none 0 0, .slice none 0 0] 43) = W := ⟨_, rfl⟩
      have hbB : Below W1.heap.size W1 WB := by rw [← hWB]; exact balloc (bsame _) _
      have hsB : Str WB W1.heap.size #[.slice none 0 0, .slice none 0 0] := by rw [← hWB]; exact Str.new _ _ _
      have hRN : Rnd w t W1.heap.size 0 WB := by
        obtain ⟨N, bs, k1, k2, k3⟩ := hL1.lk
        refine ⟨LockP.empty, ⟨[], []⟩, none, none, 0, 0, 0, 0, ⟨⟨N, bs, k1.next hbB, k2, fun b hb => ⟨k3 b hb, fun hm => ?_⟩⟩, hL1.good, hL1.fit, bstep hL1.bl hbB, fun k hk => ⟨?_, rfl⟩⟩, ⟨hsB, hL1.bl.size, Elems.none_ _ _ _, Elems.none_ _ _ _, ⟨Nat.le_refl _, fun e he => by cases he⟩⟩, sim_empty⟩
        · have h1 : b = W1.heap.size := by simpa [blkD, blkF] using hm
          have := k1.lo b hb
          omega
        · have h1 : k = W1.heap.size := by simpa [blkD, blkF] using hk
          rw [h1]
          exact hsB.lt
      have HRN := Lib.hid hRN
      have HGT : Hid (w.heap.size ≤ W1.heap.size) := Lib.hid hL1.bl.size
      obtain ⟨g8, hg8⟩ : ∃ g, W1.heap.size = g := ⟨_, rfl⟩
      rw [hg8] at HRN HGT
      clear hL1 hbB hsB hRN
      go_wp2_with fail
      go_loopw [9] (fun iv wr => ∃ i : Nat, i ≤ n0 ∧ iv = .int .i64 (i : Int) ∧ Hid (Rnd w t g8 i wr)) (fun iv _ => n0 - (intOf iv).toNat)
      case atStart => exact ⟨0, Nat.zero_le _, rfl, HRN⟩
      case round =>
        clear HRN
        obtain ⟨i, hi, rfl, HX⟩ := hrel
        obtain ⟨X, x, A, A2, n, c, n2, c2, hl, hp, hs⟩ := HX.out
        have HLX := Lib.hid hl
        have HPX := Lib.hid hp
        have HSX := Lib.hid hs
        clear HX hl hp hs
        by_cases hlt : i < n0
        · have hd2 : decide ((i : Int) < (n0 : Int)) = true := by simpa using hlt
          have k1 : ¬ (i : Int) < 0 := by omega
          obtain ⟨b, o, xs, rfl, hb, hx, hin, q0, q1, q2, q3⟩ := stepL_at HE0.out hlt
          have HIN := Lib.hid hin
          have HKX := Lib.hid (HK0.out xs (List.mem_of_getElem? hx))
          have HQ := Lib.hid (And.intro q0 (And.intro q1 (And.intro q2 q3)))
          have hbl := HLX.out.bl
          replace q0 := (hbl.cell (p := ⟨b, o + i * 4, none⟩) hb).trans q0
          replace q1 := (hbl.cell (p := ⟨b, o + i * 4 + 1, none⟩) hb).trans q1
          replace q2 := (hbl.cell (p := ⟨b, o + i * 4 + 2, none⟩) hb).trans q2
          replace q3 := (hbl.cell (p := ⟨b, o + i * 4 + 3, none⟩) hb).trans q3
          have hblr : b < wr.heap.size := by have := hbl.size; omega
          obtain ⟨W2, hW2⟩ : ∃ W, wr.alloc (.cells #[.int .i64 xs.txn, .string xs.key, .int .i64 xs.mode] 28) = W := ⟨_, rfl⟩
          have hb2 : Below wr.heap.size wr W2 := by rw [← hW2]; exact balloc (bsame _) _
          have hs2 : Str W2 wr.heap.size #[.int .i64 xs.txn, .string xs.key, .int .i64 xs.mode] := by rw [← hW2]; exact Str.new _ _ _
          have hL2 : LF (wr.heap.size :: blkD g8 A n A2 n2) (fun k => W2.heap[k]?) w t (12 * i) X W2 := HLX.out.swap hb2 (fun k hk => by
            rcases List.mem_cons.1 hk with rfl | hk
            · exact .inr (Nat.le_refl _)
            · exact .inl hk) (fun k hk => by
            rcases List.mem_cons.1 hk with rfl | hk
            · exact hs2.lt
            · have := HPX.out.lt k hk; have := hb2.size; omega)
          have HP2 := Lib.hid (HPX.out.next hb2)
          have HS2 := Lib.hid hs2
          have hdo := do_lf xs hL2 HT.out HIN.out HKX.out (by omega)
          obtain ⟨e1, hsm⟩ := step_sim (ltI := lI) (ltS := lS) HLX.out.good HSX.out xs.act ⟨xs.txn, xs.key, xs.mode⟩
          dsimp only at e1 hsm
          have hfw := few_step HPX.out.few xs.act (e := ⟨xs.txn, xs.key, xs.mode⟩) HKX.out
          obtain ⟨⟨y, ok9, f9, told9⟩, hst⟩ : ∃ s, stepR x xs.act ⟨xs.txn, xs.key, xs.mode⟩ = s := ⟨_, rfl⟩
          obtain ⟨⟨Y, ok, f, told⟩, hsp⟩ : ∃ s, stepP lI lS X xs.act xs.txn xs.key xs.mode = s := ⟨_, rfl⟩
          rw [hst] at e1 hsm hfw
          rw [hsp] at e1 hsm hdo
          dsimp only at e1 hsm hdo hfw
          obtain ⟨rfl, e2⟩ := Prod.mk.inj e1
          obtain ⟨rfl, rfl⟩ := Prod.mk.inj e2
          have HST := Lib.hid hst
          have HSM := Lib.hid hsm
          have HFW := Lib.hid hfw
          have r0 := (hb2.cell (p := ⟨b, o + i * 4, none⟩) hblr).trans q0
          have r1 := (hb2.cell (p := ⟨b, o + i * 4 + 1, none⟩) hblr).trans q1
          have r2 := (hb2.cell (p := ⟨b, o + i * 4 + 2, none⟩) hblr).trans q2
          have r3 := (hb2.cell (p := ⟨b, o + i * 4 + 3, none⟩) hblr).trans q3
          clear hbl hx hin hb2 hs2 hL2 e1 e2 hst hsm hfw hsp
          go_wp2_with fail
          refine hdo.mono ?_
          rintro e W4 ⟨A4, n4, c4, rfl, hE4, hL4⟩
          have HF4 : Hid (LF (blkD g8 A n A2 n2) (fun k => W4.heap[k]?) w t (12 * i + 12) Y W4) := Lib.hid (hL4.here.sub fun k hk => List.mem_cons_of_mem _ hk)
          have HP4 : Hid (RP w g8 i x A n c A2 n2 c2 W4) := Lib.hid (HP2.out.step (hL4.sub fun k hk => List.mem_cons_of_mem _ hk))
          have HO4 : Hid (Str W4 wr.heap.size #[.int .i64 xs.txn, .string xs.key, .int .i64 xs.mode]) := Lib.hid (by
            obtain ⟨T, hT⟩ := HS2.out
            exact ⟨T, (hL4.fr _ (List.mem_cons_self ..)).2.trans hT⟩)
          have HE4 := Lib.hid hE4
          have hbl := hL4.bl
          replace q0 := (hbl.cell (p := ⟨b, o + i * 4, none⟩) hb).trans HQ.out.1
          have hb4 : b < W4.heap.size := by have := hbl.size; omega
          have HM4 : Hid (Modes3 x.h ∧ Modes3 x.w) := Lib.hid ⟨HSX.out.hm, w_modes HLX.out.good.1 HSX.out⟩
          have hlh := HP4.out.h.len
          have hlw := HP4.out.q.len
          have hfx := HP4.out.few.1
          have hg4 := HO4.out.lt
          have hgg : g8 < wr.heap.size := HPX.out.box.lt
          clear q1 q2 q3 r0 r1 r2 r3 hdo hE4 hL4 hbl HS2 HP2 hW2
          have s0 := str2 HP4.out.box
          have sl := HP4.out.box.lt
          have s1 := str3 HO4.out
          have sf := fun j => HP4.out.box.frozen j
          by_cases ha1 : xs.act = 1
          · have hda : (xs.act == 1) = true := by simpa using ha1
            have hc : cancelR x xs.txn = (y, told) ∧ false = ok ∧ 0 = f := by
              have h := HST.out
              unfold stepR at h
              rw [if_pos ha1] at h
              obtain ⟨h1, h2⟩ := Prod.mk.inj h
              obtain ⟨h3, h4⟩ := Prod.mk.inj h2
              obtain ⟨h5, h6⟩ := Prod.mk.inj h4
              exact ⟨by rw [← h1, ← h6], h3, h5⟩
            obtain ⟨hc, rfl, rfl⟩ := hc
            have hca := cancel_any A A2 n c n2 c2 x xs.txn W4 HP4.out.h HP4.out.q HM4.out.1 HM4.out.2 HP4.out.few.2 (by omega)
            rw [hc] at hca
            clear ha1 hc
            go_wp2_with fail
            refine hca.mono ?_
            rintro e W5 ⟨A5, n5, c5, A6, n6, c6, A8, n8, c8, rfl, hh5, hq5, hN5, hf5, hf6, hb5⟩
            dsimp only at hh5 hq5 hN5
            have hbD := frO_blk (g := g8) hf5 hf6
            have hlD : ∀ k ∈ blkD g8 A5 n5 A6 n6, k < W5.heap.size := fun k hk => by
              rcases List.mem_cons.1 hk with rfl | hk
              · have := hb5.size; omega
              · rcases List.mem_append.1 hk with hk | hk
                · obtain ⟨hn, p, e, rfl⟩ := mem_blkF.1 hk
                  exact elems_lt hh5 hn p e
                · obtain ⟨hn, p, e, rfl⟩ := mem_blkF.1 hk
                  exact elems_lt hq5 hn p e
            have hL5 := HF4.out.swap hb5 hbD hlD
            have hst5 := HP4.out.box.next hb5
            obtain ⟨W6, hW6⟩ : ∃ W, W5.alloc (.cells #[.slice A5 n5 c5, .slice A6 n6 c6] 43) = W := ⟨_, rfl⟩
            have hb6 : Below W5.heap.size W5 W6 := by rw [← hW6]; exact balloc (bsame _) _
            have hs6 : Str W6 W5.heap.size #[.slice A5 n5 c5, .slice A6 n6 c6] := by rw [← hW6]; exact Str.new _ _ _
            have hst6 := hst5.next hb6
            have hL6 := (hL5.next hb6).here
            obtain ⟨W7, hW7⟩ : ∃ W, (W6.setCell ⟨g8, 0, none⟩ (.slice A5 n5 c5)).setCell ⟨g8, 1, none⟩ (.slice A6 n6 c6) = W := ⟨_, rfl⟩
            obtain ⟨hL7, hP7, hg7⟩ := boxed hL6 hst6 HP4.out.g (hh5.next hb6) (hq5.next hb6) HFW.out hW7
            have HL7 := Lib.hid hL7
            have HP7 := Lib.hid hP7
            have HO7 : Hid (Str W7 wr.heap.size #[.int .i64 xs.txn, .string xs.key, .int .i64 xs.mode]) := Lib.hid (Reg.Str.by_ ((HO4.out.next hb5).next hb6) hg7 (fun e => by injection e with e; omega))
            have HE7 : Hid (Elems IntE W7 W7.heap.size A4 n4 c4 told) := Lib.hid ((elems_away int_noSl LockW.intE_pure ((HE4.out.next hb5).next hb6) (Nat.le_refl _) hst6 hg7).more hg7.size)
            have HN7 : Hid (Elems IntE W7 W7.heap.size A8 n8 c8 told) := Lib.hid ((elems_away int_noSl LockW.intE_pure (hN5.next hb6) (Nat.le_refl _) hst6 hg7).more hg7.size)
            have g17 := str2 hs6
            have gl17 := hs6.lt
            have g8c := str2 hst6
            have g8l := hst6.lt
            have g8f := fun j => hst6.frozen j
            clear hh5 hq5 hf5 hf6 hbD hlD hL5 hst5 hb6 hs6 hst6 hL6 hL7 hP7 hg7 hN5 hb5 hca
            go_wp2_with fail
            have hlh7 := HP7.out.h.len
            have hlq7 := HP7.out.q.len
            have hfw7 := HP7.out.few.1
            have HOKY : Hid (LockP.Ok Y) := Lib.hid HL7.out.good.1
            have HLE : Hid (∀ us : List Int, us.Nodup → (∀ u, Y.mem u ≠ [] → u ∈ us) → lenOf Y us = lenR y) := Lib.hid (fun us h1 h2 => len_sim HOKY.out HSM.out us h1 h2)
            have HWA : Hid (waitingP Y = waitingR y) := Lib.hid (waiting_sim HOKY.out HSM.out)
            have HSE : Hid (LockP.set Y a1 xs.txn = setR y.h xs.txn a1) := Lib.hid (HSM.out.set a1 xs.txn)
            have HHE : Hid (heldP Y a1 a2 = heldR y a1 a2) := Lib.hid (heldP_sim HOKY.out HSM.out a1 a2)
            have HBL : Hid (blocksP Y xs.txn = blocksR y xs.txn) := Lib.hid (blocks_sim HOKY.out HSM.out xs.txn)
            refine Reg.wp_region_vals (R := ext) (W := W7) [Reg.eqv (.bool false), Reg.eqv (.bool false), Reg.eqv (.bool false), Reg.eqv (.bool false), Reg.eqv (.int .i64 0), Reg.eqv (.int .i64 0), Reg.eqv (.bool false), Reg.eqv (.bool false), Reg.eqv (.bool false), Reg.eqv (.slice A4 n4 c4), Reg.eqv (.slice A8 n8 c8), Reg.eqv (.bool true), Reg.eqv (.bool false), Reg.eqv (.bool false), Reg.eqv (.bool false), Reg.eqv (.pointer (some ⟨t, 0, none⟩)), Reg.eqv (.int .i64 (lenR y : Nat)), Reg.eqv (.agg #[.slice A5 n5 c5, .slice A6 n6 c6]), Reg.eqv (.int .i64 (lenR y : Nat)), Reg.eqv (.bool false), Reg.eqv (.bool false), Reg.eqv (.bool false), Reg.eqv (.pointer (some ⟨t, 0, none⟩)), Reg.intS (waitingR y), Reg.eqv (.agg #[.slice A5 n5 c5, .slice A6 n6 c6]), Reg.intS (waitingR y), Reg.eqv (.bool true), Reg.eqv (.bool false), Reg.eqv (.bool false)] 214 [[(11, none)], [(14, none)], [(98, some 0), (99, some 1)], [(100, some 2)], [(12, none), (101, some 3)], [(15, none), (101, some 3)], [(102, some 4), (103, some 5), (101, some 3)], [(101, some 3), (104, some 6)], [(105, some 7)], [(13, none), (106, some 8)], [(16, none), (106, some 8)], [(107, some 9), (108, some 10), (106, some 8)], [(109, some 11), (106, some 8)], [(106, some 8), (110, some 12)], [(111, some 13)], [(7, none), (112, some 14)], [(113, some 15), (112, some 14)], [(8, none), (112, some 14)], [(115, some 17), (112, some 14)], [(114, some 16), (116, some 18), (112, some 14)], [(112, some 14), (117, some 19)], [(118, some 20)], [(7, none), (119, some 21)], [(120, some 22), (119, some 21)], [(8, none), (119, some 21)], [(122, some 24), (119, some 21)], [(121, some 23), (123, some 25), (119, some 21)], [(124, some 26), (119, some 21)], [(119, some 21), (125, some 27)]] rfl (by kernel_rfl) (by kernel_rfl) (by kernel_rfl) ?_ [some 98, some 99, some 100, some 101, some 102, some 103, some 104, some 105, some 106, some 107, some 108, some 109, some 110, some 111, some 112, some 113, some 114, some 115, some 116, some 117, some 118, some 119, some 120, some 121, some 122, some 123, some 124, some 125, some 126] (by kernel_rfl) ?_
            · refine ⟨?_, ?_, ?_, ?_, ?_, ?_, ?_, ?_, ?_, ?_, ?_, ?_, ?_, ?_, ?_, ?_, ?_, ?_, ?_, ?_, ?_, ?_, ?_, ?_, ?_, ?_, ?_, ?_, ?_, trivial⟩
              · intro ax wx hx hs
                obtain ⟨e11, -⟩ := hs
                have g11 := Reg.ev (v := .bool false) e11
                exact Reg.obl_free rfl (Reg.wp_eqv (Option.some_ne_none _) (by go_simp) rfl)
              · intro ax wx hx hs
                obtain ⟨e14, -⟩ := hs
                have g14 := Reg.ev (v := .bool false) e14
                exact Reg.obl_free rfl (Reg.wp_eqv (Option.some_ne_none _) (by go_simp) rfl)
              · intro ax wx hx hs
                obtain ⟨e98, e99, -⟩ := hs
                have g98 := Reg.ev (v := .bool false) e98
                have g99 := Reg.ev (v := .bool false) e99
                exact Reg.obl_free rfl (Reg.wp_eqv (Option.some_ne_none _) (by go_simp) rfl)
              · intro ax wx hx hs
                obtain ⟨e100, -⟩ := hs
                have g100 := Reg.ev (v := .bool false) e100
                exact Reg.obl_free rfl (Reg.wp_eqv (Option.some_ne_none _) (by go_simp) rfl)
              · intro ax wx hx hs
                obtain ⟨e12, e101, -⟩ := hs
                have g12 := Reg.ev (v := .int .i64 0) e12
                have g101 := Reg.ev (v := .bool false) e101
                exact Reg.obl_want rfl rfl e101 (Reg.wp_eqv (Option.some_ne_none _) (by go_simp) rfl)
              · intro ax wx hx hs
                obtain ⟨e15, e101, -⟩ := hs
                have g15 := Reg.ev (v := .int .i64 0) e15
                have g101 := Reg.ev (v := .bool false) e101
                exact Reg.obl_want rfl rfl e101 (Reg.wp_eqv (Option.some_ne_none _) (by go_simp) rfl)
              · intro ax wx hx hs
                obtain ⟨e102, e103, e101, -⟩ := hs
                have g102 := Reg.ev (v := .int .i64 0) e102
                have g103 := Reg.ev (v := .int .i64 0) e103
                have g101 := Reg.ev (v := .bool false) e101
                exact Reg.obl_want rfl rfl e101 (Reg.wp_eqv (Option.some_ne_none _) (by go_simp) rfl)
              · intro ax wx hx hs
                obtain ⟨e101, e104, -⟩ := hs
                have g101 := Reg.ev (v := .bool false) e101
                have g104 := Reg.ev (v := .bool false) e104
                exact Reg.obl_free rfl (Reg.wp_eqv (Option.some_ne_none _) (by go_simp) rfl)
              · intro ax wx hx hs
                obtain ⟨e105, -⟩ := hs
                have g105 := Reg.ev (v := .bool false) e105
                exact Reg.obl_free rfl (Reg.wp_eqv (Option.some_ne_none _) (by go_simp) rfl)
              · intro ax wx hx hs
                obtain ⟨e13, e106, -⟩ := hs
                have g13 := Reg.ev (v := .slice A4 n4 c4) e13
                have g106 := Reg.ev (v := .bool false) e106
                exact Reg.obl_want rfl rfl e106 (Reg.wp_eqv (Option.some_ne_none _) (by go_simp) rfl)
              · intro ax wx hx hs
                obtain ⟨e16, e106, -⟩ := hs
                have g16 := Reg.ev (v := .slice A8 n8 c8) e16
                have g106 := Reg.ev (v := .bool false) e106
                exact Reg.obl_want rfl rfl e106 (Reg.wp_eqv (Option.some_ne_none _) (by go_simp) rfl)
              · intro ax wx hx hs
                obtain ⟨e107, e108, e106, -⟩ := hs
                have g107 := Reg.ev (v := .slice A4 n4 c4) e107
                have g108 := Reg.ev (v := .slice A8 n8 c8) e108
                have g106 := Reg.ev (v := .bool false) e106
                refine Reg.obl_want rfl rfl e106 ?_
                have hx' : Below W7.heap.size W7 wx := hx
                go_simp
                refine (SameL.sameList_any (l := told) (l' := told) wx (HE7.out.next hx') (HN7.out.next hx')).mono ?_
                rintro r wy ⟨rfl, hby⟩
                rw [decide_eq_true (rfl : told = told)]
                exact Reg.done (Option.some_ne_none _) rfl hby
              · intro ax wx hx hs
                obtain ⟨e109, e106, -⟩ := hs
                have g109 := Reg.ev (v := .bool true) e109
                have g106 := Reg.ev (v := .bool false) e106
                exact Reg.obl_want rfl rfl e106 (Reg.wp_eqv (Option.some_ne_none _) (by go_simp) rfl)
              · intro ax wx hx hs
                obtain ⟨e106, e110, -⟩ := hs
                have g106 := Reg.ev (v := .bool false) e106
                have g110 := Reg.ev (v := .bool false) e110
                exact Reg.obl_free rfl (Reg.wp_eqv (Option.some_ne_none _) (by go_simp) rfl)
              · intro ax wx hx hs
                obtain ⟨e111, -⟩ := hs
                have g111 := Reg.ev (v := .bool false) e111
                exact Reg.obl_free rfl (Reg.wp_eqv (Option.some_ne_none _) (by go_simp) rfl)
              · intro ax wx hx hs
                obtain ⟨e7, e112, -⟩ := hs
                have g7 := Reg.ev (v := .pointer (some ⟨t, 0, none⟩)) e7
                have g112 := Reg.ev (v := .bool false) e112
                exact Reg.obl_want rfl rfl e112 (Reg.wp_eqv (Option.some_ne_none _) (by go_simp) rfl)
              · intro ax wx hx hs
                obtain ⟨e113, e112, -⟩ := hs
                have g113 := Reg.ev (v := .pointer (some ⟨t, 0, none⟩)) e113
                have g112 := Reg.ev (v := .bool false) e112
                refine Reg.obl_want rfl rfl e112 ?_
                have hx' : Below W7.heap.size W7 wx := hx
                go_simp
                refine (len_ls (HL7.out.toLS.next hx') (by omega)).mono ?_
                rintro r wy ⟨us, hu1, hu2, rfl, hby⟩
                rw [HLE.out us hu1 hu2]
                exact Reg.done (Option.some_ne_none _) rfl hby
              · intro ax wx hx hs
                obtain ⟨e8, e112, -⟩ := hs
                have g8 := Reg.ev (v := .pointer (some ⟨g8, 0, none⟩)) e8
                have g112 := Reg.ev (v := .bool false) e112
                have l0 := str2 (HP7.out.box.next hx)
                exact Reg.obl_want rfl rfl e112 (Reg.wp_eqv (Option.some_ne_none _) (by go_simp) rfl)
              · intro ax wx hx hs
                obtain ⟨e115, e112, -⟩ := hs
                have g115 := Reg.ev (v := .agg #[.slice A5 n5 c5, .slice A6 n6 c6]) e115
                have g112 := Reg.ev (v := .bool false) e112
                refine Reg.obl_want rfl rfl e112 ?_
                have hx' : Below W7.heap.size W7 wx := hx
                go_simp
                refine (RefL.len_any A5 A6 n5 c5 n6 c6 y wx (HP7.out.h.next hx') (by omega)).mono ?_
                rintro r wy ⟨rfl, hby⟩
                exact Reg.done (Option.some_ne_none _) rfl hby
              · intro ax wx hx hs
                obtain ⟨e114, e116, e112, -⟩ := hs
                have g114 := Reg.ev (v := .int .i64 (lenR y : Nat)) e114
                have g116 := Reg.ev (v := .int .i64 (lenR y : Nat)) e116
                have g112 := Reg.ev (v := .bool false) e112
                exact Reg.obl_want rfl rfl e112 (Reg.wp_eqv (Option.some_ne_none _) (by go_simp) rfl)
              · intro ax wx hx hs
                obtain ⟨e112, e117, -⟩ := hs
                have g112 := Reg.ev (v := .bool false) e112
                have g117 := Reg.ev (v := .bool false) e117
                exact Reg.obl_free rfl (Reg.wp_eqv (Option.some_ne_none _) (by go_simp) rfl)
              · intro ax wx hx hs
                obtain ⟨e118, -⟩ := hs
                have g118 := Reg.ev (v := .bool false) e118
                exact Reg.obl_free rfl (Reg.wp_eqv (Option.some_ne_none _) (by go_simp) rfl)
              · intro ax wx hx hs
                obtain ⟨e7, e119, -⟩ := hs
                have g7 := Reg.ev (v := .pointer (some ⟨t, 0, none⟩)) e7
                have g119 := Reg.ev (v := .bool false) e119
                exact Reg.obl_want rfl rfl e119 (Reg.wp_eqv (Option.some_ne_none _) (by go_simp) rfl)
              · intro ax wx hx hs
                obtain ⟨e120, e119, -⟩ := hs
                have g120 := Reg.ev (v := .pointer (some ⟨t, 0, none⟩)) e120
                have g119 := Reg.ev (v := .bool false) e119
                refine Reg.obl_want rfl rfl e119 ?_
                have hx' : Below W7.heap.size W7 wx := hx
                go_simp
                refine (waiting_ls (HL7.out.toLS.next hx') (by omega)).mono ?_
                rintro r wy ⟨A9, m9, d9, rfl, hE9, hby⟩
                rw [HWA.out] at hE9
                exact Reg.done (Option.some_ne_none _) ⟨A9, m9, d9, rfl, hE9⟩ hby
              · intro ax wx hx hs
                obtain ⟨e8, e119, -⟩ := hs
                have g8 := Reg.ev (v := .pointer (some ⟨g8, 0, none⟩)) e8
                have g119 := Reg.ev (v := .bool false) e119
                have l0 := str2 (HP7.out.box.next hx)
                exact Reg.obl_want rfl rfl e119 (Reg.wp_eqv (Option.some_ne_none _) (by go_simp) rfl)
              · intro ax wx hx hs
                obtain ⟨e122, e119, -⟩ := hs
                have g122 := Reg.ev (v := .agg #[.slice A5 n5 c5, .slice A6 n6 c6]) e122
                have g119 := Reg.ev (v := .bool false) e119
                refine Reg.obl_want rfl rfl e119 ?_
                have hx' : Below W7.heap.size W7 wx := hx
                go_simp
                refine (RefL.waiting_any A5 A6 n5 c5 n6 c6 y wx (HP7.out.q.next hx') (by omega)).mono ?_
                rintro r wy ⟨A9, m9, d9, rfl, hE9, hby⟩
                exact Reg.done (Option.some_ne_none _) ⟨A9, m9, d9, rfl, hE9⟩ hby
              · intro ax wx hx hs
                obtain ⟨e121, e123, e119, -⟩ := hs
                have g119 := Reg.ev (v := .bool false) e119
                refine Reg.obl_want rfl rfl e119 ?_
                obtain ⟨P9, m9, d9, e121', hE9⟩ := e121
                obtain ⟨P8, m8, d8, e123', hE8⟩ := e123
                have g121 := Reg.ev e121'
                have g123 := Reg.ev e123'
                go_simp
                refine (SameL.sameList_any (l := waitingR y) (l' := waitingR y) wx hE9 hE8).mono ?_
                rintro r wy ⟨rfl, hby⟩
                rw [decide_eq_true (rfl : waitingR y = waitingR y)]
                exact Reg.done (Option.some_ne_none _) rfl hby
              · intro ax wx hx hs
                obtain ⟨e124, e119, -⟩ := hs
                have g124 := Reg.ev (v := .bool true) e124
                have g119 := Reg.ev (v := .bool false) e119
                exact Reg.obl_want rfl rfl e119 (Reg.wp_eqv (Option.some_ne_none _) (by go_simp) rfl)
              · intro ax wx hx hs
                obtain ⟨e119, e125, -⟩ := hs
                have g119 := Reg.ev (v := .bool false) e119
                have g125 := Reg.ev (v := .bool false) e125
                exact Reg.obl_free rfl (Reg.wp_eqv (Option.some_ne_none _) (by go_simp) rfl)
            · intro W8 hwf
              simp only [Reg.Fin]
              rintro _ rfl _ rfl _ rfl _ rfl _ rfl _ rfl _ rfl _ rfl _ rfl _ rfl _ rfl _ rfl _ rfl _ rfl _ rfl _ rfl _ rfl _ rfl _ rfl _ rfl _ rfl _ rfl _ rfl v121 h121 _ rfl v123 h123 _ rfl _ rfl _ rfl
              go_simp
              have hwf' : Below W7.heap.size W7 W8 := hwf
              have HL8 := Lib.hid (HL7.out.next hwf')
              have HP8 := Lib.hid (HP7.out.next hwf')
              have HO8 := Lib.hid (HO7.out.next hwf')
              clear hwf hwf' HL7 HP7 HO7 HE7 HN7
              go_wp2_with fail
              refine Reg.wp_region_vals (R := ext) (W := W8) [Reg.eqv (.pointer (some ⟨t, 0, none⟩)), Reg.eqv (.pointer (some ⟨wr.heap.size, 0, none⟩)), Reg.eqv (.int .i64 xs.txn), Reg.eqv (.string a1), Reg.eqv (.int .i64 (setR y.h xs.txn a1)), Reg.eqv (.agg #[.slice A5 n5 c5, .slice A6 n6 c6]), Reg.eqv (.pointer (some ⟨wr.heap.size, 0, none⟩)), Reg.eqv (.int .i64 xs.txn), Reg.eqv (.string a1), Reg.eqv (.int .i64 (setR y.h xs.txn a1)), Reg.eqv (.bool false), Reg.eqv (.bool false), Reg.eqv (.pointer (some ⟨t, 0, none⟩)), Reg.eqv (.string a1), Reg.eqv (.int .i64 a2), Reg.eqv (.bool (heldR y a1 a2)), Reg.eqv (.agg #[.slice A5 n5 c5, .slice A6 n6 c6]), Reg.eqv (.string a1), Reg.eqv (.int .i64 a2), Reg.eqv (.bool (heldR y a1 a2)), Reg.eqv (.bool false), Reg.eqv (.bool false), Reg.eqv (.bool false), Reg.eqv (.pointer (some ⟨t, 0, none⟩)), Reg.eqv (.pointer (some ⟨wr.heap.size, 0, none⟩)), Reg.eqv (.int .i64 xs.txn), Reg.intS (blocksR y xs.txn), Reg.eqv (.agg #[.slice A5 n5 c5, .slice A6 n6 c6]), Reg.eqv (.pointer (some ⟨wr.heap.size, 0, none⟩)), Reg.eqv (.int .i64 xs.txn), Reg.intS (blocksR y xs.txn), Reg.eqv (.bool true), Reg.eqv (.bool false), Reg.eqv (.bool false)] 214 [[(7, none)], [(10, none)], [(128, some 1)], [(1, none)], [(127, some 0), (129, some 2), (130, some 3)], [(8, none)], [(10, none)], [(133, some 6)], [(1, none)], [(132, some 5), (134, some 7), (135, some 8)], [(131, some 4), (136, some 9)], [(137, some 10)], [(7, none), (138, some 11)], [(1, none), (138, some 11)], [(2, none), (138, some 11)], [(139, some 12), (140, some 13), (141, some 14), (138, some 11)], [(8, none), (138, some 11)], [(1, none), (138, some 11)], [(2, none), (138, some 11)], [(143, some 16), (144, some 17), (145, some 18), (138, some 11)], [(142, some 15), (146, some 19), (138, some 11)], [(138, some 11), (147, some 20)], [(148, some 21)], [(7, none), (149, some 22)], [(10, none), (149, some 22)], [(151, some 24), (149, some 22)], [(150, some 23), (152, some 25), (149, some 22)], [(8, none), (149, some 22)], [(10, none), (149, some 22)], [(155, some 28), (149, some 22)], [(154, some 27), (156, some 29), (149, some 22)], [(153, some 26), (157, some 30), (149, some 22)], [(158, some 31), (149, some 22)], [(149, some 22), (159, some 32)]] rfl (by kernel_rfl) (by kernel_rfl) (by kernel_rfl) ?_ [some 127, some 128, some 129, some 130, some 131, some 132, some 133, some 134, some 135, some 136, some 137, some 138, some 139, some 140, some 141, some 142, some 143, some 144, some 145, some 146, some 147, some 148, some 149, some 150, some 151, some 152, some 153, some 154, some 155, some 156, some 157, some 158, some 159, some 160] (by kernel_rfl) ?_
              · refine ⟨?_, ?_, ?_, ?_, ?_, ?_, ?_, ?_, ?_, ?_, ?_, ?_, ?_, ?_, ?_, ?_, ?_, ?_, ?_, ?_, ?_, ?_, ?_, ?_, ?_, ?_, ?_, ?_, ?_, ?_, ?_, ?_, ?_, ?_, trivial⟩
                · intro ax wx hx hs
                  obtain ⟨e7, -⟩ := hs
                  have g7 := Reg.ev (v := .pointer (some ⟨t, 0, none⟩)) e7
                  exact Reg.obl_free rfl (Reg.wp_eqv (Option.some_ne_none _) (by go_simp) rfl)
                · intro ax wx hx hs
                  obtain ⟨e10, -⟩ := hs
                  have g10 := Reg.ev (v := .pointer (some ⟨wr.heap.size, 0, none⟩)) e10
                  exact Reg.obl_free rfl (Reg.wp_eqv (Option.some_ne_none _) (by go_simp) rfl)
                · intro ax wx hx hs
                  obtain ⟨e128, -⟩ := hs
                  have g128 := Reg.ev (v := .pointer (some ⟨wr.heap.size, 0, none⟩)) e128
                  have l0 := str2 (HP8.out.box.next hx)
                  have l1 := str3 (HO8.out.next hx)
                  exact Reg.obl_free rfl (Reg.wp_eqv (Option.some_ne_none _) (by go_simp) rfl)
                · intro ax wx hx hs
                  obtain ⟨e1, -⟩ := hs
                  have g1 := Reg.ev (v := .string a1) e1
                  exact Reg.obl_free rfl (Reg.wp_eqv (Option.some_ne_none _) (by go_simp) rfl)
                · intro ax wx hx hs
                  obtain ⟨e127, e129, e130, -⟩ := hs
                  have g127 := Reg.ev (v := .pointer (some ⟨t, 0, none⟩)) e127
                  have g129 := Reg.ev (v := .int .i64 xs.txn) e129
                  have g130 := Reg.ev (v := .string a1) e130
                  refine Reg.obl_free rfl ?_
                  have hx' : Below W8.heap.size W8 wx := hx
                  go_simp
                  refine (holds_ls (HL8.out.toLS.next hx') HIN.out.2.1 HKZ.out).mono ?_
                  rintro r wy ⟨rfl, rfl⟩
                  rw [HSE.out]
                  exact Reg.done (Option.some_ne_none _) rfl (bsame _)
                · intro ax wx hx hs
                  obtain ⟨e8, -⟩ := hs
                  have g8 := Reg.ev (v := .pointer (some ⟨g8, 0, none⟩)) e8
                  have l0 := str2 (HP8.out.box.next hx)
                  have l1 := str3 (HO8.out.next hx)
                  exact Reg.obl_free rfl (Reg.wp_eqv (Option.some_ne_none _) (by go_simp) rfl)
                · intro ax wx hx hs
                  obtain ⟨e10, -⟩ := hs
                  have g10 := Reg.ev (v := .pointer (some ⟨wr.heap.size, 0, none⟩)) e10
                  exact Reg.obl_free rfl (Reg.wp_eqv (Option.some_ne_none _) (by go_simp) rfl)
                · intro ax wx hx hs
                  obtain ⟨e133, -⟩ := hs
                  have g133 := Reg.ev (v := .pointer (some ⟨wr.heap.size, 0, none⟩)) e133
                  have l0 := str2 (HP8.out.box.next hx)
                  have l1 := str3 (HO8.out.next hx)
                  exact Reg.obl_free rfl (Reg.wp_eqv (Option.some_ne_none _) (by go_simp) rfl)
                · intro ax wx hx hs
                  obtain ⟨e1, -⟩ := hs
                  have g1 := Reg.ev (v := .string a1) e1
                  exact Reg.obl_free rfl (Reg.wp_eqv (Option.some_ne_none _) (by go_simp) rfl)
                · intro ax wx hx hs
                  obtain ⟨e132, e134, e135, -⟩ := hs
                  have g132 := Reg.ev (v := .agg #[.slice A5 n5 c5, .slice A6 n6 c6]) e132
                  have g134 := Reg.ev (v := .int .i64 xs.txn) e134
                  have g135 := Reg.ev (v := .string a1) e135
                  refine Reg.obl_free rfl ?_
                  have hx' : Below W8.heap.size W8 wx := hx
                  go_simp
                  refine (RefL.set_any (x := y) xs.txn a1 wx (HP8.out.h.next hx') HSM.out.hm (by omega)).mono ?_
                  rintro r wy ⟨rfl, hby⟩
                  exact Reg.done (Option.some_ne_none _) rfl hby
                · intro ax wx hx hs
                  obtain ⟨e131, e136, -⟩ := hs
                  have g131 := Reg.ev (v := .int .i64 (setR y.h xs.txn a1)) e131
                  have g136 := Reg.ev (v := .int .i64 (setR y.h xs.txn a1)) e136
                  exact Reg.obl_free rfl (Reg.wp_eqv (Option.some_ne_none _) (by go_simp) rfl)
                · intro ax wx hx hs
                  obtain ⟨e137, -⟩ := hs
                  have g137 := Reg.ev (v := .bool false) e137
                  exact Reg.obl_free rfl (Reg.wp_eqv (Option.some_ne_none _) (by go_simp) rfl)
                · intro ax wx hx hs
                  obtain ⟨e7, e138, -⟩ := hs
                  have g7 := Reg.ev (v := .pointer (some ⟨t, 0, none⟩)) e7
                  have g138 := Reg.ev (v := .bool false) e138
                  exact Reg.obl_want rfl rfl e138 (Reg.wp_eqv (Option.some_ne_none _) (by go_simp) rfl)
                · intro ax wx hx hs
                  obtain ⟨e1, e138, -⟩ := hs
                  have g1 := Reg.ev (v := .string a1) e1
                  have g138 := Reg.ev (v := .bool false) e138
                  exact Reg.obl_want rfl rfl e138 (Reg.wp_eqv (Option.some_ne_none _) (by go_simp) rfl)
                · intro ax wx hx hs
                  obtain ⟨e2, e138, -⟩ := hs
                  have g2 := Reg.ev (v := .int .i64 a2) e2
                  have g138 := Reg.ev (v := .bool false) e138
                  exact Reg.obl_want rfl rfl e138 (Reg.wp_eqv (Option.some_ne_none _) (by go_simp) rfl)
                · intro ax wx hx hs
                  obtain ⟨e139, e140, e141, e138, -⟩ := hs
                  have g139 := Reg.ev (v := .pointer (some ⟨t, 0, none⟩)) e139
                  have g140 := Reg.ev (v := .string a1) e140
                  have g141 := Reg.ev (v := .int .i64 a2) e141
                  have g138 := Reg.ev (v := .bool false) e138
                  refine Reg.obl_want rfl rfl e138 ?_
                  have hx' : Below W8.heap.size W8 wx := hx
                  go_simp
                  refine (held_ls (HL8.out.toLS.next hx') a1 a2 HKZ.out).mono ?_
                  rintro r wy ⟨rfl, hby⟩
                  rw [HHE.out]
                  exact Reg.done (Option.some_ne_none _) rfl hby
                · intro ax wx hx hs
                  obtain ⟨e8, e138, -⟩ := hs
                  have g8 := Reg.ev (v := .pointer (some ⟨g8, 0, none⟩)) e8
                  have g138 := Reg.ev (v := .bool false) e138
                  have l0 := str2 (HP8.out.box.next hx)
                  have l1 := str3 (HO8.out.next hx)
                  exact Reg.obl_want rfl rfl e138 (Reg.wp_eqv (Option.some_ne_none _) (by go_simp) rfl)
                · intro ax wx hx hs
                  obtain ⟨e1, e138, -⟩ := hs
                  have g1 := Reg.ev (v := .string a1) e1
                  have g138 := Reg.ev (v := .bool false) e138
                  exact Reg.obl_want rfl rfl e138 (Reg.wp_eqv (Option.some_ne_none _) (by go_simp) rfl)
                · intro ax wx hx hs
                  obtain ⟨e2, e138, -⟩ := hs
                  have g2 := Reg.ev (v := .int .i64 a2) e2
                  have g138 := Reg.ev (v := .bool false) e138
                  exact Reg.obl_want rfl rfl e138 (Reg.wp_eqv (Option.some_ne_none _) (by go_simp) rfl)
                · intro ax wx hx hs
                  obtain ⟨e143, e144, e145, e138, -⟩ := hs
                  have g143 := Reg.ev (v := .agg #[.slice A5 n5 c5, .slice A6 n6 c6]) e143
                  have g144 := Reg.ev (v := .string a1) e144
                  have g145 := Reg.ev (v := .int .i64 a2) e145
                  have g138 := Reg.ev (v := .bool false) e138
                  refine Reg.obl_want rfl rfl e138 ?_
                  have hx' : Below W8.heap.size W8 wx := hx
                  go_simp
                  refine (RefL.held_any (x := y) a1 a2 wx (HP8.out.h.next hx') (by omega)).mono ?_
                  rintro r wy ⟨rfl, hby⟩
                  exact Reg.done (Option.some_ne_none _) rfl hby
                · intro ax wx hx hs
                  obtain ⟨e142, e146, e138, -⟩ := hs
                  have g142 := Reg.ev (v := .bool (heldR y a1 a2)) e142
                  have g146 := Reg.ev (v := .bool (heldR y a1 a2)) e146
                  have g138 := Reg.ev (v := .bool false) e138
                  exact Reg.obl_want rfl rfl e138 (Reg.wp_eqv (Option.some_ne_none _) (by go_simp) rfl)
                · intro ax wx hx hs
                  obtain ⟨e138, e147, -⟩ := hs
                  have g138 := Reg.ev (v := .bool false) e138
                  have g147 := Reg.ev (v := .bool false) e147
                  exact Reg.obl_free rfl (Reg.wp_eqv (Option.some_ne_none _) (by go_simp) rfl)
                · intro ax wx hx hs
                  obtain ⟨e148, -⟩ := hs
                  have g148 := Reg.ev (v := .bool false) e148
                  exact Reg.obl_free rfl (Reg.wp_eqv (Option.some_ne_none _) (by go_simp) rfl)
                · intro ax wx hx hs
                  obtain ⟨e7, e149, -⟩ := hs
                  have g7 := Reg.ev (v := .pointer (some ⟨t, 0, none⟩)) e7
                  have g149 := Reg.ev (v := .bool false) e149
                  exact Reg.obl_want rfl rfl e149 (Reg.wp_eqv (Option.some_ne_none _) (by go_simp) rfl)
                · intro ax wx hx hs
                  obtain ⟨e10, e149, -⟩ := hs
                  have g10 := Reg.ev (v := .pointer (some ⟨wr.heap.size, 0, none⟩)) e10
                  have g149 := Reg.ev (v := .bool false) e149
                  exact Reg.obl_want rfl rfl e149 (Reg.wp_eqv (Option.some_ne_none _) (by go_simp) rfl)
                · intro ax wx hx hs
                  obtain ⟨e151, e149, -⟩ := hs
                  have g151 := Reg.ev (v := .pointer (some ⟨wr.heap.size, 0, none⟩)) e151
                  have g149 := Reg.ev (v := .bool false) e149
                  have l0 := str2 (HP8.out.box.next hx)
                  have l1 := str3 (HO8.out.next hx)
                  exact Reg.obl_want rfl rfl e149 (Reg.wp_eqv (Option.some_ne_none _) (by go_simp) rfl)
                · intro ax wx hx hs
                  obtain ⟨e150, e152, e149, -⟩ := hs
                  have g150 := Reg.ev (v := .pointer (some ⟨t, 0, none⟩)) e150
                  have g152 := Reg.ev (v := .int .i64 xs.txn) e152
                  have g149 := Reg.ev (v := .bool false) e149
                  refine Reg.obl_want rfl rfl e149 ?_
                  have hx' : Below W8.heap.size W8 wx := hx
                  go_simp
                  refine (blocks_ls (HL8.out.toLS.next hx') HT.out HIN.out.2.1 (by omega)).mono ?_
                  rintro r wy ⟨A9, m9, d9, rfl, hE9, hby⟩
                  rw [HBL.out] at hE9
                  exact Reg.done (Option.some_ne_none _) ⟨A9, m9, d9, rfl, hE9⟩ hby
                · intro ax wx hx hs
                  obtain ⟨e8, e149, -⟩ := hs
                  have g8 := Reg.ev (v := .pointer (some ⟨g8, 0, none⟩)) e8
                  have g149 := Reg.ev (v := .bool false) e149
                  have l0 := str2 (HP8.out.box.next hx)
                  have l1 := str3 (HO8.out.next hx)
                  exact Reg.obl_want rfl rfl e149 (Reg.wp_eqv (Option.some_ne_none _) (by go_simp) rfl)
                · intro ax wx hx hs
                  obtain ⟨e10, e149, -⟩ := hs
                  have g10 := Reg.ev (v := .pointer (some ⟨wr.heap.size, 0, none⟩)) e10
                  have g149 := Reg.ev (v := .bool false) e149
                  exact Reg.obl_want rfl rfl e149 (Reg.wp_eqv (Option.some_ne_none _) (by go_simp) rfl)
                · intro ax wx hx hs
                  obtain ⟨e155, e149, -⟩ := hs
                  have g155 := Reg.ev (v := .pointer (some ⟨wr.heap.size, 0, none⟩)) e155
                  have g149 := Reg.ev (v := .bool false) e149
                  have l0 := str2 (HP8.out.box.next hx)
                  have l1 := str3 (HO8.out.next hx)
                  exact Reg.obl_want rfl rfl e149 (Reg.wp_eqv (Option.some_ne_none _) (by go_simp) rfl)
                · intro ax wx hx hs
                  obtain ⟨e154, e156, e149, -⟩ := hs
                  have g154 := Reg.ev (v := .agg #[.slice A5 n5 c5, .slice A6 n6 c6]) e154
                  have g156 := Reg.ev (v := .int .i64 xs.txn) e156
                  have g149 := Reg.ev (v := .bool false) e149
                  refine Reg.obl_want rfl rfl e149 ?_
                  have hx' : Below W8.heap.size W8 wx := hx
                  go_simp
                  refine (RefL.blocks_any A5 A6 n5 c5 n6 c6 y xs.txn wx (HP8.out.h.next hx') (HP8.out.q.next hx') HSM.out.hm (by omega) (by omega)).mono ?_
                  rintro r wy ⟨A9, m9, d9, rfl, hE9, hby⟩
                  exact Reg.done (Option.some_ne_none _) ⟨A9, m9, d9, rfl, hE9⟩ hby
                · intro ax wx hx hs
                  obtain ⟨e153, e157, e149, -⟩ := hs
                  have g149 := Reg.ev (v := .bool false) e149
                  refine Reg.obl_want rfl rfl e149 ?_
                  obtain ⟨P9, m9, d9, e153', hE9⟩ := e153
                  obtain ⟨P8, m8, d8, e157', hE8⟩ := e157
                  have g153 := Reg.ev e153'
                  have g157 := Reg.ev e157'
                  go_simp
                  refine (SameL.sameList_any (l := blocksR y xs.txn) (l' := blocksR y xs.txn) wx hE9 hE8).mono ?_
                  rintro r wy ⟨rfl, hby⟩
                  rw [decide_eq_true (rfl : blocksR y xs.txn = blocksR y xs.txn)]
                  exact Reg.done (Option.some_ne_none _) rfl hby
                · intro ax wx hx hs
                  obtain ⟨e158, e149, -⟩ := hs
                  have g158 := Reg.ev (v := .bool true) e158
                  have g149 := Reg.ev (v := .bool false) e149
                  exact Reg.obl_want rfl rfl e149 (Reg.wp_eqv (Option.some_ne_none _) (by go_simp) rfl)
                · intro ax wx hx hs
                  obtain ⟨e149, e159, -⟩ := hs
                  have g149 := Reg.ev (v := .bool false) e149
                  have g159 := Reg.ev (v := .bool false) e159
                  exact Reg.obl_free rfl (Reg.wp_eqv (Option.some_ne_none _) (by go_simp) rfl)
              · intro W9 hwf
                simp only [Reg.Fin]
                rintro _ rfl _ rfl _ rfl _ rfl _ rfl _ rfl _ rfl _ rfl _ rfl _ rfl _ rfl _ rfl _ rfl _ rfl _ rfl _ rfl _ rfl _ rfl _ rfl _ rfl _ rfl _ rfl _ rfl _ rfl _ rfl _ rfl v153 h153 _ rfl _ rfl _ rfl v157 h157 _ rfl _ rfl _ rfl
                go_simp
                have hwf' : Below W8.heap.size W8 W9 := hwf
                have HL9 := Lib.hid (HL8.out.next hwf')
                have HP9 := Lib.hid (HP8.out.next hwf')
                have HO9 := Lib.hid (HO8.out.next hwf')
                clear hwf hwf' HL8 HP8 HO8
                have hws := waits_sim HOKY.out HSM.out xs.txn
                have hwt := waits_ls HL9.out.toLS HIN.out.2.1
                have s1 := str3 HO9.out
                have sl1 := HO9.out.lt
                cases hpl : placeR y.w xs.txn with
                | none =>
                  have hg := hws.2 hpl
                  have hh : MapP.has Y.goal xs.txn = false := by rw [MapP.has_get, hg]; rfl
                  have hpi : placeI y.w xs.txn = -1 := by unfold placeI; rw [hpl]
                  rw [hg, hh] at hwt
                  change Calls _ _ _ _ fun e w' => e = .returned (.tuple #[.string ⟨#[]⟩, .int .i64 0, .bool false]) ∧ _ at hwt
                  clear hws hg hh hpl
                  go_wp2_with fail
                  refine hwt.mono ?_
                  rintro e WA ⟨rfl, hbA⟩
                  have HLA := Lib.hid (HL9.out.next hbA)
                  have HPA := Lib.hid (HP9.out.next hbA)
                  have HOA := Lib.hid (HO9.out.next hbA)
                  clear hbA hwt HL9 HP9 HO9 s1 sl1
                  have s1 := str3 HOA.out
                  have s2 := str2 HPA.out.box
                  have hpa := RefL.place_any (A := A5) (n := n5) (c := c5) (x := y) xs.txn WA HPA.out.q (by omega)
                  go_wp2_with fail
                  refine hpa.mono ?_
                  rintro e WC ⟨rfl, hbC⟩
                  have HLC := Lib.hid (HLA.out.next hbC)
                  have HPC := Lib.hid (HPA.out.next hbC)
                  clear hbC hpa s1 s2 HLA HPA HOA
                  rw [hpi]
                  go_wp2_with fail
                  go_roundw
                  case rel => exact ⟨i + 1, by omega, by go_num, Lib.hid ⟨Y, y, A5, A6, n5, c5, n6, c6, HLC.out.here.mono (by omega), HPC.out, HSM.out⟩⟩
                  case measure => simp [intOf]; omega
                | some j =>
                  obtain ⟨e, post, -, hje, -, -⟩ := place_some hpl
                  have hg := hws.1 j e hpl hje
                  have hh : MapP.has Y.goal xs.txn = true := by rw [MapP.has_get, hg]; rfl
                  have hpi : placeI y.w xs.txn = (j : Int) := by unfold placeI; rw [hpl]
                  rw [hg, hh] at hwt
                  change Calls _ _ _ _ fun e' w' => e' = .returned (.tuple #[.string e.key, .int .i64 e.mode, .bool true]) ∧ _ at hwt
                  have hjn : j < n6 := by have := (List.getElem?_eq_some_iff.1 hje).1; omega
                  have HJE := Lib.hid hje
                  clear hws hg hh hpl hje
                  go_wp2_with fail
                  refine hwt.mono ?_
                  rintro e9 WA ⟨rfl, hbA⟩
                  have HLA := Lib.hid (HL9.out.next hbA)
                  have HPA := Lib.hid (HP9.out.next hbA)
                  have HOA := Lib.hid (HO9.out.next hbA)
                  clear hbA hwt HL9 HP9 HO9 s1 sl1
                  have s1 := str3 HOA.out
                  have s2 := str2 HPA.out.box
                  have hpa := RefL.place_any (A := A5) (n := n5) (c := c5) (x := y) xs.txn WA HPA.out.q (by omega)
                  go_wp2_with fail
                  refine hpa.mono ?_
                  rintro e9 WC ⟨rfl, hbC⟩
                  have HLC := Lib.hid (HLA.out.next hbC)
                  have HPC := Lib.hid (HPA.out.next hbC)
                  clear hbC hpa s1 s2 HLA HPA HOA
                  rw [hpi]
                  obtain ⟨bq, oq, p, rfl, hbq, hxq, z0, z1, z2⟩ := h3_at HPC.out.q hjn
                  rw [HJE.out] at hxq
                  cases hxq
                  have s2 := str2 HPC.out.box
                  have kj : ¬ (j : Int) < 0 := by omega
                  have kj2 : (0 : Int) ≤ (j : Int) := by omega
                  go_wp2_with fail
                  go_roundw
                  case rel => exact ⟨i + 1, by omega, by go_num, Lib.hid ⟨Y, y, A5, _, n5, c5, n6, c6, HLC.out.here.mono (by omega), HPC.out, HSM.out⟩⟩
                  case measure => simp [intOf]; omega
          · have hda1 : (xs.act == 1) = false := by simpa using ha1
            by_cases ha2 : xs.act = 2
            · have hda : (xs.act == 2) = true := by simpa using ha2
              have hc : endR x xs.txn = (y, told) ∧ false = ok ∧ 0 = f := by
                have h := HST.out
                unfold stepR at h
                rw [if_neg ha1, if_pos ha2] at h
                obtain ⟨h1, h2⟩ := Prod.mk.inj h
                obtain ⟨h3, h4⟩ := Prod.mk.inj h2
                obtain ⟨h5, h6⟩ := Prod.mk.inj h4
                exact ⟨by rw [← h1, ← h6], h3, h5⟩
              obtain ⟨hc, rfl, rfl⟩ := hc
              have hca := end_any A A2 n c n2 c2 x xs.txn W4 HP4.out.h HP4.out.q HM4.out.1 HM4.out.2 HP4.out.few.2 (by omega)
              rw [hc] at hca
              clear ha1 ha2 hc
              go_wp2_with fail
              refine hca.mono ?_
              rintro e W5 ⟨A5, n5, c5, A6, n6, c6, A8, n8, c8, rfl, hh5, hq5, hN5, hf5, hf6, hb5⟩
              dsimp only at hh5 hq5 hN5
              have hbD := frO_blk (g := g8) hf5 hf6
              have hlD : ∀ k ∈ blkD g8 A5 n5 A6 n6, k < W5.heap.size := fun k hk => by
                rcases List.mem_cons.1 hk with rfl | hk
                · have := hb5.size; omega
                · rcases List.mem_append.1 hk with hk | hk
                  · obtain ⟨hn, p, e, rfl⟩ := mem_blkF.1 hk
                    exact elems_lt hh5 hn p e
                  · obtain ⟨hn, p, e, rfl⟩ := mem_blkF.1 hk
                    exact elems_lt hq5 hn p e
              have hL5 := HF4.out.swap hb5 hbD hlD
              have hst5 := HP4.out.box.next hb5
              obtain ⟨W6, hW6⟩ : ∃ W, W5.alloc (.cells #[.slice A5 n5 c5, .slice A6 n6 c6] 43) = W := ⟨_, rfl⟩
              have hb6 : Below W5.heap.size W5 W6 := by rw [← hW6]; exact balloc (bsame _) _
              have hs6 : Str W6 W5.heap.size #[.slice A5 n5 c5, .slice A6 n6 c6] := by rw [← hW6]; exact Str.new _ _ _
              have hst6 := hst5.next hb6
              have hL6 := (hL5.next hb6).here
              obtain ⟨W7, hW7⟩ : ∃ W, (W6.setCell ⟨g8, 0, none⟩ (.slice A5 n5 c5)).setCell ⟨g8, 1, none⟩ (.slice A6 n6 c6) = W := ⟨_, rfl⟩
              obtain ⟨hL7, hP7, hg7⟩ := boxed hL6 hst6 HP4.out.g (hh5.next hb6) (hq5.next hb6) HFW.out hW7
              have HL7 := Lib.hid hL7
              have HP7 := Lib.hid hP7
              have HO7 : Hid (Str W7 wr.heap.size #[.int .i64 xs.txn, .string xs.key, .int .i64 xs.mode]) := Lib.hid (Reg.Str.by_ ((HO4.out.next hb5).next hb6) hg7 (fun e => by injection e with e; omega))
              have HE7 : Hid (Elems IntE W7 W7.heap.size A4 n4 c4 told) := Lib.hid ((elems_away int_noSl LockW.intE_pure ((HE4.out.next hb5).next hb6) (Nat.le_refl _) hst6 hg7).more hg7.size)
              have HN7 : Hid (Elems IntE W7 W7.heap.size A8 n8 c8 told) := Lib.hid ((elems_away int_noSl LockW.intE_pure (hN5.next hb6) (Nat.le_refl _) hst6 hg7).more hg7.size)
              have g17 := str2 hs6
              have gl17 := hs6.lt
              have g8c := str2 hst6
              have g8l := hst6.lt
              have g8f := fun j => hst6.frozen j
              clear hh5 hq5 hf5 hf6 hbD hlD hL5 hst5 hb6 hs6 hst6 hL6 hL7 hP7 hg7 hN5 hb5 hca
              go_wp2_with fail
              have hlh7 := HP7.out.h.len
              have hlq7 := HP7.out.q.len
              have hfw7 := HP7.out.few.1
              have HOKY : Hid (LockP.Ok Y) := Lib.hid HL7.out.good.1
              have HLE : Hid (∀ us : List Int, us.Nodup → (∀ u, Y.mem u ≠ [] → u ∈ us) → lenOf Y us = lenR y) := Lib.hid (fun us h1 h2 => len_sim HOKY.out HSM.out us h1 h2)
              have HWA : Hid (waitingP Y = waitingR y) := Lib.hid (waiting_sim HOKY.out HSM.out)
              have HSE : Hid (LockP.set Y a1 xs.txn = setR y.h xs.txn a1) := Lib.hid (HSM.out.set a1 xs.txn)
              have HHE : Hid (heldP Y a1 a2 = heldR y a1 a2) := Lib.hid (heldP_sim HOKY.out HSM.out a1 a2)
              have HBL : Hid (blocksP Y xs.txn = blocksR y xs.txn) := Lib.hid (blocks_sim HOKY.out HSM.out xs.txn)
              refine Reg.wp_region_vals (R := ext) (W := W7) [Reg.eqv (.bool false), Reg.eqv (.bool false), Reg.eqv (.bool false), Reg.eqv (.bool false), Reg.eqv (.int .i64 0), Reg.eqv (.int .i64 0), Reg.eqv (.bool false), Reg.eqv (.bool false), Reg.eqv (.bool false), Reg.eqv (.slice A4 n4 c4), Reg.eqv (.slice A8 n8 c8), Reg.eqv (.bool true), Reg.eqv (.bool false), Reg.eqv (.bool false), Reg.eqv (.bool false), Reg.eqv (.pointer (some ⟨t, 0, none⟩)), Reg.eqv (.int .i64 (lenR y : Nat)), Reg.eqv (.agg #[.slice A5 n5 c5, .slice A6 n6 c6]), Reg.eqv (.int .i64 (lenR y : Nat)), Reg.eqv (.bool false), Reg.eqv (.bool false), Reg.eqv (.bool false), Reg.eqv (.pointer (some ⟨t, 0, none⟩)), Reg.intS (waitingR y), Reg.eqv (.agg #[.slice A5 n5 c5, .slice A6 n6 c6]), Reg.intS (waitingR y), Reg.eqv (.bool true), Reg.eqv (.bool false), Reg.eqv (.bool false)] 214 [[(11, none)], [(14, none)], [(98, some 0), (99, some 1)], [(100, some 2)], [(12, none), (101, some 3)], [(15, none), (101, some 3)], [(102, some 4), (103, some 5), (101, some 3)], [(101, some 3), (104, some 6)], [(105, some 7)], [(13, none), (106, some 8)], [(16, none), (106, some 8)], [(107, some 9), (108, some 10), (106, some 8)], [(109, some 11), (106, some 8)], [(106, some 8), (110, some 12)], [(111, some 13)], [(7, none), (112, some 14)], [(113, some 15), (112, some 14)], [(8, none), (112, some 14)], [(115, some 17), (112, some 14)], [(114, some 16), (116, some 18), (112, some 14)], [(112, some 14), (117, some 19)], [(118, some 20)], [(7, none), (119, some 21)], [(120, some 22), (119, some 21)], [(8, none), (119, some 21)], [(122, some 24), (119, some 21)], [(121, some 23), (123, some 25), (119, some 21)], [(124, some 26), (119, some 21)], [(119, some 21), (125, some 27)]] rfl (by kernel_rfl) (by kernel_rfl) (by kernel_rfl) ?_ [some 98, some 99, some 100, some 101, some 102, some 103, some 104, some 105, some 106, some 107, some 108, some 109, some 110, some 111, some 112, some 113, some 114, some 115, some 116, some 117, some 118, some 119, some 120, some 121, some 122, some 123, some 124, some 125, some 126] (by kernel_rfl) ?_
              · refine ⟨?_, ?_, ?_, ?_, ?_, ?_, ?_, ?_, ?_, ?_, ?_, ?_, ?_, ?_, ?_, ?_, ?_, ?_, ?_, ?_, ?_, ?_, ?_, ?_, ?_, ?_, ?_, ?_, ?_, trivial⟩
                · intro ax wx hx hs
                  obtain ⟨e11, -⟩ := hs
                  have g11 := Reg.ev (v := .bool false) e11
                  exact Reg.obl_free rfl (Reg.wp_eqv (Option.some_ne_none _) (by go_simp) rfl)
                · intro ax wx hx hs
                  obtain ⟨e14, -⟩ := hs
                  have g14 := Reg.ev (v := .bool false) e14
                  exact Reg.obl_free rfl (Reg.wp_eqv (Option.some_ne_none _) (by go_simp) rfl)
                · intro ax wx hx hs
                  obtain ⟨e98, e99, -⟩ := hs
                  have g98 := Reg.ev (v := .bool false) e98
                  have g99 := Reg.ev (v := .bool false) e99
                  exact Reg.obl_free rfl (Reg.wp_eqv (Option.some_ne_none _) (by go_simp) rfl)
                · intro ax wx hx hs
                  obtain ⟨e100, -⟩ := hs
                  have g100 := Reg.ev (v := .bool false) e100
                  exact Reg.obl_free rfl (Reg.wp_eqv (Option.some_ne_none _) (by go_simp) rfl)
                · intro ax wx hx hs
                  obtain ⟨e12, e101, -⟩ := hs
                  have g12 := Reg.ev (v := .int .i64 0) e12
                  have g101 := Reg.ev (v := .bool false) e101
                  exact Reg.obl_want rfl rfl e101 (Reg.wp_eqv (Option.some_ne_none _) (by go_simp) rfl)
                · intro ax wx hx hs
                  obtain ⟨e15, e101, -⟩ := hs
                  have g15 := Reg.ev (v := .int .i64 0) e15
                  have g101 := Reg.ev (v := .bool false) e101
                  exact Reg.obl_want rfl rfl e101 (Reg.wp_eqv (Option.some_ne_none _) (by go_simp) rfl)
                · intro ax wx hx hs
                  obtain ⟨e102, e103, e101, -⟩ := hs
                  have g102 := Reg.ev (v := .int .i64 0) e102
                  have g103 := Reg.ev (v := .int .i64 0) e103
                  have g101 := Reg.ev (v := .bool false) e101
                  exact Reg.obl_want rfl rfl e101 (Reg.wp_eqv (Option.some_ne_none _) (by go_simp) rfl)
                · intro ax wx hx hs
                  obtain ⟨e101, e104, -⟩ := hs
                  have g101 := Reg.ev (v := .bool false) e101
                  have g104 := Reg.ev (v := .bool false) e104
                  exact Reg.obl_free rfl (Reg.wp_eqv (Option.some_ne_none _) (by go_simp) rfl)
                · intro ax wx hx hs
                  obtain ⟨e105, -⟩ := hs
                  have g105 := Reg.ev (v := .bool false) e105
                  exact Reg.obl_free rfl (Reg.wp_eqv (Option.some_ne_none _) (by go_simp) rfl)
                · intro ax wx hx hs
                  obtain ⟨e13, e106, -⟩ := hs
                  have g13 := Reg.ev (v := .slice A4 n4 c4) e13
                  have g106 := Reg.ev (v := .bool false) e106
                  exact Reg.obl_want rfl rfl e106 (Reg.wp_eqv (Option.some_ne_none _) (by go_simp) rfl)
                · intro ax wx hx hs
                  obtain ⟨e16, e106, -⟩ := hs
                  have g16 := Reg.ev (v := .slice A8 n8 c8) e16
                  have g106 := Reg.ev (v := .bool false) e106
                  exact Reg.obl_want rfl rfl e106 (Reg.wp_eqv (Option.some_ne_none _) (by go_simp) rfl)
                · intro ax wx hx hs
                  obtain ⟨e107, e108, e106, -⟩ := hs
                  have g107 := Reg.ev (v := .slice A4 n4 c4) e107
                  have g108 := Reg.ev (v := .slice A8 n8 c8) e108
                  have g106 := Reg.ev (v := .bool false) e106
                  refine Reg.obl_want rfl rfl e106 ?_
                  have hx' : Below W7.heap.size W7 wx := hx
                  go_simp
                  refine (SameL.sameList_any (l := told) (l' := told) wx (HE7.out.next hx') (HN7.out.next hx')).mono ?_
                  rintro r wy ⟨rfl, hby⟩
                  rw [decide_eq_true (rfl : told = told)]
                  exact Reg.done (Option.some_ne_none _) rfl hby
                · intro ax wx hx hs
                  obtain ⟨e109, e106, -⟩ := hs
                  have g109 := Reg.ev (v := .bool true) e109
                  have g106 := Reg.ev (v := .bool false) e106
                  exact Reg.obl_want rfl rfl e106 (Reg.wp_eqv (Option.some_ne_none _) (by go_simp) rfl)
                · intro ax wx hx hs
                  obtain ⟨e106, e110, -⟩ := hs
                  have g106 := Reg.ev (v := .bool false) e106
                  have g110 := Reg.ev (v := .bool false) e110
                  exact Reg.obl_free rfl (Reg.wp_eqv (Option.some_ne_none _) (by go_simp) rfl)
                · intro ax wx hx hs
                  obtain ⟨e111, -⟩ := hs
                  have g111 := Reg.ev (v := .bool false) e111
                  exact Reg.obl_free rfl (Reg.wp_eqv (Option.some_ne_none _) (by go_simp) rfl)
                · intro ax wx hx hs
                  obtain ⟨e7, e112, -⟩ := hs
                  have g7 := Reg.ev (v := .pointer (some ⟨t, 0, none⟩)) e7
                  have g112 := Reg.ev (v := .bool false) e112
                  exact Reg.obl_want rfl rfl e112 (Reg.wp_eqv (Option.some_ne_none _) (by go_simp) rfl)
                · intro ax wx hx hs
                  obtain ⟨e113, e112, -⟩ := hs
                  have g113 := Reg.ev (v := .pointer (some ⟨t, 0, none⟩)) e113
                  have g112 := Reg.ev (v := .bool false) e112
                  refine Reg.obl_want rfl rfl e112 ?_
                  have hx' : Below W7.heap.size W7 wx := hx
                  go_simp
                  refine (len_ls (HL7.out.toLS.next hx') (by omega)).mono ?_
                  rintro r wy ⟨us, hu1, hu2, rfl, hby⟩
                  rw [HLE.out us hu1 hu2]
                  exact Reg.done (Option.some_ne_none _) rfl hby
                · intro ax wx hx hs
                  obtain ⟨e8, e112, -⟩ := hs
                  have g8 := Reg.ev (v := .pointer (some ⟨g8, 0, none⟩)) e8
                  have g112 := Reg.ev (v := .bool false) e112
                  have l0 := str2 (HP7.out.box.next hx)
                  exact Reg.obl_want rfl rfl e112 (Reg.wp_eqv (Option.some_ne_none _) (by go_simp) rfl)
                · intro ax wx hx hs
                  obtain ⟨e115, e112, -⟩ := hs
                  have g115 := Reg.ev (v := .agg #[.slice A5 n5 c5, .slice A6 n6 c6]) e115
                  have g112 := Reg.ev (v := .bool false) e112
                  refine Reg.obl_want rfl rfl e112 ?_
                  have hx' : Below W7.heap.size W7 wx := hx
                  go_simp
                  refine (RefL.len_any A5 A6 n5 c5 n6 c6 y wx (HP7.out.h.next hx') (by omega)).mono ?_
                  rintro r wy ⟨rfl, hby⟩
                  exact Reg.done (Option.some_ne_none _) rfl hby
                · intro ax wx hx hs
                  obtain ⟨e114, e116, e112, -⟩ := hs
                  have g114 := Reg.ev (v := .int .i64 (lenR y : Nat)) e114
                  have g116 := Reg.ev (v := .int .i64 (lenR y : Nat)) e116
                  have g112 := Reg.ev (v := .bool false) e112
                  exact Reg.obl_want rfl rfl e112 (Reg.wp_eqv (Option.some_ne_none _) (by go_simp) rfl)
                · intro ax wx hx hs
                  obtain ⟨e112, e117, -⟩ := hs
                  have g112 := Reg.ev (v := .bool false) e112
                  have g117 := Reg.ev (v := .bool false) e117
                  exact Reg.obl_free rfl (Reg.wp_eqv (Option.some_ne_none _) (by go_simp) rfl)
                · intro ax wx hx hs
                  obtain ⟨e118, -⟩ := hs
                  have g118 := Reg.ev (v := .bool false) e118
                  exact Reg.obl_free rfl (Reg.wp_eqv (Option.some_ne_none _) (by go_simp) rfl)
                · intro ax wx hx hs
                  obtain ⟨e7, e119, -⟩ := hs
                  have g7 := Reg.ev (v := .pointer (some ⟨t, 0, none⟩)) e7
                  have g119 := Reg.ev (v := .bool false) e119
                  exact Reg.obl_want rfl rfl e119 (Reg.wp_eqv (Option.some_ne_none _) (by go_simp) rfl)
                · intro ax wx hx hs
                  obtain ⟨e120, e119, -⟩ := hs
                  have g120 := Reg.ev (v := .pointer (some ⟨t, 0, none⟩)) e120
                  have g119 := Reg.ev (v := .bool false) e119
                  refine Reg.obl_want rfl rfl e119 ?_
                  have hx' : Below W7.heap.size W7 wx := hx
                  go_simp
                  refine (waiting_ls (HL7.out.toLS.next hx') (by omega)).mono ?_
                  rintro r wy ⟨A9, m9, d9, rfl, hE9, hby⟩
                  rw [HWA.out] at hE9
                  exact Reg.done (Option.some_ne_none _) ⟨A9, m9, d9, rfl, hE9⟩ hby
                · intro ax wx hx hs
                  obtain ⟨e8, e119, -⟩ := hs
                  have g8 := Reg.ev (v := .pointer (some ⟨g8, 0, none⟩)) e8
                  have g119 := Reg.ev (v := .bool false) e119
                  have l0 := str2 (HP7.out.box.next hx)
                  exact Reg.obl_want rfl rfl e119 (Reg.wp_eqv (Option.some_ne_none _) (by go_simp) rfl)
                · intro ax wx hx hs
                  obtain ⟨e122, e119, -⟩ := hs
                  have g122 := Reg.ev (v := .agg #[.slice A5 n5 c5, .slice A6 n6 c6]) e122
                  have g119 := Reg.ev (v := .bool false) e119
                  refine Reg.obl_want rfl rfl e119 ?_
                  have hx' : Below W7.heap.size W7 wx := hx
                  go_simp
                  refine (RefL.waiting_any A5 A6 n5 c5 n6 c6 y wx (HP7.out.q.next hx') (by omega)).mono ?_
                  rintro r wy ⟨A9, m9, d9, rfl, hE9, hby⟩
                  exact Reg.done (Option.some_ne_none _) ⟨A9, m9, d9, rfl, hE9⟩ hby
                · intro ax wx hx hs
                  obtain ⟨e121, e123, e119, -⟩ := hs
                  have g119 := Reg.ev (v := .bool false) e119
                  refine Reg.obl_want rfl rfl e119 ?_
                  obtain ⟨P9, m9, d9, e121', hE9⟩ := e121
                  obtain ⟨P8, m8, d8, e123', hE8⟩ := e123
                  have g121 := Reg.ev e121'
                  have g123 := Reg.ev e123'
                  go_simp
                  refine (SameL.sameList_any (l := waitingR y) (l' := waitingR y) wx hE9 hE8).mono ?_
                  rintro r wy ⟨rfl, hby⟩
                  rw [decide_eq_true (rfl : waitingR y = waitingR y)]
                  exact Reg.done (Option.some_ne_none _) rfl hby
                · intro ax wx hx hs
                  obtain ⟨e124, e119, -⟩ := hs
                  have g124 := Reg.ev (v := .bool true) e124
                  have g119 := Reg.ev (v := .bool false) e119
                  exact Reg.obl_want rfl rfl e119 (Reg.wp_eqv (Option.some_ne_none _) (by go_simp) rfl)
                · intro ax wx hx hs
                  obtain ⟨e119, e125, -⟩ := hs
                  have g119 := Reg.ev (v := .bool false) e119
                  have g125 := Reg.ev (v := .bool false) e125
                  exact Reg.obl_free rfl (Reg.wp_eqv (Option.some_ne_none _) (by go_simp) rfl)
              · intro W8 hwf
                simp only [Reg.Fin]
                rintro _ rfl _ rfl _ rfl _ rfl _ rfl _ rfl _ rfl _ rfl _ rfl _ rfl _ rfl _ rfl _ rfl _ rfl _ rfl _ rfl _ rfl _ rfl _ rfl _ rfl _ rfl _ rfl _ rfl v121 h121 _ rfl v123 h123 _ rfl _ rfl _ rfl
                go_simp
                have hwf' : Below W7.heap.size W7 W8 := hwf
                have HL8 := Lib.hid (HL7.out.next hwf')
                have HP8 := Lib.hid (HP7.out.next hwf')
                have HO8 := Lib.hid (HO7.out.next hwf')
                clear hwf hwf' HL7 HP7 HO7 HE7 HN7
                go_wp2_with fail
                refine Reg.wp_region_vals (R := ext) (W := W8) [Reg.eqv (.pointer (some ⟨t, 0, none⟩)), Reg.eqv (.pointer (some ⟨wr.heap.size, 0, none⟩)), Reg.eqv (.int .i64 xs.txn), Reg.eqv (.string a1), Reg.eqv (.int .i64 (setR y.h xs.txn a1)), Reg.eqv (.agg #[.slice A5 n5 c5, .slice A6 n6 c6]), Reg.eqv (.pointer (some ⟨wr.heap.size, 0, none⟩)), Reg.eqv (.int .i64 xs.txn), Reg.eqv (.string a1), Reg.eqv (.int .i64 (setR y.h xs.txn a1)), Reg.eqv (.bool false), Reg.eqv (.bool false), Reg.eqv (.pointer (some ⟨t, 0, none⟩)), Reg.eqv (.string a1), Reg.eqv (.int .i64 a2), Reg.eqv (.bool (heldR y a1 a2)), Reg.eqv (.agg #[.slice A5 n5 c5, .slice A6 n6 c6]), Reg.eqv (.string a1), Reg.eqv (.int .i64 a2), Reg.eqv (.bool (heldR y a1 a2)), Reg.eqv (.bool false), Reg.eqv (.bool false), Reg.eqv (.bool false), Reg.eqv (.pointer (some ⟨t, 0, none⟩)), Reg.eqv (.pointer (some ⟨wr.heap.size, 0, none⟩)), Reg.eqv (.int .i64 xs.txn), Reg.intS (blocksR y xs.txn), Reg.eqv (.agg #[.slice A5 n5 c5, .slice A6 n6 c6]), Reg.eqv (.pointer (some ⟨wr.heap.size, 0, none⟩)), Reg.eqv (.int .i64 xs.txn), Reg.intS (blocksR y xs.txn), Reg.eqv (.bool true), Reg.eqv (.bool false), Reg.eqv (.bool false)] 214 [[(7, none)], [(10, none)], [(128, some 1)], [(1, none)], [(127, some 0), (129, some 2), (130, some 3)], [(8, none)], [(10, none)], [(133, some 6)], [(1, none)], [(132, some 5), (134, some 7), (135, some 8)], [(131, some 4), (136, some 9)], [(137, some 10)], [(7, none), (138, some 11)], [(1, none), (138, some 11)], [(2, none), (138, some 11)], [(139, some 12), (140, some 13), (141, some 14), (138, some 11)], [(8, none), (138, some 11)], [(1, none), (138, some 11)], [(2, none), (138, some 11)], [(143, some 16), (144, some 17), (145, some 18), (138, some 11)], [(142, some 15), (146, some 19), (138, some 11)], [(138, some 11), (147, some 20)], [(148, some 21)], [(7, none), (149, some 22)], [(10, none), (149, some 22)], [(151, some 24), (149, some 22)], [(150, some 23), (152, some 25), (149, some 22)], [(8, none), (149, some 22)], [(10, none), (149, some 22)], [(155, some 28), (149, some 22)], [(154, some 27), (156, some 29), (149, some 22)], [(153, some 26), (157, some 30), (149, some 22)], [(158, some 31), (149, some 22)], [(149, some 22), (159, some 32)]] rfl (by kernel_rfl) (by kernel_rfl) (by kernel_rfl) ?_ [some 127, some 128, some 129, some 130, some 131, some 132, some 133, some 134, some 135, some 136, some 137, some 138, some 139, some 140, some 141, some 142, some 143, some 144, some 145, some 146, some 147, some 148, some 149, some 150, some 151, some 152, some 153, some 154, some 155, some 156, some 157, some 158, some 159, some 160] (by kernel_rfl) ?_
                · refine ⟨?_, ?_, ?_, ?_, ?_, ?_, ?_, ?_, ?_, ?_, ?_, ?_, ?_, ?_, ?_, ?_, ?_, ?_, ?_, ?_, ?_, ?_, ?_, ?_, ?_, ?_, ?_, ?_, ?_, ?_, ?_, ?_, ?_, ?_, trivial⟩
                  · intro ax wx hx hs
                    obtain ⟨e7, -⟩ := hs
                    have g7 := Reg.ev (v := .pointer (some ⟨t, 0, none⟩)) e7
                    exact Reg.obl_free rfl (Reg.wp_eqv (Option.some_ne_none _) (by go_simp) rfl)
                  · intro ax wx hx hs
                    obtain ⟨e10, -⟩ := hs
                    have g10 := Reg.ev (v := .pointer (some ⟨wr.heap.size, 0, none⟩)) e10
                    exact Reg.obl_free rfl (Reg.wp_eqv (Option.some_ne_none _) (by go_simp) rfl)
                  · intro ax wx hx hs
                    obtain ⟨e128, -⟩ := hs
                    have g128 := Reg.ev (v := .pointer (some ⟨wr.heap.size, 0, none⟩)) e128
                    have l0 := str2 (HP8.out.box.next hx)
                    have l1 := str3 (HO8.out.next hx)
                    exact Reg.obl_free rfl (Reg.wp_eqv (Option.some_ne_none _) (by go_simp) rfl)
                  · intro ax wx hx hs
                    obtain ⟨e1, -⟩ := hs
                    have g1 := Reg.ev (v := .string a1) e1
                    exact Reg.obl_free rfl (Reg.wp_eqv (Option.some_ne_none _) (by go_simp) rfl)
                  · intro ax wx hx hs
                    obtain ⟨e127, e129, e130, -⟩ := hs
                    have g127 := Reg.ev (v := .pointer (some ⟨t, 0, none⟩)) e127
                    have g129 := Reg.ev (v := .int .i64 xs.txn) e129
                    have g130 := Reg.ev (v := .string a1) e130
                    refine Reg.obl_free rfl ?_
                    have hx' : Below W8.heap.size W8 wx := hx
                    go_simp
                    refine (holds_ls (HL8.out.toLS.next hx') HIN.out.2.1 HKZ.out).mono ?_
                    rintro r wy ⟨rfl, rfl⟩
                    rw [HSE.out]
                    exact Reg.done (Option.some_ne_none _) rfl (bsame _)
                  · intro ax wx hx hs
                    obtain ⟨e8, -⟩ := hs
                    have g8 := Reg.ev (v := .pointer (some ⟨g8, 0, none⟩)) e8
                    have l0 := str2 (HP8.out.box.next hx)
                    have l1 := str3 (HO8.out.next hx)
                    exact Reg.obl_free rfl (Reg.wp_eqv (Option.some_ne_none _) (by go_simp) rfl)
                  · intro ax wx hx hs
                    obtain ⟨e10, -⟩ := hs
                    have g10 := Reg.ev (v := .pointer (some ⟨wr.heap.size, 0, none⟩)) e10
                    exact Reg.obl_free rfl (Reg.wp_eqv (Option.some_ne_none _) (by go_simp) rfl)
                  · intro ax wx hx hs
                    obtain ⟨e133, -⟩ := hs
                    have g133 := Reg.ev (v := .pointer (some ⟨wr.heap.size, 0, none⟩)) e133
                    have l0 := str2 (HP8.out.box.next hx)
                    have l1 := str3 (HO8.out.next hx)
                    exact Reg.obl_free rfl (Reg.wp_eqv (Option.some_ne_none _) (by go_simp) rfl)
                  · intro ax wx hx hs
                    obtain ⟨e1, -⟩ := hs
                    have g1 := Reg.ev (v := .string a1) e1
                    exact Reg.obl_free rfl (Reg.wp_eqv (Option.some_ne_none _) (by go_simp) rfl)
                  · intro ax wx hx hs
                    obtain ⟨e132, e134, e135, -⟩ := hs
                    have g132 := Reg.ev (v := .agg #[.slice A5 n5 c5, .slice A6 n6 c6]) e132
                    have g134 := Reg.ev (v := .int .i64 xs.txn) e134
                    have g135 := Reg.ev (v := .string a1) e135
                    refine Reg.obl_free rfl ?_
                    have hx' : Below W8.heap.size W8 wx := hx
                    go_simp
                    refine (RefL.set_any (x := y) xs.txn a1 wx (HP8.out.h.next hx') HSM.out.hm (by omega)).mono ?_
                    rintro r wy ⟨rfl, hby⟩
                    exact Reg.done (Option.some_ne_none _) rfl hby
                  · intro ax wx hx hs
                    obtain ⟨e131, e136, -⟩ := hs
                    have g131 := Reg.ev (v := .int .i64 (setR y.h xs.txn a1)) e131
                    have g136 := Reg.ev (v := .int .i64 (setR y.h xs.txn a1)) e136
                    exact Reg.obl_free rfl (Reg.wp_eqv (Option.some_ne_none _) (by go_simp) rfl)
                  · intro ax wx hx hs
                    obtain ⟨e137, -⟩ := hs
                    have g137 := Reg.ev (v := .bool false) e137
                    exact Reg.obl_free rfl (Reg.wp_eqv (Option.some_ne_none _) (by go_simp) rfl)
                  · intro ax wx hx hs
                    obtain ⟨e7, e138, -⟩ := hs
                    have g7 := Reg.ev (v := .pointer (some ⟨t, 0, none⟩)) e7
                    have g138 := Reg.ev (v := .bool false) e138
                    exact Reg.obl_want rfl rfl e138 (Reg.wp_eqv (Option.some_ne_none _) (by go_simp) rfl)
                  · intro ax wx hx hs
                    obtain ⟨e1, e138, -⟩ := hs
                    have g1 := Reg.ev (v := .string a1) e1
                    have g138 := Reg.ev (v := .bool false) e138
                    exact Reg.obl_want rfl rfl e138 (Reg.wp_eqv (Option.some_ne_none _) (by go_simp) rfl)
                  · intro ax wx hx hs
                    obtain ⟨e2, e138, -⟩ := hs
                    have g2 := Reg.ev (v := .int .i64 a2) e2
                    have g138 := Reg.ev (v := .bool false) e138
                    exact Reg.obl_want rfl rfl e138 (Reg.wp_eqv (Option.some_ne_none _) (by go_simp) rfl)
                  · intro ax wx hx hs
                    obtain ⟨e139, e140, e141, e138, -⟩ := hs
                    have g139 := Reg.ev (v := .pointer (some ⟨t, 0, none⟩)) e139
                    have g140 := Reg.ev (v := .string a1) e140
                    have g141 := Reg.ev (v := .int .i64 a2) e141
                    have g138 := Reg.ev (v := .bool false) e138
                    refine Reg.obl_want rfl rfl e138 ?_
                    have hx' : Below W8.heap.size W8 wx := hx
                    go_simp
                    refine (held_ls (HL8.out.toLS.next hx') a1 a2 HKZ.out).mono ?_
                    rintro r wy ⟨rfl, hby⟩
                    rw [HHE.out]
                    exact Reg.done (Option.some_ne_none _) rfl hby
                  · intro ax wx hx hs
                    obtain ⟨e8, e138, -⟩ := hs
                    have g8 := Reg.ev (v := .pointer (some ⟨g8, 0, none⟩)) e8
                    have g138 := Reg.ev (v := .bool false) e138
                    have l0 := str2 (HP8.out.box.next hx)
                    have l1 := str3 (HO8.out.next hx)
                    exact Reg.obl_want rfl rfl e138 (Reg.wp_eqv (Option.some_ne_none _) (by go_simp) rfl)
                  · intro ax wx hx hs
                    obtain ⟨e1, e138, -⟩ := hs
                    have g1 := Reg.ev (v := .string a1) e1
                    have g138 := Reg.ev (v := .bool false) e138
                    exact Reg.obl_want rfl rfl e138 (Reg.wp_eqv (Option.some_ne_none _) (by go_simp) rfl)
                  · intro ax wx hx hs
                    obtain ⟨e2, e138, -⟩ := hs
                    have g2 := Reg.ev (v := .int .i64 a2) e2
                    have g138 := Reg.ev (v := .bool false) e138
                    exact Reg.obl_want rfl rfl e138 (Reg.wp_eqv (Option.some_ne_none _) (by go_simp) rfl)
                  · intro ax wx hx hs
                    obtain ⟨e143, e144, e145, e138, -⟩ := hs
                    have g143 := Reg.ev (v := .agg #[.slice A5 n5 c5, .slice A6 n6 c6]) e143
                    have g144 := Reg.ev (v := .string a1) e144
                    have g145 := Reg.ev (v := .int .i64 a2) e145
                    have g138 := Reg.ev (v := .bool false) e138
                    refine Reg.obl_want rfl rfl e138 ?_
                    have hx' : Below W8.heap.size W8 wx := hx
                    go_simp
                    refine (RefL.held_any (x := y) a1 a2 wx (HP8.out.h.next hx') (by omega)).mono ?_
                    rintro r wy ⟨rfl, hby⟩
                    exact Reg.done (Option.some_ne_none _) rfl hby
                  · intro ax wx hx hs
                    obtain ⟨e142, e146, e138, -⟩ := hs
                    have g142 := Reg.ev (v := .bool (heldR y a1 a2)) e142
                    have g146 := Reg.ev (v := .bool (heldR y a1 a2)) e146
                    have g138 := Reg.ev (v := .bool false) e138
                    exact Reg.obl_want rfl rfl e138 (Reg.wp_eqv (Option.some_ne_none _) (by go_simp) rfl)
                  · intro ax wx hx hs
                    obtain ⟨e138, e147, -⟩ := hs
                    have g138 := Reg.ev (v := .bool false) e138
                    have g147 := Reg.ev (v := .bool false) e147
                    exact Reg.obl_free rfl (Reg.wp_eqv (Option.some_ne_none _) (by go_simp) rfl)
                  · intro ax wx hx hs
                    obtain ⟨e148, -⟩ := hs
                    have g148 := Reg.ev (v := .bool false) e148
                    exact Reg.obl_free rfl (Reg.wp_eqv (Option.some_ne_none _) (by go_simp) rfl)
                  · intro ax wx hx hs
                    obtain ⟨e7, e149, -⟩ := hs
                    have g7 := Reg.ev (v := .pointer (some ⟨t, 0, none⟩)) e7
                    have g149 := Reg.ev (v := .bool false) e149
                    exact Reg.obl_want rfl rfl e149 (Reg.wp_eqv (Option.some_ne_none _) (by go_simp) rfl)
                  · intro ax wx hx hs
                    obtain ⟨e10, e149, -⟩ := hs
                    have g10 := Reg.ev (v := .pointer (some ⟨wr.heap.size, 0, none⟩)) e10
                    have g149 := Reg.ev (v := .bool false) e149
                    exact Reg.obl_want rfl rfl e149 (Reg.wp_eqv (Option.some_ne_none _) (by go_simp) rfl)
                  · intro ax wx hx hs
                    obtain ⟨e151, e149, -⟩ := hs
                    have g151 := Reg.ev (v := .pointer (some ⟨wr.heap.size, 0, none⟩)) e151
                    have g149 := Reg.ev (v := .bool false) e149
                    have l0 := str2 (HP8.out.box.next hx)
                    have l1 := str3 (HO8.out.next hx)
                    exact Reg.obl_want rfl rfl e149 (Reg.wp_eqv (Option.some_ne_none _) (by go_simp) rfl)
                  · intro ax wx hx hs
                    obtain ⟨e150, e152, e149, -⟩ := hs
                    have g150 := Reg.ev (v := .pointer (some ⟨t, 0, none⟩)) e150
                    have g152 := Reg.ev (v := .int .i64 xs.txn) e152
                    have g149 := Reg.ev (v := .bool false) e149
                    refine Reg.obl_want rfl rfl e149 ?_
                    have hx' : Below W8.heap.size W8 wx := hx
                    go_simp
                    refine (blocks_ls (HL8.out.toLS.next hx') HT.out HIN.out.2.1 (by omega)).mono ?_
                    rintro r wy ⟨A9, m9, d9, rfl, hE9, hby⟩
                    rw [HBL.out] at hE9
                    exact Reg.done (Option.some_ne_none _) ⟨A9, m9, d9, rfl, hE9⟩ hby
                  · intro ax wx hx hs
                    obtain ⟨e8, e149, -⟩ := hs
                    have g8 := Reg.ev (v := .pointer (some ⟨g8, 0, none⟩)) e8
                    have g149 := Reg.ev (v := .bool false) e149
                    have l0 := str2 (HP8.out.box.next hx)
                    have l1 := str3 (HO8.out.next hx)
                    exact Reg.obl_want rfl rfl e149 (Reg.wp_eqv (Option.some_ne_none _) (by go_simp) rfl)
                  · intro ax wx hx hs
                    obtain ⟨e10, e149, -⟩ := hs
                    have g10 := Reg.ev (v := .pointer (some ⟨wr.heap.size, 0, none⟩)) e10
                    have g149 := Reg.ev (v := .bool false) e149
                    exact Reg.obl_want rfl rfl e149 (Reg.wp_eqv (Option.some_ne_none _) (by go_simp) rfl)
                  · intro ax wx hx hs
                    obtain ⟨e155, e149, -⟩ := hs
                    have g155 := Reg.ev (v := .pointer (some ⟨wr.heap.size, 0, none⟩)) e155
                    have g149 := Reg.ev (v := .bool false) e149
                    have l0 := str2 (HP8.out.box.next hx)
                    have l1 := str3 (HO8.out.next hx)
                    exact Reg.obl_want rfl rfl e149 (Reg.wp_eqv (Option.some_ne_none _) (by go_simp) rfl)
                  · intro ax wx hx hs
                    obtain ⟨e154, e156, e149, -⟩ := hs
                    have g154 := Reg.ev (v := .agg #[.slice A5 n5 c5, .slice A6 n6 c6]) e154
                    have g156 := Reg.ev (v := .int .i64 xs.txn) e156
                    have g149 := Reg.ev (v := .bool false) e149
                    refine Reg.obl_want rfl rfl e149 ?_
                    have hx' : Below W8.heap.size W8 wx := hx
                    go_simp
                    refine (RefL.blocks_any A5 A6 n5 c5 n6 c6 y xs.txn wx (HP8.out.h.next hx') (HP8.out.q.next hx') HSM.out.hm (by omega) (by omega)).mono ?_
                    rintro r wy ⟨A9, m9, d9, rfl, hE9, hby⟩
                    exact Reg.done (Option.some_ne_none _) ⟨A9, m9, d9, rfl, hE9⟩ hby
                  · intro ax wx hx hs
                    obtain ⟨e153, e157, e149, -⟩ := hs
                    have g149 := Reg.ev (v := .bool false) e149
                    refine Reg.obl_want rfl rfl e149 ?_
                    obtain ⟨P9, m9, d9, e153', hE9⟩ := e153
                    obtain ⟨P8, m8, d8, e157', hE8⟩ := e157
                    have g153 := Reg.ev e153'
                    have g157 := Reg.ev e157'
                    go_simp
                    refine (SameL.sameList_any (l := blocksR y xs.txn) (l' := blocksR y xs.txn) wx hE9 hE8).mono ?_
                    rintro r wy ⟨rfl, hby⟩
                    rw [decide_eq_true (rfl : blocksR y xs.txn = blocksR y xs.txn)]
                    exact Reg.done (Option.some_ne_none _) rfl hby
                  · intro ax wx hx hs
                    obtain ⟨e158, e149, -⟩ := hs
                    have g158 := Reg.ev (v := .bool true) e158
                    have g149 := Reg.ev (v := .bool false) e149
                    exact Reg.obl_want rfl rfl e149 (Reg.wp_eqv (Option.some_ne_none _) (by go_simp) rfl)
                  · intro ax wx hx hs
                    obtain ⟨e149, e159, -⟩ := hs
                    have g149 := Reg.ev (v := .bool false) e149
                    have g159 := Reg.ev (v := .bool false) e159
                    exact Reg.obl_free rfl (Reg.wp_eqv (Option.some_ne_none _) (by go_simp) rfl)
                · intro W9 hwf
                  simp only [Reg.Fin]
                  rintro _ rfl _ rfl _ rfl _ rfl _ rfl _ rfl _ rfl _ rfl _ rfl _ rfl _ rfl _ rfl _ rfl _ rfl _ rfl _ rfl _ rfl _ rfl _ rfl _ rfl _ rfl _ rfl _ rfl _ rfl _ rfl _ rfl v153 h153 _ rfl _ rfl _ rfl v157 h157 _ rfl _ rfl _ rfl
                  go_simp
                  have hwf' : Below W8.heap.size W8 W9 := hwf
                  have HL9 := Lib.hid (HL8.out.next hwf')
                  have HP9 := Lib.hid (HP8.out.next hwf')
                  have HO9 := Lib.hid (HO8.out.next hwf')
                  clear hwf hwf' HL8 HP8 HO8
                  have hws := waits_sim HOKY.out HSM.out xs.txn
                  have hwt := waits_ls HL9.out.toLS HIN.out.2.1
                  have s1 := str3 HO9.out
                  have sl1 := HO9.out.lt
                  cases hpl : placeR y.w xs.txn with
                  | none =>
                    have hg := hws.2 hpl
                    have hh : MapP.has Y.goal xs.txn = false := by rw [MapP.has_get, hg]; rfl
                    have hpi : placeI y.w xs.txn = -1 := by unfold placeI; rw [hpl]
                    rw [hg, hh] at hwt
                    change Calls _ _ _ _ fun e w' => e = .returned (.tuple #[.string ⟨#[]⟩, .int .i64 0, .bool false]) ∧ _ at hwt
                    clear hws hg hh hpl
                    go_wp2_with fail
                    refine hwt.mono ?_
                    rintro e WA ⟨rfl, hbA⟩
                    have HLA := Lib.hid (HL9.out.next hbA)
                    have HPA := Lib.hid (HP9.out.next hbA)
                    have HOA := Lib.hid (HO9.out.next hbA)
                    clear hbA hwt HL9 HP9 HO9 s1 sl1
                    have s1 := str3 HOA.out
                    have s2 := str2 HPA.out.box
                    have hpa := RefL.place_any (A := A5) (n := n5) (c := c5) (x := y) xs.txn WA HPA.out.q (by omega)
                    go_wp2_with fail
                    refine hpa.mono ?_
                    rintro e WC ⟨rfl, hbC⟩
                    have HLC := Lib.hid (HLA.out.next hbC)
                    have HPC := Lib.hid (HPA.out.next hbC)
                    clear hbC hpa s1 s2 HLA HPA HOA
                    rw [hpi]
                    go_wp2_with fail
                    go_roundw
                    case rel => exact ⟨i + 1, by omega, by go_num, Lib.hid ⟨Y, y, A5, A6, n5, c5, n6, c6, HLC.out.here.mono (by omega), HPC.out, HSM.out⟩⟩
                    case measure => simp [intOf]; omega
                  | some j =>
                    obtain ⟨e, post, -, hje, -, -⟩ := place_some hpl
                    have hg := hws.1 j e hpl hje
                    have hh : MapP.has Y.goal xs.txn = true := by rw [MapP.has_get, hg]; rfl
                    have hpi : placeI y.w xs.txn = (j : Int) := by unfold placeI; rw [hpl]
                    rw [hg, hh] at hwt
                    change Calls _ _ _ _ fun e' w' => e' = .returned (.tuple #[.string e.key, .int .i64 e.mode, .bool true]) ∧ _ at hwt
                    have hjn : j < n6 := by have := (List.getElem?_eq_some_iff.1 hje).1; omega
                    have HJE := Lib.hid hje
                    clear hws hg hh hpl hje
                    go_wp2_with fail
                    refine hwt.mono ?_
                    rintro e9 WA ⟨rfl, hbA⟩
                    have HLA := Lib.hid (HL9.out.next hbA)
                    have HPA := Lib.hid (HP9.out.next hbA)
                    have HOA := Lib.hid (HO9.out.next hbA)
                    clear hbA hwt HL9 HP9 HO9 s1 sl1
                    have s1 := str3 HOA.out
                    have s2 := str2 HPA.out.box
                    have hpa := RefL.place_any (A := A5) (n := n5) (c := c5) (x := y) xs.txn WA HPA.out.q (by omega)
                    go_wp2_with fail
                    refine hpa.mono ?_
                    rintro e9 WC ⟨rfl, hbC⟩
                    have HLC := Lib.hid (HLA.out.next hbC)
                    have HPC := Lib.hid (HPA.out.next hbC)
                    clear hbC hpa s1 s2 HLA HPA HOA
                    rw [hpi]
                    obtain ⟨bq, oq, p, rfl, hbq, hxq, z0, z1, z2⟩ := h3_at HPC.out.q hjn
                    rw [HJE.out] at hxq
                    cases hxq
                    have s2 := str2 HPC.out.box
                    have kj : ¬ (j : Int) < 0 := by omega
                    have kj2 : (0 : Int) ≤ (j : Int) := by omega
                    go_wp2_with fail
                    go_roundw
                    case rel => exact ⟨i + 1, by omega, by go_num, Lib.hid ⟨Y, y, A5, _, n5, c5, n6, c6, HLC.out.here.mono (by omega), HPC.out, HSM.out⟩⟩
                    case measure => simp [intOf]; omega
            · have hda : (xs.act == 2) = false := by simpa using ha2
              have hc : askR x ⟨xs.txn, xs.key, xs.mode⟩ = (y, ok, f) ∧ told = [] := by
                have h := HST.out
                unfold stepR at h
                rw [if_neg ha1, if_neg ha2] at h
                obtain ⟨h1, h2⟩ := Prod.mk.inj h
                obtain ⟨h3, h4⟩ := Prod.mk.inj h2
                obtain ⟨h5, h6⟩ := Prod.mk.inj h4
                exact ⟨by rw [← h1, ← h3, ← h5], h6.symm⟩
              obtain ⟨hc, ht0⟩ := hc
              have HT0 := Lib.hid ht0
              have hca := RefL.ask_any A A2 n c n2 c2 x ⟨xs.txn, xs.key, xs.mode⟩ W4 HP4.out.h HP4.out.q HM4.out.1 (by omega) (by omega)
              rw [hc] at hca
              dsimp only at hca
              clear ha1 ha2 hc ht0
              go_wp2_with fail
              refine hca.mono ?_
              rintro e W5 ⟨A5, n5, c5, A6, n6, c6, rfl, hh5, hq5, hf5, hf6, hb5⟩
              dsimp only at hh5 hq5
              have hbD := frO_blk (g := g8) hf5 hf6
              have hlD : ∀ k ∈ blkD g8 A5 n5 A6 n6, k < W5.heap.size := fun k hk => by
                rcases List.mem_cons.1 hk with rfl | hk
                · have := hb5.size; omega
                · rcases List.mem_append.1 hk with hk | hk
                  · obtain ⟨hn, p, e, rfl⟩ := mem_blkF.1 hk
                    exact elems_lt hh5 hn p e
                  · obtain ⟨hn, p, e, rfl⟩ := mem_blkF.1 hk
                    exact elems_lt hq5 hn p e
              have hL5 := HF4.out.swap hb5 hbD hlD
              have hst5 := HP4.out.box.next hb5
              obtain ⟨W6, hW6⟩ : ∃ W, W5.alloc (.cells #[.slice A5 n5 c5, .slice A6 n6 c6] 43) = W := ⟨_, rfl⟩
              have hb6 : Below W5.heap.size W5 W6 := by rw [← hW6]; exact balloc (bsame _) _
              have hs6 : Str W6 W5.heap.size #[.slice A5 n5 c5, .slice A6 n6 c6] := by rw [← hW6]; exact Str.new _ _ _
              have hst6 := hst5.next hb6
              have hL6 := (hL5.next hb6).here
              obtain ⟨W7, hW7⟩ : ∃ W, (W6.setCell ⟨g8, 0, none⟩ (.slice A5 n5 c5)).setCell ⟨g8, 1, none⟩ (.slice A6 n6 c6) = W := ⟨_, rfl⟩
              obtain ⟨hL7, hP7, hg7⟩ := boxed hL6 hst6 HP4.out.g (hh5.next hb6) (hq5.next hb6) HFW.out hW7
              have HL7 := Lib.hid hL7
              have HP7 := Lib.hid hP7
              have HO7 : Hid (Str W7 wr.heap.size #[.int .i64 xs.txn, .string xs.key, .int .i64 xs.mode]) := Lib.hid (Reg.Str.by_ ((HO4.out.next hb5).next hb6) hg7 (fun e => by injection e with e; omega))
              have HE7 : Hid (Elems IntE W7 W7.heap.size A4 n4 c4 told) := Lib.hid ((elems_away int_noSl LockW.intE_pure ((HE4.out.next hb5).next hb6) (Nat.le_refl _) hst6 hg7).more hg7.size)
              have HN7 : Hid (Elems IntE W7 W7.heap.size none 0 0 told) := Lib.hid (by rw [HT0.out]; exact Elems.none_ _ _ _)
              have g17 := str2 hs6
              have gl17 := hs6.lt
              have g8c := str2 hst6
              have g8l := hst6.lt
              have g8f := fun j => hst6.frozen j
              clear hh5 hq5 hf5 hf6 hbD hlD hL5 hst5 hb6 hs6 hst6 hL6 hL7 hP7 hg7 hb5 hca
              go_wp2_with fail
              have hlh7 := HP7.out.h.len
              have hlq7 := HP7.out.q.len
              have hfw7 := HP7.out.few.1
              have HOKY : Hid (LockP.Ok Y) := Lib.hid HL7.out.good.1
              have HLE : Hid (∀ us : List Int, us.Nodup → (∀ u, Y.mem u ≠ [] → u ∈ us) → lenOf Y us = lenR y) := Lib.hid (fun us h1 h2 => len_sim HOKY.out HSM.out us h1 h2)
              have HWA : Hid (waitingP Y = waitingR y) := Lib.hid (waiting_sim HOKY.out HSM.out)
              have HSE : Hid (LockP.set Y a1 xs.txn = setR y.h xs.txn a1) := Lib.hid (HSM.out.set a1 xs.txn)
              have HHE : Hid (heldP Y a1 a2 = heldR y a1 a2) := Lib.hid (heldP_sim HOKY.out HSM.out a1 a2)
              have HBL : Hid (blocksP Y xs.txn = blocksR y xs.txn) := Lib.hid (blocks_sim HOKY.out HSM.out xs.txn)
              refine Reg.wp_region_vals (R := ext) (W := W7) [Reg.eqv (.bool ok), Reg.eqv (.bool ok), Reg.eqv (.bool false), Reg.eqv (.bool false), Reg.eqv (.int .i64 f), Reg.eqv (.int .i64 f), Reg.eqv (.bool false), Reg.eqv (.bool false), Reg.eqv (.bool false), Reg.eqv (.slice A4 n4 c4), Reg.eqv (.slice none 0 0), Reg.eqv (.bool true), Reg.eqv (.bool false), Reg.eqv (.bool false), Reg.eqv (.bool false), Reg.eqv (.pointer (some ⟨t, 0, none⟩)), Reg.eqv (.int .i64 (lenR y : Nat)), Reg.eqv (.agg #[.slice A5 n5 c5, .slice A6 n6 c6]), Reg.eqv (.int .i64 (lenR y : Nat)), Reg.eqv (.bool false), Reg.eqv (.bool false), Reg.eqv (.bool false), Reg.eqv (.pointer (some ⟨t, 0, none⟩)), Reg.intS (waitingR y), Reg.eqv (.agg #[.slice A5 n5 c5, .slice A6 n6 c6]), Reg.intS (waitingR y), Reg.eqv (.bool true), Reg.eqv (.bool false), Reg.eqv (.bool false)] 214 [[(11, none)], [(14, none)], [(98, some 0), (99, some 1)], [(100, some 2)], [(12, none), (101, some 3)], [(15, none), (101, some 3)], [(102, some 4), (103, some 5), (101, some 3)], [(101, some 3), (104, some 6)], [(105, some 7)], [(13, none), (106, some 8)], [(16, none), (106, some 8)], [(107, some 9), (108, some 10), (106, some 8)], [(109, some 11), (106, some 8)], [(106, some 8), (110, some 12)], [(111, some 13)], [(7, none), (112, some 14)], [(113, some 15), (112, some 14)], [(8, none), (112, some 14)], [(115, some 17), (112, some 14)], [(114, some 16), (116, some 18), (112, some 14)], [(112, some 14), (117, some 19)], [(118, some 20)], [(7, none), (119, some 21)], [(120, some 22), (119, some 21)], [(8, none), (119, some 21)], [(122, some 24), (119, some 21)], [(121, some 23), (123, some 25), (119, some 21)], [(124, some 26), (119, some 21)], [(119, some 21), (125, some 27)]] rfl (by kernel_rfl) (by kernel_rfl) (by kernel_rfl) ?_ [some 98, some 99, some 100, some 101, some 102, some 103, some 104, some 105, some 106, some 107, some 108, some 109, some 110, some 111, some 112, some 113, some 114, some 115, some 116, some 117, some 118, some 119, some 120, some 121, some 122, some 123, some 124, some 125, some 126] (by kernel_rfl) ?_
              · refine ⟨?_, ?_, ?_, ?_, ?_, ?_, ?_, ?_, ?_, ?_, ?_, ?_, ?_, ?_, ?_, ?_, ?_, ?_, ?_, ?_, ?_, ?_, ?_, ?_, ?_, ?_, ?_, ?_, ?_, trivial⟩
                · intro ax wx hx hs
                  obtain ⟨e11, -⟩ := hs
                  have g11 := Reg.ev (v := .bool ok) e11
                  exact Reg.obl_free rfl (Reg.wp_eqv (Option.some_ne_none _) (by go_simp) rfl)
                · intro ax wx hx hs
                  obtain ⟨e14, -⟩ := hs
                  have g14 := Reg.ev (v := .bool ok) e14
                  exact Reg.obl_free rfl (Reg.wp_eqv (Option.some_ne_none _) (by go_simp) rfl)
                · intro ax wx hx hs
                  obtain ⟨e98, e99, -⟩ := hs
                  have g98 := Reg.ev (v := .bool ok) e98
                  have g99 := Reg.ev (v := .bool ok) e99
                  exact Reg.obl_free rfl (Reg.wp_eqv (Option.some_ne_none _) (by go_simp) rfl)
                · intro ax wx hx hs
                  obtain ⟨e100, -⟩ := hs
                  have g100 := Reg.ev (v := .bool false) e100
                  exact Reg.obl_free rfl (Reg.wp_eqv (Option.some_ne_none _) (by go_simp) rfl)
                · intro ax wx hx hs
                  obtain ⟨e12, e101, -⟩ := hs
                  have g12 := Reg.ev (v := .int .i64 f) e12
                  have g101 := Reg.ev (v := .bool false) e101
                  exact Reg.obl_want rfl rfl e101 (Reg.wp_eqv (Option.some_ne_none _) (by go_simp) rfl)
                · intro ax wx hx hs
                  obtain ⟨e15, e101, -⟩ := hs
                  have g15 := Reg.ev (v := .int .i64 f) e15
                  have g101 := Reg.ev (v := .bool false) e101
                  exact Reg.obl_want rfl rfl e101 (Reg.wp_eqv (Option.some_ne_none _) (by go_simp) rfl)
                · intro ax wx hx hs
                  obtain ⟨e102, e103, e101, -⟩ := hs
                  have g102 := Reg.ev (v := .int .i64 f) e102
                  have g103 := Reg.ev (v := .int .i64 f) e103
                  have g101 := Reg.ev (v := .bool false) e101
                  exact Reg.obl_want rfl rfl e101 (Reg.wp_eqv (Option.some_ne_none _) (by go_simp) rfl)
                · intro ax wx hx hs
                  obtain ⟨e101, e104, -⟩ := hs
                  have g101 := Reg.ev (v := .bool false) e101
                  have g104 := Reg.ev (v := .bool false) e104
                  exact Reg.obl_free rfl (Reg.wp_eqv (Option.some_ne_none _) (by go_simp) rfl)
                · intro ax wx hx hs
                  obtain ⟨e105, -⟩ := hs
                  have g105 := Reg.ev (v := .bool false) e105
                  exact Reg.obl_free rfl (Reg.wp_eqv (Option.some_ne_none _) (by go_simp) rfl)
                · intro ax wx hx hs
                  obtain ⟨e13, e106, -⟩ := hs
                  have g13 := Reg.ev (v := .slice A4 n4 c4) e13
                  have g106 := Reg.ev (v := .bool false) e106
                  exact Reg.obl_want rfl rfl e106 (Reg.wp_eqv (Option.some_ne_none _) (by go_simp) rfl)
                · intro ax wx hx hs
                  obtain ⟨e16, e106, -⟩ := hs
                  have g16 := Reg.ev (v := .slice none 0 0) e16
                  have g106 := Reg.ev (v := .bool false) e106
                  exact Reg.obl_want rfl rfl e106 (Reg.wp_eqv (Option.some_ne_none _) (by go_simp) rfl)
                · intro ax wx hx hs
                  obtain ⟨e107, e108, e106, -⟩ := hs
                  have g107 := Reg.ev (v := .slice A4 n4 c4) e107
                  have g108 := Reg.ev (v := .slice none 0 0) e108
                  have g106 := Reg.ev (v := .bool false) e106
                  refine Reg.obl_want rfl rfl e106 ?_
                  have hx' : Below W7.heap.size W7 wx := hx
                  go_simp
                  refine (SameL.sameList_any (l := told) (l' := told) wx (HE7.out.next hx') (HN7.out.next hx')).mono ?_
                  rintro r wy ⟨rfl, hby⟩
                  rw [decide_eq_true (rfl : told = told)]
                  exact Reg.done (Option.some_ne_none _) rfl hby
                · intro ax wx hx hs
                  obtain ⟨e109, e106, -⟩ := hs
                  have g109 := Reg.ev (v := .bool true) e109
                  have g106 := Reg.ev (v := .bool false) e106
                  exact Reg.obl_want rfl rfl e106 (Reg.wp_eqv (Option.some_ne_none _) (by go_simp) rfl)
                · intro ax wx hx hs
                  obtain ⟨e106, e110, -⟩ := hs
                  have g106 := Reg.ev (v := .bool false) e106
                  have g110 := Reg.ev (v := .bool false) e110
                  exact Reg.obl_free rfl (Reg.wp_eqv (Option.some_ne_none _) (by go_simp) rfl)
                · intro ax wx hx hs
                  obtain ⟨e111, -⟩ := hs
                  have g111 := Reg.ev (v := .bool false) e111
                  exact Reg.obl_free rfl (Reg.wp_eqv (Option.some_ne_none _) (by go_simp) rfl)
                · intro ax wx hx hs
                  obtain ⟨e7, e112, -⟩ := hs
                  have g7 := Reg.ev (v := .pointer (some ⟨t, 0, none⟩)) e7
                  have g112 := Reg.ev (v := .bool false) e112
                  exact Reg.obl_want rfl rfl e112 (Reg.wp_eqv (Option.some_ne_none _) (by go_simp) rfl)
                · intro ax wx hx hs
                  obtain ⟨e113, e112, -⟩ := hs
                  have g113 := Reg.ev (v := .pointer (some ⟨t, 0, none⟩)) e113
                  have g112 := Reg.ev (v := .bool false) e112
                  refine Reg.obl_want rfl rfl e112 ?_
                  have hx' : Below W7.heap.size W7 wx := hx
                  go_simp
                  refine (len_ls (HL7.out.toLS.next hx') (by omega)).mono ?_
                  rintro r wy ⟨us, hu1, hu2, rfl, hby⟩
                  rw [HLE.out us hu1 hu2]
                  exact Reg.done (Option.some_ne_none _) rfl hby
                · intro ax wx hx hs
                  obtain ⟨e8, e112, -⟩ := hs
                  have g8 := Reg.ev (v := .pointer (some ⟨g8, 0, none⟩)) e8
                  have g112 := Reg.ev (v := .bool false) e112
                  have l0 := str2 (HP7.out.box.next hx)
                  exact Reg.obl_want rfl rfl e112 (Reg.wp_eqv (Option.some_ne_none _) (by go_simp) rfl)
                · intro ax wx hx hs
                  obtain ⟨e115, e112, -⟩ := hs
                  have g115 := Reg.ev (v := .agg #[.slice A5 n5 c5, .slice A6 n6 c6]) e115
                  have g112 := Reg.ev (v := .bool false) e112
                  refine Reg.obl_want rfl rfl e112 ?_
                  have hx' : Below W7.heap.size W7 wx := hx
                  go_simp
                  refine (RefL.len_any A5 A6 n5 c5 n6 c6 y wx (HP7.out.h.next hx') (by omega)).mono ?_
                  rintro r wy ⟨rfl, hby⟩
                  exact Reg.done (Option.some_ne_none _) rfl hby
                · intro ax wx hx hs
                  obtain ⟨e114, e116, e112, -⟩ := hs
                  have g114 := Reg.ev (v := .int .i64 (lenR y : Nat)) e114
                  have g116 := Reg.ev (v := .int .i64 (lenR y : Nat)) e116
                  have g112 := Reg.ev (v := .bool false) e112
                  exact Reg.obl_want rfl rfl e112 (Reg.wp_eqv (Option.some_ne_none _) (by go_simp) rfl)
                · intro ax wx hx hs
                  obtain ⟨e112, e117, -⟩ := hs
                  have g112 := Reg.ev (v := .bool false) e112
                  have g117 := Reg.ev (v := .bool false) e117
                  exact Reg.obl_free rfl (Reg.wp_eqv (Option.some_ne_none _) (by go_simp) rfl)
                · intro ax wx hx hs
                  obtain ⟨e118, -⟩ := hs
                  have g118 := Reg.ev (v := .bool false) e118
                  exact Reg.obl_free rfl (Reg.wp_eqv (Option.some_ne_none _) (by go_simp) rfl)
                · intro ax wx hx hs
                  obtain ⟨e7, e119, -⟩ := hs
                  have g7 := Reg.ev (v := .pointer (some ⟨t, 0, none⟩)) e7
                  have g119 := Reg.ev (v := .bool false) e119
                  exact Reg.obl_want rfl rfl e119 (Reg.wp_eqv (Option.some_ne_none _) (by go_simp) rfl)
                · intro ax wx hx hs
                  obtain ⟨e120, e119, -⟩ := hs
                  have g120 := Reg.ev (v := .pointer (some ⟨t, 0, none⟩)) e120
                  have g119 := Reg.ev (v := .bool false) e119
                  refine Reg.obl_want rfl rfl e119 ?_
                  have hx' : Below W7.heap.size W7 wx := hx
                  go_simp
                  refine (waiting_ls (HL7.out.toLS.next hx') (by omega)).mono ?_
                  rintro r wy ⟨A9, m9, d9, rfl, hE9, hby⟩
                  rw [HWA.out] at hE9
                  exact Reg.done (Option.some_ne_none _) ⟨A9, m9, d9, rfl, hE9⟩ hby
                · intro ax wx hx hs
                  obtain ⟨e8, e119, -⟩ := hs
                  have g8 := Reg.ev (v := .pointer (some ⟨g8, 0, none⟩)) e8
                  have g119 := Reg.ev (v := .bool false) e119
                  have l0 := str2 (HP7.out.box.next hx)
                  exact Reg.obl_want rfl rfl e119 (Reg.wp_eqv (Option.some_ne_none _) (by go_simp) rfl)
                · intro ax wx hx hs
                  obtain ⟨e122, e119, -⟩ := hs
                  have g122 := Reg.ev (v := .agg #[.slice A5 n5 c5, .slice A6 n6 c6]) e122
                  have g119 := Reg.ev (v := .bool false) e119
                  refine Reg.obl_want rfl rfl e119 ?_
                  have hx' : Below W7.heap.size W7 wx := hx
                  go_simp
                  refine (RefL.waiting_any A5 A6 n5 c5 n6 c6 y wx (HP7.out.q.next hx') (by omega)).mono ?_
                  rintro r wy ⟨A9, m9, d9, rfl, hE9, hby⟩
                  exact Reg.done (Option.some_ne_none _) ⟨A9, m9, d9, rfl, hE9⟩ hby
                · intro ax wx hx hs
                  obtain ⟨e121, e123, e119, -⟩ := hs
                  have g119 := Reg.ev (v := .bool false) e119
                  refine Reg.obl_want rfl rfl e119 ?_
                  obtain ⟨P9, m9, d9, e121', hE9⟩ := e121
                  obtain ⟨P8, m8, d8, e123', hE8⟩ := e123
                  have g121 := Reg.ev e121'
                  have g123 := Reg.ev e123'
                  go_simp
                  refine (SameL.sameList_any (l := waitingR y) (l' := waitingR y) wx hE9 hE8).mono ?_
                  rintro r wy ⟨rfl, hby⟩
                  rw [decide_eq_true (rfl : waitingR y = waitingR y)]
                  exact Reg.done (Option.some_ne_none _) rfl hby
                · intro ax wx hx hs
                  obtain ⟨e124, e119, -⟩ := hs
                  have g124 := Reg.ev (v := .bool true) e124
                  have g119 := Reg.ev (v := .bool false) e119
                  exact Reg.obl_want rfl rfl e119 (Reg.wp_eqv (Option.some_ne_none _) (by go_simp) rfl)
                · intro ax wx hx hs
                  obtain ⟨e119, e125, -⟩ := hs
                  have g119 := Reg.ev (v := .bool false) e119
                  have g125 := Reg.ev (v := .bool false) e125
                  exact Reg.obl_free rfl (Reg.wp_eqv (Option.some_ne_none _) (by go_simp) rfl)
              · intro W8 hwf
                simp only [Reg.Fin]
                rintro _ rfl _ rfl _ rfl _ rfl _ rfl _ rfl _ rfl _ rfl _ rfl _ rfl _ rfl _ rfl _ rfl _ rfl _ rfl _ rfl _ rfl _ rfl _ rfl _ rfl _ rfl _ rfl _ rfl v121 h121 _ rfl v123 h123 _ rfl _ rfl _ rfl
                go_simp
                have hwf' : Below W7.heap.size W7 W8 := hwf
                have HL8 := Lib.hid (HL7.out.next hwf')
                have HP8 := Lib.hid (HP7.out.next hwf')
                have HO8 := Lib.hid (HO7.out.next hwf')
                clear hwf hwf' HL7 HP7 HO7 HE7 HN7
                go_wp2_with fail
                refine Reg.wp_region_vals (R := ext) (W := W8) [Reg.eqv (.pointer (some ⟨t, 0, none⟩)), Reg.eqv (.pointer (some ⟨wr.heap.size, 0, none⟩)), Reg.eqv (.int .i64 xs.txn), Reg.eqv (.string a1), Reg.eqv (.int .i64 (setR y.h xs.txn a1)), Reg.eqv (.agg #[.slice A5 n5 c5, .slice A6 n6 c6]), Reg.eqv (.pointer (some ⟨wr.heap.size, 0, none⟩)), Reg.eqv (.int .i64 xs.txn), Reg.eqv (.string a1), Reg.eqv (.int .i64 (setR y.h xs.txn a1)), Reg.eqv (.bool false), Reg.eqv (.bool false), Reg.eqv (.pointer (some ⟨t, 0, none⟩)), Reg.eqv (.string a1), Reg.eqv (.int .i64 a2), Reg.eqv (.bool (heldR y a1 a2)), Reg.eqv (.agg #[.slice A5 n5 c5, .slice A6 n6 c6]), Reg.eqv (.string a1), Reg.eqv (.int .i64 a2), Reg.eqv (.bool (heldR y a1 a2)), Reg.eqv (.bool false), Reg.eqv (.bool false), Reg.eqv (.bool false), Reg.eqv (.pointer (some ⟨t, 0, none⟩)), Reg.eqv (.pointer (some ⟨wr.heap.size, 0, none⟩)), Reg.eqv (.int .i64 xs.txn), Reg.intS (blocksR y xs.txn), Reg.eqv (.agg #[.slice A5 n5 c5, .slice A6 n6 c6]), Reg.eqv (.pointer (some ⟨wr.heap.size, 0, none⟩)), Reg.eqv (.int .i64 xs.txn), Reg.intS (blocksR y xs.txn), Reg.eqv (.bool true), Reg.eqv (.bool false), Reg.eqv (.bool false)] 214 [[(7, none)], [(10, none)], [(128, some 1)], [(1, none)], [(127, some 0), (129, some 2), (130, some 3)], [(8, none)], [(10, none)], [(133, some 6)], [(1, none)], [(132, some 5), (134, some 7), (135, some 8)], [(131, some 4), (136, some 9)], [(137, some 10)], [(7, none), (138, some 11)], [(1, none), (138, some 11)], [(2, none), (138, some 11)], [(139, some 12), (140, some 13), (141, some 14), (138, some 11)], [(8, none), (138, some 11)], [(1, none), (138, some 11)], [(2, none), (138, some 11)], [(143, some 16), (144, some 17), (145, some 18), (138, some 11)], [(142, some 15), (146, some 19), (138, some 11)], [(138, some 11), (147, some 20)], [(148, some 21)], [(7, none), (149, some 22)], [(10, none), (149, some 22)], [(151, some 24), (149, some 22)], [(150, some 23), (152, some 25), (149, some 22)], [(8, none), (149, some 22)], [(10, none), (149, some 22)], [(155, some 28), (149, some 22)], [(154, some 27), (156, some 29), (149, some 22)], [(153, some 26), (157, some 30), (149, some 22)], [(158, some 31), (149, some 22)], [(149, some 22), (159, some 32)]] rfl (by kernel_rfl) (by kernel_rfl) (by kernel_rfl) ?_ [some 127, some 128, some 129, some 130, some 131, some 132, some 133, some 134, some 135, some 136, some 137, some 138, some 139, some 140, some 141, some 142, some 143, some 144, some 145, some 146, some 147, some 148, some 149, some 150, some 151, some 152, some 153, some 154, some 155, some 156, some 157, some 158, some 159, some 160] (by kernel_rfl) ?_
                · refine ⟨?_, ?_, ?_, ?_, ?_, ?_, ?_, ?_, ?_, ?_, ?_, ?_, ?_, ?_, ?_, ?_, ?_, ?_, ?_, ?_, ?_, ?_, ?_, ?_, ?_, ?_, ?_, ?_, ?_, ?_, ?_, ?_, ?_, ?_, trivial⟩
                  · intro ax wx hx hs
                    obtain ⟨e7, -⟩ := hs
                    have g7 := Reg.ev (v := .pointer (some ⟨t, 0, none⟩)) e7
                    exact Reg.obl_free rfl (Reg.wp_eqv (Option.some_ne_none _) (by go_simp) rfl)
                  · intro ax wx hx hs
                    obtain ⟨e10, -⟩ := hs
                    have g10 := Reg.ev (v := .pointer (some ⟨wr.heap.size, 0, none⟩)) e10
                    exact Reg.obl_free rfl (Reg.wp_eqv (Option.some_ne_none _) (by go_simp) rfl)
                  · intro ax wx hx hs
                    obtain ⟨e128, -⟩ := hs
                    have g128 := Reg.ev (v := .pointer (some ⟨wr.heap.size, 0, none⟩)) e128
                    have l0 := str2 (HP8.out.box.next hx)
                    have l1 := str3 (HO8.out.next hx)
                    exact Reg.obl_free rfl (Reg.wp_eqv (Option.some_ne_none _) (by go_simp) rfl)
                  · intro ax wx hx hs
                    obtain ⟨e1, -⟩ := hs
                    have g1 := Reg.ev (v := .string a1) e1
                    exact Reg.obl_free rfl (Reg.wp_eqv (Option.some_ne_none _) (by go_simp) rfl)
                  · intro ax wx hx hs
                    obtain ⟨e127, e129, e130, -⟩ := hs
                    have g127 := Reg.ev (v := .pointer (some ⟨t, 0, none⟩)) e127
                    have g129 := Reg.ev (v := .int .i64 xs.txn) e129
                    have g130 := Reg.ev (v := .string a1) e130
                    refine Reg.obl_free rfl ?_
                    have hx' : Below W8.heap.size W8 wx := hx
                    go_simp
                    refine (holds_ls (HL8.out.toLS.next hx') HIN.out.2.1 HKZ.out).mono ?_
                    rintro r wy ⟨rfl, rfl⟩
                    rw [HSE.out]
                    exact Reg.done (Option.some_ne_none _) rfl (bsame _)
                  · intro ax wx hx hs
                    obtain ⟨e8, -⟩ := hs
                    have g8 := Reg.ev (v := .pointer (some ⟨g8, 0, none⟩)) e8
                    have l0 := str2 (HP8.out.box.next hx)
                    have l1 := str3 (HO8.out.next hx)
                    exact Reg.obl_free rfl (Reg.wp_eqv (Option.some_ne_none _) (by go_simp) rfl)
                  · intro ax wx hx hs
                    obtain ⟨e10, -⟩ := hs
                    have g10 := Reg.ev (v := .pointer (some ⟨wr.heap.size, 0, none⟩)) e10
                    exact Reg.obl_free rfl (Reg.wp_eqv (Option.some_ne_none _) (by go_simp) rfl)
                  · intro ax wx hx hs
                    obtain ⟨e133, -⟩ := hs
                    have g133 := Reg.ev (v := .pointer (some ⟨wr.heap.size, 0, none⟩)) e133
                    have l0 := str2 (HP8.out.box.next hx)
                    have l1 := str3 (HO8.out.next hx)
                    exact Reg.obl_free rfl (Reg.wp_eqv (Option.some_ne_none _) (by go_simp) rfl)
                  · intro ax wx hx hs
                    obtain ⟨e1, -⟩ := hs
                    have g1 := Reg.ev (v := .string a1) e1
                    exact Reg.obl_free rfl (Reg.wp_eqv (Option.some_ne_none _) (by go_simp) rfl)
                  · intro ax wx hx hs
                    obtain ⟨e132, e134, e135, -⟩ := hs
                    have g132 := Reg.ev (v := .agg #[.slice A5 n5 c5, .slice A6 n6 c6]) e132
                    have g134 := Reg.ev (v := .int .i64 xs.txn) e134
                    have g135 := Reg.ev (v := .string a1) e135
                    refine Reg.obl_free rfl ?_
                    have hx' : Below W8.heap.size W8 wx := hx
                    go_simp
                    refine (RefL.set_any (x := y) xs.txn a1 wx (HP8.out.h.next hx') HSM.out.hm (by omega)).mono ?_
                    rintro r wy ⟨rfl, hby⟩
                    exact Reg.done (Option.some_ne_none _) rfl hby
                  · intro ax wx hx hs
                    obtain ⟨e131, e136, -⟩ := hs
                    have g131 := Reg.ev (v := .int .i64 (setR y.h xs.txn a1)) e131
                    have g136 := Reg.ev (v := .int .i64 (setR y.h xs.txn a1)) e136
                    exact Reg.obl_free rfl (Reg.wp_eqv (Option.some_ne_none _) (by go_simp) rfl)
                  · intro ax wx hx hs
                    obtain ⟨e137, -⟩ := hs
                    have g137 := Reg.ev (v := .bool false) e137
                    exact Reg.obl_free rfl (Reg.wp_eqv (Option.some_ne_none _) (by go_simp) rfl)
                  · intro ax wx hx hs
                    obtain ⟨e7, e138, -⟩ := hs
                    have g7 := Reg.ev (v := .pointer (some ⟨t, 0, none⟩)) e7
                    have g138 := Reg.ev (v := .bool false) e138
                    exact Reg.obl_want rfl rfl e138 (Reg.wp_eqv (Option.some_ne_none _) (by go_simp) rfl)
                  · intro ax wx hx hs
                    obtain ⟨e1, e138, -⟩ := hs
                    have g1 := Reg.ev (v := .string a1) e1
                    have g138 := Reg.ev (v := .bool false) e138
                    exact Reg.obl_want rfl rfl e138 (Reg.wp_eqv (Option.some_ne_none _) (by go_simp) rfl)
                  · intro ax wx hx hs
                    obtain ⟨e2, e138, -⟩ := hs
                    have g2 := Reg.ev (v := .int .i64 a2) e2
                    have g138 := Reg.ev (v := .bool false) e138
                    exact Reg.obl_want rfl rfl e138 (Reg.wp_eqv (Option.some_ne_none _) (by go_simp) rfl)
                  · intro ax wx hx hs
                    obtain ⟨e139, e140, e141, e138, -⟩ := hs
                    have g139 := Reg.ev (v := .pointer (some ⟨t, 0, none⟩)) e139
                    have g140 := Reg.ev (v := .string a1) e140
                    have g141 := Reg.ev (v := .int .i64 a2) e141
                    have g138 := Reg.ev (v := .bool false) e138
                    refine Reg.obl_want rfl rfl e138 ?_
                    have hx' : Below W8.heap.size W8 wx := hx
                    go_simp
                    refine (held_ls (HL8.out.toLS.next hx') a1 a2 HKZ.out).mono ?_
                    rintro r wy ⟨rfl, hby⟩
                    rw [HHE.out]
                    exact Reg.done (Option.some_ne_none _) rfl hby
                  · intro ax wx hx hs
                    obtain ⟨e8, e138, -⟩ := hs
                    have g8 := Reg.ev (v := .pointer (some ⟨g8, 0, none⟩)) e8
                    have g138 := Reg.ev (v := .bool false) e138
                    have l0 := str2 (HP8.out.box.next hx)
                    have l1 := str3 (HO8.out.next hx)
                    exact Reg.obl_want rfl rfl e138 (Reg.wp_eqv (Option.some_ne_none _) (by go_simp) rfl)
                  · intro ax wx hx hs
                    obtain ⟨e1, e138, -⟩ := hs
                    have g1 := Reg.ev (v := .string a1) e1
                    have g138 := Reg.ev (v := .bool false) e138
                    exact Reg.obl_want rfl rfl e138 (Reg.wp_eqv (Option.some_ne_none _) (by go_simp) rfl)
                  · intro ax wx hx hs
                    obtain ⟨e2, e138, -⟩ := hs
                    have g2 := Reg.ev (v := .int .i64 a2) e2
                    have g138 := Reg.ev (v := .bool false) e138
                    exact Reg.obl_want rfl rfl e138 (Reg.wp_eqv (Option.some_ne_none _) (by go_simp) rfl)
                  · intro ax wx hx hs
                    obtain ⟨e143, e144, e145, e138, -⟩ := hs
                    have g143 := Reg.ev (v := .agg #[.slice A5 n5 c5, .slice A6 n6 c6]) e143
                    have g144 := Reg.ev (v := .string a1) e144
                    have g145 := Reg.ev (v := .int .i64 a2) e145
                    have g138 := Reg.ev (v := .bool false) e138
                    refine Reg.obl_want rfl rfl e138 ?_
                    have hx' : Below W8.heap.size W8 wx := hx
                    go_simp
                    refine (RefL.held_any (x := y) a1 a2 wx (HP8.out.h.next hx') (by omega)).mono ?_
                    rintro r wy ⟨rfl, hby⟩
                    exact Reg.done (Option.some_ne_none _) rfl hby
                  · intro ax wx hx hs
                    obtain ⟨e142, e146, e138, -⟩ := hs
                    have g142 := Reg.ev (v := .bool (heldR y a1 a2)) e142
                    have g146 := Reg.ev (v := .bool (heldR y a1 a2)) e146
                    have g138 := Reg.ev (v := .bool false) e138
                    exact Reg.obl_want rfl rfl e138 (Reg.wp_eqv (Option.some_ne_none _) (by go_simp) rfl)
                  · intro ax wx hx hs
                    obtain ⟨e138, e147, -⟩ := hs
                    have g138 := Reg.ev (v := .bool false) e138
                    have g147 := Reg.ev (v := .bool false) e147
                    exact Reg.obl_free rfl (Reg.wp_eqv (Option.some_ne_none _) (by go_simp) rfl)
                  · intro ax wx hx hs
                    obtain ⟨e148, -⟩ := hs
                    have g148 := Reg.ev (v := .bool false) e148
                    exact Reg.obl_free rfl (Reg.wp_eqv (Option.some_ne_none _) (by go_simp) rfl)
                  · intro ax wx hx hs
                    obtain ⟨e7, e149, -⟩ := hs
                    have g7 := Reg.ev (v := .pointer (some ⟨t, 0, none⟩)) e7
                    have g149 := Reg.ev (v := .bool false) e149
                    exact Reg.obl_want rfl rfl e149 (Reg.wp_eqv (Option.some_ne_none _) (by go_simp) rfl)
                  · intro ax wx hx hs
                    obtain ⟨e10, e149, -⟩ := hs
                    have g10 := Reg.ev (v := .pointer (some ⟨wr.heap.size, 0, none⟩)) e10
                    have g149 := Reg.ev (v := .bool false) e149
                    exact Reg.obl_want rfl rfl e149 (Reg.wp_eqv (Option.some_ne_none _) (by go_simp) rfl)
                  · intro ax wx hx hs
                    obtain ⟨e151, e149, -⟩ := hs
                    have g151 := Reg.ev (v := .pointer (some ⟨wr.heap.size, 0, none⟩)) e151
                    have g149 := Reg.ev (v := .bool false) e149
                    have l0 := str2 (HP8.out.box.next hx)
                    have l1 := str3 (HO8.out.next hx)
                    exact Reg.obl_want rfl rfl e149 (Reg.wp_eqv (Option.some_ne_none _) (by go_simp) rfl)
                  · intro ax wx hx hs
                    obtain ⟨e150, e152, e149, -⟩ := hs
                    have g150 := Reg.ev (v := .pointer (some ⟨t, 0, none⟩)) e150
                    have g152 := Reg.ev (v := .int .i64 xs.txn) e152
                    have g149 := Reg.ev (v := .bool false) e149
                    refine Reg.obl_want rfl rfl e149 ?_
                    have hx' : Below W8.heap.size W8 wx := hx
                    go_simp
                    refine (blocks_ls (HL8.out.toLS.next hx') HT.out HIN.out.2.1 (by omega)).mono ?_
                    rintro r wy ⟨A9, m9, d9, rfl, hE9, hby⟩
                    rw [HBL.out] at hE9
                    exact Reg.done (Option.some_ne_none _) ⟨A9, m9, d9, rfl, hE9⟩ hby
                  · intro ax wx hx hs
                    obtain ⟨e8, e149, -⟩ := hs
                    have g8 := Reg.ev (v := .pointer (some ⟨g8, 0, none⟩)) e8
                    have g149 := Reg.ev (v := .bool false) e149
                    have l0 := str2 (HP8.out.box.next hx)
                    have l1 := str3 (HO8.out.next hx)
                    exact Reg.obl_want rfl rfl e149 (Reg.wp_eqv (Option.some_ne_none _) (by go_simp) rfl)
                  · intro ax wx hx hs
                    obtain ⟨e10, e149, -⟩ := hs
                    have g10 := Reg.ev (v := .pointer (some ⟨wr.heap.size, 0, none⟩)) e10
                    have g149 := Reg.ev (v := .bool false) e149
                    exact Reg.obl_want rfl rfl e149 (Reg.wp_eqv (Option.some_ne_none _) (by go_simp) rfl)
                  · intro ax wx hx hs
                    obtain ⟨e155, e149, -⟩ := hs
                    have g155 := Reg.ev (v := .pointer (some ⟨wr.heap.size, 0, none⟩)) e155
                    have g149 := Reg.ev (v := .bool false) e149
                    have l0 := str2 (HP8.out.box.next hx)
                    have l1 := str3 (HO8.out.next hx)
                    exact Reg.obl_want rfl rfl e149 (Reg.wp_eqv (Option.some_ne_none _) (by go_simp) rfl)
                  · intro ax wx hx hs
                    obtain ⟨e154, e156, e149, -⟩ := hs
                    have g154 := Reg.ev (v := .agg #[.slice A5 n5 c5, .slice A6 n6 c6]) e154
                    have g156 := Reg.ev (v := .int .i64 xs.txn) e156
                    have g149 := Reg.ev (v := .bool false) e149
                    refine Reg.obl_want rfl rfl e149 ?_
                    have hx' : Below W8.heap.size W8 wx := hx
                    go_simp
                    refine (RefL.blocks_any A5 A6 n5 c5 n6 c6 y xs.txn wx (HP8.out.h.next hx') (HP8.out.q.next hx') HSM.out.hm (by omega) (by omega)).mono ?_
                    rintro r wy ⟨A9, m9, d9, rfl, hE9, hby⟩
                    exact Reg.done (Option.some_ne_none _) ⟨A9, m9, d9, rfl, hE9⟩ hby
                  · intro ax wx hx hs
                    obtain ⟨e153, e157, e149, -⟩ := hs
                    have g149 := Reg.ev (v := .bool false) e149
                    refine Reg.obl_want rfl rfl e149 ?_
                    obtain ⟨P9, m9, d9, e153', hE9⟩ := e153
                    obtain ⟨P8, m8, d8, e157', hE8⟩ := e157
                    have g153 := Reg.ev e153'
                    have g157 := Reg.ev e157'
                    go_simp
                    refine (SameL.sameList_any (l := blocksR y xs.txn) (l' := blocksR y xs.txn) wx hE9 hE8).mono ?_
                    rintro r wy ⟨rfl, hby⟩
                    rw [decide_eq_true (rfl : blocksR y xs.txn = blocksR y xs.txn)]
                    exact Reg.done (Option.some_ne_none _) rfl hby
                  · intro ax wx hx hs
                    obtain ⟨e158, e149, -⟩ := hs
                    have g158 := Reg.ev (v := .bool true) e158
                    have g149 := Reg.ev (v := .bool false) e149
                    exact Reg.obl_want rfl rfl e149 (Reg.wp_eqv (Option.some_ne_none _) (by go_simp) rfl)
                  · intro ax wx hx hs
                    obtain ⟨e149, e159, -⟩ := hs
                    have g149 := Reg.ev (v := .bool false) e149
                    have g159 := Reg.ev (v := .bool false) e159
                    exact Reg.obl_free rfl (Reg.wp_eqv (Option.some_ne_none _) (by go_simp) rfl)
                · intro W9 hwf
                  simp only [Reg.Fin]
                  rintro _ rfl _ rfl _ rfl _ rfl _ rfl _ rfl _ rfl _ rfl _ rfl _ rfl _ rfl _ rfl _ rfl _ rfl _ rfl _ rfl _ rfl _ rfl _ rfl _ rfl _ rfl _ rfl _ rfl _ rfl _ rfl _ rfl v153 h153 _ rfl _ rfl _ rfl v157 h157 _ rfl _ rfl _ rfl
                  go_simp
                  have hwf' : Below W8.heap.size W8 W9 := hwf
                  have HL9 := Lib.hid (HL8.out.next hwf')
                  have HP9 := Lib.hid (HP8.out.next hwf')
                  have HO9 := Lib.hid (HO8.out.next hwf')
                  clear hwf hwf' HL8 HP8 HO8
                  have hws := waits_sim HOKY.out HSM.out xs.txn
                  have hwt := waits_ls HL9.out.toLS HIN.out.2.1
                  have s1 := str3 HO9.out
                  have sl1 := HO9.out.lt
                  cases hpl : placeR y.w xs.txn with
                  | none =>
                    have hg := hws.2 hpl
                    have hh : MapP.has Y.goal xs.txn = false := by rw [MapP.has_get, hg]; rfl
                    have hpi : placeI y.w xs.txn = -1 := by unfold placeI; rw [hpl]
                    rw [hg, hh] at hwt
                    change Calls _ _ _ _ fun e w' => e = .returned (.tuple #[.string ⟨#[]⟩, .int .i64 0, .bool false]) ∧ _ at hwt
                    clear hws hg hh hpl
                    go_wp2_with fail
                    refine hwt.mono ?_
                    rintro e WA ⟨rfl, hbA⟩
                    have HLA := Lib.hid (HL9.out.next hbA)
                    have HPA := Lib.hid (HP9.out.next hbA)
                    have HOA := Lib.hid (HO9.out.next hbA)
                    clear hbA hwt HL9 HP9 HO9 s1 sl1
                    have s1 := str3 HOA.out
                    have s2 := str2 HPA.out.box
                    have hpa := RefL.place_any (A := A5) (n := n5) (c := c5) (x := y) xs.txn WA HPA.out.q (by omega)
                    go_wp2_with fail
                    refine hpa.mono ?_
                    rintro e WC ⟨rfl, hbC⟩
                    have HLC := Lib.hid (HLA.out.next hbC)
                    have HPC := Lib.hid (HPA.out.next hbC)
                    clear hbC hpa s1 s2 HLA HPA HOA
                    rw [hpi]
                    go_wp2_with fail
                    go_roundw
                    case rel => exact ⟨i + 1, by omega, by go_num, Lib.hid ⟨Y, y, A5, A6, n5, c5, n6, c6, HLC.out.here.mono (by omega), HPC.out, HSM.out⟩⟩
                    case measure => simp [intOf]; omega
                  | some j =>
                    obtain ⟨e, post, -, hje, -, -⟩ := place_some hpl
                    have hg := hws.1 j e hpl hje
                    have hh : MapP.has Y.goal xs.txn = true := by rw [MapP.has_get, hg]; rfl
                    have hpi : placeI y.w xs.txn = (j : Int) := by unfold placeI; rw [hpl]
                    rw [hg, hh] at hwt
                    change Calls _ _ _ _ fun e' w' => e' = .returned (.tuple #[.string e.key, .int .i64 e.mode, .bool true]) ∧ _ at hwt
                    have hjn : j < n6 := by have := (List.getElem?_eq_some_iff.1 hje).1; omega
                    have HJE := Lib.hid hje
                    clear hws hg hh hpl hje
                    go_wp2_with fail
                    refine hwt.mono ?_
                    rintro e9 WA ⟨rfl, hbA⟩
                    have HLA := Lib.hid (HL9.out.next hbA)
                    have HPA := Lib.hid (HP9.out.next hbA)
                    have HOA := Lib.hid (HO9.out.next hbA)
                    clear hbA hwt HL9 HP9 HO9 s1 sl1
                    have s1 := str3 HOA.out
                    have s2 := str2 HPA.out.box
                    have hpa := RefL.place_any (A := A5) (n := n5) (c := c5) (x := y) xs.txn WA HPA.out.q (by omega)
                    go_wp2_with fail
                    refine hpa.mono ?_
                    rintro e9 WC ⟨rfl, hbC⟩
                    have HLC := Lib.hid (HLA.out.next hbC)
                    have HPC := Lib.hid (HPA.out.next hbC)
                    clear hbC hpa s1 s2 HLA HPA HOA
                    rw [hpi]
                    obtain ⟨bq, oq, p, rfl, hbq, hxq, z0, z1, z2⟩ := h3_at HPC.out.q hjn
                    rw [HJE.out] at hxq
                    cases hxq
                    have s2 := str2 HPC.out.box
                    have kj : ¬ (j : Int) < 0 := by omega
                    have kj2 : (0 : Int) ≤ (j : Int) := by omega
                    go_wp2_with fail
                    go_roundw
                    case rel => exact ⟨i + 1, by omega, by go_num, Lib.hid ⟨Y, y, A5, _, n5, c5, n6, c6, HLC.out.here.mono (by omega), HPC.out, HSM.out⟩⟩
                    case measure => simp [intOf]; omega
        · have hd2 : decide ((i : Int) < (n0 : Int)) = false := by simp; omega
          go_wp2_with fail
          refine (live_any _ (HLX.out.tab HT.out)).mono ?_
          rintro e W9 ⟨rfl, hb9⟩
          have HB9 := Lib.hid (bstep HLX.out.bl hb9)
          clear hb9
          go_wp2_with fail
          go_ret
          exact ⟨rfl, HB9.out⟩
end locksSteps
end Go.Proofs.YtkkfabnehhamdaaDoor
end
