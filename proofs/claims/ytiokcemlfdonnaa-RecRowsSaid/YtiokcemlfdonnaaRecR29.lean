/-
  Parts of the proof of RecRows.
-/
import Derived.Test.YtiokcemlfdonnaaRecR6
import Derived.Test.YtiokcemlfdonnaaRecR13
import Derived.Test.YtiokcemlfdonnaaRecR5
import Derived.Test.YtiokcemlfdonnaaRecR28
import Derived.Test.YtiokcemlfdonnaaRecR12
import Derived.Deep.CutRange
section
namespace Go.Proofs.Ytiokcemlfdonnaa
open Go.RowKit
set_option linter.unusedVariables false
set_option linter.unusedSimpArgs false
theorem RecP.bytes_no (x : RecX) (h : RecP.fits x = false) : RecP.bytes x = [] := by unfold RecP.bytes; rw [h]; rfl
theorem RecP.same_me (x : RecX) : RecP.same x x = true := by
  unfold RecP.same UndoP.same
  simp [RecP.samePats_all (l := x.patches) (m := x.patches) (k := x.patches.length) rfl rfl rfl, SlotP.same_self]
/-- a record that is cut short is short -/
theorem RowsP.short (x : RecX) (k : Nat) (h : k < (RecP.bytes x).length) : k < 2 ∨ (k : Int) < 2 + NumP.val ((RecP.bytes x).take k) 0 2 := by
  by_cases h2 : k < 2
  · exact .inl h2
  · refine .inr ?_
    cases hf : RecP.fits x with
    | false => unfold RecP.bytes at h; rw [hf] at h; simp at h
    | true =>
      have hl := RecP.bytes_length x hf
      have hv := RecP.got_len x [] hf
      rw [List.append_nil] at hv
      have ht : NumP.val ((RecP.bytes x).take k) 0 2 = NumP.val (RecP.bytes x) 0 2 := by
        unfold NumP.val
        rw [if_pos (by rw [List.length_take]; omega), if_pos (by omega), List.drop_zero, List.drop_zero, List.take_take, Nat.min_eq_left (by omega)]
      rw [ht, hv]
      omega
/-- fifteen cells behind a place -/
def Str15 (w : World) (b o : Nat) (cs : Array Value) : Prop := w.cell? ⟨b, o, none⟩ = cs[0]? ∧ w.cell? ⟨b, o + 1, none⟩ = cs[1]? ∧ w.cell? ⟨b, o + 2, none⟩ = cs[2]? ∧ w.cell? ⟨b, o + 3, none⟩ = cs[3]? ∧ w.cell? ⟨b, o + 4, none⟩ = cs[4]? ∧ w.cell? ⟨b, o + 5, none⟩ = cs[5]? ∧ w.cell? ⟨b, o + 6, none⟩ = cs[6]? ∧ w.cell? ⟨b, o + 7, none⟩ = cs[7]? ∧ w.cell? ⟨b, o + 8, none⟩ = cs[8]? ∧ w.cell? ⟨b, o + 9, none⟩ = cs[9]? ∧ w.cell? ⟨b, o + 10, none⟩ = cs[10]? ∧ w.cell? ⟨b, o + 11, none⟩ = cs[11]? ∧ w.cell? ⟨b, o + 12, none⟩ = cs[12]? ∧ w.cell? ⟨b, o + 13, none⟩ = cs[13]? ∧ w.cell? ⟨b, o + 14, none⟩ = cs[14]?
theorem str15_of {w : World} {b o : Nat} {cs : Array Value} (hs : cs.size = 15) (h : ∀ j v, cs.toList[j]? = some v → w.cell? ⟨b, o + j, none⟩ = some v) : Str15 w b o cs := by
  have key : ∀ j, j < 15 → w.cell? ⟨b, o + j, none⟩ = cs[j]? := fun j hj => by
    have e : cs[j]? = some (cs[j]'(by omega)) := Array.getElem?_eq_getElem (by omega)
    rw [e]
    exact h j _ (by rw [Array.getElem?_toList, e])
  exact ⟨key 0 (by omega), key 1 (by omega), key 2 (by omega), key 3 (by omega), key 4 (by omega), key 5 (by omega), key 6 (by omega), key 7 (by omega), key 8 (by omega), key 9 (by omega), key 10 (by omega), key 11 (by omega), key 12 (by omega), key 13 (by omega), key 14 (by omega)⟩
namespace recRows
open RecW RowsW RowsP
attribute [local go_sem ↓] app_fold cut_fold
theorem infoRec : (Try.prog.info? 31).map (fun i => (i.zero, i.size, i.bytes)) = some (some (.agg #[.int .i64 0, .int .i64 0, .int .i64 0, .int .i64 0, .slice none 0 0, .int .i64 0, .string ⟨#[]⟩, .int .i64 0, .string ⟨#[]⟩, .int .i64 0, .slice none 0 0, .int .i64 0, .int .i64 0, .int .i64 0, .int .i64 0]), 15, 168) := by kernel_rfl
theorem len_rows {w0 w : World} {gb : Option Nat} {A1 A2 A3 : Option Addr} {n1 c1 c2 c3 m : Nat} {bs : List UInt8} {es : List Int} {ks : List RecX} (h : Trio w0 w gb A1 n1 c1 A2 c2 A3 c3 bs es ks m) : ks.length = m ∧ bs.length = n1 := ⟨h.kept.len, h.all.len⟩
/-- what the first loop keeps -/
abbrev Inv (w wr : World) (l : List RecX) (k : Nat) (gb : Option Nat) (A1 : Option Addr) (n1 c1 : Nat) (A2 : Option Addr) (c2 : Nat) (A3 : Option Addr) (c3 m : Nat) : Prop := Trio w wr gb A1 n1 c1 A2 c2 A3 c3 (allB (fl l k)) (ends (fl l k)) (fl l k) m
set_option maxRecDepth 100000 in
set_option maxHeartbeats 8000000 in
theorem go (A0 : Option Addr) (n0 c0 : Nat) (lr : List RecX) (cut : Int) (hcut : -9223372036854775808 ≤ cut ∧ cut ≤ 9223372036854775807) (w : World) (hE : Elems RecE w w.heap.size A0 n0 c0 lr) :
    Calls Try.prog 4 #[.slice A0 n0 c0, .int .i64 cut] w fun e w' => e = .returned (.bool true) ∧ Below w.heap.size w w' := by
  have HL0 := Lib.hid hE
  have hln0 := hE.len
  have hnc0 := hE.cap
  unfold maxLen at hnc0
  have HLN0 := Lib.hid hln0
  clear hE hln0
  go_enter Try.func4, Try.ntmps4
  by_cases h20 : 20 < n0
  · have hd20 : decide ((20 : Int) < (n0 : Int)) = true := by simp; omega
    go_wp2_with fail
    refine (live_any w).mono ?_
    rintro e W99 ⟨rfl, hb99⟩
    have HB99 := Lib.hid hb99
    clear hb99
    go_wp2
    go_ret
    exact ⟨rfl, HB99.out⟩
  have hd20 : decide ((20 : Int) < (n0 : Int)) = false := by simp; omega
  go_wp2
  go_loopw [5, 6, 7, 8] (fun s5 s6 s7 iv wr => ∃ (k : Nat) (gb : Option Nat) (A1 : Option Addr) (n1 c1 : Nat) (A2 : Option Addr) (c2 : Nat) (A3 : Option Addr) (c3 m : Nat), k ≤ n0 ∧ s5 = .slice A1 n1 c1 ∧ s6 = .slice A2 m c2 ∧ s7 = .slice A3 m c3 ∧ iv = .int .i64 (k : Int) ∧ Hid (Inv w wr lr k gb A1 n1 c1 A2 c2 A3 c3 m)) (fun _ _ _ iv _ => n0 - (intOf iv).toNat)
  case atStart => exact ⟨0, none, none, 0, 0, none, 0, none, 0, 0, Nat.zero_le _, rfl, rfl, rfl, rfl, Lib.hid (Trio.none_ w)⟩
  case round =>
    obtain ⟨k, gb, A1, n1, c1, A2, c2, A3, c3, m, hk, rfl, rfl, rfl, rfl, HK⟩ := hrel
    have hwr := HK.out.bel.size
    obtain ⟨hm, hn1⟩ := len_rows HK.out
    have hmk : m ≤ k := by rw [← hm]; exact fl_len lr k
    have hnk : n1 ≤ k * 65537 := by rw [← hn1]; exact all_small lr k
    have hc1 := HK.out.all.2.1
    have hc12 := HK.out.all.2.2.1
    unfold maxLen at hc12
    have HMN := Lib.hid (And.intro hm hn1)
    clear hm hn1
    by_cases hlt : k < n0
    · have hd : decide ((k : Int) < (n0 : Int)) = true := by simpa using hlt
      have hki : (0 : Int) ≤ (k : Int) := by omega
      obtain ⟨b, o, x, A, n, c, Ap, np, cp, rfl, hb, hx, hpe, hpb, hin, hcell⟩ := rec_at HL0.out hlt
      obtain ⟨kd, tx, pv, nx, l, ⟨pact, puk, ⟨pst, pk, ⟨pkd, pda, plo, phi, pva⟩⟩, pun⟩⟩ := x
      obtain ⟨⟨hpuk, hpk⟩, hui, hia, hun, hi4⟩ := hin
      dsimp only at hpe hpb hpuk hpk hui hia hun hi4
      have HIN := Lib.hid (And.intro hia hi4)
      clear hia hi4
      have HX := Lib.hid hx
      have HE := Lib.hid hpe
      have HP := Lib.hid hpb
      have HPK := Lib.hid (And.intro hpk hpuk)
      have HUN := Lib.hid (And.intro hun hui)
      have HCL : Hid (∀ W, Below w.heap.size w W → Str15 W b (o + k * 15) #[.int .i64 kd, .int .i64 tx, .int .i64 pv, .int .i64 nx, .slice A n c, .int .i64 pact, .string puk, .int .i64 pst, .string pk, .int .i64 pkd, .slice Ap np cp, .int .i64 plo, .int .i64 phi, .int .i64 pva, .int .i64 pun]) := Lib.hid (fun W hW => str15_of rfl fun j v hj => by rw [← hcell j v hj]; exact hW.cell (p := ⟨b, o + k * 15 + j, none⟩) hb)
      clear hx hpe hpb hpk hpuk hun hui hcell
      have q := HCL.out wr HK.out.bel
      unfold Str15 at q
      go_wp2_with fail
      refine (RefRec.much_is kd tx pv nx A n c w.heap.size l pact puk Ap np cp w.heap.size pst pk pkd pda plo phi pva pun wr (HE.out.below HK.out.bel) HK.out.bel.size (HP.out.below HK.out.bel) HK.out.bel.size HPK.out.1 HPK.out.2).mono ?_
      rintro e W1 ⟨rfl, hb1⟩
      have HK1 : Hid (Inv w W1 lr k gb A1 n1 c1 A2 c2 A3 c3 m) := Lib.hid (HK.out.next hb1)
      have hw1 := HK1.out.bel.size
      clear hb1 q
      cases hmu : (!decide (RefRec.Asked ⟨kd, tx, pv, nx, l, ⟨pact, puk, ⟨pst, pk, ⟨pkd, pda, plo, phi, pva⟩⟩, pun⟩⟩)) with
      | true =>
        go_wp2_with fail
        refine (live_any W1).mono ?_
        rintro e W99 ⟨rfl, hb99⟩
        have HB99 := Lib.hid (bstep HK1.out.bel hb99)
        clear hb99
        go_wp2
        go_ret
        exact ⟨rfl, HB99.out⟩
      | false =>
        clear hmu
        have q := HCL.out W1 HK1.out.bel
        unfold Str15 at q
        go_wp2_with fail
        refine (put_any kd tx pv nx A n c w.heap.size l pact puk Ap np cp w.heap.size pst pk pkd pda plo phi pva pun W1 (HE.out.below HK1.out.bel) HK1.out.bel.size (HP.out.below HK1.out.bel) HK1.out.bel.size HPK.out.1 HPK.out.2).mono ?_
        rintro e W2 ⟨P2, n2, d2, rfl, hy2, hb2⟩
        have HK2 : Hid (Inv w W2 lr k gb A1 n1 c1 A2 c2 A3 c3 m) := Lib.hid (HK1.out.next hb2)
        have hw2 := HK2.out.bel.size
        have hln2 := hy2.len
        have hnc2 := hy2.2.1
        have hcm2 := hy2.2.2.1
        unfold maxLen at hcm2
        have HY2 := Lib.hid hy2
        have HLN2 := Lib.hid hln2
        clear hb2 q hy2 HK1 HK
        cases hf : RecP.fits ⟨kd, tx, pv, nx, l, ⟨pact, puk, ⟨pst, pk, ⟨pkd, pda, plo, phi, pva⟩⟩, pun⟩⟩ with
        | false =>
          rw [RecP.bytes_no _ hf] at hln2
          have hn2 : n2 = 0 := hln2.symm
          subst hn2
          have HKF : Hid (Inv w W2 lr (k + 1) gb A1 n1 c1 A2 c2 A3 c3 m) := Lib.hid (by
            have h := HK2.out
            unfold Inv at h ⊢
            rw [fl_not HX.out hf]
            exact h)
          clear hf hln2
          go_wp2
          go_roundw
          case rel => exact ⟨k + 1, gb, A1, n1, c1, A2, c2, A3, c3, m, by omega, rfl, rfl, rfl, by go_num, HKF⟩
          case measure => simp [intOf]; omega
        | true =>
          have hsm := fits_small hf
          rw [hln2] at hsm
          have hdp : decide ((0 : Int) < (n2 : Int)) = true := by simp; omega
          have HF := Lib.hid hf
          clear hf hln2
          obtain ⟨A4, c4, W3, gb4, happ, hO4, hg4, ho4⟩ := HK2.out.all.app (P := Try.prog) 23 23 5 Try.underlying23 Be.infoU8 HY2.out (by omega)
          have HR3 := Lib.hid (HK2.out.more hO4 hg4 ho4)
          obtain ⟨N4, hN4⟩ : ∃ N, n1 + n2 = N := ⟨_, rfl⟩
          rw [hN4] at happ HR3
          have hn4 : N4 ≤ (k + 1) * 65537 := by omega
          have hc4 := HR3.out.all.2.1
          have hc42 := HR3.out.all.2.2.1
          unfold maxLen at hc42
          clear hO4 hg4 ho4
          go_wp2_with fail
          obtain ⟨i0, hi0, iz0, iz1, iz2⟩ := info_parts infoI
          obtain ⟨i1, hi1, jz0, jz1, jz2⟩ := info_parts infoRec
          have HI0 := Lib.hid (And.intro hi0 (And.intro iz0 (And.intro iz1 iz2)))
          have HI1 := Lib.hid (And.intro hi1 (And.intro jz0 (And.intro jz1 jz2)))
          have HBI : Hid ((∀ d, A2 = some d → d.block ∈ ((A2.map (·.block)).toList ++ (A3.map (·.block)).toList)) ∧ ∀ d, A3 = some d → d.block ∈ ((A2.map (·.block)).toList ++ (A3.map (·.block)).toList)) := Lib.hid ⟨fun d e => by subst e; simp, fun d e => by subst e; simp⟩
          have HBM : Hid (∀ q, q ∈ ((A2.map (·.block)).toList ++ (A3.map (·.block)).toList) → (∃ d, A2 = some d ∧ d.block = q) ∨ ∃ d, A3 = some d ∧ d.block = q) := Lib.hid (fun q hq => by
            rcases List.mem_append.1 hq with h | h
            · obtain ⟨d, e, rfl⟩ := Option.map_eq_some_iff.1 (Option.mem_toList.1 h); exact .inl ⟨d, e, rfl⟩
            · obtain ⟨d, e, rfl⟩ := Option.map_eq_some_iff.1 (Option.mem_toList.1 h); exact .inr ⟨d, e, rfl⟩)
          have HBL : Hid (∀ q, q ∈ ((A2.map (·.block)).toList ++ (A3.map (·.block)).toList) → w.heap.size ≤ q) := Lib.hid (fun q hq => by
            rcases HBM.out q hq with ⟨d, e, rfl⟩ | ⟨d, e, rfl⟩
            · exact (HR3.out.lt2 d e).1
            · exact (HR3.out.lt3 d e).1)
          clear hi0 iz0 iz1 iz2 hi1 jz0 jz1 jz2 happ HK2 HY2
          refine Reg.wp_region_box (R := (Reg.extB W3.heap.size ((A2.map (·.block)).toList ++ (A3.map (·.block)).toList))) (W := W3) (Reg.TwoJ W3.heap.size (row2 w A2 m c2 (ends (fl lr k)) (N4 : Int) 3 4 12 45 46 6) (row3 w A3 m c3 (fl lr k) ⟨kd, tx, pv, nx, l, ⟨pact, puk, ⟨pst, pk, ⟨pkd, pda, plo, phi, pva⟩⟩, pun⟩⟩ 10 11 13 52 53 7)) [Reg.eqv (.slice A2 m c2), Reg.eqv (.slice A4 N4 c4), Reg.eqv (.int .i64 (N4 : Int)), Reg.any, Reg.any, Reg.eqv (.slice A3 m c3), Reg.eqv (.slice (some ⟨b, o, none⟩) n0 c0), Reg.eqv (.int .i64 (k : Int)), Reg.eqv (.pointer (some ⟨b, o + k * 15, none⟩)), Reg.eqv (.agg #[.int .i64 kd, .int .i64 tx, .int .i64 pv, .int .i64 nx, .slice A n c, .int .i64 pact, .string puk, .int .i64 pst, .string pk, .int .i64 pkd, .slice Ap np cp, .int .i64 plo, .int .i64 phi, .int .i64 pva, .int .i64 pun]), Reg.any, Reg.any, Reg.any, Reg.any] 152 [[(6, none)], [(5, none)], [(43, some 1)], [(44, some 2)], [(42, some 0), (45, some 3)], [(7, none)], [(0, none)], [(8, none)], [(48, some 6), (49, some 7)], [(50, some 8)], [(51, some 9)], [(47, some 5), (52, some 10)], [(46, some 4)], [(53, some 11)]] rfl (by kernel_rfl) (by kernel_rfl) (fun _ h => Reg.two_zero (I := (row2 w A2 m c2 (ends (fl lr k)) (N4 : Int) 3 4 12 45 46 6)) (I2 := (row3 w A3 m c3 (fl lr k) ⟨kd, tx, pv, nx, l, ⟨pact, puk, ⟨pst, pk, ⟨pkd, pda, plo, phi, pva⟩⟩, pun⟩⟩ 10 11 13 52 53 7)) (HR3.out.ends.next ((bsame W3).drew)) (HR3.out.kept.next ((bsame W3).drew)) h) (by kernel_rfl) ?_ [some 42, some 43, some 44, some 45, some 46, some 47, some 48, some 49, some 50, some 51, some 52, some 53, some 6, some 7] (by kernel_rfl) ?_
          · refine ⟨?_, ?_, ?_, ?_, ?_, ?_, ?_, ?_, ?_, ?_, ?_, ?_, ?_, ?_, trivial⟩
            · refine Reg.oblT_ord (I := (row2 w A2 m c2 (ends (fl lr k)) (N4 : Int) 3 4 12 45 46 6)) (I2 := (row3 w A3 m c3 (fl lr k) ⟨kd, tx, pv, nx, l, ⟨pact, puk, ⟨pst, pk, ⟨pkd, pda, plo, phi, pva⟩⟩, pun⟩⟩ 10 11 13 52 53 7)) rfl (by exact (Reg.ok_of IntE.pure rfl)) (by exact (Reg.ok_of (Rec0.pure w) rfl)) ⟨(Reg.off_of rfl), (Reg.off_of rfl)⟩ ?_
              intro ax wx hx hs
              obtain ⟨e6, -⟩ := hs
              have g6 := Reg.ev (v := .slice A2 m c2) e6
              exact Reg.obl_freeL rfl (Reg.wp_eqvB (Option.some_ne_none _) (by go_simp) rfl)
            · refine Reg.oblT_ord (I := (row2 w A2 m c2 (ends (fl lr k)) (N4 : Int) 3 4 12 45 46 6)) (I2 := (row3 w A3 m c3 (fl lr k) ⟨kd, tx, pv, nx, l, ⟨pact, puk, ⟨pst, pk, ⟨pkd, pda, plo, phi, pva⟩⟩, pun⟩⟩ 10 11 13 52 53 7)) rfl (by exact (Reg.ok_of IntE.pure rfl)) (by exact (Reg.ok_of (Rec0.pure w) rfl)) ⟨(Reg.off_of rfl), (Reg.off_of rfl)⟩ ?_
              intro ax wx hx hs
              obtain ⟨e5, -⟩ := hs
              have g5 := Reg.ev (v := .slice A4 N4 c4) e5
              exact Reg.obl_freeL rfl (Reg.wp_eqvB (Option.some_ne_none _) (by go_simp) rfl)
            · refine Reg.oblT_ord (I := (row2 w A2 m c2 (ends (fl lr k)) (N4 : Int) 3 4 12 45 46 6)) (I2 := (row3 w A3 m c3 (fl lr k) ⟨kd, tx, pv, nx, l, ⟨pact, puk, ⟨pst, pk, ⟨pkd, pda, plo, phi, pva⟩⟩, pun⟩⟩ 10 11 13 52 53 7)) rfl (by exact (Reg.ok_of IntE.pure rfl)) (by exact (Reg.ok_of (Rec0.pure w) rfl)) ⟨(Reg.off_of rfl), (Reg.off_of rfl)⟩ ?_
              intro ax wx hx hs
              obtain ⟨e43, -⟩ := hs
              have g43 := Reg.ev (v := .slice A4 N4 c4) e43
              exact Reg.obl_freeL rfl (Reg.wp_eqvB (Option.some_ne_none _) (by go_simp) rfl)
            · refine Reg.oblT_row (I := (row2 w A2 m c2 (ends (fl lr k)) (N4 : Int) 3 4 12 45 46 6)) (I2 := (row3 w A3 m c3 (fl lr k) ⟨kd, tx, pv, nx, l, ⟨pact, puk, ⟨pst, pk, ⟨pkd, pda, plo, phi, pva⟩⟩, pun⟩⟩ 10 11 13 52 53 7)) rfl rfl (by exact (Reg.ok_of IntE.pure rfl)) (by exact (Reg.ok_of (Rec0.pure w) rfl)) rfl rfl (Reg.off_of rfl) (by show 45 < 152; decide) (fun _ _ => trivial) ?_
              intro ax wx hx hs
              obtain ⟨e44, -⟩ := hs
              have g44 := Reg.ev (v := .int .i64 (N4 : Int)) e44
              refine ⟨[.int .i64 (N4 : Int)], 3, rfl, ?_⟩
              refine Oper.wp_mono (K := fun a1 w1 => a1 = ax.put (some 45) (.slice (some ⟨wx.heap.size, 0, none⟩) 1 1) ∧ w1 = wx.alloc (.cells #[.int .i64 (N4 : Int)] 3)) (fun a1 w1 h => h) ?_
              go_simp
            · refine Reg.oblT_app (I := (row2 w A2 m c2 (ends (fl lr k)) (N4 : Int) 3 4 12 45 46 6)) (I2 := (row3 w A3 m c3 (fl lr k) ⟨kd, tx, pv, nx, l, ⟨pact, puk, ⟨pst, pk, ⟨pkd, pda, plo, phi, pva⟩⟩, pun⟩⟩ 10 11 13 52 53 7)) rfl rfl (by exact (Reg.ok_of IntE.pure rfl)) (by exact (Reg.ok_of (Rec0.pure w) rfl)) rfl rfl (by kernel_rfl) (Reg.off_of rfl) (by show 46 < 152; decide) (fun _ _ => trivial) (fun p q ep eq => HR3.out.x23 p q ep eq) (fun d e => ⟨(HR3.out.lt2 d e).2, HBI.out.1 d e⟩) HR3.out.bel.size 44 i0 _ 8 Try.underlying44 HI0.out.1 HI0.out.2.1 HI0.out.2.2.1 HI0.out.2.2.2 rfl (by show m + 1 ≤ maxLen; unfold maxLen; omega) (by show (m + 1) * 8 ≤ _; omega) (.tmp 42) rfl rfl ?_
              intro ax wx hx hs
              obtain ⟨e42, e45, -⟩ := hs
              have g42 := Reg.ev (v := .slice A2 m c2) e42
              show ax.eval (.tmp 42) = .slice A2 m c2
              simpa [Act.eval] using g42
            · refine Reg.oblT_ord (I := (row2 w A2 m c2 (ends (fl lr k)) (N4 : Int) 3 4 12 45 46 6)) (I2 := (row3 w A3 m c3 (fl lr k) ⟨kd, tx, pv, nx, l, ⟨pact, puk, ⟨pst, pk, ⟨pkd, pda, plo, phi, pva⟩⟩, pun⟩⟩ 10 11 13 52 53 7)) rfl (by exact (Reg.ok_of IntE.pure rfl)) (by exact (Reg.ok_of (Rec0.pure w) rfl)) ⟨(Reg.off_of rfl), (Reg.off_of rfl)⟩ ?_
              intro ax wx hx hs
              obtain ⟨e7, -⟩ := hs
              have g7 := Reg.ev (v := .slice A3 m c3) e7
              exact Reg.obl_freeL rfl (Reg.wp_eqvB (Option.some_ne_none _) (by go_simp) rfl)
            · refine Reg.oblT_ord (I := (row2 w A2 m c2 (ends (fl lr k)) (N4 : Int) 3 4 12 45 46 6)) (I2 := (row3 w A3 m c3 (fl lr k) ⟨kd, tx, pv, nx, l, ⟨pact, puk, ⟨pst, pk, ⟨pkd, pda, plo, phi, pva⟩⟩, pun⟩⟩ 10 11 13 52 53 7)) rfl (by exact (Reg.ok_of IntE.pure rfl)) (by exact (Reg.ok_of (Rec0.pure w) rfl)) ⟨(Reg.off_of rfl), (Reg.off_of rfl)⟩ ?_
              intro ax wx hx hs
              obtain ⟨e0, -⟩ := hs
              have g0 := Reg.ev (v := .slice (some ⟨b, o, none⟩) n0 c0) e0
              exact Reg.obl_freeL rfl (Reg.wp_eqvB (Option.some_ne_none _) (by go_simp) rfl)
            · refine Reg.oblT_ord (I := (row2 w A2 m c2 (ends (fl lr k)) (N4 : Int) 3 4 12 45 46 6)) (I2 := (row3 w A3 m c3 (fl lr k) ⟨kd, tx, pv, nx, l, ⟨pact, puk, ⟨pst, pk, ⟨pkd, pda, plo, phi, pva⟩⟩, pun⟩⟩ 10 11 13 52 53 7)) rfl (by exact (Reg.ok_of IntE.pure rfl)) (by exact (Reg.ok_of (Rec0.pure w) rfl)) ⟨(Reg.off_of rfl), (Reg.off_of rfl)⟩ ?_
              intro ax wx hx hs
              obtain ⟨e8, -⟩ := hs
              have g8 := Reg.ev (v := .int .i64 (k : Int)) e8
              exact Reg.obl_freeL rfl (Reg.wp_eqvB (Option.some_ne_none _) (by go_simp) rfl)
            · refine Reg.oblT_ord (I := (row2 w A2 m c2 (ends (fl lr k)) (N4 : Int) 3 4 12 45 46 6)) (I2 := (row3 w A3 m c3 (fl lr k) ⟨kd, tx, pv, nx, l, ⟨pact, puk, ⟨pst, pk, ⟨pkd, pda, plo, phi, pva⟩⟩, pun⟩⟩ 10 11 13 52 53 7)) rfl (by exact (Reg.ok_of IntE.pure rfl)) (by exact (Reg.ok_of (Rec0.pure w) rfl)) ⟨(Reg.off_of rfl), (Reg.off_of rfl)⟩ ?_
              intro ax wx hx hs
              obtain ⟨e48, e49, -⟩ := hs
              have g48 := Reg.ev (v := .slice (some ⟨b, o, none⟩) n0 c0) e48
              have g49 := Reg.ev (v := .int .i64 (k : Int)) e49
              refine Reg.obl_freeL rfl ?_
              exact Reg.wp_eqvB (Option.some_ne_none _) (by go_simp; first | done | (intro hq; omega)) rfl
            · refine Reg.oblT_ord (I := (row2 w A2 m c2 (ends (fl lr k)) (N4 : Int) 3 4 12 45 46 6)) (I2 := (row3 w A3 m c3 (fl lr k) ⟨kd, tx, pv, nx, l, ⟨pact, puk, ⟨pst, pk, ⟨pkd, pda, plo, phi, pva⟩⟩, pun⟩⟩ 10 11 13 52 53 7)) rfl (by exact (Reg.ok_of IntE.pure rfl)) (by exact (Reg.ok_of (Rec0.pure w) rfl)) ⟨(Reg.off_of rfl), (Reg.off_of rfl)⟩ ?_
              intro ax wx hx hs
              obtain ⟨e50, -⟩ := hs
              have g50 := Reg.ev (v := .pointer (some ⟨b, o + k * 15, none⟩)) e50
              have hx' : Reg.KeepB W3.heap.size ((A2.map (·.block)).toList ++ (A3.map (·.block)).toList) W3 wx := hx
              have hxb : Below w.heap.size w wx := HR3.out.bel.trans (hx'.below HR3.out.bel.size HBL.out)
              have q := HCL.out wx hxb
              unfold Str15 at q
              exact Reg.obl_freeL rfl (Reg.wp_eqvB (Option.some_ne_none _) (by go_simp) rfl)
            · rw [Reg.twoJ_comm]
              refine Reg.oblT_row (I := (row3 w A3 m c3 (fl lr k) ⟨kd, tx, pv, nx, l, ⟨pact, puk, ⟨pst, pk, ⟨pkd, pda, plo, phi, pva⟩⟩, pun⟩⟩ 10 11 13 52 53 7)) (I2 := (row2 w A2 m c2 (ends (fl lr k)) (N4 : Int) 3 4 12 45 46 6)) rfl rfl (by exact (Reg.ok_of (Rec0.pure w) rfl)) (by exact (Reg.ok_of IntE.pure rfl)) rfl rfl (Reg.off_of rfl) (by show 52 < 152; decide) (fun _ _ => trivial) ?_
              intro ax wx hx hs
              obtain ⟨e51, -⟩ := hs
              have g51 := Reg.ev (v := .agg #[.int .i64 kd, .int .i64 tx, .int .i64 pv, .int .i64 nx, .slice A n c, .int .i64 pact, .string puk, .int .i64 pst, .string pk, .int .i64 pkd, .slice Ap np cp, .int .i64 plo, .int .i64 phi, .int .i64 pva, .int .i64 pun]) e51
              refine ⟨recV ⟨kd, tx, pv, nx, l, ⟨pact, puk, ⟨pst, pk, ⟨pkd, pda, plo, phi, pva⟩⟩, pun⟩⟩ A n c Ap np cp, 31, ⟨A, n, c, Ap, np, cp, rfl, HE.out, HP.out, ⟨HPK.out.2, HPK.out.1⟩, HUN.out.2, HIN.out.1, HUN.out.1, HIN.out.2⟩, ?_⟩
              refine Oper.wp_mono (K := fun a1 w1 => a1 = ax.put (some 52) (.slice (some ⟨wx.heap.size, 0, none⟩) 1 1) ∧ w1 = wx.alloc (.cells #[.int .i64 kd, .int .i64 tx, .int .i64 pv, .int .i64 nx, .slice A n c, .int .i64 pact, .string puk, .int .i64 pst, .string pk, .int .i64 pkd, .slice Ap np cp, .int .i64 plo, .int .i64 phi, .int .i64 pva, .int .i64 pun] 31)) (fun a1 w1 h => h) ?_
              go_simp
            · rw [Reg.twoJ_comm]
              refine Reg.oblT_app (I := (row3 w A3 m c3 (fl lr k) ⟨kd, tx, pv, nx, l, ⟨pact, puk, ⟨pst, pk, ⟨pkd, pda, plo, phi, pva⟩⟩, pun⟩⟩ 10 11 13 52 53 7)) (I2 := (row2 w A2 m c2 (ends (fl lr k)) (N4 : Int) 3 4 12 45 46 6)) rfl rfl (by exact (Reg.ok_of (Rec0.pure w) rfl)) (by exact (Reg.ok_of IntE.pure rfl)) rfl rfl (by kernel_rfl) (Reg.off_of rfl) (by show 53 < 152; decide) (fun _ _ => trivial) (fun p q ep eq => (HR3.out.x23 q p eq ep).symm) (fun d e => ⟨(HR3.out.lt3 d e).2, HBI.out.2 d e⟩) HR3.out.bel.size 43 i1 _ 168 Try.underlying43 HI1.out.1 HI1.out.2.1 HI1.out.2.2.1 HI1.out.2.2.2 rfl (by show m + 1 ≤ maxLen; unfold maxLen; omega) (by show (m + 1) * 168 ≤ _; omega) (.tmp 47) rfl rfl ?_
              intro ax wx hx hs
              obtain ⟨e47, e52, -⟩ := hs
              have g47 := Reg.ev (v := .slice A3 m c3) e47
              show ax.eval (.tmp 47) = .slice A3 m c3
              simpa [Act.eval] using g47
            · refine Reg.oblT_hand (I := (row2 w A2 m c2 (ends (fl lr k)) (N4 : Int) 3 4 12 45 46 6)) (I2 := (row3 w A3 m c3 (fl lr k) ⟨kd, tx, pv, nx, l, ⟨pact, puk, ⟨pst, pk, ⟨pkd, pda, plo, phi, pva⟩⟩, pun⟩⟩ 10 11 13 52 53 7)) rfl rfl (by exact (Reg.ok_of IntE.pure rfl)) (by exact (Reg.ok_of (Rec0.pure w) rfl)) rfl rfl (by kernel_rfl) (Reg.off_of rfl) (by show 6 < 152; decide) (fun _ _ => trivial) ?_
              intro ax wx
              refine Oper.wp_mono (K := fun a1 w1 => a1 = ax.put (some 6) (ax.eval (.tmp 46)) ∧ w1 = wx) (fun a1 w1 h => h) ?_
              go_simp
            · rw [Reg.twoJ_comm]
              refine Reg.oblT_hand (I := (row3 w A3 m c3 (fl lr k) ⟨kd, tx, pv, nx, l, ⟨pact, puk, ⟨pst, pk, ⟨pkd, pda, plo, phi, pva⟩⟩, pun⟩⟩ 10 11 13 52 53 7)) (I2 := (row2 w A2 m c2 (ends (fl lr k)) (N4 : Int) 3 4 12 45 46 6)) rfl rfl (by exact (Reg.ok_of (Rec0.pure w) rfl)) (by exact (Reg.ok_of IntE.pure rfl)) rfl rfl (by kernel_rfl) (Reg.off_of rfl) (by show 7 < 152; decide) (fun _ _ => trivial) ?_
              intro ax wx
              refine Oper.wp_mono (K := fun a1 w1 => a1 = ax.put (some 7) (ax.eval (.tmp 53)) ∧ w1 = wx) (fun a1 w1 h => h) ?_
              go_simp
          · intro W5 listed hwf hall
            simp only [Reg.Fin]
            rintro _ rfl _ rfl _ rfl v45 h45 v46 h46 _ rfl _ rfl _ rfl _ rfl _ rfl v52 h52 v53 h53 v6 h6 v7 h7
            intro hJ
            obtain ⟨AT1, cT1, AT2, cT2, eT1, fT1, hT1, eT2, fT2, hT2, hapT⟩ := Reg.two_end (n := 14) hall ⟨by show 4 < 14; decide, by show 12 < 14; decide⟩ ⟨by show 11 < 14; decide, by show 13 < 14; decide⟩ hJ
            have ec46 : v46 = .slice AT1 (m + 1) cT1 := by have h1 : Act.eval _ (.tmp 46) = .slice AT1 (m + 1) cT1 := eT1; simpa [Act.eval, Act.put] using h1
            have ec6 : v6 = .slice AT1 (m + 1) cT1 := by have h1 : Act.eval _ (.tmp 6) = .slice AT1 (m + 1) cT1 := fT1; simpa [Act.eval, Act.put] using h1
            have ec53 : v53 = .slice AT2 (m + 1) cT2 := by have h1 : Act.eval _ (.tmp 53) = .slice AT2 (m + 1) cT2 := eT2; simpa [Act.eval, Act.put] using h1
            have ec7 : v7 = .slice AT2 (m + 1) cT2 := by have h1 : Act.eval _ (.tmp 7) = .slice AT2 (m + 1) cT2 := fT2; simpa [Act.eval, Act.put] using h1
            clear eT1 fT1 eT2 fT2
            subst ec46
            subst ec6
            subst ec53
            subst ec7
            clear hJ hall
            go_simp
            have hwf' : Reg.KeepB W3.heap.size ((A2.map (·.block)).toList ++ (A3.map (·.block)).toList) W3 W5 := hwf
            have h5 := Trio.two HR3.out hwf' HBM.out hT1 hT2 hapT
            have HR5 : Hid (Inv w W5 lr (k + 1) gb4 A4 N4 c4 AT1 cT1 AT2 cT2 (m + 1)) := Lib.hid (by
              have hl := HR3.out.all.len
              rw [← allB_app] at h5 hl
              unfold Inv
              rw [fl_fit HX.out HF.out, ends_app, hl]
              exact h5)
            clear hwf hwf' h5 hT1 hT2 hapT HI0 HI1 HBI HBM HBL
            go_wp2
            go_roundw
            case rel => exact ⟨k + 1, gb4, A4, N4, c4, AT1, cT1, AT2, cT2, m + 1, by omega, rfl, rfl, rfl, by go_num, HR5⟩
            case measure => simp [intOf]; omega
    · have hd : decide ((k : Int) < (n0 : Int)) = false := by simpa using hlt
      obtain ⟨f, hf⟩ : ∃ f, fl lr k = f := ⟨_, rfl⟩
      have HFI : Hid (∀ x, x ∈ f → RecP.fits x = true ∧ x ∈ lr) := Lib.hid (fun x hx => by rw [← hf] at hx; exact ⟨fl_fits hx, fl_mem hx⟩)
      have HT : Hid (Trio w wr gb A1 n1 c1 A2 c2 A3 c3 (allB f) (ends f) f m) := Lib.hid (by rw [← hf]; exact HK.out)
      have HMF : Hid (f.length = m ∧ (allB f).length = n1) := Lib.hid (by rw [← hf]; exact HMN.out)
      clear hf HK HMN
      go_upto_region 15 with fail
      go_cut [61] from 54 (fun v wx => v = .bool (decide (cut < 0 ∨ (n1 : Int) < cut)) ∧ wr = wx)
      case first =>
        by_cases h0 : cut < 0
        · have hd0 : decide (cut < 0) = true := by simpa using h0
          go_wp2_with fail
          go_meet
          exact ⟨by simp [h0], rfl⟩
        · have hd0 : decide (cut < 0) = false := by simpa using h0
          go_wp2_with fail
          go_meet
          exact ⟨congrArg Value.bool (by rw [decide_eq_decide]; omega), rfl⟩
      case rest =>
      obtain ⟨rfl, rfl⟩ := hcut
      go_upto_if 61 with fail
      go_cut [1] from 54 (fun v wx => (∃ q : Nat, q ≤ n1 ∧ v = .int .i64 (q : Int)) ∧ wr = wx)
      case first =>
        by_cases h0 : cut < 0 ∨ (n1 : Int) < cut
        · have hd0 : decide (cut < 0 ∨ (n1 : Int) < cut) = true := by simpa using h0
          go_wp2_with fail
          go_meet
          exact ⟨⟨n1, Nat.le_refl _, rfl⟩, rfl⟩
        · have hd0 : decide (cut < 0 ∨ (n1 : Int) < cut) = false := by simpa using h0
          obtain ⟨q, rfl⟩ : ∃ q : Nat, cut = (q : Int) := ⟨cut.toNat, by omega⟩
          go_wp2_with fail
          go_meet
          exact ⟨⟨q, by omega, rfl⟩, rfl⟩
      case rest =>
      obtain ⟨⟨q, hq, rfl⟩, rfl⟩ := hcut
      go_wp2
      go_loopw [10, 11] (fun av nv wq => ∃ (j a : Nat), j ≤ m ∧ a ≤ q ∧ av = .int .i64 (a : Int) ∧ nv = .int .i64 (j : Int) ∧ Hid (a = at_ f j) ∧ Hid (Trio w wq gb A1 n1 c1 A2 c2 A3 c3 (allB f) (ends f) f m)) (fun _ nv _ => m + 1 - (intOf nv).toNat)
      case atStart => exact ⟨0, 0, Nat.zero_le _, Nat.zero_le _, rfl, rfl, Lib.hid (at_zero f).symm, HT⟩
      case round =>
        clear HT
        obtain ⟨j, a, hj, haq, rfl, rfl, HA, HQ⟩ := hrel
        have hdj : decide ((j : Int) ≤ (m : Int)) = true := by simp; omega
        have hwr2 := HQ.out.bel.size
        have hqc : q ≤ c1 := Nat.le_trans hq hc1
        have hq1 : q ≤ n1 := hq
        have hz1 : (0 : Int) ≤ (a : Int) := by omega
        have hz2 : (a : Int) ≤ (q : Int) := by omega
        have hz3 : (q : Int) ≤ (c1 : Int) := by omega
        have hat : at_ f j ≤ q := by rw [← HA.out]; exact haq
        by_cases hS : j = m ∨ q < at_ f (j + 1)
        · have HAT := Lib.hid (And.intro hat (And.intro hj hS))
          obtain ⟨LL, hy0, hsh⟩ : ∃ LL, Bytes wr wr.heap.size (cutA A1 a c1 1) (q - a) (c1 - a) LL ∧ (q - a < 2 ∨ ((q - a : Nat) : Int) < 2 + NumP.val LL 0 2) := by
            have hy0 := HQ.out.all.bytes.cut a q c1 haq hq1 hqc (Nat.le_refl _)
            refine ⟨_, hy0, ?_⟩
            rcases hS with hjm | hcu
            · have haa : a = n1 := by rw [HA.out, hjm, ← HMF.out.1, at_all]; exact HMF.out.2
              exact .inl (by omega)
            · by_cases hjm : j = m
              · have haa : a = n1 := by rw [HA.out, hjm, ← HMF.out.1, at_all]; exact HMF.out.2
                exact .inl (by omega)
              · have hjl : j < f.length := by rw [HMF.out.1]; omega
                obtain ⟨y, hy⟩ : ∃ y, f[j]? = some y := ⟨_, List.getElem?_eq_getElem hjl⟩
                have hpart := got_part hy hcu
                have hlen := at_next hy
                rw [← HA.out] at hpart hlen
                rw [hpart]
                exact RowsP.short y (q - a) (by omega)
          have HSH := Lib.hid hsh
          have HY0 := Lib.hid hy0
          clear hsh hy0 hat hS
          go_wp2_with fail
          refine (get_short _ _ _ _ _ _ HY0.out (Nat.le_refl _) HSH.out).mono ?_
          rintro e W3 ⟨rfl, hb3⟩
          have HQ3 := Lib.hid (HQ.out.next hb3)
          have hw3 := HQ3.out.bel.size
          clear hb3
          obtain ⟨W4, hW4⟩ : ∃ W, W3.alloc (.cells #[.int .i64 0, .int .i64 0, .int .i64 0, .int .i64 0, .slice none 0 0, .int .i64 0, .string ⟨#[]⟩, .int .i64 0, .string ⟨#[]⟩, .int .i64 0, .slice none 0 0, .int .i64 0, .int .i64 0, .int .i64 0, .int .i64 0] 31) = W := ⟨_, rfl⟩
          obtain ⟨HS4, HB4, hw4, hz4⟩ := new1 hW4
          have hl4 := HS4.out.lt
          have g4 := str15 HS4.out
          have gf := fun j => HS4.out.frozen j
          obtain ⟨W8, hW8⟩ : ∃ W, (((((((((((((((W4).setCell ⟨W3.heap.size, 0, none⟩ (.int .i64 0)).setCell ⟨W3.heap.size, 1, none⟩ (.int .i64 0)).setCell ⟨W3.heap.size, 2, none⟩ (.int .i64 0)).setCell ⟨W3.heap.size, 3, none⟩ (.int .i64 0)).setCell ⟨W3.heap.size, 4, none⟩ (.slice none 0 0)).setCell ⟨W3.heap.size, 5, none⟩ (.int .i64 0)).setCell ⟨W3.heap.size, 6, none⟩ (.string ⟨#[]⟩)).setCell ⟨W3.heap.size, 7, none⟩ (.int .i64 0)).setCell ⟨W3.heap.size, 8, none⟩ (.string ⟨#[]⟩)).setCell ⟨W3.heap.size, 9, none⟩ (.int .i64 0)).setCell ⟨W3.heap.size, 10, none⟩ (.slice none 0 0)).setCell ⟨W3.heap.size, 11, none⟩ (.int .i64 0)).setCell ⟨W3.heap.size, 12, none⟩ (.int .i64 0)).setCell ⟨W3.heap.size, 13, none⟩ (.int .i64 0)).setCell ⟨W3.heap.size, 14, none⟩ (.int .i64 0) = W := ⟨_, rfl⟩
          have hg8 : W4.grownBy W8 (some W3.heap.size) := by rw [← hW8]; exact grown_set (grown_set (grown_set (grown_set (grown_set (grown_set (grown_set (grown_set (grown_set (grown_set (grown_set (grown_set (grown_set (grown_set (grown_set (grown_refl W4 _) 0 _) 1 _) 2 _) 3 _) 4 _) 5 _) 6 _) 7 _) 8 _) 9 _) 10 _) 11 _) 12 _) 13 _) 14 _
          have HQ8 := Lib.hid (HQ3.out.next (below_grown HB4.out hg8 (Nat.le_refl _)))
          clear hg8 hz4
          go_wp2_with fail
          refine (code_any _ _).mono ?_
          rintro e w' ⟨rfl, rfl⟩
          clear g4 gf hl4 hW4 hW8 HS4 HB4
          go_wp2_with fail
          refine (code_any _ _).mono ?_
          rintro e w' ⟨rfl, rfl⟩
          by_cases hjm : j = m
          · by_cases hj0 : j = 0
            · have HHA := Lib.hid (And.intro HAT.out (And.intro hjm hj0))
              clear hjm hj0
              have hdm : ((j : Int) == (m : Int)) = true := by obtain ⟨⟨g1, g2, g3⟩, g4, g5⟩ := HHA.out; have g6 := HMF.out; simp; omega
              have hdz : ((j : Int) == 0) = true := by obtain ⟨⟨g1, g2, g3⟩, g4, g5⟩ := HHA.out; have g6 := HMF.out; simp; omega
              go_wp2_with fail
              refine (live_any W8).mono ?_
              rintro e W9 ⟨rfl, hb9⟩
              have HB9 := Lib.hid (HQ8.out.next hb9).bel
              clear hb9
              go_wp2
              go_ret
              exact ⟨rfl, HB9.out⟩
            · have HHA := Lib.hid (And.intro HAT.out (And.intro hjm hj0))
              clear hjm hj0
              have hdm : ((j : Int) == (m : Int)) = true := by obtain ⟨⟨g1, g2, g3⟩, g4, g5⟩ := HHA.out; have g6 := HMF.out; simp; omega
              have hdz : ((j : Int) == 0) = false := by obtain ⟨⟨g1, g2, g3⟩, g4, g5⟩ := HHA.out; have g6 := HMF.out; simp; omega
              have hwj : wrap64 ((j : Int) - 1) = ((j - 1 : Nat) : Int) := by rw [show ((j : Int) - 1) = ((j - 1 : Nat) : Int) from (by obtain ⟨⟨g1, g2, g3⟩, g4, g5⟩ := HHA.out; have g6 := HMF.out; omega)]; exact IntWalk.wrap64_in _ (by obtain ⟨⟨g1, g2, g3⟩, g4, g5⟩ := HHA.out; have g6 := HMF.out; omega)
              obtain ⟨b5, o5, x5, e5, hb5, hx5, hc5⟩ := int_at HQ8.out.ends (show j - 1 < m from (by obtain ⟨⟨g1, g2, g3⟩, g4, g5⟩ := HHA.out; have g6 := HMF.out; omega))
              rw [ends_get (by obtain ⟨⟨g1, g2, g3⟩, g4, g5⟩ := HHA.out; have g6 := HMF.out; omega), show j - 1 + 1 = j from (by obtain ⟨⟨g1, g2, g3⟩, g4, g5⟩ := HHA.out; have g6 := HMF.out; omega)] at hx5
              cases hx5
              subst e5
              have hdl : at_ f j ≤ q := (by obtain ⟨⟨g1, g2, g3⟩, g4, g5⟩ := HHA.out; have g6 := HMF.out; omega)
              have hjj : (1 : Int) ≤ (j : Int) ∧ (j : Int) - 1 < (m : Int) := (by obtain ⟨⟨g1, g2, g3⟩, g4, g5⟩ := HHA.out; have g6 := HMF.out; omega)
              have hjt : ((j : Int) - 1).toNat = j - 1 := (by obtain ⟨⟨g1, g2, g3⟩, g4, g5⟩ := HHA.out; have g6 := HMF.out; omega)
              go_wp2_with fail
              refine (live_any W8).mono ?_
              rintro e W9 ⟨rfl, hb9⟩
              have HB9 := Lib.hid (HQ8.out.next hb9).bel
              clear hb9
              go_wp2
              go_ret
              exact ⟨rfl, HB9.out⟩
          · by_cases hj0 : j = 0
            · have HHA := Lib.hid (And.intro HAT.out (And.intro hjm hj0))
              clear hjm hj0
              have hdm : ((j : Int) == (m : Int)) = false := by obtain ⟨⟨g1, g2, g3⟩, g4, g5⟩ := HHA.out; have g6 := HMF.out; simp; omega
              have hdz : ((j : Int) == 0) = true := by obtain ⟨⟨g1, g2, g3⟩, g4, g5⟩ := HHA.out; have g6 := HMF.out; simp; omega
              obtain ⟨b3, o3, x3, e3, hb3, hx3, hc3⟩ := int_at HQ8.out.ends (show j < m from (by obtain ⟨⟨g1, g2, g3⟩, g4, g5⟩ := HHA.out; have g6 := HMF.out; omega))
              rw [ends_get (by obtain ⟨⟨g1, g2, g3⟩, g4, g5⟩ := HHA.out; have g6 := HMF.out; omega)] at hx3
              cases hx3
              subst e3
              have hdg : q < at_ f (j + 1) := (by obtain ⟨⟨g1, g2, g3⟩, g4, g5⟩ := HHA.out; have g6 := HMF.out; omega)
              have hji : (0 : Int) ≤ (j : Int) ∧ (j : Int) < (m : Int) := (by obtain ⟨⟨g1, g2, g3⟩, g4, g5⟩ := HHA.out; have g6 := HMF.out; omega)
              go_wp2_with fail
              refine (live_any W8).mono ?_
              rintro e W9 ⟨rfl, hb9⟩
              have HB9 := Lib.hid (HQ8.out.next hb9).bel
              clear hb9
              go_wp2
              go_ret
              exact ⟨rfl, HB9.out⟩
            · have HHA := Lib.hid (And.intro HAT.out (And.intro hjm hj0))
              clear hjm hj0
              have hdm : ((j : Int) == (m : Int)) = false := by obtain ⟨⟨g1, g2, g3⟩, g4, g5⟩ := HHA.out; have g6 := HMF.out; simp; omega
              have hdz : ((j : Int) == 0) = false := by obtain ⟨⟨g1, g2, g3⟩, g4, g5⟩ := HHA.out; have g6 := HMF.out; simp; omega
              obtain ⟨b3, o3, x3, e3, hb3, hx3, hc3⟩ := int_at HQ8.out.ends (show j < m from (by obtain ⟨⟨g1, g2, g3⟩, g4, g5⟩ := HHA.out; have g6 := HMF.out; omega))
              rw [ends_get (by obtain ⟨⟨g1, g2, g3⟩, g4, g5⟩ := HHA.out; have g6 := HMF.out; omega)] at hx3
              cases hx3
              subst e3
              have hdg : q < at_ f (j + 1) := (by obtain ⟨⟨g1, g2, g3⟩, g4, g5⟩ := HHA.out; have g6 := HMF.out; omega)
              have hji : (0 : Int) ≤ (j : Int) ∧ (j : Int) < (m : Int) := (by obtain ⟨⟨g1, g2, g3⟩, g4, g5⟩ := HHA.out; have g6 := HMF.out; omega)
              have hwj : wrap64 ((j : Int) - 1) = ((j - 1 : Nat) : Int) := by rw [show ((j : Int) - 1) = ((j - 1 : Nat) : Int) from (by obtain ⟨⟨g1, g2, g3⟩, g4, g5⟩ := HHA.out; have g6 := HMF.out; omega)]; exact IntWalk.wrap64_in _ (by obtain ⟨⟨g1, g2, g3⟩, g4, g5⟩ := HHA.out; have g6 := HMF.out; omega)
              obtain ⟨b5, o5, x5, e5, hb5, hx5, hc5⟩ := int_at HQ8.out.ends (show j - 1 < m from (by obtain ⟨⟨g1, g2, g3⟩, g4, g5⟩ := HHA.out; have g6 := HMF.out; omega))
              rw [ends_get (by obtain ⟨⟨g1, g2, g3⟩, g4, g5⟩ := HHA.out; have g6 := HMF.out; omega), show j - 1 + 1 = j from (by obtain ⟨⟨g1, g2, g3⟩, g4, g5⟩ := HHA.out; have g6 := HMF.out; omega)] at hx5
              cases hx5
              cases e5
              have hdl : at_ f j ≤ q := (by obtain ⟨⟨g1, g2, g3⟩, g4, g5⟩ := HHA.out; have g6 := HMF.out; omega)
              have hjj : (1 : Int) ≤ (j : Int) ∧ (j : Int) - 1 < (m : Int) := (by obtain ⟨⟨g1, g2, g3⟩, g4, g5⟩ := HHA.out; have g6 := HMF.out; omega)
              have hjt : ((j : Int) - 1).toNat = j - 1 := (by obtain ⟨⟨g1, g2, g3⟩, g4, g5⟩ := HHA.out; have g6 := HMF.out; omega)
              go_wp2_with fail
              refine (live_any W8).mono ?_
              rintro e W9 ⟨rfl, hb9⟩
              have HB9 := Lib.hid (HQ8.out.next hb9).bel
              clear hb9
              go_wp2
              go_ret
              exact ⟨rfl, HB9.out⟩
        · have hjm : ¬ j = m := fun h => hS (.inl h)
          have hcu : ¬ q < at_ f (j + 1) := fun h => hS (.inr h)
          have hjl : j < f.length := by rw [HMF.out.1]; omega
          clear hS
          obtain ⟨b3, o3, x, A, n, c, Ap, np, cp, e3, hb3, hx, hpe, hpb, hin, hcell⟩ := rec0_at HQ.out.kept HQ.out.bel (show j < m by omega)
          subst e3
          obtain ⟨kd, tx, pv, nx, l, ⟨pact, puk, ⟨pst, pk, ⟨pkd, pda, plo, phi, pva⟩⟩, pun⟩⟩ := x
          obtain ⟨⟨hpuk, hpk⟩, hui, hia, hun, hi4⟩ := hin
          dsimp only at hpe hpb hpuk hpk hui hia hun hi4
          have hF := (HFI.out _ (List.mem_of_getElem? hx)).1
          have hlen := at_next hx
          obtain ⟨post, hpost⟩ := got_whole hx (Nat.le_of_not_lt hcu)
          have hsm := fits_small hF
          rw [← HA.out] at hpost hlen
          obtain ⟨z, hz⟩ : ∃ z, (RecP.bytes ⟨kd, tx, pv, nx, l, ⟨pact, puk, ⟨pst, pk, ⟨pkd, pda, plo, phi, pva⟩⟩, pun⟩⟩).length = z := ⟨_, rfl⟩
          rw [hz] at hlen hsm
          have hy0 := HQ.out.all.bytes.cut a q c1 haq hq1 hqc (Nat.le_refl _)
          rw [hpost] at hy0
          have HY0 := Lib.hid hy0
          have HHA := Lib.hid (And.intro hcu (And.intro hlen (And.intro hsm.1 (And.intro hsm.2 (And.intro hjl haq)))))
          have HE := Lib.hid (hpe.more hwr2)
          have HP := Lib.hid (hpb.more hwr2)
          have HZ := Lib.hid hz
          have HF := Lib.hid hF
          have HPK := Lib.hid (And.intro hpk hpuk)
          have HUN := Lib.hid (And.intro hun hui)
          have HCL : Hid (∀ W, Below wr.heap.size wr W → Str15 W b3 (o3 + j * 15) #[.int .i64 kd, .int .i64 tx, .int .i64 pv, .int .i64 nx, .slice A n c, .int .i64 pact, .string puk, .int .i64 pst, .string pk, .int .i64 pkd, .slice Ap np cp, .int .i64 plo, .int .i64 phi, .int .i64 pva, .int .i64 pun]) := Lib.hid (fun W hW => str15_of rfl fun i v hi => by rw [← hcell i v hi]; exact hW.cell (p := ⟨b3, o3 + j * 15 + i, none⟩) hb3)
          clear hcu hlen hsm hjl haq hjm hat hx hpe hpb hcell hF hpost hz hy0 hpk hpuk hun hui hia hi4
          go_wp2_with fail
          refine (get_any kd tx pv nx l pact puk pst pk pkd pda plo phi pva pun post _ _ _ wr.heap.size wr HF.out HUN.out.1 HUN.out.2 HPK.out.1 HPK.out.2 HY0.out (Nat.le_refl _)).mono ?_
          rintro e W3 ⟨A9, c9, Ap9, np9, cp9, rfl, hE9, hy9, hb9⟩
          obtain ⟨R, hRl⟩ : ∃ R, l.length = R := ⟨_, rfl⟩
          rw [hRl] at hE9 ⊢
          rw [HZ.out]
          have HQ3 := Lib.hid (HQ.out.next hb9)
          have HBR := Lib.hid hb9
          have hw3 := HQ3.out.bel.size
          have HE9 := Lib.hid hE9
          have HY9 := Lib.hid hy9
          clear hE9 hy9 hb9 hRl
          obtain ⟨W4, hW4⟩ : ∃ W, W3.alloc (.cells #[.int .i64 0, .int .i64 0, .int .i64 0, .int .i64 0, .slice none 0 0, .int .i64 0, .string ⟨#[]⟩, .int .i64 0, .string ⟨#[]⟩, .int .i64 0, .slice none 0 0, .int .i64 0, .int .i64 0, .int .i64 0, .int .i64 0] 31) = W := ⟨_, rfl⟩
          obtain ⟨HS4, HB4, hw4, hz4⟩ := new1 hW4
          have hl4 := HS4.out.lt
          have g4 := str15 HS4.out
          have gf := fun j => HS4.out.frozen j
          obtain ⟨W8, hW8⟩ : ∃ W, (((((((((((((((W4).setCell ⟨W3.heap.size, 0, none⟩ (.int .i64 kd)).setCell ⟨W3.heap.size, 1, none⟩ (.int .i64 tx)).setCell ⟨W3.heap.size, 2, none⟩ (.int .i64 pv)).setCell ⟨W3.heap.size, 3, none⟩ (.int .i64 nx)).setCell ⟨W3.heap.size, 4, none⟩ (.slice A9 R c9)).setCell ⟨W3.heap.size, 5, none⟩ (.int .i64 pact)).setCell ⟨W3.heap.size, 6, none⟩ (.string puk)).setCell ⟨W3.heap.size, 7, none⟩ (.int .i64 pst)).setCell ⟨W3.heap.size, 8, none⟩ (.string pk)).setCell ⟨W3.heap.size, 9, none⟩ (.int .i64 pkd)).setCell ⟨W3.heap.size, 10, none⟩ (.slice Ap9 np9 cp9)).setCell ⟨W3.heap.size, 11, none⟩ (.int .i64 plo)).setCell ⟨W3.heap.size, 12, none⟩ (.int .i64 phi)).setCell ⟨W3.heap.size, 13, none⟩ (.int .i64 pva)).setCell ⟨W3.heap.size, 14, none⟩ (.int .i64 pun) = W := ⟨_, rfl⟩
          have hg8 : W4.grownBy W8 (some W3.heap.size) := by rw [← hW8]; exact grown_set (grown_set (grown_set (grown_set (grown_set (grown_set (grown_set (grown_set (grown_set (grown_set (grown_set (grown_set (grown_set (grown_set (grown_set (grown_refl W4 _) 0 _) 1 _) 2 _) 3 _) 4 _) 5 _) 6 _) 7 _) 8 _) 9 _) 10 _) 11 _) 12 _) 13 _) 14 _
          have hres : Str W8 W3.heap.size #[.int .i64 kd, .int .i64 tx, .int .i64 pv, .int .i64 nx, .slice A9 R c9, .int .i64 pact, .string puk, .int .i64 pst, .string pk, .int .i64 pkd, .slice Ap9 np9 cp9, .int .i64 plo, .int .i64 phi, .int .i64 pva, .int .i64 pun] := by
            have := (((((((((((((((HS4.out).set 0 (.int .i64 kd)).set 1 (.int .i64 tx)).set 2 (.int .i64 pv)).set 3 (.int .i64 nx)).set 4 (.slice A9 R c9)).set 5 (.int .i64 pact)).set 6 (.string puk)).set 7 (.int .i64 pst)).set 8 (.string pk)).set 9 (.int .i64 pkd)).set 10 (.slice Ap9 np9 cp9)).set 11 (.int .i64 plo)).set 12 (.int .i64 phi)).set 13 (.int .i64 pva)).set 14 (.int .i64 pun)
            rw [← hW8]; simpa using this
          have hb8 : Below W3.heap.size W3 W8 := below_grown HB4.out hg8 (Nat.le_refl _)
          have HQ8 := Lib.hid (HQ3.out.next hb8)
          have HBR8 := Lib.hid (bstep HBR.out hb8)
          have HE8 := Lib.hid (HE9.out.next hb8)
          have HY8 := Lib.hid (HY9.out.next hb8)
          have HR8 := Lib.hid hres
          have hw8 := hb8.size
          have hlz := hres.lt
          clear hg8 hres hb8 hz4 HE9 HY9
          go_wp2_with fail
          refine (code_any _ _).mono ?_
          rintro e w' ⟨rfl, rfl⟩
          clear g4 gf hl4 hW4 hW8 HS4 HB4
          obtain ⟨b5, o5, x5, e5, hb5, hx5, hc5⟩ := int_at HQ8.out.ends (show j < m from (by obtain ⟨g1, g2, g3, g4, g5, g6⟩ := HHA.out; have g7 := HMF.out; omega))
          rw [ends_get (by obtain ⟨g1, g2, g3, g4, g5, g6⟩ := HHA.out; have g7 := HMF.out; omega), HHA.out.2.1] at hx5
          cases hx5
          subst e5
          have HC5 := Lib.hid hc5
          clear hc5
          have hjm : j < m := (by obtain ⟨g1, g2, g3, g4, g5, g6⟩ := HHA.out; have g7 := HMF.out; omega)
          have hwr8 := HQ8.out.bel.size
          have hbr8 := HBR8.out.size
          have haz : (a : Int) + (z : Int) ≤ 9223372036854775807 := (by obtain ⟨g1, g2, g3, g4, g5, g6⟩ := HHA.out; have g7 := HMF.out; omega)
          go_wp2_with fail
          refine Reg.wp_region_vals (R := ext) (W := W8) [Reg.eqv (.int .i64 (j : Int)), Reg.eqv (.slice (some ⟨b3, o3, none⟩) m c3), Reg.eqv (.int .i64 (m : Int)), Reg.eqv (.bool false), Reg.eqv (.bool false), Reg.eqv (.int .i64 (z : Int)), Reg.eqv (.bool false), Reg.eqv (.bool false), Reg.eqv (.bool false), Reg.eqv (.int .i64 (z : Int)), Reg.eqv (.int .i64 (q : Int)), Reg.eqv (.int .i64 (a : Int)), Reg.eqv (.int .i64 ((q : Int) - (a : Int))), Reg.eqv (.bool false), Reg.eqv (.bool false), Reg.eqv (.bool false), Reg.eqv (.agg #[.int .i64 kd, .int .i64 tx, .int .i64 pv, .int .i64 nx, .slice A9 R c9, .int .i64 pact, .string puk, .int .i64 pst, .string pk, .int .i64 pkd, .slice Ap9 np9 cp9, .int .i64 plo, .int .i64 phi, .int .i64 pva, .int .i64 pun]), Reg.eqv (.slice (some ⟨b3, o3, none⟩) m c3), Reg.eqv (.int .i64 (j : Int)), Reg.eqv (.pointer (some ⟨b3, o3 + j * 15, none⟩)), Reg.eqv (.agg #[.int .i64 kd, .int .i64 tx, .int .i64 pv, .int .i64 nx, .slice A n c, .int .i64 pact, .string puk, .int .i64 pst, .string pk, .int .i64 pkd, .slice Ap np cp, .int .i64 plo, .int .i64 phi, .int .i64 pva, .int .i64 pun]), Reg.eqv (.bool true), Reg.eqv (.bool false), Reg.eqv (.bool false), Reg.eqv (.bool false), Reg.eqv (.int .i64 (a : Int)), Reg.eqv (.int .i64 (z : Int)), Reg.eqv (.int .i64 ((a : Int) + (z : Int))), Reg.eqv (.slice (some ⟨b5, o5, none⟩) m c2), Reg.eqv (.int .i64 (j : Int)), Reg.eqv (.pointer (some ⟨b5, o5 + j, none⟩)), Reg.eqv (.int .i64 ((a + z : Nat) : Int)), Reg.eqv (.bool false), Reg.eqv (.bool false)] 152 [[(11, none)], [(7, none)], [(114, some 1)], [(113, some 0), (115, some 2)], [(116, some 3)], [(13, none), (117, some 4)], [(118, some 5), (117, some 4)], [(117, some 4), (119, some 6)], [(120, some 7)], [(13, none), (121, some 8)], [(1, none), (121, some 8)], [(10, none), (121, some 8)], [(123, some 10), (124, some 11), (121, some 8)], [(122, some 9), (125, some 12), (121, some 8)], [(121, some 8), (126, some 13)], [(127, some 14)], [(12, none), (128, some 15)], [(7, none), (128, some 15)], [(11, none), (128, some 15)], [(130, some 17), (131, some 18), (128, some 15)], [(132, some 19), (128, some 15)], [(129, some 16), (133, some 20), (128, some 15)], [(134, some 21), (128, some 15)], [(128, some 15), (135, some 22)], [(136, some 23)], [(10, none), (137, some 24)], [(13, none), (137, some 24)], [(138, some 25), (139, some 26), (137, some 24)], [(6, none), (137, some 24)], [(11, none), (137, some 24)], [(141, some 28), (142, some 29), (137, some 24)], [(143, some 30), (137, some 24)], [(140, some 27), (144, some 31), (137, some 24)], [(137, some 24), (145, some 32)]] rfl (by kernel_rfl) (by kernel_rfl) (by kernel_rfl) ?_ [some 113, some 114, some 115, some 116, some 117, some 118, some 119, some 120, some 121, some 122, some 123, some 124, some 125, some 126, some 127, some 128, some 129, some 130, some 131, some 132, some 133, some 134, some 135, some 136, some 137, some 138, some 139, some 140, some 141, some 142, some 143, some 144, some 145, some 146] (by kernel_rfl) ?_
          · refine ⟨?_, ?_, ?_, ?_, ?_, ?_, ?_, ?_, ?_, ?_, ?_, ?_, ?_, ?_, ?_, ?_, ?_, ?_, ?_, ?_, ?_, ?_, ?_, ?_, ?_, ?_, ?_, ?_, ?_, ?_, ?_, ?_, ?_, ?_, trivial⟩
            · intro ax wx hx hs
              obtain ⟨e11, -⟩ := hs
              have g11 := Reg.ev (v := .int .i64 (j : Int)) e11
              exact Reg.obl_free rfl (Reg.wp_eqv (Option.some_ne_none _) (by go_simp) rfl)
            · intro ax wx hx hs
              obtain ⟨e7, -⟩ := hs
              have g7 := Reg.ev (v := .slice (some ⟨b3, o3, none⟩) m c3) e7
              exact Reg.obl_free rfl (Reg.wp_eqv (Option.some_ne_none _) (by go_simp) rfl)
            · intro ax wx hx hs
              obtain ⟨e114, -⟩ := hs
              have g114 := Reg.ev (v := .slice (some ⟨b3, o3, none⟩) m c3) e114
              exact Reg.obl_free rfl (Reg.wp_eqv (Option.some_ne_none _) (by go_simp) rfl)
            · intro ax wx hx hs
              obtain ⟨e113, e115, -⟩ := hs
              have g113 := Reg.ev (v := .int .i64 (j : Int)) e113
              have g115 := Reg.ev (v := .int .i64 (m : Int)) e115
              refine Reg.obl_free rfl ?_
              have hv : ¬ m ≤ j := (by obtain ⟨g1, g2, g3, g4, g5, g6⟩ := HHA.out; have g7 := HMF.out; omega)
              exact Reg.wp_eqv (Option.some_ne_none _) (by go_simp) rfl
            · intro ax wx hx hs
              obtain ⟨e116, -⟩ := hs
              have g116 := Reg.ev (v := .bool false) e116
              exact Reg.obl_free rfl (Reg.wp_eqv (Option.some_ne_none _) (by go_simp) rfl)
            · intro ax wx hx hs
              obtain ⟨e13, e117, -⟩ := hs
              have g13 := Reg.ev (v := .int .i64 (z : Int)) e13
              have g117 := Reg.ev (v := .bool false) e117
              exact Reg.obl_want rfl rfl e117 (Reg.wp_eqv (Option.some_ne_none _) (by go_simp) rfl)
            · intro ax wx hx hs
              obtain ⟨e118, e117, -⟩ := hs
              have g118 := Reg.ev (v := .int .i64 (z : Int)) e118
              have g117 := Reg.ev (v := .bool false) e117
              refine Reg.obl_want rfl rfl e117 ?_
              have hv : (1 : Int) ≤ (z : Int) := (by obtain ⟨g1, g2, g3, g4, g5, g6⟩ := HHA.out; have g7 := HMF.out; omega)
              exact Reg.wp_eqv (Option.some_ne_none _) (by go_simp) rfl
            · intro ax wx hx hs
              obtain ⟨e117, e119, -⟩ := hs
              have g117 := Reg.ev (v := .bool false) e117
              have g119 := Reg.ev (v := .bool false) e119
              exact Reg.obl_free rfl (Reg.wp_eqv (Option.some_ne_none _) (by go_simp) rfl)
            · intro ax wx hx hs
              obtain ⟨e120, -⟩ := hs
              have g120 := Reg.ev (v := .bool false) e120
              exact Reg.obl_free rfl (Reg.wp_eqv (Option.some_ne_none _) (by go_simp) rfl)
            · intro ax wx hx hs
              obtain ⟨e13, e121, -⟩ := hs
              have g13 := Reg.ev (v := .int .i64 (z : Int)) e13
              have g121 := Reg.ev (v := .bool false) e121
              exact Reg.obl_want rfl rfl e121 (Reg.wp_eqv (Option.some_ne_none _) (by go_simp) rfl)
            · intro ax wx hx hs
              obtain ⟨e1, e121, -⟩ := hs
              have g1 := Reg.ev (v := .int .i64 (q : Int)) e1
              have g121 := Reg.ev (v := .bool false) e121
              exact Reg.obl_want rfl rfl e121 (Reg.wp_eqv (Option.some_ne_none _) (by go_simp) rfl)
            · intro ax wx hx hs
              obtain ⟨e10, e121, -⟩ := hs
              have g10 := Reg.ev (v := .int .i64 (a : Int)) e10
              have g121 := Reg.ev (v := .bool false) e121
              exact Reg.obl_want rfl rfl e121 (Reg.wp_eqv (Option.some_ne_none _) (by go_simp) rfl)
            · intro ax wx hx hs
              obtain ⟨e123, e124, e121, -⟩ := hs
              have g123 := Reg.ev (v := .int .i64 (q : Int)) e123
              have g124 := Reg.ev (v := .int .i64 (a : Int)) e124
              have g121 := Reg.ev (v := .bool false) e121
              refine Reg.obl_want rfl rfl e121 ?_
              exact Reg.wp_eqv (Option.some_ne_none _) (by go_simp; exact IntWalk.i64_in _ (by omega)) rfl
            · intro ax wx hx hs
              obtain ⟨e122, e125, e121, -⟩ := hs
              have g122 := Reg.ev (v := .int .i64 (z : Int)) e122
              have g125 := Reg.ev (v := .int .i64 ((q : Int) - (a : Int))) e125
              have g121 := Reg.ev (v := .bool false) e121
              refine Reg.obl_want rfl rfl e121 ?_
              have hv : ¬ (q : Int) - (a : Int) < (z : Int) := (by obtain ⟨g1, g2, g3, g4, g5, g6⟩ := HHA.out; have g7 := HMF.out; omega)
              exact Reg.wp_eqv (Option.some_ne_none _) (by go_simp) rfl
            · intro ax wx hx hs
              obtain ⟨e121, e126, -⟩ := hs
              have g121 := Reg.ev (v := .bool false) e121
              have g126 := Reg.ev (v := .bool false) e126
              exact Reg.obl_free rfl (Reg.wp_eqv (Option.some_ne_none _) (by go_simp) rfl)
            · intro ax wx hx hs
              obtain ⟨e127, -⟩ := hs
              have g127 := Reg.ev (v := .bool false) e127
              exact Reg.obl_free rfl (Reg.wp_eqv (Option.some_ne_none _) (by go_simp) rfl)
            · intro ax wx hx hs
              obtain ⟨e12, e128, -⟩ := hs
              have g12 := Reg.ev (v := .pointer (some ⟨W3.heap.size, 0, none⟩)) e12
              have g128 := Reg.ev (v := .bool false) e128
              have hx' : Below W8.heap.size W8 wx := hx
              have l0 := str15 (HR8.out.next hx')
              have q := HCL.out wx (bstep HBR8.out hx')
              unfold Str15 at q
              have hc5 := (hx'.cell (p := ⟨b5, o5 + j, none⟩) hb5).trans HC5.out
              exact Reg.obl_want rfl rfl e128 (Reg.wp_eqv (Option.some_ne_none _) (by go_simp) rfl)
            · intro ax wx hx hs
              obtain ⟨e7, e128, -⟩ := hs
              have g7 := Reg.ev (v := .slice (some ⟨b3, o3, none⟩) m c3) e7
              have g128 := Reg.ev (v := .bool false) e128
              exact Reg.obl_want rfl rfl e128 (Reg.wp_eqv (Option.some_ne_none _) (by go_simp) rfl)
            · intro ax wx hx hs
              obtain ⟨e11, e128, -⟩ := hs
              have g11 := Reg.ev (v := .int .i64 (j : Int)) e11
              have g128 := Reg.ev (v := .bool false) e128
              exact Reg.obl_want rfl rfl e128 (Reg.wp_eqv (Option.some_ne_none _) (by go_simp) rfl)
            · intro ax wx hx hs
              obtain ⟨e130, e131, e128, -⟩ := hs
              have g130 := Reg.ev (v := .slice (some ⟨b3, o3, none⟩) m c3) e130
              have g131 := Reg.ev (v := .int .i64 (j : Int)) e131
              have g128 := Reg.ev (v := .bool false) e128
              refine Reg.obl_want rfl rfl e128 ?_
              exact Reg.wp_eqv (Option.some_ne_none _) (by go_simp; first | done | (intro hq; omega)) rfl
            · intro ax wx hx hs
              obtain ⟨e132, e128, -⟩ := hs
              have g132 := Reg.ev (v := .pointer (some ⟨b3, o3 + j * 15, none⟩)) e132
              have g128 := Reg.ev (v := .bool false) e128
              have hx' : Below W8.heap.size W8 wx := hx
              have l0 := str15 (HR8.out.next hx')
              have q := HCL.out wx (bstep HBR8.out hx')
              unfold Str15 at q
              have hc5 := (hx'.cell (p := ⟨b5, o5 + j, none⟩) hb5).trans HC5.out
              exact Reg.obl_want rfl rfl e128 (Reg.wp_eqv (Option.some_ne_none _) (by go_simp) rfl)
            · intro ax wx hx hs
              obtain ⟨e129, e133, e128, -⟩ := hs
              have g129 := Reg.ev (v := .agg #[.int .i64 kd, .int .i64 tx, .int .i64 pv, .int .i64 nx, .slice A9 R c9, .int .i64 pact, .string puk, .int .i64 pst, .string pk, .int .i64 pkd, .slice Ap9 np9 cp9, .int .i64 plo, .int .i64 phi, .int .i64 pva, .int .i64 pun]) e129
              have g133 := Reg.ev (v := .agg #[.int .i64 kd, .int .i64 tx, .int .i64 pv, .int .i64 nx, .slice A n c, .int .i64 pact, .string puk, .int .i64 pst, .string pk, .int .i64 pkd, .slice Ap np cp, .int .i64 plo, .int .i64 phi, .int .i64 pva, .int .i64 pun]) e133
              have g128 := Reg.ev (v := .bool false) e128
              refine Reg.obl_want rfl rfl e128 ?_
              have hx' : Below W8.heap.size W8 wx := hx
              go_simp
              have hs8 := hx'.size
              refine (RefRec.same_any kd tx pv nx A9 R c9 W8.heap.size l pact puk Ap9 np9 cp9 W8.heap.size pst pk pkd pda plo phi pva pun kd tx pv nx A n c wr.heap.size l pact puk Ap np cp wr.heap.size pst pk pkd pda plo phi pva pun wx (HE8.out.below hx') hs8 (HY8.out.below hx') hs8 HPK.out.1 HPK.out.2 (HE.out.below (bstep HBR8.out hx')) (by omega) (HP.out.below (bstep HBR8.out hx')) (by omega) HPK.out.1 HPK.out.2).mono ?_
              rintro e wy ⟨rfl, hby⟩
              rw [RecP.same_me]
              exact Reg.done (Option.some_ne_none _) rfl hby
            · intro ax wx hx hs
              obtain ⟨e134, e128, -⟩ := hs
              have g134 := Reg.ev (v := .bool true) e134
              have g128 := Reg.ev (v := .bool false) e128
              exact Reg.obl_want rfl rfl e128 (Reg.wp_eqv (Option.some_ne_none _) (by go_simp) rfl)
            · intro ax wx hx hs
              obtain ⟨e128, e135, -⟩ := hs
              have g128 := Reg.ev (v := .bool false) e128
              have g135 := Reg.ev (v := .bool false) e135
              exact Reg.obl_free rfl (Reg.wp_eqv (Option.some_ne_none _) (by go_simp) rfl)
            · intro ax wx hx hs
              obtain ⟨e136, -⟩ := hs
              have g136 := Reg.ev (v := .bool false) e136
              exact Reg.obl_free rfl (Reg.wp_eqv (Option.some_ne_none _) (by go_simp) rfl)
            · intro ax wx hx hs
              obtain ⟨e10, e137, -⟩ := hs
              have g10 := Reg.ev (v := .int .i64 (a : Int)) e10
              have g137 := Reg.ev (v := .bool false) e137
              exact Reg.obl_want rfl rfl e137 (Reg.wp_eqv (Option.some_ne_none _) (by go_simp) rfl)
            · intro ax wx hx hs
              obtain ⟨e13, e137, -⟩ := hs
              have g13 := Reg.ev (v := .int .i64 (z : Int)) e13
              have g137 := Reg.ev (v := .bool false) e137
              exact Reg.obl_want rfl rfl e137 (Reg.wp_eqv (Option.some_ne_none _) (by go_simp) rfl)
            · intro ax wx hx hs
              obtain ⟨e138, e139, e137, -⟩ := hs
              have g138 := Reg.ev (v := .int .i64 (a : Int)) e138
              have g139 := Reg.ev (v := .int .i64 (z : Int)) e139
              have g137 := Reg.ev (v := .bool false) e137
              refine Reg.obl_want rfl rfl e137 ?_
              exact Reg.wp_eqv (Option.some_ne_none _) (by go_simp; exact IntWalk.i64_in _ (by omega)) rfl
            · intro ax wx hx hs
              obtain ⟨e6, e137, -⟩ := hs
              have g6 := Reg.ev (v := .slice (some ⟨b5, o5, none⟩) m c2) e6
              have g137 := Reg.ev (v := .bool false) e137
              exact Reg.obl_want rfl rfl e137 (Reg.wp_eqv (Option.some_ne_none _) (by go_simp) rfl)
            · intro ax wx hx hs
              obtain ⟨e11, e137, -⟩ := hs
              have g11 := Reg.ev (v := .int .i64 (j : Int)) e11
              have g137 := Reg.ev (v := .bool false) e137
              exact Reg.obl_want rfl rfl e137 (Reg.wp_eqv (Option.some_ne_none _) (by go_simp) rfl)
            · intro ax wx hx hs
              obtain ⟨e141, e142, e137, -⟩ := hs
              have g141 := Reg.ev (v := .slice (some ⟨b5, o5, none⟩) m c2) e141
              have g142 := Reg.ev (v := .int .i64 (j : Int)) e142
              have g137 := Reg.ev (v := .bool false) e137
              refine Reg.obl_want rfl rfl e137 ?_
              exact Reg.wp_eqv (Option.some_ne_none _) (by go_simp; first | done | (intro hq; omega)) rfl
            · intro ax wx hx hs
              obtain ⟨e143, e137, -⟩ := hs
              have g143 := Reg.ev (v := .pointer (some ⟨b5, o5 + j, none⟩)) e143
              have g137 := Reg.ev (v := .bool false) e137
              have hx' : Below W8.heap.size W8 wx := hx
              have l0 := str15 (HR8.out.next hx')
              have q := HCL.out wx (bstep HBR8.out hx')
              unfold Str15 at q
              have hc5 := (hx'.cell (p := ⟨b5, o5 + j, none⟩) hb5).trans HC5.out
              exact Reg.obl_want rfl rfl e137 (Reg.wp_eqv (Option.some_ne_none _) (by go_simp) rfl)
            · intro ax wx hx hs
              obtain ⟨e140, e144, e137, -⟩ := hs
              have g140 := Reg.ev (v := .int .i64 ((a : Int) + (z : Int))) e140
              have g144 := Reg.ev (v := .int .i64 ((a + z : Nat) : Int)) e144
              have g137 := Reg.ev (v := .bool false) e137
              exact Reg.obl_want rfl rfl e137 (Reg.wp_eqv (Option.some_ne_none _) (by go_simp) rfl)
            · intro ax wx hx hs
              obtain ⟨e137, e145, -⟩ := hs
              have g137 := Reg.ev (v := .bool false) e137
              have g145 := Reg.ev (v := .bool false) e145
              exact Reg.obl_free rfl (Reg.wp_eqv (Option.some_ne_none _) (by go_simp) rfl)
          · intro W9 hwf
            simp only [Reg.Fin]
            rintro _ rfl _ rfl _ rfl _ rfl _ rfl _ rfl _ rfl _ rfl _ rfl _ rfl _ rfl _ rfl _ rfl _ rfl _ rfl _ rfl _ rfl _ rfl _ rfl _ rfl _ rfl _ rfl _ rfl _ rfl _ rfl _ rfl _ rfl _ rfl _ rfl _ rfl _ rfl _ rfl _ rfl _ rfl
            go_simp
            have hwf' : Below W8.heap.size W8 W9 := hwf
            have HQ9 := Lib.hid (HQ8.out.next hwf')
            clear hwf hwf'
            go_wp2
            go_roundw
            case rel => exact ⟨j + 1, a + z, by omega, (by obtain ⟨g1, g2, g3, g4, g5, g6⟩ := HHA.out; have g7 := HMF.out; omega), by go_num, by go_num, Lib.hid HHA.out.2.1.symm, HQ9⟩
            case measure => simp [intOf]; omega
theorem walk (v0 v1 : Value) (a0 : List RecX) (a1 : Int) (w : World) (g0 : RRecs w w.heap.size v0 a0) (g1 : RInt w v1 a1) :
    Calls Try.prog 4 #[v0, v1] w fun e w' => e = .returned (.bool true) ∧ Below w.heap.size w w' := by
  obtain ⟨A, n, c, rfl, hE⟩ := g0
  obtain ⟨rfl, h1, h2⟩ := g1
  exact go A n c a0 a1 ⟨h1, h2⟩ w hE
end recRows
end Go.Proofs.Ytiokcemlfdonnaa
end
