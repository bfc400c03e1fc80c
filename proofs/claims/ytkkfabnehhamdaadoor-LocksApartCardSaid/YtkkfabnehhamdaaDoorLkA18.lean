/-
  Parts of the proof of LocksApart.
-/
import Derived.Test.YtkkfabnehhamdaaDoorLkA16
import Derived.Test.YtkkfabnehhamdaaDoorLkA17
import Derived.Test.YtkkfabnehhamdaaDoorLkA0
section
namespace Go.Proofs.YtkkfabnehhamdaaDoor.Law13
open Go.RowKit Go.Maps LockP ModesP LockW
set_option linter.unusedVariables false
set_option linter.unusedSimpArgs false
section
variable {w0 w w' : World} {t M : Nat} {X : St}
theorem waits_ls (h : LS w0 t M X w) {u : Int} (hu : In64 u) : Calls Tryd.prog 10 #[.pointer (some ⟨t, 0, none⟩), .int .i64 u] w fun e w' => e = .returned (.tuple #[.string ((MapP.get X.goal u).getD (⟨#[]⟩, 0)).1, .int .i64 ((MapP.get X.goal u).getD (⟨#[]⟩, 0)).2, .bool (MapP.has X.goal u)]) ∧ Below w.heap.size w w' := by
  obtain ⟨N, bs, h1, h2, h3⟩ := h.lk
  exact waits_any t N bs X u w h1 hu
theorem blocks_ls (h : LS w0 t M X w) (hT : Modes.Tab w0) {u : Int} (hu : In64 u) (hM : M + 8 ≤ 1000000) : Calls Tryd.prog 11 #[.pointer (some ⟨t, 0, none⟩), .int .i64 u] w fun e w' => ∃ A n c, e = .returned (.slice A n c) ∧ Elems IntE w' w'.heap.size A n c (blocksP X u) ∧ Below w.heap.size w w' := by
  obtain ⟨N, bs, h1, h2, h3⟩ := h.lk
  refine (blocks_any t N bs X u w h1 h.good h.fit (h.tab hT) hu (by omega)).mono ?_
  rintro e w' ⟨A, n, c, rfl, hO, hb⟩
  exact ⟨A, n, c, rfl, hO.elems, hb⟩
theorem holds_ls (h : LS w0 t M X w) {u : Int} {k : ByteArray} (hu : In64 u) (hk : k.size ≤ 100) : Calls Tryd.prog 13 #[.pointer (some ⟨t, 0, none⟩), .int .i64 u, .string k] w fun e w' => e = .returned (.int .i64 (LockP.set X k u)) ∧ w = w' := by
  obtain ⟨N, bs, h1, h2, h3⟩ := h.lk
  exact holds_any t N bs X u k w h1 hu hk
end
theorem wrap64_in' {x : Int} (h1 : -9223372036854775808 ≤ x) (h2 : x ≤ 9223372036854775807) : wrap64 x = x := by
  unfold wrap64
  omega
theorem tmod8 {z : Int} (h : 0 ≤ z) : 0 ≤ wrap64 (z.tmod 8) ∧ wrap64 (z.tmod 8) < 8 := by
  rw [Int.tmod_eq_emod_of_nonneg h]
  have h1 := Int.emod_nonneg z (show (8 : Int) ≠ 0 by omega)
  have h2 := Int.emod_lt_of_pos z (show (0 : Int) < 8 by omega)
  rw [wrap64_in' (by omega) (by omega)]
  exact ⟨h1, h2⟩
theorem wrapU (x : Int) : 0 ≤ IntKind.u64.wrap x := by
  have h : IntKind.u64.wrap x = x % 18446744073709551616 := by rfl
  rw [h]
  exact Int.emod_nonneg x (by omega)
end Go.Proofs.YtkkfabnehhamdaaDoor.Law13
end
section
namespace Go.Proofs.YtkkfabnehhamdaaDoor.locksApart
open Go.RowKit Go.Maps LockP ModesP LockW Law13
set_option linter.unusedVariables false
set_option linter.unusedSimpArgs false
set_option maxRecDepth 100000 in
set_option maxHeartbeats 8000000 in
theorem walk (v0 v1 : Value) (a0 : List StepL) (a1 : ByteArray) (w : World) (g0 : RStepsL w w.heap.size v0 a0) (g1 : RStr w v1 a1) (hT : Modes.Tab w) (hG : 0 < w.heap.size) :
    Calls Tryd.prog 3 #[v0, v1] w fun e w' => e = .returned (.bool true) ∧ Below w.heap.size w w' := by
  obtain ⟨A0, n0, c0, rfl, hE0⟩ := g0
  obtain ⟨rfl, hsz⟩ := g1
  have HE0 := Lib.hid hE0
  have HT := Lib.hid hT
  have hl0 := hE0.len
  have hb0 := Nat.le_trans hE0.cap.1 hE0.cap.2
  unfold maxLen at hb0 hsz
  have hgr := great_any A0 n0 c0 a0 w hE0
  clear hE0 hT hG
  go_enter Tryd.func3, Tryd.ntmps3
  go_wp2_with fail
  refine hgr.mono ?_
  rintro e w' ⟨r, rfl, hr, rfl⟩
  clear hgr
  cases r with
  | true =>
    go_wp2_with fail
    refine (live_any w HT.out).mono ?_
    rintro e w' ⟨rfl, hb⟩
    go_wp2
    go_ret
    exact ⟨rfl, hb⟩
  | false =>
    obtain ⟨hn0, hk0⟩ := hr rfl
    have HK0 := Lib.hid hk0
    clear hr hk0
    by_cases h60 : 100 < a1.size
    · have hd1 : decide ((100 : Int) < (a1.size : Int)) = true := by simp; omega
      go_wp2_with fail
      refine (live_any w HT.out).mono ?_
      rintro e w' ⟨rfl, hb⟩
      go_wp2
      go_ret
      exact ⟨rfl, hb⟩
    · have hd1 : decide ((100 : Int) < (a1.size : Int)) = false := by simp; omega
      have HKZ : Hid (a1.size ≤ 100) := Lib.hid (by omega)
      go_wp2_with fail
      refine (new_ls w).mono ?_
      rintro e W1 ⟨t, rfl, hL1⟩
      have HL1 := Lib.hid hL1
      clear hL1
      go_wp2_with fail
      go_loopw [6] (fun iv wr => ∃ i : Nat, i ≤ n0 ∧ iv = .int .i64 (i : Int) ∧ Hid (∃ X, LS w t (12 * i) X wr)) (fun iv _ => n0 - (intOf iv).toNat)
      case atStart => exact ⟨0, Nat.zero_le _, rfl, Lib.hid ⟨_, HL1.out⟩⟩
      case round =>
        clear HL1
        obtain ⟨i, hi, rfl, HX⟩ := hrel
        obtain ⟨X, hX⟩ := HX.out
        have HLX := Lib.hid hX
        clear hX HX
        by_cases hlt : i < n0
        · have hd2 : decide ((i : Int) < (n0 : Int)) = true := by simpa using hlt
          have k1 : ¬ (i : Int) < 0 := by omega
          obtain ⟨b, o, x, rfl, hb, hx, hin, q0, q1, q2, q3⟩ := stepL_at HE0.out hlt
          have HIN := Lib.hid hin
          have HKX := Lib.hid (HK0.out x (List.mem_of_getElem? hx))
          have hbl := HLX.out.bl
          replace q0 := (hbl.cell (p := ⟨b, o + i * 4, none⟩) hb).trans q0
          replace q1 := (hbl.cell (p := ⟨b, o + i * 4 + 1, none⟩) hb).trans q1
          replace q2 := (hbl.cell (p := ⟨b, o + i * 4 + 2, none⟩) hb).trans q2
          replace q3 := (hbl.cell (p := ⟨b, o + i * 4 + 3, none⟩) hb).trans q3
          obtain ⟨W2, hW2⟩ : ∃ W, wr.alloc (.cells #[.int .i64 x.act, .int .i64 x.txn, .string x.key, .int .i64 x.mode] 30) = W := ⟨_, rfl⟩
          have hb2 : Below wr.heap.size wr W2 := by rw [← hW2]; exact balloc (bsame _) _
          have hs2 : Str W2 wr.heap.size #[.int .i64 x.act, .int .i64 x.txn, .string x.key, .int .i64 x.mode] := by rw [← hW2]; exact Str.new _ _ _
          have HB2 := Lib.hid hb2
          have f2 := str4 hs2
          have gf2 := fun j => hs2.frozen j
          have gl2 := hs2.lt
          clear hbl hx hin hb2 hs2
          go_wp2_with fail
          obtain ⟨u0, u1⟩ := tmod8 (wrapU x.txn)
          generalize wrap64 ((IntKind.u64.wrap x.txn).tmod 8) = u at *
          have hb3 : Below wr.heap.size wr (W2.setCell ⟨wr.heap.size, 1, none⟩ (.int .i64 u)) := HB2.out.setCell (p := ⟨wr.heap.size, 1, none⟩) (Nat.le_refl _) _
          refine (do_any ⟨x.act, u, x.key, x.mode⟩ (HLX.out.next hb3) HT.out ⟨HIN.out.1, show In64 u from ⟨by omega, by omega⟩, HIN.out.2.2.1, HIN.out.2.2.2⟩ HKX.out (by omega)).mono ?_
          rintro e W4 ⟨A4, n4, c4, rfl, -, hL4⟩
          dsimp only at hL4
          generalize (stepP lI lS X x.act u x.key x.mode).1 = Y at hL4
          have HL4 : Hid (LS w t (12 * (i + 1)) Y W4) := Lib.hid (hL4.mono (by omega))
          have hi6 : i + 1 ≤ 60 := by omega
          clear hL4 hb3 f2 gf2 gl2 q0 q1 q2 q3 HLX HIN HKX HB2
          go_wp2_with fail
          go_loopw [8] (fun av wr => ∃ a : Nat, a ≤ 8 ∧ av = .int .i64 (a : Int) ∧ Hid (LS w t (12 * (i + 1)) Y wr)) (fun av _ => 8 - (intOf av).toNat)
          case atStart => exact ⟨0, by omega, rfl, HL4⟩
          case round =>
            clear HL4
            obtain ⟨a, ha, rfl, HL⟩ := hrel
            by_cases hla : a < 8
            · have hd3 : decide ((a : Int) < 8) = true := by simp; omega
              have hia : In64 (a : Int) := ⟨by omega, by omega⟩
              go_wp2_with fail
              refine (waits_ls HL.out hia).mono ?_
              rintro e W5 ⟨rfl, hb5⟩
              have HL5 := Lib.hid (HL.out.next hb5)
              clear hb5 HL
              generalize (MapP.get Y.goal (a : Int)).getD (⟨#[]⟩, 0) = g at *
              have hbp := blocks_pos HL5.out.good (a : Int)
              generalize MapP.has Y.goal (a : Int) = hw at *
              go_wp2_with fail
              refine (blocks_ls HL5.out HT.out hia (by omega)).mono ?_
              rintro e W6 ⟨A6, n6, c6, rfl, hE6, hb6⟩
              rw [hE6.len] at hbp
              have HL6 := Lib.hid (HL5.out.next hb6)
              have hd4 : decide ((0 : Int) < (n6 : Int)) = hw := by
                cases hw with
                | true => have := hbp.2 rfl; simp; omega
                | false =>
                  have : ¬ 0 < n6 := fun h => by have := hbp.1 h; cases this
                  simp; omega
              have hd5 : (hw != hw) = false := by simp
              have hd6 : decide (0 < n6) = hw := by rw [← hd4]; simp
              clear hE6 hb6 hbp HL5
              go_wp2_with fail
              clear hd4 hd5 hd6
              go_loopw [12] (fun bv wr => ∃ b : Nat, b ≤ 8 ∧ bv = .int .i64 (b : Int) ∧ Hid (LS w t (12 * (i + 1)) Y wr)) (fun bv _ => 8 - (intOf bv).toNat)
              case atStart => exact ⟨0, by omega, rfl, HL6⟩
              case round =>
                clear HL6
                obtain ⟨b2, hb2, rfl, HL⟩ := hrel
                by_cases hlb : b2 < 8
                · have hd4 : decide ((b2 : Int) < 8) = true := by simp; omega
                  have hib : In64 (b2 : Int) := ⟨by omega, by omega⟩
                  go_wp2_with fail
                  go_loopw [13] (fun mv wr => ∃ m : Nat, m ≤ 4 ∧ mv = .int .i64 (m : Int) ∧ Hid (LS w t (12 * (i + 1)) Y wr)) (fun mv _ => 4 - (intOf mv).toNat)
                  case atStart => exact ⟨0, by omega, rfl, HL⟩
                  case round =>
                    clear HL
                    obtain ⟨m, hm, rfl, HL⟩ := hrel
                    by_cases hlm : m < 4
                    · have hd5 : decide ((m : Int) < 4) = true := by simp; omega
                      by_cases hab : (a : Int) = (b2 : Int)
                      · have hd6 : ((a : Int) != (b2 : Int)) = false := by simpa using hab
                        have hd7 : (a != b2) = false := by simp; omega
                        go_wp2_with fail
                        go_roundw
                        case rel => exact ⟨m + 1, by omega, by go_num, HL⟩
                        case measure => simp [intOf]; omega
                      · have hd6 : ((a : Int) != (b2 : Int)) = true := by simpa using hab
                        have hd7 : (a != b2) = true := by simp; omega
                        obtain ⟨p0, p1⟩ := HL.out.good.1.toOk0.set_bd (k := a1) (t := (b2 : Int))
                        obtain ⟨p2, p3⟩ := HL.out.good.1.toOk0.set_bd (k := a1) (t := (a : Int))
                        have HAP : Hid (hasM (LockP.set Y a1 (b2 : Int)) (m : Int) = true → fitsM (LockP.set Y a1 (a : Int)) (m : Int) = true) := Lib.hid (fun h => apart HL.out.good hab (by omega) (by omega) h)
                        have HTW := Lib.hid (HL.out.tab HT.out)
                        go_wp2_with fail
                        refine (holds_ls HL.out hib HKZ.out).mono ?_
                        rintro e wy ⟨rfl, rfl⟩
                        go_wp2_with fail
                        refine (Modes.has_any _ (m : Int) wr p0 p1 (by omega) (by omega)).mono ?_
                        rintro e wy ⟨rfl, rfl⟩
                        cases hh : hasM (LockP.set Y a1 (b2 : Int)) (m : Int) with
                        | false =>
                          go_wp2_with fail
                          go_roundw
                          case rel => exact ⟨m + 1, by omega, by go_num, HL⟩
                          case measure => simp [intOf]; omega
                        | true =>
                          have hft := HAP.out hh
                          clear hh
                          go_wp2_with fail
                          refine (holds_ls HL.out hia HKZ.out).mono ?_
                          rintro e wy ⟨rfl, rfl⟩
                          go_wp2_with fail
                          refine (Modes.fits_any _ (m : Int) wr HTW.out p2 p3 (by omega) (by omega)).mono ?_
                          rintro e wy ⟨rfl, rfl⟩
                          rw [hft]
                          go_wp2_with fail
                          go_roundw
                          case rel => exact ⟨m + 1, by omega, by go_num, HL⟩
                          case measure => simp [intOf]; omega
                    · have hd5 : decide ((m : Int) < 4) = false := by simp; omega
                      go_wp2_with fail
                      go_roundw
                      case rel => exact ⟨b2 + 1, by omega, by go_num, HL⟩
                      case measure => simp [intOf]; omega
                · have hd4 : decide ((b2 : Int) < 8) = false := by simp; omega
                  go_wp2_with fail
                  go_roundw
                  case rel => exact ⟨a + 1, by omega, by go_num, HL⟩
                  case measure => simp [intOf]; omega
            · have hd3 : decide ((a : Int) < 8) = false := by simp; omega
              go_wp2_with fail
              go_roundw
              case rel => exact ⟨i + 1, by omega, by go_num, Lib.hid ⟨Y, HL.out⟩⟩
              case measure => simp [intOf]; omega
        · have hd2 : decide ((i : Int) < (n0 : Int)) = false := by simp; omega
          go_wp2_with fail
          refine (live_any _ (HLX.out.tab HT.out)).mono ?_
          rintro e W9 ⟨rfl, hb9⟩
          have HB9 := Lib.hid (bstep HLX.out.bl hb9)
          clear hb9
          go_wp2_with fail
          go_ret
          exact ⟨rfl, HB9.out⟩
end Go.Proofs.YtkkfabnehhamdaaDoor.locksApart
end
