/-
  Parts of the proof of LocksSteps.
-/
import Derived.Test.YtkkfabnehhamdaaDoorLkS24
import Derived.BigQuiet
import Derived.Sort.Walk0
section
namespace Go.Proofs.YtkkfabnehhamdaaDoor.KeyS
open Go.RowKit
set_option linter.unusedVariables false
/-- the texts so far -/
def upto (l : List ByteArray) (k : Nat) : List (List UInt8) := ((raw l).take k).foldl SortP.ins []
theorem upto_succ (l : List ByteArray) (k : Nat) (h : k < l.length) : upto l (k + 1) = SortP.ins (upto l k) l[k].data.toList := by
  unfold upto
  rw [List.take_succ_eq_append_getElem (by simpa [raw] using h), List.foldl_append]
  simp [raw]
theorem ins_length (o : List (List UInt8)) (x : List UInt8) : (SortP.ins o x).length ≤ o.length + 1 := by
  unfold SortP.ins
  split
  · omega
  · simp; omega
theorem upto_length (l : List ByteArray) : ∀ k, k ≤ l.length → (upto l k).length ≤ k
  | 0, _ => by simp [upto]
  | k + 1, h => by
    rw [upto_succ l k (by omega)]
    have := ins_length (upto l k) l[k].data.toList
    have := upto_length l k (by omega)
    omega
theorem upto_all (l : List ByteArray) (k : Nat) (h : l.length ≤ k) : txts (upto l k) = sort l := by
  unfold upto sort
  rw [List.take_of_length_le (by rw [raw_length]; exact h), SortP.sort_eq_fold]
  rfl
/-- behind a round of the outer loop -/
def Out (w : World) (l : List ByteArray) (k : Nat) (s : Value) (wr : World) : Prop := ∃ A n c, s = .slice A n c ∧ n = (upto l k).length ∧ OwnS wr w.heap.size A n c (txts (upto l k)) ∧ Below w.heap.size w wr
theorem less_eq (a b : ByteArray) : Op.bytesLess a.toList b.toList = decide (a.data.toList < b.data.toList) := by
  rw [bytesLess_eq, Lib.toList_data, Lib.toList_data]
theorem eql_eq (a b : ByteArray) : (a.toList == b.toList) = decide (a.data.toList = b.data.toList) := by
  rw [Lib.toList_data, Lib.toList_data, Bool.eq_iff_iff]
  simp
theorem ins_same (o : List (List UInt8)) (x : List UInt8) (j : Nat) (h : SortP.place x o = j) (he : o[j]? = some x) : SortP.ins o x = o := by
  unfold SortP.ins
  rw [h, if_pos he]
theorem ins_new (o : List (List UInt8)) (x : List UInt8) (j : Nat) (h : SortP.place x o = j) (he : o[j]? ≠ some x) : SortP.ins o x = o.take j ++ x :: o.drop j := by
  unfold SortP.ins
  rw [h, if_neg he]
theorem own_more {w : World} {b b' : Nat} {e : TypeId} {size n : Nat} {v : Value} {xs : List Value} (hb : b ≤ b') (h : w.ownsRow b' e size v n xs) : w.ownsRow b e size v n xs :=
  ⟨h.1, h.2.imp id fun ⟨g, cap, cur, e1, hg, r⟩ => ⟨g, cap, cur, e1, Nat.le_trans hb hg, r⟩⟩
theorem own_drew {w : World} {base n c : Nat} {A : Option Addr} {l : List ByteArray} (h : OwnS w base A n c l) (m : Nat) : OwnS (w.drewN m) base A n c l := ⟨own_next h.1 (bdrewN (bsame w) m), h.2⟩
attribute [local go_sem ↓] app_fold cut_fold
/-- the three appends -/
theorem three (base : Nat) (A : Option Addr) (n c j : Nat) (oo : List (List UInt8)) (x : ByteArray) (w : World) (hO : OwnS w base A n c (txts oo)) (hb : base ≤ w.heap.size) (hj : j ≤ n) (hx : x.size ≤ maxLen) (hn : n ≤ 1000) :
    ∃ A3 c3 w3 A4 c4 w4 A5 c5 w5, (appSem #[85, 85] 85 #[.slice (some ⟨w.heap.size, 0, none⟩) 0 0, .slice (cutA A 0 c 1) j c]).run Tryd.prog (w.alloc (.cells #[] 9)) = .ok (.slice A3 j c3) w3
      ∧ (appSem #[85, 85] 85 #[.slice A3 j c3, .slice (some ⟨w3.heap.size, 0, none⟩) 1 1]).run Tryd.prog (w3.alloc (.cells #[.string x] 9)) = .ok (.slice A4 (j + 1) c4) w4
      ∧ (appSem #[85, 85] 85 #[.slice A4 (j + 1) c4, .slice (cutA A j c 1) (n - j) (c - j)]).run Tryd.prog w4 = .ok (.slice A5 (n + 1) c5) w5
      ∧ OwnS w5 base A5 (n + 1) c5 (txts (oo.take j ++ x.data.toList :: oo.drop j)) ∧ Below w.heap.size w w3 ∧ Below w.heap.size w w5 := by
  have hnc := hO.strs.2.1
  have hlen := hO.len
  obtain ⟨A3, c3, w3, happ3, hO3, hb3⟩ := (OwnS.empty w w.heap.size (Nat.le_refl _)).app ((Strs.cut hO.strs 0 j c (by omega) (by omega) (by omega) (Nat.le_refl _)).below (balloc (bsame w) (.cells #[] 9))) (by omega) (by simp)
  simp only [Nat.sub_zero, Nat.zero_add, List.nil_append, List.drop_zero] at happ3 hO3
  have hB3 : Below w.heap.size w w3 := (balloc (bsame w) _).trans hb3
  obtain ⟨A4, c4, w4, happ4, hO4, hb4⟩ := (hO3.alloc (.cells #[.string x] 9)).app (OwnS.one w3 w.heap.size hB3.size x hx).strs (by omega) (by have := hB3.size; simp; omega)
  have hB4 : Below w.heap.size w w4 := (hB3.trans ((Below.refl _ w3).alloc hB3.size _)).trans hb4
  obtain ⟨A5, c5, w5, happ5, hO5, hb5⟩ := hO4.app ((Strs.cut hO.strs j n c hj (Nat.le_refl _) hnc (Nat.le_refl _)).below hB4) (by omega) hB4.size
  have hB5 : Below w.heap.size w w5 := hB4.trans hb5
  have e1 : j + 1 + (n - j) = n + 1 := by omega
  rw [e1] at happ5 hO5
  have e2 : (List.take j (txts oo) ++ [x]) ++ List.take (n - j) (List.drop j (txts oo)) = txts (oo.take j ++ x.data.toList :: oo.drop j) := by
    rw [List.take_of_length_le (l := List.drop j (txts oo)) (by rw [List.length_drop, hlen]; omega)]
    simp [txts, txt]
  rw [e2] at hO5
  exact ⟨A3, c3, w3, A4, c4, w4, A5, c5, w5, happ3, happ4, happ5, ⟨own_more hb hO5.1, hO5.2⟩, hB3, hB5⟩
set_option maxRecDepth 100000 in
set_option maxHeartbeats 1000000 in
theorem refSort_any (A : Option Addr) (n c B : Nat) (l : List ByteArray) (w : World) (h : Strs w B A n c l) (hB : B ≤ w.heap.size) (hn : n ≤ 1000) :
    Calls Tryd.prog 38 #[.slice A n c] w fun e w' => ∃ A' c', e = .returned (.slice A' (sort l).length c') ∧ Strs w' w'.heap.size A' (sort l).length c' (sort l) ∧ Below w.heap.size w w' := by
  have hlen := h.1
  have H := Lib.hid h
  have HL := Lib.hid hlen
  clear h hlen
  go_enter Tryd.func38, Tryd.ntmps38
  go_wp2
  go_loopw [3, 4] (fun s i wr => ∃ k : Nat, k ≤ n ∧ i = .int .i64 (k : Int) ∧ Out w l k s wr) (fun _ i _ => n - (intOf i).toNat)
  case atStart => exact ⟨0, Nat.zero_le _, rfl, none, 0, 0, rfl, rfl, OwnS.none_ _ _, bsame w⟩
  case round =>
    obtain ⟨k, hk, rfl, A1, n1, c1, rfl, hn1, hO, hb⟩ := hrel
    by_cases hlt : k < n
    · have hl1 : k < l.length := by rw [HL.out]; exact hlt
      have hup := upto_length l k (by omega)
      rw [← hn1] at hup
      obtain ⟨b, o, rfl, hb0, hc⟩ := (H.out.below (hb.mono hB)).at_ hlt
      have HU := Lib.hid (upto_succ l k hl1)
      have hxs := H.out.2.2.2.1 _ (List.getElem_mem hl1)
      generalize l[k] = x at *
      generalize hoo : upto l k = oo at *
      have HOO := Lib.hid hoo
      have HO := Lib.hid hO
      have HB := Lib.hid hb
      have HN := Lib.hid hn1
      have hbs := hb.size
      clear hO hb hoo hn1
      have hblt : b < wr.heap.size := by omega
      obtain ⟨wo, rfl⟩ : ∃ wo : World, wo = wr := ⟨_, rfl⟩
      go_wp2
      go_loopw [5] (fun i wi => ∃ j m : Nat, j ≤ n1 ∧ i = .int .i64 (j : Int) ∧ wi = wo.drewN m ∧ Hid (∀ q y, q < j → oo[q]? = some y → y < x.data.toList)) (fun i _ => n1 - (intOf i).toNat)
      case atStart => exact ⟨0, 0, Nat.zero_le _, rfl, rfl, Lib.hid (fun q y hq => absurd hq (by omega))⟩
      case round =>
        obtain ⟨j, m, hj, rfl, rfl, HQ⟩ := hrel
        by_cases hjn : j < n1
        · have hjo : j < oo.length := by rw [← HN.out]; exact hjn
          obtain ⟨b1, o1, rfl, hb1, hc1⟩ := HO.out.strs.at_ hjn
          have e1 : (txts oo)[j]'(by simpa [txts] using hjo) = txt oo[j] := by simp [txts]
          rw [e1] at hc1
          have hy : (txt oo[j]).data.toList = oo[j] := by simp [txt]
          have HY := Lib.hid hy
          have HOJ := Lib.hid (List.getElem?_eq_getElem hjo)
          clear hy e1
          generalize oo[j] = y at *
          by_cases hyx : Op.bytesLess (txt y).toList x.toList = true
          · have HLS : Hid (y < x.data.toList) := Lib.hid (by
              rw [less_eq, HY.out] at hyx
              simpa using hyx)
            go_wp2
            go_quiet (fail)
            go_wp2
            go_roundw
            case rel => exact ⟨j + 1, _, by omega, by go_num, rfl, Lib.hid (fun q z hq hz => by
              rcases Nat.lt_or_ge q j with h1 | h1
              · exact HQ.out q z h1 hz
              · have : q = j := by omega
                subst this
                rw [HOJ.out] at hz
                cases hz
                exact HLS.out)⟩
            case measure => simp [intOf]; omega
          · have HLS : Hid (¬ y < x.data.toList) := Lib.hid (by
              rw [less_eq, HY.out] at hyx
              simpa using hyx)
            replace hyx : Op.bytesLess (txt y).toList x.toList = false := by simpa using hyx
            have HP := Lib.hid (SortP.place_eq x.data.toList oo j HQ.out (by omega) (fun z hz => by
              rw [HOJ.out] at hz
              cases hz
              exact HLS.out))
            by_cases hex : ((txt y).toList == x.toList) = true
            · have HEX : Hid (y = x.data.toList) := Lib.hid (by
                rw [eql_eq, HY.out] at hex
                simpa using hex)
              go_wp2
              go_quiet (fail)
              go_wp2
              go_quiet (fail)
              go_wp2
              go_roundw
              case rel =>
                refine ⟨k + 1, by omega, by go_num, _, n1, c1, rfl, ?_, ?_, bdrewN HB.out _⟩
                · rw [HU.out, ins_same oo _ j HP.out (by rw [HOJ.out, HEX.out])]; exact HN.out
                · rw [HU.out, ins_same oo _ j HP.out (by rw [HOJ.out, HEX.out])]; exact own_drew HO.out _
              case measure => simp [intOf]; omega
            · have HEX : Hid (¬ y = x.data.toList) := Lib.hid (by
                rw [eql_eq, HY.out] at hex
                simpa using hex)
              replace hex : ((txt y).toList == x.toList) = false := by simpa using hex
              have HI := Lib.hid (ins_new oo _ j HP.out (by rw [HOJ.out]; intro h; exact HEX.out (by injection h)))
              go_wp2
              go_quiet (fail)
              go_wp2
              obtain ⟨q1, hq1⟩ : ∃ q, (wo.drewN m).drewN nq = wo.drewN q := ⟨m + nq, by simp⟩
              rw [hq1]
              clear hq1
              go_quiet (fail)
              have hO9 := own_drew (own_drew HO.out q1) nq
              have hb9 : Below wo.heap.size wo ((wo.drewN q1).drewN nq) := bdrewN (bdrewN (bsame wo) _) _
              have hB9 : Below w.heap.size w ((wo.drewN q1).drewN nq) := bdrewN (bdrewN HB.out _) _
              generalize (wo.drewN q1).drewN nq = w9 at *
              have hz9 := hB9.size
              have hc9 : w9.cell? ⟨b, o + k, none⟩ = some (.string x) := (hb9.cell (p := ⟨b, o + k, none⟩) hblt).trans hc
              have hl9 := Nat.lt_of_lt_of_le hblt hb9.size
              obtain ⟨A3, c3, w3, A4, c4, w4, A5, c5, w5, h3, h4, h5, hO5, hB3, hB5⟩ := three w.heap.size _ n1 c1 j oo x _ hO9 hz9 hj hxs (by omega)
              have hc3 : w3.cell? ⟨b, o + k, none⟩ = some (.string x) := (hB3.cell (p := ⟨b, o + k, none⟩) hl9).trans hc9
              have HO5 := Lib.hid hO5
              have HB5 := Lib.hid (hB9.trans (hB5.mono hz9))
              have hcn := HO.out.strs.2.1
              have hcm := HO.out.strs.2.2.1
              unfold maxLen at hcm
              clear hO5 hB5 hB3 hO9 hb9 hB9
              go_wp2
              go_roundw
              case rel =>
                refine ⟨k + 1, by omega, by go_num, A5, n1 + 1, c5, rfl, ?_, ?_, HB5.out⟩
                · rw [HU.out, HI.out, HN.out]; simp; omega
                · rw [HU.out, HI.out]; exact HO5.out
              case measure => simp [intOf]; omega
        · have HI := Lib.hid (ins_new oo x.data.toList j (SortP.place_eq x.data.toList oo j HQ.out (by rw [← HN.out]; exact hj) (fun z hz => by
            rw [List.getElem?_eq_none (by rw [← HN.out]; omega)] at hz
            cases hz)) (by rw [List.getElem?_eq_none (by rw [← HN.out]; omega)]; simp))
          have hd : decide ((j : Int) < (n1 : Int)) = false := by simpa using hjn
          go_wp2
          go_quiet (fail)
          go_wp2
          obtain ⟨q1, hq1⟩ : ∃ q, (wo.drewN m).drewN nq = wo.drewN q := ⟨m + nq, by simp⟩
          rw [hq1]
          clear hq1
          go_quiet (fail)
          have hO9 := own_drew (own_drew HO.out q1) nq
          have hb9 : Below wo.heap.size wo ((wo.drewN q1).drewN nq) := bdrewN (bdrewN (bsame wo) _) _
          have hB9 : Below w.heap.size w ((wo.drewN q1).drewN nq) := bdrewN (bdrewN HB.out _) _
          generalize (wo.drewN q1).drewN nq = w9 at *
          have hz9 := hB9.size
          have hc9 : w9.cell? ⟨b, o + k, none⟩ = some (.string x) := (hb9.cell (p := ⟨b, o + k, none⟩) hblt).trans hc
          have hl9 := Nat.lt_of_lt_of_le hblt hb9.size
          obtain ⟨A3, c3, w3, A4, c4, w4, A5, c5, w5, h3, h4, h5, hO5, hB3, hB5⟩ := three w.heap.size _ n1 c1 j oo x _ hO9 hz9 hj hxs (by omega)
          have hc3 : w3.cell? ⟨b, o + k, none⟩ = some (.string x) := (hB3.cell (p := ⟨b, o + k, none⟩) hl9).trans hc9
          have HO5 := Lib.hid hO5
          have HB5 := Lib.hid (hB9.trans (hB5.mono hz9))
          have hcn := HO.out.strs.2.1
          have hcm := HO.out.strs.2.2.1
          unfold maxLen at hcm
          clear hO5 hB5 hB3 hO9 hb9 hB9
          go_wp2
          go_roundw
          case rel =>
            refine ⟨k + 1, by omega, by go_num, A5, n1 + 1, c5, rfl, ?_, ?_, HB5.out⟩
            · rw [HU.out, HI.out, HN.out]; simp; omega
            · rw [HU.out, HI.out]; exact HO5.out
          case measure => simp [intOf]; omega
    · have HE := Lib.hid (upto_all l k (by rw [HL.out]; omega))
      have HO := Lib.hid hO
      have HB := Lib.hid hb
      have HN := Lib.hid hn1
      clear hO hb hn1
      go_wp2
      go_ret
      have h1 := HO.out.strs
      rw [HE.out] at h1
      have h2 : (sort l).length = n1 := by rw [← HE.out, HN.out]; simp [txts]
      exact ⟨A1, c1, by rw [h2]; rfl, by rw [h2]; exact h1, HB.out⟩
end Go.Proofs.YtkkfabnehhamdaaDoor.KeyS
end
