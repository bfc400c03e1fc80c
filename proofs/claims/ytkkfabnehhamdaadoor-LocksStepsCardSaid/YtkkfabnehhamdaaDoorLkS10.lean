/-
  Parts of the proof of LocksSteps.
-/
import Derived.Test.YtkkfabnehhamdaaDoorLkS9
import Derived.RecoverIn
section
namespace Go.Proofs.YtkkfabnehhamdaaDoor
open Go.RowKit Go.Maps LockP ModesP
set_option linter.unusedVariables false
set_option linter.unusedSimpArgs false
theorem Str.grownN {w w' : World} {b : Nat} {cs : Array Value} {row : Option Nat} (h : Str w b cs) (hg : w.grownBy w' row) (hr : ∀ r, row = some r → ∃ o : Obj, w.heap[r]? = some o ∧ o.isCells = false) : Str w' b cs := by
  refine h.grownO hg fun e => ?_
  obtain ⟨t, ht⟩ := h
  obtain ⟨o, ho, hc⟩ := hr _ e
  rw [ht] at ho
  cases ho
  cases hc
namespace LockW
attribute [local go_sem] Oper.semAt_some
theorem RowIn.next {bs : List Nat} {w w' : World} {o : Option Nat} {l : Row} (h : RowIn bs w o l) (hlo : ∀ b ∈ bs, b < w.heap.size) (hb : Below w.heap.size w w') : RowIn bs w' o l := by
  rcases h with h | ⟨q, A, n, c, e, hQ, h⟩
  · exact .inl h
  · exact .inr ⟨q, A, n, c, e, hQ.below hb, h⟩
theorem ahead_bd : ∀ (l : Row) (a : Int), 0 ≤ a → a < 16 → (∀ p ∈ l, 0 ≤ p.2 ∧ p.2 < 4) → 0 ≤ aheadOf a l ∧ aheadOf a l < 16
  | [], a, h0, h1, _ => ⟨h0, h1⟩
  | p :: r, a, h0, h1, h => by
    have hp := h p (List.mem_cons_self ..)
    have hw := with_pos h0 h1 hp.1 hp.2
    exact ahead_bd r (withM a p.2) (by omega) hw.2 (fun q hq => h q (List.mem_cons_of_mem _ hq))
theorem ahead_snoc (a : Int) (l : Row) (p : Int × Int) : aheadOf a (l ++ [p]) = withM (aheadOf a l) p.2 := by simp [aheadOf]
/-- between two rounds: the modes ahead -/
def AskI (N ab M : Nat) (w : World) {l : Row} (pre : List (In l)) (W : World) : Prop := (Str W ab #[.int .i64 (aheadOf 0 (pre.map (·.1.1)))] ∧ Below N w W) ∧ M ≤ W.heap.size
theorem askI_own {N ab M B : Nat} {w : World} {l : Row} (hN : N ≤ w.heap.size ∧ N ≤ B) : OwnFrom B (AskI N ab M w (l := l)) := fun s X Y row h hg hr => by
  have hr' : ∀ r, row = some r → ∃ o : Obj, X.heap[r]? = some o ∧ o.isCells = false := fun r e => (hr r e).2
  exact ⟨⟨h.1.1.grownN hg hr', h.1.2.grown hg (Nat.le_trans hN.1 h.1.2.size) (fun k e => Nat.le_trans hN.2 (hr k e).1)⟩, Nat.le_trans h.2 hg.size⟩
/-- behind the assignment: the round's variable in its box -/
def AskX (B : Nat) {l : Row} (a1 : In l → Nat → Act) (x : In l) (a' : Act) (W : World) : Prop := ∃ gb, B ≤ gb ∧ a' = a1 x gb ∧ Str W gb #[.int .i64 x.1.1.1, .int .i64 x.1.1.2]
theorem askX_own {B B' : Nat} {l : Row} {a1 : In l → Nat → Act} {x : In l} {a' : Act} : OwnFrom B' (fun (_ : Unit) W => AskX B a1 x a' W) := fun s X Y row h hg hr => by
  obtain ⟨gb, h1, h2, h3⟩ := h
  exact ⟨gb, h1, h2, h3.grownN hg (fun r e => (hr r e).2)⟩
set_option maxRecDepth 100000 in
set_option maxHeartbeats 4000000 in
theorem ask_row (t N : Nat) (bs : List Nat) (X : St) (u : Int) (k : ByteArray) (m : Int) (w : World) (h : Lk w t bs N X) (hok : Ok0 X) (hrow : ∀ p ∈ X.row k, 0 ≤ p.2 ∧ p.2 < 4) (hT : Modes.Tab w) (hu : In64 u) (hk : k.size ≤ 100) (hN : N + 8 ≤ 1000000) (hm : isM m = true) (hw : MapP.has X.goal u = false) (hs : hasM (LockP.set X k u) m = false) : Calls Tryd.prog 29 #[.pointer (some ⟨t, 0, none⟩), .int .i64 u, .string k, .int .i64 m] w (Asked t N bs X u k m w) := by
  have H := Lib.hid h
  have HOK := Lib.hid hok
  have HSB := Lib.hid (hok.set_bd (k := k) (t := u))
  obtain ⟨hm0, hm1⟩ := isM_iff.1 hm
  have hp := (with_pos (s := 0) (by omega) (by omega) hm0 hm1).1
  have hd1 : (withM 0 m == 0) = false := by simp; omega
  have HP := Lib.hid hp
  have HS := Lib.hid hs
  have HM := Lib.hid hm
  have HW := Lib.hid hw
  have HR := Lib.hid hrow
  have HT := Lib.hid hT
  have q1 : ∀ (W : World) (r : Option Nat), _ := fun W r => run_eql_map_nil (P := Tryd.prog) W 65 _ _ r Tryd.underlying65
  obtain ⟨lab, b1, b2, b3, b4, es1, es2, es3, h⟩ := h
  have e4 := h.look4 hu
  rw [hw] at e4
  generalize (MapP.get X.goal u).getD (⟨#[]⟩, 0) = g at *
  obtain ⟨gk, gm⟩ := g
  change (Instr.lookup _ _ _ _).run _ _ = .ok (.tuple #[.agg #[.string gk, .int .i64 gm], _]) _ at e4
  obtain ⟨W1, hW1⟩ : ∃ W, w.alloc (.cells #[.string gk, .int .i64 gm] 72) = W := ⟨_, rfl⟩
  have hb1 : Below w.heap.size w W1 := by rw [← hW1]; exact balloc (bsame w) _
  obtain ⟨W2, hW2⟩ : ∃ W, W1.alloc (.cells #[.int .i64 0] 3) = W := ⟨_, rfl⟩
  have hb2 : Below w.heap.size w W2 := by rw [← hW2]; exact balloc hb1 _
  have hs2 : Str W2 W1.heap.size #[.int .i64 0] := by rw [← hW2]; exact Str.new W1 _ _
  have h1 := h.next hb1
  have h2 := h.next hb2
  have f0 := str4 h.box
  have hl := h.box.lt
  have f1 := str4 h1.box
  have hl1 := h1.box.lt
  have f2 := str4 h2.box
  have hl2 := h2.box.lt
  have e1 := h1.look1 hk
  have e2 := h1.lookSet k hu
  have e3 := h2.look3 hk
  rw [← hW2] at e3
  have HW2 := Lib.hid hW2
  have HRI := Lib.hid (h2.rowIn (by omega) k)
  have HB2 := Lib.hid hb2
  have HLO : Hid (∀ b ∈ bs, b < w.heap.size) := Lib.hid h.lo
  have HS2 := Lib.hid hs2
  have hz2 := hb1.size
  clear h hw hm hp h1 h2 hb1 hb2 hs2 hs hok hT hrow hW2 f2 hl2
  generalize (MapP.get es3 k).getD none = o3 at *
  refine (callsIn_wide (n := 5)).1 ?_
  refine callsIn_of_wp_marks Tryd.func29 rfl trivial ?_ rfl
  simp only [Tryd.ntmps29, List.size_toArray, List.length_cons, List.length_nil, Nat.reduceAdd, Nat.reduceSub, Array.replicate_succ, Array.replicate_zero, List.push_toArray, List.append_toArray, List.nil_append, List.cons_append]
  gi_wp2_with fail
  refine ⟨trivial, ?_⟩
  refine (callsIn_wide.2 (Modes.with_any 0 m w (by omega) (by omega) hm0 hm1)).mono ?_
  rintro e w' ⟨rfl, rfl⟩
  gi_wp2_with fail
  refine ⟨trivial, ?_⟩
  refine (callsIn_wide.2 (Modes.has_any _ m W1 HSB.out.1 HSB.out.2 hm0 hm1)).mono ?_
  rintro e w' ⟨rfl, rfl⟩
  rw [HS.out]
  gi_wp2_with fail
  rw [HW2.out]
  refine ⟨trivial, ?_⟩
  refine (callsIn_wide.2 (all_any _ W2)).mono ?_
  rintro e W3 ⟨rfl, hS3, hb3, hz3⟩
  gi_wp2_with fail
  have hb3' := bstep HB2.out hb3
  have HS3 := Lib.hid hS3
  have HA3 := Lib.hid (HS2.out.next hb3)
  have HB3 := Lib.hid hb3'
  have HRI3 := Lib.hid (HRI.out.next (fun b hm => Nat.lt_of_lt_of_le (HLO.out b hm) HB2.out.size) hb3)
  have hl3 := HA3.out.lt
  have hw3 := hb3'.size
  have HZ3 := Lib.hid hz3
  clear hS3 hb3 hb3' hz3 f0 hl f1 hl1 e1 e2 e3 e4 q1
  apply wpIn_rangeFunc_ownH rfl (by omega) (gf := 52) (lb := #[.pointer (some ⟨W2.heap.size, 0, none⟩)]) rfl trivial (enters_of Tryd.func52 (by kernel_rfl) rfl)
    (all_stops 4 (by omega) W2.heap.size o3 bs (X.row k) W3 HS3.out HRI3.out) (fun h k b hm => (k b hm).trans (h b hm)) ?hKb (Below.refl _ _) (fun _ => rfl)
    (AskI w.heap.size W1.heap.size W3.heap.size w) (fun _ _ _ => False) (askI_own ⟨Nat.le_refl _, by omega⟩) (fun _ _ _ _ _ hs _ _ => hs) ?h0 (AskX W3.heap.size _) (fun x a' => askX_own) ?assign ?body ?done (fun D c' pre W _ _ h _ => h.elim)
  case hKb =>
    intro W l' o o' hle hl' _ _ b hm
    have := HLO.out b hm
    have hlt := (Array.getElem?_eq_some_iff.1 hl').1
    exact (grownBy_putObj' W l' o').block _ (by omega) (fun e => by cases e; omega)
  case h0 => exact ⟨⟨HA3.out, HB3.out⟩, Nat.le_refl _⟩
  case assign =>
    intro l' pre x W K hI hK
    have hb' : Below W.heap.size W (W.alloc (.cells #[.int .i64 x.1.1.1, .int .i64 x.1.1.2] 80)) := balloc (bsame W) _
    have hsz := hI.1.1.lt
    gi_wp2
    obtain ⟨gb, hgb⟩ : ∃ gb, gb = W.heap.size := ⟨_, rfl⟩
    rw [← hgb]
    have hB := hI.1.2.size
    have hWs : W3.heap.size ≤ W.heap.size := hI.2
    exact hK _ _ (KeepsFrom.of_grownBy (row := none) (grown_below hb' none) (fun j e => by cases e)) (fun b hm => hb'.block b (by have := HLO.out b hm; omega)) ⟨⟨hI.1.1.next hb', hI.1.2.trans (hb'.mono (by omega))⟩, by have := hb'.size; omega⟩ ⟨gb, by omega, rfl, by rw [hgb]; exact Str.new W _ _⟩
  case body =>
    rintro l' pre x a' W hle - hI ⟨gb, hgb, rfl, hs⟩ hlt
    obtain ⟨⟨hI1, hI2⟩, hWs⟩ := hI
    have hpm : ∀ p ∈ pre.map (·.1.1), 0 ≤ p.2 ∧ p.2 < 4 := fun p hp => by
      obtain ⟨y, hy, e⟩ := List.mem_map.1 hp
      exact HR.out p (by rw [← e]; exact y.2)
    obtain ⟨a0, a1⟩ := ahead_bd _ 0 (by omega) (by omega) hpm
    obtain ⟨x0, x1⟩ := HR.out _ x.2
    have HI1 := Lib.hid hI1
    have HI2 := Lib.hid hI2
    have HSN := Lib.hid (ahead_snoc 0 (pre.map (·.1.1)) x.1.1)
    have g0 := str1 hI1
    have gf := hI1.frozen 0
    have gl := hI1.lt
    have g1 := str2 hs
    have gl1 := hs.lt
    have hw6 := hI2.size
    generalize aheadOf 0 (pre.map (·.1.1)) = av at *
    clear hI1 hI2 hs hpm
    gi_wp2_with fail
    refine ⟨trivial, ?_⟩
    refine (callsIn_wide.2 (Modes.with_any av x.1.1.2 W a0 a1 x0 x1)).mono ?_
    rintro e w' ⟨rfl, rfl⟩
    gi_wp2_with fail
    have hg : W.grownBy (W.setCell ⟨W1.heap.size, 0, none⟩ (.int .i64 (withM av x.1.1.2))) (some W1.heap.size) := grown_set (grown_refl W _) 0 _
    refine ⟨KeepsFrom.of_grownBy hg (fun j e => by cases e; omega), fun b hm => hg.block b (by have := HLO.out b hm; omega) (fun e => by have := HLO.out b hm; injection e with e; omega), ⟨?_, below_grownO HI2.out hg hw6 (fun k e => by cases e; omega)⟩, by have := hg.size; omega⟩
    rw [List.map_append, List.map_cons, List.map_nil, HSN.out]
    simpa using HI1.out.set 0 (.int .i64 (withM av x.1.1.2))
  case done =>
    intro D xs W6 hDD hS hI hK
    obtain ⟨⟨hI1, hI2⟩, hWs⟩ := hI
    rw [hS] at hI1
    obtain ⟨lab6, b1', b2', b3', b4', e1', e2', e3', h6⟩ := H.out.next hI2
    have f6 := str4 h6.box
    have hl6 := h6.box.lt
    have H6 : Hid (Lk W6 t bs N X) := Lib.hid ⟨_, _, _, _, _, _, _, _, h6⟩
    have HI6 := Lib.hid h6
    have HT6 := Lib.hid (HT.out.below hI2 HT.out.lt)
    have g6 := str1 hI1
    have gl6 := hI1.lt
    have HC6 := Lib.hid hI2
    have HK6 := Lib.hid hK
    have hD6 := (Array.getElem?_eq_some_iff.1 hK).1
    obtain ⟨a0, a1⟩ := ahead_bd (X.row k) 0 (by omega) (by omega) HR.out
    have HAH : Hid (LockP.ask lI lS X u k m = if may X u k m (aheadOf 0 (X.row k)) then (hold lI lS X u k m, true, 0) else (wait lI X u k m, false, 0)) := Lib.hid (by unfold LockP.ask; rw [if_neg (by rw [HM.out]; decide), if_neg (by rw [HW.out]; decide), if_neg (by rw [HS.out]; decide)])
    generalize aheadOf 0 (X.row k) = av at *
    clear hI1 hI2 h6 hK hS
    dsimp only
    gi_wp2_with fail
    refine ⟨trivial, ?_⟩
    refine (callsIn_wide.2 (may_any t N bs X u k m av W6 H6.out HOK.out HT6.out hu hk hm0 hm1 a0 a1)).mono ?_
    rintro e W7 ⟨rfl, hb7⟩
    have H7 := Lib.hid (H6.out.next hb7)
    have HC7 := Lib.hid (bstep HC6.out hb7)
    have HK7 := Lib.hid ((hb7.block D hD6).trans HK6.out)
    have hw7 := hb7.size
    have HI7 := Lib.hid (HI6.out.next hb7)
    clear hb7 f6 hl6 g6 gl6
    cases hmay : may X u k m av with
    | true =>
      rw [hmay, if_pos rfl] at HAH
      clear hmay
      gi_wp2_with fail
      refine ⟨trivial, ?_⟩
      refine (callsIn_wide.2 (hold_any t N bs X u k m W7 H7.out HOK.out hu hk hm0 hm1 (by omega))).mono ?_
      rintro e W8 ⟨rfl, hT8⟩
      have HT8 := Lib.hid hT8
      have HK8 : Hid (W8.heap[D]? = some (.deferred (some []))) := Lib.hid (by
        obtain ⟨bs', -, -, hk8⟩ := hT8
        exact (hk8.block D (by omega) (fun hm => by have := HLO.out D hm; omega)).trans HK7.out)
      clear hT8
      gi_wp2_with fail
      refine ⟨by simp, .inl ⟨_, _, rfl, run_takeDeferred HK8.out, ?_⟩⟩
      refine ⟨.tuple #[.bool true, .int .i64 0], by simp [results, Tryd.results29, go_sem, *], ?_⟩
      refine ⟨by rw [HAH.out], ?_⟩
      rw [HAH.out]
      obtain ⟨bs', hl8, hr8⟩ := HT8.out
      exact Told.put HC7.out HLO.out ⟨bs', hl8.mono (by omega), hr8⟩ (by omega) (by omega) _
    | false =>
      rw [hmay, if_neg (by decide)] at HAH
      clear hmay
      have f7 := str4 HI7.out.box
      have hl7 := HI7.out.box.lt
      have e7 := HI7.out.look3 hk
      have HLO7 := HLO
      cases hg7 : MapP.get e3' k with
      | some o7 =>
        obtain ⟨q, _, _, _, eq7, -⟩ := HI7.out.e3 k _ hg7
        subst eq7
        rw [hg7] at e7
        have e7' : (Instr.lookup T3 (.map (some b3')) (.string k) false).run Tryd.prog W7 = .ok (.pointer (some ⟨q, 0, none⟩)) W7 := e7
        have HI9 := HI7
        have HG9 := Lib.hid hg7
        have HK9 : Hid (Reg.KeepB W7.heap.size bs W7 W7) := Lib.hid (Reg.KeepB.of (Below.refl _ _))
        have HN9 : Hid (∀ b ∈ bs, b ∈ bs ∨ W7.heap.size ≤ b) := Lib.hid (fun b hm => .inl hm)
        clear hg7 e7 f7 hl7
        have f7 := str4 HI7.out.box
        have hl7 := HI7.out.box.lt
        clear e7'
        obtain ⟨q', A, n, c, eq', hlq, hmq, hQ, hA, hn⟩ := HI9.out.e3 k _ HG9.out
        cases eq'
        have HQ9 := Lib.hid hQ
        have HA9 := Lib.hid hA
        have hne : ∀ p, A = some p → p.block ≠ q := fun p hp e => by
          have h1 := (hA p hp).1
          rw [e, hlq] at h1
          cases h1
        have hltA : ∀ p, A = some p → p.block < W7.heap.size := fun p hp => HI9.out.lo _ (hA p hp).2
        have e9 := HI9.out.look3 hk
        rw [HG9.out] at e9
        have e9' : (Instr.lookup T3 (.map (some b3')) (.string k) false).run Tryd.prog W7 = .ok (.pointer (some ⟨q, 0, none⟩)) W7 := e9
        have f9 := str4 HI9.out.box
        have hl9 := HI9.out.box.lt
        have HNA := Lib.hid hne
        have HLA := Lib.hid hltA
        clear hQ hA hne hltA e9 hlq hmq
        gi_wp2_with fail
        refine ⟨trivial, ?_⟩
        refine (callsIn_wide.2 (push_any q n c A (X.row k) (u, m) W7 HQ9.out HNA.out HLA.out (by omega))).mono ?_
        rintro e W10 ⟨rfl, A', c', hQ', hA', hkb⟩
        obtain ⟨bs', lab', hI10, hN10, hK10⟩ := HI9.out.pushed HG9.out HQ9.out HA9.out hQ' hA' hkb (by omega)
        have HK10 : Hid (Reg.KeepB W7.heap.size bs W7 W10) := Lib.hid (keep_more HK9.out HN9.out hK10)
        have HN10 : Hid (∀ b ∈ bs', b ∈ bs ∨ W7.heap.size ≤ b) := Lib.hid (fun b hm => (hN10 b hm).elim (HN9.out b) (fun h => .inr (Nat.le_trans HK9.out.size h)))
        have f10 := str4 hI10.box
        have hl10 := hI10.box.lt
        obtain ⟨W11, hr11, hI11, hK11⟩ := hI10.set4 (k := k) (m := m) hu (by unfold maxLen; omega)
        have HK11 : Hid (Reg.KeepB W7.heap.size bs W7 W11) := Lib.hid (keep_more HK10.out HN10.out hK11)
        have HI11 := Lib.hid hI11
        have HKD : Hid (W11.heap[D]? = some (.deferred (some []))) := Lib.hid ((HK11.out.block D (by omega) (fun hm => by have := HLO.out D hm; omega)).trans HK7.out)
        clear hQ' hA' hkb hI10 hN10 hK10 hI11 hK11 f9 hl9 e9'
        gi_wp2_with fail
        refine ⟨by simp, .inl ⟨_, _, rfl, run_takeDeferred HKD.out, ?_⟩⟩
        refine ⟨.tuple #[.bool false, .int .i64 0], by simp [results, Tryd.results29, go_sem, *], ?_⟩
        refine ⟨by rw [HAH.out], ?_⟩
        rw [HAH.out]
        exact Told.put HC7.out HLO.out ⟨bs', ⟨_, _, _, _, _, _, _, _, HI11.out.mono (by omega)⟩, HN10.out, HK11.out⟩ (by omega) (by omega) _
      | none =>
        rw [hg7] at e7
        have e7' : (Instr.lookup T3 (.map (some b3')) (.string k) false).run Tryd.prog W7 = .ok (.pointer none) W7 := e7
        have HG7 := Lib.hid hg7
        have HF7 := Lib.hid f7
        clear e7 hg7
        gi_wp2_with fail
        refine wpIn_wide.2 ?_
        refine Reg.wp_region_tail (R := ext) (W := W7) [Reg.eqv (.pointer (some ⟨t, 0, none⟩)), Reg.eqv (.pointer (some ⟨t, 0, none⟩)), Reg.eqv (.pointer (some ⟨t, 2, none⟩)), Reg.eqv (.map (some b3')), Reg.eqv (.string k), freshQ W7.heap.size] 105 6 _ [[(0, none)], [(81, some 0)], [(82, some 1)], [(83, some 2)], [(2, none)], []] rfl (by kernel_rfl) (by kernel_rfl) (by rfl) (by rfl) rfl (by kernel_rfl) ?_ [some 81, some 82, some 83, some 84, some 85, some 86] (by kernel_rfl) ?_
        · refine ⟨?_, ?_, ?_, ?_, ?_, ?_, trivial⟩
          · intro ax wx hx hs
            obtain ⟨e0, -⟩ := hs
            have g0 := Reg.ev (v := .pointer (some ⟨t, 0, none⟩)) e0
            exact Reg.obl_free rfl (Reg.wp_eqv (Option.some_ne_none _) (by go_simp) rfl)
          · intro ax wx hx hs
            obtain ⟨e81, -⟩ := hs
            have g81 := Reg.ev (v := .pointer (some ⟨t, 0, none⟩)) e81
            exact Reg.obl_free rfl (Reg.wp_eqv (Option.some_ne_none _) (by go_simp) rfl)
          · intro ax wx hx hs
            obtain ⟨e82, -⟩ := hs
            have g82 := Reg.ev (v := .pointer (some ⟨t, 0, none⟩)) e82
            exact Reg.obl_free rfl (Reg.wp_eqv (Option.some_ne_none _) (by go_simp) rfl)
          · intro ax wx hx hs
            obtain ⟨e83, -⟩ := hs
            have g83 := Reg.ev (v := .pointer (some ⟨t, 2, none⟩)) e83
            have l0 := str4 (HI7.out.next hx).box
            exact Reg.obl_free rfl (Reg.wp_eqv (Option.some_ne_none _) (by go_simp) rfl)
          · intro ax wx hx hs
            obtain ⟨e2, -⟩ := hs
            have g2 := Reg.ev (v := .string k) e2
            exact Reg.obl_free rfl (Reg.wp_eqv (Option.some_ne_none _) (by go_simp) rfl)
          · intro ax wx hx hs
            refine Reg.obl_free rfl ?_
            have hx' : Below W7.heap.size W7 wx := hx
            go_simp
            refine (newq_any wx).mono ?_
            rintro e wy ⟨q, rfl, eq, hQ, hby⟩
            exact Reg.done (Option.some_ne_none _) ⟨q, rfl, by have := hx'.size; omega, hQ⟩ hby
        · intro W8 hwf
          simp only [Reg.Fin]
          rintro _ rfl _ rfl _ rfl _ rfl _ rfl v86 h86
          have hwf' : Below W7.heap.size W7 W8 := hwf
          obtain ⟨q, rfl, hq7, hQ8⟩ := h86
          obtain ⟨W9, lab9, e39, hr9, hI9, hG9, hK9⟩ := HI7.out.put3 hk (by unfold maxLen; omega) HG7.out hwf' hq7 hQ8
          have HI9 := Lib.hid hI9
          have HG9 := Lib.hid hG9
          have HK9 := Lib.hid hK9
          have HN9 : Hid (∀ b ∈ q :: bs, b ∈ bs ∨ W7.heap.size ≤ b) := Lib.hid (fun b hm => by
            rcases List.mem_cons.1 hm with rfl | hm
            · exact .inr hq7
            · exact .inl hm)
          clear hI9 hG9 hK9 hwf hwf' hQ8 f7 hl7 e7'
          have f7 := str4 HI9.out.box
          have hl7 := HI9.out.box.lt
          refine Reg.Goal.mk ?_
          go_simp
          obtain ⟨q', A, n, c, eq', hlq, hmq, hQ, hA, hn⟩ := HI9.out.e3 k _ HG9.out
          cases eq'
          have HQ9 := Lib.hid hQ
          have HA9 := Lib.hid hA
          have hne : ∀ p, A = some p → p.block ≠ q := fun p hp e => by
            have h1 := (hA p hp).1
            rw [e, hlq] at h1
            cases h1
          have hltA : ∀ p, A = some p → p.block < W9.heap.size := fun p hp => HI9.out.lo _ (hA p hp).2
          have e9 := HI9.out.look3 hk
          rw [HG9.out] at e9
          have e9' : (Instr.lookup T3 (.map (some b3')) (.string k) false).run Tryd.prog W9 = .ok (.pointer (some ⟨q, 0, none⟩)) W9 := e9
          have f9 := str4 HI9.out.box
          have hl9 := HI9.out.box.lt
          have HNA := Lib.hid hne
          have HLA := Lib.hid hltA
          clear hQ hA hne hltA e9 hlq hmq
          gi_wp2_with fail
          refine ⟨trivial, ?_⟩
          refine (callsIn_wide.2 (push_any q n c A (X.row k) (u, m) W9 HQ9.out HNA.out HLA.out (by omega))).mono ?_
          rintro e W10 ⟨rfl, A', c', hQ', hA', hkb⟩
          obtain ⟨bs', lab', hI10, hN10, hK10⟩ := HI9.out.pushed HG9.out HQ9.out HA9.out hQ' hA' hkb (by omega)
          have HK10 : Hid (Reg.KeepB W7.heap.size bs W7 W10) := Lib.hid (keep_more HK9.out HN9.out hK10)
          have HN10 : Hid (∀ b ∈ bs', b ∈ bs ∨ W7.heap.size ≤ b) := Lib.hid (fun b hm => (hN10 b hm).elim (HN9.out b) (fun h => .inr (Nat.le_trans HK9.out.size h)))
          have f10 := str4 hI10.box
          have hl10 := hI10.box.lt
          obtain ⟨W11, hr11, hI11, hK11⟩ := hI10.set4 (k := k) (m := m) hu (by unfold maxLen; omega)
          have HK11 : Hid (Reg.KeepB W7.heap.size bs W7 W11) := Lib.hid (keep_more HK10.out HN10.out hK11)
          have HI11 := Lib.hid hI11
          have HKD : Hid (W11.heap[D]? = some (.deferred (some []))) := Lib.hid ((HK11.out.block D (by omega) (fun hm => by have := HLO.out D hm; omega)).trans HK7.out)
          clear hQ' hA' hkb hI10 hN10 hK10 hI11 hK11 f9 hl9 e9'
          gi_wp2_with fail
          refine ⟨by simp, .inl ⟨_, _, rfl, run_takeDeferred HKD.out, ?_⟩⟩
          refine ⟨.tuple #[.bool false, .int .i64 0], by simp [results, Tryd.results29, go_sem, *], ?_⟩
          refine ⟨by rw [HAH.out], ?_⟩
          rw [HAH.out]
          exact Told.put HC7.out HLO.out ⟨bs', ⟨_, _, _, _, _, _, _, _, HI11.out.mono (by omega)⟩, HN10.out, HK11.out⟩ (by omega) (by omega) _
end LockW
end Go.Proofs.YtkkfabnehhamdaaDoor
end
section
namespace Go.Proofs.YtkkfabnehhamdaaDoor
open Go.RowKit Go.Maps LockP ModesP
set_option linter.unusedVariables false
set_option linter.unusedSimpArgs false
namespace LockW
attribute [local go_sem] Oper.semAt_some
attribute [local go_sem ↓] app_fold
theorem infoW2 : (Tryd.prog.info? 80).map (fun i => (i.zero, i.size, i.bytes)) = some (some (.agg #[.int .i64 0, .int .i64 0]), 2, 16) := by kernel_rfl
theorem ownE_cells {α : Type} {E : El α} {T : TypeId} {w : World} {base n c : Nat} {ad : Addr} {l : List α} (h : OwnE E T w base (some ad) n c l) : ∃ cur, w.heap[ad.block]? = some (.cells cur T (0, 0)) := by
  obtain ⟨vs, h1, -⟩ := h
  rcases h1.2 with ⟨e, -⟩ | ⟨g, cap, cur, e, -, hh, -⟩
  · cases e
  · cases e
    exact ⟨cur, hh⟩
theorem own_grownN {α : Type} {E : El α} (hE : E.Pure) {T : TypeId} {w w' : World} {base n c : Nat} {A : Option Addr} {l : List α} {row : Option Nat} (h : OwnE E T w base A n c l) (hg : w.grownBy w' row) (hr : ∀ r, row = some r → (∃ o : Obj, w.heap[r]? = some o ∧ o.isCells = false) ∨ ∀ a, A = some a → a.block ≠ r) : OwnE E T w' base A n c l := by
  refine own_at hE h fun a e => ?_
  subst e
  obtain ⟨cur, hc⟩ := ownE_cells h
  refine hg.block _ (Array.getElem?_eq_some_iff.1 hc).1 fun e => ?_
  rcases hr _ e.symm with ⟨o, ho, hn⟩ | h2
  · rw [hc] at ho
    cases ho
    cases hn
  · exact h2 a rfl rfl
theorem keepsFrom_own {B : Nat} {W W' : World} {row : Option Nat} (hg : W.grownBy W' row) (hr : ∀ j, row = some j → j < B ∨ ∃ o : Obj, W.heap[j]? = some o ∧ o.isCells = true) : KeepsFrom B W W' :=
  ⟨hg.size, fun k o hB hk hc => (hg.block k (Array.getElem?_eq_some_iff.1 hk).1 (fun e => by
    rcases hr k e.symm with h | ⟨o2, h2, h3⟩
    · omega
    · rw [hk] at h2; cases h2; rw [hc] at h3; cases h3)).trans hk⟩
/-- a row of one, as a source -/
theorem wish_src {w : World} {b : Nat} {A : Option Addr} {x : Int × Int} (h : Str w b #[.int .i64 x.1, .int .i64 x.2]) : ElemsIn WishE (hid A w) w w.heap.size (some ⟨b, 0, none⟩) 1 1 [x] := by
  refine ⟨[[.int .i64 x.1, .int .i64 x.2]], ⟨rfl, trivial⟩, rfl, Nat.le_refl _, by unfold maxLen; omega, fun _ => ⟨b, 0, rfl, h.lt, fun j v hv => ?_⟩⟩
  rw [show [[Value.int .i64 x.1, .int .i64 x.2]].flatten = [.int .i64 x.1, .int .i64 x.2] by simp] at hv
  rw [Nat.zero_add, h.cell j]
  simpa using hv
/-- between two rounds of Cut -/
structure CutI (w : World) (gf : Nat) (lb : Array Value) (p : Int × Int → Bool) (base : Nat) {l : Row} (pre : List (In l)) (W : World) : Prop where
  f : Str W w.heap.size #[.func (.func gf) #[] lb]
  r : Str W (w.heap.size + 1) #[.int .i64 0]
  s : ∃ A n c, Str W (w.heap.size + 1 + 1) #[.slice A n c] ∧ OwnE WishE 80 W base A n c ((pre.map (·.1.1)).filter fun x => !p x)
  g : ∃ m : Nat, Str W (w.heap.size + 1 + 1 + 1) #[.int .i64 (m : Int)] ∧ m ≤ pre.length
  b : Below w.heap.size w W
  z : base ≤ W.heap.size
theorem CutI.next {w W W' : World} {gf base : Nat} {lb : Array Value} {p : Int × Int → Bool} {l : Row} {pre : List (In l)} (h : CutI w gf lb p base pre W) (hb : Below W.heap.size W W') : CutI w gf lb p base pre W' := by
  obtain ⟨A, n, c, h1, h2⟩ := h.s
  obtain ⟨m, h3, h4⟩ := h.g
  exact ⟨h.f.next hb, h.r.next hb, ⟨A, n, c, h1.next hb, h2.next hb⟩, ⟨m, h3.next hb, h4⟩, bstep h.b hb, Nat.le_trans h.z hb.size⟩
theorem filt_yes {p : Int × Int → Bool} {l : Row} {x : Int × Int} (h : p x = true) : (l ++ [x]).filter (fun x => !p x) = l.filter (fun x => !p x) := by simp [h]
theorem filt_no {p : Int × Int → Bool} {l : Row} {x : Int × Int} (h : p x = false) : (l ++ [x]).filter (fun x => !p x) = l.filter (fun x => !p x) ++ [x] := by simp [h]
theorem cutI_own {w : World} {gf base B : Nat} {lb : Array Value} {p : Int × Int → Bool} {l : Row} (hB : w.heap.size ≤ B) : OwnFrom B (CutI w gf lb p base (l := l)) := fun s X Y row h hg hr => by
  have hr' : ∀ r, row = some r → ∃ o : Obj, X.heap[r]? = some o ∧ o.isCells = false := fun r e => (hr r e).2
  obtain ⟨A, n, c, h1, h2⟩ := h.s
  obtain ⟨m, h3, h4⟩ := h.g
  exact ⟨h.f.grownN hg hr', h.r.grownN hg hr', ⟨A, n, c, h1.grownN hg hr', own_grownN wishE_pure h2 hg (fun r e => .inl (hr' r e))⟩, ⟨m, h3.grownN hg hr', h4⟩, h.b.grown hg h.b.size (fun k e => Nat.le_trans hB (hr k e).1), Nat.le_trans h.z hg.size⟩
theorem cutEnd_any (n : Nat) (p : Addr) (w : World) :
    CallsDIn Fence.wide n Tryd.prog 73 #[.pointer (some p)] .returning w fun e u' w' => e = .returned (.tuple #[]) ∧ u' = .returning ∧ w' = w := by
  refine callsDIn_of_wpSIn Tryd.func73 rfl trivial fun c₀ cs hu => ?_
  apply wpSIn_seq
  apply wpSIn_region
  simp [wpOpsSIn, go_sem, recoverD, hu, Tryd.ntmps73, Exit.thenS]
  refine wpSIn_cond (t := false) (by simp [Act.eval, Array.replicate]) ?_
  simp only [Bool.false_eq_true, if_false]
  refine wpSIn_of_wpIn rfl (wpIn_wide.2 (wp_skip ?_))
  cases c₀
  simp_all [bodyPostS, results, Tryd.results73]
set_option maxRecDepth 100000 in
set_option maxHeartbeats 4000000 in
theorem cut_any (q n c gf : Nat) (A : Option Addr) (l : Row) (lb : Array Value) (p : Int × Int → Bool) (w : World) (hq : Que w q A n c l) (hne : ∀ a, A = some a → a.block ≠ q) (hn : n ≤ 1000000)
    (heg : ∀ (args : Array Value) (W : World), (callFunc gf args).run Tryd.prog W = .ok (.enter gf args) W) (his : ∀ x ∈ l, ∀ W : World, Below w.heap.size w W → Calls Tryd.prog gf (#[.agg #[.int .i64 x.1, .int .i64 x.2]] ++ lb) W fun e W' => e = .returned (.bool (p x)) ∧ Below W.heap.size W W') :
    Calls Tryd.prog 57 #[.pointer (some ⟨q, 0, none⟩), .func (.func gf) #[] lb] w fun e w' => (∃ v, e = .returned v) ∧ ∃ A' n' c', Que w' q A' n' c' (l.filter fun x => !p x) ∧ (∀ a, A' = some a → w.heap.size ≤ a.block) ∧ Reg.KeepB w.heap.size [q] w w' := by
  have HQ := Lib.hid hq
  have HIS := Lib.hid his
  have HNE := Lib.hid hne
  have hl := hq.1.lt
  have HEG := Lib.hid heg
  clear hq his hne heg
  refine (callsIn_wide (n := 5)).1 ?_
  refine callsIn_of_wp_marks Tryd.func57 rfl trivial ?_ rfl
  simp only [Tryd.ntmps57, List.size_toArray, List.length_cons, List.length_nil, Nat.reduceAdd, Nat.reduceSub, Array.replicate_succ, Array.replicate_zero, List.push_toArray, List.append_toArray, List.nil_append, List.cons_append]
  have hmf : ∀ (fn : Fn) (first cap : Array Value) (w : World), (Instr.makeFunc fn first cap).run Tryd.prog w = .ok (.func fn first cap) w := fun _ _ _ _ => rfl
  have hfn : ∀ W : World, (binOp BinOp.eql 109 (.func (.func gf) #[] lb) Value.nilFunc).run Tryd.prog W = .ok (.bool false) W := fun W => by kernel_rfl
  gi_wp2_with fail
  obtain ⟨W0, hW0⟩ : ∃ W, ((((w.alloc (.cells #[.func (.func gf) #[] lb] 109)).alloc (.cells #[.int .i64 0] 3)).alloc (.cells #[.slice none 0 0] 101)).alloc (.cells #[.int .i64 0] 3)) = W := ⟨_, rfl⟩
  rw [hW0]
  have hb0 : Below w.heap.size w W0 := by rw [← hW0]; exact balloc (balloc (balloc (balloc (bsame w) _) _) _) _
  have hz0 : W0.heap.size = w.heap.size + 4 := by rw [← hW0]; simp
  have s0 : Str W0 w.heap.size #[.func (.func gf) #[] lb] := by rw [← hW0]; exact (((Str.new w _ _).alloc _).alloc _).alloc _
  have s1 : Str W0 (w.heap.size + 1) #[.int .i64 0] := by rw [← hW0]; have := ((Str.new (w.alloc (.cells #[.func (.func gf) #[] lb] 109)) #[.int .i64 0] 3).alloc (.cells #[.slice none 0 0] 101)).alloc (.cells #[.int .i64 0] 3); simpa using this
  have s2 : Str W0 (w.heap.size + 1 + 1) #[.slice none 0 0] := by rw [← hW0]; have := (Str.new ((w.alloc (.cells #[.func (.func gf) #[] lb] 109)).alloc (.cells #[.int .i64 0] 3)) #[.slice none 0 0] 101).alloc (.cells #[.int .i64 0] 3); simpa using this
  have s3 : Str W0 (w.heap.size + 1 + 1 + 1) #[.int .i64 0] := by rw [← hW0]; have := Str.new (((w.alloc (.cells #[.func (.func gf) #[] lb] 109)).alloc (.cells #[.int .i64 0] 3)).alloc (.cells #[.slice none 0 0] 101)) #[.int .i64 0] 3; simpa using this
  clear hW0
  refine ⟨trivial, ?_⟩
  refine (callsIn_wide.2 (all_any _ W0)).mono ?_
  rintro e W3 ⟨rfl, hS3, hb3, hz3⟩
  have HZ := Lib.hid hz0
  have HZ3 := Lib.hid hz3
  clear hz0 hz3
  gi_wp2_with fail
  have hz0 := HZ.out
  have hz3 := HZ3.out
  have HI3 : Hid (CutI w gf lb p W3.heap.size ([] : List (In l)) W3) := Lib.hid ⟨s0.next hb3, s1.next hb3, ⟨none, 0, 0, s2.next hb3, OwnE.none_ _ _ _ _⟩, ⟨0, s3.next hb3, Nat.le_refl _⟩, bstep hb0 hb3, Nat.le_refl _⟩
  have HS3 := Lib.hid hS3
  have hw3 := hb3.size
  have HQ3 := Lib.hid (HQ.out.below (bstep hb0 hb3))
  have HLQ : Hid (∀ b ∈ q :: (A.map (·.block)).toList, b < w.heap.size) := Lib.hid (fun b hm => by
    rcases List.mem_cons.1 hm with rfl | hm
    · exact hl
    · obtain ⟨a, e, rfl⟩ := Option.map_eq_some_iff.1 (Option.mem_toList.1 hm)
      subst e
      obtain ⟨cur, hc⟩ := ownE_cells HQ.out.2
      exact (Array.getElem?_eq_some_iff.1 hc).1)
  have HRI : Hid (RowIn (q :: (A.map (·.block)).toList) W3 (some q) l) := Lib.hid (.inr ⟨q, A, n, c, rfl, HQ3.out, hn, List.mem_cons_self .., fun a ha => List.mem_cons_of_mem _ (by rw [ha]; simp)⟩)
  clear s0 s1 s2 s3 hb0 hb3 hS3 hfn hmf
  apply wpIn_rangeFunc_ownH rfl (by omega) (gf := 52) (lb := #[.pointer (some ⟨W0.heap.size, 0, none⟩)]) rfl trivial (enters_of Tryd.func52 (by kernel_rfl) rfl)
    (all_stops 4 (by omega) W0.heap.size (some q) (q :: (A.map (·.block)).toList) l W3 HS3.out HRI.out) (fun h k b hm => (k b hm).trans (h b hm)) ?hKb (Below.refl _ _) (fun _ => rfl)
    (CutI w gf lb p W3.heap.size) (fun _ _ _ => False) (cutI_own (by omega)) (fun _ _ _ _ _ hs _ _ => hs) HI3.out (AskX W3.heap.size _) (fun x a' => askX_own) ?assign ?body ?done (fun D c' pre W _ _ h _ => h.elim)
  case hKb =>
    intro W l' o o' hle hl' _ _ b hm
    have := HLQ.out b hm
    have hlt := (Array.getElem?_eq_some_iff.1 hl').1
    exact (grownBy_putObj' W l' o').block _ (by omega) (fun e => by cases e; omega)
  case assign =>
    intro l' pre x W K hI hK
    have hb' : Below W.heap.size W (W.alloc (.cells #[.int .i64 x.1.1.1, .int .i64 x.1.1.2] 80)) := balloc (bsame W) _
    have hsz := hI.f.lt
    gi_wp2
    obtain ⟨gb, hgb⟩ : ∃ gb, gb = W.heap.size := ⟨_, rfl⟩
    rw [← hgb]
    have hB := hI.b.size
    have hWs := hI.z
    obtain ⟨A9, n9, c9, h1, h2⟩ := hI.s
    obtain ⟨m9, h3, h4⟩ := hI.g
    exact hK _ _ (KeepsFrom.of_grownBy (row := none) (grown_below hb' none) (fun j e => by cases e)) (fun b hm => hb'.block b (by have := HLQ.out b hm; omega)) ⟨hI.f.next hb', hI.r.next hb', ⟨A9, n9, c9, h1.next hb', h2.next hb'⟩, ⟨m9, h3.next hb', h4⟩, hI.b.trans (hb'.mono (by omega)), by have := hb'.size; omega⟩ ⟨gb, by omega, rfl, by rw [hgb]; exact Str.new W _ _⟩
  case body =>
    rintro l' pre x a' W hle - hI ⟨gb, hgb, rfl, hs⟩ hlt
    have g0 := str1 hI.f
    have gl0 := hI.f.lt
    have g1 := str2 hs
    have gl1 := hs.lt
    have HI := Lib.hid hI
    have HSX := Lib.hid hs
    have hcf : ∀ W : World, (callFunc gf (#[.agg #[.int .i64 x.1.1.1, .int .i64 x.1.1.2]] ++ lb)).run Tryd.prog W = .ok (.enter gf (#[.agg #[.int .i64 x.1.1.1, .int .i64 x.1.1.2]] ++ lb)) W := fun W => HEG.out _ W
    clear hI hs hz0 hz3
    gi_wp2_with fail
    refine ⟨trivial, ?_⟩
    refine (callsIn_wide.2 (HIS.out x.1.1 x.2 W HI.out.b)).mono ?_
    rintro e W4 ⟨rfl, hb4⟩
    have hI4 := HI.out.next hb4
    obtain ⟨A9, n9, c9, hS9, hO9⟩ := hI4.s
    obtain ⟨m9, hG9, hm9⟩ := hI4.g
    have hs4 := HSX.out.next hb4
    have HI4 := Lib.hid hI4
    have HS9 := Lib.hid hS9
    have HO9 := Lib.hid hO9
    have HG9 := Lib.hid hG9
    have HS4 := Lib.hid hs4
    have HB4 := Lib.hid hb4
    have hw4 := hb4.size
    have hww := HI.out.b.size
    have hz6 := HI.out.z
    clear hcf g0 gl0 g1 gl1 hI4
    have hz0 := HZ.out
    have hz3 := HZ3.out
    cases hp : p x.1.1 with
    | true =>
      have HF := Lib.hid (filt_yes (l := pre.map (·.1.1)) hp)
      have g3 := str1 hG9
      have gf3 := hG9.frozen 0
      have gl3 := hG9.lt
      have hm6 : m9 ≤ 1000000 := by omega
      clear hS9 hO9 hG9 hs4 hb4 hp hz0 hz3
      gi_wp2_with fail
      have hz0 := HZ.out
      have hz3 := HZ3.out
      have hg : W4.grownBy (W4.setCell ⟨w.heap.size + 1 + 1 + 1, 0, none⟩ (.int .i64 ((m9 : Int) + 1))) (some (w.heap.size + 1 + 1 + 1)) := grown_set (grown_refl W4 _) 0 _
      refine ⟨(KeepsFrom.of_grownBy (row := none) (grown_below HB4.out none) (fun j e => by cases e)).trans (KeepsFrom.of_grownBy hg (fun j e => by cases e; omega)), fun b hm => (hg.block b (by have := HLQ.out b hm; omega) (fun e => by have := HLQ.out b hm; injection e with e; omega)).trans (HB4.out.block b (by have := HLQ.out b hm; omega)), ⟨HI4.out.f.grownO hg (by intro e; injection e; omega), HI4.out.r.grownO hg (by intro e; injection e; omega), ⟨A9, n9, c9, HS9.out.grownO hg (by intro e; injection e; omega), ?_⟩, ⟨m9 + 1, by simpa using HG9.out.set 0 (.int .i64 ((m9 : Int) + 1)), by simp; omega⟩, below_grownO HI4.out.b hg (by omega) (fun k e => by cases e; omega), by have := hg.size; omega⟩⟩
      rw [List.map_append, List.map_cons, List.map_nil, HF.out]
      exact own_grownN wishE_pure HO9.out hg (fun r e => .inr (fun a ea e2 => by have := HO9.out.ge a ea; cases e; omega))
    | false =>
      have HF := Lib.hid (filt_no (l := pre.map (·.1.1)) hp)
      obtain ⟨i0, hi0, iz0, iz1, iz2⟩ := info_parts infoW2
      obtain ⟨W5, hW5⟩ : ∃ W, W4.alloc (.cells #[.int .i64 x.1.1.1, .int .i64 x.1.1.2] 80) = W := ⟨_, rfl⟩
      have hb5 : Below W4.heap.size W4 W5 := by rw [← hW5]; exact balloc (bsame W4) _
      have hs5 : Str W5 W4.heap.size #[.int .i64 x.1.1.1, .int .i64 x.1.1.2] := by rw [← hW5]; exact Str.new W4 _ _
      have hw5 := hb5.size
      have hln : n9 ≤ 1000000 := by
        have h1 := hO9.len
        have h2 : ((pre.map (·.1.1)).filter fun x => !p x).length ≤ (pre.map (·.1.1)).length := List.length_filter_le _ _
        rw [List.length_map] at h2
        omega
      obtain ⟨A', c', W6, happ, hO6, hb6, hg6, hA6⟩ := (hO9.next hb5).app (P := Tryd.prog) 101 101 i0 _ 16 Tryd.underlying101 hi0 iz0 iz1 iz2 rfl (wish_src hs5) (by unfold maxLen; omega) (by omega) (by omega)
      have hge9 := HO9.out.ge
      have hnb : ∀ b, b < W3.heap.size → (Value.slice A9 0 0).ownBlock ≠ some b := fun b hb e => by
        cases A9 with
        | none => simp [Value.ownBlock] at e
        | some ad =>
          have h1 := hge9 ad rfl
          have h2 : ad.block = b := by simpa [Value.ownBlock] using e
          omega
      have hs6 := (HS9.out.next hb5).grownO hg6 (hnb _ (by omega))
      have g6 := str1 hs6
      have gf6 := hs6.frozen 0
      have gl6 := hs6.lt
      have g2 := str1 HS9.out
      have gl2 := HS9.out.lt
      have g1 := str2 HS4.out
      have gl1 := HS4.out.lt
      have hge6 := hO6.ge
      have HB5 := Lib.hid hb5
      have HO6 := Lib.hid hO6
      have HB6 := Lib.hid hb6
      have HG6 := Lib.hid hg6
      have HS6 := Lib.hid hs6
      have HNB := Lib.hid hnb
      have HE9 := Lib.hid hge9
      have HE6 := Lib.hid hge6
      have hw6 := hg6.size
      clear hS9 hO9 hG9 hs4 hb4 hp hz0 hz3 hi0 iz0 iz1 iz2 hb5 hs5 hO6 hb6 hg6 hA6 hs6 hge9 hnb hge6
      gi_wp2_with fail
      have hz0 := HZ.out
      have hz3 := HZ3.out
      have hg : W6.grownBy (W6.setCell ⟨w.heap.size + 1 + 1, 0, none⟩ (.slice A' (n9 + 1) c')) (some (w.heap.size + 1 + 1)) := grown_set (grown_refl W6 _) 0 _
      have hk5 : KeepsFrom W3.heap.size W W5 := (KeepsFrom.of_grownBy (row := none) (grown_below HB4.out none) (fun j e => by cases e)).trans (KeepsFrom.of_grownBy (row := none) (grown_below HB5.out none) (fun j e => by cases e))
      have hk6 : KeepsFrom W3.heap.size W W6 := hk5.trans (keepsFrom_own HG6.out (fun j e => .inr (by
        cases A9 with
        | none => simp [Value.ownBlock] at e
        | some ad =>
          obtain ⟨cur, hc⟩ := ownE_cells (HO9.out.next HB5.out)
          have h2 : ad.block = j := by simpa [Value.ownBlock] using e
          exact ⟨_, by rw [← h2]; exact hc, rfl⟩)))
      have hb6' : Below W3.heap.size W W6 := ((HB4.out.trans (HB5.out.mono hw4)).mono hz6).trans HB6.out
      have hI6 := (HI4.out.next HB5.out)
      refine ⟨hk6.trans (KeepsFrom.of_grownBy hg (fun j e => by cases e; omega)), fun b hm => (hg.block b (by have := HLQ.out b hm; omega) (fun e => by have := HLQ.out b hm; injection e with e; omega)).trans (hb6'.block b (by have := HLQ.out b hm; omega)), ⟨(hI6.f.grownO HG6.out (HNB.out _ (by omega))).grownO hg (by intro e; injection e; omega), (hI6.r.grownO HG6.out (HNB.out _ (by omega))).grownO hg (by intro e; injection e; omega), ⟨A', n9 + 1, c', by simpa using HS6.out.set 0 (.slice A' (n9 + 1) c'), ?_⟩, ⟨m9, ((HG9.out.next HB5.out).grownO HG6.out (HNB.out _ (by omega))).grownO hg (by intro e; injection e; omega), by simp; omega⟩, below_grownO (HI.out.b.trans (hb6'.mono (by omega))) hg (by omega) (fun k e => by cases e; omega), by have := hg.size; omega⟩⟩
      rw [List.map_append, List.map_cons, List.map_nil, HF.out]
      exact own_grownN wishE_pure HO6.out hg (fun r e => .inr (fun a ea e2 => by have := HE6.out a ea; cases e; omega))
  case done =>
    intro D xs W6 hDD hS hI hK
    obtain ⟨A9, n9, c9, hS9, hO9⟩ := hI.s
    obtain ⟨m9, hG9, hm9⟩ := hI.g
    rw [hS] at hO9
    have hQ6 := HQ.out.below hI.b
    have g0 := str1 hS9
    have gl0 := hS9.lt
    have g1 := str2 hQ6.1
    have gf1 := fun j => hQ6.1.frozen j
    have gl1 := hQ6.1.lt
    have g2 := str1 hG9
    have gl2 := hG9.lt
    have g3 := str1 hI.r
    have gf3 := hI.r.frozen 0
    have gl3 := hI.r.lt
    have HI := Lib.hid hI
    have HS9 := Lib.hid hS9
    have HO9 := Lib.hid hO9
    have HG9 := Lib.hid hG9
    have HQ6 := Lib.hid hQ6
    have HK := Lib.hid hK
    have hw6 := hI.b.size
    have n1 : q ≠ w.heap.size + 1 + 1 + 1 := by omega
    have n2 : q ≠ w.heap.size + 1 := by omega
    clear hI hS9 hO9 hG9 hQ6 hK hS hz0 hz3
    dsimp only
    gi_wp2_with fail
    have hz0 := HZ.out
    have hz3 := HZ3.out
    have hzi := HI.out.z
    have hgA : W6.grownBy (W6.setCell ⟨q, 0, none⟩ (.slice A9 n9 c9)) (some q) := grown_set (grown_refl W6 _) 0 _
    have hqA := HQ6.out.1.set 0 (.slice A9 n9 c9)
    have hoA := own_grownN wishE_pure HO9.out hgA (fun r e => .inr (fun a ea e2 => by have := HO9.out.ge a ea; cases e; omega))
    have hrA := HI.out.r.grownO hgA (by intro e; injection e; omega)
    have hkA : Reg.KeepB w.heap.size [q] w _ := (Reg.KeepB.of HI.out.b).grown hgA (by omega) (.inr (by simp))
    have hDA := (hgA.block D (Array.getElem?_eq_some_iff.1 HK.out).1 (fun e => by injection e; omega)).trans HK.out
    generalize W6.setCell ⟨q, 0, none⟩ (.slice A9 n9 c9) = WA at *
    have hgB : WA.grownBy (WA.setCell ⟨q, 1, none⟩ (.int .i64 0)) (some q) := grown_set (grown_refl WA _) 1 _
    have hqB := hqA.set 1 (.int .i64 0)
    have hoB := own_grownN wishE_pure hoA hgB (fun r e => .inr (fun a ea e2 => by have := hoA.ge a ea; cases e; omega))
    have hrB := hrA.grownO hgB (by intro e; injection e; omega)
    have hkB : Reg.KeepB w.heap.size [q] w _ := hkA.grown hgB hkA.size (.inr (by simp))
    have hDB := (hgB.block D (Array.getElem?_eq_some_iff.1 hDA).1 (fun e => by injection e; omega)).trans hDA
    generalize WA.setCell ⟨q, 1, none⟩ (.int .i64 0) = WB at *
    have hgC : WB.grownBy (WB.setCell ⟨w.heap.size + 1, 0, none⟩ (.int .i64 (m9 : Int))) (some (w.heap.size + 1)) := grown_set (grown_refl WB _) 0 _
    have hqC := hqB.grownO hgC (by intro e; injection e; omega)
    have hoC := own_grownN wishE_pure hoB hgC (fun r e => .inr (fun a ea e2 => by have := hoB.ge a ea; cases e; omega))
    have hrC := hrB.set 0 (.int .i64 (m9 : Int))
    have hkC : Reg.KeepB w.heap.size [q] w _ := hkB.grown hgC hkB.size (.inl (by omega))
    have hDC := (hgC.block D (Array.getElem?_eq_some_iff.1 hDB).1 (fun e => by injection e; omega)).trans hDB
    generalize WB.setCell ⟨w.heap.size + 1, 0, none⟩ (.int .i64 (m9 : Int)) = WC at *
    have hgD := grownBy_putObj' WC D (.deferred none)
    have hqD := hqC.grownO hgD (by intro e; injection e; omega)
    have hoD := own_grownN wishE_pure hoC hgD (fun r e => .inl (by cases e; exact ⟨_, hDC, rfl⟩))
    have hrD := hrC.grownO hgD (by intro e; injection e; omega)
    have hkD : Reg.KeepB w.heap.size [q] w _ := hkC.grown hgD hkC.size (.inl (by omega))
    refine ⟨by simp, .inl ⟨_, _, rfl, run_takeDeferred hDC, ?_⟩⟩
    generalize WC.putObj D (.deferred none) = WD at *
    refine ⟨by simp, .inr ⟨fun _ => by omega, _, _, 73, #[.pointer (some ⟨w.heap.size + 1, 0, none⟩)], rfl, by simp [go_sem], fun g hg => trivial, ?_⟩⟩
    refine (cutEnd_any 4 _ _).mono ?_
    rintro e u' w'' ⟨rfl, rfl, rfl⟩
    have gR : w''.cell? ⟨w.heap.size + 1, 0, none⟩ = some (.int .i64 (m9 : Int)) := by have := str1 (show Str w'' (w.heap.size + 1) #[.int .i64 (m9 : Int)] by simpa using hrD); exact this
    refine ⟨.int .i64 (m9 : Int), ?_, ⟨_, rfl⟩, A9, n9, c9, ⟨by simpa using hqD, hoD.less (by omega)⟩, fun a ea => by have := hoD.ge a ea; omega, hkD⟩
    simp [settle, results, Tryd.results57, go_sem, gR]
end LockW
end Go.Proofs.YtkkfabnehhamdaaDoor
end
