/-
  Parts of the proof of LocksSteps.
-/
import Derived.Test.YtkkfabnehhamdaaDoorLkS22
import Derived.Test.YtkkfabnehhamdaaDoorLkS5
import Derived.ArgAppend
section
namespace Go.Proofs.YtkkfabnehhamdaaDoor
open Go.RowKit
namespace RefL
open LockP
set_option linter.unusedVariables false
def flat3 (l : List H3) : List Value := (l.map h3V).flatten
theorem flat3_len : ∀ l : List H3, (flat3 l).length = l.length * 3
  | [] => rfl
  | e :: l => by
    have ih := flat3_len l
    unfold flat3 at *
    rw [List.map_cons, List.flatten_cons, List.length_append, ih, List.length_cons]
    show 3 + _ = _
    omega
theorem flat3_app (l r : List H3) : flat3 (l ++ r) = flat3 l ++ flat3 r := by unfold flat3; rw [List.map_append, List.flatten_append]
theorem flat3_one (l : List H3) : ∀ v ∈ flat3 l, v.oneCell' = true := fun v hv => by
  obtain ⟨u, hu, hvu⟩ := List.mem_flatten.1 hv
  obtain ⟨x, -, rfl⟩ := List.mem_map.1 hu
  exact H3E.one (w := default) (B := 0) (x := x) rfl v hvu
theorem rel2_flat {w : World} {B : Nat} : ∀ {vs : List (List Value)} {l : List H3}, Rel2 (H3E.rel w B) vs l → vs.flatten = flat3 l
  | [], [], _ => rfl
  | v :: vs, x :: l, h => by
    have h1 : v = h3V x := h.1
    subst h1
    show h3V x ++ vs.flatten = h3V x ++ flat3 l
    rw [rel2_flat h.2]
  | [], _ :: _, h => h.elim
  | _ :: _, [], h => h.elim
theorem rel2_map {w : World} {B : Nat} : ∀ l : List H3, Rel2 (H3E.rel w B) (l.map h3V) l
  | [] => trivial
  | _ :: l => ⟨rfl, rel2_map l⟩
/-- a row of its own that reads as l; C: a word on its room -/
def Rw (N : Nat) (l : List H3) (C : Nat → Prop) (v : Value) (w : World) : Prop :=
  ∃ g c cur, v = .slice (some ⟨g, 0, none⟩) l.length c ∧ C c ∧ N ≤ g ∧ w.heap[g]? = some (.cells cur 28 (0, 0)) ∧ l.length ≤ c ∧ c ≤ maxLen ∧ cur.size = c * 3 ∧ cur.toList.take (l.length * 3) = flat3 l
section
variable {N B n2 c2 : Nat} {l l2 l' : List H3} {C C' : Nat → Prop} {v : Value} {w w' : World} {A2 : Option Addr}
theorem Rw.next (h : Rw N l C v w) (hb : Below w.heap.size w w') : Rw N l C v w' := by
  obtain ⟨g, c, cur, e, hC, hg, hh, r⟩ := h
  exact ⟨g, c, cur, e, hC, hg, (hb.block g (Array.getElem?_eq_some_iff.1 hh).1).trans hh, r⟩
theorem Rw.elems (h : Rw N l C v w) : ∃ A c, v = .slice A l.length c ∧ Elems H3E w w.heap.size A l.length c l := by
  obtain ⟨g, c, cur, e, hC, hg, hh, hnc, hm, hcs, htk⟩ := h
  refine ⟨_, c, e, (OwnE.mk' (E := H3E) (T := 28) (base := N) (cur := cur.toList) (vs := l.map h3V) hg hh hnc hm (by rw [Array.length_toList]; exact hcs) ?_ (rel2_map l) rfl).elems⟩
  show cur.toList.take (l.length * 3) = _
  rw [htk]
  rfl
theorem Rw.new (w : World) (hN : N ≤ w.heap.size) (x : H3) : Rw N [x] (fun c => c = 1) (.slice (some ⟨w.heap.size, 0, none⟩) 1 1) (w.alloc (.cells #[.int .i64 x.txn, .string x.key, .int .i64 x.mode] 28)) :=
  ⟨_, 1, _, rfl, rfl, hN, heap_alloc_new w _, Nat.le_refl _, by unfold maxLen; omega, rfl, rfl⟩
theorem Rw.empty (w : World) (hN : N ≤ w.heap.size) : Rw N [] (fun c => c = 0) (.slice (some ⟨w.heap.size, 0, none⟩) 0 0) (w.alloc (.cells #[] 28)) :=
  ⟨_, 0, _, rfl, rfl, hN, heap_alloc_new w _, Nat.le_refl _, by unfold maxLen; omega, rfl, rfl⟩
theorem rw_app (h : Rw N l C v w) (hq : Elems H3E w B A2 n2 c2 l2) (hn : l.length + n2 ≤ 1000000) (hN : N ≤ w.heap.size) :
    ∃ A' n' c' w', (appSem #[41, 41] 41 #[v, .slice A2 n2 c2]).run Tryd.prog w = .ok (.slice A' n' c') w' ∧ Rw N (l ++ l2) (fun c => l ++ l2 = [] → C c) (.slice A' n' c') w' ∧ Below N w w' ∧
      ∀ (l' : List H3) (C' : Nat → Prop), (l' = l ∨ l' = l ++ l2 ∨ l' = [] ∨ ∀ c, C c → C' c → l.length < c → False) → ∀ v0, Rw N l' C' v0 w → Rw N l' C' v0 w' := by
  obtain ⟨g, c, cur, rfl, hC, hg, hh, hnc, hm, hcs, htk⟩ := h
  obtain ⟨i0, hi0, z0, z1, z2⟩ := info_parts infoH3
  obtain ⟨vs, hr, hl2, hc2, hm2, hx2⟩ := hq
  have ef := rel2_flat hr
  rcases Nat.eq_zero_or_pos n2 with h0 | h0
  · subst h0
    have e3 : l2 = [] := List.eq_nil_of_length_eq_zero hl2
    subst e3
    have hl0 : ∀ a, (loadCells a 0).run Tryd.prog w = .ok #[] w := fun a => by simpa using run_loadCells_list (P := Tryd.prog) w a [] (by simp)
    refine ⟨some ⟨g, 0, none⟩, l.length, c, w, ?_, ?_, Below.refl _ _, fun l' C' _ v0 h0 => h0⟩
    · unfold appSem
      cases A2 <;> simp [Builtin.append_, run_underlying Tryd.underlying41, sizeOf, typeInfo, hi0, Builtin.lenOf, Builtin.firstCells, hnc, storeCells, hl0]
    · rw [List.append_nil]
      exact ⟨g, c, cur, rfl, fun _ => hC, hg, hh, hnc, hm, hcs, htk⟩
  · obtain ⟨b, o, rfl, hb, hcl⟩ := hx2 h0
    rw [ef] at hcl
    have hnews : ∀ j u, (flat3 l2)[j]? = some u → w.cell? ((⟨b, o, none⟩ : Addr).add j) = some u := fun j u hu => by rw [add_none]; exact hcl j u hu
    have hfl : (flat3 l2).length = n2 * 3 := by rw [flat3_len, hl2]
    have hne : l ++ l2 ≠ [] := fun e => by
      have := congrArg List.length e
      rw [List.length_append] at this
      simp only [List.length_nil] at this
      omega
    have htot : (l ++ l2).length = l.length + n2 := by rw [List.length_append, hl2]
    have hgl := (Array.getElem?_eq_some_iff.1 hh).1
    by_cases hroom : l.length + n2 ≤ c
    · have hfit : l.length * i0.size + (flat3 l2).length ≤ cur.size := by rw [z1, hfl, hcs]; omega
      have hrun := run_append_room (P := Tryd.prog) w 41 41 28 i0 Tryd.underlying41 hi0 g l.length c cur hh ⟨b, o, none⟩ n2 c2 (flat3 l2) (by rw [z1, hfl]) hnews (flat3_one l2) hroom hfit
      rw [z1] at hrun
      obtain ⟨new, hnew⟩ : ∃ x, (cur.toList.take (l.length * 3) ++ flat3 l2 ++ cur.toList.drop (l.length * 3 + (flat3 l2).length)).toArray = x := ⟨_, rfl⟩
      have hnl : new.size = cur.size := by
        rw [← hnew]
        simp only [List.size_toArray, List.length_append, List.length_take, List.length_drop, Array.length_toList]
        omega
      have hpre : new.toList.take ((l ++ l2).length * 3) = flat3 (l ++ l2) := by
        rw [← hnew, htk, ← flat3_app, ← flat3_len]
        exact List.take_left
      have hpre1 : new.toList.take (l.length * 3) = flat3 l := by
        rw [← hnew, htk, List.append_assoc, ← flat3_len]
        exact List.take_left
      rw [hnew] at hrun
      have hset := setRow_heap w g cur new 28 (0, 0) hh
      refine ⟨_, _, _, _, hrun, ⟨g, c, new, by rw [htot], fun e => absurd e hne, hg, hset, by omega, hm, by rw [hnl]; exact hcs, hpre⟩, ⟨rfl, rfl, rfl, by simp, fun k hk => setRow_other w g k _ (by omega)⟩, ?_⟩
      intro l' C' hl' v0 hv0
      obtain ⟨g', c', cur', rfl, hC', hg', hh', hnc', hm', hcs', htk'⟩ := hv0
      by_cases e : g' = g
      · subst e
        rw [hh] at hh'
        cases hh'
        have hcc : c' = c := by omega
        subst hcc
        refine ⟨g', c', new, rfl, hC', hg', hset, hnc', hm', by rw [hnl]; exact hcs, ?_⟩
        rcases hl' with rfl | rfl | rfl | h4
        · exact hpre1
        · exact hpre
        · rfl
        · exact (h4 c' hC hC' (by omega)).elim
      · exact ⟨g', c', cur', rfl, hC', hg', (setRow_other w g g' _ e).trans hh', hnc', hm', hcs', htk'⟩
    · have holds : ∀ j u, (flat3 l)[j]? = some u → w.cell? ((⟨g, 0, none⟩ : Addr).add j) = some u := fun j u hu => by
        rw [add_none, ← htk, List.getElem?_take] at *
        split at hu
        · simp only [World.cell?, hh, Nat.zero_add]
          simpa using hu
        · cases hu
      obtain ⟨v', w', hrun, hown, hgr⟩ := run_append_arg_grows (P := Tryd.prog) w 41 41 28 i0 _ 3 32 Tryd.underlying41 hi0 z0 z1 z2 rfl (by omega) ⟨g, 0, none⟩ l.length c (flat3 l) (flat3_len l) holds ⟨b, o, none⟩ n2 c2 (flat3 l2) hfl hnews (by omega) (by unfold maxLen; omega) (by omega)
      rcases hown.2 with ⟨-, h2⟩ | ⟨g2, c3, cur2, rfl, hg2, hh2, hnc2, hm2, hcs2, htk2⟩
      · omega
      have hbb : Below w.heap.size w w' := ⟨hgr.os, hgr.tape, hgr.output, hgr.size, fun k hk => hgr.block k hk (by simp)⟩
      refine ⟨_, _, _, _, hrun, ⟨g2, c3, cur2, by rw [htot], fun e => absurd e hne, by omega, hh2, by omega, hm2, hcs2, by rw [flat3_app, ← htk2, htot]⟩, hbb.mono hN, fun l' C' _ v0 h0 => h0.next hbb⟩
end
/-- rows stay what they are -/
def rowsW (N : Nat) (ps : List (List H3 × (Nat → Prop))) : Way := ⟨fun w w' => Below N w w' ∧ ∀ p ∈ ps, ∀ v, Rw N p.1 p.2 v w → Rw N p.1 p.2 v w', fun w => ⟨Below.refl N w, fun _ _ _ h => h⟩, fun _ _ _ h k => ⟨h.1.trans k.1, fun p hp v hv => k.2 p hp v (h.2 p hp v hv)⟩, fun w => ⟨⟨rfl, rfl, rfl, Nat.le_refl _, fun _ _ => rfl⟩, fun p hp v h => h⟩⟩
/-- one of the rows -/
def rowK (N : Nat) (ps : List (List H3 × (Nat → Prop))) (k : Nat) : SP (rowsW N ps) := ⟨fun v w => ∀ p, ps[k]? = some p → Rw N p.1 p.2 v w, fun v w w' h hv p hp => h.2 p (List.mem_of_getElem? hp) v (hv p hp)⟩
theorem rows_of {N : Nat} {ps : List (List H3 × (Nat → Prop))} {w w' : World} (hN : N ≤ w.heap.size) (hb : Below w.heap.size w w') : (rowsW N ps).rel w w' := ⟨hb.mono hN, fun p hp v h => h.next hb⟩
/-- the four rows of 'append(append([]Hold{}, l1...), l2...)', l2 told by one element or by a slice -/
def four (l1 l2 : List H3) (x : H3) : List (List H3 × (Nat → Prop)) := [([], fun c => c = 0), (l1, fun c => l1 = [] → c = 0), ([x], fun c => c = 1), (l1 ++ l2, fun _ => True)]
/-- the first append -/
theorem rows_one {N B n c : Nat} {A : Option Addr} {l1 l2 : List H3} {x : H3} {v : Value} {w : World} (h : ∀ p, (four l1 l2 x)[0]? = some p → Rw N p.1 p.2 v w) (hq : Elems H3E w B A n c l1) (hn : n ≤ 1000000) (hN : N ≤ w.heap.size) :
    ∃ A0 c0 A' n' c' w', v = .slice A0 0 c0 ∧ (appSem #[41, 41] 41 #[.slice A0 0 c0, .slice A n c]).run Tryd.prog w = .ok (.slice A' n' c') w' ∧ (∀ p, (four l1 l2 x)[1]? = some p → Rw N p.1 p.2 (.slice A' n' c') w') ∧ (rowsW N (four l1 l2 x)).rel w w' := by
  have h1 := h _ rfl
  obtain ⟨A', n', c', w', h2, h3, h4, h5⟩ := rw_app h1 hq (by simpa using hn) hN
  obtain ⟨g, c0, cur, rfl, hC, -⟩ := h1
  refine ⟨_, _, _, _, _, _, rfl, h2, fun p hp => ?_, h4, fun p hp v0 hv0 => h5 p.1 p.2 ?_ v0 hv0⟩
  · have e : p = (l1, fun c => l1 = [] → c = 0) := by simpa [four] using hp.symm
    rw [e]
    exact h3
  · simp only [four, List.mem_cons, List.not_mem_nil, or_false] at hp
    rcases hp with rfl | rfl | rfl | rfl
    · exact .inl rfl
    · exact .inr (.inl rfl)
    · exact .inr (.inr (.inr fun c e1 e2 => by simp at e1 e2; omega))
    · exact .inr (.inr (.inr fun c e1 _ e3 => by simp at e1 e3; omega))
/-- the second append -/
theorem rows_two {N B n c : Nat} {A : Option Addr} {l1 l2 : List H3} {x : H3} {v : Value} {w : World} (h : ∀ p, (four l1 l2 x)[1]? = some p → Rw N p.1 p.2 v w) (hq : Elems H3E w B A n c l2) (hn : l1.length + n ≤ 1000000) (hN : N ≤ w.heap.size) :
    ∃ A0 c0 A' n' c' w', v = .slice A0 l1.length c0 ∧ (appSem #[41, 41] 41 #[.slice A0 l1.length c0, .slice A n c]).run Tryd.prog w = .ok (.slice A' n' c') w' ∧ (∀ p, (four l1 l2 x)[3]? = some p → Rw N p.1 p.2 (.slice A' n' c') w') ∧ (rowsW N (four l1 l2 x)).rel w w' := by
  have h1 := h _ rfl
  obtain ⟨A', n', c', w', h2, h3, h4, h5⟩ := rw_app h1 hq hn hN
  obtain ⟨g, c0, cur, rfl, hC, -⟩ := h1
  refine ⟨_, _, _, _, _, _, rfl, h2, fun p hp => ?_, h4, fun p hp v0 hv0 => h5 p.1 p.2 ?_ v0 hv0⟩
  · have e : p = (l1 ++ l2, fun _ => True) := by simpa [four] using hp.symm
    rw [e]
    obtain ⟨g, c, cur, e, -, r⟩ := h3
    exact ⟨g, c, cur, e, trivial, r⟩
  · simp only [four, List.mem_cons, List.not_mem_nil, or_false] at hp
    rcases hp with rfl | rfl | rfl | rfl
    · exact .inr (.inr (.inl rfl))
    · exact .inl rfl
    · refine .inr (.inr (.inr fun c e1 e2 e3 => ?_))
      have e2' : c = 1 := e2
      have e4 : l1 = [] := List.eq_nil_of_length_eq_zero (by simp only at e3; omega)
      have := e1 e4
      omega
    · exact .inr (.inl rfl)
end RefL
end Go.Proofs.YtkkfabnehhamdaaDoor
end
section
namespace Go.Proofs.YtkkfabnehhamdaaDoor
open Go.RowKit
namespace RefL
open ModesP LockP
set_option linter.unusedVariables false
set_option linter.unusedSimpArgs false
theorem four_empty {N : Nat} {l1 l2 : List H3} {x : H3} (w : World) (hN : N ≤ w.heap.size) : ∀ p, (four l1 l2 x)[0]? = some p → Rw N p.1 p.2 (.slice (some ⟨w.heap.size, 0, none⟩) 0 0) (w.alloc (.cells #[] 28)) := fun p hp => by
  have e : p = ([], fun c => c = 0) := by simpa [four] using hp.symm
  rw [e]
  exact Rw.empty w hN
theorem four_new {N : Nat} {l1 l2 : List H3} {x : H3} (w : World) (hN : N ≤ w.heap.size) : ∀ p, (four l1 l2 x)[2]? = some p → Rw N p.1 p.2 (.slice (some ⟨w.heap.size, 0, none⟩) 1 1) (w.alloc (.cells #[.int .i64 x.txn, .string x.key, .int .i64 x.mode] 28)) := fun p hp => by
  have e : p = ([x], fun c => c = 1) := by simpa [four] using hp.symm
  rw [e]
  exact Rw.new w hN x
theorem four2 {N : Nat} {l1 l2 : List H3} {x : H3} {v : Value} {w : World} (h : (rowK N (four l1 l2 x) 2).pred v w) : ∃ A c, v = .slice A 1 c ∧ Elems H3E w w.heap.size A 1 c [x] := Rw.elems (h ([x], fun c => c = 1) rfl)
theorem four3 {N : Nat} {l1 l2 : List H3} {x : H3} {v : Value} {w : World} (h : (rowK N (four l1 l2 x) 3).pred v w) : ∃ A n c, v = .slice A n c ∧ Elems H3E w w.heap.size A n c (l1 ++ l2) ∧ ∀ a, A = some a → N ≤ a.block := by
  have h0 := h (l1 ++ l2, fun _ => True) rfl
  obtain ⟨A, c, h1, h2⟩ := Rw.elems h0
  refine ⟨A, _, c, h1, h2, fun a ea => ?_⟩
  obtain ⟨g, c', cur, e, -, hg, -⟩ := h0
  rw [h1, ea] at e
  cases e
  exact hg
/-- a table's box turns: no list of it does -/
theorem elems_box {w : World} {B b i n c p q p2 q2 : Nat} {A P P2 : Option Addr} {l : List H3} {v : Value} (hE : Elems H3E w B A n c l) (hs : Str w b #[.slice P p q, .slice P2 p2 q2]) : Elems H3E (w.setCell ⟨b, i, none⟩ v) B A n c l := by
  obtain ⟨vs, hr, hl, hnc, hm, hx⟩ := hE
  refine ⟨vs, hr, hl, hnc, hm, fun hn => ?_⟩
  obtain ⟨b', o, e, hb, hc⟩ := hx hn
  refine ⟨b', o, e, hb, fun j u hu => ?_⟩
  have hne : b' ≠ b := fun e2 => by
    subst e2
    have h1 := hc j u hu
    rw [hs.cell] at h1
    have hu2 := List.mem_of_getElem? hu
    rw [rel2_flat hr] at hu2
    obtain ⟨y, hy, hvy⟩ := List.mem_flatten.1 hu2
    obtain ⟨z, -, rfl⟩ := List.mem_map.1 hy
    simp only [h3V, List.mem_cons, List.not_mem_nil, or_false] at hvy
    have hk : o + j = 0 ∨ o + j = 1 := by
      have := (Array.getElem?_eq_some_iff.1 h1).1
      simp at this
      omega
    rcases hk with hk | hk <;> rw [hk] at h1 <;> simp at h1 <;> rcases hvy with rfl | rfl | rfl <;> cases h1
  exact (World.cell?_of_block ((grown_set (grown_refl w b) i v).block b' (by
    by_cases hlt : b' < w.heap.size
    · exact hlt
    · have h1 := hc j u hu
      simp only [World.cell?] at h1
      rw [Array.getElem?_eq_none (by omega)] at h1
      cases h1) (fun e => hne (Option.some.inj e)))).trans (hc j u hu)
theorem str_box {w : World} {b i : Nat} {P0 P1 : Option Addr} {p0 q0 p1 q1 : Nat} {A : Option Addr} {n c : Nat} (hi : i < 2) (hs : Str w b #[.slice P0 p0 q0, .slice P1 p1 q1]) : ∃ Q0 r0 s0 Q1 r1 s1, Str (w.setCell ⟨b, i, none⟩ (.slice A n c)) b #[.slice Q0 r0 s0, .slice Q1 r1 s1] := by
  have h := hs.set i (.slice A n c)
  match i, hi with
  | 0, _ => exact ⟨_, _, _, _, _, _, h⟩
  | 1, _ => exact ⟨_, _, _, _, _, _, h⟩
/-- the table that is handed back -/
theorem fin_box {w W : World} {b n c n2 c2 p0 q0 p1 q1 : Nat} {A A2 P0 P1 : Option Addr} {l l2 : List H3} (hs : Str W b #[.slice P0 p0 q0, .slice P1 p1 q1]) (hH : Elems H3E W W.heap.size A n c l) (hW : Elems H3E W W.heap.size A2 n2 c2 l2) (hB : Below w.heap.size w W) (hb : w.heap.size ≤ b) {W' : World} (hW' : (W.setCell ⟨b, 0, none⟩ (.slice A n c)).setCell ⟨b, 1, none⟩ (.slice A2 n2 c2) = W') :
    Elems H3E W' W'.heap.size A n c l ∧ Elems H3E W' W'.heap.size A2 n2 c2 l2 ∧ Below w.heap.size w W' := by
  obtain ⟨Q0, r0, s0, Q1, r1, s1, hs2⟩ := str_box (A := A) (n := n) (c := c) (i := 0) (by omega) hs
  have hz : W'.heap.size = W.heap.size := by rw [← hW']; simp
  rw [hz, ← hW']
  exact ⟨elems_box (elems_box hH hs) hs2, elems_box (elems_box hW hs) hs2, Below.setCell (Below.setCell hB hb _) hb _⟩
theorem hasI_any (s m : Int) (w : World) (h0 : 0 ≤ s) (h1 : s < 16) (h2 : 0 ≤ m) (h3 : m < 4) : Calls Tryd.prog 40 #[.int .i64 s, .int .i64 m] w fun e w' => e = .returned (.bool (hasM s m)) ∧ w = w' := by
  have h := has_any s.toNat m.toNat w (by omega) (by omega)
  rw [Int.toNat_of_nonneg h0, Int.toNat_of_nonneg h2] at h
  exact h
/-- the call hands back a table, and two words -/
def GivesA (w : World) (A0 A02 : Option Addr) (n0 n02 : Nat) (y : RT × Bool × Int) (e : Ending) (w' : World) : Prop := ∃ A n c A2 n2 c2, e = .returned (.tuple #[.agg #[.slice A n c, .slice A2 n2 c2], .bool y.2.1, .int .i64 y.2.2]) ∧ Elems H3E w' w'.heap.size A n c y.1.h ∧ Elems H3E w' w'.heap.size A2 n2 c2 y.1.w ∧ FrO w A0 n0 A n ∧ FrO w A02 n02 A2 n2 ∧ Below w.heap.size w w'
set_option maxRecDepth 100000 in
set_option maxHeartbeats 4000000 in
theorem ask_any (A A2 : Option Addr) (n c n2 c2 : Nat) (x : RT) (e : H3) (w : World) (hH : Elems H3E w w.heap.size A n c x.h) (hW : Elems H3E w w.heap.size A2 n2 c2 x.w) (hm : Modes3 x.h) (hn : n ≤ 10000) (hn2 : n2 ≤ 10000) :
    Calls Tryd.prog 17 #[.agg #[.slice A n c, .slice A2 n2 c2], .agg #[.int .i64 e.txn, .string e.key, .int .i64 e.mode]] w (GivesA w A A2 n n2 (askR x e)) := by
  obtain ⟨eu, ek, em⟩ := e
  dsimp only
  obtain ⟨W1, hW1⟩ : ∃ W, ((w.alloc (.cells #[.slice A n c, .slice A2 n2 c2] 43)).alloc (.cells #[.int .i64 eu, .string ek, .int .i64 em] 28)).alloc (.cells #[.slice none 0 0, .slice none 0 0] 43) = W := ⟨_, rfl⟩
  have hb1 : Below w.heap.size w W1 := by rw [← hW1]; exact balloc (balloc (balloc (bsame _) _) _) _
  have hs1 : Str W1 w.heap.size #[.slice A n c, .slice A2 n2 c2] := by rw [← hW1]; exact ((Str.new _ _ _).alloc _).alloc _
  have hs2 : Str W1 (w.heap.size + 1) #[.int .i64 eu, .string ek, .int .i64 em] := by rw [← hW1]; have := (Str.new (w.alloc (.cells #[.slice A n c, .slice A2 n2 c2] 43)) #[.int .i64 eu, .string ek, .int .i64 em] 28).alloc (.cells #[.slice none 0 0, .slice none 0 0] 43); simpa using this
  have hs4 : Str W1 (w.heap.size + 1 + 1) #[.slice none 0 0, .slice none 0 0] := by rw [← hW1]; have := Str.new ((w.alloc (.cells #[.slice A n c, .slice A2 n2 c2] 43)).alloc (.cells #[.int .i64 eu, .string ek, .int .i64 em] 28)) #[.slice none 0 0, .slice none 0 0] 43; simpa using this
  have HB1 := Lib.hid hb1
  have HS1 := Lib.hid hs1
  have HS2 := Lib.hid hs2
  have HS4 := Lib.hid hs4
  have HH := Lib.hid (hH.next hb1)
  have HW := Lib.hid (hW.next hb1)
  have HM := Lib.hid hm
  have hln := hH.len
  have hln2 := hW.len
  have g1 := str2 hs1
  have gl1 := hs1.lt
  have g2 := str3 hs2
  have gl2 := hs2.lt
  have g4 := str2 hs4
  have gl4 := hs4.lt
  have gf4 := fun j => hs4.frozen j
  have hz1 := hb1.size
  clear hH hW hb1 hs1 hs2 hs4 hm
  by_cases h0 : em < 0
  · have hd : decide (em < 0) = true := by simpa using h0
    have HR : Hid (askR x ⟨eu, ek, em⟩ = (x, false, 1)) := Lib.hid (by unfold askR; rw [if_pos (show isM em = false by cases h : isM em; rfl; have := isM_iff.1 h; omega)])
    clear h0
    go_enter Tryd.func17, Tryd.ntmps17
    go_wp2_with fail
    refine bodyPost_ret (v := .tuple #[.agg #[.slice A n c, .slice A2 n2 c2], .bool false, .int .i64 1]) (by simp [results, Tryd.results17, go_sem, *]) rfl ?_
    rw [HR.out]
    obtain ⟨k1, k2, k3⟩ := fin_box (w := w) HS4.out HH.out HW.out HB1.out (by omega) rfl
    exact ⟨_, _, _, _, _, _, rfl, k1, k2, .refl _ _ _, .refl _ _ _, k3⟩
  have hd : decide (em < 0) = false := by simpa using h0
  by_cases h3 : 3 < em
  · have hd3 : decide (em > 3) = true := by simpa using h3
    have HR : Hid (askR x ⟨eu, ek, em⟩ = (x, false, 1)) := Lib.hid (by unfold askR; rw [if_pos (show isM em = false by cases h : isM em; rfl; have := isM_iff.1 h; omega)])
    clear h0 h3
    go_enter Tryd.func17, Tryd.ntmps17
    go_wp2_with fail
    refine bodyPost_ret (v := .tuple #[.agg #[.slice A n c, .slice A2 n2 c2], .bool false, .int .i64 1]) (by simp [results, Tryd.results17, go_sem, *]) rfl ?_
    rw [HR.out]
    obtain ⟨k1, k2, k3⟩ := fin_box (w := w) HS4.out HH.out HW.out HB1.out (by omega) rfl
    exact ⟨_, _, _, _, _, _, rfl, k1, k2, .refl _ _ _, .refl _ _ _, k3⟩
  have hd3 : decide (3 < em) = false := by simp; omega
  have hi : isM em = true := isM_iff.2 ⟨by omega, by omega⟩
  have hp := place_any (A := A) (n := n) (c := c) (x := x) eu W1 HW.out (by omega)
  go_enter Tryd.func17, Tryd.ntmps17
  go_wp2_with fail
  clear hW1
  refine hp.mono ?_
  rintro e9 W2 ⟨rfl, hb2⟩
  have HB2 := Lib.hid (bstep HB1.out hb2)
  replace HS1 := Lib.hid (HS1.out.next hb2)
  replace HS2 := Lib.hid (HS2.out.next hb2)
  replace HS4 := Lib.hid (HS4.out.next hb2)
  replace HH := Lib.hid (HH.out.next hb2)
  replace HW := Lib.hid (HW.out.next hb2)
  have hz2 := hb2.size
  clear g1 gl1 g2 gl2 g4 gl4 gf4 hp hb2
  have g1 := str2 HS1.out
  have gl1 := HS1.out.lt
  have g2 := str3 HS2.out
  have gl2 := HS2.out.lt
  have g4 := str2 HS4.out
  have gl4 := HS4.out.lt
  have gf4 := fun j => HS4.out.frozen j
  cases hpl : placeR x.w eu with
  | some i =>
    have hpi : placeI x.w eu = (i : Int) := by unfold placeI; rw [hpl]
    have HR : Hid (askR x ⟨eu, ek, em⟩ = (x, false, 15)) := Lib.hid (by unfold askR; rw [if_neg (by rw [hi]; decide), if_pos (by dsimp only; rw [hpl]; rfl)])
    have hd4 : decide ((i : Int) ≥ 0) = true := by simp
    rw [hpi]
    clear hpl hpi
    go_wp2_with fail
    refine bodyPost_ret (v := .tuple #[.agg #[.slice A n c, .slice A2 n2 c2], .bool false, .int .i64 15]) (by simp [results, Tryd.results17, go_sem, *]) rfl ?_
    rw [HR.out]
    obtain ⟨k1, k2, k3⟩ := fin_box (w := w) HS4.out HH.out HW.out HB2.out (by omega) rfl
    exact ⟨_, _, _, _, _, _, rfl, k1, k2, .refl _ _ _, .refl _ _ _, k3⟩
  | none =>
    have hpi : placeI x.w eu = -1 := by unfold placeI; rw [hpl]
    have hbd := setR_bd HM.out eu ek
    obtain ⟨hv, hhv⟩ : ∃ v, hasM (setR x.h eu ek) em = v := ⟨_, rfl⟩
    have HV := Lib.hid hhv
    have HBD := Lib.hid hbd
    have HP := Lib.hid hpl
    rw [hpi]
    clear hpl hpi hhv hbd
    go_wp2_with fail
    refine Reg.wp_region_vals (R := ext) (W := W2) [Reg.eqv (.agg #[.slice A n c, .slice A2 n2 c2]), Reg.eqv (.pointer (some ⟨(w.heap.size + 1), 0, none⟩)), Reg.eqv (.int .i64 eu), Reg.eqv (.pointer (some ⟨(w.heap.size + 1), 1, none⟩)), Reg.eqv (.string ek), Reg.eqv (.int .i64 (setR x.h eu ek)), Reg.eqv (.pointer (some ⟨(w.heap.size + 1), 2, none⟩)), Reg.eqv (.int .i64 em), Reg.eqv (.bool hv)] 58 [[(2, none)], [(3, none)], [(23, some 1)], [(3, none)], [(25, some 3)], [(22, some 0), (24, some 2), (26, some 4)], [(3, none)], [(28, some 6)], [(27, some 5), (29, some 7)]] rfl (by kernel_rfl) (by kernel_rfl) (by kernel_rfl) ?_ [some 22, some 23, some 24, some 25, some 26, some 27, some 28, some 29, some 30] (by kernel_rfl) ?_
    · refine ⟨?_, ?_, ?_, ?_, ?_, ?_, ?_, ?_, ?_, trivial⟩
      · intro ax wx hx hs
        obtain ⟨e2, -⟩ := hs
        have g2 := Reg.ev (v := .pointer (some ⟨w.heap.size, 0, none⟩)) e2
        have l0 := str2 (HS1.out.next hx)
        have l1 := str3 (HS2.out.next hx)
        exact Reg.obl_free rfl (Reg.wp_eqv (Option.some_ne_none _) (by go_simp) rfl)
      · intro ax wx hx hs
        obtain ⟨e3, -⟩ := hs
        have g3 := Reg.ev (v := .pointer (some ⟨(w.heap.size + 1), 0, none⟩)) e3
        exact Reg.obl_free rfl (Reg.wp_eqv (Option.some_ne_none _) (by go_simp) rfl)
      · intro ax wx hx hs
        obtain ⟨e23, -⟩ := hs
        have g23 := Reg.ev (v := .pointer (some ⟨(w.heap.size + 1), 0, none⟩)) e23
        have l0 := str2 (HS1.out.next hx)
        have l1 := str3 (HS2.out.next hx)
        exact Reg.obl_free rfl (Reg.wp_eqv (Option.some_ne_none _) (by go_simp) rfl)
      · intro ax wx hx hs
        obtain ⟨e3, -⟩ := hs
        have g3 := Reg.ev (v := .pointer (some ⟨(w.heap.size + 1), 0, none⟩)) e3
        exact Reg.obl_free rfl (Reg.wp_eqv (Option.some_ne_none _) (by go_simp) rfl)
      · intro ax wx hx hs
        obtain ⟨e25, -⟩ := hs
        have g25 := Reg.ev (v := .pointer (some ⟨(w.heap.size + 1), 1, none⟩)) e25
        have l0 := str2 (HS1.out.next hx)
        have l1 := str3 (HS2.out.next hx)
        exact Reg.obl_free rfl (Reg.wp_eqv (Option.some_ne_none _) (by go_simp) rfl)
      · intro ax wx hx hs
        obtain ⟨e22, e24, e26, -⟩ := hs
        have g22 := Reg.ev (v := .agg #[.slice A n c, .slice A2 n2 c2]) e22
        have g24 := Reg.ev (v := .int .i64 eu) e24
        have g26 := Reg.ev (v := .string ek) e26
        refine Reg.obl_free rfl ?_
        have hx' : Below W2.heap.size W2 wx := hx
        go_simp
        refine (set_any (A2 := A2) (n2 := n2) (c2 := c2) (x := x) eu ek wx (HH.out.next hx') HM.out (by omega)).mono ?_
        rintro r wy ⟨rfl, hby⟩
        exact Reg.done (Option.some_ne_none _) rfl hby
      · intro ax wx hx hs
        obtain ⟨e3, -⟩ := hs
        have g3 := Reg.ev (v := .pointer (some ⟨(w.heap.size + 1), 0, none⟩)) e3
        exact Reg.obl_free rfl (Reg.wp_eqv (Option.some_ne_none _) (by go_simp) rfl)
      · intro ax wx hx hs
        obtain ⟨e28, -⟩ := hs
        have g28 := Reg.ev (v := .pointer (some ⟨(w.heap.size + 1), 2, none⟩)) e28
        have l0 := str2 (HS1.out.next hx)
        have l1 := str3 (HS2.out.next hx)
        exact Reg.obl_free rfl (Reg.wp_eqv (Option.some_ne_none _) (by go_simp) rfl)
      · intro ax wx hx hs
        obtain ⟨e27, e29, -⟩ := hs
        have g27 := Reg.ev (v := .int .i64 (setR x.h eu ek)) e27
        have g29 := Reg.ev (v := .int .i64 em) e29
        refine Reg.obl_free rfl ?_
        go_simp
        refine (hasI_any (setR x.h eu ek) em wx HBD.out.1 HBD.out.2 (by omega) (by omega)).mono ?_
        rintro r wy ⟨rfl, rfl⟩
        rw [HV.out]
        exact Reg.done (Option.some_ne_none _) rfl (bsame _)
    · intro W3 hwf
      simp only [Reg.Fin]
      rintro _ rfl _ rfl _ rfl _ rfl _ rfl _ rfl _ rfl _ rfl _ rfl
      go_simp
      have hwf' : Below W2.heap.size W2 W3 := hwf
      have HB3 := Lib.hid (bstep HB2.out hwf')
      replace HS1 := Lib.hid (HS1.out.next hwf')
      replace HS2 := Lib.hid (HS2.out.next hwf')
      replace HS4 := Lib.hid (HS4.out.next hwf')
      replace HH := Lib.hid (HH.out.next hwf')
      replace HW := Lib.hid (HW.out.next hwf')
      have hz3 := hwf'.size
      clear g1 gl1 g2 gl2 g4 gl4 gf4 hwf hwf'
      have g1 := str2 HS1.out
      have gl1 := HS1.out.lt
      have g2 := str3 HS2.out
      have gl2 := HS2.out.lt
      have g4 := str2 HS4.out
      have gl4 := HS4.out.lt
      have gf4 := fun j => HS4.out.frozen j
      cases hv with
      | true =>
        have HR : Hid (askR x ⟨eu, ek, em⟩ = (x, true, 0)) := Lib.hid (by unfold askR; rw [if_neg (by rw [hi]; decide), if_neg (by dsimp only; rw [HP.out]; decide), if_pos HV.out])
        go_wp2_with fail
        refine bodyPost_ret (v := .tuple #[.agg #[.slice A n c, .slice A2 n2 c2], .bool true, .int .i64 0]) (by simp [results, Tryd.results17, go_sem, *]) rfl ?_
        rw [HR.out]
        obtain ⟨k1, k2, k3⟩ := fin_box (w := w) HS4.out HH.out HW.out HB3.out (by omega) rfl
        exact ⟨_, _, _, _, _, _, rfl, k1, k2, .refl _ _ _, .refl _ _ _, k3⟩
      | false =>
        have hag := against_any A A2 n c n2 c2 x ⟨eu, ek, em⟩ n2 W3 HH.out HW.out HM.out (by omega) (by omega) (Nat.le_refl _)
        go_wp2_with fail
        refine hag.mono ?_
        rintro e9 W4 ⟨A8, n8, c8, rfl, hE8, hb4⟩
        have HB4 := Lib.hid (bstep HB3.out hb4)
        replace HS1 := Lib.hid (HS1.out.next hb4)
        replace HS2 := Lib.hid (HS2.out.next hb4)
        replace HS4 := Lib.hid (HS4.out.next hb4)
        replace HH := Lib.hid (HH.out.next hb4)
        replace HW := Lib.hid (HW.out.next hb4)
        have hz4 := hb4.size
        have hl8 := hE8.len
        clear g1 gl1 g2 gl2 g4 gl4 gf4 hag hb4 hE8
        have g1 := str2 HS1.out
        have gl1 := HS1.out.lt
        have g2 := str3 HS2.out
        have gl2 := HS2.out.lt
        have htw : x.w.take n2 = x.w := List.take_of_length_le (by omega)
        have h8 : n8 = 0 ↔ blkR x.h x.w ⟨eu, ek, em⟩ = [] := by
          unfold againstR at hl8
          rw [htw] at hl8
          rw [← hl8]
          constructor
          · intro h
            have h1 := List.eq_nil_of_length_eq_zero h
            rcases hbl : blkR x.h x.w ⟨eu, ek, em⟩ with _ | ⟨y, l⟩
            · rfl
            · have := ((SortI.sort_spec (blkR x.h x.w ⟨eu, ek, em⟩)).2 y).2 (by rw [hbl]; simp)
              rw [h1] at this
              cases this
          · intro h
            rw [h, SortI.sort_nil]
            rfl
        by_cases hnb : n8 = 0
        · have HR : Hid (askR x ⟨eu, ek, em⟩ = (⟨x.h ++ [⟨eu, ek, em⟩], x.w⟩, true, 0)) := Lib.hid (by unfold askR; rw [if_neg (by rw [hi]; decide), if_neg (by dsimp only; rw [HP.out]; decide), if_neg (by rw [show hasM (setR x.h eu ek) em = false from HV.out]; decide), if_pos (h8.1 hnb)])
          subst hnb
          clear h8 htw hl8
          go_wp2_with fail
          refine Reg.wp_region_tail (R := (rowsW W4.heap.size (four x.h [⟨eu, ek, em⟩] ⟨eu, ek, em⟩))) (W := W4) [rowK W4.heap.size (four x.h [⟨eu, ek, em⟩] ⟨eu, ek, em⟩) 0, Reg.eqv (.pointer (some ⟨w.heap.size, 0, none⟩)), Reg.eqv (.slice A n c), rowK W4.heap.size (four x.h [⟨eu, ek, em⟩] ⟨eu, ek, em⟩) 1, Reg.eqv (.agg #[.int .i64 eu, .string ek, .int .i64 em]), rowK W4.heap.size (four x.h [⟨eu, ek, em⟩] ⟨eu, ek, em⟩) 2, rowK W4.heap.size (four x.h [⟨eu, ek, em⟩] ⟨eu, ek, em⟩) 3, Reg.eqv (.pointer (some ⟨w.heap.size, 0, none⟩))] 58 8 _ [[], [(2, none)], [(41, some 1)], [(40, some 0), (42, some 2)], [(3, none)], [(44, some 4)], [(43, some 3), (45, some 5)], [(2, none)]] rfl (by kernel_rfl) (by kernel_rfl) (by rfl) (by rfl) rfl (by kernel_rfl) ?_ [some 40, some 41, some 42, some 43, some 44, some 45, some 46, some 47] (by kernel_rfl) ?_
          · refine ⟨?_, ?_, ?_, ?_, ?_, ?_, ?_, ?_, trivial⟩
            · intro ax wx hx hs
              refine Reg.obl_free rfl ?_
              have hx1 : Below W4.heap.size W4 wx := hx.1
              have hNx := hx1.size
              go_simp
              exact Reg.done (Option.some_ne_none _) (four_empty wx hNx) (rows_of hNx (balloc (bsame _) _))
            · intro ax wx hx hs
              obtain ⟨e2, -⟩ := hs
              have g2 := Reg.ev (v := .pointer (some ⟨w.heap.size, 0, none⟩)) e2
              exact Reg.obl_free rfl (Reg.wp_eqv (Option.some_ne_none _) (by go_simp) rfl)
            · intro ax wx hx hs
              obtain ⟨e41, -⟩ := hs
              have g41 := Reg.ev (v := .pointer (some ⟨w.heap.size, 0, none⟩)) e41
              have l0 := str2 (HS1.out.next hx.1)
              have l1 := str3 (HS2.out.next hx.1)
              exact Reg.obl_free rfl (Reg.wp_eqv (Option.some_ne_none _) (by go_simp) rfl)
            · intro ax wx hx hs
              obtain ⟨e40, e42, -⟩ := hs
              have g42 := Reg.ev (v := .slice A n c) e42
              refine Reg.obl_free rfl ?_
              have hx1 : Below W4.heap.size W4 wx := hx.1
              have hNx := hx1.size
              obtain ⟨A0, c0, A3, n3, c3, w3, e0, h3, h4, h5⟩ := rows_one (l1 := x.h) e40 (HH.out.next hx1) (by omega) hNx
              refine wp_appT (.tmp 40) (.tmp 42) rfl rfl e0 e42 h3 ?_
              exact Reg.done (Option.some_ne_none _) h4 h5
            · intro ax wx hx hs
              obtain ⟨e3, -⟩ := hs
              have g3 := Reg.ev (v := .pointer (some ⟨(w.heap.size + 1), 0, none⟩)) e3
              have l0 := str2 (HS1.out.next hx.1)
              have l1 := str3 (HS2.out.next hx.1)
              exact Reg.obl_free rfl (Reg.wp_eqv (Option.some_ne_none _) (by go_simp) rfl)
            · intro ax wx hx hs
              obtain ⟨e44, -⟩ := hs
              have g44 := Reg.ev (v := .agg #[.int .i64 eu, .string ek, .int .i64 em]) e44
              refine Reg.obl_free rfl ?_
              have hx1 : Below W4.heap.size W4 wx := hx.1
              have hNx := hx1.size
              go_simp
              exact Reg.done (Option.some_ne_none _) (four_new (x := ⟨eu, ek, em⟩) wx hNx) (rows_of hNx (balloc (bsame _) _))
            · intro ax wx hx hs
              obtain ⟨e43, e45, -⟩ := hs
              refine Reg.obl_free rfl ?_
              have hx1 : Below W4.heap.size W4 wx := hx.1
              have hNx := hx1.size
              obtain ⟨A5, c5, e5, hE5⟩ := four2 e45
              obtain ⟨A0, c0, A3, n3, c3, w3, e0, h3, h4, h5⟩ := rows_two (l1 := x.h) e43 hE5 (by omega) hNx
              refine wp_appT (.tmp 43) (.tmp 45) rfl rfl e0 e5 h3 ?_
              exact Reg.done (Option.some_ne_none _) h4 h5
            · intro ax wx hx hs
              obtain ⟨e2, -⟩ := hs
              have g2 := Reg.ev (v := .pointer (some ⟨w.heap.size, 0, none⟩)) e2
              exact Reg.obl_free rfl (Reg.wp_eqv (Option.some_ne_none _) (by go_simp) rfl)
          · intro W5 hwf
            simp only [Reg.Fin]
            rintro v40 h40 _ rfl _ rfl v43 h43 _ rfl v45 h45 v46 h46 _ rfl
            obtain ⟨A6, n6, c6, rfl, hE6, hA6⟩ := four3 h46
            have HF6 : Hid (∀ p, A6 = some p → w.heap.size ≤ p.block) := Lib.hid (fun p e => by have := hA6 p e; omega)
            have HE6 := Lib.hid hE6
            have hwf' : Below W4.heap.size W4 W5 := hwf.1
            have HB5 := Lib.hid (bstep HB4.out hwf')
            replace HS1 := Lib.hid (HS1.out.next hwf')
            replace HS2 := Lib.hid (HS2.out.next hwf')
            replace HS4 := Lib.hid (HS4.out.next hwf')
            replace HH := Lib.hid (HH.out.next hwf')
            replace HW := Lib.hid (HW.out.next hwf')
            have hz5 := hwf'.size
            clear hA6 g1 gl1 g2 gl2 hwf hwf' hE6 h40 h43 h45 h46
            have g1 := str2 HS1.out
            have gl1 := HS1.out.lt
            have gf1 := fun j => HS1.out.frozen j
            refine Reg.Goal.mk ?_
            go_simp
            obtain ⟨W6, hW6⟩ : ∃ W, W5.setCell ⟨w.heap.size, 0, none⟩ (.slice A6 n6 c6) = W := ⟨_, rfl⟩
            have HB6 : Hid (Below w.heap.size w W6) := Lib.hid (by rw [← hW6]; exact Below.setCell HB5.out (Nat.le_refl _) _)
            have hz6 : W6.heap.size = W5.heap.size := by rw [← hW6]; simp
            have HH6 : Hid (Elems H3E W6 W6.heap.size A n c x.h) := Lib.hid (by rw [hz6, ← hW6]; exact elems_box HH.out HS1.out)
            have HW6 : Hid (Elems H3E W6 W6.heap.size A2 n2 c2 x.w) := Lib.hid (by rw [hz6, ← hW6]; exact elems_box HW.out HS1.out)
            have HE66 : Hid (Elems H3E W6 W6.heap.size A6 n6 c6 (x.h ++ [(⟨eu, ek, em⟩ : H3)])) := Lib.hid (by rw [hz6, ← hW6]; exact elems_box HE6.out HS1.out)
            replace HS4 : Hid (Str W6 (w.heap.size + 1 + 1) #[.slice none 0 0, .slice none 0 0]) := Lib.hid (by rw [← hW6]; exact HS4.out.other 0 _ (by omega))
            replace HS1 : Hid (Str W6 w.heap.size #[.slice A6 n6 c6, .slice A2 n2 c2]) := Lib.hid (by rw [← hW6]; exact HS1.out.set 0 _)
            rw [hW6]
            clear hW6 g1 gl1 gf1 HH HW HE6
            have g1 := str2 HS1.out
            have gl1 := HS1.out.lt
            have g4 := str2 HS4.out
            have gl4 := HS4.out.lt
            have gf4 := fun j => HS4.out.frozen j
            go_wp2_with fail
            refine bodyPost_ret (v := .tuple #[.agg #[.slice A6 n6 c6, .slice A2 n2 c2], .bool true, .int .i64 0]) (by simp [results, Tryd.results17, go_sem, *]) rfl ?_
            rw [HR.out]
            obtain ⟨k1, k2, k3⟩ := fin_box (w := w) HS4.out HE66.out HW6.out HB6.out (by omega) rfl
            exact ⟨_, _, _, _, _, _, rfl, k1, k2, .inr HF6.out, .refl _ _ _, k3⟩
        · have HR : Hid (askR x ⟨eu, ek, em⟩ = (⟨x.h, x.w ++ [⟨eu, ek, em⟩]⟩, false, 0)) := Lib.hid (by unfold askR; rw [if_neg (by rw [hi]; decide), if_neg (by dsimp only; rw [HP.out]; decide), if_neg (by rw [show hasM (setR x.h eu ek) em = false from HV.out]; decide), if_neg (fun h => hnb (h8.2 h))])
          have hd8 : ((n8 : Int) == 0) = false := by simpa using hnb
          clear h8 htw hl8 hnb
          go_wp2_with fail
          refine Reg.wp_region_tail (R := (rowsW W4.heap.size (four x.w [⟨eu, ek, em⟩] ⟨eu, ek, em⟩))) (W := W4) [rowK W4.heap.size (four x.w [⟨eu, ek, em⟩] ⟨eu, ek, em⟩) 0, Reg.eqv (.pointer (some ⟨w.heap.size, 1, none⟩)), Reg.eqv (.slice A2 n2 c2), rowK W4.heap.size (four x.w [⟨eu, ek, em⟩] ⟨eu, ek, em⟩) 1, Reg.eqv (.agg #[.int .i64 eu, .string ek, .int .i64 em]), rowK W4.heap.size (four x.w [⟨eu, ek, em⟩] ⟨eu, ek, em⟩) 2, rowK W4.heap.size (four x.w [⟨eu, ek, em⟩] ⟨eu, ek, em⟩) 3, Reg.eqv (.pointer (some ⟨w.heap.size, 1, none⟩))] 58 8 _ [[], [(2, none)], [(50, some 1)], [(49, some 0), (51, some 2)], [(3, none)], [(53, some 4)], [(52, some 3), (54, some 5)], [(2, none)]] rfl (by kernel_rfl) (by kernel_rfl) (by rfl) (by rfl) rfl (by kernel_rfl) ?_ [some 49, some 50, some 51, some 52, some 53, some 54, some 55, some 56] (by kernel_rfl) ?_
          · refine ⟨?_, ?_, ?_, ?_, ?_, ?_, ?_, ?_, trivial⟩
            · intro ax wx hx hs
              refine Reg.obl_free rfl ?_
              have hx1 : Below W4.heap.size W4 wx := hx.1
              have hNx := hx1.size
              go_simp
              exact Reg.done (Option.some_ne_none _) (four_empty wx hNx) (rows_of hNx (balloc (bsame _) _))
            · intro ax wx hx hs
              obtain ⟨e2, -⟩ := hs
              have g2 := Reg.ev (v := .pointer (some ⟨w.heap.size, 0, none⟩)) e2
              exact Reg.obl_free rfl (Reg.wp_eqv (Option.some_ne_none _) (by go_simp) rfl)
            · intro ax wx hx hs
              obtain ⟨e50, -⟩ := hs
              have g50 := Reg.ev (v := .pointer (some ⟨w.heap.size, 1, none⟩)) e50
              have l0 := str2 (HS1.out.next hx.1)
              have l1 := str3 (HS2.out.next hx.1)
              exact Reg.obl_free rfl (Reg.wp_eqv (Option.some_ne_none _) (by go_simp) rfl)
            · intro ax wx hx hs
              obtain ⟨e49, e51, -⟩ := hs
              have g51 := Reg.ev (v := .slice A2 n2 c2) e51
              refine Reg.obl_free rfl ?_
              have hx1 : Below W4.heap.size W4 wx := hx.1
              have hNx := hx1.size
              obtain ⟨A0, c0, A3, n3, c3, w3, e0, h3, h4, h5⟩ := rows_one (l1 := x.w) e49 (HW.out.next hx1) (by omega) hNx
              refine wp_appT (.tmp 49) (.tmp 51) rfl rfl e0 e51 h3 ?_
              exact Reg.done (Option.some_ne_none _) h4 h5
            · intro ax wx hx hs
              obtain ⟨e3, -⟩ := hs
              have g3 := Reg.ev (v := .pointer (some ⟨(w.heap.size + 1), 0, none⟩)) e3
              have l0 := str2 (HS1.out.next hx.1)
              have l1 := str3 (HS2.out.next hx.1)
              exact Reg.obl_free rfl (Reg.wp_eqv (Option.some_ne_none _) (by go_simp) rfl)
            · intro ax wx hx hs
              obtain ⟨e53, -⟩ := hs
              have g53 := Reg.ev (v := .agg #[.int .i64 eu, .string ek, .int .i64 em]) e53
              refine Reg.obl_free rfl ?_
              have hx1 : Below W4.heap.size W4 wx := hx.1
              have hNx := hx1.size
              go_simp
              exact Reg.done (Option.some_ne_none _) (four_new (x := ⟨eu, ek, em⟩) wx hNx) (rows_of hNx (balloc (bsame _) _))
            · intro ax wx hx hs
              obtain ⟨e52, e54, -⟩ := hs
              refine Reg.obl_free rfl ?_
              have hx1 : Below W4.heap.size W4 wx := hx.1
              have hNx := hx1.size
              obtain ⟨A5, c5, e5, hE5⟩ := four2 e54
              obtain ⟨A0, c0, A3, n3, c3, w3, e0, h3, h4, h5⟩ := rows_two (l1 := x.w) e52 hE5 (by omega) hNx
              refine wp_appT (.tmp 52) (.tmp 54) rfl rfl e0 e5 h3 ?_
              exact Reg.done (Option.some_ne_none _) h4 h5
            · intro ax wx hx hs
              obtain ⟨e2, -⟩ := hs
              have g2 := Reg.ev (v := .pointer (some ⟨w.heap.size, 0, none⟩)) e2
              exact Reg.obl_free rfl (Reg.wp_eqv (Option.some_ne_none _) (by go_simp) rfl)
          · intro W5 hwf
            simp only [Reg.Fin]
            rintro v49 h49 _ rfl _ rfl v52 h52 _ rfl v54 h54 v55 h55 _ rfl
            obtain ⟨A6, n6, c6, rfl, hE6, hA6⟩ := four3 h55
            have HF6 : Hid (∀ p, A6 = some p → w.heap.size ≤ p.block) := Lib.hid (fun p e => by have := hA6 p e; omega)
            have HE6 := Lib.hid hE6
            have hwf' : Below W4.heap.size W4 W5 := hwf.1
            have HB5 := Lib.hid (bstep HB4.out hwf')
            replace HS1 := Lib.hid (HS1.out.next hwf')
            replace HS2 := Lib.hid (HS2.out.next hwf')
            replace HS4 := Lib.hid (HS4.out.next hwf')
            replace HH := Lib.hid (HH.out.next hwf')
            replace HW := Lib.hid (HW.out.next hwf')
            have hz5 := hwf'.size
            clear hA6 g1 gl1 g2 gl2 hwf hwf' hE6 h49 h52 h54 h55
            have g1 := str2 HS1.out
            have gl1 := HS1.out.lt
            have gf1 := fun j => HS1.out.frozen j
            refine Reg.Goal.mk ?_
            go_simp
            obtain ⟨W6, hW6⟩ : ∃ W, W5.setCell ⟨w.heap.size, 1, none⟩ (.slice A6 n6 c6) = W := ⟨_, rfl⟩
            have HB6 : Hid (Below w.heap.size w W6) := Lib.hid (by rw [← hW6]; exact Below.setCell HB5.out (Nat.le_refl _) _)
            have hz6 : W6.heap.size = W5.heap.size := by rw [← hW6]; simp
            have HH6 : Hid (Elems H3E W6 W6.heap.size A n c x.h) := Lib.hid (by rw [hz6, ← hW6]; exact elems_box HH.out HS1.out)
            have HW6 : Hid (Elems H3E W6 W6.heap.size A2 n2 c2 x.w) := Lib.hid (by rw [hz6, ← hW6]; exact elems_box HW.out HS1.out)
            have HE66 : Hid (Elems H3E W6 W6.heap.size A6 n6 c6 (x.w ++ [(⟨eu, ek, em⟩ : H3)])) := Lib.hid (by rw [hz6, ← hW6]; exact elems_box HE6.out HS1.out)
            replace HS4 : Hid (Str W6 (w.heap.size + 1 + 1) #[.slice none 0 0, .slice none 0 0]) := Lib.hid (by rw [← hW6]; exact HS4.out.other 1 _ (by omega))
            replace HS1 : Hid (Str W6 w.heap.size #[.slice A n c, .slice A6 n6 c6]) := Lib.hid (by rw [← hW6]; exact HS1.out.set 1 _)
            rw [hW6]
            clear hW6 g1 gl1 gf1 HH HW HE6
            have g1 := str2 HS1.out
            have gl1 := HS1.out.lt
            have g4 := str2 HS4.out
            have gl4 := HS4.out.lt
            have gf4 := fun j => HS4.out.frozen j
            go_wp2_with fail
            refine bodyPost_ret (v := .tuple #[.agg #[.slice A n c, .slice A6 n6 c6], .bool false, .int .i64 0]) (by simp [results, Tryd.results17, go_sem, *]) rfl ?_
            rw [HR.out]
            obtain ⟨k1, k2, k3⟩ := fin_box (w := w) HS4.out HH6.out HE66.out HB6.out (by omega) rfl
            exact ⟨_, _, _, _, _, _, rfl, k1, k2, .refl _ _ _, .inr HF6.out, k3⟩
end RefL
end Go.Proofs.YtkkfabnehhamdaaDoor
end
