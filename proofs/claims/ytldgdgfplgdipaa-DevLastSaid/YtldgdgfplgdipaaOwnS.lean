/-
  Bytes of the call's own behind a slice that may begin in the middle of its block; blocks that are written in the middle. No program in sight.
-/
import Derived.Test.YtldgdgfplgdipaaBytes
import Derived.Test.YtldgdgfplgdipaaStr
import Derived.Test.YtldgdgfplgdipaaCut
import Derived.Test.YtldgdgfplgdipaaBox
import Derived.Deep.AppendSrc
import Derived.Deep.Upon
import Derived.Deep.MidRow
namespace Go.Proofs.Ytldgdgfplgdipaa
open Go.RowKit
set_option linter.unusedVariables false
theorem splice_cons (cur : List Value) (o : Nat) (v : Value) (r : List Value) (h : o < cur.length) : splice (cur.set o v) (o + 1) r = splice cur o (v :: r) := by
  have e : (cur.set o v).take (o + 1) = cur.take o ++ [v] := by
    refine List.ext_getElem? fun j => ?_
    have hl : (cur.take o).length = o := by rw [List.length_take]; omega
    rcases Nat.lt_trichotomy j o with hj | rfl | hj
    · rw [List.getElem?_take_of_lt (by omega), List.getElem?_set_ne (by omega), List.getElem?_append_left (by omega), List.getElem?_take_of_lt hj]
    · rw [List.getElem?_take_of_lt (by omega), List.getElem?_set_self h, List.getElem?_append_right (by omega), hl]
      simp
    · rw [List.getElem?_eq_none (by simp; omega), List.getElem?_eq_none (by simp; omega)]
  unfold splice
  rw [e, List.drop_set_of_lt (by omega)]
  simp [Nat.add_assoc, Nat.add_comm 1]
theorem setCells_heap (b : Nat) : ∀ (vs : List Value) (o : Nat) (w : World) (cur : Array Value) (t : TypeId), w.heap[b]? = some (.cells cur t (0, 0)) → o + vs.length ≤ cur.size → (w.setCells b o vs).heap[b]? = some (.cells (splice cur.toList o vs).toArray t (0, 0))
  | [], o, w, cur, t, h, _ => by
    rw [World.setCells, h]
    simp [splice]
  | v :: r, o, w, cur, t, h, hl => by
    rw [World.setCells]
    have hl' : o + 1 + r.length ≤ cur.size := by simp at hl; omega
    have h1 : (w.setCell ⟨b, o, none⟩ v).heap[b]? = some (.cells (cur.setIfInBounds o v) t (0, 0)) := by simp [World.setCell, Array.getElem?_modify, h]
    rw [setCells_heap b r (o + 1) _ _ t h1 (by simpa using hl'), Array.toList_setIfInBounds, splice_cons _ _ _ _ (by simp at hl ⊢; omega)]
theorem grown_setCells (b : Nat) : ∀ (vs : List Value) (o : Nat) (w0 w : World), w0.grownBy w (some b) → w0.grownBy (w.setCells b o vs) (some b)
  | [], _, _, _, h => h
  | v :: r, o, w0, w, h => by
    rw [World.setCells]
    exact grown_setCells b r (o + 1) w0 _ (grown_set h o v)
theorem splice_get_in {cur vs : List Value} {o j : Nat} (h : o + vs.length ≤ cur.length) (hj : j < vs.length) : (splice cur o vs)[o + j]? = vs[j]? := by
  unfold splice
  have h0 : (cur.take o).length = o := by rw [List.length_take]; omega
  rw [List.getElem?_append_right (by omega), h0, List.getElem?_append_left (by omega)]
  congr 1
  omega
theorem splice_get_out {cur vs : List Value} {o j : Nat} (h : o + vs.length ≤ cur.length) (hj : j < o ∨ o + vs.length ≤ j) : (splice cur o vs)[j]? = cur[j]? := by
  unfold splice
  have h0 : (cur.take o).length = o := by rw [List.length_take]; omega
  rcases hj with hj | hj
  · rw [List.getElem?_append_left (by omega), List.getElem?_take_of_lt hj]
  · rw [List.getElem?_append_right (by omega), h0, List.getElem?_append_right (by omega), List.getElem?_drop]
    congr 1
    omega
theorem splice_len {cur vs : List Value} {o : Nat} (h : o + vs.length ≤ cur.length) : (splice cur o vs).length = cur.length := by
  unfold splice
  simp
  omega
/-- the block that such a slice lies in, if it has room -/
def OwnS (w : World) (gb : Option Nat) (A : Option Addr) (n c : Nat) (l : List UInt8) : Prop :=
  l.length = n ∧ n ≤ c ∧ c ≤ maxLen ∧ ((c = 0 ∧ gb = none) ∨ ∃ (g o : Nat) (cur : Array Value) (T : TypeId), gb = some g ∧ A = some ⟨g, o, none⟩ ∧ w.heap[g]? = some (.cells cur T (0, 0)) ∧ o + c ≤ cur.size ∧ ∀ (j : Nat) u, l[j]? = some u → cur[o + j]? = some (byteV u))
section
variable {w w' : World} {gb : Option Nat} {A : Option Addr} {n c : Nat} {l : List UInt8}
theorem OwnS.len (h : OwnS w gb A n c l) : l.length = n := h.1
theorem OwnS.none_ (w : World) : OwnS w none none 0 0 [] := ⟨rfl, Nat.le_refl _, by unfold maxLen; omega, .inl ⟨rfl, rfl⟩⟩
theorem OwnS.lt (h : OwnS w gb A n c l) : ∀ g, gb = some g → g < w.heap.size := by
  intro g hg
  obtain ⟨-, -, -, (⟨-, e⟩ | ⟨g', o, cur, T, e, -, hh, -⟩)⟩ := h
  · rw [e] at hg; cases hg
  · rw [e] at hg; cases hg; exact (Array.getElem?_eq_some_iff.1 hh).1
theorem OwnS.at_ (h : OwnS w gb A n c l) (hb : ∀ g, gb = some g → w'.heap[g]? = w.heap[g]?) : OwnS w' gb A n c l := by
  obtain ⟨h1, h2, h3, (h4 | ⟨g, o, cur, T, e, hA, hh, r⟩)⟩ := h
  · exact ⟨h1, h2, h3, .inl h4⟩
  · exact ⟨h1, h2, h3, .inr ⟨g, o, cur, T, e, hA, (hb g e).trans hh, r⟩⟩
theorem OwnS.next (h : OwnS w gb A n c l) (hb : Below w.heap.size w w') : OwnS w' gb A n c l := h.at_ fun g e => hb.block g (h.lt g e)
theorem OwnS.grown {g : Nat} (h : OwnS w gb A n c l) (hg : w.grownBy w' (some g)) (hne : gb ≠ some g) : OwnS w' gb A n c l := h.at_ fun k e => hg.block k (h.lt k e) (by rw [← e]; exact hne)
theorem OwnS.bytes (h : OwnS w gb A n c l) : Bytes w w.heap.size A n c l := by
  obtain ⟨h1, h2, h3, (⟨h4, -⟩ | ⟨g, o, cur, T, e, hA, hh, hs, hc⟩)⟩ := h
  · exact ⟨h1, h2, h3, fun hn => absurd hn (by omega)⟩
  · exact ⟨h1, h2, h3, fun _ => ⟨g, o, hA, (Array.getElem?_eq_some_iff.1 hh).1, fun j u hu => by rw [cell_of_row w g (o + j) cur T (0, 0) hh]; exact hc j u hu⟩⟩
/-- a part of it -/
theorem OwnS.cut (h : OwnS w gb A n c l) (lo hi m : Nat) (h1 : lo ≤ hi) (h2 : hi ≤ n) (h3 : hi ≤ m) (h4 : m ≤ c) : ∃ gb', OwnS w gb' (cutA A lo m 1) (hi - lo) (m - lo) ((l.drop lo).take (hi - lo)) ∧ (gb' = gb ∨ gb' = none) := by
  obtain ⟨hl, hc, hm, hx⟩ := h
  rcases hx with ⟨h0, e⟩ | ⟨g, o, cur, T, e, hA, hh, hs, hcell⟩
  · exact ⟨none, ⟨by simp; omega, by omega, by omega, .inl ⟨by omega, rfl⟩⟩, .inr rfl⟩
  · by_cases hml : m = lo
    · exact ⟨none, ⟨by simp; omega, by omega, by omega, .inl ⟨by omega, rfl⟩⟩, .inr rfl⟩
    · refine ⟨gb, ⟨by simp; omega, by omega, by omega, .inr ⟨g, o + lo, cur, T, e, ?_, hh, by omega, fun j u hu => ?_⟩⟩, .inl rfl⟩
      · unfold cutA
        rw [if_neg hml, hA]
        simp [add_none]
      · rw [List.getElem?_take] at hu
        split at hu
        · rw [List.getElem?_drop] at hu
          rw [Nat.add_assoc]
          exact hcell _ u hu
        · cases hu
/-- bytes that a call has made -/
theorem OwnS.of_own {base : Nat} {T : TypeId} (h : w.ownsRow base T 1 (.slice A n c) n (l.map byteV)) : ∃ gb, OwnS w gb A n c l ∧ ∀ g, gb = some g → base ≤ g := by
  have hl := (Bytes.own h).len
  rcases h.2 with ⟨e, h0⟩ | ⟨g, cap, cur, e, hg, hh, hnc, hm, hsz, htk⟩
  · cases e
    exact ⟨none, ⟨by simpa using hl, Nat.le_refl _, by unfold maxLen; omega, .inl ⟨rfl, rfl⟩⟩, by simp⟩
  · cases e
    by_cases hc0 : c = 0
    · exact ⟨none, ⟨hl, hnc, hm, .inl ⟨hc0, rfl⟩⟩, by simp⟩
    · refine ⟨some g, ⟨hl, hnc, hm, .inr ⟨g, 0, cur, T, rfl, rfl, hh, by omega, fun j u hu => ?_⟩⟩, fun k hk => by cases hk; exact hg⟩
      have hj : j < n := by rw [← hl]; exact (List.getElem?_eq_some_iff.1 hu).1
      have hx := congrArg (·[j]?) htk
      simp only [List.getElem?_take, List.getElem?_map, hu, Option.map_some] at hx
      rw [if_pos (by omega)] at hx
      simpa using hx
/-- an append onto it, out of whatever bytes -/
theorem OwnS.app {P : Program} (t ty e : TypeId) (ht : P.underlying t = some (.slice e)) (hi : (P.info? e).map (fun i => (i.zero, i.size, i.bytes)) = some (some (.int .u8 0), 1, 1)) (h : OwnS w gb A n c l) {B m c2 : Nat} {A2 : Option Addr} {l2 : List UInt8} (h2 : Bytes w B A2 m c2 l2) (hn : n + m ≤ 140737488355328) :
    ∃ A' c' w' gb', (appSem #[t, t] ty #[.slice A n c, .slice A2 m c2]).run P w = .ok (.slice A' (n + m) c') w' ∧ OwnS w' gb' A' (n + m) c' (l ++ l2) ∧ w.grownBy w' gb ∧ (gb' = gb ∨ gb' = some w.heap.size) := by
  obtain ⟨i0, hi0, hz0, hz1, hz2⟩ := info_parts hi
  have hm2 := h2.len
  have hln := h.len
  have hsrc : Src P 1 t (.slice A2 m c2) m (l2.map byteV) w := by
    by_cases h0 : m = 0
    · subst h0
      have : l2 = [] := List.eq_nil_of_length_eq_zero hm2
      subst this
      cases A2 with
      | none => exact Src.ofNil w ht c2
      | some a => exact Src.ofSlice w ht a 0 c2 [] (by simp) (fun j u hu => by simp at hu) (fun u hu => by cases hu)
    · obtain ⟨ad, rfl, hc⟩ := h2.src (by simp; omega)
      exact Src.ofSlice w ht ad m c2 _ (by simp [hm2]) hc (byteV_one l2)
  obtain ⟨hl, hc, hm, hx⟩ := h
  unfold appSem
  by_cases hroom : n + m ≤ c
  · rcases hx with ⟨h0, e1⟩ | ⟨g, o, cur, T, e1, hA, hh, hs, hcell⟩
    · have e2 : m = 0 := by omega
      have e3 : n = 0 := by omega
      subst e2
      have : l2 = [] := List.eq_nil_of_length_eq_zero hm2
      subst this
      exact ⟨A, c, w, none, run_append_nothing w t t ty e i0 ht hi0 A n c hc _ (by rw [hz1]; exact hsrc), ⟨by simpa using hl, by omega, hm, .inl ⟨h0, rfl⟩⟩, by rw [e1]; exact World.grownBy.refl w _, .inl e1.symm⟩
    · subst hA
      have hcl : ∀ j, j < (l2.map byteV).length → o + n + j < cur.size := fun j hj => by simp at hj; omega
      have hr := run_append_room_src (P := P) w t t ty e i0 ht hi0 g o n c (.slice A2 m c2) m (l2.map byteV) (by rw [hz1]; exact hsrc) hroom
        (fun j hj => by rw [hz1, Nat.mul_one, cell_of_row w g _ cur T (0, 0) hh, Array.getElem?_eq_getElem (hcl j hj)]; rfl)
        (fun j hj => by simp [World.frozen?, hh])
      rw [hz1, Nat.mul_one] at hr
      have hfit : o + n + (l2.map byteV).length ≤ cur.size := by simp; omega
      refine ⟨some ⟨g, o, none⟩, c, _, gb, hr, ⟨by simp; omega, by omega, hm, .inr ⟨g, o, _, T, e1, rfl, setCells_heap g _ _ w cur T hh hfit, ?_, fun j u hu => ?_⟩⟩, by rw [e1]; exact grown_setCells g _ _ w w (World.grownBy.refl w _), .inl rfl⟩
      · rw [List.size_toArray, splice_len (by simpa using hfit)]
        simpa using hs
      · rw [List.getElem?_toArray]
        by_cases hj : j < n
        · rw [splice_get_out (by simpa using hfit) (.inl (by omega)), Array.getElem?_toList]
          exact hcell j u (by rw [List.getElem?_append_left (by omega)] at hu; exact hu)
        · rw [List.getElem?_append_right (by omega)] at hu
          have hj2 : j - l.length < l2.length := (List.getElem?_eq_some_iff.1 hu).1
          have := splice_get_in (cur := cur.toList) (vs := l2.map byteV) (o := o + n) (j := j - l.length) (by simpa using hfit) (by simpa using hj2)
          rw [show o + n + (j - l.length) = o + j by omega] at this
          rw [this, List.getElem?_map, hu]
          rfl
  · have hg : c < n + m := by omega
    have hold : (Builtin.firstCells i0.size n (.slice A n c)).run P w.drew = .ok (l.map byteV).toArray w.drew := by
      rw [hz1]
      rcases hx with ⟨h0, e1⟩ | ⟨g, o, cur, T, e1, hA, hh, hs, hcell⟩
      · have e3 : n = 0 := by omega
        subst e3
        have : l = [] := List.eq_nil_of_length_eq_zero hl
        subst this
        cases A with
        | none => exact run_firstCells_none w.drew 1 0 0 c
        | some a => exact run_firstCells_some w.drew 1 0 a 0 c [] (by simp) (fun j v hv => by simp at hv)
      · subst hA
        refine run_firstCells_some w.drew 1 n _ n c _ (by simp [hl]) (fun j v hv => ?_)
        rw [List.getElem?_map, Option.map_eq_some_iff] at hv
        obtain ⟨u, hu, rfl⟩ := hv
        rw [add_none]
        show w.cell? _ = _
        rw [cell_of_row w g _ cur T (0, 0) hh]
        exact hcell j u hu
    have hr := run_append_grow_src (P := P) w t t ty e i0 _ ht hi0 hz0 A n c (l.map byteV) hold (.slice A2 m c2) m (l2.map byteV) (by rw [hz1]; exact hsrc) hg (by omega) (growslice_fits hg (by rw [hz2]; omega))
    refine ⟨_, _, _, some w.heap.size, hr, ⟨by simp; omega, grownCap_ge _ _ _ _, grownCap_le_maxLen _ _ _ _ (by unfold maxLen; omega), .inr ⟨_, 0, _, e, rfl, rfl, heap_alloc_new w.drew _, ?_, fun j u hu => ?_⟩⟩, ?_, .inr rfl⟩
    · have := grownCap_ge w (n + m) c e
      simp only [Array.size_append, List.size_toArray, List.length_append, List.length_map, size_zeroCells, Value.cells]
      simp
      omega
    · rw [Nat.zero_add]
      have hj : j < (l ++ l2).length := (List.getElem?_eq_some_iff.1 hu).1
      rw [Array.getElem?_append_left (by simpa using hj), List.getElem?_toArray, ← List.map_append, List.getElem?_map, hu]
      rfl
    · exact ⟨rfl, rfl, rfl, by simp, fun k hk _ => Below.heap_alloc w.drew _ k hk⟩
end
end Go.Proofs.Ytldgdgfplgdipaa
