/-
  Parts of the proof of PlanGrows.
-/
import Derived.Test.YtpklclnehlgcpaaGreatPlanG0
import Derived.Test.YtpklclnehlgcpaaGreatPlanG2
import Derived.Deep.AppendSrc
import Derived.Deep.Upon
import Derived.Deep.MidRow
import Derived.Test.YtpklclnehlgcpaaGreatPlanG4
import Derived.Laws.IdiomCopy
import Derived.Test.YtpklclnehlgcpaaGreatPlanG1
import Derived.Test.YtpklclnehlgcpaaGreatPlanG3
section
namespace Go.Proofs.YtpklclnehlgcpaaGreat
open Go.RowKit
set_option linter.unusedVariables false
theorem splice_cons (cur : List Value) (o : Nat) (v : Value) (r : List Value) (h : o < cur.length) : splice (cur.set o v) (o + 1) r = splice cur o (v :: r) := by
  have e : (cur.set o v).take (o + 1) = cur.take o ++ [v] := by
    refine List.ext_getElem? fun j => ?_
    have hl : (cur.take o).length = o := by rw [List.length_take]; omega
    rcases Nat.lt_trichotomy j o with hj | rfl | hj
    · rw [List.getElem?_take_of_lt (by omega), List.getElem?_set_ne (by omega), List.getElem?_append_left (by omega), List.getElem?_take_of_lt hj]
    · rw [List.getElem?_take_of_lt (by omega), List.getElem?_set_self h, List.getElem?_append_right (by omega), hl]
      simp
    · rw [List.getElem?_eq_none (by simp; omega), List.getElem?_eq_none (by simp; omega)]
  unfold splice
  rw [e, List.drop_set_of_lt (by omega)]
  simp [Nat.add_assoc, Nat.add_comm 1]
theorem setCells_heap (b : Nat) : ∀ (vs : List Value) (o : Nat) (w : World) (cur : Array Value) (t : TypeId), w.heap[b]? = some (.cells cur t (0, 0)) → o + vs.length ≤ cur.size → (w.setCells b o vs).heap[b]? = some (.cells (splice cur.toList o vs).toArray t (0, 0))
  | [], o, w, cur, t, h, _ => by
    rw [World.setCells, h]
    simp [splice]
  | v :: r, o, w, cur, t, h, hl => by
    rw [World.setCells]
    have hl' : o + 1 + r.length ≤ cur.size := by simp at hl; omega
    have h1 : (w.setCell ⟨b, o, none⟩ v).heap[b]? = some (.cells (cur.setIfInBounds o v) t (0, 0)) := by simp [World.setCell, Array.getElem?_modify, h]
    rw [setCells_heap b r (o + 1) _ _ t h1 (by simpa using hl'), Array.toList_setIfInBounds, splice_cons _ _ _ _ (by simp at hl ⊢; omega)]
theorem grown_setCells (b : Nat) : ∀ (vs : List Value) (o : Nat) (w0 w : World), w0.grownBy w (some b) → w0.grownBy (w.setCells b o vs) (some b)
  | [], _, _, _, h => h
  | v :: r, o, w0, w, h => by
    rw [World.setCells]
    exact grown_setCells b r (o + 1) w0 _ (grown_set h o v)
theorem splice_get_in {cur vs : List Value} {o j : Nat} (h : o + vs.length ≤ cur.length) (hj : j < vs.length) : (splice cur o vs)[o + j]? = vs[j]? := by
  unfold splice
  have h0 : (cur.take o).length = o := by rw [List.length_take]; omega
  rw [List.getElem?_append_right (by omega), h0, List.getElem?_append_left (by omega)]
  congr 1
  omega
theorem splice_get_out {cur vs : List Value} {o j : Nat} (h : o + vs.length ≤ cur.length) (hj : j < o ∨ o + vs.length ≤ j) : (splice cur o vs)[j]? = cur[j]? := by
  unfold splice
  have h0 : (cur.take o).length = o := by rw [List.length_take]; omega
  rcases hj with hj | hj
  · rw [List.getElem?_append_left (by omega), List.getElem?_take_of_lt hj]
  · rw [List.getElem?_append_right (by omega), h0, List.getElem?_append_right (by omega), List.getElem?_drop]
    congr 1
    omega
theorem splice_len {cur vs : List Value} {o : Nat} (h : o + vs.length ≤ cur.length) : (splice cur o vs).length = cur.length := by
  unfold splice
  simp
  omega
/-- the block that such a slice lies in, if it has room -/
def OwnS (w : World) (gb : Option Nat) (A : Option Addr) (n c : Nat) (l : List UInt8) : Prop :=
  l.length = n ∧ n ≤ c ∧ c ≤ maxLen ∧ ((c = 0 ∧ gb = none) ∨ ∃ (g o : Nat) (cur : Array Value) (T : TypeId), gb = some g ∧ A = some ⟨g, o, none⟩ ∧ w.heap[g]? = some (.cells cur T (0, 0)) ∧ o + c ≤ cur.size ∧ ∀ (j : Nat) u, l[j]? = some u → cur[o + j]? = some (byteV u))
section
variable {w w' : World} {gb : Option Nat} {A : Option Addr} {n c : Nat} {l : List UInt8}
theorem OwnS.len (h : OwnS w gb A n c l) : l.length = n := h.1
theorem OwnS.none_ (w : World) : OwnS w none none 0 0 [] := ⟨rfl, Nat.le_refl _, by unfold maxLen; omega, .inl ⟨rfl, rfl⟩⟩
theorem OwnS.lt (h : OwnS w gb A n c l) : ∀ g, gb = some g → g < w.heap.size := by
  intro g hg
  obtain ⟨-, -, -, (⟨-, e⟩ | ⟨g', o, cur, T, e, -, hh, -⟩)⟩ := h
  · rw [e] at hg; cases hg
  · rw [e] at hg; cases hg; exact (Array.getElem?_eq_some_iff.1 hh).1
theorem OwnS.at_ (h : OwnS w gb A n c l) (hb : ∀ g, gb = some g → w'.heap[g]? = w.heap[g]?) : OwnS w' gb A n c l := by
  obtain ⟨h1, h2, h3, (h4 | ⟨g, o, cur, T, e, hA, hh, r⟩)⟩ := h
  · exact ⟨h1, h2, h3, .inl h4⟩
  · exact ⟨h1, h2, h3, .inr ⟨g, o, cur, T, e, hA, (hb g e).trans hh, r⟩⟩
theorem OwnS.next (h : OwnS w gb A n c l) (hb : Below w.heap.size w w') : OwnS w' gb A n c l := h.at_ fun g e => hb.block g (h.lt g e)
theorem OwnS.grown {g : Nat} (h : OwnS w gb A n c l) (hg : w.grownBy w' (some g)) (hne : gb ≠ some g) : OwnS w' gb A n c l := h.at_ fun k e => hg.block k (h.lt k e) (by rw [← e]; exact hne)
theorem OwnS.bytes (h : OwnS w gb A n c l) : Bytes w w.heap.size A n c l := by
  obtain ⟨h1, h2, h3, (⟨h4, -⟩ | ⟨g, o, cur, T, e, hA, hh, hs, hc⟩)⟩ := h
  · exact ⟨h1, h2, h3, fun hn => absurd hn (by omega)⟩
  · exact ⟨h1, h2, h3, fun _ => ⟨g, o, hA, (Array.getElem?_eq_some_iff.1 hh).1, fun j u hu => by rw [cell_of_row w g (o + j) cur T (0, 0) hh]; exact hc j u hu⟩⟩
/-- a part of it -/
theorem OwnS.cut (h : OwnS w gb A n c l) (lo hi m : Nat) (h1 : lo ≤ hi) (h2 : hi ≤ n) (h3 : hi ≤ m) (h4 : m ≤ c) : ∃ gb', OwnS w gb' (cutA A lo m 1) (hi - lo) (m - lo) ((l.drop lo).take (hi - lo)) ∧ (gb' = gb ∨ gb' = none) := by
  obtain ⟨hl, hc, hm, hx⟩ := h
  rcases hx with ⟨h0, e⟩ | ⟨g, o, cur, T, e, hA, hh, hs, hcell⟩
  · exact ⟨none, ⟨by simp; omega, by omega, by omega, .inl ⟨by omega, rfl⟩⟩, .inr rfl⟩
  · by_cases hml : m = lo
    · exact ⟨none, ⟨by simp; omega, by omega, by omega, .inl ⟨by omega, rfl⟩⟩, .inr rfl⟩
    · refine ⟨gb, ⟨by simp; omega, by omega, by omega, .inr ⟨g, o + lo, cur, T, e, ?_, hh, by omega, fun j u hu => ?_⟩⟩, .inl rfl⟩
      · unfold cutA
        rw [if_neg hml, hA]
        simp [add_none]
      · rw [List.getElem?_take] at hu
        split at hu
        · rw [List.getElem?_drop] at hu
          rw [Nat.add_assoc]
          exact hcell _ u hu
        · cases hu
/-- an append onto it, out of whatever bytes -/
theorem OwnS.app {P : Program} (t ty e : TypeId) (ht : P.underlying t = some (.slice e)) (hi : (P.info? e).map (fun i => (i.zero, i.size, i.bytes)) = some (some (.int .u8 0), 1, 1)) (h : OwnS w gb A n c l) {B m c2 : Nat} {A2 : Option Addr} {l2 : List UInt8} (h2 : Bytes w B A2 m c2 l2) (hn : n + m ≤ 140737488355328) :
    ∃ A' c' w' gb', (appSem #[t, t] ty #[.slice A n c, .slice A2 m c2]).run P w = .ok (.slice A' (n + m) c') w' ∧ OwnS w' gb' A' (n + m) c' (l ++ l2) ∧ w.grownBy w' gb ∧ (gb' = gb ∨ gb' = some w.heap.size) := by
  obtain ⟨i0, hi0, hz0, hz1, hz2⟩ := info_parts hi
  have hm2 := h2.len
  have hln := h.len
  have hsrc : Src P 1 t (.slice A2 m c2) m (l2.map byteV) w := by
    by_cases h0 : m = 0
    · subst h0
      have : l2 = [] := List.eq_nil_of_length_eq_zero hm2
      subst this
      cases A2 with
      | none => exact Src.ofNil w ht c2
      | some a => exact Src.ofSlice w ht a 0 c2 [] (by simp) (fun j u hu => by simp at hu) (fun u hu => by cases hu)
    · obtain ⟨ad, rfl, hc⟩ := h2.src (by simp; omega)
      exact Src.ofSlice w ht ad m c2 _ (by simp [hm2]) hc (byteV_one l2)
  obtain ⟨hl, hc, hm, hx⟩ := h
  unfold appSem
  by_cases hroom : n + m ≤ c
  · rcases hx with ⟨h0, e1⟩ | ⟨g, o, cur, T, e1, hA, hh, hs, hcell⟩
    · have e2 : m = 0 := by omega
      have e3 : n = 0 := by omega
      subst e2
      have : l2 = [] := List.eq_nil_of_length_eq_zero hm2
      subst this
      exact ⟨A, c, w, none, run_append_nothing w t t ty e i0 ht hi0 A n c hc _ (by rw [hz1]; exact hsrc), ⟨by simpa using hl, by omega, hm, .inl ⟨h0, rfl⟩⟩, by rw [e1]; exact World.grownBy.refl w _, .inl e1.symm⟩
    · subst hA
      have hcl : ∀ j, j < (l2.map byteV).length → o + n + j < cur.size := fun j hj => by simp at hj; omega
      have hr := run_append_room_src (P := P) w t t ty e i0 ht hi0 g o n c (.slice A2 m c2) m (l2.map byteV) (by rw [hz1]; exact hsrc) hroom
        (fun j hj => by rw [hz1, Nat.mul_one, cell_of_row w g _ cur T (0, 0) hh, Array.getElem?_eq_getElem (hcl j hj)]; rfl)
        (fun j hj => by simp [World.frozen?, hh])
      rw [hz1, Nat.mul_one] at hr
      have hfit : o + n + (l2.map byteV).length ≤ cur.size := by simp; omega
      refine ⟨some ⟨g, o, none⟩, c, _, gb, hr, ⟨by simp; omega, by omega, hm, .inr ⟨g, o, _, T, e1, rfl, setCells_heap g _ _ w cur T hh hfit, ?_, fun j u hu => ?_⟩⟩, by rw [e1]; exact grown_setCells g _ _ w w (World.grownBy.refl w _), .inl rfl⟩
      · rw [List.size_toArray, splice_len (by simpa using hfit)]
        simpa using hs
      · rw [List.getElem?_toArray]
        by_cases hj : j < n
        · rw [splice_get_out (by simpa using hfit) (.inl (by omega)), Array.getElem?_toList]
          exact hcell j u (by rw [List.getElem?_append_left (by omega)] at hu; exact hu)
        · rw [List.getElem?_append_right (by omega)] at hu
          have hj2 : j - l.length < l2.length := (List.getElem?_eq_some_iff.1 hu).1
          have := splice_get_in (cur := cur.toList) (vs := l2.map byteV) (o := o + n) (j := j - l.length) (by simpa using hfit) (by simpa using hj2)
          rw [show o + n + (j - l.length) = o + j by omega] at this
          rw [this, List.getElem?_map, hu]
          rfl
  · have hg : c < n + m := by omega
    have hold : (Builtin.firstCells i0.size n (.slice A n c)).run P w.drew = .ok (l.map byteV).toArray w.drew := by
      rw [hz1]
      rcases hx with ⟨h0, e1⟩ | ⟨g, o, cur, T, e1, hA, hh, hs, hcell⟩
      · have e3 : n = 0 := by omega
        subst e3
        have : l = [] := List.eq_nil_of_length_eq_zero hl
        subst this
        cases A with
        | none => exact run_firstCells_none w.drew 1 0 0 c
        | some a => exact run_firstCells_some w.drew 1 0 a 0 c [] (by simp) (fun j v hv => by simp at hv)
      · subst hA
        refine run_firstCells_some w.drew 1 n _ n c _ (by simp [hl]) (fun j v hv => ?_)
        rw [List.getElem?_map, Option.map_eq_some_iff] at hv
        obtain ⟨u, hu, rfl⟩ := hv
        rw [add_none]
        show w.cell? _ = _
        rw [cell_of_row w g _ cur T (0, 0) hh]
        exact hcell j u hu
    have hr := run_append_grow_src (P := P) w t t ty e i0 _ ht hi0 hz0 A n c (l.map byteV) hold (.slice A2 m c2) m (l2.map byteV) (by rw [hz1]; exact hsrc) hg (by omega) (growslice_fits hg (by rw [hz2]; omega))
    refine ⟨_, _, _, some w.heap.size, hr, ⟨by simp; omega, grownCap_ge _ _ _ _, grownCap_le_maxLen _ _ _ _ (by unfold maxLen; omega), .inr ⟨_, 0, _, e, rfl, rfl, heap_alloc_new w.drew _, ?_, fun j u hu => ?_⟩⟩, ?_, .inr rfl⟩
    · have := grownCap_ge w (n + m) c e
      simp only [Array.size_append, List.size_toArray, List.length_append, List.length_map, size_zeroCells, Value.cells]
      simp
      omega
    · rw [Nat.zero_add]
      have hj : j < (l ++ l2).length := (List.getElem?_eq_some_iff.1 hu).1
      rw [Array.getElem?_append_left (by simpa using hj), List.getElem?_toArray, ← List.map_append, List.getElem?_map, hu]
      rfl
    · exact ⟨rfl, rfl, rfl, by simp, fun k hk _ => Below.heap_alloc w.drew _ k hk⟩
end
end Go.Proofs.YtpklclnehlgcpaaGreat
end
section
namespace Go.Proofs.YtpklclnehlgcpaaGreat
open Go.RowKit
set_option linter.unusedVariables false
theorem runE_byt : El.Byt RunE := by
  rintro w w' B vs x hs ⟨A, n, c, e, h, r⟩
  exact ⟨A, n, c, e, h.subU hs, r⟩
end Go.Proofs.YtpklclnehlgcpaaGreat
end
section
namespace Go.Proofs.YtpklclnehlgcpaaGreat
open Go.RowKit
set_option linter.unusedVariables false
set_option linter.unusedSectionVars false
/-- bytes of the call's own lie beside what is hidden -/
theorem OwnS.hid {gb : Option Nat} {A A' : Option Addr} {n c : Nat} {l : List UInt8} {w : World} (h : OwnS w gb A' n c l) (hne : ∀ g a, gb = some g → A = some a → a.block ≠ g) : Bytes (Go.Proofs.YtpklclnehlgcpaaGreat.hid A w) w.heap.size A' n c l := by
  obtain ⟨h1, h2, h3, (⟨h4, -⟩ | ⟨g, o, cur, T, e, hA, hh, hs, hc⟩)⟩ := h
  · exact ⟨h1, h2, h3, fun hn => absurd hn (by omega)⟩
  · refine ⟨h1, h2, h3, fun _ => ⟨g, o, hA, (Array.getElem?_eq_some_iff.1 hh).1, fun j u hu => ?_⟩⟩
    have e1 : (Go.Proofs.YtpklclnehlgcpaaGreat.hid A w).cell? ⟨g, o + j, none⟩ = w.cell? ⟨g, o + j, none⟩ := by
      cases A with
      | none => rfl
      | some a => exact hide_other w a.block _ (fun q => hne g a e rfl q.symm)
    rw [e1, cell_of_row w g (o + j) cur T (0, 0) hh]
    exact hc j u hu
theorem ownE_lt {α : Type} {E : El α} {T : TypeId} {w : World} {base n c : Nat} {A : Option Addr} {l : List α} (h : OwnE E T w base A n c l) : ∀ a, A = some a → a.block < w.heap.size := by
  intro a e
  obtain ⟨vs, h1, -⟩ := h
  rcases h1.2 with ⟨e1, -⟩ | ⟨g, cap, cur, e1, -, hh, -⟩
  · cases e1; cases e
  · cases e1; cases e; exact (Array.getElem?_eq_some_iff.1 hh).1
namespace Reg
structure RunPush where
  N : Nat
  base : Nat
  d : Nat
  A : Option Addr
  n : Nat
  c : Nat
  l : List RunX
  x : RunX
  m : Nat
  T : TypeId
  TU : TypeId
  t0 : Tmp
  t1 : Tmp
  t2 : Tmp
  t3 : Tmp
  t4 : Tmp
section
variable {I : RunPush} {a : Act} {w w' : World} {b : Bool} {dst : Option Tmp} {v : Value} {P : Program}
def RunPush.Core (I : RunPush) (b : Bool) (a : Act) (w : World) : Prop := Str w I.d #[.slice I.A I.n I.c] ∧ OwnE RunE I.T w I.base I.A I.n I.c I.l ∧ (b = true → a.eval (.tmp I.t0) = .slice I.A I.n I.c)
def RunPush.By (I : RunPush) (w : World) (A2 : Option Addr) (c2 : Nat) : Prop := Bytes (hid I.A w) w.heap.size A2 I.m c2 I.x.data
def RunPush.Row (I : RunPush) (w : World) (A' : Option Addr) (c' : Nat) : Prop := OwnE RunE I.T w I.base A' (I.n + 1) c' (I.l ++ [I.x])
def RunPush.S (I : RunPush) : LS := fun k b a w => match k with
  | 0 => I.Core b a w
  | 1 => I.Core b a w ∧ ∃ A2 c2, a.eval (.tmp I.t1) = .slice A2 I.m c2 ∧ I.By w A2 c2
  | 2 => I.Core b a w ∧ ∃ A2 c2, a.eval (.tmp I.t2) = .agg #[.int .i64 I.x.at_, .slice A2 I.m c2] ∧ I.By w A2 c2
  | 3 => I.Core b a w ∧ ∃ g, a.eval (.tmp I.t3) = .slice (some ⟨g, 0, none⟩) 1 1 ∧ ElemsIn RunE (hid I.A w) w w.heap.size (some ⟨g, 0, none⟩) 1 1 [I.x]
  | 4 => b = true ∧ ∃ A' c', a.eval (.tmp I.t4) = .slice A' (I.n + 1) c' ∧ Str w I.d #[.slice I.A I.n I.c] ∧ I.Row w A' c'
  | _ => b = true ∧ ∃ A' c', Str w I.d #[.slice A' (I.n + 1) c'] ∧ I.Row w A' c'
theorem RunPush.Core.put (hd : dst ≠ some I.t0) (h : I.Core b a w) (hb : Below w.heap.size w w') : I.Core b (a.put dst v) w' :=
  ⟨h.1.next hb, h.2.1.next hb, fun e => by rw [eval_ne hd]; exact h.2.2 e⟩
theorem RunPush.By.next {A2 : Option Addr} {c2 : Nat} (h : I.By w A2 c2) (hb : Below w.heap.size w w') : I.By w' A2 c2 := (Bytes.sub h (hid_below I.A hb)).more hb.size
theorem RunPush.S_put (hd : dst ≠ some I.t0 ∧ dst ≠ some I.t1 ∧ dst ≠ some I.t2 ∧ dst ≠ some I.t3 ∧ dst ≠ some I.t4) (k : Nat) (h : I.S k b a w) (hb : Below w.heap.size w w') : I.S k b (a.put dst v) w' := by
  obtain ⟨d0, d1, d2, d3, d4⟩ := hd
  match k, h with
  | 0, h => exact RunPush.Core.put d0 h hb
  | 1, h =>
    obtain ⟨h0, A2, c2, h1, h2⟩ := h
    exact ⟨h0.put d0 hb, A2, c2, by rw [eval_ne d1]; exact h1, h2.next hb⟩
  | 2, h =>
    obtain ⟨h0, A2, c2, h1, h2⟩ := h
    exact ⟨h0.put d0 hb, A2, c2, by rw [eval_ne d2]; exact h1, h2.next hb⟩
  | 3, h =>
    obtain ⟨h0, g, h1, h2⟩ := h
    exact ⟨h0.put d0 hb, g, by rw [eval_ne d3]; exact h1, (h2.keep (hid_below I.A hb) (sub_below hb)).more hb.size⟩
  | 4, h =>
    obtain ⟨e, A', c', h1, h2, h3⟩ := h
    exact ⟨e, A', c', by rw [eval_ne d4]; exact h1, h2.next hb, OwnE.next h3 hb⟩
  | _ + 5, h =>
    obtain ⟨e, A', c', h2, h3⟩ := h
    exact ⟨e, A', c', h2.next hb, OwnE.next h3 hb⟩
/-- the slice is read -/
theorem RunPush.S_side (k : Nat) (h : I.S k false a w) (ha : I.t0 < a.tmps.size) (hd : I.t0 ≠ I.t1 ∧ I.t0 ≠ I.t2 ∧ I.t0 ≠ I.t3) : I.S k true (a.put (some I.t0) (.slice I.A I.n I.c)) w ∧ Str w I.d #[.slice I.A I.n I.c] := by
  obtain ⟨d1, d2, d3⟩ := hd
  have ne : ∀ {t : Tmp}, I.t0 ≠ t → (some I.t0 : Option Tmp) ≠ some t := fun q e => q (Option.some.inj e)
  have hc : I.Core false a w → I.Core true (a.put (some I.t0) (.slice I.A I.n I.c)) w := fun h => ⟨h.1, h.2.1, fun _ => eval_put_same ha⟩
  match k, h with
  | 0, h => exact ⟨hc h, h.1⟩
  | 1, h =>
    obtain ⟨h0, A2, c2, h1, h2⟩ := h
    exact ⟨⟨hc h0, A2, c2, by rw [eval_ne (ne d1)]; exact h1, h2⟩, h0.1⟩
  | 2, h =>
    obtain ⟨h0, A2, c2, h1, h2⟩ := h
    exact ⟨⟨hc h0, A2, c2, by rw [eval_ne (ne d2)]; exact h1, h2⟩, h0.1⟩
  | 3, h =>
    obtain ⟨h0, g, h1, h2⟩ := h
    exact ⟨⟨hc h0, g, by rw [eval_ne (ne d3)]; exact h1, h2⟩, h0.1⟩
  | 4, h => exact absurd h.1 (by decide)
  | _ + 5, h => exact absurd h.1 (by decide)
/-- the bytes are copied -/
theorem RunPush.S_zero (e : TypeId) (hu : P.underlying I.TU = some (.slice e)) (hi : (P.info? e).map (fun i => (i.zero, i.size, i.bytes)) = some (some (.int .u8 0), 1, 1)) {B c0 : Nat} {A0 : Option Addr}
    (h : I.S 0 b a w) (ha : I.t1 < a.tmps.size) (hd : I.t1 ≠ I.t0) (hy : Bytes w B A0 I.m c0 I.x.data) (hn : I.m ≤ 140737488355328) :
    ∃ A' c' w', (appSem #[I.TU, I.TU] I.TU #[.slice none 0 0, .slice A0 I.m c0]).run P w = .ok (.slice A' I.m c') w' ∧ I.S 1 b (a.put (some I.t1) (.slice A' I.m c')) w' ∧ Below w.heap.size w w' := by
  obtain ⟨A', c', w', gb, k1, k2, k3, k4⟩ := (OwnS.none_ w).app (P := P) I.TU I.TU e hu hi hy (by omega)
  rw [Nat.zero_add] at k1 k2
  rw [List.nil_append] at k2
  have hb : Below w.heap.size w w' := (bsame w).grown k3 (Nat.le_refl _) (fun k e => by cases e)
  refine ⟨A', c', w', k1, ⟨RunPush.Core.put (fun e => hd (Option.some.inj e)) h hb, A', c', eval_put_same ha, ?_⟩, hb⟩
  refine OwnS.hid k2 (fun g q eg eq => ?_)
  have h2 := h.2.1
  rcases k4 with e | e
  · rw [e] at eg; cases eg
  · rw [e] at eg; cases eg
    have hlt := ownE_lt h2 q eq
    omega
/-- the run is laid together -/
theorem RunPush.S_one (h : I.S 1 b a w) (ha : I.t2 < a.tmps.size) (hd : I.t2 ≠ I.t0) : ∃ A2 c2, a.eval (.tmp I.t1) = .slice A2 I.m c2 ∧ I.S 2 b (a.put (some I.t2) (.agg #[.int .i64 I.x.at_, .slice A2 I.m c2])) w := by
  obtain ⟨h0, A2, c2, h1, h2⟩ := h
  exact ⟨A2, c2, h1, h0.put (fun e => hd (Option.some.inj e)) (bsame w), A2, c2, eval_put_same ha, h2⟩
/-- the row of one is made -/
theorem RunPush.S_two (h : I.S 2 b a w) (ha : I.t3 < a.tmps.size) (hd : I.t3 ≠ I.t0) (hin : In64 I.x.at_) (TE : TypeId) :
    ∃ A2 c2, a.eval (.tmp I.t2) = .agg #[.int .i64 I.x.at_, .slice A2 I.m c2] ∧ I.S 3 b (a.put (some I.t3) (.slice (some ⟨w.heap.size, 0, none⟩) 1 1)) (w.alloc (.cells #[.int .i64 I.x.at_, .slice A2 I.m c2] TE)) := by
  obtain ⟨h0, A2, c2, h1, h2⟩ := h
  have hb : Below w.heap.size w (w.alloc (.cells #[.int .i64 I.x.at_, .slice A2 I.m c2] TE)) := balloc (bsame w) _
  refine ⟨A2, c2, h1, h0.put (fun e => hd (Option.some.inj e)) hb, w.heap.size, eval_put_same ha, ?_⟩
  exact ElemsIn.one (E := RunE) (vs := runV I.x A2 I.m c2) ⟨A2, I.m, c2, rfl, h2, hin⟩
/-- the append -/
theorem RunPush.S_three (t ty : TypeId) (i : TypeInfo) (z : Value) (bytes : Nat) (ht : P.underlying t = some (.slice I.T)) (hi : P.info? I.T = some i) (hz : i.zero = some z) (hs : i.size = 2) (hby : i.bytes = bytes) (hzs : z.cells.size = 2)
    (h : I.S 3 true a w) (ha : I.t4 < a.tmps.size) (hN : I.N ≤ w.heap.size) (hbN : I.base ≤ I.N) (hdb : I.d < I.base) (hn : I.n + 1 ≤ maxLen) (hbytes : (I.n + 1) * bytes ≤ 140737488355328) :
    ∃ A2 A' c' w', a.eval (.tmp I.t0) = .slice I.A I.n I.c ∧ a.eval (.tmp I.t3) = .slice A2 1 1 ∧ (appSem #[t, t] ty #[.slice I.A I.n I.c, .slice A2 1 1]).run P w = .ok (.slice A' (I.n + 1) c') w' ∧ I.S 4 true (a.put (some I.t4) (.slice A' (I.n + 1) c')) w' ∧ KeepB I.N (I.d :: (I.A.map (·.block)).toList) w w' := by
  obtain ⟨⟨h2, h3, h1⟩, g, hg1, hg2⟩ := h
  obtain ⟨A', c', w', k1, k2, k3, k4, k5⟩ := h3.app (P := P) t ty i z bytes ht hi hz hs hby hzs hg2 hn hbytes (Nat.le_trans hbN hN)
  have hge := h3.ge
  refine ⟨_, A', c', w', h1 rfl, hg1, k1, ⟨rfl, A', c', eval_put_same ha, h2.grownO k4 (fun e => ?_), k2⟩, ⟨k4.os, k4.tape, k4.output, k4.size, fun j hj hn => k4.block j (by omega) (fun e => hn ?_)⟩⟩
  · cases hA : I.A with
    | none => rw [hA] at e; cases e
    | some ad =>
      rw [hA] at e
      have h5 := hge ad hA
      have h6 : ad.block = I.d := by simpa [Value.ownBlock] using e
      omega
  · cases hA : I.A with
    | none => rw [hA] at e; cases e
    | some ad =>
      rw [hA] at e
      have h6 : ad.block = j := by simpa [Value.ownBlock] using e.symm
      simp [h6]
/-- the store -/
theorem RunPush.S_four (h : I.S 4 true a w) (hdb : I.d < I.base) :
    ∃ A' c', a.eval (.tmp I.t4) = .slice A' (I.n + 1) c' ∧ Str w I.d #[.slice I.A I.n I.c] ∧ I.S 5 true a (w.setCell ⟨I.d, 0, none⟩ (.slice A' (I.n + 1) c')) := by
  obtain ⟨-, A', c', h1, h2, h3⟩ := h
  refine ⟨A', c', h1, h2, rfl, A', c', by simpa using h2.set 0 (.slice A' (I.n + 1) c'), OwnE.grownU runE_byt h3 h2 (by rfl) (grown_set (grown_refl w _) 0 _) (fun ad e => ?_)⟩
  have := OwnE.ge h3 ad e
  omega
end
end Reg
end Go.Proofs.YtpklclnehlgcpaaGreat
end
section
namespace Go.Proofs.YtpklclnehlgcpaaGreat
open Go.RowKit
set_option linter.unusedVariables false
set_option linter.unusedSimpArgs false
namespace DiffW
theorem infoRun : (Tryz.prog.info? 79).map (fun i => (i.zero, i.size, i.bytes)) = some (some (.agg #[.int .i64 0, .slice none 0 0]), 2, 32) := by kernel_rfl
attribute [local go_sem ↓] slPage_fold app_fold
/-- what Diff has beside the pages: where the run ends and begins, the runs -/
structure Box (w : World) (base tB fB oB bB : Nat) (b : List UInt8) (s : DiffP.St) (A : Option Addr) (n c : Nat) : Prop where
  t : Str w tB #[.int .i64 (s.to : Nat)]
  f : Str w fB #[.int .i64 (s.from_ : Nat)]
  o : Str w oB #[.slice A n c]
  p : Str w bB (rowV b)
  e : OwnE RunE 79 w base A n c s.out
set_option maxRecDepth 100000 in
set_option maxHeartbeats 4000000 in
theorem cut_any (A : Option Addr) (n c base tB fB oB bB : Nat) (b : List UInt8) (s : DiffP.St) (w : World) (hb : b.length = 512) (h : Box w base tB fB oB bB b s A n c) (h1 : s.to ≤ 512) (h2 : s.from_ ≤ 512) (hn : n ≤ 600)
    (hlt : tB < base ∧ fB < base ∧ oB < base ∧ bB < base ∧ base ≤ w.heap.size) (hne : tB ≠ oB ∧ fB ≠ oB ∧ bB ≠ oB) :
    Calls Tryz.prog 45 #[.pointer (some ⟨tB, 0, none⟩), .pointer (some ⟨fB, 0, none⟩), .pointer (some ⟨oB, 0, none⟩), .pointer (some ⟨bB, 0, none⟩)] w fun e w' => e = .returned (.tuple #[]) ∧ ∃ A' n' c', Str w' oB #[.slice A' n' c'] ∧ OwnE RunE 79 w' base A' n' c' (DiffP.cut b s) ∧ Reg.KeepB w.heap.size (oB :: (A.map (·.block)).toList) w w' := by
  obtain ⟨out, fr, to⟩ := s
  obtain ⟨hT, hF, hO, hP, hE⟩ := h
  dsimp only at hT hF hE h1 h2 ⊢
  have HT := Lib.hid hT
  have HF := Lib.hid hF
  have HO := Lib.hid hO
  have HP := Lib.hid hP
  have HE := Lib.hid hE
  have HNE := Lib.hid hne
  have HLT := Lib.hid hlt
  have HB5 := Lib.hid hb
  obtain ⟨l1, l2, l3, l4, l5⟩ := hlt
  have gT := str1 hT
  have gF := str1 hF
  have gO := str1 hO
  have lT := hT.lt
  have lF := hF.lt
  have lO := hO.lt
  have lP := hP.lt
  clear hT hF hO hP hE hne hb
  go_enter Tryz.func45, Tryz.ntmps45
  by_cases hft : fr < to
  · have hd : decide ((fr : Int) < (to : Int)) = true := by simpa using hft
    have HLD : Hid (((b.drop fr).take (to - fr)).length = to - fr) := Lib.hid (DiffP.cutRun_len HB5.out h1)
    obtain ⟨i0, hi, hz0, hz1, hz2⟩ := info_parts infoRun
    have HI0 := Lib.hid (And.intro hi (And.intro hz0 (And.intro hz1 hz2)))
    clear hi hz0 hz1 hz2
    have hsl : ∀ W : World, (slSem 30 (.pointer (some ⟨bB, 0, none⟩)) (some (.int .i64 (fr : Int))) (some (.int .i64 (to : Int))) none).run Tryz.prog W = .ok (.slice (some ⟨bB, fr, none⟩) (to - fr) (512 - fr)) W := fun W => run_sl (P := Tryz.prog) arrPage bB fr to (by omega) (by omega) (by omega) W
    have HSL := Lib.hid hsl
    clear hsl
    go_wp2_with fail
    refine Reg.wp_region_box (R := (Reg.extB w.heap.size (oB :: (A.map (·.block)).toList))) (W := w) (Reg.LineJ (Reg.Line.mk [5, 6, 7, 8, 9] 0 (Reg.RunPush.S (Reg.RunPush.mk w.heap.size base oB A n c out ⟨((fr : Nat) : Int), (b.drop fr).take (to - fr)⟩ (to - fr) 79 23 7 12 13 14 15)))) [Reg.any, Reg.eqv (.int .i64 (fr : Int)), Reg.eqv (.int .i64 (fr : Int)), Reg.eqv (.int .i64 (to : Int)), Reg.eqv (.slice (some ⟨bB, fr, none⟩) (to - fr) (512 - fr)), Reg.any, Reg.any, Reg.any, Reg.any, Reg.any] 16 [[(2, none)], [(1, none)], [(1, none)], [(0, none)], [(3, none), (9, some 2), (10, some 3)], [(11, some 4)], [(8, some 1), (12, some 5)], [(13, some 6)], [(7, some 0), (14, some 7)], [(2, none), (15, some 8)]] rfl (by kernel_rfl) (by kernel_rfl) (fun _ h => Reg.line_zero (l := (Reg.Line.mk [5, 6, 7, 8, 9] 0 (Reg.RunPush.S (Reg.RunPush.mk w.heap.size base oB A n c out ⟨((fr : Nat) : Int), (b.drop fr).take (to - fr)⟩ (to - fr) 79 23 7 12 13 14 15)))) ⟨HO.out.next ((bsame w).drew), HE.out.next ((bsame w).drew), fun e => by cases e⟩ h) (by kernel_rfl) ?_ [some 7, some 8, some 9, some 10, some 11, some 12, some 13, some 14, some 15, none] (by kernel_rfl) ?_
    · refine ⟨?_, ?_, ?_, ?_, ?_, ?_, ?_, ?_, ?_, ?_, trivial⟩
      · refine Reg.oblL_side (l := (Reg.Line.mk [5, 6, 7, 8, 9] 0 (Reg.RunPush.S (Reg.RunPush.mk w.heap.size base oB A n c out ⟨((fr : Nat) : Int), (b.drop fr).take (to - fr)⟩ (to - fr) 79 23 7 12 13 14 15)))) rfl rfl (by show 0 ∉ [5, 6, 7, 8, 9]; decide) (by show 0 < 10; decide) ?_
        intro k1 ax wx hx hs has hS
        obtain ⟨e2, -⟩ := hs
        have g2 := Reg.ev (v := .pointer (some ⟨oB, 0, none⟩)) e2
        have hx' : Reg.KeepB w.heap.size (oB :: (A.map (·.block)).toList) w wx := hx
        have hxs : w.heap.size ≤ wx.heap.size := Reg.KeepB.size hx
        obtain ⟨k2, k3⟩ := Reg.RunPush.S_side (I := (Reg.RunPush.mk w.heap.size base oB A n c out ⟨((fr : Nat) : Int), (b.drop fr).take (to - fr)⟩ (to - fr) 79 23 7 12 13 14 15)) k1 hS (by rw [has]; show 7 < 16; decide) (by show (7 : Nat) ≠ 12 ∧ (7 : Nat) ≠ 13 ∧ (7 : Nat) ≠ 14; decide)
        have z0 : wx.cell? ⟨oB, 0, none⟩ = some (.slice A n c) := str1 k3
        have z2 : oB < wx.heap.size := k3.lt
        refine Oper.wp_mono (K := fun a1 w1 => a1 = ax.put (some 7) (.slice A n c) ∧ w1 = wx) ?_ ?_
        · rintro a1 w1 ⟨rfl, rfl⟩
          exact ⟨⟨_, rfl, (fun h => by cases h), trivial, Reg.KeepB.of (Below.refl _ _)⟩, k2⟩
        · clear has hS k2 k3
          go_simp
      · refine Reg.oblL_ord (l := (Reg.Line.mk [5, 6, 7, 8, 9] 0 (Reg.RunPush.S (Reg.RunPush.mk w.heap.size base oB A n c out ⟨((fr : Nat) : Int), (b.drop fr).take (to - fr)⟩ (to - fr) 79 23 7 12 13 14 15)))) (by show 1 ∉ [5, 6, 7, 8, 9] ∧ 1 ≠ 0; decide) (Reg.extB_next rfl) (fun k1 b1 a1 w1 v1 w2 h1 h2 => Reg.RunPush.S_put (I := (Reg.RunPush.mk w.heap.size base oB A n c out ⟨((fr : Nat) : Int), (b.drop fr).take (to - fr)⟩ (to - fr) 79 23 7 12 13 14 15)) (b := b1) (dst := (some 8)) (by show (((some 8) : Option Nat) ≠ some 7 ∧ ((some 8) : Option Nat) ≠ some 12 ∧ ((some 8) : Option Nat) ≠ some 13 ∧ ((some 8) : Option Nat) ≠ some 14 ∧ ((some 8) : Option Nat) ≠ some 15); decide) k1 h1 h2) ?_
        intro ax wx hx hs
        obtain ⟨e1, -⟩ := hs
        have g1 := Reg.ev (v := .pointer (some ⟨fB, 0, none⟩)) e1
        have hx' : Reg.KeepB w.heap.size (oB :: (A.map (·.block)).toList) w wx := hx
        have hxs : w.heap.size ≤ wx.heap.size := Reg.KeepB.size hx
        have q0 := str1 (HT.out.keepB hx' (fun hm => by rcases List.mem_cons.1 hm with e | hm; exact HNE.out.1 e; obtain ⟨a, e, h2⟩ := Option.map_eq_some_iff.1 (Option.mem_toList.1 hm); have := HE.out.ge a e; omega))
        have q1 := str1 (HF.out.keepB hx' (fun hm => by rcases List.mem_cons.1 hm with e | hm; exact HNE.out.2.1 e; obtain ⟨a, e, h2⟩ := Option.map_eq_some_iff.1 (Option.mem_toList.1 hm); have := HE.out.ge a e; omega))
        exact Reg.obl_freeL rfl (Reg.wp_eqvB (Option.some_ne_none _) (by go_simp) rfl)
      · refine Reg.oblL_ord (l := (Reg.Line.mk [5, 6, 7, 8, 9] 0 (Reg.RunPush.S (Reg.RunPush.mk w.heap.size base oB A n c out ⟨((fr : Nat) : Int), (b.drop fr).take (to - fr)⟩ (to - fr) 79 23 7 12 13 14 15)))) (by show 2 ∉ [5, 6, 7, 8, 9] ∧ 2 ≠ 0; decide) (Reg.extB_next rfl) (fun k1 b1 a1 w1 v1 w2 h1 h2 => Reg.RunPush.S_put (I := (Reg.RunPush.mk w.heap.size base oB A n c out ⟨((fr : Nat) : Int), (b.drop fr).take (to - fr)⟩ (to - fr) 79 23 7 12 13 14 15)) (b := b1) (dst := (some 9)) (by show (((some 9) : Option Nat) ≠ some 7 ∧ ((some 9) : Option Nat) ≠ some 12 ∧ ((some 9) : Option Nat) ≠ some 13 ∧ ((some 9) : Option Nat) ≠ some 14 ∧ ((some 9) : Option Nat) ≠ some 15); decide) k1 h1 h2) ?_
        intro ax wx hx hs
        obtain ⟨e1, -⟩ := hs
        have g1 := Reg.ev (v := .pointer (some ⟨fB, 0, none⟩)) e1
        have hx' : Reg.KeepB w.heap.size (oB :: (A.map (·.block)).toList) w wx := hx
        have hxs : w.heap.size ≤ wx.heap.size := Reg.KeepB.size hx
        have q0 := str1 (HT.out.keepB hx' (fun hm => by rcases List.mem_cons.1 hm with e | hm; exact HNE.out.1 e; obtain ⟨a, e, h2⟩ := Option.map_eq_some_iff.1 (Option.mem_toList.1 hm); have := HE.out.ge a e; omega))
        have q1 := str1 (HF.out.keepB hx' (fun hm => by rcases List.mem_cons.1 hm with e | hm; exact HNE.out.2.1 e; obtain ⟨a, e, h2⟩ := Option.map_eq_some_iff.1 (Option.mem_toList.1 hm); have := HE.out.ge a e; omega))
        exact Reg.obl_freeL rfl (Reg.wp_eqvB (Option.some_ne_none _) (by go_simp) rfl)
      · refine Reg.oblL_ord (l := (Reg.Line.mk [5, 6, 7, 8, 9] 0 (Reg.RunPush.S (Reg.RunPush.mk w.heap.size base oB A n c out ⟨((fr : Nat) : Int), (b.drop fr).take (to - fr)⟩ (to - fr) 79 23 7 12 13 14 15)))) (by show 3 ∉ [5, 6, 7, 8, 9] ∧ 3 ≠ 0; decide) (Reg.extB_next rfl) (fun k1 b1 a1 w1 v1 w2 h1 h2 => Reg.RunPush.S_put (I := (Reg.RunPush.mk w.heap.size base oB A n c out ⟨((fr : Nat) : Int), (b.drop fr).take (to - fr)⟩ (to - fr) 79 23 7 12 13 14 15)) (b := b1) (dst := (some 10)) (by show (((some 10) : Option Nat) ≠ some 7 ∧ ((some 10) : Option Nat) ≠ some 12 ∧ ((some 10) : Option Nat) ≠ some 13 ∧ ((some 10) : Option Nat) ≠ some 14 ∧ ((some 10) : Option Nat) ≠ some 15); decide) k1 h1 h2) ?_
        intro ax wx hx hs
        obtain ⟨e0, -⟩ := hs
        have g0 := Reg.ev (v := .pointer (some ⟨tB, 0, none⟩)) e0
        have hx' : Reg.KeepB w.heap.size (oB :: (A.map (·.block)).toList) w wx := hx
        have hxs : w.heap.size ≤ wx.heap.size := Reg.KeepB.size hx
        have q0 := str1 (HT.out.keepB hx' (fun hm => by rcases List.mem_cons.1 hm with e | hm; exact HNE.out.1 e; obtain ⟨a, e, h2⟩ := Option.map_eq_some_iff.1 (Option.mem_toList.1 hm); have := HE.out.ge a e; omega))
        have q1 := str1 (HF.out.keepB hx' (fun hm => by rcases List.mem_cons.1 hm with e | hm; exact HNE.out.2.1 e; obtain ⟨a, e, h2⟩ := Option.map_eq_some_iff.1 (Option.mem_toList.1 hm); have := HE.out.ge a e; omega))
        exact Reg.obl_freeL rfl (Reg.wp_eqvB (Option.some_ne_none _) (by go_simp) rfl)
      · refine Reg.oblL_ord (l := (Reg.Line.mk [5, 6, 7, 8, 9] 0 (Reg.RunPush.S (Reg.RunPush.mk w.heap.size base oB A n c out ⟨((fr : Nat) : Int), (b.drop fr).take (to - fr)⟩ (to - fr) 79 23 7 12 13 14 15)))) (by show 4 ∉ [5, 6, 7, 8, 9] ∧ 4 ≠ 0; decide) (Reg.extB_next rfl) (fun k1 b1 a1 w1 v1 w2 h1 h2 => Reg.RunPush.S_put (I := (Reg.RunPush.mk w.heap.size base oB A n c out ⟨((fr : Nat) : Int), (b.drop fr).take (to - fr)⟩ (to - fr) 79 23 7 12 13 14 15)) (b := b1) (dst := (some 11)) (by show (((some 11) : Option Nat) ≠ some 7 ∧ ((some 11) : Option Nat) ≠ some 12 ∧ ((some 11) : Option Nat) ≠ some 13 ∧ ((some 11) : Option Nat) ≠ some 14 ∧ ((some 11) : Option Nat) ≠ some 15); decide) k1 h1 h2) ?_
        intro ax wx hx hs
        obtain ⟨e3, e9, e10, -⟩ := hs
        have g3 := Reg.ev (v := .pointer (some ⟨bB, 0, none⟩)) e3
        have g9 := Reg.ev (v := .int .i64 (fr : Int)) e9
        have g10 := Reg.ev (v := .int .i64 (to : Int)) e10
        refine Reg.obl_freeL rfl ?_
        have hsl := HSL.out wx
        exact Reg.wp_eqvB (Option.some_ne_none _) (by go_simp) rfl
      · refine Reg.oblL_line (l := (Reg.Line.mk [5, 6, 7, 8, 9] 0 (Reg.RunPush.S (Reg.RunPush.mk w.heap.size base oB A n c out ⟨((fr : Nat) : Int), (b.drop fr).take (to - fr)⟩ (to - fr) 79 23 7 12 13 14 15)))) (k := 0) rfl rfl (by show List.Nodup [5, 6, 7, 8, 9]; decide) (by show 5 ≠ 0; decide) (by show 5 < 10; decide) (.inl rfl) ?_
        intro b1 ax wx hx hs has hwb hS
        obtain ⟨e11, -⟩ := hs
        have g11 := Reg.ev (v := .slice (some ⟨bB, fr, none⟩) (to - fr) (512 - fr)) e11
        have hx' : Reg.KeepB w.heap.size (oB :: (A.map (·.block)).toList) w wx := hx
        have hxs : w.heap.size ≤ wx.heap.size := Reg.KeepB.size hx
        have hy := (HP.out.keepB hx' (fun hm => by rcases List.mem_cons.1 hm with e | hm; exact HNE.out.2.2 e; obtain ⟨a, e, h2⟩ := Option.map_eq_some_iff.1 (Option.mem_toList.1 hm); have := HE.out.ge a e; omega)).part fr (to - fr) (512 - fr) (by rw [HB5.out]; omega) (by omega) (by unfold maxLen; omega)
        obtain ⟨A', c', w4, k1, k2, k3⟩ := Reg.RunPush.S_zero (I := (Reg.RunPush.mk w.heap.size base oB A n c out ⟨((fr : Nat) : Int), (b.drop fr).take (to - fr)⟩ (to - fr) 79 23 7 12 13 14 15)) (P := Tryz.prog) 5 Tryz.underlying23 Be.infoU8 hS (by rw [has]; show 12 < 16; decide) (by show (12 : Nat) ≠ 7; decide) hy (by show to - fr ≤ _; omega)
        exact wp_appT (.const (.slice none 0 0)) (.tmp 11) rfl rfl rfl (by simpa [Act.eval] using g11) k1 ⟨⟨_, rfl, (fun h => by cases h), trivial, Reg.KeepB.of (k3.mono hxs)⟩, k2⟩
      · refine Reg.oblL_line (l := (Reg.Line.mk [5, 6, 7, 8, 9] 0 (Reg.RunPush.S (Reg.RunPush.mk w.heap.size base oB A n c out ⟨((fr : Nat) : Int), (b.drop fr).take (to - fr)⟩ (to - fr) 79 23 7 12 13 14 15)))) (k := 1) rfl rfl (by show List.Nodup [5, 6, 7, 8, 9]; decide) (by show 6 ≠ 0; decide) (by show 6 < 10; decide) (.inr ⟨5, rfl, by kernel_rfl⟩) ?_
        intro b1 ax wx hx hs has hwb hS
        obtain ⟨e8, e12, -⟩ := hs
        have g8 := Reg.ev (v := .int .i64 (fr : Int)) e8
        have hx' : Reg.KeepB w.heap.size (oB :: (A.map (·.block)).toList) w wx := hx
        have hxs : w.heap.size ≤ wx.heap.size := Reg.KeepB.size hx
        obtain ⟨A2, c2, k1, k2⟩ := Reg.RunPush.S_one (I := (Reg.RunPush.mk w.heap.size base oB A n c out ⟨((fr : Nat) : Int), (b.drop fr).take (to - fr)⟩ (to - fr) 79 23 7 12 13 14 15)) hS (by rw [has]; show 13 < 16; decide) (by show (13 : Nat) ≠ 7; decide)
        have g12 := Reg.ev k1
        refine Oper.wp_mono (K := fun a1 w1 => a1 = ax.put (some 13) (.agg #[.int .i64 ((fr : Nat) : Int), .slice A2 (to - fr) c2]) ∧ w1 = wx) ?_ ?_
        · rintro a1 w1 ⟨rfl, rfl⟩
          exact ⟨⟨_, rfl, (fun h => by cases h), trivial, Reg.KeepB.of (Below.refl _ _)⟩, k2⟩
        · clear has hS k2 k1
          go_simp
      · refine Reg.oblL_line (l := (Reg.Line.mk [5, 6, 7, 8, 9] 0 (Reg.RunPush.S (Reg.RunPush.mk w.heap.size base oB A n c out ⟨((fr : Nat) : Int), (b.drop fr).take (to - fr)⟩ (to - fr) 79 23 7 12 13 14 15)))) (k := 2) rfl rfl (by show List.Nodup [5, 6, 7, 8, 9]; decide) (by show 7 ≠ 0; decide) (by show 7 < 10; decide) (.inr ⟨6, rfl, by kernel_rfl⟩) ?_
        intro b1 ax wx hx hs has hwb hS
        obtain ⟨e13, -⟩ := hs
        have hx' : Reg.KeepB w.heap.size (oB :: (A.map (·.block)).toList) w wx := hx
        have hxs : w.heap.size ≤ wx.heap.size := Reg.KeepB.size hx
        obtain ⟨A2, c2, k1, k2⟩ := Reg.RunPush.S_two (I := (Reg.RunPush.mk w.heap.size base oB A n c out ⟨((fr : Nat) : Int), (b.drop fr).take (to - fr)⟩ (to - fr) 79 23 7 12 13 14 15)) hS (by rw [has]; show 14 < 16; decide) (by show (14 : Nat) ≠ 7; decide) ⟨by show (-9223372036854775808 : Int) ≤ (fr : Int); omega, by show (fr : Int) ≤ _; omega⟩ 79
        have g13 := Reg.ev k1
        refine Oper.wp_mono (K := fun a1 w1 => a1 = ax.put (some 14) (.slice (some ⟨wx.heap.size, 0, none⟩) 1 1) ∧ w1 = wx.alloc (.cells #[.int .i64 ((fr : Nat) : Int), .slice A2 (to - fr) c2] 79)) ?_ ?_
        · rintro a1 w1 ⟨rfl, rfl⟩
          exact ⟨⟨_, rfl, (fun h => by cases h), trivial, Reg.KeepB.of ((balloc (bsame wx) _).mono hxs)⟩, k2⟩
        · clear has hS k2 k1
          go_simp
      · refine Reg.oblL_line (l := (Reg.Line.mk [5, 6, 7, 8, 9] 0 (Reg.RunPush.S (Reg.RunPush.mk w.heap.size base oB A n c out ⟨((fr : Nat) : Int), (b.drop fr).take (to - fr)⟩ (to - fr) 79 23 7 12 13 14 15)))) (k := 3) rfl rfl (by show List.Nodup [5, 6, 7, 8, 9]; decide) (by show 8 ≠ 0; decide) (by show 8 < 10; decide) (.inr ⟨7, rfl, by kernel_rfl⟩) ?_
        intro b1 ax wx hx hs has hwb hS
        obtain ⟨e7, e14, -⟩ := hs
        have hx' : Reg.KeepB w.heap.size (oB :: (A.map (·.block)).toList) w wx := hx
        have hxs : w.heap.size ≤ wx.heap.size := Reg.KeepB.size hx
        obtain rfl := hwb (by kernel_rfl)
        obtain ⟨A2, A', c', w4, k1, k1', k2, k3, k4⟩ := Reg.RunPush.S_three (I := (Reg.RunPush.mk w.heap.size base oB A n c out ⟨((fr : Nat) : Int), (b.drop fr).take (to - fr)⟩ (to - fr) 79 23 7 12 13 14 15)) (P := Tryz.prog) 31 31 i0 _ 32 Tryz.underlying31 HI0.out.1 HI0.out.2.1 HI0.out.2.2.1 HI0.out.2.2.2 rfl hS (by rw [has]; show 15 < 16; decide) hxs (by show base ≤ w.heap.size; omega) (by show oB < base; omega) (by show n + 1 ≤ maxLen; unfold maxLen; omega) (by show (n + 1) * 32 ≤ _; omega)
        exact wp_appT (.tmp 7) (.tmp 14) rfl rfl k1 k1' k2 ⟨⟨_, rfl, (fun h => by cases h), trivial, k4⟩, k3⟩
      · refine Reg.oblL_line (l := (Reg.Line.mk [5, 6, 7, 8, 9] 0 (Reg.RunPush.S (Reg.RunPush.mk w.heap.size base oB A n c out ⟨((fr : Nat) : Int), (b.drop fr).take (to - fr)⟩ (to - fr) 79 23 7 12 13 14 15)))) (k := 4) rfl rfl (by show List.Nodup [5, 6, 7, 8, 9]; decide) (by show 9 ≠ 0; decide) (by show 9 < 10; decide) (.inr ⟨8, rfl, by kernel_rfl⟩) ?_
        intro b1 ax wx hx hs has hwb hS
        obtain ⟨e2, e15, -⟩ := hs
        have g2 := Reg.ev (v := .pointer (some ⟨oB, 0, none⟩)) e2
        have hx' : Reg.KeepB w.heap.size (oB :: (A.map (·.block)).toList) w wx := hx
        have hxs : w.heap.size ≤ wx.heap.size := Reg.KeepB.size hx
        obtain rfl : b1 = true := hS.1
        obtain ⟨A', c', k1, k2, k3⟩ := Reg.RunPush.S_four (I := (Reg.RunPush.mk w.heap.size base oB A n c out ⟨((fr : Nat) : Int), (b.drop fr).take (to - fr)⟩ (to - fr) 79 23 7 12 13 14 15)) hS (by show oB < base; omega)
        have g15 := Reg.ev k1
        have z1 : wx.frozen? ⟨oB, 0, none⟩ = false := k2.frozen 0
        have z0 : wx.cell? ⟨oB, 0, none⟩ = some (.slice A n c) := str1 k2
        have z2 : oB < wx.heap.size := k2.lt
        refine Oper.wp_mono (K := fun a1 w1 => a1 = ax ∧ w1 = wx.setCell ⟨oB, 0, none⟩ (.slice A' (n + 1) c')) ?_ ?_
        · rintro a1 w1 ⟨rfl, rfl⟩
          exact ⟨⟨undef, rfl, fun _ => rfl, trivial, Reg.KeepB.grown (Reg.KeepB.of (Below.refl _ wx)) (grown_set (grown_refl wx _) 0 _) hxs (.inr (List.mem_cons_self ..))⟩, k3⟩
        · clear has hS k3
          go_simp
    · intro W2 listed hwf hall
      simp only [Reg.Fin]
      rintro v7 h7 _ rfl _ rfl _ rfl _ rfl v12 h12 v13 h13 v14 h14 v15 h15 vn9 hn9
      intro hJ
      obtain ⟨bL, hbL, hSL⟩ := Reg.line_end (l := (Reg.Line.mk [5, 6, 7, 8, 9] 0 (Reg.RunPush.S (Reg.RunPush.mk w.heap.size base oB A n c out ⟨((fr : Nat) : Int), (b.drop fr).take (to - fr)⟩ (to - fr) 79 23 7 12 13 14 15)))) (n := 10) hall (by show ∀ c ∈ [5, 6, 7, 8, 9], c < 10; decide) hJ
      clear hJ hall hbL
      go_simp
      obtain ⟨-, A', c', hbx5, hO5⟩ := hSL
      dsimp only at hbx5
      have hO6 : OwnE RunE 79 W2 base A' (n + 1) c' (out ++ [⟨((fr : Nat) : Int), (b.drop fr).take (to - fr)⟩]) := hO5
      have hwf' : Reg.KeepB w.heap.size (oB :: (A.map (·.block)).toList) w W2 := hwf
      go_end0
      refine ⟨rfl, A', n + 1, c', hbx5, ?_, hwf'⟩
      unfold DiffP.cut
      rw [if_pos hft]
      exact hO6
  · have hd : decide ((fr : Int) < (to : Int)) = false := by simpa using hft
    go_wp2
    go_end0
    refine ⟨rfl, A, n, c, HO.out, ?_, Reg.KeepB.of (Below.refl _ _)⟩
    unfold DiffP.cut
    rw [if_neg hft]
    exact HE.out
end DiffW
end Go.Proofs.YtpklclnehlgcpaaGreat
end
