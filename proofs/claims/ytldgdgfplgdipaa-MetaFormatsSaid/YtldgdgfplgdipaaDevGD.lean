/-
  Texts of one claim, joined: OwnS, MapP, Keep, Pgs, DevM, DevDo, DevJob, DevA, DevLog, DevCut.
-/
import Derived.Test.YtldgdgfplgdipaaBytes
import Derived.Test.YtldgdgfplgdipaaStr
import Derived.Test.YtldgdgfplgdipaaCut
import Derived.Test.YtldgdgfplgdipaaBox
import Derived.Deep.AppendSrc
import Derived.Deep.Upon
import Derived.Deep.MidRow
import Derived.Test.YtldgdgfplgdipaaPTypes
import Derived.Maps.OwnSet
import Derived.Maps.RangeWalk
import Derived.Test.YtldgdgfplgdipaaRegB
import Derived.Test.YtldgdgfplgdipaaArrT
import Derived.Test.YtldgdgfplgdipaaElem2
import Derived.Defers
import Derived.Recover
import Derived.FnLit
import Derived.Scope
import Derived.BigQuiet
import Derived.WalkArith
namespace Go.Proofs.Ytldgdgfplgdipaa
open Go.RowKit
set_option linter.unusedVariables false
theorem splice_cons (cur : List Value) (o : Nat) (v : Value) (r : List Value) (h : o < cur.length) : splice (cur.set o v) (o + 1) r = splice cur o (v :: r) := by
  have e : (cur.set o v).take (o + 1) = cur.take o ++ [v] := by
    refine List.ext_getElem? fun j => ?_
    have hl : (cur.take o).length = o := by rw [List.length_take]; omega
    rcases Nat.lt_trichotomy j o with hj | rfl | hj
    · rw [List.getElem?_take_of_lt (by omega), List.getElem?_set_ne (by omega), List.getElem?_append_left (by omega), List.getElem?_take_of_lt hj]
    · rw [List.getElem?_take_of_lt (by omega), List.getElem?_set_self h, List.getElem?_append_right (by omega), hl]
      simp
    · rw [List.getElem?_eq_none (by simp; omega), List.getElem?_eq_none (by simp; omega)]
  unfold splice
  rw [e, List.drop_set_of_lt (by omega)]
  simp [Nat.add_assoc, Nat.add_comm 1]
theorem setCells_heap (b : Nat) : ∀ (vs : List Value) (o : Nat) (w : World) (cur : Array Value) (t : TypeId), w.heap[b]? = some (.cells cur t (0, 0)) → o + vs.length ≤ cur.size → (w.setCells b o vs).heap[b]? = some (.cells (splice cur.toList o vs).toArray t (0, 0))
  | [], o, w, cur, t, h, _ => by
    rw [World.setCells, h]
    simp [splice]
  | v :: r, o, w, cur, t, h, hl => by
    rw [World.setCells]
    have hl' : o + 1 + r.length ≤ cur.size := by simp at hl; omega
    have h1 : (w.setCell ⟨b, o, none⟩ v).heap[b]? = some (.cells (cur.setIfInBounds o v) t (0, 0)) := by simp [World.setCell, Array.getElem?_modify, h]
    rw [setCells_heap b r (o + 1) _ _ t h1 (by simpa using hl'), Array.toList_setIfInBounds, splice_cons _ _ _ _ (by simp at hl ⊢; omega)]
theorem grown_setCells (b : Nat) : ∀ (vs : List Value) (o : Nat) (w0 w : World), w0.grownBy w (some b) → w0.grownBy (w.setCells b o vs) (some b)
  | [], _, _, _, h => h
  | v :: r, o, w0, w, h => by
    rw [World.setCells]
    exact grown_setCells b r (o + 1) w0 _ (grown_set h o v)
theorem splice_get_in {cur vs : List Value} {o j : Nat} (h : o + vs.length ≤ cur.length) (hj : j < vs.length) : (splice cur o vs)[o + j]? = vs[j]? := by
  unfold splice
  have h0 : (cur.take o).length = o := by rw [List.length_take]; omega
  rw [List.getElem?_append_right (by omega), h0, List.getElem?_append_left (by omega)]
  congr 1
  omega
theorem splice_get_out {cur vs : List Value} {o j : Nat} (h : o + vs.length ≤ cur.length) (hj : j < o ∨ o + vs.length ≤ j) : (splice cur o vs)[j]? = cur[j]? := by
  unfold splice
  have h0 : (cur.take o).length = o := by rw [List.length_take]; omega
  rcases hj with hj | hj
  · rw [List.getElem?_append_left (by omega), List.getElem?_take_of_lt hj]
  · rw [List.getElem?_append_right (by omega), h0, List.getElem?_append_right (by omega), List.getElem?_drop]
    congr 1
    omega
theorem splice_len {cur vs : List Value} {o : Nat} (h : o + vs.length ≤ cur.length) : (splice cur o vs).length = cur.length := by
  unfold splice
  simp
  omega
/-- the block that such a slice lies in, if it has room -/
def OwnS (w : World) (gb : Option Nat) (A : Option Addr) (n c : Nat) (l : List UInt8) : Prop :=
  l.length = n ∧ n ≤ c ∧ c ≤ maxLen ∧ ((c = 0 ∧ gb = none) ∨ ∃ (g o : Nat) (cur : Array Value) (T : TypeId), gb = some g ∧ A = some ⟨g, o, none⟩ ∧ w.heap[g]? = some (.cells cur T (0, 0)) ∧ o + c ≤ cur.size ∧ ∀ (j : Nat) u, l[j]? = some u → cur[o + j]? = some (byteV u))
section
variable {w w' : World} {gb : Option Nat} {A : Option Addr} {n c : Nat} {l : List UInt8}
theorem OwnS.len (h : OwnS w gb A n c l) : l.length = n := h.1
theorem OwnS.none_ (w : World) : OwnS w none none 0 0 [] := ⟨rfl, Nat.le_refl _, by unfold maxLen; omega, .inl ⟨rfl, rfl⟩⟩
theorem OwnS.lt (h : OwnS w gb A n c l) : ∀ g, gb = some g → g < w.heap.size := by
  intro g hg
  obtain ⟨-, -, -, (⟨-, e⟩ | ⟨g', o, cur, T, e, -, hh, -⟩)⟩ := h
  · rw [e] at hg; cases hg
  · rw [e] at hg; cases hg; exact (Array.getElem?_eq_some_iff.1 hh).1
theorem OwnS.at_ (h : OwnS w gb A n c l) (hb : ∀ g, gb = some g → w'.heap[g]? = w.heap[g]?) : OwnS w' gb A n c l := by
  obtain ⟨h1, h2, h3, (h4 | ⟨g, o, cur, T, e, hA, hh, r⟩)⟩ := h
  · exact ⟨h1, h2, h3, .inl h4⟩
  · exact ⟨h1, h2, h3, .inr ⟨g, o, cur, T, e, hA, (hb g e).trans hh, r⟩⟩
theorem OwnS.next (h : OwnS w gb A n c l) (hb : Below w.heap.size w w') : OwnS w' gb A n c l := h.at_ fun g e => hb.block g (h.lt g e)
theorem OwnS.grown {g : Nat} (h : OwnS w gb A n c l) (hg : w.grownBy w' (some g)) (hne : gb ≠ some g) : OwnS w' gb A n c l := h.at_ fun k e => hg.block k (h.lt k e) (by rw [← e]; exact hne)
theorem OwnS.bytes (h : OwnS w gb A n c l) : Bytes w w.heap.size A n c l := by
  obtain ⟨h1, h2, h3, (⟨h4, -⟩ | ⟨g, o, cur, T, e, hA, hh, hs, hc⟩)⟩ := h
  · exact ⟨h1, h2, h3, fun hn => absurd hn (by omega)⟩
  · exact ⟨h1, h2, h3, fun _ => ⟨g, o, hA, (Array.getElem?_eq_some_iff.1 hh).1, fun j u hu => by rw [cell_of_row w g (o + j) cur T (0, 0) hh]; exact hc j u hu⟩⟩
/-- a part of it -/
theorem OwnS.cut (h : OwnS w gb A n c l) (lo hi m : Nat) (h1 : lo ≤ hi) (h2 : hi ≤ n) (h3 : hi ≤ m) (h4 : m ≤ c) : ∃ gb', OwnS w gb' (cutA A lo m 1) (hi - lo) (m - lo) ((l.drop lo).take (hi - lo)) ∧ (gb' = gb ∨ gb' = none) := by
  obtain ⟨hl, hc, hm, hx⟩ := h
  rcases hx with ⟨h0, e⟩ | ⟨g, o, cur, T, e, hA, hh, hs, hcell⟩
  · exact ⟨none, ⟨by simp; omega, by omega, by omega, .inl ⟨by omega, rfl⟩⟩, .inr rfl⟩
  · by_cases hml : m = lo
    · exact ⟨none, ⟨by simp; omega, by omega, by omega, .inl ⟨by omega, rfl⟩⟩, .inr rfl⟩
    · refine ⟨gb, ⟨by simp; omega, by omega, by omega, .inr ⟨g, o + lo, cur, T, e, ?_, hh, by omega, fun j u hu => ?_⟩⟩, .inl rfl⟩
      · unfold cutA
        rw [if_neg hml, hA]
        simp [add_none]
      · rw [List.getElem?_take] at hu
        split at hu
        · rw [List.getElem?_drop] at hu
          rw [Nat.add_assoc]
          exact hcell _ u hu
        · cases hu
/-- bytes that a call has made -/
theorem OwnS.of_own {base : Nat} {T : TypeId} (h : w.ownsRow base T 1 (.slice A n c) n (l.map byteV)) : ∃ gb, OwnS w gb A n c l ∧ ∀ g, gb = some g → base ≤ g := by
  have hl := (Bytes.own h).len
  rcases h.2 with ⟨e, h0⟩ | ⟨g, cap, cur, e, hg, hh, hnc, hm, hsz, htk⟩
  · cases e
    exact ⟨none, ⟨by simpa using hl, Nat.le_refl _, by unfold maxLen; omega, .inl ⟨rfl, rfl⟩⟩, by simp⟩
  · cases e
    by_cases hc0 : c = 0
    · exact ⟨none, ⟨hl, hnc, hm, .inl ⟨hc0, rfl⟩⟩, by simp⟩
    · refine ⟨some g, ⟨hl, hnc, hm, .inr ⟨g, 0, cur, T, rfl, rfl, hh, by omega, fun j u hu => ?_⟩⟩, fun k hk => by cases hk; exact hg⟩
      have hj : j < n := by rw [← hl]; exact (List.getElem?_eq_some_iff.1 hu).1
      have hx := congrArg (·[j]?) htk
      simp only [List.getElem?_take, List.getElem?_map, hu, Option.map_some] at hx
      rw [if_pos (by omega)] at hx
      simpa using hx
/-- an append onto it, out of whatever bytes -/
theorem OwnS.app {P : Program} (t ty e : TypeId) (ht : P.underlying t = some (.slice e)) (hi : (P.info? e).map (fun i => (i.zero, i.size, i.bytes)) = some (some (.int .u8 0), 1, 1)) (h : OwnS w gb A n c l) {B m c2 : Nat} {A2 : Option Addr} {l2 : List UInt8} (h2 : Bytes w B A2 m c2 l2) (hn : n + m ≤ 140737488355328) :
    ∃ A' c' w' gb', (appSem #[t, t] ty #[.slice A n c, .slice A2 m c2]).run P w = .ok (.slice A' (n + m) c') w' ∧ OwnS w' gb' A' (n + m) c' (l ++ l2) ∧ w.grownBy w' gb ∧ (gb' = gb ∨ gb' = some w.heap.size) := by
  obtain ⟨i0, hi0, hz0, hz1, hz2⟩ := info_parts hi
  have hm2 := h2.len
  have hln := h.len
  have hsrc : Src P 1 t (.slice A2 m c2) m (l2.map byteV) w := by
    by_cases h0 : m = 0
    · subst h0
      have : l2 = [] := List.eq_nil_of_length_eq_zero hm2
      subst this
      cases A2 with
      | none => exact Src.ofNil w ht c2
      | some a => exact Src.ofSlice w ht a 0 c2 [] (by simp) (fun j u hu => by simp at hu) (fun u hu => by cases hu)
    · obtain ⟨ad, rfl, hc⟩ := h2.src (by simp; omega)
      exact Src.ofSlice w ht ad m c2 _ (by simp [hm2]) hc (byteV_one l2)
  obtain ⟨hl, hc, hm, hx⟩ := h
  unfold appSem
  by_cases hroom : n + m ≤ c
  · rcases hx with ⟨h0, e1⟩ | ⟨g, o, cur, T, e1, hA, hh, hs, hcell⟩
    · have e2 : m = 0 := by omega
      have e3 : n = 0 := by omega
      subst e2
      have : l2 = [] := List.eq_nil_of_length_eq_zero hm2
      subst this
      exact ⟨A, c, w, none, run_append_nothing w t t ty e i0 ht hi0 A n c hc _ (by rw [hz1]; exact hsrc), ⟨by simpa using hl, by omega, hm, .inl ⟨h0, rfl⟩⟩, by rw [e1]; exact World.grownBy.refl w _, .inl e1.symm⟩
    · subst hA
      have hcl : ∀ j, j < (l2.map byteV).length → o + n + j < cur.size := fun j hj => by simp at hj; omega
      have hr := run_append_room_src (P := P) w t t ty e i0 ht hi0 g o n c (.slice A2 m c2) m (l2.map byteV) (by rw [hz1]; exact hsrc) hroom
        (fun j hj => by rw [hz1, Nat.mul_one, cell_of_row w g _ cur T (0, 0) hh, Array.getElem?_eq_getElem (hcl j hj)]; rfl)
        (fun j hj => by simp [World.frozen?, hh])
      rw [hz1, Nat.mul_one] at hr
      have hfit : o + n + (l2.map byteV).length ≤ cur.size := by simp; omega
      refine ⟨some ⟨g, o, none⟩, c, _, gb, hr, ⟨by simp; omega, by omega, hm, .inr ⟨g, o, _, T, e1, rfl, setCells_heap g _ _ w cur T hh hfit, ?_, fun j u hu => ?_⟩⟩, by rw [e1]; exact grown_setCells g _ _ w w (World.grownBy.refl w _), .inl rfl⟩
      · rw [List.size_toArray, splice_len (by simpa using hfit)]
        simpa using hs
      · rw [List.getElem?_toArray]
        by_cases hj : j < n
        · rw [splice_get_out (by simpa using hfit) (.inl (by omega)), Array.getElem?_toList]
          exact hcell j u (by rw [List.getElem?_append_left (by omega)] at hu; exact hu)
        · rw [List.getElem?_append_right (by omega)] at hu
          have hj2 : j - l.length < l2.length := (List.getElem?_eq_some_iff.1 hu).1
          have := splice_get_in (cur := cur.toList) (vs := l2.map byteV) (o := o + n) (j := j - l.length) (by simpa using hfit) (by simpa using hj2)
          rw [show o + n + (j - l.length) = o + j by omega] at this
          rw [this, List.getElem?_map, hu]
          rfl
  · have hg : c < n + m := by omega
    have hold : (Builtin.firstCells i0.size n (.slice A n c)).run P w.drew = .ok (l.map byteV).toArray w.drew := by
      rw [hz1]
      rcases hx with ⟨h0, e1⟩ | ⟨g, o, cur, T, e1, hA, hh, hs, hcell⟩
      · have e3 : n = 0 := by omega
        subst e3
        have : l = [] := List.eq_nil_of_length_eq_zero hl
        subst this
        cases A with
        | none => exact run_firstCells_none w.drew 1 0 0 c
        | some a => exact run_firstCells_some w.drew 1 0 a 0 c [] (by simp) (fun j v hv => by simp at hv)
      · subst hA
        refine run_firstCells_some w.drew 1 n _ n c _ (by simp [hl]) (fun j v hv => ?_)
        rw [List.getElem?_map, Option.map_eq_some_iff] at hv
        obtain ⟨u, hu, rfl⟩ := hv
        rw [add_none]
        show w.cell? _ = _
        rw [cell_of_row w g _ cur T (0, 0) hh]
        exact hcell j u hu
    have hr := run_append_grow_src (P := P) w t t ty e i0 _ ht hi0 hz0 A n c (l.map byteV) hold (.slice A2 m c2) m (l2.map byteV) (by rw [hz1]; exact hsrc) hg (by omega) (growslice_fits hg (by rw [hz2]; omega))
    refine ⟨_, _, _, some w.heap.size, hr, ⟨by simp; omega, grownCap_ge _ _ _ _, grownCap_le_maxLen _ _ _ _ (by unfold maxLen; omega), .inr ⟨_, 0, _, e, rfl, rfl, heap_alloc_new w.drew _, ?_, fun j u hu => ?_⟩⟩, ?_, .inr rfl⟩
    · have := grownCap_ge w (n + m) c e
      simp only [Array.size_append, List.size_toArray, List.length_append, List.length_map, size_zeroCells, Value.cells]
      simp
      omega
    · rw [Nat.zero_add]
      have hj : j < (l ++ l2).length := (List.getElem?_eq_some_iff.1 hu).1
      rw [Array.getElem?_append_left (by simpa using hj), List.getElem?_toArray, ← List.map_append, List.getElem?_map, hu]
      rfl
    · exact ⟨rfl, rfl, rfl, by simp, fun k hk _ => Below.heap_alloc w.drew _ k hk⟩
end
end Go.Proofs.Ytldgdgfplgdipaa
namespace Go.Proofs.Ytldgdgfplgdipaa
open Go.RowKit Go.Maps
set_option linter.unusedVariables false
set_option linter.unusedSectionVars false
/-- how keys stand in the model -/
structure KeyS (K : Type) [DecidableEq K] where
  val : K → Value
  lit : K → Lit
  same : ∀ a b, (lit a).sameKey (lit b) = decide (a = b)
/-- how elements stand in the model -/
structure ElS (α : Type) where
  val : α → Value
  inv : Value → Option α
  inv_val : ∀ a, inv (val a) = some a
  val_inv : ∀ {v a}, inv v = some a → v = val a
namespace MapP
variable {K α : Type} [DecidableEq K]
abbrev T (K α : Type) := List (K × α)
def del (L : T K α) (k : K) : T K α := L.filter fun p => decide (p.1 ≠ k)
def has (L : T K α) (k : K) : Bool := L.any fun p => decide (p.1 = k)
def get (L : T K α) (k : K) : Option α := (L.find? fun p => decide (p.1 = k)).map (·.2)
def ins (lt : K → K → Bool) (p : K × α) : T K α → T K α
  | [] => [p]
  | y :: r => if lt p.1 y.1 then p :: y :: r else y :: ins lt p r
def put (lt : K → K → Bool) (L : T K α) (k : K) (v : α) : T K α := ins lt (k, v) (del L k)
variable {lt : K → K → Bool}
theorem mem_ins {p y : K × α} : ∀ {L : T K α}, y ∈ ins lt p L ↔ y = p ∨ y ∈ L
  | [] => by simp [ins]
  | z :: r => by
    unfold ins
    split
    · simp
    · simp only [List.mem_cons, mem_ins (L := r)]
      constructor
      · rintro (h | h | h)
        · exact .inr (.inl h)
        · exact .inl h
        · exact .inr (.inr h)
      · rintro (h | h | h)
        · exact .inr (.inl h)
        · exact .inl h
        · exact .inr (.inr h)
theorem mem_del {L : T K α} {k : K} {y : K × α} : y ∈ del L k ↔ y ∈ L ∧ y.1 ≠ k := by simp [del]
theorem mem_put {L : T K α} {k : K} {v : α} {y : K × α} : y ∈ put lt L k v ↔ y = (k, v) ∨ (y ∈ L ∧ y.1 ≠ k) := by rw [put, mem_ins, mem_del]
theorem has_iff {L : T K α} {k : K} : has L k = true ↔ ∃ v, (k, v) ∈ L := by
  simp only [has, List.any_eq_true, decide_eq_true_eq]
  constructor
  · rintro ⟨⟨a, v⟩, h, rfl⟩; exact ⟨v, h⟩
  · rintro ⟨v, h⟩; exact ⟨_, h, rfl⟩
theorem has_false {L : T K α} {k : K} : has L k = false ↔ ∀ p ∈ L, p.1 ≠ k := by simp [has]
theorem has_get (L : T K α) (k : K) : has L k = (get L k).isSome := by
  unfold has get
  induction L with
  | nil => rfl
  | cons y r ih =>
    rw [List.any_cons, List.find?_cons]
    cases decide (y.1 = k) with
    | true => rfl
    | false => simpa using ih
theorem get_none {L : T K α} {k : K} : get L k = none ↔ ∀ p ∈ L, p.1 ≠ k := by
  rw [← has_false, has_get]
  cases get L k <;> simp
theorem get_mem {L : T K α} {k : K} {v : α} (h : get L k = some v) : (k, v) ∈ L := by
  unfold get at h
  rw [Option.map_eq_some_iff] at h
  obtain ⟨⟨a, b⟩, h1, rfl⟩ := h
  have h2 := List.mem_of_find?_eq_some h1
  have h3 := List.find?_some h1
  simp at h3
  subst h3
  exact h2
def Nd (L : T K α) : Prop := (L.map (·.1)).Nodup
theorem get_of {L : T K α} (h : Nd L) {k : K} {v : α} (hm : (k, v) ∈ L) : get L k = some v := by
  induction L with
  | nil => cases hm
  | cons y r ih =>
    have hn := List.nodup_cons.1 h
    unfold get
    rw [List.find?_cons]
    rcases List.mem_cons.1 hm with e | e
    · subst e; simp
    · have hne : y.1 ≠ k := fun e2 => hn.1 (List.mem_map.2 ⟨_, e, e2.symm⟩)
      have : decide (y.1 = k) = false := by simpa using hne
      rw [this]
      exact ih hn.2 e
theorem nd_del {L : T K α} (h : Nd L) (k : K) : Nd (del L k) := List.Sublist.nodup (List.Sublist.map _ List.filter_sublist) h
theorem perm_ins (p : K × α) : ∀ L : T K α, (ins lt p L).Perm (p :: L)
  | [] => List.Perm.refl _
  | y :: r => by
    unfold ins
    split
    · exact List.Perm.refl _
    · exact ((perm_ins p r).cons y).trans (List.Perm.swap p y r)
theorem nd_put {L : T K α} (h : Nd L) (k : K) (v : α) : Nd (put lt L k v) := by
  unfold Nd put
  rw [((perm_ins (lt := lt) (k, v) (del L k)).map _).nodup_iff]
  refine List.nodup_cons.2 ⟨fun hm => ?_, nd_del h k⟩
  obtain ⟨p, hp, e⟩ := List.mem_map.1 hm
  exact (mem_del.1 hp).2 e
theorem get_del {L : T K α} (k k' : K) : get (del L k) k' = if k' = k then none else get L k' := by
  split
  · rename_i e
    subst e
    exact get_none.2 fun p hp => (mem_del.1 hp).2
  · rename_i hne
    unfold get del
    rw [List.find?_filter]
    congr 2
    funext p
    by_cases e : p.1 = k'
    · simp [e, hne]
    · simp [e]
theorem get_put {L : T K α} (h : Nd L) (k : K) (v : α) (k' : K) : get (put lt L k v) k' = if k' = k then some v else get L k' := by
  have hn := nd_put (lt := lt) h k v
  split
  · rename_i e
    subst e
    exact get_of hn (mem_put.2 (.inl rfl))
  · rename_i hne
    cases hg : get L k' with
    | none =>
      refine get_none.2 fun p hp e => ?_
      rcases mem_put.1 hp with rfl | hp
      · exact hne e.symm
      · exact get_none.1 hg p hp.1 e
    | some u => exact get_of hn (mem_put.2 (.inr ⟨get_mem hg, hne⟩))
/-! ### as a map's datum -/
def ent (S : KeyS K) (p : K × α) : Lit × DataW α := (S.lit p.1, .held p.2)
def dat (S : KeyS K) (L : T K α) : DataW α := .map (L.map (ent S))
/-- how a map's elements read -/
def rdE (E : ElS α) (v : Value) : Option (DataW α × List MemPlace) := (E.inv v).map fun a => (.held a, [])
variable (S : KeyS K) (E : ElS α)
theorem rd_val (a : α) : rdE E (E.val a) = some (.held a, []) := by simp [rdE, E.inv_val]
theorem rd_inv {v : Value} {y : DataW α × List MemPlace} (h : rdE E v = some y) : ∃ a, v = E.val a ∧ y = (.held a, []) := by
  unfold rdE at h
  rw [Option.map_eq_some_iff] at h
  obtain ⟨a, h1, rfl⟩ := h
  exact ⟨a, E.val_inv h1, rfl⟩
theorem has_dat (L : T K α) (k : K) : Maps.has (dat S L) (S.lit k) = has L k := by
  unfold dat has
  rw [Maps.has_eq, List.any_map]
  congr 1
  funext y
  exact S.same y.1 k
theorem find_dat (L : T K α) (k : K) : (L.map (ent S)).find? (fun p => p.1.sameKey (S.lit k)) = (L.find? fun y => decide (y.1 = k)).map (ent S) := by
  induction L with
  | nil => rfl
  | cons y r ih =>
    rw [List.map_cons, List.find?_cons, List.find?_cons]
    have e : (ent S y).1.sameKey (S.lit k) = decide (y.1 = k) := S.same y.1 k
    rw [e]
    split
    · rfl
    · exact ih
theorem at_dat (L : T K α) (k : K) (z : α) : (dat S L).atKey (S.lit k) (.held z) = .held ((get L k).getD z) := by
  unfold dat DataW.atKey get
  dsimp only
  rw [find_dat]
  cases L.find? (fun y => decide (y.1 = k)) <;> rfl
theorem filter_dat (L : T K α) (k : K) : (L.map (ent S)).filter (fun p => !p.1.sameKey (S.lit k)) = (del L k).map (ent S) := by
  unfold del
  induction L with
  | nil => rfl
  | cons y r ih =>
    rw [List.map_cons, List.filter_cons, List.filter_cons, ih]
    have e : (ent S y).1.sameKey (S.lit k) = decide (y.1 = k) := S.same y.1 k
    rw [e]
    by_cases h : y.1 = k
    · simp [h]
    · simp [h]
def ltK (S : KeyS K) (a b : K) : Bool := (S.lit a).before (S.lit b)
theorem ins_dat (p : K × α) : ∀ L : T K α, DataW.insert (ent S p) (L.map (ent S)) = (ins (MapP.ltK S) p L).map (ent S)
  | [] => rfl
  | y :: r => by
    rw [List.map_cons]
    unfold DataW.insert ins
    have e : (ent S p).1.before (ent S y).1 = MapP.ltK S p.1 y.1 := rfl
    rw [e]
    by_cases h : MapP.ltK S p.1 y.1 = true
    · simp [h]
    · simp [h, ins_dat p r]
theorem del_dat (L : T K α) (k : K) : (dat S L).del (S.lit k) = dat S (del L k) := by
  unfold dat DataW.del
  dsimp only
  rw [filter_dat]
theorem put_dat (L : T K α) (k : K) (v : α) : (dat S L).put (S.lit k) (.held v) = dat S (put (MapP.ltK S) L k v) := by
  unfold dat DataW.put put
  dsimp only
  rw [filter_dat]
  exact congrArg DataW.map (ins_dat S (k, v) _)
theorem size_dat (L : T K α) : Maps.size (dat S L) = L.length := by simp [dat, Maps.size]
/-- an entry, as the map tells it -/
theorem at_ent {L : T K α} {k : K} {d : DataW α} (h : ∀ z, (dat S L).atKey (S.lit k) z = d) : ∃ v, get L k = some v ∧ d = .held v := by
  unfold dat DataW.atKey at h
  dsimp only at h
  rw [find_dat] at h
  unfold get
  cases hf : L.find? (fun y => decide (y.1 = k)) with
  | none =>
    rw [hf] at h
    have h1 := h .nil
    have h2 := h (.lit (.bool true))
    rw [← h2] at h1
    cases h1
  | some t =>
    rw [hf] at h
    exact ⟨t.2, rfl, (h .nil).symm⟩
end MapP
/-- a map in memory: its keys' type, its block, at most n entries -/
structure MapM {K α : Type} [DecidableEq K] (P : Program) (S : KeyS K) (E : ElS α) (kt : TypeId) (w : World) (b n : Nat) (L : MapP.T K α) : Prop where
  own : w.ownsMap P kt (MapP.rdE E) b n (MapP.dat S L)
  nd : MapP.Nd L
namespace MapM
variable {K α : Type} [DecidableEq K] {P : Program} {S : KeyS K} {E : ElS α} {kt et t : TypeId} {w w' : World} {b n : Nat} {L : MapP.T K α}
theorem lt (h : MapM P S E kt w b n L) : b < w.heap.size := h.own.lt
theorem at_ (h : MapM P S E kt w b n L) (hb : w'.heap[b]? = w.heap[b]?) : MapM P S E kt w' b n L := by
  obtain ⟨es, clock, hh, r⟩ := h.own
  exact ⟨⟨es, clock, hb.trans hh, r⟩, h.nd⟩
theorem made (w : World) : MapM P S E kt (w.alloc (.map #[] 0)) w.heap.size 0 [] := ⟨World.ownsMap_made w P kt _, List.nodup_nil⟩
theorem mono (h : MapM P S E kt w b n L) {m : Nat} (hm : n ≤ m) : MapM P S E kt w b m L := ⟨h.own.mono hm, h.nd⟩
theorem size_le (h : MapM P S E kt w b n L) : L.length ≤ n := by
  have := h.own.size_le
  rwa [MapP.size_dat] at this
theorem look (h : MapM P S E kt w b n L) (Kd : Keyed P kt) (ht : P.underlying t = some (.map kt et)) {z : α} (hz : (zeroValue et).run P w = .ok (E.val z) w) {k : K} (hk : keyOf P kt (S.val k) = some (S.lit k)) :
    (Instr.lookup t (.map (some b)) (S.val k) false).run P w = .ok (E.val ((MapP.get L k).getD z)) w := by
  obtain ⟨v, ps, hrun, hv⟩ := h.own.lookup Kd ht hz (MapP.rd_val E z) hk
  rw [MapP.at_dat] at hv
  obtain ⟨a, rfl, e⟩ := MapP.rd_inv E hv
  simp only [Prod.mk.injEq, DataW.held.injEq] at e
  rw [e.1, hrun]
theorem look_ok (h : MapM P S E kt w b n L) (Kd : Keyed P kt) (ht : P.underlying t = some (.map kt et)) {z : α} (hz : (zeroValue et).run P w = .ok (E.val z) w) {k : K} (hk : keyOf P kt (S.val k) = some (S.lit k)) :
    (Instr.lookup t (.map (some b)) (S.val k) true).run P w = .ok (.tuple #[E.val ((MapP.get L k).getD z), .bool (MapP.has L k)]) w := by
  obtain ⟨v, ps, hrun, hv⟩ := h.own.look_ok Kd ht hz (MapP.rd_val E z) hk
  rw [MapP.at_dat] at hv
  obtain ⟨a, rfl, e⟩ := MapP.rd_inv E hv
  simp only [Prod.mk.injEq, DataW.held.injEq] at e
  rw [e.1, hrun, MapP.has_dat]
theorem store (h : MapM P S E kt w b n L) (Kd : Keyed P kt) (ht : P.underlying t = some (.map kt et)) (hn : n < maxLen) {k : K} (hk : keyOf P kt (S.val k) = some (S.lit k)) (v : α) :
    ∃ w', (Instr.mapUpdate t (.map (some b)) (S.val k) (E.val v)).run P w = .ok () w' ∧ MapM P S E kt w' b (n + 1) (MapP.put (MapP.ltK S) L k v) ∧ w.mapTurned w' b := by
  obtain ⟨w', h1, h2, h3⟩ := h.own.store Kd ht hn hk (MapP.rd_val E v)
  rw [MapP.put_dat] at h2
  exact ⟨w', h1, ⟨h2, MapP.nd_put h.nd k v⟩, h3⟩
theorem drop (h : MapM P S E kt w b n L) (Kd : Keyed P kt) (ht : P.underlying t = some (.map kt et)) {k : K} (hk : keyOf P kt (S.val k) = some (S.lit k)) (ty : TypeId) :
    ∃ w', (Builtin.delete_ #[t, kt] ty #[.map (some b), S.val k]).run P w = .ok (.tuple #[]) w' ∧ MapM P S E kt w' b n (MapP.del L k) ∧ w.mapTurned w' b := by
  obtain ⟨w', h1, h2, h3⟩ := h.own.drop Kd ht hk ty
  rw [MapP.del_dat] at h2
  exact ⟨w', h1, ⟨h2, MapP.nd_del h.nd k⟩, h3⟩
theorem len (h : MapM P S E kt w b n L) (ht : P.underlying t = some (.map kt et)) (ty : TypeId) : (Builtin.len_ #[t] ty #[.map (some b)]).run P w = .ok (.int .i64 (L.length : Nat)) w := by
  rw [h.own.len ht ty, MapP.size_dat]
theorem turned_keep {b : Nat} (h : w.mapTurned w' b) : w.grownBy w' (some b) := h.grown
theorem turned_size {b : Nat} (h : w.mapTurned w' b) : w'.heap.size = w.heap.size := by
  obtain ⟨es, c, es', c', h1, rfl⟩ := h
  simp [Go.ChangeMaps.setBlock]
/-- all is taken out -/
theorem clear (h : MapM P S E kt w b n L) (ht : P.underlying t = some (.map kt et)) (ty : TypeId) :
    ∃ w', (Builtin.clear_ #[t] ty #[.map (some b)]).run P w = .ok (.tuple #[]) w' ∧ MapM P S E kt w' b 0 [] ∧ w.mapTurned w' b := by
  obtain ⟨es, clock, hb, F, hs, hD⟩ := h.own
  refine ⟨Go.ChangeMaps.setBlock w b (.map #[] clock), ?_, ⟨⟨#[], clock, Go.ChangeMaps.heap_setBlock_same hb _, ⟨by simp, MapKept.stamped_empty clock, by simp⟩, Nat.le_refl _, rfl⟩, List.nodup_nil⟩, ⟨es, clock, #[], clock, hb, rfl⟩⟩
  unfold Builtin.clear_
  simp [run_underlying ht, MapKept.run_getObj_map hb, MapKept.run_setObj_map _ hb, Go.ChangeMaps.setBlock]
end MapM
/-- numbers as keys -/
def intK : KeyS Int where
  val k := .int .i64 k
  lit k := .int .i64 k
  same a b := by simp [Lit.sameKey]
end Go.Proofs.Ytldgdgfplgdipaa
namespace Go.Proofs.Ytldgdgfplgdipaa
open Go.RowKit
set_option linter.unusedVariables false
theorem Reg.KeepB.trans {N M : Nat} {b0 : List Nat} {a b c : World} (h : Reg.KeepB N b0 a b) (k : Reg.KeepB M b0 b c) (hN : N ≤ M) : Reg.KeepB N b0 a c :=
  ⟨k.os.trans h.os, k.tape.trans h.tape, k.output.trans h.output, Nat.le_trans h.size k.size, fun i hi hb => (k.block i (by omega) hb).trans (h.block i hi hb)⟩
theorem Reg.KeepB.more {N : Nat} {b0 b1 : List Nat} {a b : World} (h : Reg.KeepB N b0 a b) (hs : ∀ x ∈ b0, x ∈ b1) : Reg.KeepB N b1 a b :=
  ⟨h.os, h.tape, h.output, h.size, fun i hi hb => h.block i hi (fun hm => hb (hs i hm))⟩
theorem Reg.KeepB.less {N M : Nat} {b0 : List Nat} {a b : World} (h : Reg.KeepB N b0 a b) (hM : M ≤ N) : Reg.KeepB M b0 a b :=
  ⟨h.os, h.tape, h.output, h.size, fun i hi hb => h.block i (by omega) hb⟩
/-- blocks that are none of the call's -/
theorem Reg.KeepB.grown {N : Nat} {b0 : List Nat} {a b c : World} {g : Nat} (h : Reg.KeepB N b0 a b) (k : b.grownBy c (some g)) (hN : N ≤ b.heap.size) (hg : N ≤ g ∨ g ∈ b0) : Reg.KeepB N b0 a c :=
  ⟨k.os.trans h.os, k.tape.trans h.tape, k.output.trans h.output, Nat.le_trans h.size k.size, fun i hi hb => (k.block i (by omega) (by intro e; injection e with e; subst e; rcases hg with h1 | h1; omega; exact hb h1)).trans (h.block i hi hb)⟩
theorem Reg.KeepB.step {N : Nat} {b0 : List Nat} {a b c : World} (h : Reg.KeepB N b0 a b) (k : Below b.heap.size b c) (hN : N ≤ b.heap.size) : Reg.KeepB N b0 a c := h.trans (Reg.KeepB.of k) hN
theorem Str.keepB {w w' : World} {b : Nat} {b0 : List Nat} {cs : Array Value} (h : Str w b cs) (k : Reg.KeepB w.heap.size b0 w w') (hb : b ∉ b0) : Str w' b cs := k.str h h.lt hb
theorem drewN_below {B : Nat} {a w : World} (h : Below B a w) (k : Nat) : Below B a (w.drewN k) := ⟨h.os, h.tape, h.output, h.size, h.block⟩
end Go.Proofs.Ytldgdgfplgdipaa
namespace Go.Proofs.Ytldgdgfplgdipaa
open Go.RowKit
set_option linter.unusedVariables false
/-- a page in a row -/
def PageE : El (List UInt8) where
  size := 512
  pos := by decide
  rel w B vs x := vs = x.map byteV ∧ x.length = 512
  len := by rintro w B vs p ⟨rfl, h⟩; simpa using h
  one := by rintro w B vs p ⟨rfl, _⟩ v hv; exact byteV_one p v hv
  sub := by rintro w w' B vs p hs h; exact h
  more := by rintro w B B' vs p hB h; exact h
/-- a row of pages in block g -/
abbrev Pgs (T : TypeId) (w : World) (g n c : Nat) (ps : List (List UInt8)) : Prop := OwnE PageE T w 0 (some ⟨g, 0, none⟩) n c ps
theorem pageE_rel {w w' : World} {B B' : Nat} {vs : List (List Value)} {ps : List (List UInt8)} (h : Rel2 (PageE.rel w B) vs ps) : Rel2 (PageE.rel w' B') vs ps := h.imp fun _ _ hq => hq
section
variable {T : TypeId} {w w' : World} {g n c k : Nat} {ps : List (List UInt8)} {p : List UInt8}
theorem Pgs.blk (h : Pgs T w g n c ps) : ∃ cur vs, w.heap[g]? = some (.cells cur T (0, 0)) ∧ n ≤ c ∧ c ≤ maxLen ∧ cur.size = c * 512 ∧ cur.toList.take (n * 512) = vs.flatten ∧ Rel2 (PageE.rel w 0) vs ps := by
  obtain ⟨vs, h1, h2⟩ := h
  rcases h1.2 with ⟨e, h0⟩ | ⟨g', cap, cur, e, hg, hh, hnc, hm, hc, hx⟩
  · cases e
  · cases e
    exact ⟨cur, vs, hh, hnc, hm, hc, hx, pageE_rel h2⟩
theorem Pgs.lt (h : Pgs T w g n c ps) : g < w.heap.size := by
  obtain ⟨cur, vs, hh, -⟩ := h.blk
  exact (Array.getElem?_eq_some_iff.1 hh).1
theorem Pgs.le (h : Pgs T w g n c ps) : n ≤ c := by
  obtain ⟨cur, vs, hh, hn, -⟩ := h.blk
  exact hn
theorem Pgs.at_ (h : Pgs T w g n c ps) (hb : w'.heap[g]? = w.heap[g]?) : Pgs T w' g n c ps := by
  obtain ⟨vs, h1, h2⟩ := h
  refine ⟨vs, ⟨h1.1, ?_⟩, pageE_rel h2⟩
  rcases h1.2 with ⟨e, h0⟩ | ⟨g', cap, cur, e, hg, hh, r⟩
  · cases e
  · cases e
    exact .inr ⟨g, c, cur, rfl, hg, hb.trans hh, r⟩
theorem Pgs.wide (h : Pgs T w g n c ps) : ∀ p ∈ ps, p.length = 512 := by
  obtain ⟨cur, vs, -, -, -, -, -, hr⟩ := h.blk
  intro p hp
  obtain ⟨k, hk, rfl⟩ := List.getElem_of_mem hp
  obtain ⟨v, -, hv⟩ := hr.get (List.getElem?_eq_getElem hk)
  exact hv.2
theorem Pgs.range (h : Pgs T w g n c ps) (hk : ps[k]? = some p) : w.rangeAt g (k * 512) (p.map byteV) := by
  obtain ⟨cur, vs, hh, hnc, hm, hc, hx, hr⟩ := h.blk
  have hl := h.len
  have hkl : k < ps.length := (List.getElem?_eq_some_iff.1 hk).1
  obtain ⟨v, hv, rfl, hpl⟩ := hr.get hk
  intro j u hu
  have hj : j < 512 := by have := (List.getElem?_eq_some_iff.1 hu).1; simpa [hpl] using this
  have h1 := flat_at (size := 512) vs (fun y hy => by obtain ⟨q, hq⟩ := hr.mem hy; exact PageE.len hq) k _ j u hv hu
  rw [cell_of_row w g _ cur T (0, 0) hh, ← Array.getElem?_toList]
  rw [← hx, List.getElem?_take_of_lt (by have : (k + 1) * 512 ≤ n * 512 := Nat.mul_le_mul_right _ (by omega); omega)] at h1
  exact h1
theorem page_load (h : w.rangeAt g k (p.map byteV)) (hp : p.length = 512) : (ldSem 30 (.pointer (some ⟨g, k, none⟩))).run Try.prog w = .ok (.agg (rowV p)) w := by
  obtain ⟨e, he, _⟩ := arrPage.und
  have := run_loadAt_mid (P := Try.prog) w g k 30 (p.map byteV) _ h he rfl (by rw [arrPage.size]; simp [hp])
  exact this
theorem Pgs.load (h : Pgs T w g n c ps) (hk : ps[k]? = some p) : (ldSem 30 (.pointer (some ⟨g, k * 512, none⟩))).run Try.prog w = .ok (.agg (rowV p)) w :=
  page_load (h.range hk) (h.wide p (List.mem_of_getElem? hk))
theorem Pgs.store (h : Pgs T w g n c ps) (hk : k < n) (hp : p.length = 512) :
    ∃ w1, (stSem 30 (.pointer (some ⟨g, k * 512, none⟩)) (.agg (rowV p))).run Try.prog w = .ok () w1 ∧ Pgs T w1 g n c (ps.set k p) ∧ w.grownBy w1 (some g) ∧ w1.heap.size = w.heap.size := by
  obtain ⟨g', w1, e, -, -, hr, hO, hg, hz⟩ := OwnE.write (P := Try.prog) h (j := k) (i := 0) (s := p.map byteV) (x := p) hk (by show 0 + _ ≤ 512; simp [hp]) (byteV_one p) (fun g vs _ hq => by
    have hl : k < ps.length := by rw [h.len]; exact hk
    obtain ⟨rfl, h2⟩ := hq _ (List.getElem?_eq_getElem hl)
    refine ⟨?_, hp⟩
    unfold overV
    simp [h2, hp])
  cases e
  refine ⟨w1, ?_, hO, hg, hz⟩
  have hsz : (Try.prog.info? 30).map (·.size) = some 512 := arrPage.size
  cases hq : Try.prog.info? 30 with
  | none => simp [hq] at hsz
  | some i =>
    have hs : i.size = 512 := by simpa [hq] using hsz
    have hr' : (storeCells ⟨g, k * 512, none⟩ (p.map byteV)).run Try.prog w = .ok () w1 := by simpa [PageE] using hr
    simp [stSem, Instr.storeAt, Instr.sureAddr, storeVar, sizeOf, typeInfo, hq, Value.cells, hs, rowV, hp, hr']
end
/-! ### a box that holds a page in its middle -/
def jobC (d : Nat) (n : Int) (l : List UInt8) (s : Value) : Array Value := (([Value.pointer (some ⟨d, 0, none⟩), Value.int .i64 n] : List Value) ++ l.map byteV ++ [s]).toArray
section
variable {w w' : World} {j d : Nat} {n : Int} {l p : List UInt8} {s : Value}
theorem jobC_size (hl : l.length = 512) : (jobC d n l s).size = 515 := by simp [jobC, hl]
theorem jobC_0 : (jobC d n l s)[0]? = some (.pointer (some ⟨d, 0, none⟩)) := by simp [jobC]
theorem jobC_1 : (jobC d n l s)[1]? = some (.int .i64 n) := by simp [jobC]
theorem jobC_s (hl : l.length = 512) : (jobC d n l s)[514]? = some s := by
  unfold jobC
  rw [List.getElem?_toArray, List.getElem?_append_right (by simp [hl])]
  simp [hl]
theorem jobC_range (h : Str w j (jobC d n l s)) (hl : l.length = 512) : w.rangeAt j 2 (l.map byteV) := by
  intro i v hv
  have hi : i < 512 := by have := (List.getElem?_eq_some_iff.1 hv).1; simpa [hl] using this
  rw [h.cell]
  unfold jobC
  rw [List.getElem?_toArray, List.getElem?_append_left (by simp [hl]; omega), List.getElem?_append_right (by simp)]
  simpa using hv
theorem job3 (h : Str w j (jobC d n l s)) (hl : l.length = 512) : w.cell? ⟨j, 0, none⟩ = some (.pointer (some ⟨d, 0, none⟩)) ∧ w.cell? ⟨j, 1, none⟩ = some (.int .i64 n) ∧ w.cell? ⟨j, 514, none⟩ = some s :=
  ⟨(h.cell 0).trans jobC_0, (h.cell 1).trans jobC_1, (h.cell 514).trans (jobC_s hl)⟩
theorem job_load (h : Str w j (jobC d n l s)) (hl : l.length = 512) : (ldSem 30 (.pointer (some ⟨j, 2, none⟩))).run Try.prog w = .ok (.agg (rowV l)) w := page_load (jobC_range h hl) hl
theorem job_store (h : Str w j (jobC d n l s)) (hl : l.length = 512) (hp : p.length = 512) :
    ∃ w1, (stSem 30 (.pointer (some ⟨j, 2, none⟩)) (.agg (rowV p))).run Try.prog w = .ok () w1 ∧ Str w1 j (jobC d n p s) ∧ w.grownBy w1 (some j) ∧ w1.heap.size = w.heap.size := by
  obtain ⟨t, hh⟩ := h
  have hrun := run_storeCells_at Try.prog j 2 t (p.map byteV) 0 _ w hh (by rw [jobC_size hl]; simp [hp]) (byteV_one p)
  simp only [Nat.add_zero, List.length_map, hp] at hrun
  have hcs : ((jobC d n l s).toList.take 2 ++ p.map byteV ++ (jobC d n l s).toList.drop (2 + 512)) = (jobC d n p s).toList := by
    simp [jobC, hl]
  refine ⟨_, ?_, ⟨t, setRow_heap w j _ (jobC d n p s) t _ hh⟩, grown_setRow w j _, sz_setRow _ _ _⟩
  rw [hcs] at hrun
  have hsz : (Try.prog.info? 30).map (·.size) = some 512 := arrPage.size
  cases hq : Try.prog.info? 30 with
  | none => simp [hq] at hsz
  | some i =>
    have hs : i.size = 512 := by simpa [hq] using hsz
    simp [stSem, Instr.storeAt, Instr.sureAddr, storeVar, sizeOf, typeInfo, hq, Value.cells, hs, rowV, hp, hrun]
end
end Go.Proofs.Ytldgdgfplgdipaa
namespace Go.Proofs.Ytldgdgfplgdipaa
open Go.RowKit Go.Maps
set_option linter.unusedVariables false
set_option linter.unusedSectionVars false
/-- a device: its pages as they are safe, as they are read, its log, the rest -/
structure DevX where
  safe : List (List UInt8)
  now : List (List UInt8)
  log : List UInt8
  stale : Int
  head : Int
  sure : Int
  fused : Bool
  fuse : Int
  off : Bool
  ops : Int
  wr : Nat
/-- a slice as a map's element -/
structure SlV where
  A : Option Addr
  n : Nat
  c : Nat
def slE : ElS SlV where
  val s := .slice s.A s.n s.c
  inv v := match v with
    | .slice A n c => some ⟨A, n, c⟩
    | _ => none
  inv_val _ := rfl
  val_inv := by
    intro v a h
    split at h
    · cases h; rfl
    · cases h
namespace DevP
def new (n : Nat) : DevX := ⟨List.replicate n (SlotP.zeros 512), List.replicate n (SlotP.zeros 512), [], 0, 0, 0, false, 0, false, 0, 0⟩
/-- the error of an operation -/
def err (X : DevX) (fits : Bool) : Int := if X.off then 3 else if !fits then 2 else if X.fused && decide (X.fuse = 0) then 3 else 0
/-- the device, where an operation was not done -/
def stop (X : DevX) (fits : Bool) : DevX := if X.off then X else if !fits then X else { X with off := true }
/-- an operation more -/
def done (X : DevX) : DevX := { X with ops := X.ops + 1, fuse := if X.fused then X.fuse - 1 else X.fuse }
structure Ok (X : DevX) : Prop where
  n0 : 1 ≤ X.safe.length
  n1 : X.safe.length ≤ 1024
  nl : X.now.length = X.safe.length
  h0 : 0 ≤ X.head
  s0 : X.head ≤ X.sure
  s1 : X.sure ≤ X.head + X.log.length
  t0 : 0 ≤ X.stale
  t1 : X.stale ≤ X.head
  o0 : 0 ≤ X.ops
  f0 : 0 ≤ X.fuse
  f1 : X.fuse ≤ 9223372036854775807
  w0 : ∀ p ∈ X.safe, p.length = 512
  w1 : ∀ p ∈ X.now, p.length = 512
/-- so small that no number is too great -/
def Small (X : DevX) : Prop := X.ops ≤ 1000000000 ∧ X.head + X.log.length ≤ 100000000000000 ∧ X.wr ≤ 1000000000
theorem ok_new {n : Nat} (h0 : 1 ≤ n) (h1 : n ≤ 1024) : Ok (new n) := by
  refine ⟨by simpa [new] using h0, by simpa [new] using h1, by simp [new], by simp [new], by simp [new], by simp [new], by simp [new], by simp [new], by simp [new], by simp [new], by simp [new], ?_, ?_⟩
  all_goals
    intro p hp
    rw [new, List.mem_replicate] at hp
    rw [hp.2]
    exact List.length_replicate
theorem ok_done {X : DevX} (h : Ok X) (hf : X.fused = true → X.fuse ≠ 0) : Ok (done X) := by
  obtain ⟨a1, a2, a3, a4, a5, a6, a7, a8, a9, a10, a11, a12, a13⟩ := h
  refine ⟨a1, a2, a3, a4, a5, a6, a7, a8, ?_, ?_, ?_, a12, a13⟩
  · show 0 ≤ X.ops + 1; omega
  · show 0 ≤ (if X.fused then X.fuse - 1 else X.fuse); split
    · rename_i e; have := hf e; omega
    · exact a10
  · show (if X.fused then X.fuse - 1 else X.fuse) ≤ _; split <;> omega
theorem ok_stop {X : DevX} (h : Ok X) (fits : Bool) : Ok (stop X fits) := by
  unfold stop
  split
  · exact h
  split
  · exact h
  · exact ⟨h.n0, h.n1, h.nl, h.h0, h.s0, h.s1, h.t0, h.t1, h.o0, h.f0, h.f1, h.w0, h.w1⟩
end DevP
namespace DevW
theorem law : Keyed Try.prog 3 := int_keyed Try.underlying3
theorem keyOf_ {k : Int} (h : In64 k) : keyOf Try.prog 3 (intK.val k) = some (intK.lit k) := keyOf_int_mk Try.underlying3 (WalkArith.wf_i64 h)
theorem zeroS (w : World) : (zeroValue 61).run Try.prog w = .ok (slE.val ⟨none, 0, 0⟩) w := by kernel_rfl
theorem infoP : (Try.prog.info? 30).map (fun i => (i.zero, i.size, i.bytes)) = some (some (.agg (Array.replicate 512 (.int .u8 0))), 512, 512) := by kernel_rfl
def blk (s : SlV) : Nat := match s.A with
  | some a => a.block
  | none => 0
/-- the writings of a page -/
structure Ent (w : World) (N : Nat) (now : List (List UInt8)) (ops : Nat) (p : Int × SlV) : Prop where
  k0 : 0 ≤ p.1
  k1 : p.1 < N
  pg : ∃ ps, p.2.A = some ⟨blk p.2, 0, none⟩ ∧ Pgs 30 w (blk p.2) p.2.n p.2.c ps ∧ ps ≠ [] ∧ ps.getLast? = now[p.1.toNat]?
  le : p.2.n ≤ ops
/-- pages in memory: those that are safe, and the writings -/
structure Pages (w : World) (sb mb : Nat) (bp : List Nat) (safe now : List (List UInt8)) (ops : Nat) (nm : Nat) (es : List (Int × SlV)) : Prop where
  row : Pgs 30 w sb safe.length safe.length safe
  map : MapM Try.prog intK slE 3 w mb nm es
  ent : ∀ p ∈ es, Ent w safe.length now ops p
  rest : ∀ k : Nat, k < safe.length → MapP.get es (k : Int) = none → now[k]? = safe[k]?
  bpe : bp = sb :: mb :: es.map (fun p => blk p.2)
  nd : bp.Nodup
  nml : nm ≤ ops
/-- a device's box -/
def devC (N sb mb : Nat) (A : Option Addr) (n c : Nat) (X : DevX) : Array Value := #[.slice (some ⟨sb, 0, none⟩) N N, .map (some mb), .slice A n c, .int .i64 X.stale, .int .i64 X.head, .int .i64 X.sure, .bool X.fused, .int .i64 X.fuse, .bool X.off, .int .i64 X.ops]
/-- a device in memory, all of its parts named -/
structure In (w : World) (d sb mb : Nat) (bp : List Nat) (gb : Option Nat) (A : Option Addr) (n c nm : Nat) (es : List (Int × SlV)) (X : DevX) : Prop where
  box : Str w d (devC X.safe.length sb mb A n c X)
  pages : Pages w sb mb bp X.safe X.now X.wr nm es
  log : OwnS w gb A n c X.log
  nd : (d :: (gb.toList ++ bp)).Nodup
  ok : DevP.Ok X
/-- a device in memory, its blocks -/
def Dev (w : World) (d : Nat) (bs : List Nat) (X : DevX) : Prop := ∃ sb mb bp gb A n c nm es, In w d sb mb bp gb A n c nm es X ∧ bs = d :: (gb.toList ++ bp)
section
variable {w w' : World} {d sb mb N : Nat} {bp bs : List Nat} {gb : Option Nat} {A : Option Addr} {n c nm : Nat} {es : List (Int × SlV)} {X : DevX} {safe now : List (List UInt8)} {ops : Nat}
theorem Ent.at_ {p : Int × SlV} (h : Ent w N now ops p) (hb : w'.heap[blk p.2]? = w.heap[blk p.2]?) : Ent w' N now ops p := by
  obtain ⟨ps, e, hp, r⟩ := h.pg
  exact ⟨h.k0, h.k1, ⟨ps, e, hp.at_ hb, r⟩, h.le⟩
theorem Ent.lt {p : Int × SlV} (h : Ent w N now ops p) : blk p.2 < w.heap.size := by
  obtain ⟨ps, e, hp, r⟩ := h.pg
  exact hp.lt
theorem Pages.at_ (h : Pages w sb mb bp safe now ops nm es) (hb : ∀ b ∈ bp, w'.heap[b]? = w.heap[b]?) : Pages w' sb mb bp safe now ops nm es := by
  obtain ⟨a1, a2, a3, a4, rfl, a6, a7⟩ := h
  exact ⟨a1.at_ (hb _ (by simp)), a2.at_ (hb _ (by simp)), fun p hp => (a3 p hp).at_ (hb _ (by simp only [List.mem_cons, List.mem_map]; exact .inr (.inr ⟨p, hp, rfl⟩))), a4, rfl, a6, a7⟩
theorem Pages.lt (h : Pages w sb mb bp safe now ops nm es) : ∀ b ∈ bp, b < w.heap.size := by
  obtain ⟨a1, a2, a3, a4, rfl, a6, a7⟩ := h
  intro b hb
  simp only [List.mem_cons, List.mem_map] at hb
  rcases hb with rfl | rfl | ⟨p, hp, rfl⟩
  · exact a1.lt
  · exact a2.lt
  · exact (a3 p hp).lt
theorem Pages.mono (h : Pages w sb mb bp safe now ops nm es) {ops' : Nat} (ho : ops ≤ ops') : Pages w sb mb bp safe now ops' nm es :=
  ⟨h.row, h.map, fun p hp => ⟨(h.ent p hp).k0, (h.ent p hp).k1, (h.ent p hp).pg, by have := (h.ent p hp).le; omega⟩, h.rest, h.bpe, h.nd, by have := h.nml; omega⟩
theorem In.lt (h : In w d sb mb bp gb A n c nm es X) : ∀ b ∈ d :: (gb.toList ++ bp), b < w.heap.size := by
  intro b hb
  simp only [List.mem_cons, List.mem_append, Option.mem_toList] at hb
  rcases hb with rfl | hb | hb
  · exact h.box.lt
  · exact h.log.lt b hb
  · exact h.pages.lt b hb
theorem In.at_ (h : In w d sb mb bp gb A n c nm es X) (hb : ∀ b ∈ d :: (gb.toList ++ bp), w'.heap[b]? = w.heap[b]?) : In w' d sb mb bp gb A n c nm es X := by
  refine ⟨?_, h.pages.at_ fun b hm => hb b (by simp [hm]), h.log.at_ fun g e => hb g (by simp [e]), h.nd, h.ok⟩
  obtain ⟨t, ht⟩ := h.box
  exact ⟨t, (hb d (by simp)).trans ht⟩
theorem Dev.lt (h : Dev w d bs X) : ∀ b ∈ bs, b < w.heap.size := by
  obtain ⟨sb, mb, bp, gb, A, n, c, nm, es, h, rfl⟩ := h
  exact h.lt
theorem Dev.ok (h : Dev w d bs X) : DevP.Ok X := by
  obtain ⟨sb, mb, bp, gb, A, n, c, nm, es, h, rfl⟩ := h
  exact h.ok
theorem Dev.mem (h : Dev w d bs X) : d ∈ bs := by
  obtain ⟨sb, mb, bp, gb, A, n, c, nm, es, h, rfl⟩ := h
  simp
theorem Dev.at_ (h : Dev w d bs X) (hb : ∀ b ∈ bs, w'.heap[b]? = w.heap[b]?) : Dev w' d bs X := by
  obtain ⟨sb, mb, bp, gb, A, n, c, nm, es, h, rfl⟩ := h
  exact ⟨sb, mb, bp, gb, A, n, c, nm, es, h.at_ hb, rfl⟩
theorem Dev.below (h : Dev w d bs X) (hb : Below w.heap.size w w') : Dev w' d bs X := h.at_ fun b hm => hb.block b (h.lt b hm)
theorem Dev.grown {g : Nat} (h : Dev w d bs X) (hg : w.grownBy w' (some g)) (hn : g ∉ bs) : Dev w' d bs X := h.at_ fun b hm => hg.block b (h.lt b hm) (by intro e; injection e with e; subst e; exact hn hm)
theorem Dev.keepB {b0 : List Nat} (h : Dev w d bs X) (k : Reg.KeepB w.heap.size b0 w w') (hn : ∀ b ∈ b0, b ∉ bs) : Dev w' d bs X := h.at_ fun b hm => k.block b (h.lt b hm) (fun hm2 => hn b hm2 hm)
/-- the box alone has turned -/
theorem In.turn {X' : DevX} (h : In w d sb mb bp gb A n c nm es X) (hg : w.grownBy w' (some d)) (hb : Str w' d (devC X.safe.length sb mb A n c X')) (e1 : X'.safe = X.safe) (e2 : X'.now = X.now) (e3 : X'.log = X.log) (ho : X.wr ≤ X'.wr) (hk : DevP.Ok X') : In w' d sb mb bp gb A n c nm es X' := by
  have hne : ∀ b ∈ gb.toList ++ bp, w'.heap[b]? = w.heap[b]? := fun b hm => hg.block b (h.lt b (List.mem_cons_of_mem _ hm)) (by intro e; injection e with e; subst e; exact (List.nodup_cons.1 h.nd).1 hm)
  have hp := (h.pages.at_ (w' := w') fun b hm => hne b (by simp [hm])).mono ho
  have hl := h.log.at_ (w' := w') fun g e => hne g (by simp [e])
  rw [← e1] at hb
  rw [← e1, ← e2] at hp
  rw [← e3] at hl
  exact ⟨hb, hp, hl, h.nd, hk⟩
end
end DevW
end Go.Proofs.Ytldgdgfplgdipaa
namespace Go.Proofs.Ytldgdgfplgdipaa
open Go.RowKit Go.Maps
set_option linter.unusedVariables false
set_option linter.unusedSimpArgs false
theorem DevW.str10 {w : World} {b : Nat} {c0 c1 c2 c3 c4 c5 c6 c7 c8 c9 : Value} (h : Str w b #[c0, c1, c2, c3, c4, c5, c6, c7, c8, c9]) :
    w.cell? ⟨b, 0, none⟩ = some c0 ∧ w.cell? ⟨b, 1, none⟩ = some c1 ∧ w.cell? ⟨b, 2, none⟩ = some c2 ∧ w.cell? ⟨b, 3, none⟩ = some c3 ∧ w.cell? ⟨b, 4, none⟩ = some c4 ∧ w.cell? ⟨b, 5, none⟩ = some c5 ∧ w.cell? ⟨b, 6, none⟩ = some c6 ∧ w.cell? ⟨b, 7, none⟩ = some c7 ∧ w.cell? ⟨b, 8, none⟩ = some c8 ∧ w.cell? ⟨b, 9, none⟩ = some c9 :=
  ⟨h.cell 0, h.cell 1, h.cell 2, h.cell 3, h.cell 4, h.cell 5, h.cell 6, h.cell 7, h.cell 8, h.cell 9⟩
namespace DevW
variable {d sb mb : Nat} {bp bs : List Nat} {gb : Option Nat} {A : Option Addr} {n c nm : Nat} {es : List (Int × SlV)} {X : DevX}
set_option maxRecDepth 100000 in
set_option maxHeartbeats 1000000 in
theorem do1_any (b : Nat) (u : FrameMode) (w : World) (hB : Str w b #[.pointer (some ⟨d, 0, none⟩)]) (hI : In w d sb mb bp gb A n c nm es X) (hne : b ≠ d) (hs : X.ops ≤ 1000000000) (hf : X.fused = true → X.fuse ≠ 0) :
    CallsD Try.prog 57 #[.pointer (some ⟨b, 0, none⟩)] u w fun e u' w' => u' = u ∧ (e = .returned (.tuple #[]) ∧ In w' d sb mb bp gb A n c nm es (DevP.done X) ∧ w.grownBy w' (some d)) := by
  have HI := Lib.hid hI
  have ho := hI.ok.o0
  have hf0 := hI.ok.f0
  have hf1 := hI.ok.f1
  have f0 := str1 hB
  have f1 := str10 hI.box
  have hz := fun j => hI.box.frozen j
  have hb := hI.box
  have hl := hI.box.lt
  have HB := Lib.hid hb
  have HF := Lib.hid hf
  clear hI hb hB hf
  obtain ⟨safe, now, log, stale, head, sure, fused, fuse, off, ops, wr⟩ := X
  dsimp only at ho hf0 hf1 hs f1
  cases fused with
  | false =>
    go_enter_d Try.func57, Try.ntmps57
    go_wp2
    go_end0
    refine ⟨rfl, ?_, grown_set (grown_refl w d) 9 _⟩
    exact HI.out.turn (X' := DevP.done ⟨safe, now, log, stale, head, sure, false, fuse, off, ops, wr⟩) (grown_set (grown_refl w d) 9 _) (HB.out.set 9 _) rfl rfl rfl (Nat.le_refl _) (DevP.ok_done HI.out.ok (fun h => by cases h))
  | true =>
    have hfu : fuse ≠ 0 := HF.out rfl
    go_enter_d Try.func57, Try.ntmps57
    go_wp2
    go_end0
    refine ⟨rfl, ?_, grown_set (grown_set (grown_refl w d) 9 _) 7 _⟩
    exact HI.out.turn (X' := DevP.done ⟨safe, now, log, stale, head, sure, true, fuse, off, ops, wr⟩) (grown_set (grown_set (grown_refl w d) 9 _) 7 _) ((HB.out.set 9 _).set 7 _) rfl rfl rfl (Nat.le_refl _) (DevP.ok_done HI.out.ok (fun _ => hfu))
set_option maxRecDepth 100000 in
set_option maxHeartbeats 1000000 in
theorem do_ok (fn : FuncId) (first : Array Value) (E : World → Prop) (js : List Nat) (w : World) (X1 : DevX) (hD : Dev w d bs X) (hs : X.ops ≤ 1000000000) (ho : X.off = false) (hf : X.fused = true → X.fuse ≠ 0) (hj : ∀ b ∈ js, b < w.heap.size)
    (hE : ∀ W1 W2 : World, W1.grownBy W2 (some d) → E W1 → E W2) (h1 : X1.fused = X.fused) (h2 : X1.fuse = X.fuse) (h3 : X1.ops = X.ops)
    (hce : ∀ W : World, (callFunc fn first).run Try.prog W = .ok (.enter fn first) W)
    (hact : ∀ W, Below w.heap.size w W → Calls Try.prog fn first W fun e W' => e = .returned (.tuple #[]) ∧ ∃ bs', Dev W' d bs' X1 ∧ Reg.KeepB W.heap.size (js ++ bs) W W' ∧ (∀ b ∈ bs', b ∈ bs ∨ W.heap.size ≤ b) ∧ E W') :
    Calls Try.prog 37 #[.pointer (some ⟨d, 0, none⟩), .bool true, .func (.func fn) first #[]] w fun e w' => e = .returned (.int .i64 0) ∧ ∃ bs', Dev w' d bs' (DevP.done X1) ∧ Reg.KeepB w.heap.size (js ++ bs) w w' ∧ (∀ b ∈ bs', b ∈ bs ∨ w.heap.size ≤ b) ∧ E w' := by
  have hmf : ∀ (fn : Fn) (first cap : Array Value) (w : World), (Instr.makeFunc fn first cap).run Try.prog w = .ok (.func fn first cap) w := fun _ _ _ _ => rfl
  have HD := Lib.hid hD
  have HA := Lib.hid hact
  have HE := Lib.hid hE
  obtain ⟨sb, mb, bp, gb, A, n, c, nm, es, hI, hbs⟩ := hD
  have f1 := str10 hI.box
  have hz := fun j => hI.box.frozen j
  have hl := hI.box.lt
  have HBS := Lib.hid hbs
  have HI := Lib.hid hI
  have HH := Lib.hid (And.intro h1 (And.intro h2 h3))
  have HJ := Lib.hid hj
  have HF := Lib.hid hf
  clear hact hE hI hbs h1 h2 h3 hj hf
  obtain ⟨safe, now, log, stale, head, sure, fused, fuse, off, ops, wr⟩ := X
  dsimp only at ho hs f1
  subst ho
  have hb1 : Below w.heap.size w (w.alloc (.cells #[.pointer (some ⟨d, 0, none⟩)] 28)) := balloc (bsame w) _
  have HS := Lib.hid (Str.new w #[.pointer (some ⟨d, 0, none⟩)] 28)
  cases fused with
  | false =>
    go_enter_defers Try.func37, Try.ntmps37
    go_wp2_with fail
    refine (HA.out _ hb1).mono ?_
    rintro e W2 ⟨rfl, bs2, hD2, hk2, hn2, hE2⟩
    have hnb : w.heap.size ∉ js ++ bs := fun hm => by
      rcases List.mem_append.1 hm with hm | hm
      · have := HJ.out _ hm; omega
      · have := HD.out.lt _ hm; omega
    have hS2 := HS.out.keepB hk2 hnb
    have hk3 := (Reg.KeepB.of (b0 := js ++ bs) hb1).trans hk2 hb1.size
    have hne : w.heap.size ≠ d := by omega
    have hn3 : ∀ b ∈ bs2, b ∈ bs ∨ w.heap.size ≤ b := fun b hb => (hn2 b hb).imp id fun h => by have := hb1.size; omega
    have hdm : d ∈ js ++ bs := List.mem_append.2 (.inr HD.out.mem)
    have HS2 := Lib.hid hS2
    have HK3 := Lib.hid hk3
    have HN3 := Lib.hid hn3
    have HD2 := Lib.hid hD2
    have HE2 := Lib.hid hE2
    clear hk2 hn2 hS2 hk3 hn3 hD2 hE2 hnb f1 hz hmf hce
    go_wp2
    refine leaves_cons (f := 57) (args := #[.pointer (some ⟨w.heap.size, 0, none⟩)]) (by simp) (by simp [go_sem]) ?_
    obtain ⟨sb2, mb2, bp2, gb2, A2, n2, c2, nm2, es2, hI2, hbs2⟩ := HD2.out
    refine (do1_any w.heap.size .returning W2 HS2.out hI2 hne (by rw [HH.out.2.2]; exact hs) (by rw [HH.out.1, HH.out.2.1]; exact HF.out)).mono ?_
    rintro e u' W3 ⟨rfl, rfl, hI3, hg3⟩
    refine ⟨_, results_tmp rfl _ _ _, rfl, _, ⟨sb2, mb2, bp2, gb2, A2, n2, c2, nm2, es2, hI3, hbs2⟩, HK3.out.grown hg3 HK3.out.size (.inr hdm), HN3.out, HE.out _ _ hg3 HE2.out⟩
  | true =>
    have hfz : ¬ fuse = 0 := HF.out rfl
    go_enter_defers Try.func37, Try.ntmps37
    go_wp2_with fail
    refine (HA.out _ hb1).mono ?_
    rintro e W2 ⟨rfl, bs2, hD2, hk2, hn2, hE2⟩
    have hnb : w.heap.size ∉ js ++ bs := fun hm => by
      rcases List.mem_append.1 hm with hm | hm
      · have := HJ.out _ hm; omega
      · have := HD.out.lt _ hm; omega
    have hS2 := HS.out.keepB hk2 hnb
    have hk3 := (Reg.KeepB.of (b0 := js ++ bs) hb1).trans hk2 hb1.size
    have hne : w.heap.size ≠ d := by omega
    have hn3 : ∀ b ∈ bs2, b ∈ bs ∨ w.heap.size ≤ b := fun b hb => (hn2 b hb).imp id fun h => by have := hb1.size; omega
    have hdm : d ∈ js ++ bs := List.mem_append.2 (.inr HD.out.mem)
    have HS2 := Lib.hid hS2
    have HK3 := Lib.hid hk3
    have HN3 := Lib.hid hn3
    have HD2 := Lib.hid hD2
    have HE2 := Lib.hid hE2
    clear hk2 hn2 hS2 hk3 hn3 hD2 hE2 hnb f1 hz hmf hce
    go_wp2
    refine leaves_cons (f := 57) (args := #[.pointer (some ⟨w.heap.size, 0, none⟩)]) (by simp) (by simp [go_sem]) ?_
    obtain ⟨sb2, mb2, bp2, gb2, A2, n2, c2, nm2, es2, hI2, hbs2⟩ := HD2.out
    refine (do1_any w.heap.size .returning W2 HS2.out hI2 hne (by rw [HH.out.2.2]; exact hs) (by rw [HH.out.1, HH.out.2.1]; exact fun _ => hfz)).mono ?_
    rintro e u' W3 ⟨rfl, rfl, hI3, hg3⟩
    refine ⟨_, results_tmp rfl _ _ _, rfl, _, ⟨sb2, mb2, bp2, gb2, A2, n2, c2, nm2, es2, hI3, hbs2⟩, HK3.out.grown hg3 HK3.out.size (.inr hdm), HN3.out, HE.out _ _ hg3 HE2.out⟩
theorem In.off (w : World) (hI : In w d sb mb bp gb A n c nm es X) : In (w.setCell ⟨d, 8, none⟩ (.bool true)) d sb mb bp gb A n c nm es { X with off := true } :=
  hI.turn (grown_set (grown_refl w d) 8 _) (hI.box.set 8 _) rfl rfl rfl (Nat.le_refl _) ⟨hI.ok.n0, hI.ok.n1, hI.ok.nl, hI.ok.h0, hI.ok.s0, hI.ok.s1, hI.ok.t0, hI.ok.t1, hI.ok.o0, hI.ok.f0, hI.ok.f1, hI.ok.w0, hI.ok.w1⟩
set_option maxRecDepth 100000 in
set_option maxHeartbeats 1000000 in
theorem do_stop (fits : Bool) (fv : Value) (w : World) (hD : Dev w d bs X) (he : DevP.err X fits ≠ 0) :
    Calls Try.prog 37 #[.pointer (some ⟨d, 0, none⟩), .bool fits, fv] w fun e w' => e = .returned (.int .i64 (DevP.err X fits)) ∧ Dev w' d bs (DevP.stop X fits) ∧ Reg.KeepB w.heap.size bs w w' := by
  have HD := Lib.hid hD
  obtain ⟨sb, mb, bp, gb, A, n, c, nm, es, hI, hbs⟩ := hD
  have f1 := str10 hI.box
  have hz := fun j => hI.box.frozen j
  have hl := hI.box.lt
  have HBS := Lib.hid hbs
  have HI := Lib.hid hI
  have hb1 : Below w.heap.size w (w.alloc (.cells #[.pointer (some ⟨d, 0, none⟩)] 28)) := balloc (bsame w) _
  clear hI hbs
  obtain ⟨safe, now, log, stale, head, sure, fused, fuse, off, ops, wr⟩ := X
  dsimp only at f1
  cases off with
  | true =>
    have he1 : DevP.err ⟨safe, now, log, stale, head, sure, fused, fuse, true, ops, wr⟩ fits = 3 := rfl
    have he2 : DevP.stop ⟨safe, now, log, stale, head, sure, fused, fuse, true, ops, wr⟩ fits = ⟨safe, now, log, stale, head, sure, fused, fuse, true, ops, wr⟩ := rfl
    rw [he1, he2]
    clear he1 he2 he
    go_enter_defers Try.func37, Try.ntmps37
    go_wp2
    exact ⟨_, results_tmp rfl _ _ _, rfl, HD.out.below hb1, Reg.KeepB.of hb1⟩
  | false =>
    cases fits with
    | false =>
      have he1 : DevP.err ⟨safe, now, log, stale, head, sure, fused, fuse, false, ops, wr⟩ false = 2 := rfl
      have he2 : DevP.stop ⟨safe, now, log, stale, head, sure, fused, fuse, false, ops, wr⟩ false = ⟨safe, now, log, stale, head, sure, fused, fuse, false, ops, wr⟩ := rfl
      rw [he1, he2]
      clear he1 he2 he
      go_enter_defers Try.func37, Try.ntmps37
      go_wp2
      exact ⟨_, results_tmp rfl _ _ _, rfl, HD.out.below hb1, Reg.KeepB.of hb1⟩
    | true =>
      cases fused with
      | false => exact absurd rfl he
      | true =>
        by_cases hf : fuse = 0
        · subst hf
          have he1 : DevP.err ⟨safe, now, log, stale, head, sure, true, 0, false, ops, wr⟩ true = 3 := rfl
          have he2 : DevP.stop ⟨safe, now, log, stale, head, sure, true, 0, false, ops, wr⟩ true = ⟨safe, now, log, stale, head, sure, true, 0, true, ops, wr⟩ := rfl
          rw [he1, he2]
          clear he1 he2 he
          go_enter_defers Try.func37, Try.ntmps37
          go_wp2
          have hI2 := HI.out.off
          have hg2 := grown_set (grown_refl w d) 8 (.bool true)
          have hb2 : Below (w.setCell ⟨d, 8, none⟩ (.bool true)).heap.size (w.setCell ⟨d, 8, none⟩ (.bool true)) ((w.setCell ⟨d, 8, none⟩ (.bool true)).alloc (.cells #[.pointer (some ⟨d, 0, none⟩)] 28)) := balloc (bsame _) _
          have hI3 := hI2.at_ (fun b hm => hb2.block b (hI2.lt b hm))
          exact ⟨_, results_tmp rfl _ _ _, rfl, ⟨sb, mb, bp, gb, A, n, c, nm, es, hI3, HBS.out⟩, ((Reg.KeepB.of (bsame w)).grown hg2 (Nat.le_refl _) (.inr HD.out.mem)).step hb2 hg2.size⟩
        · have hf2 : decide (fuse = 0) = false := by simpa using hf
          exact absurd (by simp [DevP.err, hf2]) he
end DevW
end Go.Proofs.Ytldgdgfplgdipaa
namespace Go.Proofs.Ytldgdgfplgdipaa
open Go.RowKit Go.Maps
set_option linter.unusedVariables false
set_option linter.unusedSimpArgs false
set_option maxRecDepth 100000
def jobZ : Array Value := (([Value.pointer none, Value.int .i64 0] : List Value) ++ zerosV 512 ++ [Value.slice none 0 0]).toArray
namespace DevW
theorem alJob_fold : Instr.alloc 67 true (.tuple #[]) = alSem 67 := rfl
theorem bdJob_fold (ps : Array (Nat × Value)) : Instr.build 67 ps = bdSem 67 ps := rfl
theorem stJob_fold (a v : Value) : Instr.storeAt 67 a v = stSem 67 a v := rfl
theorem infoJ : (Try.prog.info? 67).map (fun i => (i.zero, i.size)) = some (some (.agg jobZ), 515) := by kernel_rfl
theorem jobZ_size : jobZ.size = 515 := by simp [jobZ, zerosV]
theorem job_al (w : World) : (alSem 67).run Try.prog w = .ok (.pointer (some ⟨w.heap.size, 0, none⟩)) (w.alloc (.cells jobZ 67)) := by
  obtain ⟨hz, _⟩ := zero_of_info infoJ
  simp [alSem, Instr.alloc, hz, newVar, newRow, Value.cells]
theorem jobC_one (d : Nat) (n : Int) (l : List UInt8) (A : Option Addr) (m c : Nat) : (jobC d n l (.slice A m c)).all (·.oneCell') = true := by
  rw [Array.all_eq_true_iff_forall_mem]
  intro v hv
  simp only [jobC, List.mem_toArray, List.mem_append, List.mem_cons, List.not_mem_nil, or_false] at hv
  rcases hv with ((rfl | rfl) | hv) | rfl
  · rfl
  · rfl
  · exact byteV_one l v hv
  · rfl
theorem job_st {w : World} {b d : Nat} {n : Int} {l : List UInt8} {A : Option Addr} {m c : Nat} (hs : Str w b jobZ) (hl : l.length = 512) :
    (stSem 67 (.pointer (some ⟨b, 0, none⟩)) (.agg (jobC d n l (.slice A m c)))).run Try.prog w = .ok () (w.setRow b (jobC d n l (.slice A m c))) := by
  obtain ⟨t', hg⟩ := hs
  have hsz : (Try.prog.info? 67).map (·.size) = some 515 := by
    have := infoJ
    cases hq : Try.prog.info? 67 with
    | none => simp [hq] at this
    | some i => simp [hq] at this; simp [this.2]
  simp only [stSem, Instr.storeAt, Instr.sureAddr, Sem.run_bind, Sem.run_pure, Result.andThen_ok]
  exact run_storeVar_row w b t' _ jobZ _ hg (by rw [hsz, jobC_size hl]) (by rw [jobC_size hl, jobZ_size]) (jobC_one d n l A m c)
theorem job_bd2 (d : Nat) (n : Int) (w : World) : (bdSem 67 #[(0, .pointer (some ⟨d, 0, none⟩)), (1, .int .i64 n)]).run Try.prog w = .ok (.agg (jobC d n (SlotP.zeros 512) (.slice none 0 0))) w := by kernel_rfl
theorem job_bd3 (d : Nat) (A : Option Addr) (m c : Nat) (w : World) : (bdSem 67 #[(0, .pointer (some ⟨d, 0, none⟩)), (3, .slice A m c)]).run Try.prog w = .ok (.agg (jobC d 0 (SlotP.zeros 512) (.slice A m c))) w := by kernel_rfl
theorem foldl_set (o : Nat) : ∀ (vs : List Value) (k : Nat) (cs : Array Value), o + k + vs.length ≤ cs.size → ((vs.zipIdx k).foldl (fun cs p => cs.setIfInBounds (o + p.2) p.1) cs).toList = splice cs.toList (o + k) vs
  | [], k, cs, _ => by simp [splice]
  | v :: r, k, cs, h => by
    rw [List.zipIdx_cons, List.foldl_cons, foldl_set o r (k + 1) _ (by simp at h ⊢; omega), Array.toList_setIfInBounds]
    exact splice_cons _ _ _ _ (by simp at h ⊢; omega)
theorem then_of {α β : Type} {r : Result α} {a : α} {w : World} (K : α → World → Result β) (h : r = .ok a w) : r.andThen K = K a w := by rw [h]; rfl
theorem job_build (d : Nat) (n : Int) (cs : Array Value) (w : World) : (Instr.build 67 #[(0, .pointer (some ⟨d, 0, none⟩)), (1, .int .i64 n), (2, .agg cs)]).run Try.prog w = ((match Instr.fill ((#[(0, 1), (1, 1), (2, 512), (514, 1)] : Array (Nat × Nat))[·]?) jobZ [(0, .pointer (some ⟨d, 0, none⟩)), (1, .int .i64 n), (2, .agg cs)] with
    | some cells => pure (.agg cells)
    | none => stuck "build: no such field, or a part of the wrong size") : Sem Value).run Try.prog w := by
  obtain ⟨hz, _⟩ := zero_of_info infoJ
  unfold Instr.build
  simp only [Sem.run_bind, hz, Result.andThen_ok, run_underlying Try.underlying67]
  refine (then_of (w := w) (a := (#[(0, 1), (1, 1), (2, 512), (514, 1)] : Array (Nat × Nat))) _ (by kernel_rfl)).trans ?_
  rw [show (Value.agg jobZ).cells = jobZ from rfl]
  generalize Instr.fill (fun x => (#[(0, 1), (1, 1), (2, 512), (514, 1)] : Array (Nat × Nat))[x]?) jobZ [(0, Value.pointer (some ⟨d, 0, none⟩)), (1, Value.int .i64 n), (2, Value.agg cs)] = r
  cases r <;> rfl
theorem job_bdP (d : Nat) (n : Int) (l : List UInt8) (hl : l.length = 512) (w : World) : (bdSem 67 #[(0, .pointer (some ⟨d, 0, none⟩)), (1, .int .i64 n), (2, .agg (rowV l))]).run Try.prog w = .ok (.agg (jobC d n l (.slice none 0 0))) w := by
  unfold bdSem
  rw [job_build]
  have hz : (SlotP.zeros 512).length = 512 := List.length_replicate
  have hs : (rowV l).size = 512 := by rw [rowV_size, hl]
  have hf2 : ((rowV l).zipIdx.foldl (fun cs (p : Value × Nat) => cs.setIfInBounds (2 + p.2) p.1) (jobC d n (SlotP.zeros 512) (.slice none 0 0))) = jobC d n l (.slice none 0 0) := by
    apply Array.ext'
    have h3 := foldl_set 2 (l.map byteV) 0 (jobC d n (SlotP.zeros 512) (.slice none 0 0)) (by rw [jobC_size hz]; simp [hl])
    have h4 : (rowV l).zipIdx.toList = (l.map byteV).zipIdx 0 := by simp [rowV]
    rw [← Array.foldl_toList, h4, h3]
    simp [splice, jobC, hl, hz]
  have hz1 : (jobZ.setIfInBounds 0 (.pointer (some ⟨d, 0, none⟩))).setIfInBounds 1 (.int .i64 n) = jobC d n (SlotP.zeros 512) (.slice none 0 0) := by kernel_rfl
  have e1 : Instr.fill ((#[(0, 1), (1, 1), (2, 512), (514, 1)] : Array (Nat × Nat))[·]?) jobZ [(0, .pointer (some ⟨d, 0, none⟩)), (1, .int .i64 n), (2, .agg (rowV l))] = some (jobC d n l (.slice none 0 0)) := by
    have s0 : jobZ.size = 515 := jobZ_size
    simp [Instr.fill, Value.cells, hs, s0, hz1, jobC_size hz]
    have hz2 : (rowV l).zipIdx.size = 512 := by simp [hs]
    have hf3 := hf2
    rw [hz2] at hf3
    exact hf3
  rw [e1]
  rfl
end DevW
end Go.Proofs.Ytldgdgfplgdipaa
namespace Go.Proofs.Ytldgdgfplgdipaa.DevW
open Go.RowKit Go.Maps
set_option linter.unusedVariables false
set_option linter.unusedSimpArgs false
variable {d sb mb : Nat} {bp bs : List Nat} {gb : Option Nat} {A : Option Addr} {n c nm : Nat} {es : List (Int × SlV)} {X : DevX}
/-- the device's box, its cells, what they are -/
theorem Dev.cells {w : World} (h : Dev w d bs X) : ∃ sb mb A n c, Str w d (devC X.safe.length sb mb A n c X) ∧ X.log.length = n ∧ n ≤ maxLen := by
  obtain ⟨sb, mb, bp, gb, A, n, c, nm, es, hI, -⟩ := h
  exact ⟨sb, mb, A, n, c, hI.box, hI.log.len, Nat.le_trans hI.log.2.1 hI.log.2.2.1⟩
set_option maxRecDepth 100000 in
set_option maxHeartbeats 1000000 in
theorem head_any (w : World) (hD : Dev w d bs X) :
    Calls Try.prog 8 #[.pointer (some ⟨d, 0, none⟩)] w fun e w' => e = .returned (.int .i64 (X.head)) ∧ Below w.heap.size w w' := by
  obtain ⟨sb, mb, A, n, c, hS, hn, hm⟩ := hD.cells
  unfold maxLen at hm
  have hk := hD.ok
  have f1 := str10 hS
  have hl := hS.lt
  have hh0 := hk.h0
  have hnp := hk.n1
  clear hD hS hk
  go_enter Try.func8, Try.ntmps8
  go_wp2
  go_ret
  exact ⟨rfl, bsame w⟩
set_option maxRecDepth 100000 in
set_option maxHeartbeats 1000000 in
theorem ops_any (w : World) (hD : Dev w d bs X) :
    Calls Try.prog 11 #[.pointer (some ⟨d, 0, none⟩)] w fun e w' => e = .returned (.int .i64 (X.ops)) ∧ Below w.heap.size w w' := by
  obtain ⟨sb, mb, A, n, c, hS, hn, hm⟩ := hD.cells
  unfold maxLen at hm
  have hk := hD.ok
  have f1 := str10 hS
  have hl := hS.lt
  have hh0 := hk.h0
  have hnp := hk.n1
  clear hD hS hk
  go_enter Try.func11, Try.ntmps11
  go_wp2
  go_ret
  exact ⟨rfl, bsame w⟩
set_option maxRecDepth 100000 in
set_option maxHeartbeats 1000000 in
theorem pages_any (w : World) (hD : Dev w d bs X) :
    Calls Try.prog 10 #[.pointer (some ⟨d, 0, none⟩)] w fun e w' => e = .returned (.int .i64 ((X.safe.length : Nat))) ∧ Below w.heap.size w w' := by
  obtain ⟨sb, mb, A, n, c, hS, hn, hm⟩ := hD.cells
  unfold maxLen at hm
  have hk := hD.ok
  have f1 := str10 hS
  have hl := hS.lt
  have hh0 := hk.h0
  have hnp := hk.n1
  clear hD hS hk
  go_enter Try.func10, Try.ntmps10
  go_wp2
  go_ret
  exact ⟨rfl, bsame w⟩
set_option maxRecDepth 100000 in
set_option maxHeartbeats 1000000 in
theorem end_any (w : World) (hD : Dev w d bs X) (hs : DevP.Small X) :
    Calls Try.prog 9 #[.pointer (some ⟨d, 0, none⟩)] w fun e w' => e = .returned (.int .i64 (X.head + (X.log.length : Nat))) ∧ Below w.heap.size w w' := by
  obtain ⟨sb, mb, A, n, c, hS, hn, hm⟩ := hD.cells
  unfold maxLen at hm
  have hk := hD.ok
  have f1 := str10 hS
  have hl := hS.lt
  have hh0 := hk.h0
  have hnp := hk.n1
  have hs2 := hs.2
  clear hs
  clear hD hS hk
  go_enter Try.func9, Try.ntmps9
  go_wp2_with (first | go_quiet (fail) | go_in)
  go_wp2
  go_ret
  rw [hn]
  exact ⟨rfl, drewN_below (bsame w) _⟩
set_option maxRecDepth 100000 in
set_option maxHeartbeats 1000000 in
theorem head_nil (w : World) : Calls Try.prog 8 #[.pointer none] w fun e w' => e = .returned (.int .i64 0) ∧ Below w.heap.size w w' := by
  go_enter Try.func8, Try.ntmps8
  go_wp2
  go_ret
  exact ⟨rfl, bsame w⟩
set_option maxRecDepth 100000 in
set_option maxHeartbeats 1000000 in
theorem ops_nil (w : World) : Calls Try.prog 11 #[.pointer none] w fun e w' => e = .returned (.int .i64 0) ∧ Below w.heap.size w w' := by
  go_enter Try.func11, Try.ntmps11
  go_wp2
  go_ret
  exact ⟨rfl, bsame w⟩
set_option maxRecDepth 100000 in
set_option maxHeartbeats 1000000 in
theorem pages_nil (w : World) : Calls Try.prog 10 #[.pointer none] w fun e w' => e = .returned (.int .i64 0) ∧ Below w.heap.size w w' := by
  go_enter Try.func10, Try.ntmps10
  go_wp2
  go_ret
  exact ⟨rfl, bsame w⟩
set_option maxRecDepth 100000 in
set_option maxHeartbeats 1000000 in
theorem end_nil (w : World) : Calls Try.prog 9 #[.pointer none] w fun e w' => e = .returned (.int .i64 0) ∧ Below w.heap.size w w' := by
  go_enter Try.func9, Try.ntmps9
  go_wp2
  go_ret
  exact ⟨rfl, bsame w⟩
set_option maxRecDepth 100000 in
set_option maxHeartbeats 1000000 in
theorem has_any (no : Int) (w : World) (hD : Dev w d bs X) :
    Calls Try.prog 38 #[.pointer (some ⟨d, 0, none⟩), .int .i64 no] w fun e w' => e = .returned (.bool (decide (0 ≤ no) && decide (no < (X.safe.length : Nat)))) ∧ Below w.heap.size w w' := by
  obtain ⟨sb, mb, A, n, c, hS, hn, hm⟩ := hD.cells
  unfold maxLen at hm
  have hk := hD.ok
  have f1 := str10 hS
  have hl := hS.lt
  have hh0 := hk.h0
  have hnp := hk.n1
  clear hD hS hk
  by_cases h0 : 0 ≤ no
  · have d0 : decide (0 ≤ no) = true := by simpa using h0
    by_cases h1 : no < (X.safe.length : Nat)
    · have d1 : decide (no < (X.safe.length : Int)) = true := by simpa using h1
      rw [d0, d1]
      go_enter Try.func38, Try.ntmps38
      go_wp2
      go_ret
      exact ⟨rfl, bsame w⟩
    · have d1 : decide (no < (X.safe.length : Int)) = false := by simpa using h1
      rw [d0, d1]
      go_enter Try.func38, Try.ntmps38
      go_wp2
      go_ret
      exact ⟨rfl, bsame w⟩
  · have d0 : decide (0 ≤ no) = false := by simpa using h0
    rw [d0]
    go_enter Try.func38, Try.ntmps38
    go_wp2
    go_ret
    exact ⟨rfl, bsame w⟩
set_option maxRecDepth 100000 in
set_option maxHeartbeats 1000000 in
theorem spans_any (no : Int) (w : World) (hD : Dev w d bs X) (hs : DevP.Small X) :
    Calls Try.prog 53 #[.pointer (some ⟨d, 0, none⟩), .int .i64 no] w fun e w' => e = .returned (.bool (decide (X.head ≤ no) && decide (no ≤ X.head + (X.log.length : Nat)))) ∧ Below w.heap.size w w' := by
  have HD := Lib.hid hD
  obtain ⟨sb, mb, A, n, c, hS, hn, hm⟩ := hD.cells
  unfold maxLen at hm
  have hk := hD.ok
  have f1 := str10 hS
  have hl := hS.lt
  have hh0 := hk.h0
  have hnp := hk.n1
  clear hD hS hk
  by_cases h0 : X.head ≤ no
  · have d0 : decide (X.head ≤ no) = true := by simpa using h0
    rw [d0, Bool.true_and]
    rw [hn]
    go_enter Try.func53, Try.ntmps53
    go_wp2_with fail
    refine (end_any w HD.out hs).mono ?_
    rintro e w1 ⟨rfl, hb1⟩
    go_wp2
    go_ret
    exact ⟨rfl, hb1⟩
  · have d0 : decide (X.head ≤ no) = false := by simpa using h0
    rw [d0]
    go_enter Try.func53, Try.ntmps53
    go_wp2
    go_ret
    exact ⟨rfl, bsame w⟩
def _root_.Go.Proofs.Ytldgdgfplgdipaa.DevP.fused (X : DevX) (m : Int) : DevX := { X with fused := decide (0 ≤ m), fuse := max m 0 }
set_option maxRecDepth 100000 in
set_option maxHeartbeats 1000000 in
theorem fuse_any (m : Int) (hm : In64 m) (w : World) (hD : Dev w d bs X) :
    Calls Try.prog 20 #[.pointer (some ⟨d, 0, none⟩), .int .i64 m] w fun e w' => e = .returned (.tuple #[]) ∧ Dev w' d bs (DevP.fused X m) ∧ Reg.KeepB w.heap.size bs w w' := by
  have HM := Lib.hid hm
  have HD := Lib.hid hD
  obtain ⟨sb, mb, bp, gb, A, n, c, nm, es, hI, hbs⟩ := hD
  have f1 := str10 hI.box
  have hz := fun j => hI.box.frozen j
  have HI := Lib.hid hI
  have HB := Lib.hid hbs
  clear hI hbs hm
  by_cases h0 : 0 ≤ m
  · have hmx : max m 0 = m := by omega
    have hd0 : decide (0 ≤ m) = true := by simpa using h0
    go_enter Try.func20, Try.ntmps20
    go_wp2
    go_end0
    have hg := grown_set (grown_set (grown_refl w d) 6 (.bool true)) 7 (.int .i64 m)
    refine ⟨rfl, ⟨sb, mb, bp, gb, A, n, c, nm, es, HI.out.turn (X' := DevP.fused X m) hg (by have h := (HI.out.box.set 6 (.bool true)).set 7 (.int .i64 m); unfold devC DevP.fused; rw [hd0, hmx]; exact h) rfl rfl rfl (Nat.le_refl _) ?_, HB.out⟩, (Reg.KeepB.of (bsame w)).grown hg (Nat.le_refl _) (.inr HD.out.mem)⟩
    have k := HI.out.ok
    have hi := HM.out
    unfold In64 at hi
    exact ⟨k.n0, k.n1, k.nl, k.h0, k.s0, k.s1, k.t0, k.t1, k.o0, by show 0 ≤ max m 0; omega, by show max m 0 ≤ _; omega, k.w0, k.w1⟩
  · have hmx : max m 0 = 0 := by omega
    have hd0 : decide (0 ≤ m) = false := by simpa using h0
    go_enter Try.func20, Try.ntmps20
    go_wp2
    go_end0
    have hg := grown_set (grown_set (grown_refl w d) 6 (.bool false)) 7 (.int .i64 0)
    refine ⟨rfl, ⟨sb, mb, bp, gb, A, n, c, nm, es, HI.out.turn (X' := DevP.fused X m) hg (by have h := (HI.out.box.set 6 (.bool false)).set 7 (.int .i64 0); unfold devC DevP.fused; rw [hd0, hmx]; exact h) rfl rfl rfl (Nat.le_refl _) ?_, HB.out⟩, (Reg.KeepB.of (bsame w)).grown hg (Nat.le_refl _) (.inr HD.out.mem)⟩
    have k := HI.out.ok
    have hi := HM.out
    unfold In64 at hi
    exact ⟨k.n0, k.n1, k.nl, k.h0, k.s0, k.s1, k.t0, k.t1, k.o0, by show 0 ≤ max m 0; omega, by show max m 0 ≤ _; omega, k.w0, k.w1⟩
end Go.Proofs.Ytldgdgfplgdipaa.DevW
namespace Go.Proofs.Ytldgdgfplgdipaa.DevW
open Go.RowKit Go.Maps
set_option linter.unusedVariables false
set_option linter.unusedSimpArgs false
variable {d sb mb : Nat} {bp bs : List Nat} {gb : Option Nat} {A : Option Addr} {n c nm : Nat} {es : List (Int × SlV)} {X : DevX}
attribute [local go_sem ↓] cut_fold
theorem In.bp_ne {w : World} (h : In w d sb mb bp gb A n c nm es X) : ∀ b ∈ bp, b ≠ d := fun b hb e => (List.nodup_cons.1 h.nd).1 (by rw [← e]; simp [hb])
theorem In.gb_ne {w : World} (h : In w d sb mb bp gb A n c nm es X) : gb ≠ some d := fun e => (List.nodup_cons.1 h.nd).1 (by simp [e])
/-- the log and the box have turned -/
theorem In.relog {w w' : World} {X' : DevX} {gb' : Option Nat} {A' : Option Addr} {n' c' : Nat} (h : In w d sb mb bp gb A n c nm es X) (hk : ∀ b ∈ bp, w'.heap[b]? = w.heap[b]?) (hb : Str w' d (devC X.safe.length sb mb A' n' c' X')) (hl : OwnS w' gb' A' n' c' X'.log)
    (hg : gb' = gb ∨ gb' = none ∨ ∃ g, gb' = some g ∧ w.heap.size ≤ g) (e1 : X'.safe = X.safe) (e2 : X'.now = X.now) (ho : X.wr ≤ X'.wr) (hok : DevP.Ok X') : ∃ bs', Dev w' d bs' X' ∧ ∀ b ∈ bs', b ∈ d :: (gb.toList ++ bp) ∨ w.heap.size ≤ b := by
  have hp := (h.pages.at_ (w' := w') hk).mono ho
  have hnd : (d :: (gb'.toList ++ bp)).Nodup := by
    rcases hg with rfl | rfl | ⟨g, rfl, hg⟩
    · exact h.nd
    · have := h.nd
      simp only [List.nodup_cons, List.mem_append, List.nodup_append, Option.toList_none, List.nil_append] at this ⊢
      exact ⟨fun hm => this.1 (.inr hm), this.2.2.1⟩
    · have h1 := h.nd
      simp only [List.nodup_cons, List.mem_append, List.nodup_append, Option.toList_some, List.cons_append, List.nil_append, List.mem_cons] at h1 ⊢
      have h2 := h.box.lt
      have h3 := h.pages.lt
      refine ⟨?_, ?_, h1.2.2.1⟩
      · rintro (e | hm)
        · omega
        · exact h1.1 (.inr hm)
      · intro hm
        have := h3 g hm
        omega
  rw [← e1] at hb
  rw [← e1, ← e2] at hp
  refine ⟨_, ⟨sb, mb, bp, gb', A', n', c', nm, es, ⟨hb, hp, hl, hnd, hok⟩, rfl⟩, fun b hm => ?_⟩
  simp only [List.mem_cons, List.mem_append, Option.mem_toList] at hm ⊢
  rcases hm with rfl | hm | hm
  · exact .inl (.inl rfl)
  · rcases hg with rfl | rfl | ⟨g, rfl, hg⟩
    · exact .inl (.inr (.inl hm))
    · cases hm
    · simp only [Option.some.injEq] at hm
      subst hm
      exact .inr hg
  · exact .inl (.inr (.inr hm))
/-- the call has done its act -/
def Acts (w : World) (d : Nat) (bs js : List Nat) (X : DevX) (E : World → Prop) (e : Ending) (w' : World) : Prop := e = .returned (.tuple #[]) ∧ ∃ bs', Dev w' d bs' X ∧ Reg.KeepB w.heap.size (js ++ bs) w w' ∧ (∀ b ∈ bs', b ∈ bs ∨ w.heap.size ≤ b) ∧ E w'
theorem ok_at {X : DevX} (h : DevP.Ok X) (hs : DevP.Small X) : X.head + (X.log.length : Nat) ≤ 100000000000000 := hs.2.1
set_option maxRecDepth 100000 in
set_option maxHeartbeats 1000000 in
theorem flush_act (w : World) (hD : Dev w d bs X) (hs : DevP.Small X) :
    Calls Try.prog 52 #[.pointer (some ⟨d, 0, none⟩)] w (Acts w d bs [] { X with sure := X.head + (X.log.length : Nat) } fun _ => True) := by
  have HSM := Lib.hid hs
  have HD := Lib.hid hD
  have hok := hD.ok
  obtain ⟨sb, mb, bp, gb, A, n, c, nm, es, hI, hbs⟩ := hD
  have hn := hI.log.len
  have hnc := hI.log.2.1
  have hcm := hI.log.2.2.1
  unfold maxLen at hcm
  have hl := hI.box.lt
  have hs1 := hs.1
  have hs2 := hs.2.1
  have hh0 := hok.h0
  have hu0 := hok.s0
  have hu1 := hok.s1
  have ht0 := hok.t0
  have ht1 := hok.t1
  have ho0 := hok.o0
  have HI := Lib.hid hI
  have HB := Lib.hid hbs
  have HOK := Lib.hid hok
  have HND := Lib.hid hI.nd
  clear hI hbs hs hok
  subst hn
  go_enter Try.func52, Try.ntmps52
  go_wp2_with fail
  refine (end_any w HD.out HSM.out).mono ?_
  rintro e w1 ⟨rfl, hb1⟩
  have hI1 := HI.out.at_ (fun b hm => hb1.block b (HI.out.lt b hm))
  have f1 := str10 hI1.box
  have hz := fun j => hI1.box.frozen j
  have hl1 := hI1.box.lt
  have HI1 := Lib.hid hI1
  clear hI1
  go_wp2
  go_end0
  have hg := grown_set (grown_refl w1 d) 5 (.int .i64 (X.head + (X.log.length : Nat)))
  refine ⟨rfl, bs, ⟨sb, mb, bp, gb, A, _, c, nm, es, HI1.out.turn (X' := { X with sure := X.head + (X.log.length : Nat) }) hg (HI1.out.box.set 5 (.int .i64 (X.head + (X.log.length : Nat)))) rfl rfl rfl (Nat.le_refl _) ?_, HB.out⟩, (Reg.KeepB.of (b0 := bs) hb1).grown hg hb1.size (.inr HD.out.mem), fun b hb => .inl hb, trivial⟩
  have k := HOK.out
  exact ⟨k.n0, k.n1, k.nl, k.h0, by show X.head ≤ X.head + _; omega, Int.le_refl _, k.t0, k.t1, k.o0, k.f0, k.f1, k.w0, k.w1⟩
set_option maxRecDepth 100000 in
set_option maxHeartbeats 1000000 in
theorem cut_act (j : Nat) (no : Int) (l : List UInt8) (s : Value) (w : World) (hJ : Str w j (jobC d no l s)) (hll : l.length = 512) (hD : Dev w d bs X) (hs : DevP.Small X) (hj : j ∉ bs) (h1 : X.head ≤ no) (h2 : no ≤ X.head + (X.log.length : Nat)) :
    Calls Try.prog 54 #[.pointer (some ⟨j, 0, none⟩)] w (Acts w d bs [] { X with log := X.log.take (no - X.head).toNat, sure := min X.sure no } fun _ => True) := by
  have HJ := Lib.hid hJ
  have hjl := hJ.lt
  have HD := Lib.hid hD
  have hok := hD.ok
  obtain ⟨sb, mb, bp, gb, A, n, c, nm, es, hI, hbs⟩ := hD
  have hn := hI.log.len
  have hnc := hI.log.2.1
  have hcm := hI.log.2.2.1
  unfold maxLen at hcm
  have hl := hI.box.lt
  have hs1 := hs.1
  have hs2 := hs.2.1
  have hh0 := hok.h0
  have hu0 := hok.s0
  have hu1 := hok.s1
  have ht0 := hok.t0
  have ht1 := hok.t1
  have ho0 := hok.o0
  have HI := Lib.hid hI
  have HB := Lib.hid hbs
  have HOK := Lib.hid hok
  have HND := Lib.hid hI.nd
  clear hI hbs hs hok
  obtain ⟨k, hk⟩ : ∃ k : Nat, no = X.head + (k : Int) := ⟨(no - X.head).toNat, by omega⟩
  have hkn : k ≤ n := by omega
  have hke : (no - X.head).toNat = k := by omega
  have hsub : no - X.head = (k : Int) := by omega
  have HKE := Lib.hid hke
  clear hk hke
  have HJN := Lib.hid hj
  have HJD : Hid (j ≠ d) := Lib.hid (fun e => hj (by rw [e]; exact HD.out.mem))
  clear hJ hj
  go_enter Try.func54, Try.ntmps54
  go_wp2_with fail
  refine Reg.wp_region_tail (R := ext) (W := w) [Reg.eqv (.pointer (some ⟨j, 0, none⟩)), Reg.eqv (.pointer (some ⟨j, 0, none⟩)), Reg.eqv (.pointer (some ⟨j, 0, none⟩)), Reg.eqv (.pointer (some ⟨d, 0, none⟩)), Reg.eqv (.pointer (some ⟨j, 0, none⟩)), Reg.eqv (.pointer (some ⟨j, 0, none⟩)), Reg.eqv (.pointer (some ⟨j, 0, none⟩)), Reg.eqv (.pointer (some ⟨d, 0, none⟩)), Reg.eqv (.pointer (some ⟨d, 0, none⟩)), Reg.eqv (.pointer (some ⟨d, 2, none⟩)), Reg.eqv (.slice A n c), Reg.eqv (.pointer (some ⟨j, 0, none⟩)), Reg.eqv (.pointer (some ⟨j, 0, none⟩)), Reg.eqv (.pointer (some ⟨j, 1, none⟩)), Reg.eqv (.int .i64 no), Reg.eqv (.pointer (some ⟨j, 0, none⟩)), Reg.eqv (.pointer (some ⟨j, 0, none⟩)), Reg.eqv (.pointer (some ⟨j, 0, none⟩)), Reg.eqv (.pointer (some ⟨d, 0, none⟩)), Reg.eqv (.pointer (some ⟨d, 0, none⟩)), Reg.eqv (.pointer (some ⟨d, 4, none⟩)), Reg.eqv (.int .i64 (X.head)), Reg.eqv (.int .i64 (k : Int)), Reg.eqv (.slice (cutA A 0 c 1) k c), Reg.eqv (.pointer (some ⟨d, 0, none⟩)), Reg.eqv (.pointer (some ⟨d, 2, none⟩))] 46 26 _ [[(0, none)], [(2, some 0)], [(3, some 1)], [(4, some 2)], [(0, none)], [(6, some 4)], [(7, some 5)], [(8, some 6)], [(9, some 7)], [(10, some 8)], [(11, some 9)], [(0, none)], [(13, some 11)], [(14, some 12)], [(15, some 13)], [(0, none)], [(17, some 15)], [(18, some 16)], [(19, some 17)], [(20, some 18)], [(21, some 19)], [(22, some 20)], [(16, some 14), (23, some 21)], [(12, some 10), (24, some 22)], [(5, some 3)], [(26, some 24)]] rfl (by kernel_rfl) (by kernel_rfl) (by rfl) (by rfl) rfl (by kernel_rfl) ?_ [some 2, some 3, some 4, some 5, some 6, some 7, some 8, some 9, some 10, some 11, some 12, some 13, some 14, some 15, some 16, some 17, some 18, some 19, some 20, some 21, some 22, some 23, some 24, some 25, some 26, some 27] (by kernel_rfl) ?_
  · refine ⟨?_, ?_, ?_, ?_, ?_, ?_, ?_, ?_, ?_, ?_, ?_, ?_, ?_, ?_, ?_, ?_, ?_, ?_, ?_, ?_, ?_, ?_, ?_, ?_, ?_, ?_, trivial⟩
    · intro ax wx hx hs
      obtain ⟨e0, -⟩ := hs
      have g0 := Reg.ev (v := .pointer (some ⟨j, 0, none⟩)) e0
      exact Reg.obl_free rfl (Reg.wp_eqv (Option.some_ne_none _) (by go_simp) rfl)
    · intro ax wx hx hs
      obtain ⟨e2, -⟩ := hs
      have g2 := Reg.ev (v := .pointer (some ⟨j, 0, none⟩)) e2
      exact Reg.obl_free rfl (Reg.wp_eqv (Option.some_ne_none _) (by go_simp) rfl)
    · intro ax wx hx hs
      obtain ⟨e3, -⟩ := hs
      have g3 := Reg.ev (v := .pointer (some ⟨j, 0, none⟩)) e3
      exact Reg.obl_free rfl (Reg.wp_eqv (Option.some_ne_none _) (by go_simp) rfl)
    · intro ax wx hx hs
      obtain ⟨e4, -⟩ := hs
      have g4 := Reg.ev (v := .pointer (some ⟨j, 0, none⟩)) e4
      have l0 := str10 (HI.out.box.next hx)
      have l1 := job3 (HJ.out.next hx) hll
      exact Reg.obl_free rfl (Reg.wp_eqv (Option.some_ne_none _) (by go_simp) rfl)
    · intro ax wx hx hs
      obtain ⟨e0, -⟩ := hs
      have g0 := Reg.ev (v := .pointer (some ⟨j, 0, none⟩)) e0
      exact Reg.obl_free rfl (Reg.wp_eqv (Option.some_ne_none _) (by go_simp) rfl)
    · intro ax wx hx hs
      obtain ⟨e6, -⟩ := hs
      have g6 := Reg.ev (v := .pointer (some ⟨j, 0, none⟩)) e6
      exact Reg.obl_free rfl (Reg.wp_eqv (Option.some_ne_none _) (by go_simp) rfl)
    · intro ax wx hx hs
      obtain ⟨e7, -⟩ := hs
      have g7 := Reg.ev (v := .pointer (some ⟨j, 0, none⟩)) e7
      exact Reg.obl_free rfl (Reg.wp_eqv (Option.some_ne_none _) (by go_simp) rfl)
    · intro ax wx hx hs
      obtain ⟨e8, -⟩ := hs
      have g8 := Reg.ev (v := .pointer (some ⟨j, 0, none⟩)) e8
      have l0 := str10 (HI.out.box.next hx)
      have l1 := job3 (HJ.out.next hx) hll
      exact Reg.obl_free rfl (Reg.wp_eqv (Option.some_ne_none _) (by go_simp) rfl)
    · intro ax wx hx hs
      obtain ⟨e9, -⟩ := hs
      have g9 := Reg.ev (v := .pointer (some ⟨d, 0, none⟩)) e9
      exact Reg.obl_free rfl (Reg.wp_eqv (Option.some_ne_none _) (by go_simp) rfl)
    · intro ax wx hx hs
      obtain ⟨e10, -⟩ := hs
      have g10 := Reg.ev (v := .pointer (some ⟨d, 0, none⟩)) e10
      exact Reg.obl_free rfl (Reg.wp_eqv (Option.some_ne_none _) (by go_simp) rfl)
    · intro ax wx hx hs
      obtain ⟨e11, -⟩ := hs
      have g11 := Reg.ev (v := .pointer (some ⟨d, 2, none⟩)) e11
      have l0 := str10 (HI.out.box.next hx)
      have l1 := job3 (HJ.out.next hx) hll
      exact Reg.obl_free rfl (Reg.wp_eqv (Option.some_ne_none _) (by go_simp) rfl)
    · intro ax wx hx hs
      obtain ⟨e0, -⟩ := hs
      have g0 := Reg.ev (v := .pointer (some ⟨j, 0, none⟩)) e0
      exact Reg.obl_free rfl (Reg.wp_eqv (Option.some_ne_none _) (by go_simp) rfl)
    · intro ax wx hx hs
      obtain ⟨e13, -⟩ := hs
      have g13 := Reg.ev (v := .pointer (some ⟨j, 0, none⟩)) e13
      exact Reg.obl_free rfl (Reg.wp_eqv (Option.some_ne_none _) (by go_simp) rfl)
    · intro ax wx hx hs
      obtain ⟨e14, -⟩ := hs
      have g14 := Reg.ev (v := .pointer (some ⟨j, 0, none⟩)) e14
      exact Reg.obl_free rfl (Reg.wp_eqv (Option.some_ne_none _) (by go_simp) rfl)
    · intro ax wx hx hs
      obtain ⟨e15, -⟩ := hs
      have g15 := Reg.ev (v := .pointer (some ⟨j, 1, none⟩)) e15
      have l0 := str10 (HI.out.box.next hx)
      have l1 := job3 (HJ.out.next hx) hll
      exact Reg.obl_free rfl (Reg.wp_eqv (Option.some_ne_none _) (by go_simp) rfl)
    · intro ax wx hx hs
      obtain ⟨e0, -⟩ := hs
      have g0 := Reg.ev (v := .pointer (some ⟨j, 0, none⟩)) e0
      exact Reg.obl_free rfl (Reg.wp_eqv (Option.some_ne_none _) (by go_simp) rfl)
    · intro ax wx hx hs
      obtain ⟨e17, -⟩ := hs
      have g17 := Reg.ev (v := .pointer (some ⟨j, 0, none⟩)) e17
      exact Reg.obl_free rfl (Reg.wp_eqv (Option.some_ne_none _) (by go_simp) rfl)
    · intro ax wx hx hs
      obtain ⟨e18, -⟩ := hs
      have g18 := Reg.ev (v := .pointer (some ⟨j, 0, none⟩)) e18
      exact Reg.obl_free rfl (Reg.wp_eqv (Option.some_ne_none _) (by go_simp) rfl)
    · intro ax wx hx hs
      obtain ⟨e19, -⟩ := hs
      have g19 := Reg.ev (v := .pointer (some ⟨j, 0, none⟩)) e19
      have l0 := str10 (HI.out.box.next hx)
      have l1 := job3 (HJ.out.next hx) hll
      exact Reg.obl_free rfl (Reg.wp_eqv (Option.some_ne_none _) (by go_simp) rfl)
    · intro ax wx hx hs
      obtain ⟨e20, -⟩ := hs
      have g20 := Reg.ev (v := .pointer (some ⟨d, 0, none⟩)) e20
      exact Reg.obl_free rfl (Reg.wp_eqv (Option.some_ne_none _) (by go_simp) rfl)
    · intro ax wx hx hs
      obtain ⟨e21, -⟩ := hs
      have g21 := Reg.ev (v := .pointer (some ⟨d, 0, none⟩)) e21
      exact Reg.obl_free rfl (Reg.wp_eqv (Option.some_ne_none _) (by go_simp) rfl)
    · intro ax wx hx hs
      obtain ⟨e22, -⟩ := hs
      have g22 := Reg.ev (v := .pointer (some ⟨d, 4, none⟩)) e22
      have l0 := str10 (HI.out.box.next hx)
      have l1 := job3 (HJ.out.next hx) hll
      exact Reg.obl_free rfl (Reg.wp_eqv (Option.some_ne_none _) (by go_simp) rfl)
    · intro ax wx hx hs
      obtain ⟨e16, e23, -⟩ := hs
      have g16 := Reg.ev (v := .int .i64 no) e16
      have g23 := Reg.ev (v := .int .i64 (X.head)) e23
      refine Reg.obl_free rfl ?_
      exact Reg.wp_eqv (Option.some_ne_none _) (by go_simp; exact IntWalk.i64_in _ (by omega)) rfl
    · intro ax wx hx hs
      obtain ⟨e12, e24, -⟩ := hs
      have g12 := Reg.ev (v := .slice A n c) e12
      have g24 := Reg.ev (v := .int .i64 (k : Int)) e24
      refine Reg.obl_free rfl ?_
      have hq1 : (0 : Int) ≤ (k : Int) := by omega
      have hq2 : (k : Int) ≤ (c : Int) := by omega
      exact Reg.wp_eqv (Option.some_ne_none _) (by go_simp) rfl
    · intro ax wx hx hs
      obtain ⟨e5, -⟩ := hs
      have g5 := Reg.ev (v := .pointer (some ⟨d, 0, none⟩)) e5
      exact Reg.obl_free rfl (Reg.wp_eqv (Option.some_ne_none _) (by go_simp) rfl)
    · intro ax wx hx hs
      obtain ⟨e26, -⟩ := hs
      have g26 := Reg.ev (v := .pointer (some ⟨d, 0, none⟩)) e26
      exact Reg.obl_free rfl (Reg.wp_eqv (Option.some_ne_none _) (by go_simp) rfl)
  · intro W1 hwf
    simp only [Reg.Fin]
    rintro _ rfl _ rfl _ rfl _ rfl _ rfl _ rfl _ rfl _ rfl _ rfl _ rfl _ rfl _ rfl _ rfl _ rfl _ rfl _ rfl _ rfl _ rfl _ rfl _ rfl _ rfl _ rfl _ rfl _ rfl _ rfl _ rfl
    have hwf' : Below w.heap.size w W1 := hwf
    have hI1 := HI.out.at_ (fun b hm => hwf'.block b (HI.out.lt b hm))
    have hz := fun i => hI1.box.frozen i
    have f1 := str10 hI1.box
    have hl1 := hI1.box.lt
    obtain ⟨gb', hO1, hgb⟩ := hI1.log.cut 0 k c (Nat.zero_le _) hkn (by omega) (Nat.le_refl _)
    rw [Nat.sub_zero, List.drop_zero, Nat.sub_zero] at hO1
    have hg1 := grown_set (grown_refl W1 d) 2 (.slice (cutA A 0 c 1) k c)
    have hS2 := hI1.box.set 2 (.slice (cutA A 0 c 1) k c)
    have HJ1 := Lib.hid (HJ.out.next hwf')
    have HI1 := Lib.hid hI1
    have HO1 := Lib.hid hO1
    have HG1 := Lib.hid hg1
    have HS2 := Lib.hid hS2
    have HBW := Lib.hid hwf'
    have HGB := Lib.hid hgb
    clear hwf hwf' hI1 hO1 hg1 hS2 hgb
    refine Reg.Goal.mk ?_
    go_simp
    generalize hW2 : W1.setCell ⟨d, 2, none⟩ (.slice (cutA A 0 c 1) k c) = W2
    rw [hW2] at HG1 HS2
    clear hW2 hz f1
    have HO2 := Lib.hid (HO1.out.grown HG1.out (by intro e; rcases HGB.out with e1 | e1; exact HI.out.gb_ne (e1.symm.trans e); rw [e1] at e; cases e))
    have HJ2 := Lib.hid (HJ1.out.grown HG1.out HJD.out)
    have HK2 := Lib.hid ((Reg.KeepB.of (b0 := [d]) HBW.out).grown HG1.out HBW.out.size (.inr (by simp)))
    have hsz2 := HG1.out.size
    have hl2 : d < W2.heap.size := by omega
    have HS3 : Hid (Str W2 d (devC X.safe.length sb mb (cutA A 0 c 1) k c X)) := Lib.hid HS2.out
    have hjl2 : j < W2.heap.size := by have := HJ2.out.lt; omega
    clear HJ1 HO1 HS2
    go_wp2_with fail
    refine Reg.wp_region_tail (R := ext) (W := W2) [Reg.eqv (.pointer (some ⟨j, 0, none⟩)), Reg.eqv (.pointer (some ⟨j, 0, none⟩)), Reg.eqv (.pointer (some ⟨j, 0, none⟩)), Reg.eqv (.pointer (some ⟨d, 0, none⟩)), Reg.eqv (.pointer (some ⟨j, 0, none⟩)), Reg.eqv (.pointer (some ⟨j, 0, none⟩)), Reg.eqv (.pointer (some ⟨j, 0, none⟩)), Reg.eqv (.pointer (some ⟨d, 0, none⟩)), Reg.eqv (.pointer (some ⟨d, 0, none⟩)), Reg.eqv (.pointer (some ⟨d, 5, none⟩)), Reg.eqv (.int .i64 (X.sure)), Reg.eqv (.pointer (some ⟨j, 0, none⟩)), Reg.eqv (.pointer (some ⟨j, 0, none⟩)), Reg.eqv (.pointer (some ⟨j, 1, none⟩)), Reg.eqv (.int .i64 no), Reg.eqv (.int .i64 (min X.sure no)), Reg.eqv (.pointer (some ⟨d, 0, none⟩)), Reg.eqv (.pointer (some ⟨d, 5, none⟩))] 46 18 _ [[(0, none)], [(28, some 0)], [(29, some 1)], [(30, some 2)], [(0, none)], [(32, some 4)], [(33, some 5)], [(34, some 6)], [(35, some 7)], [(36, some 8)], [(37, some 9)], [(0, none)], [(39, some 11)], [(40, some 12)], [(41, some 13)], [(38, some 10), (42, some 14)], [(31, some 3)], [(44, some 16)]] rfl (by kernel_rfl) (by kernel_rfl) (by rfl) (by rfl) rfl (by kernel_rfl) ?_ [some 28, some 29, some 30, some 31, some 32, some 33, some 34, some 35, some 36, some 37, some 38, some 39, some 40, some 41, some 42, some 43, some 44, some 45] (by kernel_rfl) ?_
    · refine ⟨?_, ?_, ?_, ?_, ?_, ?_, ?_, ?_, ?_, ?_, ?_, ?_, ?_, ?_, ?_, ?_, ?_, ?_, trivial⟩
      · intro ax wx hx hs
        obtain ⟨e0, -⟩ := hs
        have g0 := Reg.ev (v := .pointer (some ⟨j, 0, none⟩)) e0
        exact Reg.obl_free rfl (Reg.wp_eqv (Option.some_ne_none _) (by go_simp) rfl)
      · intro ax wx hx hs
        obtain ⟨e28, -⟩ := hs
        have g28 := Reg.ev (v := .pointer (some ⟨j, 0, none⟩)) e28
        exact Reg.obl_free rfl (Reg.wp_eqv (Option.some_ne_none _) (by go_simp) rfl)
      · intro ax wx hx hs
        obtain ⟨e29, -⟩ := hs
        have g29 := Reg.ev (v := .pointer (some ⟨j, 0, none⟩)) e29
        exact Reg.obl_free rfl (Reg.wp_eqv (Option.some_ne_none _) (by go_simp) rfl)
      · intro ax wx hx hs
        obtain ⟨e30, -⟩ := hs
        have g30 := Reg.ev (v := .pointer (some ⟨j, 0, none⟩)) e30
        have l0 := str10 (HS3.out.next hx)
        have l1 := job3 (HJ2.out.next hx) hll
        exact Reg.obl_free rfl (Reg.wp_eqv (Option.some_ne_none _) (by go_simp) rfl)
      · intro ax wx hx hs
        obtain ⟨e0, -⟩ := hs
        have g0 := Reg.ev (v := .pointer (some ⟨j, 0, none⟩)) e0
        exact Reg.obl_free rfl (Reg.wp_eqv (Option.some_ne_none _) (by go_simp) rfl)
      · intro ax wx hx hs
        obtain ⟨e32, -⟩ := hs
        have g32 := Reg.ev (v := .pointer (some ⟨j, 0, none⟩)) e32
        exact Reg.obl_free rfl (Reg.wp_eqv (Option.some_ne_none _) (by go_simp) rfl)
      · intro ax wx hx hs
        obtain ⟨e33, -⟩ := hs
        have g33 := Reg.ev (v := .pointer (some ⟨j, 0, none⟩)) e33
        exact Reg.obl_free rfl (Reg.wp_eqv (Option.some_ne_none _) (by go_simp) rfl)
      · intro ax wx hx hs
        obtain ⟨e34, -⟩ := hs
        have g34 := Reg.ev (v := .pointer (some ⟨j, 0, none⟩)) e34
        have l0 := str10 (HS3.out.next hx)
        have l1 := job3 (HJ2.out.next hx) hll
        exact Reg.obl_free rfl (Reg.wp_eqv (Option.some_ne_none _) (by go_simp) rfl)
      · intro ax wx hx hs
        obtain ⟨e35, -⟩ := hs
        have g35 := Reg.ev (v := .pointer (some ⟨d, 0, none⟩)) e35
        exact Reg.obl_free rfl (Reg.wp_eqv (Option.some_ne_none _) (by go_simp) rfl)
      · intro ax wx hx hs
        obtain ⟨e36, -⟩ := hs
        have g36 := Reg.ev (v := .pointer (some ⟨d, 0, none⟩)) e36
        exact Reg.obl_free rfl (Reg.wp_eqv (Option.some_ne_none _) (by go_simp) rfl)
      · intro ax wx hx hs
        obtain ⟨e37, -⟩ := hs
        have g37 := Reg.ev (v := .pointer (some ⟨d, 5, none⟩)) e37
        have l0 := str10 (HS3.out.next hx)
        have l1 := job3 (HJ2.out.next hx) hll
        exact Reg.obl_free rfl (Reg.wp_eqv (Option.some_ne_none _) (by go_simp) rfl)
      · intro ax wx hx hs
        obtain ⟨e0, -⟩ := hs
        have g0 := Reg.ev (v := .pointer (some ⟨j, 0, none⟩)) e0
        exact Reg.obl_free rfl (Reg.wp_eqv (Option.some_ne_none _) (by go_simp) rfl)
      · intro ax wx hx hs
        obtain ⟨e39, -⟩ := hs
        have g39 := Reg.ev (v := .pointer (some ⟨j, 0, none⟩)) e39
        exact Reg.obl_free rfl (Reg.wp_eqv (Option.some_ne_none _) (by go_simp) rfl)
      · intro ax wx hx hs
        obtain ⟨e40, -⟩ := hs
        have g40 := Reg.ev (v := .pointer (some ⟨j, 0, none⟩)) e40
        exact Reg.obl_free rfl (Reg.wp_eqv (Option.some_ne_none _) (by go_simp) rfl)
      · intro ax wx hx hs
        obtain ⟨e41, -⟩ := hs
        have g41 := Reg.ev (v := .pointer (some ⟨j, 1, none⟩)) e41
        have l0 := str10 (HS3.out.next hx)
        have l1 := job3 (HJ2.out.next hx) hll
        exact Reg.obl_free rfl (Reg.wp_eqv (Option.some_ne_none _) (by go_simp) rfl)
      · intro ax wx hx hs
        obtain ⟨e38, e42, -⟩ := hs
        have g38 := Reg.ev (v := .int .i64 (X.sure)) e38
        have g42 := Reg.ev (v := .int .i64 no) e42
        refine Reg.obl_free rfl ?_
        exact Reg.wp_eqv (Option.some_ne_none _) (by go_simp; split <;> omega) rfl
      · intro ax wx hx hs
        obtain ⟨e31, -⟩ := hs
        have g31 := Reg.ev (v := .pointer (some ⟨d, 0, none⟩)) e31
        exact Reg.obl_free rfl (Reg.wp_eqv (Option.some_ne_none _) (by go_simp) rfl)
      · intro ax wx hx hs
        obtain ⟨e44, -⟩ := hs
        have g44 := Reg.ev (v := .pointer (some ⟨d, 0, none⟩)) e44
        exact Reg.obl_free rfl (Reg.wp_eqv (Option.some_ne_none _) (by go_simp) rfl)
    · intro W3 hwf
      simp only [Reg.Fin]
      rintro _ rfl _ rfl _ rfl _ rfl _ rfl _ rfl _ rfl _ rfl _ rfl _ rfl _ rfl _ rfl _ rfl _ rfl _ rfl _ rfl _ rfl _ rfl
      have hwf' : Below W2.heap.size W2 W3 := hwf
      have hS3 := HS3.out.next hwf'
      have hz := fun i => hS3.frozen i
      have f1 := str10 hS3
      have hl3 := hS3.lt
      have hg3 := grown_set (grown_refl W3 d) 5 (.int .i64 (min X.sure no))
      have HS4 := Lib.hid (hS3.set 5 (.int .i64 (min X.sure no)))
      have HO4 := Lib.hid ((HO2.out.next hwf').grown hg3 (by intro e; rcases HGB.out with e1 | e1; exact HI.out.gb_ne (e1.symm.trans e); rw [e1] at e; cases e))
      have HK4 := Lib.hid ((HK2.out.step hwf' HK2.out.size).grown hg3 (by have := HK2.out.size; have := hwf'.size; omega) (.inr (by simp)))
      clear hwf hwf' hS3 hg3
      refine Reg.Goal.mk ?_
      go_simp
      go_wp2
      go_end0
      have hk := HOK.out
      have hbp : ∀ b ∈ bp, (W3.setCell ⟨d, 5, none⟩ (.int .i64 (min X.sure no))).heap[b]? = w.heap[b]? := fun b hm => HK4.out.block b (HI.out.pages.lt b hm) (by have := HI.out.bp_ne b hm; simpa using this)
      have hok2 : DevP.Ok { X with log := X.log.take (no - X.head).toNat, sure := min X.sure no } := by
        rw [HKE.out]
        exact ⟨hk.n0, hk.n1, hk.nl, hk.h0, by show X.head ≤ min X.sure no; omega, by show min X.sure no ≤ X.head + ((X.log.take k).length : Nat); rw [List.length_take]; omega, hk.t0, hk.t1, hk.o0, hk.f0, hk.f1, hk.w0, hk.w1⟩
      obtain ⟨bs', hD', hn'⟩ := HI.out.relog (X' := { X with log := X.log.take (no - X.head).toNat, sure := min X.sure no }) hbp HS4.out (by rw [HKE.out]; exact HO4.out) (HGB.out.imp id .inl) rfl rfl (Nat.le_refl _) hok2
      exact ⟨rfl, bs', hD', HK4.out.more (fun b hb => by rw [List.mem_singleton] at hb; rw [hb]; exact HD.out.mem), fun b hb => by rw [HB.out]; exact hn' b hb, trivial⟩
end Go.Proofs.Ytldgdgfplgdipaa.DevW
namespace Go.Proofs.Ytldgdgfplgdipaa
open Go.RowKit Go.Maps
set_option linter.unusedVariables false
set_option linter.unusedSimpArgs false
namespace DevP
def op (X : DevX) (fits : Bool) (X1 : DevX) : DevX := if err X fits = 0 then done X1 else stop X fits
theorem err_zero {X : DevX} {fits : Bool} (h : err X fits = 0) : X.off = false ∧ fits = true ∧ (X.fused = true → X.fuse ≠ 0) := by
  unfold err at h
  cases ho : X.off with
  | true => simp [ho] at h
  | false =>
    cases fits with
    | false => simp [ho] at h
    | true =>
      refine ⟨rfl, rfl, fun hf h0 => ?_⟩
      simp [ho, hf, h0] at h
end DevP
namespace DevW
variable {d sb mb : Nat} {bp bs : List Nat} {gb : Option Nat} {A : Option Addr} {n c nm : Nat} {es : List (Int × SlV)} {X : DevX}
def Did (w : World) (d : Nat) (bs js : List Nat) (X : DevX) (fits : Bool) (X1 : DevX) (E : World → Prop) (e : Ending) (w' : World) : Prop :=
  e = .returned (.int .i64 (DevP.err X fits)) ∧ ∃ bs', Dev w' d bs' (DevP.op X fits X1) ∧ (∀ b ∈ bs', b ∈ bs ∨ w.heap.size ≤ b) ∧ Reg.KeepB w.heap.size (js ++ bs) w w' ∧ (DevP.err X fits = 0 → E w') ∧ (DevP.err X fits ≠ 0 → Reg.KeepB w.heap.size bs w w')
theorem do_any (fn : FuncId) (first : Array Value) (E : World → Prop) (js : List Nat) (fits : Bool) (w : World) (X1 : DevX) (hD : Dev w d bs X) (hs : X.ops ≤ 1000000000) (hj : ∀ b ∈ js, b < w.heap.size)
    (hE : ∀ W1 W2 : World, W1.grownBy W2 (some d) → E W1 → E W2) (h1 : X1.fused = X.fused) (h2 : X1.fuse = X.fuse) (h3 : X1.ops = X.ops)
    (hce : ∀ W : World, (callFunc fn first).run Try.prog W = .ok (.enter fn first) W)
    (hact : fits = true → ∀ W, Below w.heap.size w W → Calls Try.prog fn first W (Acts W d bs js X1 E)) :
    Calls Try.prog 37 #[.pointer (some ⟨d, 0, none⟩), .bool fits, .func (.func fn) first #[]] w (Did w d bs js X fits X1 E) := by
  by_cases he : DevP.err X fits = 0
  · obtain ⟨e1, rfl, e3⟩ := DevP.err_zero he
    refine (do_ok fn first E js w X1 hD hs e1 e3 hj hE h1 h2 h3 hce (hact rfl)).mono ?_
    rintro e w' ⟨rfl, bs', k1, k2, k3, k4⟩
    refine ⟨by rw [he], bs', ?_, k3, k2, fun _ => k4, fun hn => absurd he hn⟩
    unfold DevP.op
    rw [if_pos he]
    exact k1
  · refine (do_stop fits _ w hD he).mono ?_
    rintro e w' ⟨rfl, k1, k2⟩
    refine ⟨rfl, bs, ?_, fun b hb => .inl hb, k2.more (fun b hb => List.mem_append.2 (.inr hb)), fun h => absurd h he, fun _ => k2⟩
    unfold DevP.op
    rw [if_neg he]
    exact k1
/-- a device's method has told r -/
def Told (w : World) (d : Nat) (bs : List Nat) (X : DevX) (r : Value) (e : Ending) (w' : World) : Prop :=
  e = .returned r ∧ ∃ bs', Dev w' d bs' X ∧ (∀ b ∈ bs', b ∈ bs ∨ w.heap.size ≤ b) ∧ Reg.KeepB w.heap.size bs w w'
/-- what a call that began later has kept, of what was there before -/
theorem keep_since {w W1 w' : World} {js bs : List Nat} (h1 : Below w.heap.size w W1) (h2 : Reg.KeepB W1.heap.size (js ++ bs) W1 w') (hj : ∀ b ∈ js, w.heap.size ≤ b) : Reg.KeepB w.heap.size bs w w' :=
  ⟨h2.os.trans h1.os, h2.tape.trans h1.tape, h2.output.trans h1.output, Nat.le_trans h1.size h2.size, fun i hi hb => (h2.block i (Nat.lt_of_lt_of_le hi h1.size) (fun hm => by
    rcases List.mem_append.1 hm with hm | hm
    · have := hj i hm; omega
    · exact hb hm)).trans (h1.block i hi)⟩
theorem Did.told {w W1 w' : World} {js : List Nat} {fits : Bool} {X1 : DevX} {E : World → Prop} {e : Ending} (h : Did W1 d bs js X fits X1 E e w') (h1 : Below w.heap.size w W1) (hj : ∀ b ∈ js, w.heap.size ≤ b) : Told w d bs (DevP.op X fits X1) (.int .i64 (DevP.err X fits)) e w' := by
  obtain ⟨rfl, bs', k1, k2, k3, -⟩ := h
  exact ⟨rfl, bs', k1, fun b hb => (k2 b hb).imp id fun h => Nat.le_trans h1.size h, keep_since h1 k3 hj⟩
attribute [local go_sem ↓] alJob_fold bdJob_fold stJob_fold
set_option maxRecDepth 100000 in
set_option maxHeartbeats 1000000 in
theorem Flush_any (w : World) (hD : Dev w d bs X) (hs : DevP.Small X) :
    Calls Try.prog 31 #[.pointer (some ⟨d, 0, none⟩)] w (Told w d bs (DevP.op X true { X with sure := X.head + (X.log.length : Nat) }) (.int .i64 (DevP.err X true))) := by
  have hmf : ∀ (fn : Fn) (first cap : Array Value) (w : World), (Instr.makeFunc fn first cap).run Try.prog w = .ok (.func fn first cap) w := fun _ _ _ _ => rfl
  go_enter Try.func31, Try.ntmps31
  go_wp2_with fail
  refine (do_any 52 #[.pointer (some ⟨d, 0, none⟩)] (fun _ => True) [] true w { X with sure := X.head + (X.log.length : Nat) } hD hs.1 (by simp) (fun _ _ _ _ => trivial) rfl rfl rfl (fun _ => rfl) (fun _ W hb => ?_)).mono ?_
  · refine (flush_act W (hD.below hb) hs).mono ?_
    exact fun e w' h => h
  · rintro e w1 h
    have HT := Lib.hid (h.told (bsame w) (by simp))
    obtain ⟨rfl, -⟩ := h
    go_wp2
    go_ret
    exact HT.out
set_option maxRecDepth 100000 in
set_option maxHeartbeats 1000000 in
theorem Cut_any (no : Int) (w : World) (hD : Dev w d bs X) (hs : DevP.Small X) :
    Calls Try.prog 32 #[.pointer (some ⟨d, 0, none⟩), .int .i64 no] w (Told w d bs (DevP.op X (decide (X.head ≤ no) && decide (no ≤ X.head + (X.log.length : Nat))) { X with log := X.log.take (no - X.head).toNat, sure := min X.sure no }) (.int .i64 (DevP.err X (decide (X.head ≤ no) && decide (no ≤ X.head + (X.log.length : Nat)))))) := by
  have hmf : ∀ (fn : Fn) (first cap : Array Value) (w : World), (Instr.makeFunc fn first cap).run Try.prog w = .ok (.func fn first cap) w := fun _ _ _ _ => rfl
  have hz512 : (SlotP.zeros 512).length = 512 := List.length_replicate
  have hal := job_al
  have hbd := fun W => job_bd2 d no W
  have hst := job_st (d := d) (n := no) (l := SlotP.zeros 512) (A := none) (m := 0) (c := 0) (Str.new w jobZ 67) hz512
  obtain ⟨W1, hW1⟩ : ∃ W, (w.alloc (.cells jobZ 67)).setRow w.heap.size (jobC d no (SlotP.zeros 512) (.slice none 0 0)) = W := ⟨_, rfl⟩
  rw [hW1] at hst
  have hJ1 : Str W1 w.heap.size (jobC d no (SlotP.zeros 512) (.slice none 0 0)) := by rw [← hW1]; exact (Str.new _ _ _).setRow
  have hb1 : Below w.heap.size w W1 := by rw [← hW1]; exact below_setRow (balloc (bsame _) _) (Nat.le_refl _) _
  have hD1 := hD.below hb1
  have hj : w.heap.size ∉ bs := fun hm => by have := hD.lt _ hm; omega
  have HJ1 := Lib.hid hJ1
  have HB1 := Lib.hid hb1
  have HD1 := Lib.hid hD1
  have HJN := Lib.hid hj
  clear hW1 hJ1 hb1 hD1 hj
  obtain ⟨fits, hfits⟩ : ∃ f, (decide (X.head ≤ no) && decide (no ≤ X.head + (X.log.length : Nat))) = f := ⟨_, rfl⟩
  rw [hfits]
  have HFI := Lib.hid hfits
  clear hfits
  go_enter Try.func32, Try.ntmps32
  go_wp2_with fail
  refine (spans_any no W1 HD1.out hs).mono ?_
  rintro e W2 ⟨rfl, hb2⟩
  rw [HFI.out]
  have hd2 := HD1.out.below hb2
  have hJ2 := HJ1.out.next hb2
  have hjl := hJ2.lt
  have hb3 := bstep HB1.out hb2
  clear hst hbd hal hb2
  go_wp2_with fail
  refine (do_any 54 #[.pointer (some ⟨w.heap.size, 0, none⟩)] (fun _ => True) [] fits W2 { X with log := X.log.take (no - X.head).toNat, sure := min X.sure no } hd2 hs.1 (by simp) (fun _ _ _ _ => trivial) rfl rfl rfl (fun _ => rfl) (fun hf W hb => ?_)).mono ?_
  · subst hf
    have hf := HFI.out
    simp only [Bool.and_eq_true, decide_eq_true_eq] at hf
    refine (cut_act w.heap.size no _ _ W (hJ2.next hb) hz512 (hd2.below hb) hs HJN.out hf.1 hf.2).mono ?_
    exact fun e w' h => h
  · rintro e w1 h
    have HT := Lib.hid (h.told hb3 (by simp))
    obtain ⟨rfl, -⟩ := h
    go_wp2
    go_ret
    exact HT.out
end DevW
end Go.Proofs.Ytldgdgfplgdipaa
