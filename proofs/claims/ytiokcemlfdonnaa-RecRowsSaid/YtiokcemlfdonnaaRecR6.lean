/-
  Parts of the proof of RecRows.
-/
import Derived.Test.YtiokcemlfdonnaaRecR5
import Derived.Test.YtiokcemlfdonnaaRecR2
import Derived.Lib.Overlaps
import Derived.Test.YtiokcemlfdonnaaRecR3
import Derived.Test.YtiokcemlfdonnaaRecR1
import Derived.Deep.AppendSrc
import Derived.Deep.Upon
import Derived.Deep.MidRow
import Derived.Test.YtiokcemlfdonnaaRecR4
import Derived.Test.YtiokcemlfdonnaaProg
section
namespace Go.Proofs.Ytiokcemlfdonnaa
open Go.RowKit
set_option linter.unusedVariables false
section
variable {α : Type} {E : El α} {T : TypeId} {w : World} {base n c : Nat} {A : Option Addr} {l : List α}
end
end Go.Proofs.Ytiokcemlfdonnaa
end
section
namespace Go.Proofs.Ytiokcemlfdonnaa
open Go.RowKit
set_option linter.unusedVariables false
section
variable {α : Type} {E : El α} {T : TypeId} {w : World} {base n c : Nat} {A : Option Addr} {l : List α}
end
end Go.Proofs.Ytiokcemlfdonnaa
end
section
namespace Go.Proofs.Ytiokcemlfdonnaa
open Go.RowKit
set_option linter.unusedVariables false
/-- whatever byte is read there is read here -/
def SubU (B : Nat) (w w' : World) : Prop := ∀ (p : Addr) (u : UInt8), p.block < B → w.cell? p = some (byteV u) → w'.cell? p = some (byteV u)
theorem Bytes.subU {w w' : World} {B n c : Nat} {A : Option Addr} {l : List UInt8} (h : Bytes w B A n c l) (hs : SubU B w w') : Bytes w' B A n c l :=
  ⟨h.1, h.2.1, h.2.2.1, fun hn => by
    obtain ⟨b, o, e, hb, hc⟩ := h.2.2.2 hn
    exact ⟨b, o, e, hb, fun j u hu => hs _ _ hb (hc j u hu)⟩⟩
/-- an element's words hang on bytes alone -/
def El.Byt {α : Type} (E : El α) : Prop := ∀ {w w' : World} {B : Nat} {vs : List Value} {x : α}, SubU B w w' → E.rel w B vs x → E.rel w' B vs x
theorem notU8_cell {w : World} {g : Nat} {cs : Array Value} (hs : Str w g cs) (hn : notU8 cs = true) (i : Nat) (u : UInt8) : w.cell? ⟨g, i, none⟩ ≠ some (byteV u) := by
  intro h
  rw [hs.cell] at h
  have hm : byteV u ∈ cs.toList := by rw [Array.mem_toList_iff]; exact Array.mem_of_getElem? h
  have := List.all_eq_true.1 hn _ hm
  simp [byteV] at this
theorem subU_grown {w w' : World} {g : Nat} {cs : Array Value} (A : Option Addr) (hs : Str w g cs) (hn : notU8 cs = true) (hg : w.grownBy w' (some g)) : SubU w.heap.size (hid A w) (hid A w') := by
  have key : ∀ (p : Addr) (u : UInt8), p.block < w.heap.size → w.cell? p = some (byteV u) → w'.cell? p = some (byteV u) := fun p u hp hv => by
    by_cases e : p.block = g
    · subst e
      obtain ⟨b, o, s⟩ := p
      have h0 : s = none := World.cell?_spot (w := w) (a := ⟨b, o, s⟩) hv
      subst h0
      exact absurd hv (notU8_cell hs hn o u)
    · exact (World.cell?_of_block (a := p) (hg.block p.block hp (by intro e2; injection e2 with e2; exact e e2))).trans hv
  cases A with
  | none => exact key
  | some a =>
    intro p u hp hv
    by_cases e : p.block = a.block
    · have : (hide w a.block).cell? p = none := by rw [← e]; exact hide_none w p
      change (hide w a.block).cell? p = _ at hv
      rw [this] at hv; cases hv
    · change (hide w a.block).cell? p = _ at hv
      rw [hide_other w a.block p e] at hv
      show (hide w' a.block).cell? p = _
      rw [hide_other w' a.block p e]
      exact key p u hp hv
theorem own_grown {w w' : World} {base : Nat} {e : TypeId} {size n g : Nat} {A : Option Addr} {c : Nat} {xs : List Value} (h : w.ownsRow base e size (.slice A n c) n xs) (hg : w.grownBy w' (some g)) (hne : ∀ a, A = some a → a.block ≠ g) : w'.ownsRow base e size (.slice A n c) n xs := by
  obtain ⟨h1, h2⟩ := h
  refine ⟨h1, ?_⟩
  rcases h2 with h2 | ⟨g', cap, cur, hv, hb, hh, r⟩
  · exact .inl h2
  · cases hv
    exact .inr ⟨g', c, cur, rfl, hb, (hg.block g' (Array.getElem?_eq_some_iff.1 hh).1 (by intro e2; injection e2 with e2; exact hne _ rfl e2)).trans hh, r⟩
section
variable {α : Type} {E : El α} {T : TypeId} {w w' : World} {base n c g : Nat} {A : Option Addr} {l : List α} {cs : Array Value}
/-- a block without bytes is written: the row stands -/
theorem OwnE.grownU (hE : E.Byt) (h : OwnE E T w base A n c l) (hs : Str w g cs) (hn : notU8 cs = true) (hg : w.grownBy w' (some g)) (hne : ∀ a, A = some a → a.block ≠ g) : OwnE E T w' base A n c l := by
  obtain ⟨vs, h1, h2⟩ := h
  exact ⟨vs, own_grown h1 hg hne, h2.imp fun _ _ hr => E.more hg.size (hE (subU_grown A hs hn hg) hr)⟩
end
theorem Str.grownO {w w' : World} {b : Nat} {cs : Array Value} {ob : Option Nat} (h : Str w b cs) (hg : w.grownBy w' ob) (hne : ob ≠ some b) : Str w' b cs := by
  have hl := h.lt
  obtain ⟨t, h⟩ := h
  exact ⟨t, (hg.block b hl (fun e => hne e.symm)).trans h⟩
end Go.Proofs.Ytiokcemlfdonnaa
end
section
namespace Go.Proofs.Ytiokcemlfdonnaa
open Go.RowKit
set_option linter.unusedVariables false
set_option linter.unusedSimpArgs false
/-- a number in a slice -/
def IntE : El Int where
  size := 1
  pos := by decide
  rel w B vs x := vs = [.int .i64 x]
  len := by rintro w B vs p rfl; rfl
  one := by rintro w B vs p rfl v hv; simp only [List.mem_singleton] at hv; subst hv; rfl
  sub := by rintro w w' B vs p hs h; exact h
  more := by rintro w B B' vs p hB h; exact h
theorem intE_flat {w : World} {B : Nat} : ∀ {vs : List (List Value)} {l : List Int}, Rel2 (IntE.rel w B) vs l → vs.flatten = l.map (Value.int .i64)
  | [], [], _ => rfl
  | [], _ :: _, h => h.elim
  | _ :: _, [], h => h.elim
  | v :: vs, x :: l, h => by
    have h1 : v = [.int .i64 x] := h.1
    rw [List.flatten_cons, h1, intE_flat h.2]
    rfl
theorem intE_rel (w : World) (B : Nat) : ∀ l : List Int, Rel2 (IntE.rel w B) (l.map fun x => [.int .i64 x]) l
  | [] => trivial
  | x :: l => ⟨rfl, intE_rel w B l⟩
theorem intE_map (l : List Int) : (l.map fun x => [Value.int .i64 x]).flatten = l.map (Value.int .i64) := by
  induction l with
  | nil => rfl
  | cons x l ih => rw [List.map_cons, List.flatten_cons, ih]; rfl
theorem IntE.own {w : World} {T : TypeId} {base n c : Nat} {A : Option Addr} {l : List Int} (h : OwnE IntE T w base A n c l) : w.ownsRow base T 1 (.slice A n c) n (l.map (Value.int .i64)) := by
  obtain ⟨vs, h1, h2⟩ := h
  rw [← intE_flat h2]
  exact h1
theorem IntE.mk' {w : World} {T : TypeId} {base n c : Nat} {A : Option Addr} {l : List Int} (h : w.ownsRow base T 1 (.slice A n c) n (l.map (Value.int .i64))) : OwnE IntE T w base A n c l :=
  ⟨l.map fun x => [.int .i64 x], by rw [intE_map]; exact h, intE_rel _ _ l⟩
theorem IntE.grown {w w' : World} {T : TypeId} {base n c g : Nat} {A : Option Addr} {l : List Int} (h : OwnE IntE T w base A n c l) (hg : w.grownBy w' (some g)) (hne : g < base) : OwnE IntE T w' base A n c l :=
  IntE.mk' (own_grown (IntE.own h) hg (fun a e => by have := h.ge a e; omega))
/-- a number typed out, as a source -/
theorem IntE.lit {w wr : World} {b : Nat} {x : Int} (hs : Str w b #[.int .i64 x]) : ElemsIn IntE wr w w.heap.size (some ⟨b, 0, none⟩) 1 1 [x] :=
  ⟨[[.int .i64 x]], ⟨rfl, trivial⟩, rfl, Nat.le_refl _, by unfold maxLen; omega, fun _ => ⟨b, 0, rfl, hs.lt, fun j v hv => by
    have hj : j = 0 := by have := (List.getElem?_eq_some_iff.1 hv).1; simp at this; omega
    subst hj
    simp at hv
    subst hv
    exact hs.cell 0⟩⟩
theorem infoI : (Try.prog.info? 3).map (fun i => (i.zero, i.size, i.bytes)) = some (some (.int .i64 0), 1, 8) := by kernel_rfl
end Go.Proofs.Ytiokcemlfdonnaa
end
section
namespace Go.Proofs.Ytiokcemlfdonnaa
open Go.RowKit
set_option linter.unusedVariables false
theorem splice_cons (cur : List Value) (o : Nat) (v : Value) (r : List Value) (h : o < cur.length) : splice (cur.set o v) (o + 1) r = splice cur o (v :: r) := by
  have e : (cur.set o v).take (o + 1) = cur.take o ++ [v] := by
    refine List.ext_getElem? fun j => ?_
    have hl : (cur.take o).length = o := by rw [List.length_take]; omega
    rcases Nat.lt_trichotomy j o with hj | rfl | hj
    · rw [List.getElem?_take_of_lt (by omega), List.getElem?_set_ne (by omega), List.getElem?_append_left (by omega), List.getElem?_take_of_lt hj]
    · rw [List.getElem?_take_of_lt (by omega), List.getElem?_set_self h, List.getElem?_append_right (by omega), hl]
      simp
    · rw [List.getElem?_eq_none (by simp; omega), List.getElem?_eq_none (by simp; omega)]
  unfold splice
  rw [e, List.drop_set_of_lt (by omega)]
  simp [Nat.add_assoc, Nat.add_comm 1]
theorem setCells_heap (b : Nat) : ∀ (vs : List Value) (o : Nat) (w : World) (cur : Array Value) (t : TypeId), w.heap[b]? = some (.cells cur t (0, 0)) → o + vs.length ≤ cur.size → (w.setCells b o vs).heap[b]? = some (.cells (splice cur.toList o vs).toArray t (0, 0))
  | [], o, w, cur, t, h, _ => by
    rw [World.setCells, h]
    simp [splice]
  | v :: r, o, w, cur, t, h, hl => by
    rw [World.setCells]
    have hl' : o + 1 + r.length ≤ cur.size := by simp at hl; omega
    have h1 : (w.setCell ⟨b, o, none⟩ v).heap[b]? = some (.cells (cur.setIfInBounds o v) t (0, 0)) := by simp [World.setCell, Array.getElem?_modify, h]
    rw [setCells_heap b r (o + 1) _ _ t h1 (by simpa using hl'), Array.toList_setIfInBounds, splice_cons _ _ _ _ (by simp at hl ⊢; omega)]
theorem grown_setCells (b : Nat) : ∀ (vs : List Value) (o : Nat) (w0 w : World), w0.grownBy w (some b) → w0.grownBy (w.setCells b o vs) (some b)
  | [], _, _, _, h => h
  | v :: r, o, w0, w, h => by
    rw [World.setCells]
    exact grown_setCells b r (o + 1) w0 _ (grown_set h o v)
theorem splice_get_in {cur vs : List Value} {o j : Nat} (h : o + vs.length ≤ cur.length) (hj : j < vs.length) : (splice cur o vs)[o + j]? = vs[j]? := by
  unfold splice
  have h0 : (cur.take o).length = o := by rw [List.length_take]; omega
  rw [List.getElem?_append_right (by omega), h0, List.getElem?_append_left (by omega)]
  congr 1
  omega
theorem splice_get_out {cur vs : List Value} {o j : Nat} (h : o + vs.length ≤ cur.length) (hj : j < o ∨ o + vs.length ≤ j) : (splice cur o vs)[j]? = cur[j]? := by
  unfold splice
  have h0 : (cur.take o).length = o := by rw [List.length_take]; omega
  rcases hj with hj | hj
  · rw [List.getElem?_append_left (by omega), List.getElem?_take_of_lt hj]
  · rw [List.getElem?_append_right (by omega), h0, List.getElem?_append_right (by omega), List.getElem?_drop]
    congr 1
    omega
theorem splice_len {cur vs : List Value} {o : Nat} (h : o + vs.length ≤ cur.length) : (splice cur o vs).length = cur.length := by
  unfold splice
  simp
  omega
/-- the block that such a slice lies in, if it has room -/
def OwnS (w : World) (gb : Option Nat) (A : Option Addr) (n c : Nat) (l : List UInt8) : Prop :=
  l.length = n ∧ n ≤ c ∧ c ≤ maxLen ∧ ((c = 0 ∧ gb = none) ∨ ∃ (g o : Nat) (cur : Array Value) (T : TypeId), gb = some g ∧ A = some ⟨g, o, none⟩ ∧ w.heap[g]? = some (.cells cur T (0, 0)) ∧ o + c ≤ cur.size ∧ ∀ (j : Nat) u, l[j]? = some u → cur[o + j]? = some (byteV u))
section
variable {w w' : World} {gb : Option Nat} {A : Option Addr} {n c : Nat} {l : List UInt8}
theorem OwnS.len (h : OwnS w gb A n c l) : l.length = n := h.1
theorem OwnS.none_ (w : World) : OwnS w none none 0 0 [] := ⟨rfl, Nat.le_refl _, by unfold maxLen; omega, .inl ⟨rfl, rfl⟩⟩
theorem OwnS.lt (h : OwnS w gb A n c l) : ∀ g, gb = some g → g < w.heap.size := by
  intro g hg
  obtain ⟨-, -, -, (⟨-, e⟩ | ⟨g', o, cur, T, e, -, hh, -⟩)⟩ := h
  · rw [e] at hg; cases hg
  · rw [e] at hg; cases hg; exact (Array.getElem?_eq_some_iff.1 hh).1
theorem OwnS.at_ (h : OwnS w gb A n c l) (hb : ∀ g, gb = some g → w'.heap[g]? = w.heap[g]?) : OwnS w' gb A n c l := by
  obtain ⟨h1, h2, h3, (h4 | ⟨g, o, cur, T, e, hA, hh, r⟩)⟩ := h
  · exact ⟨h1, h2, h3, .inl h4⟩
  · exact ⟨h1, h2, h3, .inr ⟨g, o, cur, T, e, hA, (hb g e).trans hh, r⟩⟩
theorem OwnS.next (h : OwnS w gb A n c l) (hb : Below w.heap.size w w') : OwnS w' gb A n c l := h.at_ fun g e => hb.block g (h.lt g e)
theorem OwnS.grown {g : Nat} (h : OwnS w gb A n c l) (hg : w.grownBy w' (some g)) (hne : gb ≠ some g) : OwnS w' gb A n c l := h.at_ fun k e => hg.block k (h.lt k e) (by rw [← e]; exact hne)
theorem OwnS.bytes (h : OwnS w gb A n c l) : Bytes w w.heap.size A n c l := by
  obtain ⟨h1, h2, h3, (⟨h4, -⟩ | ⟨g, o, cur, T, e, hA, hh, hs, hc⟩)⟩ := h
  · exact ⟨h1, h2, h3, fun hn => absurd hn (by omega)⟩
  · exact ⟨h1, h2, h3, fun _ => ⟨g, o, hA, (Array.getElem?_eq_some_iff.1 hh).1, fun j u hu => by rw [cell_of_row w g (o + j) cur T (0, 0) hh]; exact hc j u hu⟩⟩
/-- a part of it -/
theorem OwnS.cut (h : OwnS w gb A n c l) (lo hi m : Nat) (h1 : lo ≤ hi) (h2 : hi ≤ n) (h3 : hi ≤ m) (h4 : m ≤ c) : ∃ gb', OwnS w gb' (cutA A lo m 1) (hi - lo) (m - lo) ((l.drop lo).take (hi - lo)) ∧ (gb' = gb ∨ gb' = none) := by
  obtain ⟨hl, hc, hm, hx⟩ := h
  rcases hx with ⟨h0, e⟩ | ⟨g, o, cur, T, e, hA, hh, hs, hcell⟩
  · exact ⟨none, ⟨by simp; omega, by omega, by omega, .inl ⟨by omega, rfl⟩⟩, .inr rfl⟩
  · by_cases hml : m = lo
    · exact ⟨none, ⟨by simp; omega, by omega, by omega, .inl ⟨by omega, rfl⟩⟩, .inr rfl⟩
    · refine ⟨gb, ⟨by simp; omega, by omega, by omega, .inr ⟨g, o + lo, cur, T, e, ?_, hh, by omega, fun j u hu => ?_⟩⟩, .inl rfl⟩
      · unfold cutA
        rw [if_neg hml, hA]
        simp [add_none]
      · rw [List.getElem?_take] at hu
        split at hu
        · rw [List.getElem?_drop] at hu
          rw [Nat.add_assoc]
          exact hcell _ u hu
        · cases hu
/-- bytes that a call has made -/
theorem OwnS.of_own {base : Nat} {T : TypeId} (h : w.ownsRow base T 1 (.slice A n c) n (l.map byteV)) : ∃ gb, OwnS w gb A n c l ∧ ∀ g, gb = some g → base ≤ g := by
  have hl := (Bytes.own h).len
  rcases h.2 with ⟨e, h0⟩ | ⟨g, cap, cur, e, hg, hh, hnc, hm, hsz, htk⟩
  · cases e
    exact ⟨none, ⟨by simpa using hl, Nat.le_refl _, by unfold maxLen; omega, .inl ⟨rfl, rfl⟩⟩, by simp⟩
  · cases e
    by_cases hc0 : c = 0
    · exact ⟨none, ⟨hl, hnc, hm, .inl ⟨hc0, rfl⟩⟩, by simp⟩
    · refine ⟨some g, ⟨hl, hnc, hm, .inr ⟨g, 0, cur, T, rfl, rfl, hh, by omega, fun j u hu => ?_⟩⟩, fun k hk => by cases hk; exact hg⟩
      have hj : j < n := by rw [← hl]; exact (List.getElem?_eq_some_iff.1 hu).1
      have hx := congrArg (·[j]?) htk
      simp only [List.getElem?_take, List.getElem?_map, hu, Option.map_some] at hx
      rw [if_pos (by omega)] at hx
      simpa using hx
/-- an append onto it, out of whatever bytes -/
theorem OwnS.app {P : Program} (t ty e : TypeId) (ht : P.underlying t = some (.slice e)) (hi : (P.info? e).map (fun i => (i.zero, i.size, i.bytes)) = some (some (.int .u8 0), 1, 1)) (h : OwnS w gb A n c l) {B m c2 : Nat} {A2 : Option Addr} {l2 : List UInt8} (h2 : Bytes w B A2 m c2 l2) (hn : n + m ≤ 140737488355328) :
    ∃ A' c' w' gb', (appSem #[t, t] ty #[.slice A n c, .slice A2 m c2]).run P w = .ok (.slice A' (n + m) c') w' ∧ OwnS w' gb' A' (n + m) c' (l ++ l2) ∧ w.grownBy w' gb ∧ (gb' = gb ∨ gb' = some w.heap.size) := by
  obtain ⟨i0, hi0, hz0, hz1, hz2⟩ := info_parts hi
  have hm2 := h2.len
  have hln := h.len
  have hsrc : Src P 1 t (.slice A2 m c2) m (l2.map byteV) w := by
    by_cases h0 : m = 0
    · subst h0
      have : l2 = [] := List.eq_nil_of_length_eq_zero hm2
      subst this
      cases A2 with
      | none => exact Src.ofNil w ht c2
      | some a => exact Src.ofSlice w ht a 0 c2 [] (by simp) (fun j u hu => by simp at hu) (fun u hu => by cases hu)
    · obtain ⟨ad, rfl, hc⟩ := h2.src (by simp; omega)
      exact Src.ofSlice w ht ad m c2 _ (by simp [hm2]) hc (byteV_one l2)
  obtain ⟨hl, hc, hm, hx⟩ := h
  unfold appSem
  by_cases hroom : n + m ≤ c
  · rcases hx with ⟨h0, e1⟩ | ⟨g, o, cur, T, e1, hA, hh, hs, hcell⟩
    · have e2 : m = 0 := by omega
      have e3 : n = 0 := by omega
      subst e2
      have : l2 = [] := List.eq_nil_of_length_eq_zero hm2
      subst this
      exact ⟨A, c, w, none, run_append_nothing w t t ty e i0 ht hi0 A n c hc _ (by rw [hz1]; exact hsrc), ⟨by simpa using hl, by omega, hm, .inl ⟨h0, rfl⟩⟩, by rw [e1]; exact World.grownBy.refl w _, .inl e1.symm⟩
    · subst hA
      have hcl : ∀ j, j < (l2.map byteV).length → o + n + j < cur.size := fun j hj => by simp at hj; omega
      have hr := run_append_room_src (P := P) w t t ty e i0 ht hi0 g o n c (.slice A2 m c2) m (l2.map byteV) (by rw [hz1]; exact hsrc) hroom
        (fun j hj => by rw [hz1, Nat.mul_one, cell_of_row w g _ cur T (0, 0) hh, Array.getElem?_eq_getElem (hcl j hj)]; rfl)
        (fun j hj => by simp [World.frozen?, hh])
      rw [hz1, Nat.mul_one] at hr
      have hfit : o + n + (l2.map byteV).length ≤ cur.size := by simp; omega
      refine ⟨some ⟨g, o, none⟩, c, _, gb, hr, ⟨by simp; omega, by omega, hm, .inr ⟨g, o, _, T, e1, rfl, setCells_heap g _ _ w cur T hh hfit, ?_, fun j u hu => ?_⟩⟩, by rw [e1]; exact grown_setCells g _ _ w w (World.grownBy.refl w _), .inl rfl⟩
      · rw [List.size_toArray, splice_len (by simpa using hfit)]
        simpa using hs
      · rw [List.getElem?_toArray]
        by_cases hj : j < n
        · rw [splice_get_out (by simpa using hfit) (.inl (by omega)), Array.getElem?_toList]
          exact hcell j u (by rw [List.getElem?_append_left (by omega)] at hu; exact hu)
        · rw [List.getElem?_append_right (by omega)] at hu
          have hj2 : j - l.length < l2.length := (List.getElem?_eq_some_iff.1 hu).1
          have := splice_get_in (cur := cur.toList) (vs := l2.map byteV) (o := o + n) (j := j - l.length) (by simpa using hfit) (by simpa using hj2)
          rw [show o + n + (j - l.length) = o + j by omega] at this
          rw [this, List.getElem?_map, hu]
          rfl
  · have hg : c < n + m := by omega
    have hold : (Builtin.firstCells i0.size n (.slice A n c)).run P w.drew = .ok (l.map byteV).toArray w.drew := by
      rw [hz1]
      rcases hx with ⟨h0, e1⟩ | ⟨g, o, cur, T, e1, hA, hh, hs, hcell⟩
      · have e3 : n = 0 := by omega
        subst e3
        have : l = [] := List.eq_nil_of_length_eq_zero hl
        subst this
        cases A with
        | none => exact run_firstCells_none w.drew 1 0 0 c
        | some a => exact run_firstCells_some w.drew 1 0 a 0 c [] (by simp) (fun j v hv => by simp at hv)
      · subst hA
        refine run_firstCells_some w.drew 1 n _ n c _ (by simp [hl]) (fun j v hv => ?_)
        rw [List.getElem?_map, Option.map_eq_some_iff] at hv
        obtain ⟨u, hu, rfl⟩ := hv
        rw [add_none]
        show w.cell? _ = _
        rw [cell_of_row w g _ cur T (0, 0) hh]
        exact hcell j u hu
    have hr := run_append_grow_src (P := P) w t t ty e i0 _ ht hi0 hz0 A n c (l.map byteV) hold (.slice A2 m c2) m (l2.map byteV) (by rw [hz1]; exact hsrc) hg (by omega) (growslice_fits hg (by rw [hz2]; omega))
    refine ⟨_, _, _, some w.heap.size, hr, ⟨by simp; omega, grownCap_ge _ _ _ _, grownCap_le_maxLen _ _ _ _ (by unfold maxLen; omega), .inr ⟨_, 0, _, e, rfl, rfl, heap_alloc_new w.drew _, ?_, fun j u hu => ?_⟩⟩, ?_, .inr rfl⟩
    · have := grownCap_ge w (n + m) c e
      simp only [Array.size_append, List.size_toArray, List.length_append, List.length_map, size_zeroCells, Value.cells]
      simp
      omega
    · rw [Nat.zero_add]
      have hj : j < (l ++ l2).length := (List.getElem?_eq_some_iff.1 hu).1
      rw [Array.getElem?_append_left (by simpa using hj), List.getElem?_toArray, ← List.map_append, List.getElem?_map, hu]
      rfl
    · exact ⟨rfl, rfl, rfl, by simp, fun k hk _ => Below.heap_alloc w.drew _ k hk⟩
end
end Go.Proofs.Ytiokcemlfdonnaa
end
section
namespace Go.Proofs.Ytiokcemlfdonnaa
open Go.RowKit
set_option linter.unusedVariables false
theorem IntE.pure : El.Pure IntE := fun _ _ _ _ _ _ h => h
/-- a record, as it was in a world -/
def Rec0 (w0 : World) : El RecX where
  size := 15
  pos := by decide
  rel w B vs x := RecE.rel w0 w0.heap.size vs x
  len h := RecE.len h
  one h := RecE.one h
  sub _ h := h
  more _ h := h
theorem Rec0.pure (w0 : World) : El.Pure (Rec0 w0) := fun _ _ _ _ _ _ h => h
theorem rec0_at {w0 w : World} {T : TypeId} {base n c k : Nat} {A : Option Addr} {l : List RecX} (h : OwnE (Rec0 w0) T w base A n c l) (hb : Below w0.heap.size w0 w) (hk : k < n) : ∃ b o x A1 n1 c1 A2 n2 c2, A = some ⟨b, o, none⟩ ∧ b < w.heap.size ∧ l[k]? = some x ∧ Elems PatchE w w0.heap.size A1 n1 c1 x.patches ∧ Bytes w w0.heap.size A2 n2 c2 x.undo.item.cell.data ∧ RecIn x ∧
    ∀ j v, (recV x A1 n1 c1 A2 n2 c2)[j]? = some v → w.cell? ⟨b, o + k * 15 + j, none⟩ = some v := by
  have hl : k < l.length := by rw [h.len]; exact hk
  obtain ⟨b, o, vs, e, hlt, ⟨A1, n1, c1, A2, n2, c2, rfl, hy, hy2, h1⟩, hc⟩ := h.elemsIn.at_ hk
  exact ⟨b, o, _, A1, n1, c1, A2, n2, c2, e, hlt, List.getElem?_eq_getElem hl, Elems.sub hy (sub_below hb), hy2.sub (sub_below hb), h1, hc⟩
theorem int_at {w : World} {T : TypeId} {base n c k : Nat} {A : Option Addr} {l : List Int} (h : OwnE IntE T w base A n c l) (hk : k < n) : ∃ b o x, A = some ⟨b, o, none⟩ ∧ b < w.heap.size ∧ l[k]? = some x ∧ w.cell? ⟨b, o + k, none⟩ = some (.int .i64 x) := by
  have hl : k < l.length := by rw [h.len]; exact hk
  obtain ⟨b, o, vs, e, hlt, hr, hc⟩ := h.elemsIn.at_ hk
  have hr' : vs = [.int .i64 (l[k]'hl)] := hr
  subst hr'
  refine ⟨b, o, _, e, hlt, List.getElem?_eq_getElem hl, ?_⟩
  have := hc 0 _ rfl
  rwa [show IntE.size = 1 from rfl, Nat.mul_one, Nat.add_zero] at this
namespace RowsW
/-- the three rows -/
structure Trio (w0 w : World) (gb : Option Nat) (A1 : Option Addr) (n1 c1 : Nat) (A2 : Option Addr) (c2 : Nat) (A3 : Option Addr) (c3 : Nat) (bs : List UInt8) (es : List Int) (ks : List RecX) (m : Nat) : Prop where
  bel : Below w0.heap.size w0 w
  all : OwnS w gb A1 n1 c1 bs
  ends : OwnE IntE 3 w w0.heap.size A2 m c2 es
  kept : OwnE (Rec0 w0) 31 w w0.heap.size A3 m c3 ks
  g0 : ∀ g, gb = some g → w0.heap.size ≤ g
  x12 : ∀ g a, gb = some g → A2 = some a → a.block ≠ g
  x13 : ∀ g a, gb = some g → A3 = some a → a.block ≠ g
  x23 : ∀ a b, A2 = some a → A3 = some b → b.block ≠ a.block
section
variable {w0 w w' : World} {gb : Option Nat} {A1 A2 A3 : Option Addr} {n1 c1 c2 c3 m : Nat} {bs : List UInt8} {es : List Int} {ks : List RecX}
theorem Trio.none_ (w : World) : Trio w w none none 0 0 none 0 none 0 [] [] [] 0 :=
  ⟨bsame w, OwnS.none_ _, OwnE.none_ _ _ _ _, OwnE.none_ _ _ _ _, (fun _ e => by cases e), (fun _ _ e => by cases e), (fun _ _ e => by cases e), (fun _ _ e => by cases e)⟩
theorem Trio.next (h : Trio w0 w gb A1 n1 c1 A2 c2 A3 c3 bs es ks m) (hb : Below w.heap.size w w') : Trio w0 w' gb A1 n1 c1 A2 c2 A3 c3 bs es ks m :=
  ⟨bstep h.bel hb, h.all.next hb, h.ends.next hb, h.kept.next hb, h.g0, h.x12, h.x13, h.x23⟩
theorem Trio.lt2 (h : Trio w0 w gb A1 n1 c1 A2 c2 A3 c3 bs es ks m) : ∀ a, A2 = some a → w0.heap.size ≤ a.block ∧ a.block < w.heap.size := fun a e => by
  refine ⟨h.ends.ge a e, ?_⟩
  obtain ⟨vs, ⟨h0, h1⟩, -⟩ := h.ends
  rcases h1 with ⟨e1, -⟩ | ⟨g, cap, cur, e1, h2, h3, -⟩
  · cases e1; cases e
  · cases e1; cases e; exact (Array.getElem?_eq_some_iff.1 h3).1
theorem Trio.lt3 (h : Trio w0 w gb A1 n1 c1 A2 c2 A3 c3 bs es ks m) : ∀ a, A3 = some a → w0.heap.size ≤ a.block ∧ a.block < w.heap.size := fun a e => by
  refine ⟨h.kept.ge a e, ?_⟩
  obtain ⟨vs, ⟨h0, h1⟩, -⟩ := h.kept
  rcases h1 with ⟨e1, -⟩ | ⟨g, cap, cur, e1, h2, h3, -⟩
  · cases e1; cases e
  · cases e1; cases e; exact (Array.getElem?_eq_some_iff.1 h3).1
/-- more bytes -/
theorem Trio.more {A' : Option Addr} {n' c' : Nat} {gb' : Option Nat} {l' : List UInt8} (h : Trio w0 w gb A1 n1 c1 A2 c2 A3 c3 bs es ks m) (h2 : OwnS w' gb' A' n' c' l') (hg : w.grownBy w' gb) (ho : gb' = gb ∨ gb' = some w.heap.size) : Trio w0 w' gb' A' n' c' A2 c2 A3 c3 l' es ks m := by
  have hsz := h.bel.size
  refine ⟨⟨hg.os.trans h.bel.os, hg.tape.trans h.bel.tape, hg.output.trans h.bel.output, Nat.le_trans hsz hg.size, fun k hk => (hg.block k (by omega) (fun e => by have := h.g0 k e.symm; omega)).trans (h.bel.block k hk)⟩, h2,
    h.ends.grownP IntE.pure hg (fun a e ek => h.x12 _ a ek e rfl), h.kept.grownP (Rec0.pure w0) hg (fun a e ek => h.x13 _ a ek e rfl), fun g e => ?_, fun g a e ea => ?_, fun g a e ea => ?_, h.x23⟩
  · rcases ho with e1 | e1
    · exact h.g0 g (by rw [← e1]; exact e)
    · rw [e1] at e; cases e; exact hsz
  · rcases ho with e1 | e1
    · exact h.x12 g a (by rw [← e1]; exact e) ea
    · rw [e1] at e; cases e; have := (h.lt2 a ea).2; omega
  · rcases ho with e1 | e1
    · exact h.x13 g a (by rw [← e1]; exact e) ea
    · rw [e1] at e; cases e; have := (h.lt3 a ea).2; omega
/-- one more in each of the two others -/
def row2 (w0 : World) (A : Option Addr) (n c : Nat) (l : List Int) (x : Int) (jr ja jf tr ts tf : Nat) : Reg.Row1 Int := ⟨IntE, 3, w0.heap.size, A, n, c, l, x, jr, ja, jf, tr, ts, tf⟩
def row3 (w0 : World) (A : Option Addr) (n c : Nat) (l : List RecX) (x : RecX) (jr ja jf tr ts tf : Nat) : Reg.Row1 RecX := ⟨Rec0 w0, 31, w0.heap.size, A, n, c, l, x, jr, ja, jf, tr, ts, tf⟩
theorem Trio.two {x : Int} {y : RecX} {A2' A3' : Option Addr} {c2' c3' a b c d e f a' b' c'' d' e' f' : Nat} {bl : List Nat} (h : Trio w0 w gb A1 n1 c1 A2 c2 A3 c3 bs es ks m) (hk : Reg.KeepB w.heap.size bl w w') (hbl : ∀ k, k ∈ bl → (∃ q, A2 = some q ∧ q.block = k) ∨ ∃ q, A3 = some q ∧ q.block = k)
    (h2 : (row2 w0 A2 m c2 es x a b c d e f).Has w.heap.size w' A2' c2') (h3 : (row3 w0 A3 m c3 ks y a' b' c'' d' e' f').Has w.heap.size w' A3' c3') (hap : ∀ p q, A2' = some p → A3' = some q → q.block ≠ p.block) : Trio w0 w' gb A1 n1 c1 A2' c2' A3' c3' bs (es ++ [x]) (ks ++ [y]) (m + 1) := by
  have hsz := h.bel.size
  have hge : ∀ k, k ∈ bl → w0.heap.size ≤ k := fun k hm => by
    rcases hbl k hm with ⟨q, e1, e2⟩ | ⟨q, e1, e2⟩
    · have := (h.lt2 q e1).1; omega
    · have := (h.lt3 q e1).1; omega
  have hng : ∀ g, gb = some g → g ∉ bl := fun g eg hm => by
    rcases hbl g hm with ⟨q, e1, e2⟩ | ⟨q, e1, e2⟩
    · exact h.x12 g q eg e1 e2
    · exact h.x13 g q eg e1 e2
  refine ⟨h.bel.trans (hk.below hsz hge), h.all.at_ fun g eg => hk.block g (h.all.lt g eg) (hng g eg), h2.1, h3.1, h.g0, fun g p eg ep => ?_, fun g p eg ep => ?_, hap⟩
  · rcases h2.2 p ep with e1 | e1
    · exact h.x12 g p eg (e1.trans ep)
    · have := h.all.lt g eg; omega
  · rcases h3.2 p ep with e1 | e1
    · exact h.x13 g p eg (e1.trans ep)
    · have := h.all.lt g eg; omega
end
end RowsW
end Go.Proofs.Ytiokcemlfdonnaa
end
section
namespace Go.Proofs.Ytiokcemlfdonnaa.Same
open Go.RowKit

theorem str_beq (l l' : List UInt8) : ((strOf l).toList == (strOf l').toList) = (l == l') := by
  rw [Lib.toList_data, Lib.toList_data, strOf_data, strOf_data]

set_option maxHeartbeats 400000 in
theorem same_any (A A' : Option Addr) (n c n' c' B B' : Nat) (l l' : List UInt8) (w : World) (h : Bytes w B A n c l) (h' : Bytes w B' A' n' c' l') :
    Calls Try.prog 12 #[.slice A n c, .slice A' n' c'] w fun e w' => e = .returned (.bool (l == l')) ∧ w = w' := by
  have h1 := run_str (P := Try.prog) 23 9 5 Try.underlying23 Try.underlying5 Try.underlying9 h
  have h2 := run_str (P := Try.prog) 23 9 5 Try.underlying23 Try.underlying5 Try.underlying9 h'
  clear h h'
  have HS := Lib.hid (str_beq l l')
  go_enter Try.func12, Try.ntmps12
  go_wp2
  go_ret
  rw [← HS.out]
  exact ⟨rfl, rfl⟩

set_option maxHeartbeats 400000 in
theorem equal_any (A A' : Option Addr) (n c n' c' B B' : Nat) (l l' : List UInt8) (w : World) (h : Bytes w B A n c l) (h' : Bytes w B' A' n' c' l') :
    Calls Try.prog 50 #[.slice A n c, .slice A' n' c'] w fun e w' => e = .returned (.bool (l == l')) ∧ w = w' := by
  have h1 := run_str (P := Try.prog) 23 9 5 Try.underlying23 Try.underlying5 Try.underlying9 h
  have h2 := run_str (P := Try.prog) 23 9 5 Try.underlying23 Try.underlying5 Try.underlying9 h'
  clear h h'
  have HS := Lib.hid (str_beq l l')
  go_enter Try.func50, Try.ntmps50
  go_wp2
  go_ret
  rw [← HS.out]
  exact ⟨rfl, rfl⟩
end Go.Proofs.Ytiokcemlfdonnaa.Same
end
section
namespace Go.Proofs.Ytiokcemlfdonnaa.PatchW
open Go.RowKit
set_option linter.unusedVariables false
set_option linter.unusedSimpArgs false
def code (b : Bool) : Int := if b then 0 else 1
set_option maxRecDepth 100000 in
set_option maxHeartbeats 1000000 in
theorem within_any (r : RunX) (A : Option Addr) (n c : Nat) (hn : r.data.length = n) (hm : n ≤ maxLen) (hi : In64 r.at_) (w : World) :
    Calls Try.prog 81 #[.agg #[.int .i64 r.at_, .slice A n c]] w fun e w' => e = .returned (.bool (PatchP.within r)) ∧ Below w.heap.size w w' := by
  have hs : PatchP.stop r = r.at_ + (n : Nat) := by unfold PatchP.stop; rw [hn]
  unfold maxLen at hm
  obtain ⟨hi1, hi2⟩ := hi
  obtain ⟨p, data⟩ := r
  dsimp only at *
  obtain ⟨W0, hW0⟩ : ∃ W, w.alloc (.cells #[.int .i64 p, .slice A n c] 100) = W := ⟨_, rfl⟩
  obtain ⟨HS0, HB0, hw0, hz0⟩ := new1 hW0
  have g0 := str2 HS0.out
  have hl0 := HS0.out.lt
  clear hz0
  by_cases c0 : 0 < n
  · have d0 : decide (0 < (n : Int)) = true := by simp; omega
    by_cases c1 : 12 ≤ p
    · have d1 : decide (12 ≤ p) = true := by simp; omega
      by_cases c2 : p < 512
      · have d2 : decide (p < 512) = true := by simp; omega
        by_cases c3 : (n : Int) ≤ 512 - p
        · have d3 : decide ((n : Int) ≤ 512 - p) = true := by simp; omega
          have hR : PatchP.within ⟨p, data⟩ = true := PatchP.within_yes _ ⟨by show 0 < data.length; omega, by show 12 ≤ p; omega, by omega⟩
          have HR := Lib.hid hR
          clear hR hs hn
          go_enter Try.func81, Try.ntmps81
          go_wp2
          go_ret
          exact ⟨by rw [HR.out]; rfl, HB0.out⟩
        · have d3 : decide ((n : Int) ≤ 512 - p) = false := by simp; omega
          have hR : PatchP.within ⟨p, data⟩ = false := PatchP.within_no _ (fun h => by obtain ⟨h1, h2, h3⟩ := h; dsimp only at h1 h2; omega)
          have HR := Lib.hid hR
          clear hR hs hn
          go_enter Try.func81, Try.ntmps81
          go_wp2
          go_ret
          exact ⟨by rw [HR.out]; rfl, HB0.out⟩
      · have d2 : decide (p < 512) = false := by simp; omega
        have hR : PatchP.within ⟨p, data⟩ = false := PatchP.within_no _ (fun h => by obtain ⟨h1, h2, h3⟩ := h; dsimp only at h1 h2; omega)
        have HR := Lib.hid hR
        clear hR hs hn
        go_enter Try.func81, Try.ntmps81
        go_wp2
        go_ret
        exact ⟨by rw [HR.out]; rfl, HB0.out⟩
    · have d1 : decide (12 ≤ p) = false := by simp; omega
      have hR : PatchP.within ⟨p, data⟩ = false := PatchP.within_no _ (fun h => by obtain ⟨h1, h2, h3⟩ := h; dsimp only at h1 h2; omega)
      have HR := Lib.hid hR
      clear hR hs hn
      go_enter Try.func81, Try.ntmps81
      go_wp2
      go_ret
      exact ⟨by rw [HR.out]; rfl, HB0.out⟩
  · have d0 : decide (0 < (n : Int)) = false := by simp; omega
    have hR : PatchP.within ⟨p, data⟩ = false := PatchP.within_no _ (fun h => by obtain ⟨h1, h2, h3⟩ := h; dsimp only at h1 h2; omega)
    have HR := Lib.hid hR
    clear hR hs hn
    go_enter Try.func81, Try.ntmps81
    go_wp2
    go_ret
    exact ⟨by rw [HR.out]; rfl, HB0.out⟩
set_option maxRecDepth 100000 in
set_option maxHeartbeats 2000000 in
theorem check_any (x : PatchX) (A : Option Addr) (n c B : Nat) (w : World) (hE : Elems RunE w B A n c x.runs) (hB : B ≤ w.heap.size) (hi : In64 x.page) :
    Calls Try.prog 39 #[.agg #[.int .i64 x.page, .bool x.fresh, .slice A n c]] w fun e w' => e = .returned (.int .i64 (code (PatchP.right x))) ∧ Below w.heap.size w w' := by
  have HE := Lib.hid hE
  have hlen := hE.len
  have hcap := hE.cap
  have hcm := hcap.2
  unfold maxLen at hcm
  clear hE
  obtain ⟨p, fr, l⟩ := x
  dsimp only at *
  obtain ⟨W0, hW0⟩ : ∃ W, w.alloc (.cells #[.int .i64 p, .bool fr, .slice A n c] 63) = W := ⟨_, rfl⟩
  obtain ⟨HS0, HB0, hw0, hz0⟩ := new1 hW0
  have g0 := str3 HS0.out
  have hl0 := HS0.out.lt
  clear hz0
  by_cases c0 : p < 0
  · have d0 : decide (p < 0) = true := by simpa using c0
    have HR := Lib.hid (PatchP.bad_page ⟨p, fr, l⟩ (.inl c0))
    go_enter Try.func39, Try.ntmps39
    go_wp2
    go_ret
    exact ⟨by rw [HR.out]; rfl, HB0.out⟩
  have d0 : decide (p < 0) = false := by simpa using c0
  by_cases c1 : 65535 < p
  · have d1 : decide (65535 < p) = true := by simpa using c1
    have HR := Lib.hid (PatchP.bad_page ⟨p, fr, l⟩ (.inr (.inl c1)))
    go_enter Try.func39, Try.ntmps39
    go_wp2
    go_ret
    exact ⟨by rw [HR.out]; rfl, HB0.out⟩
  have d1 : decide (65535 < p) = false := by simpa using c1
  by_cases c2 : 500 < n
  · have d2 : decide (500 < (n : Int)) = true := by simp; omega
    have HR := Lib.hid (PatchP.bad_page ⟨p, fr, l⟩ (.inr (.inr (by show 500 < l.length; omega))))
    go_enter Try.func39, Try.ntmps39
    go_wp2
    go_ret
    exact ⟨by rw [HR.out]; rfl, HB0.out⟩
  have d2 : decide (500 < (n : Int)) = false := by simp; omega
  have HBAD := Lib.hid (fun k r (hr : l[k]? = some r) hb => PatchP.bad_run ⟨p, fr, l⟩ (k := k) (r := r) hr hb)
  have HGOOD := Lib.hid (fun (h : PatchP.Okay l n) => PatchP.right_yes ⟨p, fr, l⟩ ⟨by show 0 ≤ p; omega, by show p ≤ 65535; omega, by show l.length ≤ 500; omega, by show PatchP.Okay l l.length; rw [hlen]; exact h⟩)
  clear c0 c1
  go_enter Try.func39, Try.ntmps39
  go_wp2
  go_loopw [3, 23] (fun ev iv wr => ∃ k : Nat, k ≤ n ∧ iv = .int .i64 (k : Int) ∧ ev = .int .i64 (PatchP.endOf l k) ∧ Hid (PatchP.Okay l k) ∧ Hid (Below w.heap.size w wr)) (fun _ iv _ => n - (intOf iv).toNat)
  case atStart => exact ⟨0, Nat.zero_le _, rfl, rfl, Lib.hid (PatchP.okay_zero l), HB0⟩
  case round =>
    obtain ⟨k, hk, rfl, rfl, HK, HB⟩ := hrel
    have hwr := HB.out.size
    have hend := PatchP.endOf_lo HK.out (Nat.le_refl k)
    clear g0 hl0 HB0
    by_cases hlt : k < n
    · have hd : decide ((k : Int) < (n : Int)) = true := by simp; omega
      obtain ⟨b, o, r, A2, n2, c2, rfl, hb, hr, hy, hir, q0, q1⟩ := run_at HE.out hlt
      have hyl := hy.len
      have hym : n2 ≤ maxLen := Nat.le_trans hy.2.1 hy.2.2.1
      have hyc := hy.2.1
      have hyc2 := hy.2.2.1
      unfold maxLen at hyc2
      replace q0 := (HB.out.cell (p := ⟨b, o + k * 2, none⟩) (by show b < _; omega)).trans q0
      replace q1 := (HB.out.cell (p := ⟨b, o + k * 2 + 1, none⟩) (by show b < _; omega)).trans q1
      have hst : PatchP.stop r = r.at_ + (n2 : Nat) := by unfold PatchP.stop; rw [hyl]
      have HR := Lib.hid hr
      obtain ⟨rp, rd⟩ := r
      dsimp only at *
      go_wp2_with fail
      generalize hW1 : wr.alloc (.cells #[.int .i64 rp, .slice A2 n2 c2] 100) = W1
      obtain ⟨HS1, HB1, hw1, hz1⟩ := new1 hW1
      refine (within_any ⟨rp, rd⟩ A2 n2 c2 hyl hym hir W1).mono ?_
      rintro e W2 ⟨rfl, hb2⟩
      have HS2 := Lib.hid (HS1.out.next hb2)
      have HB2 := Lib.hid (bstep HB.out (bstep HB1.out hb2))
      have g2 := str2 HS2.out
      have hl2 := HS2.out.lt
      clear hW1 hb2 HS1 HB1 hz1 hw1 q0 q1 hy hr
      by_cases hW : PatchP.Within ⟨rp, rd⟩
      · rw [PatchP.within_yes _ hW]
        by_cases he : PatchP.endOf l k < rp
        · have hd2 : decide (rp ≤ PatchP.endOf l k) = false := by simp; omega
          have HK2 : Hid (PatchP.Okay l (k + 1)) := Lib.hid (PatchP.okay_step HK.out HR.out hW he)
          have hen : PatchP.endOf l (k + 1) = rp + (n2 : Int) := (PatchP.endOf_succ l k _ HR.out).trans hst
          have hw3 : rp + (n2 : Int) ≤ 512 := by have := hW.2.2; omega
          have hw4 : 12 ≤ rp := hW.2.1
          have HEN := Lib.hid hen
          clear hW hen hst
          go_wp2
          go_roundw
          case rel => exact ⟨k + 1, by omega, by go_num, by rw [HEN.out], HK2, HB2⟩
          case measure => simp [intOf]; omega
        · have hd2 : decide (rp ≤ PatchP.endOf l k) = true := by simp; omega
          have HRR := Lib.hid (HBAD.out k _ HR.out (fun h => he h.2))
          clear hW he hst
          go_wp2
          go_ret
          exact ⟨by rw [HRR.out]; rfl, HB2.out⟩
      · rw [PatchP.within_no _ hW]
        have HRR := Lib.hid (HBAD.out k _ HR.out (fun h => hW h.1))
        clear hW hst
        go_wp2
        go_ret
        exact ⟨by rw [HRR.out]; rfl, HB2.out⟩
    · have hd : decide ((k : Int) < (n : Int)) = false := by simp; omega
      have hkn : k = n := by omega
      subst hkn
      have HRR := Lib.hid (HGOOD.out HK.out)
      go_wp2
      go_ret
      exact ⟨by rw [HRR.out]; rfl, HB.out⟩
end Go.Proofs.Ytiokcemlfdonnaa.PatchW
end
section
namespace Go.Proofs.Ytiokcemlfdonnaa.Reg
open Go.RowKit

/-- one word, at place j -/
def only {R : Way} (j : Nat) (p : SP R) : List (SP R) := List.replicate j any ++ [p]
section
variable {R : Way} {P : Program} {ops : Array Oper} {Q : Exit → Act → World → Prop} {T : List (SP R)} {a0 a : Act} {W w : World} {j : Nat} {o : Oper}
end
end Go.Proofs.Ytiokcemlfdonnaa.Reg
end
