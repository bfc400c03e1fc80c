/-
  Rows of texts that a call makes and appends to.
-/
import Derived.Test.YtcagflakmokoiaaKeySort
import Derived.Test.YtcagflakmokoiaaCut
import Derived.Maps.AppendAt
namespace Go.Proofs.Ytcagflakmokoiaa.KeyS
open Go.RowKit
set_option linter.unusedVariables false
theorem Strs.src {w : World} {B n c : Nat} {A : Option Addr} {l : List ByteArray} (h : Strs w B A n c l) (h0 : 0 < n) : ∃ ad, A = some ad ∧ ∀ j v, (l.map strV)[j]? = some v → w.cell? (ad.add j) = some v := by
  obtain ⟨b, o, e, hb, hc⟩ := h.2.2.2.2 h0
  refine ⟨_, e, fun j v hv => ?_⟩
  simp only [List.getElem?_map, Option.map_eq_some_iff] at hv
  obtain ⟨u, hu, rfl⟩ := hv
  rw [add_none]
  exact hc j u hu
/-- append of texts onto a row of the call's own -/
theorem run_append_strs (w : World) (base : Nat) (v : Value) (n : Nat) (xs : List Value) (hown : w.ownsRow base 9 1 v n xs)
    (B : Nat) (A : Option Addr) (m c : Nat) (l : List ByteArray) (hr : Strs w B A m c l) (hbytes : n + m ≤ 100000) (hbase : base ≤ w.heap.size) :
    ∃ v' w', (appSem #[73, 73] 73 #[v, .slice A m c]).run Try.prog w = .ok v' w' ∧ w'.ownsRow base 9 1 v' (n + m) (xs ++ l.map strV) ∧ w.grownBy w' v.ownBlock := by
  obtain ⟨i, hi, hzz⟩ := Option.map_eq_some_iff.1 infoS
  simp only [Prod.mk.injEq] at hzz
  obtain ⟨hz, hs, hb⟩ := hzz
  have ht := Try.underlying73
  have hm : l.length = m := hr.1
  rcases A with _ | ad
  · have h0 : m = 0 := by
      rcases Nat.eq_zero_or_pos m with h0 | h0
      · exact h0
      · obtain ⟨b, o, h, _⟩ := hr.2.2.2.2 h0
        cases h
    subst h0
    have hn : l = [] := List.eq_nil_of_length_eq_zero hm
    subst hn
    refine ⟨v, w, ?_, by simpa using hown, World.grownBy.refl w _⟩
    unfold appSem
    rcases hown.2 with ⟨rfl, rfl⟩ | ⟨g, cap, cur, rfl, _, _, hnc, _⟩
    · simp [Builtin.append_, run_underlying ht, sizeOf, typeInfo, hi, Builtin.lenOf, Builtin.firstCells]
    · simp [Builtin.append_, run_underlying ht, sizeOf, typeInfo, hi, Builtin.lenOf, Builtin.firstCells, hnc, storeCells]
  · have hcells : ∀ j u, (l.map strV)[j]? = some u → w.cell? (ad.add j) = some u := by
      intro j u hu
      have hpos : 0 < (l.map strV).length := Nat.lt_of_le_of_lt (Nat.zero_le _) (List.getElem?_eq_some_iff.1 hu).1
      obtain ⟨ad', e1, h2⟩ := Strs.src hr (by simpa [hm] using hpos)
      cases e1
      exact h2 j u hu
    obtain ⟨v', w', hrun, h2, h3, _, _⟩ := run_append_own_at (P := Try.prog) w base 73 73 9 i _ 1 16 ht hi hz hs hb (by rfl) (by decide) v n xs hown ad m c (l.map strV) (by simp [hm]) hcells (strV_one l) (by unfold maxLen; omega) (by omega) hbase
    exact ⟨v', w', hrun, h2, h3⟩
/-- texts of the call's own -/
def OwnS (w : World) (base : Nat) (A : Option Addr) (n c : Nat) (l : List ByteArray) : Prop := w.ownsRow base 9 1 (.slice A n c) n (l.map strV) ∧ ∀ s ∈ l, s.size ≤ maxLen
section
variable {w w' : World} {base n c : Nat} {A : Option Addr} {l : List ByteArray}
theorem OwnS.len (h : OwnS w base A n c l) : l.length = n := by simpa using h.1.1
theorem OwnS.strs (h : OwnS w base A n c l) : Strs w w.heap.size A n c l := by
  have hl := h.len
  rcases h.1.2 with ⟨e, h0⟩ | ⟨g, cap, cur, e, hg, hh, hnc, hm, hc, hx⟩
  · cases e
    exact ⟨hl, Nat.le_refl _, by unfold maxLen; omega, h.2, fun hp => absurd hp (by omega)⟩
  · cases e
    refine ⟨hl, hnc, hm, h.2, fun _ => ⟨g, 0, rfl, (Array.getElem?_eq_some_iff.1 hh).1, fun j u hu => ?_⟩⟩
    have hj : (l.map strV)[j]? = some (.string u) := by rw [List.getElem?_map, hu]; rfl
    rw [← hx, List.getElem?_take] at hj
    split at hj
    · simp only [World.cell?, hh, Nat.zero_add]
      simpa using hj
    · cases hj
theorem OwnS.none_ (w : World) (base : Nat) : OwnS w base none 0 0 [] := ⟨World.ownsRow_nil _ _ _ _, by simp⟩
theorem OwnS.next (h : OwnS w base A n c l) (hb : Below w.heap.size w w') : OwnS w' base A n c l := ⟨own_next h.1 hb, h.2⟩
theorem OwnS.alloc (h : OwnS w base A n c l) (o : Obj) : OwnS (w.alloc o) base A n c l := ⟨World.ownsRow.alloc h.1 o, h.2⟩
theorem OwnS.empty (w : World) (base : Nat) (hb : base ≤ w.heap.size) : OwnS (w.alloc (.cells #[] 9)) base (some ⟨w.heap.size, 0, none⟩) 0 0 [] :=
  ⟨⟨rfl, .inr ⟨_, _, _, rfl, hb, heap_alloc_new w _, Nat.le_refl _, by decide, rfl, rfl⟩⟩, by simp⟩
theorem OwnS.one (w : World) (base : Nat) (hb : base ≤ w.heap.size) (s : ByteArray) (hs : s.size ≤ maxLen) : OwnS (w.alloc (.cells #[.string s] 9)) base (some ⟨w.heap.size, 0, none⟩) 1 1 [s] :=
  ⟨⟨rfl, .inr ⟨_, _, _, rfl, hb, heap_alloc_new w _, Nat.le_refl _, by decide, rfl, rfl⟩⟩, by simpa using hs⟩
theorem OwnS.app (h : OwnS w base A n c l) {B m c2 : Nat} {A2 : Option Addr} {l2 : List ByteArray} (h2 : Strs w B A2 m c2 l2) (hn : n + m ≤ 100000) (hb : base ≤ w.heap.size) :
    ∃ A' c' w', (appSem #[73, 73] 73 #[.slice A n c, .slice A2 m c2]).run Try.prog w = .ok (.slice A' (n + m) c') w' ∧ OwnS w' base A' (n + m) c' (l ++ l2) ∧ Below base w w' := by
  obtain ⟨v', w', happ, hown, hgrow⟩ := run_append_strs w base (.slice A n c) n (l.map strV) h.1 B A2 m c2 l2 h2 hn hb
  obtain ⟨A', c', rfl⟩ := own_slice hown
  refine ⟨A', c', w', happ, ⟨by simpa using hown, fun s hs => ?_⟩, (Below.refl _ w).grown hgrow hb (own_block h.1)⟩
  rcases List.mem_append.1 hs with hs | hs
  · exact h.2 s hs
  · exact h2.2.2.2.1 s hs
end
theorem Strs.cut {w : World} {B n c : Nat} {A : Option Addr} {l : List ByteArray} (h : Strs w B A n c l) (lo hi m : Nat) (h1 : lo ≤ hi) (h2 : hi ≤ n) (h3 : hi ≤ m) (h4 : m ≤ c) :
    Strs w B (cutA A lo m 1) (hi - lo) (m - lo) ((l.drop lo).take (hi - lo)) := by
  obtain ⟨hl, hc, hm, hz, hx⟩ := h
  refine ⟨by simp; omega, by omega, by omega, fun s hs => hz s (List.mem_of_mem_drop (List.mem_of_mem_take hs)), fun hn => ?_⟩
  obtain ⟨b, o, rfl, hb, hcell⟩ := hx (by omega)
  unfold cutA
  rw [if_neg (by omega)]
  refine ⟨b, o + lo, by simp [add_none], hb, fun j u hu => ?_⟩
  rw [List.getElem?_take] at hu
  split at hu
  · rw [List.getElem?_drop] at hu
    rw [Nat.add_assoc]
    exact hcell _ u hu
  · cases hu
end Go.Proofs.Ytcagflakmokoiaa.KeyS
