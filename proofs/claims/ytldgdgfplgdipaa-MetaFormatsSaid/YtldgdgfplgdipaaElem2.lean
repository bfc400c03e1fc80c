/-
  Rows of structs of the call's own: made, written at a place, an element taken out, an element put in. No program in sight.
-/
import Derived.Test.YtldgdgfplgdipaaElem
import Derived.Test.YtldgdgfplgdipaaCopy
import Derived.Lib.AppendZerosOnto
namespace Go.Proofs.Ytldgdgfplgdipaa
open Go.RowKit
set_option linter.unusedVariables false

/-- cells put over others -/
def overV (l : List Value) (off : Nat) (s : List Value) : List Value := l.take off ++ (s ++ l.drop (off + s.length))
theorem overV_length (l : List Value) (off : Nat) (s : List Value) (h : off + s.length ≤ l.length) : (overV l off s).length = l.length := by
  simp [overV]; omega
theorem overV_append (p q s : List Value) (off : Nat) (h : off + s.length ≤ p.length) : overV (p ++ q) off s = overV p off s ++ q := by
  unfold overV
  rw [List.take_append_of_le_length (by omega), List.drop_append_of_le_length (by omega)]
  simp [List.append_assoc]
theorem overV_shift (p q s : List Value) (off : Nat) : overV (p ++ q) (p.length + off) s = p ++ overV q off s := by
  unfold overV
  rw [List.take_length_add_append, Nat.add_assoc, List.drop_length_add_append, List.append_assoc]
/-- a part of one element written: among all -/
theorem over_flat {size : Nat} : ∀ (vs : List (List Value)), (∀ v ∈ vs, v.length = size) → ∀ (j : Nat) (v : List Value) (i : Nat) (s : List Value), vs[j]? = some v → i + s.length ≤ size → overV vs.flatten (j * size + i) s = (vs.set j (overV v i s)).flatten
  | [], _, j, v, i, s, h, _ => by simp at h
  | v0 :: vs, hl, 0, v, i, s, h, hi => by
    simp at h; subst h
    rw [List.flatten_cons, Nat.zero_mul, Nat.zero_add, overV_append _ _ _ _ (by rw [hl v0 (by simp)]; exact hi)]
    rfl
  | v0 :: vs, hl, j + 1, v, i, s, h, hi => by
    have h0 := hl v0 (by simp)
    have := over_flat vs (fun x hx => hl x (by simp [hx])) j v i s (by simpa using h) hi
    rw [List.flatten_cons, show (j + 1) * size + i = v0.length + (j * size + i) by rw [h0, Nat.add_mul]; omega, overV_shift, this]
    rfl
theorem Rel2.all {α : Type} {E : El α} {w : World} {B : Nat} {vs : List (List Value)} {l : List α} (h : Rel2 (E.rel w B) vs l) : ∀ v ∈ vs, v.length = E.size := fun v hv => by
  obtain ⟨x, hx⟩ := h.mem hv
  exact E.len hx
theorem Rel2.one {α : Type} {E : El α} {w : World} {B : Nat} {vs : List (List Value)} {l : List α} (h : Rel2 (E.rel w B) vs l) : ∀ u ∈ vs.flatten, u.oneCell' = true := fun u hu => by
  obtain ⟨v, hv, huv⟩ := List.mem_flatten.1 hu
  obtain ⟨x, hx⟩ := h.mem hv
  exact E.one hx u huv
theorem sz_setRow (w : World) (g : Nat) (cs : Array Value) : (w.setRow g cs).heap.size = w.heap.size := by simp [World.setRow]
theorem hide_setRow (w : World) (g B : Nat) (cs : Array Value) : Sub B (hide w g) (hide (w.setRow g cs) g) := hide_sub_of fun k _ hk => setRow_other w g k cs hk
section
variable {α : Type} {E : El α} {T : TypeId} {w w' : World} {base n c : Nat} {A : Option Addr} {l : List α}
/-- what is known of a row of the call's own that is not nil -/
theorem OwnE.row (h : OwnE E T w base A n c l) (hn : 0 < c) : ∃ g cur vs, A = some ⟨g, 0, none⟩ ∧ base ≤ g ∧ w.heap[g]? = some (.cells cur T (0, 0)) ∧ n ≤ c ∧ c ≤ maxLen ∧ cur.size = c * E.size ∧ cur.toList.take (n * E.size) = vs.flatten ∧ Rel2 (E.rel (hide w g) w.heap.size) vs l ∧ vs.length = n := by
  have hl := h.len
  obtain ⟨vs, h1, h2⟩ := h
  rcases h1.2 with ⟨e, h0⟩ | ⟨g, cap, cur, e, hg, hh, hnc, hm, hc, hx⟩
  · cases e; omega
  · cases e
    exact ⟨g, cur, vs, rfl, hg, hh, hnc, hm, hc, hx, h2, h2.length.trans hl⟩
theorem OwnE.mk' {g : Nat} {cur : List Value} {vs : List (List Value)} (hg : base ≤ g) (hh : w.heap[g]? = some (.cells cur.toArray T (0, 0))) (hnc : n ≤ c) (hm : c ≤ maxLen) (hc : cur.length = c * E.size) (hx : cur.take (n * E.size) = vs.flatten) (hr : Rel2 (E.rel (hide w g) w.heap.size) vs l) (hl : l.length = n) : OwnE E T w base (some ⟨g, 0, none⟩) n c l :=
  ⟨vs, ⟨by rw [hr.flat (fun _ _ => E.len), hl], .inr ⟨g, c, cur.toArray, rfl, hg, hh, hnc, hm, by simpa using hc, by simpa using hx⟩⟩, hr⟩
/-- a part of an element is written -/
theorem OwnE.write {P : Program} (h : OwnE E T w base A n c l) {j i : Nat} {s : List Value} {x : α} (hj : j < n) (hi : i + s.length ≤ E.size) (h1 : ∀ v ∈ s, v.oneCell' = true) (hrel : ∀ g vs, A = some ⟨g, 0, none⟩ → (∀ y, l[j]? = some y → E.rel (hide w g) w.heap.size vs y) → E.rel (hide w g) w.heap.size (overV vs i s) x) :
    ∃ g w1, A = some ⟨g, 0, none⟩ ∧ base ≤ g ∧ g < w.heap.size ∧ (storeCells ⟨g, j * E.size + i, none⟩ s).run P w = .ok () w1 ∧ OwnE E T w1 base A n c (l.set j x) ∧ w.grownBy w1 (some g) ∧ w1.heap.size = w.heap.size := by
  have hlen := h.len
  have hcap := h.elemsIn.cap
  obtain ⟨g, cur, vs, rfl, hg, hh, hnc, hm, hc, hx, hr, hvl⟩ := h.row (by omega)
  have hgl := (Array.getElem?_eq_some_iff.1 hh).1
  have hjs : j * E.size + E.size ≤ n * E.size := by rw [← Nat.succ_mul]; exact Nat.mul_le_mul_right _ hj
  have hns : n * E.size ≤ c * E.size := Nat.mul_le_mul_right _ hnc
  have hrun := run_storeCells_at P g (j * E.size + i) T s 0 cur w hh (by rw [hc]; omega) h1
  simp only [Nat.add_zero] at hrun
  obtain ⟨v, hv, hvr⟩ := hr.get (List.getElem?_eq_getElem (show j < l.length by omega))
  have hov : (cur.toList.take (j * E.size + i) ++ s ++ cur.toList.drop (j * E.size + i + s.length)) = overV cur.toList (j * E.size + i) s := by simp [overV]
  rw [hov] at hrun
  have hsplit : cur.toList = vs.flatten ++ cur.toList.drop (n * E.size) := by rw [← hx, List.take_append_drop]
  have hfl : vs.flatten.length = n * E.size := by rw [hr.flat (fun _ _ => E.len), hlen]
  have hnew : overV cur.toList (j * E.size + i) s = (vs.set j (overV v i s)).flatten ++ cur.toList.drop (n * E.size) := by
    rw [← over_flat vs hr.all j v i s hv hi, ← overV_append _ _ _ _ (by rw [hfl]; omega), ← hsplit]
  have hnl : (overV cur.toList (j * E.size + i) s).length = c * E.size := by rw [overV_length _ _ _ (by simp [hc]; omega)]; simpa using hc
  refine ⟨g, _, rfl, hg, hgl, hrun, ?_, grown_setRow w g _, sz_setRow _ _ _⟩
  have hset := hr.set (hrel g v rfl (fun y hy => by
    rw [List.getElem?_eq_getElem (show j < l.length by omega)] at hy
    cases hy
    exact hvr)) j
  have hfl2 : (vs.set j (overV v i s)).flatten.length = n * E.size := by rw [hset.flat (fun _ _ => E.len), List.length_set, hlen]
  exact OwnE.mk' hg (setRow_heap w g _ _ T _ hh) hnc hm hnl (by rw [hnew, List.take_left' hfl2]) (hset.imp fun _ _ hq => by rw [sz_setRow]; exact E.sub (hide_setRow _ _ _ _) hq) (by simpa using hlen)
/-- made -/
theorem own_made {P : Program} (t : TypeId) (i : TypeInfo) (z : Value) (zs : List Value) (x : α) (ht : P.underlying t = some (.slice T)) (hi : P.info? T = some i) (hz : i.zero = some z) (hs : i.size = E.size) (hzs : z.cells = zs.toArray) (hrel : ∀ w B, E.rel w B zs x)
    (n : Nat) (hbytes : i.bytes * n ≤ 281474976710656) (h63 : n ≤ 100000) (w : World) : ∃ w1, (Instr.makeSlice t (.int .i64 (n : Int)) (.int .i64 (n : Int))).run P w = .ok (.slice (some ⟨w.heap.size, 0, none⟩) n n) w1 ∧ OwnE E T w1 w.heap.size (some ⟨w.heap.size, 0, none⟩) n n (List.replicate n x) ∧ Below w.heap.size w w1 ∧ w1.heap.size = w.heap.size + 1 := by
  have hb' : (i.bytes : Int) * (n : Int) ≤ 281474976710656 := by
    have h : ((i.bytes * n : Nat) : Int) ≤ 281474976710656 := by omega
    rwa [Int.natCast_mul] at h
  have hr := run_make (P := P) w t T i z ht hi hz .i64 .i64 n n (by omega) (Int.le_refl _) hb' (by omega)
  simp only [Int.toNat_natCast] at hr
  refine ⟨_, hr, ?_, balloc (bsame w) _, by simp⟩
  have hzl : zs.length = E.size := E.len (hrel w 0)
  have hcells : (madeCells z.cells (n * i.size)).toList = (List.replicate n zs).flatten := by
    rw [hs, hzs]
    refine List.ext_getElem? fun k => ?_
    have hsz : 0 < E.size := E.pos
    by_cases hk : k < n * E.size
    · have hq : k / E.size < n := Nat.div_lt_of_lt_mul (by have := Nat.mul_comm n E.size; omega)
      have hrm : k % E.size < zs.length := by rw [hzl]; exact Nat.mod_lt _ hsz
      have h1 := flat_at (size := E.size) (List.replicate n zs) (fun v hv => by rw [(List.mem_replicate.1 hv).2]; exact hzl) (k / E.size) zs (k % E.size) zs[k % E.size] (by simp [hq]) (List.getElem?_eq_getElem hrm)
      rw [show k / E.size * E.size + k % E.size = k from Nat.div_add_mod' k E.size] at h1
      rw [h1]
      simp only [madeCells, Array.toList_map, Array.toList_range, List.getElem?_map, List.getElem?_range hk, Option.map_some, Option.some.injEq]
      have : zs.toArray.size = E.size := by simpa using hzl
      rw [this, getElem!_pos zs.toArray (k % E.size) (by simpa using hrm)]
      simp
    · rw [List.getElem?_eq_none (by simp [madeCells]; omega), List.getElem?_eq_none]
      simp [hzl]; omega
  have hrl : Rel2 (E.rel (hide (w.alloc (.cells (madeCells z.cells (n * i.size)) T)) w.heap.size) (w.alloc (.cells (madeCells z.cells (n * i.size)) T)).heap.size) (List.replicate n zs) (List.replicate n x) := by
    clear hr hcells hb' hbytes h63
    generalize hide (w.alloc (.cells (madeCells z.cells (n * i.size)) T)) w.heap.size = u
    generalize (w.alloc (.cells (madeCells z.cells (n * i.size)) T)).heap.size = B
    induction n with
    | zero => trivial
    | succ n ih => exact ⟨hrel _ _, ih⟩
  exact OwnE.mk' (cur := (List.replicate n zs).flatten) (Nat.le_refl _) (by rw [← hcells]; simpa using heap_alloc_new w (.cells (madeCells z.cells (n * i.size)) T)) (Nat.le_refl _) (by unfold maxLen; omega) (by simp [hzl]) (by rw [List.take_of_length_le (by simp [hzl])]) hrl (by simp)
end
end Go.Proofs.Ytldgdgfplgdipaa
