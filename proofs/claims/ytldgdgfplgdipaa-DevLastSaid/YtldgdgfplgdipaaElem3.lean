/-
  Rows of structs of the call's own: an element taken out. No program in sight.
-/
import Derived.Test.YtldgdgfplgdipaaElem2
namespace Go.Proofs.Ytldgdgfplgdipaa
open Go.RowKit
set_option linter.unusedVariables false
theorem cutA_zero (b o c s : Nat) : cutA (some ⟨b, o, none⟩) 0 c s = some ⟨b, o, none⟩ := by
  unfold cutA
  split
  · rfl
  · simp [add_none]
theorem cutA_pos {b o k c s : Nat} (h : c ≠ k) : cutA (some ⟨b, o, none⟩) k c s = some ⟨b, o + k * s, none⟩ := by
  unfold cutA
  rw [if_neg h]
  simp [add_none]
theorem cutA_some (b o k c s : Nat) : ∃ o', cutA (some ⟨b, o, none⟩) k c s = some ⟨b, o', none⟩ := by
  by_cases h : c = k
  · exact ⟨o, by unfold cutA; rw [if_pos h]⟩
  · exact ⟨_, cutA_pos h⟩
def clSem (ts : Array TypeId) (ty : TypeId) (args : Array Value) : Sem Value := Builtin.clear_ ts ty args
theorem cl_fold (ts : Array TypeId) (ty : TypeId) (args : Array Value) : Builtin.clear_ ts ty args = clSem ts ty args := rfl
section
variable {α : Type} {E : El α} {T : TypeId} {w w' : World} {base n c : Nat} {A : Option Addr} {l : List α}
theorem OwnE.del {P : Program} (t ty : TypeId) (i : TypeInfo) (ht : P.underlying t = some (.slice T)) (hi : P.info? T = some i) (hs : i.size = E.size) (h : OwnE E T w base A n c l) (k : Nat) (hk : k < n) :
    ∃ g w1, A = some ⟨g, 0, none⟩ ∧ base ≤ g ∧ g < w.heap.size ∧ (appSem #[t, t] ty #[.slice (cutA A 0 c E.size) k c, .slice (cutA A (k + 1) c E.size) (n - (k + 1)) (c - (k + 1))]).run P w = .ok (.slice A (n - 1) c) w1 ∧ OwnE E T w1 base A (n - 1) c (l.eraseIdx k) ∧ w.grownBy w1 (some g) ∧ w1.heap.size = w.heap.size := by
  have hlen := h.len
  have hcap := h.elemsIn.cap
  obtain ⟨g, cur, vs, rfl, hg, hh, hnc, hm, hc, hx, hr, hvl⟩ := h.row (by omega)
  have hgl := (Array.getElem?_eq_some_iff.1 hh).1
  have hsz : 0 < E.size := E.pos
  have hall := hr.all
  have hnl : (vs.drop (k + 1)).flatten.length = (n - (k + 1)) * E.size := by rw [(hr.drop (k + 1)).flat (fun _ _ => E.len)]; simp [hlen]
  have hmul : k * E.size + (n - (k + 1)) * E.size = (n - 1) * E.size := by rw [← Nat.add_mul]; congr 1; omega
  have hle1 : (n - 1) * E.size ≤ c * E.size := Nat.mul_le_mul_right _ (by omega)
  have hkn : k * E.size ≤ n * E.size := Nat.mul_le_mul_right _ (by omega)
  obtain ⟨o', ho'⟩ := cutA_some g 0 (k + 1) c E.size
  have hsrc : ∀ j u, (vs.drop (k + 1)).flatten[j]? = some u → w.cell? ((⟨g, o', none⟩ : Addr).add j) = some u := by
    intro j u hu
    have hpos : 0 < (n - (k + 1)) * E.size := by rw [← hnl]; exact Nat.lt_of_le_of_lt (Nat.zero_le _) (List.getElem?_eq_some_iff.1 hu).1
    have hne : c ≠ k + 1 := by
      rintro rfl
      have : n - (k + 1) = 0 := by omega
      rw [this] at hpos; simp at hpos
    rw [cutA_pos hne] at ho'
    injection ho' with ho'
    injection ho' with _ ho' _
    rw [add_none, ← ho', Nat.zero_add]
    rw [flat_drop vs hall, List.getElem?_drop, ← hx, List.getElem?_take] at hu
    split at hu
    · simp only [World.cell?, hh]
      simpa using hu
    · cases hu
  have hrun := run_append_room (P := P) w t ty T i ht hi g k c cur hh ⟨g, o', none⟩ (n - (k + 1)) (c - (k + 1)) (vs.drop (k + 1)).flatten (by rw [hs]; exact hnl) hsrc (fun u hu => Rel2.one (hr.drop (k + 1)) u hu) (by omega) (by rw [hs, hnl, hmul, hc]; exact hle1)
  rw [hs, hnl, hmul, show k + (n - (k + 1)) = n - 1 by omega] at hrun
  refine ⟨g, _, rfl, hg, hgl, by rw [cutA_zero, ho']; exact hrun, ?_, grown_setRow w g _, sz_setRow _ _ _⟩
  have hrel : Rel2 (E.rel (hide w g) w.heap.size) (vs.eraseIdx k) (l.eraseIdx k) := by
    rw [List.eraseIdx_eq_take_drop_succ, List.eraseIdx_eq_take_drop_succ]
    exact Rel2.append (hr.drop (k + 1)) (hr.take k)
  have htk : (vs.take k).flatten = cur.toList.take (k * E.size) := by rw [flat_take vs hall, ← hx, List.take_take, Nat.min_eq_left hkn]
  have hcl : cur.toList.length = c * E.size := by simpa using hc
  refine OwnE.mk' (vs := vs.eraseIdx k) hg (setRow_heap w g _ _ T _ hh) (by omega) hm ?_ ?_ (hrel.imp fun _ _ hq => by rw [sz_setRow]; exact E.sub (hide_setRow _ _ _ _) hq) (by rw [List.length_eraseIdx_of_lt (by omega), hlen])
  · simp only [List.length_append, List.length_take, List.length_drop, hnl, hcl]
    omega
  · rw [List.eraseIdx_eq_take_drop_succ, List.flatten_append, htk, List.take_append_of_le_length (by simp only [List.length_append, List.length_take, hnl, hcl]; omega), List.take_of_length_le (by simp only [List.length_append, List.length_take, hnl, hcl]; omega)]
/-- cells behind the row's length are wiped -/
theorem OwnE.wipe {P : Program} (t ty : TypeId) (i : TypeInfo) (z : Value) (ht : P.underlying t = some (.slice T)) (hi : P.info? T = some i) (hz : i.zero = some z) (hzs : z.cells.size = E.size) (hz1 : ∀ v ∈ z.cells.toList, v.oneCell' = true) (h : OwnE E T w base A n c l) (hn : n < c) (q : Nat) (hq : q = 1) :
    ∃ g w1, A = some ⟨g, 0, none⟩ ∧ (clSem #[t] ty #[.slice (cutA A n c E.size) q (c - n)]).run P w = .ok (.tuple #[]) w1 ∧ OwnE E T w1 base A n c l ∧ w.grownBy w1 (some g) ∧ w1.heap.size = w.heap.size := by
  subst hq
  have hlen := h.len
  obtain ⟨g, cur, vs, rfl, hg, hh, hnc, hm, hc, hx, hr, hvl⟩ := h.row (by omega)
  have hsz : 0 < E.size := E.pos
  have hzc : (Builtin.zeroCells z.cells 1).toList.length = E.size := by simp [Builtin.zeroCells, hzs]
  have hzo : ∀ v ∈ (Builtin.zeroCells z.cells 1).toList, v.oneCell' = true := by
    intro v hv
    simp only [Builtin.zeroCells, Array.toList_map, List.mem_map, Array.mem_toList_iff] at hv
    obtain ⟨j, hj, rfl⟩ := hv
    have hj2 : j < 1 * z.cells.size := by simpa using hj
    rw [getElem!_pos z.cells (j % z.cells.size) (Nat.mod_lt _ (by omega))]
    exact hz1 _ (by rw [Array.mem_toList_iff]; exact Array.getElem_mem _)
  have hle : n * E.size + E.size ≤ c * E.size := by rw [← Nat.succ_mul]; exact Nat.mul_le_mul_right _ hn
  have hst := run_storeCells_at P g (n * E.size) T (Builtin.zeroCells z.cells 1).toList 0 cur w hh (by rw [hc, hzc]; omega) hzo
  simp only [Nat.add_zero] at hst
  refine ⟨g, _, rfl, ?_, ?_, grown_setRow w g (cur.toList.take (n * E.size) ++ (Builtin.zeroCells z.cells 1).toList ++ cur.toList.drop (n * E.size + (Builtin.zeroCells z.cells 1).toList.length)).toArray, sz_setRow _ _ _⟩
  · rw [cutA_pos (by omega), Nat.zero_add]
    simp [clSem, Builtin.clear_, run_underlying ht, zeroValue, typeInfo, hi, hz, hst]
  · have hcl : cur.toList.length = c * E.size := by simpa using hc
    refine OwnE.mk' (vs := vs) hg (setRow_heap w g _ _ T _ hh) hnc hm ?_ ?_ (hr.imp fun _ _ hq => by rw [sz_setRow]; exact E.sub (hide_setRow _ _ _ _) hq) hlen
    · simp only [List.length_append, List.length_take, List.length_drop, hzc, hcl]
      omega
    · rw [List.append_assoc, List.take_append_of_le_length (by simp only [List.length_take, hcl]; omega), List.take_take, Nat.min_self, hx]
end
end Go.Proofs.Ytldgdgfplgdipaa
