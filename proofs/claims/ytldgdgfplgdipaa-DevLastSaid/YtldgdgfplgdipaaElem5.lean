/-
  Rows of structs of the call's own: an element put in where there is room. No program in sight.
-/
import Derived.Test.YtldgdgfplgdipaaElem4
import Derived.Test.YtldgdgfplgdipaaStr
import Derived.Lib.Overlaps
namespace Go.Proofs.Ytldgdgfplgdipaa
open Go.RowKit
set_option linter.unusedVariables false
section
variable {α : Type} {E : El α} {T : TypeId} {w : World} {base n c : Nat} {A : Option Addr} {l : List α}
theorem OwnE.insRoom {P : Program} (t ti : TypeId) (i : TypeInfo) (ht : P.underlying t = some (.slice T)) (hi : P.info? T = some i) (hs : i.size = E.size)
    (h : OwnE E T w base A n c l) (k : Nat) (hk : k < n) (hc : n < c) {b o cv : Nat} {x : α} (hv : ElemsIn E (hid A w) w w.heap.size (some ⟨b, o, none⟩) 1 cv [x]) (hne : ∀ a, A = some a → b ≠ a.block) :
    ∃ g wA wB, A = some ⟨g, 0, none⟩ ∧ base ≤ g ∧ g < w.heap.size ∧
      (cpSem #[t, t] ti #[.slice (cutA (cutA A 0 c E.size) (k + 1) c E.size) (n + 1 - (k + 1)) (c - (k + 1)), .slice (cutA (cutA A 0 c E.size) k c E.size) (n + 1 - k) (c - k)]).run P w.drew = .ok (.int .i64 ((n - k : Nat) : Int)) wA ∧
      (cpSem #[t, t] ti #[.slice (cutA (cutA A 0 c E.size) k c E.size) (n + 1 - k) (c - k), .slice (some ⟨b, o, none⟩) 1 cv]).run P wA = .ok (.int .i64 1) wB ∧
      OwnE E T wB base A (n + 1) c (l.take k ++ x :: l.drop k) ∧ w.grownBy wB (some g) ∧ wB.heap.size = w.heap.size ∧ (∃ cells, w.heap[g]? = some (.cells cells T (0, 0)) ∧ cells.size = c * E.size) := by
  have hlen := h.len
  obtain ⟨g, cur, vs, rfl, hg, hh, hnc, hm, hcs, hx, hr, hvl⟩ := h.row (by omega)
  have hgl := (Array.getElem?_eq_some_iff.1 hh).1
  have hall := hr.all
  have hsz : 0 < E.size := E.pos
  have hbg : b ≠ g := hne _ rfl
  obtain ⟨vv, hrv, hlv, -, -, hxv⟩ := hv
  obtain ⟨b', o', e, hbl, hcv⟩ := hxv (by omega)
  cases e
  have hvv : vv.flatten.length = E.size := by rw [hrv.flat (fun _ _ => E.len)]; simp
  have hTl : (vs.take k).flatten.length = k * E.size := by rw [(hr.take k).flat (fun _ _ => E.len), List.length_take, hlen, Nat.min_eq_left (by omega)]
  have hDl : (vs.drop k).flatten.length = (n - k) * E.size := by rw [(hr.drop k).flat (fun _ _ => E.len)]; simp [hlen]
  have hfl : vs.flatten = (vs.take k).flatten ++ (vs.drop k).flatten := by rw [← List.flatten_append, List.take_append_drop]
  have hcl : cur.toList.length = c * E.size := by simpa using hcs
  have hm1 : c * E.size = n * E.size + (E.size + (c - (n + 1)) * E.size) := by
    rw [show c = n + (1 + (c - (n + 1))) by omega, Nat.add_mul, Nat.add_mul, Nat.one_mul]
    congr 3; omega
  obtain ⟨z1, z2, hz, hz1, hz2⟩ : ∃ z1 z2 : List Value, cur.toList.drop (n * E.size) = z1 ++ z2 ∧ z1.length = E.size ∧ z2.length = (c - (n + 1)) * E.size :=
    ⟨(cur.toList.drop (n * E.size)).take E.size, (cur.toList.drop (n * E.size)).drop E.size, (List.take_append_drop _ _).symm, by simp only [List.length_take, List.length_drop]; omega, by simp only [List.length_drop]; omega⟩
  have hcur : cur.toList = (vs.take k).flatten ++ ((vs.drop k).flatten ++ (z1 ++ z2)) := by
    rw [← List.append_assoc, ← hfl, ← hx, ← hz, List.take_append_drop]
  have hpart : ((vs.drop k).flatten ++ z1).length = E.size + (n - k) * E.size := by rw [List.length_append, hDl, hz1]; omega
  obtain ⟨m1, m2, hmm, hm1l, hm2l⟩ : ∃ m1 m2 : List Value, (vs.drop k).flatten ++ z1 = m1 ++ m2 ∧ m1.length = E.size ∧ m2.length = (n - k) * E.size :=
    ⟨((vs.drop k).flatten ++ z1).take E.size, ((vs.drop k).flatten ++ z1).drop E.size, (List.take_append_drop _ _).symm, by rw [List.length_take, hpart]; omega, by rw [List.length_drop, hpart]; omega⟩
  have hcur2 : cur.toList = (vs.take k).flatten ++ (m1 ++ (m2 ++ z2)) := by
    rw [hcur, ← List.append_assoc (vs.drop k).flatten, hmm, List.append_assoc]
  -- the first copy
  have hk1 : cutA (cutA (some ⟨g, 0, none⟩) 0 c E.size) (k + 1) c E.size = some ⟨g, (k + 1) * E.size, none⟩ := by rw [cutA_zero, cutA_pos (by omega), Nat.zero_add]
  have hk0 : cutA (cutA (some ⟨g, 0, none⟩) 0 c E.size) k c E.size = some ⟨g, k * E.size, none⟩ := by rw [cutA_zero, cutA_pos (by omega), Nat.zero_add]
  have hmin1 : Nat.min (n + 1 - k) (n + 1 - (k + 1)) = n - k := by
    show min _ _ = _
    omega
  have hks : (k + 1) * E.size = k * E.size + E.size := by rw [Nat.add_mul, Nat.one_mul]
  have hnk : k * E.size + (n - k) * E.size = n * E.size := by rw [← Nat.add_mul]; congr 1; omega
  have hcp1 := run_copy_k (P := P) (w := w.drew) t t ti T E.size ht (by rw [hi]; simp [hs]) (g := g) (off := (k + 1) * E.size) (dLen := n + 1 - (k + 1)) (dCap := c - (k + 1)) (cur := cur) (t := T) hh (a := ⟨g, k * E.size, none⟩) (sLen := n + 1 - k) (sCap := c - k) (cs := (vs.drop k).flatten) (by rw [hmin1]; exact hDl)
    (by
      intro j u hu
      rw [add_none]
      show w.cell? _ = _
      have hj := (List.getElem?_eq_some_iff.1 hu).1
      simp only [World.cell?, hh]
      have : cur.toList[k * E.size + j]? = some u := by
        rw [hcur, List.getElem?_append_right (by rw [hTl]; omega), hTl, Nat.add_sub_cancel_left, List.getElem?_append_left hj]
        exact hu
      simpa using this)
    (by rw [hDl, hcs]; omega) (fun u hu => Rel2.one (hr.drop k) u hu)
  rw [hmin1] at hcp1
  have e1 : overV cur.toList ((k + 1) * E.size) (vs.drop k).flatten = (vs.take k).flatten ++ (m1 ++ ((vs.drop k).flatten ++ z2)) := by
    have := over_mid ((vs.take k).flatten ++ m1) m2 z2 (vs.drop k).flatten (by rw [hm2l, hDl])
    rw [List.length_append, hTl, hm1l, ← hks] at this
    rw [hcur2, ← List.append_assoc, this, List.append_assoc]
  rw [e1] at hcp1
  have hB := setRow_heap w.drew g cur ((vs.take k).flatten ++ (m1 ++ ((vs.drop k).flatten ++ z2))).toArray T _ hh
  have hcp2 := run_copy_k (P := P) (w := w.drew.setRow g ((vs.take k).flatten ++ (m1 ++ ((vs.drop k).flatten ++ z2))).toArray) t t ti T E.size ht (by rw [hi]; simp [hs]) (g := g) (off := k * E.size) (dLen := n + 1 - k) (dCap := c - k) hB (a := ⟨b, o, none⟩) (sLen := 1) (sCap := cv) (cs := vv.flatten) (by rw [hvv, show Nat.min 1 (n + 1 - k) = 1 from Nat.min_eq_left (by omega), Nat.one_mul])
    (by
      intro j u hu
      rw [add_none]
      exact (World.cell?_of_block (a := ⟨b, o + j, none⟩) (setRow_other w.drew g b _ hbg)).trans (hcv j u hu))
    (by simp only [List.size_toArray, List.length_append, hTl, hm1l, hvv]; omega) (Rel2.one hrv)
  rw [show Nat.min 1 (n + 1 - k) = 1 from Nat.min_eq_left (by omega)] at hcp2
  have e2 : overV ((vs.take k).flatten ++ (m1 ++ ((vs.drop k).flatten ++ z2))) (k * E.size) vv.flatten = (vs.take k).flatten ++ (vv.flatten ++ ((vs.drop k).flatten ++ z2)) := by
    have := over_mid (vs.take k).flatten m1 ((vs.drop k).flatten ++ z2) vv.flatten (by rw [hm1l, hvv])
    rw [hTl] at this
    exact this
  rw [show (((vs.take k).flatten ++ (m1 ++ ((vs.drop k).flatten ++ z2))).toArray).toList = (vs.take k).flatten ++ (m1 ++ ((vs.drop k).flatten ++ z2)) from by simp, e2] at hcp2
  have hC := setRow_heap (w.drew.setRow g ((vs.take k).flatten ++ (m1 ++ ((vs.drop k).flatten ++ z2))).toArray) g _ ((vs.take k).flatten ++ (vv.flatten ++ ((vs.drop k).flatten ++ z2))).toArray T _ hB
  have hzz : ((w.drew.setRow g ((vs.take k).flatten ++ (m1 ++ ((vs.drop k).flatten ++ z2))).toArray).setRow g ((vs.take k).flatten ++ (vv.flatten ++ ((vs.drop k).flatten ++ z2))).toArray).heap.size = w.heap.size := (sz_setRow _ _ _).trans (sz_setRow _ _ _)
  refine ⟨g, _, _, rfl, hg, hgl, by rw [hk1, hk0]; exact hcp1, by rw [hk0]; exact hcp2, ?_, ?_, hzz, ⟨cur, hh, hcs⟩⟩
  · have hsub : Sub w.heap.size (hide w g) (hide ((w.drew.setRow g ((vs.take k).flatten ++ (m1 ++ ((vs.drop k).flatten ++ z2))).toArray).setRow g ((vs.take k).flatten ++ (vv.flatten ++ ((vs.drop k).flatten ++ z2))).toArray) g) :=
      hide_sub_of fun q _ hq => (setRow_other _ g q _ hq).trans (setRow_other _ g q _ hq)
    have hrel : Rel2 (E.rel (hide w g) w.heap.size) (vs.take k ++ (vv ++ vs.drop k)) (l.take k ++ ([x] ++ l.drop k)) := Rel2.append (Rel2.append (hr.drop k) hrv) (hr.take k)
    have hfl2 : (vs.take k ++ (vv ++ vs.drop k)).flatten = (vs.take k).flatten ++ (vv.flatten ++ (vs.drop k).flatten) := by simp
    refine OwnE.mk' (vs := vs.take k ++ (vv ++ vs.drop k)) hg hC (by omega) hm ?_ ?_ (hrel.imp fun _ _ hq => by rw [hzz]; exact E.sub hsub hq) (by simp [hlen]; omega)
    · simp only [List.length_append, hTl, hvv, hDl, hz2]
      omega
    · have hn1 : (n + 1) * E.size = n * E.size + E.size := by rw [Nat.add_mul, Nat.one_mul]
      rw [hfl2, ← List.append_assoc vv.flatten, ← List.append_assoc, List.take_left']
      simp only [List.length_append, hTl, hvv, hDl]
      omega
  · exact ((⟨rfl, rfl, rfl, Nat.le_refl _, fun _ _ _ => rfl⟩ : w.grownBy w.drew (some g)).trans (grown_setRow _ g _)).trans (grown_setRow _ g _)
end
end Go.Proofs.Ytldgdgfplgdipaa
