/-
  Parts of the proof of LocksSteps.
-/
import Derived.Test.YtkkfabnehhamdaaDoorLkS2
import Derived.Lib.Overlaps
import Derived.Lib.BufferWrite
section
namespace Go.Proofs.YtkkfabnehhamdaaDoor
open Go.RowKit
set_option linter.unusedVariables false
theorem cutA_zero (b o c s : Nat) : cutA (some ⟨b, o, none⟩) 0 c s = some ⟨b, o, none⟩ := by
  unfold cutA
  split
  · rfl
  · simp [add_none]
theorem cutA_pos {b o k c s : Nat} (h : c ≠ k) : cutA (some ⟨b, o, none⟩) k c s = some ⟨b, o + k * s, none⟩ := by
  unfold cutA
  rw [if_neg h]
  simp [add_none]
theorem cutA_some (b o k c s : Nat) : ∃ o', cutA (some ⟨b, o, none⟩) k c s = some ⟨b, o', none⟩ := by
  by_cases h : c = k
  · exact ⟨o, by unfold cutA; rw [if_pos h]⟩
  · exact ⟨_, cutA_pos h⟩
section
variable {α : Type} {E : El α} {T : TypeId} {w w' : World} {base n c : Nat} {A : Option Addr} {l : List α}
theorem OwnE.del {P : Program} (t ty : TypeId) (i : TypeInfo) (ht : P.underlying t = some (.slice T)) (hi : P.info? T = some i) (hs : i.size = E.size) (h : OwnE E T w base A n c l) (k : Nat) (hk : k < n) :
    ∃ g w1, A = some ⟨g, 0, none⟩ ∧ base ≤ g ∧ g < w.heap.size ∧ (appSem #[t, t] ty #[.slice (cutA A 0 c E.size) k c, .slice (cutA A (k + 1) c E.size) (n - (k + 1)) (c - (k + 1))]).run P w = .ok (.slice A (n - 1) c) w1 ∧ OwnE E T w1 base A (n - 1) c (l.eraseIdx k) ∧ w.grownBy w1 (some g) ∧ w1.heap.size = w.heap.size := by
  have hlen := h.len
  have hcap := h.elemsIn.cap
  obtain ⟨g, cur, vs, rfl, hg, hh, hnc, hm, hc, hx, hr, hvl⟩ := h.row (by omega)
  have hgl := (Array.getElem?_eq_some_iff.1 hh).1
  have hsz : 0 < E.size := E.pos
  have hall := hr.all
  have hnl : (vs.drop (k + 1)).flatten.length = (n - (k + 1)) * E.size := by rw [(hr.drop (k + 1)).flat (fun _ _ => E.len)]; simp [hlen]
  have hmul : k * E.size + (n - (k + 1)) * E.size = (n - 1) * E.size := by rw [← Nat.add_mul]; congr 1; omega
  have hle1 : (n - 1) * E.size ≤ c * E.size := Nat.mul_le_mul_right _ (by omega)
  have hkn : k * E.size ≤ n * E.size := Nat.mul_le_mul_right _ (by omega)
  obtain ⟨o', ho'⟩ := cutA_some g 0 (k + 1) c E.size
  have hsrc : ∀ j u, (vs.drop (k + 1)).flatten[j]? = some u → w.cell? ((⟨g, o', none⟩ : Addr).add j) = some u := by
    intro j u hu
    have hpos : 0 < (n - (k + 1)) * E.size := by rw [← hnl]; exact Nat.lt_of_le_of_lt (Nat.zero_le _) (List.getElem?_eq_some_iff.1 hu).1
    have hne : c ≠ k + 1 := by
      rintro rfl
      have : n - (k + 1) = 0 := by omega
      rw [this] at hpos; simp at hpos
    rw [cutA_pos hne] at ho'
    injection ho' with ho'
    injection ho' with _ ho' _
    rw [add_none, ← ho', Nat.zero_add]
    rw [flat_drop vs hall, List.getElem?_drop, ← hx, List.getElem?_take] at hu
    split at hu
    · simp only [World.cell?, hh]
      simpa using hu
    · cases hu
  have hrun := run_append_room (P := P) w t ty T i ht hi g k c cur hh ⟨g, o', none⟩ (n - (k + 1)) (c - (k + 1)) (vs.drop (k + 1)).flatten (by rw [hs]; exact hnl) hsrc (fun u hu => Rel2.one (hr.drop (k + 1)) u hu) (by omega) (by rw [hs, hnl, hmul, hc]; exact hle1)
  rw [hs, hnl, hmul, show k + (n - (k + 1)) = n - 1 by omega] at hrun
  refine ⟨g, _, rfl, hg, hgl, by rw [cutA_zero, ho']; exact hrun, ?_, grown_setRow w g _, sz_setRow _ _ _⟩
  have hrel : Rel2 (E.rel (hide w g) w.heap.size) (vs.eraseIdx k) (l.eraseIdx k) := by
    rw [List.eraseIdx_eq_take_drop_succ, List.eraseIdx_eq_take_drop_succ]
    exact Rel2.append (hr.drop (k + 1)) (hr.take k)
  have htk : (vs.take k).flatten = cur.toList.take (k * E.size) := by rw [flat_take vs hall, ← hx, List.take_take, Nat.min_eq_left hkn]
  have hcl : cur.toList.length = c * E.size := by simpa using hc
  refine OwnE.mk' (vs := vs.eraseIdx k) hg (setRow_heap w g _ _ T _ hh) (by omega) hm ?_ ?_ (hrel.imp fun _ _ hq => by rw [sz_setRow]; exact E.sub (hide_setRow _ _ _ _) hq) (by rw [List.length_eraseIdx_of_lt (by omega), hlen])
  · simp only [List.length_append, List.length_take, List.length_drop, hnl, hcl]
    omega
  · rw [List.eraseIdx_eq_take_drop_succ, List.flatten_append, htk, List.take_append_of_le_length (by simp only [List.length_append, List.length_take, hnl, hcl]; omega), List.take_of_length_le (by simp only [List.length_append, List.length_take, hnl, hcl]; omega)]
end
end Go.Proofs.YtkkfabnehhamdaaDoor
end
section
namespace Go.Proofs.YtkkfabnehhamdaaDoor
open Go.RowKit
set_option linter.unusedVariables false
theorem run_copy_k {P : Program} {w : World} (dT sT ty elem : TypeId) (size : Nat) (hu : P.underlying dT = some (.slice elem)) (hsz : (P.info? elem).map (·.size) = some size)
    {g off dLen dCap : Nat} {cur : Array Value} {t : TypeId} (hg : w.heap[g]? = some (.cells cur t (0, 0))) {a : Addr} {sLen sCap : Nat} {cs : List Value} (hn : cs.length = Nat.min sLen dLen * size)
    (hsrc : ∀ j v, cs[j]? = some v → w.cell? (a.add j) = some v) (hfit : off + cs.length ≤ cur.size) (h1 : ∀ v ∈ cs, v.oneCell' = true) :
    (cpSem #[dT, sT] ty #[.slice (some ⟨g, off, none⟩) dLen dCap, .slice (some a) sLen sCap]).run P w = .ok (.int .i64 (Nat.min sLen dLen : Nat)) (w.setRow g (overV cur.toList off cs).toArray) := by
  have hl := run_loadCells_list (P := P) w a cs hsrc
  have hst := run_storeCells_at P g off t cs 0 cur w hg (by simpa using hfit) h1
  simp only [Nat.add_zero] at hst
  have hov : cur.toList.take off ++ cs ++ cur.toList.drop (off + cs.length) = overV cur.toList off cs := by simp [overV]
  rw [hov] at hst
  cases hq : P.info? elem with
  | none => simp [hq] at hsz
  | some i =>
    have hi : i.size = size := by simpa [hq] using hsz
    simp [cpSem, Builtin.copy_, run_underlying hu, Builtin.lenOf, Builtin.firstCells, sizeOf, typeInfo, hq, hi, ← hn, hl, hst, goInt]
theorem over_mid (p m q s : List Value) (h : m.length = s.length) : overV (p ++ (m ++ q)) p.length s = p ++ (s ++ q) := by
  have := overV_shift p (m ++ q) s 0
  rw [Nat.add_zero] at this
  rw [this]
  unfold overV
  rw [List.take_zero, List.nil_append, Nat.zero_add, ← h, List.drop_left]
section
variable {α : Type} {E : El α} {T : TypeId} {w : World} {base n c : Nat} {A : Option Addr} {l : List α}
theorem OwnE.ins {P : Program} (t tn ty ti : TypeId) (i : TypeInfo) (z : Value) (bytes : Nat) (ht : P.underlying t = some (.slice T)) (htn : P.underlying tn = some (.int .i64)) (hi : P.info? T = some i) (hz : i.zero = some z) (hs : i.size = E.size) (hby : i.bytes = bytes) (hzs : z.cells.size = E.size)
    (h : OwnE E T w base A n c l) (k : Nat) (hk : k < n) (hc : c = n) (hn : n ≤ 100000) (hb8 : bytes ≤ 1000) {b o cv : Nat} {x : α} (hv : ElemsIn E (hid A w) w w.heap.size (some ⟨b, o, none⟩) 1 cv [x]) :
    ∃ cap wA wB wC, n + 1 ≤ cap ∧ cap ≤ maxLen ∧ (appSem #[t, tn] ty #[.slice (cutA A 0 c E.size) k c, .int .i64 ((n + 1 - k : Nat) : Int)]).run P w = .ok (.slice (some ⟨w.heap.size, 0, none⟩) (n + 1) cap) wA ∧
      (cpSem #[t, t] ti #[.slice (cutA (some ⟨w.heap.size, 0, none⟩) k cap E.size) (n + 1 - k) (cap - k), .slice (some ⟨b, o, none⟩) 1 cv]).run P wA = .ok (.int .i64 1) wB ∧
      (cpSem #[t, t] ti #[.slice (cutA (some ⟨w.heap.size, 0, none⟩) (k + 1) cap E.size) (n - k) (cap - (k + 1)), .slice (cutA A k c E.size) (n - k) (c - k)]).run P wB.drew = .ok (.int .i64 ((n - k : Nat) : Int)) wC ∧
      OwnE E T wC w.heap.size (some ⟨w.heap.size, 0, none⟩) (n + 1) cap (l.take k ++ x :: l.drop k) ∧ Below w.heap.size w wC ∧ wC.heap.size = w.heap.size + 1 := by
  subst hc
  have hlen := h.len
  obtain ⟨g, cur, vs, rfl, hg, hh, hnc, hm, hcs, hx, hr, hvl⟩ := h.row (by omega)
  have hgl := (Array.getElem?_eq_some_iff.1 hh).1
  have hall := hr.all
  have hsz : 0 < E.size := E.pos
  obtain ⟨vv, hrv, hlv, -, -, hxv⟩ := hv
  obtain ⟨b', o', e, hbl, hcv⟩ := hxv (by omega)
  cases e
  have hvv : vv.flatten.length = E.size := by rw [hrv.flat (fun _ _ => E.len)]; simp
  have hcell : ∀ m j u, (vs.drop m).flatten[j]? = some u → w.cell? ⟨g, m * E.size + j, none⟩ = some u := by
    intro m j u hu
    rw [flat_drop vs hall, List.getElem?_drop, ← hx, List.getElem?_take] at hu
    split at hu
    · simp only [World.cell?, hh]
      simpa using hu
    · cases hu
  have hol : (vs.take k).flatten.length = k * E.size := by rw [(hr.take k).flat (fun _ _ => E.len), List.length_take, hlen, Nat.min_eq_left (by omega)]
  have hdl : (vs.drop k).flatten.length = (c - k) * E.size := by rw [(hr.drop k).flat (fun _ _ => E.len)]; simp [hlen]
  have hold := run_firstCells_some (P := P) w.drew i.size k ⟨g, 0, none⟩ k c (vs.take k).flatten (by rw [hs]; exact hol) (by
    intro j u hu
    rw [add_none, Nat.zero_add]
    show w.cell? _ = _
    have := hcell 0 j u (by
      rw [List.drop_zero]
      rw [flat_take vs hall, List.getElem?_take] at hu
      split at hu
      · exact hu
      · cases hu)
    rwa [Nat.zero_mul, Nat.zero_add] at this)
  have happ := Lib.run_append_grow_zeros (P := P) w t tn ty T i z .i64 .i64 ht htn hi hz (some ⟨g, 0, none⟩) k c (vs.take k).flatten hold (c + 1 - k) (by omega) (by omega) (by omega) (by omega) (by rw [hby]; exact Nat.le_trans (Nat.mul_le_mul (show c + 1 - k ≤ 100001 by omega) hb8) (by decide)) (growslice_fits (by omega) (by rw [hby]; exact Nat.le_trans (Nat.mul_le_mul (show k + (c + 1 - k) ≤ 100001 by omega) hb8) (by decide)))
  rw [show k + (c + 1 - k) = c + 1 by omega] at happ
  have hge := grownCap_ge w (c + 1) c T
  have hle := grownCap_le_maxLen w (c + 1) c T (by unfold maxLen; omega)
  generalize grownCap w (c + 1) c T = cap at happ hge hle
  generalize hZ : Builtin.zeroCells z.cells (c + 1 - k) ++ Builtin.zeroCells z.cells (cap - (c + 1)) = Z at happ
  rw [Array.append_assoc, hZ] at happ
  have hZl : Z.toList.length = (cap - k) * E.size := by
    rw [← hZ]
    simp only [Array.toList_append, List.length_append, Array.length_toList, size_zeroCells, hzs]
    rw [← Nat.add_mul]; congr 1; omega
  obtain ⟨zl, hzl⟩ : ∃ zl, Z.toList = zl := ⟨_, rfl⟩
  rw [hzl] at hZl
  have hrow : (vs.take k).flatten.toArray ++ Z = ((vs.take k).flatten ++ zl).toArray := by rw [← hzl]; simp
  rw [hrow] at happ
  clear hrow hZ hzl
  -- the second part of the new row
  have hm1 : (cap - k) * E.size = E.size + ((c - k) * E.size + (cap - (c + 1)) * E.size) := by
    rw [show cap - k = 1 + ((c - k) + (cap - (c + 1))) by omega, Nat.add_mul, Nat.add_mul, Nat.one_mul]
  obtain ⟨z1, z2, z3, rfl, hz1, hz2, hz3⟩ : ∃ z1 z2 z3 : List Value, zl = z1 ++ (z2 ++ z3) ∧ z1.length = E.size ∧ z2.length = (c - k) * E.size ∧ z3.length = (cap - (c + 1)) * E.size :=
    ⟨zl.take E.size, (zl.drop E.size).take ((c - k) * E.size), (zl.drop E.size).drop ((c - k) * E.size), by rw [List.take_append_drop, List.take_append_drop], by simp; omega, by simp; omega, by simp; omega⟩
  have hkc : k * E.size + (cap - k) * E.size = cap * E.size := by rw [← Nat.add_mul]; congr 1; omega
  have hA : (w.drew.alloc (.cells ((vs.take k).flatten ++ (z1 ++ (z2 ++ z3))).toArray T)).heap[w.heap.size]? = some (.cells ((vs.take k).flatten ++ (z1 ++ (z2 ++ z3))).toArray T (0, 0)) := heap_alloc_new w.drew _
  generalize hwA : w.drew.alloc (.cells ((vs.take k).flatten ++ (z1 ++ (z2 ++ z3))).toArray T) = wA at happ hA
  have hbA : Below w.heap.size w wA := by rw [← hwA]; exact ((bsame w).drew).alloc (by simp) _
  have hzA : wA.heap.size = w.heap.size + 1 := by rw [← hwA]; simp
  have hcpB := run_copy_k (P := P) (w := wA) t t ti T E.size ht (by rw [hi]; simp [hs]) (g := w.heap.size) (off := k * E.size) (dLen := c + 1 - k) (dCap := cap - k) hA (a := ⟨b, o, none⟩) (sLen := 1) (sCap := cv) (cs := vv.flatten) (by rw [hvv, show Nat.min 1 (c + 1 - k) = 1 from Nat.min_eq_left (by omega), Nat.one_mul])
    (by intro j u hu; rw [add_none]; exact (hbA.cell (p := ⟨b, o + j, none⟩) hbl).trans (hcv j u hu)) (by simp only [List.size_toArray, List.length_append, hol, hz1, hvv]; omega) (Rel2.one hrv)
  rw [show Nat.min 1 (c + 1 - k) = 1 from Nat.min_eq_left (by omega)] at hcpB
  have eB : overV ((vs.take k).flatten ++ (z1 ++ (z2 ++ z3))) (k * E.size) vv.flatten = ((vs.take k).flatten ++ vv.flatten) ++ (z2 ++ z3) := by
    have := over_mid (vs.take k).flatten z1 (z2 ++ z3) vv.flatten (by rw [hz1, hvv])
    rw [hol] at this
    rw [this, List.append_assoc]
  rw [show (((vs.take k).flatten ++ (z1 ++ (z2 ++ z3))).toArray).toList = (vs.take k).flatten ++ (z1 ++ (z2 ++ z3)) from by simp, eB] at hcpB
  have hB := setRow_heap wA w.heap.size _ (((vs.take k).flatten ++ vv.flatten) ++ (z2 ++ z3)).toArray T _ hA
  have hbB : Below w.heap.size w (wA.setRow w.heap.size (((vs.take k).flatten ++ vv.flatten) ++ (z2 ++ z3)).toArray) := below_setRow hbA (Nat.le_refl _) _
  have hzB : (wA.setRow w.heap.size (((vs.take k).flatten ++ vv.flatten) ++ (z2 ++ z3)).toArray).heap.size = w.heap.size + 1 := (sz_setRow _ _ _).trans hzA
  generalize wA.setRow w.heap.size (((vs.take k).flatten ++ vv.flatten) ++ (z2 ++ z3)).toArray = wB at hcpB hB hbB hzB
  have hlp : ((vs.take k).flatten ++ vv.flatten).length = (k + 1) * E.size := by rw [List.length_append, hol, hvv, Nat.add_mul, Nat.one_mul]
  have hcpC := run_copy_k (P := P) (w := wB.drew) t t ti T E.size ht (by rw [hi]; simp [hs]) (g := w.heap.size) (off := (k + 1) * E.size) (dLen := c - k) (dCap := cap - (k + 1)) (cur := (((vs.take k).flatten ++ vv.flatten) ++ (z2 ++ z3)).toArray) hB (a := ⟨g, k * E.size, none⟩) (sLen := c - k) (sCap := c - k) (cs := (vs.drop k).flatten) (by rw [hdl, show Nat.min (c - k) (c - k) = c - k from Nat.min_self _])
    (by intro j u hu; rw [add_none]; exact (hbB.cell (p := ⟨g, k * E.size + j, none⟩) hgl).trans (hcell k j u hu)) (by
      have : (k + 1) * E.size + (c - k) * E.size ≤ (k + 1) * E.size + ((c - k) * E.size + z3.length) := by omega
      simp only [List.size_toArray, List.length_append, hz2, hdl] at *
      omega) (Rel2.one (hr.drop k))
  rw [show Nat.min (c - k) (c - k) = c - k from Nat.min_self _] at hcpC
  have eC : overV (((vs.take k).flatten ++ vv.flatten) ++ (z2 ++ z3)) ((k + 1) * E.size) (vs.drop k).flatten = ((vs.take k).flatten ++ vv.flatten) ++ ((vs.drop k).flatten ++ z3) := by
    have := over_mid ((vs.take k).flatten ++ vv.flatten) z2 z3 (vs.drop k).flatten (by rw [hz2, hdl])
    rw [hlp] at this
    exact this
  rw [show ((((vs.take k).flatten ++ vv.flatten) ++ (z2 ++ z3)).toArray).toList = ((vs.take k).flatten ++ vv.flatten) ++ (z2 ++ z3) from by simp, eC] at hcpC
  refine ⟨cap, wA, wB, _, hge, hle, by rw [cutA_zero]; exact happ, by rw [cutA_pos (by omega), Nat.zero_add]; exact hcpB, by rw [cutA_pos (by omega), cutA_pos (by omega), Nat.zero_add, Nat.zero_add]; exact hcpC, ?_, below_setRow (hbB.drew) (Nat.le_refl _) _, by rw [sz_setRow]; exact hzB⟩
  have hsubC : Sub w.heap.size (hide w g) (hide (wB.drew.setRow w.heap.size (((vs.take k).flatten ++ vv.flatten) ++ ((vs.drop k).flatten ++ z3)).toArray) w.heap.size) :=
    (sub_hide _ w g).trans ((sub_below (below_setRow (hbB.drew) (Nat.le_refl _) _)).trans (sub_hide_lt _ (Nat.le_refl _)))
  have hup : w.heap.size ≤ (wB.drew.setRow w.heap.size (((vs.take k).flatten ++ vv.flatten) ++ ((vs.drop k).flatten ++ z3)).toArray).heap.size := by rw [sz_setRow]; show _ ≤ wB.heap.size; omega
  have hrl : Rel2 (E.rel (hide w g) w.heap.size) (vs.take k ++ (vv ++ vs.drop k)) (l.take k ++ x :: l.drop k) := Rel2.append (Rel2.append (hr.drop k) hrv) (hr.take k)
  have hcl : (c + 1) * E.size = (k + 1) * E.size + (c - k) * E.size := by rw [← Nat.add_mul]; congr 1; omega
  have hcap2 : cap * E.size = (c + 1) * E.size + (cap - (c + 1)) * E.size := by rw [← Nat.add_mul]; congr 1; omega
  refine OwnE.mk' (vs := vs.take k ++ (vv ++ vs.drop k)) (Nat.le_refl _) (setRow_heap wB.drew w.heap.size _ _ T _ hB) hge hle ?_ ?_ (hrl.imp fun _ _ hq => E.more hup (E.sub hsubC hq)) (by simp [hlen]; omega)
  · rw [List.length_append, hlp, List.length_append, hdl, hz3, hcap2, hcl]; omega
  · rw [← List.append_assoc, List.take_append_of_le_length (by rw [List.length_append, hlp, hdl, hcl]; exact Nat.le_refl _), List.take_of_length_le (by rw [List.length_append, hlp, hdl, hcl]; exact Nat.le_refl _)]
    simp [List.append_assoc]
end
end Go.Proofs.YtkkfabnehhamdaaDoor
end
section
namespace Go.Proofs.YtkkfabnehhamdaaDoor
open Go.RowKit
set_option linter.unusedVariables false
section
variable {α : Type} {E : El α} {T : TypeId} {w : World} {base n c : Nat} {A : Option Addr} {l : List α}
end
end Go.Proofs.YtkkfabnehhamdaaDoor
end
section
namespace Go.Proofs.YtkkfabnehhamdaaDoor
open Go.RowKit

/-- no byte among these -/
def notU8 (cs : Array Value) : Bool := cs.toList.all fun v => match v with | .int .u8 _ => false | _ => true
theorem grown_set {w w1 : World} {g : Nat} (h : w.grownBy w1 (some g)) (i : Nat) (v : Value) : w.grownBy (w1.setCell ⟨g, i, none⟩ v) (some g) := h.trans (Lib.grownBy_setCell w1 g i v)
theorem grown_refl (w : World) (g : Nat) : w.grownBy w (some g) := World.grownBy.refl w _
/-- bytes do not lie in a box without bytes -/
theorem Bytes.grown {w w1 : World} {B n c g : Nat} {A : Option Addr} {l : List UInt8} {cs : Array Value} (h : Bytes w B A n c l) (hB : B ≤ w.heap.size) (hs : Str w g cs) (hn : notU8 cs = true) (hg : w.grownBy w1 (some g)) : Bytes w1 B A n c l := by
  obtain ⟨h1, h2, h3, h4⟩ := h
  refine ⟨h1, h2, h3, fun hpos => ?_⟩
  obtain ⟨b, o, e, hb, hc⟩ := h4 hpos
  refine ⟨b, o, e, hb, fun j u hu => ?_⟩
  have hne : b ≠ g := by
    intro hbg
    subst hbg
    have h0 : l[0]? = some (l[0]'(by omega)) := List.getElem?_eq_getElem _
    have hx := hc 0 _ h0
    rw [hs.cell] at hx
    have hm : byteV (l[0]'(by omega)) ∈ cs.toList := by
      rw [Array.mem_toList_iff]
      exact Array.mem_of_getElem? hx
    have := List.all_eq_true.1 hn _ hm
    simp [byteV] at this
  have := hc j u hu
  rw [← this]
  exact World.cell?_of_block (a := ⟨b, o + j, none⟩) (hg.block b (by omega) (by intro e2; injection e2 with e2; exact hne e2))
end Go.Proofs.YtkkfabnehhamdaaDoor
end
section
namespace Go.Proofs.YtkkfabnehhamdaaDoor
open Go.RowKit
set_option linter.unusedVariables false
theorem own_grown {w w' : World} {base : Nat} {e : TypeId} {size n g : Nat} {A : Option Addr} {c : Nat} {xs : List Value} (h : w.ownsRow base e size (.slice A n c) n xs) (hg : w.grownBy w' (some g)) (hne : ∀ a, A = some a → a.block ≠ g) : w'.ownsRow base e size (.slice A n c) n xs := by
  obtain ⟨h1, h2⟩ := h
  refine ⟨h1, ?_⟩
  rcases h2 with h2 | ⟨g', cap, cur, hv, hb, hh, r⟩
  · exact .inl h2
  · cases hv
    exact .inr ⟨g', c, cur, rfl, hb, (hg.block g' (Array.getElem?_eq_some_iff.1 hh).1 (by intro e2; injection e2 with e2; exact hne _ rfl e2)).trans hh, r⟩
section
variable {α : Type} {E : El α} {T : TypeId} {w w' : World} {base n c g : Nat} {A : Option Addr} {l : List α} {cs : Array Value}
end
theorem Str.grownO {w w' : World} {b : Nat} {cs : Array Value} {ob : Option Nat} (h : Str w b cs) (hg : w.grownBy w' ob) (hne : ob ≠ some b) : Str w' b cs := by
  have hl := h.lt
  obtain ⟨t, h⟩ := h
  exact ⟨t, (hg.block b hl (fun e => hne e.symm)).trans h⟩
theorem grown_below {w w' : World} (h : Below w.heap.size w w') (ob : Option Nat) : w.grownBy w' ob := ⟨h.os, h.tape, h.output, h.size, fun k hk _ => h.block k hk⟩
theorem below_grownO {base : Nat} {w a b : World} {ob : Option Nat} (h : Below base w a) (hg : a.grownBy b ob) (hb : base ≤ a.heap.size) (hge : ∀ k, ob = some k → base ≤ k) : Below base w b := h.grown hg hb hge
end Go.Proofs.YtkkfabnehhamdaaDoor
end
section
namespace Go.Proofs.YtkkfabnehhamdaaDoor
open Go.RowKit
set_option linter.unusedVariables false
set_option linter.unusedSimpArgs false
/-- a number in a slice -/
def IntE : El Int where
  size := 1
  pos := by decide
  rel w B vs x := vs = [.int .i64 x]
  len := by rintro w B vs p rfl; rfl
  one := by rintro w B vs p rfl v hv; simp only [List.mem_singleton] at hv; subst hv; rfl
  sub := by rintro w w' B vs p hs h; exact h
  more := by rintro w B B' vs p hB h; exact h
theorem intE_flat {w : World} {B : Nat} : ∀ {vs : List (List Value)} {l : List Int}, Rel2 (IntE.rel w B) vs l → vs.flatten = l.map (Value.int .i64)
  | [], [], _ => rfl
  | [], _ :: _, h => h.elim
  | _ :: _, [], h => h.elim
  | v :: vs, x :: l, h => by
    have h1 : v = [.int .i64 x] := h.1
    rw [List.flatten_cons, h1, intE_flat h.2]
    rfl
theorem intE_rel (w : World) (B : Nat) : ∀ l : List Int, Rel2 (IntE.rel w B) (l.map fun x => [.int .i64 x]) l
  | [] => trivial
  | x :: l => ⟨rfl, intE_rel w B l⟩
theorem intE_map (l : List Int) : (l.map fun x => [Value.int .i64 x]).flatten = l.map (Value.int .i64) := by
  induction l with
  | nil => rfl
  | cons x l ih => rw [List.map_cons, List.flatten_cons, ih]; rfl
theorem IntE.own {w : World} {T : TypeId} {base n c : Nat} {A : Option Addr} {l : List Int} (h : OwnE IntE T w base A n c l) : w.ownsRow base T 1 (.slice A n c) n (l.map (Value.int .i64)) := by
  obtain ⟨vs, h1, h2⟩ := h
  rw [← intE_flat h2]
  exact h1
theorem IntE.mk' {w : World} {T : TypeId} {base n c : Nat} {A : Option Addr} {l : List Int} (h : w.ownsRow base T 1 (.slice A n c) n (l.map (Value.int .i64))) : OwnE IntE T w base A n c l :=
  ⟨l.map fun x => [.int .i64 x], by rw [intE_map]; exact h, intE_rel _ _ l⟩
theorem IntE.grown {w w' : World} {T : TypeId} {base n c g : Nat} {A : Option Addr} {l : List Int} (h : OwnE IntE T w base A n c l) (hg : w.grownBy w' (some g)) (hne : g < base) : OwnE IntE T w' base A n c l :=
  IntE.mk' (own_grown (IntE.own h) hg (fun a e => by have := h.ge a e; omega))
/-- a number typed out, as a source -/
theorem IntE.lit {w wr : World} {b : Nat} {x : Int} (hs : Str w b #[.int .i64 x]) : ElemsIn IntE wr w w.heap.size (some ⟨b, 0, none⟩) 1 1 [x] :=
  ⟨[[.int .i64 x]], ⟨rfl, trivial⟩, rfl, Nat.le_refl _, by unfold maxLen; omega, fun _ => ⟨b, 0, rfl, hs.lt, fun j v hv => by
    have hj : j = 0 := by have := (List.getElem?_eq_some_iff.1 hv).1; simp at this; omega
    subst hj
    simp at hv
    subst hv
    exact hs.cell 0⟩⟩
theorem infoI : (Tryd.prog.info? 3).map (fun i => (i.zero, i.size, i.bytes)) = some (some (.int .i64 0), 1, 8) := by kernel_rfl
end Go.Proofs.YtkkfabnehhamdaaDoor
end
