/-
  The walk of the reference's Go: a step of a table.
-/
import Derived.Test.YtbcpepjedhafbaaRefTxn
import Derived.Test.YtbcpepjedhafbaaTxnPut
import Derived.Test.YtbcpepjedhafbaaRegL
import Derived.RegionTactic
namespace Go.Proofs.Ytbcpepjedhafbaa
open Go.RowKit
theorem wrap_in64 (x : Int) (h1 : -9223372036854775808 ≤ x) (h2 : x ≤ 9223372036854775807) : IntKind.i64.wrap x = x := by
  simp only [IntKind.wrap, IntKind.bits, IntKind.signed]
  simp
  omega
/-- a field of a transaction in a row of the call's own is written -/
theorem TxnE.field {w : World} {T : TypeId} {base n c g : Nat} {l : List TxnX} (h : OwnE TxnE T w base (some ⟨g, 0, none⟩) n c l) {j i : Nat} {z : Int} {x y : TxnX} (hj : j < n) (hi : i < 4) (hx : l[j]? = some x) (hv : (txV x).set i (.int .i64 z) = txV y) :
    OwnE TxnE T (w.setCell ⟨g, j * 4 + i, none⟩ (.int .i64 z)) base (some ⟨g, 0, none⟩) n c (l.set j y) := by
  obtain ⟨g', w1, e, _, _, hrun, hO, _, _⟩ := h.write (P := Try.prog) (j := j) (i := i) (s := [.int .i64 z]) (x := y) hj (by show i + 1 ≤ 4; omega) (by intro u hu; simp at hu; subst hu; rfl) (by
    intro g vs _ hvs
    have hh := hvs x hx
    show overV vs i [.int .i64 z] = txV y
    have hh' : vs = txV x := hh
    subst hh'
    rw [← hv]
    rcases (by omega : i = 0 ∨ i = 1 ∨ i = 2 ∨ i = 3) with rfl | rfl | rfl | rfl <;> rfl)
  cases e
  have h2 : (storeCells ⟨g, j * TxnE.size + i, none⟩ [.int .i64 z]).run Try.prog w = .ok () (w.setCell ⟨g, j * 4 + i, none⟩ (.int .i64 z)) := by
    obtain ⟨b, o, x', e, hb, _, q0, q1, q2, q3⟩ := txn_at h.elems hj
    cases e
    rw [Nat.zero_add] at q0 q1 q2 q3
    have hq : ∃ u, w.cell? ⟨g, j * 4 + i, none⟩ = some u := by
      rcases (by omega : i = 0 ∨ i = 1 ∨ i = 2 ∨ i = 3) with rfl | rfl | rfl | rfl
      · exact ⟨_, q0⟩
      · exact ⟨_, q1⟩
      · exact ⟨_, q2⟩
      · exact ⟨_, q3⟩
    obtain ⟨u, hu⟩ := hq
    rw [show j * TxnE.size + i = j * 4 + i from rfl]
    obtain ⟨g', cur, vs, e, hg', hh, _⟩ := h.row (by have := h.elems.cap.1; omega)
    cases e
    have hf := Str.frozen (w := w) ⟨T, hh⟩ (j * 4 + i)
    simp [storeCells, go_sem, hu, hf]
  rw [h2] at hrun
  cases hrun
  exact hO
theorem TxnE.keepB {w w' : World} {T : TypeId} {base n c g : Nat} {A : Option Addr} {l : List TxnX} (h : OwnE TxnE T w base A n c l) (k : Reg.KeepB w.heap.size [g] w w') (hne : ∀ a, A = some a → a.block ≠ g) : OwnE TxnE T w' base A n c l :=
  TxnE.grown h ⟨k.os, k.tape, k.output, k.size, fun i hi hb => k.block i hi (by simp only [List.mem_cons, List.not_mem_nil, or_false]; intro e; exact hb (by rw [e]))⟩ hne
end Go.Proofs.Ytbcpepjedhafbaa
namespace Go.Proofs.Ytbcpepjedhafbaa.TxnP
theorem at_yes {L : List TxnX} {k v : Int} (h : At L k v) (hh : has L k = true) : ∃ (i : Nat) (x : TxnX), v = (i : Int) ∧ L[i]? = some x ∧ x.id = k := by
  rcases h with ⟨rfl, hn⟩ | h
  · rw [hh] at hn; cases hn
  · exact h
theorem at_no {L : List TxnX} {k v : Int} (h : At L k v) (hh : has L k = false) : v = -1 := by
  rcases h with ⟨rfl, hn⟩ | ⟨i, x, rfl, hx, hi⟩
  · rfl
  · exact absurd hi (has_false.1 hh x (List.mem_of_getElem? hx))
theorem erase_del : ∀ {L : List TxnX} {i : Nat} {x : TxnX}, Rises L → L[i]? = some x → L.eraseIdx i = del L x.id
  | [], i, x, _, h => by simp at h
  | y :: L, 0, x, hr, h => by
    simp at h; subst h
    have h1 := List.pairwise_cons.1 hr
    have h2 : has L y.id = false := has_false.2 fun t ht e => by have := h1.1 t ht; omega
    simp only [List.eraseIdx_cons_zero, del, List.filter_cons, ne_eq, not_true_eq_false, decide_false, Bool.false_eq_true, if_false]
    exact (del_none h2).symm
  | y :: L, i + 1, x, hr, h => by
    have h1 := List.pairwise_cons.1 hr
    have hx : L[i]? = some x := by simpa using h
    have hne : y.id ≠ x.id := by have := h1.1 x (List.mem_of_getElem? hx); omega
    have ih := erase_del h1.2 hx
    simp only [List.eraseIdx_cons_succ, del, List.filter_cons, ne_eq, hne, not_false_eq_true, decide_true, if_true]
    rw [ih]
    rfl
theorem at_del {L : List TxnX} {k v : Int} (h : At L k v) (hr : Rises L) (hh : has L k = true) : ∀ i : Nat, v = (i : Int) → L.eraseIdx i = del L k := fun i e => by
  obtain ⟨j, x, e2, hx, hid⟩ := at_yes h hh
  obtain rfl : i = j := by omega
  rw [erase_del hr hx, hid]
theorem ins_head {t : TxnX} {L : List TxnX} (h : ∀ y ∈ L, t.id < y.id) : ins t L = t :: L := by
  cases L with
  | nil => rfl
  | cons y L => simp only [ins, if_pos (h y List.mem_cons_self)]
theorem put_set : ∀ {L : List TxnX} {i : Nat} {x y : TxnX}, Rises L → L[i]? = some x → y.id = x.id → L.set i y = put L y
  | [], i, x, y, _, h, _ => by simp at h
  | z :: L, 0, x, y, hr, h, e => by
    simp at h; subst h
    have h1 := List.pairwise_cons.1 hr
    have h2 : has L y.id = false := has_false.2 fun t ht e2 => by have := h1.1 t ht; omega
    have h3 : del (z :: L) y.id = L := by
      simp only [del, List.filter_cons, ne_eq, e, not_true_eq_false, decide_false, Bool.false_eq_true, if_false]
      have := del_none h2
      rw [e] at this
      exact this
    rw [put, h3, ins_head (fun t ht => by have := h1.1 t ht; omega)]
    rfl
  | z :: L, i + 1, x, y, hr, h, e => by
    have h1 := List.pairwise_cons.1 hr
    have hx : L[i]? = some x := by simpa using h
    have hlt : z.id < x.id := h1.1 x (List.mem_of_getElem? hx)
    have ih := put_set (y := y) h1.2 hx e
    have h3 : del (z :: L) y.id = z :: del L y.id := by
      have : z.id ≠ y.id := by omega
      simp [del, this]
    rw [put, h3, List.set_cons_succ, ih]
    simp only [ins, if_neg (show ¬ y.id < z.id by omega)]
    rfl
theorem ins_mid (t : TxnX) : ∀ (L : List TxnX) (j : Nat), j ≤ L.length → (∀ i x, i < j → L[i]? = some x → x.id < t.id) → (∀ x, L[j]? = some x → t.id < x.id) → ins t L = L.take j ++ t :: L.drop j
  | [], j, hj, _, _ => by
    have : j = 0 := by simpa using hj
    subst this; rfl
  | y :: L, 0, _, _, h2 => by
    have := h2 y rfl
    simp only [ins, if_pos this, List.take_zero, List.drop_zero, List.nil_append]
  | y :: L, j + 1, hj, h1, h2 => by
    have hy := h1 0 y (by omega) rfl
    simp only [ins, if_neg (show ¬ t.id < y.id by omega), List.take_succ_cons, List.drop_succ_cons, List.cons_append]
    rw [ins_mid t L j (by simpa using hj) (fun i x hi hx => h1 (i + 1) x (by omega) (by simpa using hx)) (fun x hx => h2 x (by simpa using hx))]
theorem put_mid {L : List TxnX} {t : TxnX} {j : Nat} (hh : has L t.id = false) (hj : j ≤ L.length) (h1 : ∀ i x, i < j → L[i]? = some x → x.id < t.id) (h2 : ∀ x, L[j]? = some x → t.id < x.id) : put L t = L.take j ++ t :: L.drop j := by
  rw [put, del_none hh, ins_mid t L j hj h1 h2]
theorem put_last {L : List TxnX} {t : TxnX} (h : ∀ x ∈ L, x.id < t.id) : L ++ [t] = put L t := by
  rw [put_mid (j := L.length) (has_false.2 fun x hx e => by have := h x hx; omega) (Nat.le_refl _) (fun i x _ hx => h x (List.mem_of_getElem? hx)) (fun x hx => by simp at hx)]
  simp
end Go.Proofs.Ytbcpepjedhafbaa.TxnP
namespace Go.Proofs.Ytbcpepjedhafbaa.RefTxn
open Go.RowKit Go.Maps TxnW
set_option linter.unusedVariables false
set_option linter.unusedSimpArgs false
variable {A : Option Addr} {n c : Nat} {nx : Int} {L : List TxnX}
/-- the step hands back a table, a number, and whether it is so -/
def GivesGo (w : World) (nx : Int) (L : List TxnX) (m : Int) (b : Bool) (e : Ending) (w' : World) : Prop := ∃ A n c, e = .returned (.tuple #[.agg #[.slice A n c, .int .i64 nx], .int .i64 m, .bool b]) ∧ Elems TxnE w' w'.heap.size A n c L ∧ Below w.heap.size w w'
attribute [local go_sem ↓] app_fold cut_fold
set_option maxRecDepth 100000 in
set_option maxHeartbeats 4000000 in
theorem go_begin (first last keep id : Int) (w : World) (hE : Elems TxnE w w.heap.size A n c L) (hn : n ≤ 1000) (hx1 : 1 ≤ nx) (hx2 : nx ≤ 1000000000000000) :
    Calls Try.prog 7 #[.agg #[.slice A n c, .int .i64 nx], .agg #[.int .i64 0, .int .i64 id, .int .i64 first, .int .i64 last, .int .i64 keep]] w (GivesGo w (nx + 1) (L ++ [⟨nx, 0, 0, 0⟩]) nx true) := by
  obtain ⟨i0, hi0, iz0, iz1, iz2⟩ := info_parts infoX
  have HI0 := Lib.hid hi0
  have HE := Lib.hid hE
  clear hE hi0
  obtain ⟨W0, hW0⟩ : ∃ W0, (((w).alloc (.cells #[.slice A n c, .int .i64 nx] 28)).alloc (.cells #[.int .i64 0, .int .i64 id, .int .i64 first, .int .i64 last, .int .i64 keep] 31)).alloc (.cells #[.slice none 0 0, .int .i64 0] 28) = W0 := ⟨_, rfl⟩
  have HS0_0 : Hid (Str W0 (w.heap.size) #[.slice A n c, .int .i64 nx]) := Lib.hid (by rw [← hW0]; have := ((Str.new (w) #[.slice A n c, .int .i64 nx] 28).alloc (.cells #[.int .i64 0, .int .i64 id, .int .i64 first, .int .i64 last, .int .i64 keep] 31)).alloc (.cells #[.slice none 0 0, .int .i64 0] 28); simpa using this)
  have HS1_0 : Hid (Str W0 (w.heap.size + 1) #[.int .i64 0, .int .i64 id, .int .i64 first, .int .i64 last, .int .i64 keep]) := Lib.hid (by rw [← hW0]; have := (Str.new ((w).alloc (.cells #[.slice A n c, .int .i64 nx] 28)) #[.int .i64 0, .int .i64 id, .int .i64 first, .int .i64 last, .int .i64 keep] 31).alloc (.cells #[.slice none 0 0, .int .i64 0] 28); simpa using this)
  have HS2_0 : Hid (Str W0 (w.heap.size + 1 + 1) #[.slice none 0 0, .int .i64 0]) := Lib.hid (by rw [← hW0]; have := Str.new (((w).alloc (.cells #[.slice A n c, .int .i64 nx] 28)).alloc (.cells #[.int .i64 0, .int .i64 id, .int .i64 first, .int .i64 last, .int .i64 keep] 31)) #[.slice none 0 0, .int .i64 0] 28; simpa using this)
  have HB_0 : Hid (Below w.heap.size w W0) := Lib.hid (by rw [← hW0]; exact balloc (balloc (balloc (bsame w) _) _) _)
  have hw_0 := HB_0.out.size
  have hz0 : W0.heap.size = w.heap.size + 1 + 1 + 1 := by rw [← hW0]; simp
  have HW0 := Lib.hid hW0
  have hl0_0 := HS0_0.out.lt
  have hl1_0 := HS1_0.out.lt
  have hl2_0 := HS2_0.out.lt
  have hO0 := TxnE.empty W0 38 W0.heap.size (Nat.le_refl _)
  have hb0 : Below W0.heap.size W0 (W0.alloc (.cells #[] 38)) := balloc (bsame W0) _
  have hE0 := (HE.out.below HB_0.out).below (w' := W0.alloc (.cells #[] 38)) (hb0.mono (by omega))
  obtain ⟨A1, c1, W1, happ, hO1, hb1, hg1, hA1⟩ := hO0.app (P := Try.prog) 26 26 i0 _ 32 Try.underlying26 HI0.out iz0 iz1 iz2 rfl (hO0.src hE0 (by omega) (by simp)) (by unfold maxLen; omega) (by omega) (by simp)
  simp only [Nat.zero_add, List.nil_append] at happ hO1
  have HO1 := Lib.hid hO1
  have HBx1 := Lib.hid (hb0.trans hb1)
  clear hO0 hE0 hb0 hb1 hg1 hA1 hO1
  have p0 := str2 HS0_0.out
  have p1 := str5 HS1_0.out
  have p2 := str2 HS2_0.out
  have f0_0 := str2 HS0_0.out
  have hl0_0 := HS0_0.out.lt
  have f1_0 := str5 HS1_0.out
  have hl1_0 := HS1_0.out.lt
  have f2_0 := str2 HS2_0.out
  have hl2_0 := HS2_0.out.lt
  have HS0_1 := Lib.hid (HS0_0.out.next HBx1.out)
  have HS1_1 := Lib.hid (HS1_0.out.next HBx1.out)
  have HS2_1 := Lib.hid (HS2_0.out.next HBx1.out)
  have HB_1 := Lib.hid (bstep HB_0.out HBx1.out)
  have hw_1 := HB_1.out.size
  have hws_1 := (HBx1.out).size
  clear f0_0 HS0_0 f1_0 HS1_0 f2_0 HS2_0
  have f0_1 := str2 HS0_1.out
  have hl0_1 := HS0_1.out.lt
  have f1_1 := str5 HS1_1.out
  have hl1_1 := HS1_1.out.lt
  have f2_1 := str2 HS2_1.out
  have hl2_1 := HS2_1.out.lt
  clear hl0_0 hl1_0 hl2_0
  rw [hz0] at happ
  rw [← hW0] at happ p0 p1 p2
  clear hW0 hz0
  have hb1 : Below W1.heap.size W1 (W1.alloc (.cells #[.int .i64 nx, .int .i64 0, .int .i64 0, .int .i64 0] 38)) := balloc (bsame W1) _
  obtain ⟨A2, c2, W2, happ2, hO2, hb2, hg2, hA2⟩ := (HO1.out.next hb1).app (P := Try.prog) 26 26 i0 _ 32 Try.underlying26 HI0.out iz0 iz1 iz2 rfl (TxnE.lit (x := ⟨nx, 0, 0, 0⟩) (wr := hid A1 (W1.alloc (.cells #[.int .i64 nx, .int .i64 0, .int .i64 0, .int .i64 0] 38))) (Str.new W1 _ _)) (by unfold maxLen; omega) (by omega) (by have := HBx1.out.size; simp; omega)
  have HO2 := Lib.hid hO2
  have HBx2 := Lib.hid ((hb1.mono (by have := HBx1.out.size; omega)).trans hb2)
  clear hO2 hb1 hb2 hg2 hA2
  have g0 := str2 (HS0_1.out.below HBx2.out (by omega))
  have gf := fun j => (HS0_1.out.below HBx2.out (by omega)).frozen j
  go_enter Try.func7, Try.ntmps7
  go_wp2_with fail
  have HS0_2 := Lib.hid (HS0_1.out.below HBx2.out (by omega))
  have HS1_2 := Lib.hid (HS1_1.out.below HBx2.out (by omega))
  have HS2_2 := Lib.hid (HS2_1.out.below HBx2.out (by omega))
  have HB_2 := Lib.hid (HB_1.out.trans (HBx2.out.mono (by omega)))
  have hw_2 := HB_2.out.size
  have hws_2 := (HBx2.out).size
  clear f0_1 HS0_1 f1_1 HS1_1 f2_1 HS2_1
  have f0_2 := str2 HS0_2.out
  have hl0_2 := HS0_2.out.lt
  have f1_2 := str5 HS1_2.out
  have hl1_2 := HS1_2.out.lt
  have f2_2 := str2 HS2_2.out
  have hl2_2 := HS2_2.out.lt
  clear p0 p1 p2 g0 gf
  generalize hW3 : ((W2).setCell ⟨w.heap.size, 0, none⟩ (.slice A2 (n + 1) c2)).setCell ⟨w.heap.size, 1, none⟩ (.int .i64 (nx + 1)) = W3
  have HS0_3 : Hid (Str W3 (w.heap.size) #[.slice A2 (n + 1) c2, .int .i64 (nx + 1)]) := Lib.hid (by rw [← hW3]; have := ((HS0_2.out).set 0 (.slice A2 (n + 1) c2)).set 1 (.int .i64 (nx + 1)); simpa using this)
  have hgr3 : W2.grownBy W3 (some (w.heap.size)) := by rw [← hW3]; exact grown_set (grown_set (grown_refl W2 (w.heap.size)) 0 (_)) 1 (_)
  have HS1_3 := Lib.hid (HS1_2.out.grown hgr3 (by omega))
  have HS2_3 := Lib.hid (HS2_2.out.grown hgr3 (by omega))
  have HB_3 := Lib.hid (below_grown HB_2.out hgr3 (by omega))
  have hw_3 := HB_3.out.size
  have hws_3 := hgr3.size
  have HO3 : Hid (OwnE TxnE 38 W3 W0.heap.size A2 (n + 1) c2 (L ++ [⟨nx, 0, 0, 0⟩])) := Lib.hid (TxnE.grown HO2.out hgr3 (fun a e => by have := HO2.out.ge a e; omega))
  clear hW3
  clear f0_2 HS0_2 f1_2 HS1_2 f2_2 HS2_2
  clear hgr3
  have f0_3 := str2 HS0_3.out
  have hl0_3 := HS0_3.out.lt
  have f1_3 := str5 HS1_3.out
  have hl1_3 := HS1_3.out.lt
  have f2_3 := str2 HS2_3.out
  have hl2_3 := HS2_3.out.lt
  have HNU : Hid (∀ b ∈ ([w.heap.size + 1 + 1] : List Nat), ∃ cs, Str W3 b cs ∧ notU8 cs = true) := Lib.hid (by intro b hb; simp only [List.mem_cons, List.not_mem_nil, or_false] at hb; rcases hb with rfl <;> first | exact ⟨_, HS2_3.out, rfl⟩)
  have hOK : Reg.okS W3.heap.size (Reg.BxS.mk [] (fun t => if t = 4 then #[.slice none 0 0, .int .i64 0] else #[]) (fun t => if t = 4 then (Reg.rowM (Reg.eqM (.agg #[.slice A2 (n + 1) c2, .int .i64 (nx + 1)]))) else (Reg.rowM (Reg.eqM undef))) [] (fun t => (Reg.eqM undef)) [(4, w.heap.size + 1 + 1, 4)]) := Reg.okS_of rfl (by first | exact List.pairwise_singleton _ _ | simp) (by intro k hk; have hk : k ∈ ([(4, w.heap.size + 1 + 1, 4)] : List (Tmp × Nat × Nat)) := hk; simp only [List.mem_cons, List.not_mem_nil, or_false] at hk; rcases hk with rfl <;> (dsimp only; omega))
  refine Reg.wp_region_box (R := (Reg.extB W3.heap.size (Reg.BxS.b0 (Reg.BxS.mk [] (fun t => if t = 4 then #[.slice none 0 0, .int .i64 0] else #[]) (fun t => if t = 4 then (Reg.rowM (Reg.eqM (.agg #[.slice A2 (n + 1) c2, .int .i64 (nx + 1)]))) else (Reg.rowM (Reg.eqM undef))) [] (fun t => (Reg.eqM undef)) [(4, w.heap.size + 1 + 1, 4)])))) (W := W3) (Reg.BJ W3.heap.size (Reg.BxS.mk [] (fun t => if t = 4 then #[.slice none 0 0, .int .i64 0] else #[]) (fun t => if t = 4 then (Reg.rowM (Reg.eqM (.agg #[.slice A2 (n + 1) c2, .int .i64 (nx + 1)]))) else (Reg.rowM (Reg.eqM undef))) [] (fun t => (Reg.eqM undef)) [(4, w.heap.size + 1 + 1, 4)])) [Reg.eqv (.agg #[.slice A2 (n + 1) c2, .int .i64 (nx + 1)]), Reg.eqv (.pointer (some ⟨w.heap.size, 1, none⟩)), Reg.eqv (.int .i64 (nx + 1)), Reg.eqv (.int .i64 nx), Reg.any, Reg.eqv (.int .i64 nx), Reg.eqv (.bool true)] 151 [[(2, none)], [(2, none)], [(29, some 1)], [(30, some 2)], [(4, none), (28, some 0)], [(31, some 3)], []] rfl (by kernel_rfl) (by kernel_rfl) (fun _ h => Reg.bj_zero (by intro k hk; have hk : k ∈ ([(4, w.heap.size + 1 + 1, 4)] : List (Tmp × Nat × Nat)) := hk; simp only [List.mem_cons, List.not_mem_nil, or_false] at hk; rcases hk with rfl <;> first | exact ⟨HS2_3.out, rfl⟩) h) (by kernel_rfl) ?_ [some 28, some 29, some 30, some 31, none, some 5, some 6] (by kernel_rfl) ?_
  · refine ⟨?_, ?_, ?_, ?_, ?_, ?_, ?_, trivial⟩
    · refine Reg.oblB_pure rfl rfl rfl ?_
      intro ax wx hx hs hmm
      replace hx : Reg.KeepB W3.heap.size [w.heap.size + 1 + 1] W3 wx := hx
      have hxB : Below w.heap.size W3 wx := hx.below (by omega) (by intro b hb; have hb : b ∈ ([w.heap.size + 1 + 1] : List Nat) := hb; simp only [List.mem_cons, List.not_mem_nil, or_false] at hb; rcases hb with rfl <;> omega)
      obtain ⟨e2, -⟩ := hs
      have g2 := Reg.ev (v := .pointer (some ⟨w.heap.size, 0, none⟩)) e2
      obtain ⟨l0_0, l0_1⟩ := str2 (hx.str HS0_3.out (by omega) (by simp only [List.mem_cons, List.not_mem_nil, or_false, not_or]; omega))
      obtain ⟨l1_0, l1_1, l1_2, l1_3, l1_4⟩ := str5 (hx.str HS1_3.out (by omega) (by simp only [List.mem_cons, List.not_mem_nil, or_false, not_or]; omega))
      exact (Reg.wp_eqvB (Option.some_ne_none _) (by go_simp) rfl)
    · refine Reg.oblB_pure rfl rfl rfl ?_
      intro ax wx hx hs hmm
      replace hx : Reg.KeepB W3.heap.size [w.heap.size + 1 + 1] W3 wx := hx
      have hxB : Below w.heap.size W3 wx := hx.below (by omega) (by intro b hb; have hb : b ∈ ([w.heap.size + 1 + 1] : List Nat) := hb; simp only [List.mem_cons, List.not_mem_nil, or_false] at hb; rcases hb with rfl <;> omega)
      obtain ⟨e2, -⟩ := hs
      have g2 := Reg.ev (v := .pointer (some ⟨w.heap.size, 0, none⟩)) e2
      exact (Reg.wp_eqvB (Option.some_ne_none _) (by go_simp) rfl)
    · refine Reg.oblB_pure rfl rfl rfl ?_
      intro ax wx hx hs hmm
      replace hx : Reg.KeepB W3.heap.size [w.heap.size + 1 + 1] W3 wx := hx
      have hxB : Below w.heap.size W3 wx := hx.below (by omega) (by intro b hb; have hb : b ∈ ([w.heap.size + 1 + 1] : List Nat) := hb; simp only [List.mem_cons, List.not_mem_nil, or_false] at hb; rcases hb with rfl <;> omega)
      obtain ⟨e29, -⟩ := hs
      have g29 := Reg.ev (v := .pointer (some ⟨w.heap.size, 1, none⟩)) e29
      obtain ⟨l0_0, l0_1⟩ := str2 (hx.str HS0_3.out (by omega) (by simp only [List.mem_cons, List.not_mem_nil, or_false, not_or]; omega))
      obtain ⟨l1_0, l1_1, l1_2, l1_3, l1_4⟩ := str5 (hx.str HS1_3.out (by omega) (by simp only [List.mem_cons, List.not_mem_nil, or_false, not_or]; omega))
      exact (Reg.wp_eqvB (Option.some_ne_none _) (by go_simp) rfl)
    · refine Reg.oblB_pure rfl rfl rfl ?_
      intro ax wx hx hs hmm
      replace hx : Reg.KeepB W3.heap.size [w.heap.size + 1 + 1] W3 wx := hx
      have hxB : Below w.heap.size W3 wx := hx.below (by omega) (by intro b hb; have hb : b ∈ ([w.heap.size + 1 + 1] : List Nat) := hb; simp only [List.mem_cons, List.not_mem_nil, or_false] at hb; rcases hb with rfl <;> omega)
      obtain ⟨e30, -⟩ := hs
      have g30 := Reg.ev (v := .int .i64 (nx + 1)) e30
      exact Reg.wp_eqvB (Option.some_ne_none _) (by go_simp; exact wrap_in64 _ (by omega) (by omega)) rfl
    · refine Reg.oblB_store0 rfl rfl hOK (t := 4) (g := w.heap.size + 1 + 1) (List.mem_of_getElem? (i := 0) rfl) rfl (by show 4 < 7; decide) (fun _ _ => trivial) ?_
      intro ax wx rb hx hrb hs hmm hS
      replace hx : Reg.KeepB W3.heap.size [w.heap.size + 1 + 1] W3 wx := hx
      have hxB : Below w.heap.size W3 wx := hx.below (by omega) (by intro b hb; have hb : b ∈ ([w.heap.size + 1 + 1] : List Nat) := hb; simp only [List.mem_cons, List.not_mem_nil, or_false] at hb; rcases hb with rfl <;> omega)
      obtain ⟨e4, e28, -⟩ := hs
      have g4 := Reg.ev (v := .pointer (some ⟨w.heap.size + 1 + 1, 0, none⟩)) e4
      have g28 := Reg.ev (v := .agg #[.slice A2 (n + 1) c2, .int .i64 (nx + 1)]) e28
      exact Reg.st_box rfl (Reg.run_st_box rfl e4 e28 hS rfl (by kernel_rfl) rfl) rfl rfl
    · refine Reg.oblB_pure rfl rfl rfl ?_
      intro ax wx hx hs hmm
      replace hx : Reg.KeepB W3.heap.size [w.heap.size + 1 + 1] W3 wx := hx
      have hxB : Below w.heap.size W3 wx := hx.below (by omega) (by intro b hb; have hb : b ∈ ([w.heap.size + 1 + 1] : List Nat) := hb; simp only [List.mem_cons, List.not_mem_nil, or_false] at hb; rcases hb with rfl <;> omega)
      obtain ⟨e31, -⟩ := hs
      have g31 := Reg.ev (v := .int .i64 nx) e31
      exact (Reg.wp_eqvB (Option.some_ne_none _) (by go_simp) rfl)
    · refine Reg.oblB_pure rfl rfl rfl ?_
      intro ax wx hx hs hmm
      replace hx : Reg.KeepB W3.heap.size [w.heap.size + 1 + 1] W3 wx := hx
      have hxB : Below w.heap.size W3 wx := hx.below (by omega) (by intro b hb; have hb : b ∈ ([w.heap.size + 1 + 1] : List Nat) := hb; simp only [List.mem_cons, List.not_mem_nil, or_false] at hb; rcases hb with rfl <;> omega)
      exact (Reg.wp_eqvB (Option.some_ne_none _) (by go_simp) rfl)
  · intro W4 listed hwf hall
    simp only [Reg.Fin]
    rintro _ rfl _ rfl _ rfl _ rfl vn4 hn4 _ rfl _ rfl
    intro hJ
    obtain ⟨hJM, hJB, hJN, hJ0⟩ := Reg.bj_end (n := 7) hall (by show ∀ b ∈ ([] : List (Nat × Tmp × Nat)), b.1 < 7 ∧ b.2.2 < 7; decide) (by show ∀ m ∈ ([] : List (Nat × Tmp)), m.1 < 7; decide) (by show ∀ k ∈ ([4] : List Nat), k < 7; decide) hJ
    obtain ⟨cs4, hS4, hX4⟩ := hJ0 (4, w.heap.size + 1 + 1, 4) (List.mem_of_getElem? (i := 0) rfl)
    have hX4 : (Reg.rowM (Reg.eqM (.agg #[.slice A2 (n + 1) c2, .int .i64 (nx + 1)]))).pred cs4 W4 W4.heap.size := hX4
    clear hJM hJB hJN hJ0 hJ hall 
    go_simp
    replace hwf : Reg.KeepB W3.heap.size [w.heap.size + 1 + 1] W3 W4 := hwf
    have hbw : Below w.heap.size W3 W4 := hwf.below (by omega) (by intro b hb; simp only [List.mem_cons, List.not_mem_nil, or_false] at hb; rcases hb with rfl <;> omega)
    have HS0_4 := Lib.hid (hwf.str HS0_3.out (by omega) (by simp only [List.mem_cons, List.not_mem_nil, or_false, not_or]; omega))
    have HS1_4 := Lib.hid (hwf.str HS1_3.out (by omega) (by simp only [List.mem_cons, List.not_mem_nil, or_false, not_or]; omega))
    have HB_4 := Lib.hid (HB_3.out.trans hbw)
    have hw_4 := HB_4.out.size
    have hws_4 := hbw.size
    have HS2_4 := Lib.hid hS4
    clear hS4
    clear f0_3 HS0_3 f1_3 HS1_3 f2_3 HS2_3
    clear HNU
    have HO4 : Hid (OwnE TxnE 38 W4 W0.heap.size A2 (n + 1) c2 (L ++ [⟨nx, 0, 0, 0⟩])) := Lib.hid (TxnE.keepB HO3.out hwf (fun a e => by have := HO3.out.ge a e; omega))
    clear hwf hbw hOK
    obtain rfl : cs4 = _ := Value.agg.inj hX4
    have f0_4 := str2 HS0_4.out
    have hl0_4 := HS0_4.out.lt
    have f1_4 := str5 HS1_4.out
    have hl1_4 := HS1_4.out.lt
    have f2_4 := str2 HS2_4.out
    have hl2_4 := HS2_4.out.lt
    go_wp2_with fail
    refine bodyPost_ret (v := .tuple #[.agg #[.slice A2 (n + 1) c2, .int .i64 (nx + 1)], .int .i64 nx, .bool true]) (by simp [results, Try.results7, go_sem, *]) rfl ⟨_, _, _, rfl, HO4.out.elems, HB_4.out⟩
set_option maxRecDepth 100000 in
set_option maxHeartbeats 4000000 in
theorem go_end (first last keep id : Int) (w : World) (hE : Elems TxnE w w.heap.size A n c L) (hn : n ≤ 1000) (hx1 : 1 ≤ nx) (hx2 : nx ≤ 1000000000000000) (hr : TxnP.Rises L) (hh : TxnP.has L id = true) :
    Calls Try.prog 7 #[.agg #[.slice A n c, .int .i64 nx], .agg #[.int .i64 2, .int .i64 id, .int .i64 first, .int .i64 last, .int .i64 keep]] w (GivesGo w nx (TxnP.del L id) 0 true) := by
  obtain ⟨i0, hi0, iz0, iz1, iz2⟩ := info_parts infoX
  have HI0 := Lib.hid hi0
  have HE := Lib.hid hE
  clear hE hi0
  obtain ⟨W0, hW0⟩ : ∃ W0, (((w).alloc (.cells #[.slice A n c, .int .i64 nx] 28)).alloc (.cells #[.int .i64 2, .int .i64 id, .int .i64 first, .int .i64 last, .int .i64 keep] 31)).alloc (.cells #[.slice none 0 0, .int .i64 0] 28) = W0 := ⟨_, rfl⟩
  have HS0_0 : Hid (Str W0 (w.heap.size) #[.slice A n c, .int .i64 nx]) := Lib.hid (by rw [← hW0]; have := ((Str.new (w) #[.slice A n c, .int .i64 nx] 28).alloc (.cells #[.int .i64 2, .int .i64 id, .int .i64 first, .int .i64 last, .int .i64 keep] 31)).alloc (.cells #[.slice none 0 0, .int .i64 0] 28); simpa using this)
  have HS1_0 : Hid (Str W0 (w.heap.size + 1) #[.int .i64 2, .int .i64 id, .int .i64 first, .int .i64 last, .int .i64 keep]) := Lib.hid (by rw [← hW0]; have := (Str.new ((w).alloc (.cells #[.slice A n c, .int .i64 nx] 28)) #[.int .i64 2, .int .i64 id, .int .i64 first, .int .i64 last, .int .i64 keep] 31).alloc (.cells #[.slice none 0 0, .int .i64 0] 28); simpa using this)
  have HS2_0 : Hid (Str W0 (w.heap.size + 1 + 1) #[.slice none 0 0, .int .i64 0]) := Lib.hid (by rw [← hW0]; have := Str.new (((w).alloc (.cells #[.slice A n c, .int .i64 nx] 28)).alloc (.cells #[.int .i64 2, .int .i64 id, .int .i64 first, .int .i64 last, .int .i64 keep] 31)) #[.slice none 0 0, .int .i64 0] 28; simpa using this)
  have HB_0 : Hid (Below w.heap.size w W0) := Lib.hid (by rw [← hW0]; exact balloc (balloc (balloc (bsame w) _) _) _)
  have hw_0 := HB_0.out.size
  have hz0 : W0.heap.size = w.heap.size + 1 + 1 + 1 := by rw [← hW0]; simp
  have HW0 := Lib.hid hW0
  have hl0_0 := HS0_0.out.lt
  have hl1_0 := HS1_0.out.lt
  have hl2_0 := HS2_0.out.lt
  have hO0 := TxnE.empty W0 38 W0.heap.size (Nat.le_refl _)
  have hb0 : Below W0.heap.size W0 (W0.alloc (.cells #[] 38)) := balloc (bsame W0) _
  have hE0 := (HE.out.below HB_0.out).below (w' := W0.alloc (.cells #[] 38)) (hb0.mono (by omega))
  obtain ⟨A1, c1, W1, happ, hO1, hb1, hg1, hA1⟩ := hO0.app (P := Try.prog) 26 26 i0 _ 32 Try.underlying26 HI0.out iz0 iz1 iz2 rfl (hO0.src hE0 (by omega) (by simp)) (by unfold maxLen; omega) (by omega) (by simp)
  simp only [Nat.zero_add, List.nil_append] at happ hO1
  have HO1 := Lib.hid hO1
  have HBx1 := Lib.hid (hb0.trans hb1)
  clear hO0 hE0 hb0 hb1 hg1 hA1 hO1
  have p0 := str2 HS0_0.out
  have p1 := str5 HS1_0.out
  have p2 := str2 HS2_0.out
  have f0_0 := str2 HS0_0.out
  have hl0_0 := HS0_0.out.lt
  have f1_0 := str5 HS1_0.out
  have hl1_0 := HS1_0.out.lt
  have f2_0 := str2 HS2_0.out
  have hl2_0 := HS2_0.out.lt
  have HS0_1 := Lib.hid (HS0_0.out.next HBx1.out)
  have HS1_1 := Lib.hid (HS1_0.out.next HBx1.out)
  have HS2_1 := Lib.hid (HS2_0.out.next HBx1.out)
  have HB_1 := Lib.hid (bstep HB_0.out HBx1.out)
  have hw_1 := HB_1.out.size
  have hws_1 := (HBx1.out).size
  clear f0_0 HS0_0 f1_0 HS1_0 f2_0 HS2_0
  have f0_1 := str2 HS0_1.out
  have hl0_1 := HS0_1.out.lt
  have f1_1 := str5 HS1_1.out
  have hl1_1 := HS1_1.out.lt
  have f2_1 := str2 HS2_1.out
  have hl2_1 := HS2_1.out.lt
  clear hl0_0 hl1_0 hl2_0
  rw [hz0] at happ
  rw [← hW0] at happ p0 p1 p2
  clear hW0 hz0
  have HR := Lib.hid hr
  have HH := Lib.hid hh
  have hlen := HE.out.len
  obtain ⟨y0, hy0, -⟩ := TxnP.has_iff.1 hh
  have hpos : 0 < n := by have := List.length_pos_of_mem hy0; omega
  have hcap := HO1.out.elems.cap
  obtain ⟨g, cur, vs, rfl, hbg, -⟩ := HO1.out.row (by omega)
  clear hr hh hy0
  go_enter Try.func7, Try.ntmps7
  have hgl : g < W1.heap.size := by obtain ⟨b, o, x, e, hb, -⟩ := txn_at HO1.out.elems hpos; cases e; exact hb
  go_wp2_with fail
  refine (place_any id _ ((HE.out.below HB_1.out).more hw_1)).mono ?_
  rintro e W2 ⟨v, rfl, hv, hb2⟩
  have HS0_2 := Lib.hid (HS0_1.out.next hb2)
  have HS1_2 := Lib.hid (HS1_1.out.next hb2)
  have HS2_2 := Lib.hid (HS2_1.out.next hb2)
  have HB_2 := Lib.hid (bstep HB_1.out hb2)
  have hw_2 := HB_2.out.size
  have hws_2 := (hb2).size
  clear f0_1 HS0_1 f1_1 HS1_1 f2_1 HS2_1
  have f0_2 := str2 HS0_2.out
  have hl0_2 := HS0_2.out.lt
  have f1_2 := str5 HS1_2.out
  have hl1_2 := HS1_2.out.lt
  have f2_2 := str2 HS2_2.out
  have hl2_2 := HS2_2.out.lt
  have HO2 : Hid (OwnE TxnE 38 W2 W0.heap.size (some ⟨g, 0, none⟩) n c1 L) := Lib.hid (HO1.out.next hb2)
  clear hb2
  have HD := Lib.hid (TxnP.at_del hv HR.out HH.out)
  obtain ⟨i, x, rfl, hx, hid⟩ := TxnP.at_yes hv HH.out
  have hin : i < n := by rw [← hlen]; exact (List.getElem?_eq_some_iff.1 hx).1
  clear hv
  have d1 : decide ((i : Int) < 0) = false := by simp
  have HDi := Lib.hid (HD.out i rfl)
  clear HD
  obtain ⟨g2, W3, e2, -, -, hrun, hO3, hg3, hs3⟩ := (HO2.out.next ((bsame W2).drew)).del (P := Try.prog) 26 26 i0 Try.underlying26 HI0.out iz1 i hin
  cases e2
  rw [show TxnE.size = 4 from rfl] at hrun
  have HO3 := Lib.hid hO3
  have HG3 := Lib.hid hg3
  clear hO3 hg3
  have hb1 : (0 : Int) ≤ (i : Int) + 1 := by omega
  have hb2 : ((i : Int) + 1).toNat = i + 1 := by omega
  have hb3 : (i : Int) + 1 ≤ (n : Int) := by omega
  have hb4 : (i : Int) ≤ (c1 : Int) := by omega
  have hb5 : (n : Int) ≤ (c1 : Int) := by omega
  have hb6 : IntKind.i64.wrap ((i : Int) + 1) = (i : Int) + 1 := wrap_in64 _ (by omega) (by omega)
  go_wp2_with fail
  have q0 := str2 ((HS0_2.out.next ((bsame W2).drew)).grown HG3.out (by omega))
  have qf := fun j => ((HS0_2.out.next ((bsame W2).drew)).grown HG3.out (by omega)).frozen j
  have r0 := str2 ((HS2_2.out.next ((bsame W2).drew)).grown HG3.out (by omega))
  have rf := fun j => ((HS2_2.out.next ((bsame W2).drew)).grown HG3.out (by omega)).frozen j
  have hwz : W3.heap.size = W2.heap.size := hs3
  have hq1 : w.heap.size < W3.heap.size := by omega
  have hq2 : w.heap.size + 1 + 1 < W3.heap.size := by omega
  go_region
  go_wp2_with fail
  rw [HDi.out] at HO3
  refine bodyPost_ret (v := .tuple #[.agg #[.slice (some ⟨g, 0, none⟩) (n - 1) c1, .int .i64 nx], .int .i64 0, .bool true]) (by simp [results, Try.results7, go_sem, *]) rfl ⟨_, _, _, rfl, (TxnE.grown (TxnE.grown (TxnE.grown HO3.out (grown_set (grown_refl _ (w.heap.size)) 0 (.slice (some ⟨g, 0, none⟩) (n - 1) c1)) (fun a e => by have := HO3.out.ge a e; omega)) (grown_set (grown_refl _ (w.heap.size + 1 + 1)) 0 (.slice (some ⟨g, 0, none⟩) (n - 1) c1)) (fun a e => by have := HO3.out.ge a e; omega)) (grown_set (grown_refl _ (w.heap.size + 1 + 1)) 1 (.int .i64 nx)) (fun a e => by have := HO3.out.ge a e; omega)).elems, (below_grown (below_grown (below_grown (below_grown (HB_2.out.drew) HG3.out (by omega)) (grown_set (grown_refl _ (w.heap.size)) 0 (.slice (some ⟨g, 0, none⟩) (n - 1) c1)) (by omega)) (grown_set (grown_refl _ (w.heap.size + 1 + 1)) 0 (.slice (some ⟨g, 0, none⟩) (n - 1) c1)) (by omega)) (grown_set (grown_refl _ (w.heap.size + 1 + 1)) 1 (.int .i64 nx)) (by omega))⟩
set_option maxRecDepth 100000 in
set_option maxHeartbeats 4000000 in
theorem go_put_has (first last keep id : Int) (w : World) (hE : Elems TxnE w w.heap.size A n c L) (hn : n ≤ 1000) (hx1 : 1 ≤ nx) (hx2 : nx ≤ 1000000000000000) (hh : TxnP.has L id = true) :
    Calls Try.prog 7 #[.agg #[.slice A n c, .int .i64 nx], .agg #[.int .i64 3, .int .i64 id, .int .i64 first, .int .i64 last, .int .i64 keep]] w (GivesGo w nx L 0 false) := by
  obtain ⟨i0, hi0, iz0, iz1, iz2⟩ := info_parts infoX
  have HI0 := Lib.hid hi0
  have HE := Lib.hid hE
  clear hE hi0
  obtain ⟨W0, hW0⟩ : ∃ W0, (((w).alloc (.cells #[.slice A n c, .int .i64 nx] 28)).alloc (.cells #[.int .i64 3, .int .i64 id, .int .i64 first, .int .i64 last, .int .i64 keep] 31)).alloc (.cells #[.slice none 0 0, .int .i64 0] 28) = W0 := ⟨_, rfl⟩
  have HS0_0 : Hid (Str W0 (w.heap.size) #[.slice A n c, .int .i64 nx]) := Lib.hid (by rw [← hW0]; have := ((Str.new (w) #[.slice A n c, .int .i64 nx] 28).alloc (.cells #[.int .i64 3, .int .i64 id, .int .i64 first, .int .i64 last, .int .i64 keep] 31)).alloc (.cells #[.slice none 0 0, .int .i64 0] 28); simpa using this)
  have HS1_0 : Hid (Str W0 (w.heap.size + 1) #[.int .i64 3, .int .i64 id, .int .i64 first, .int .i64 last, .int .i64 keep]) := Lib.hid (by rw [← hW0]; have := (Str.new ((w).alloc (.cells #[.slice A n c, .int .i64 nx] 28)) #[.int .i64 3, .int .i64 id, .int .i64 first, .int .i64 last, .int .i64 keep] 31).alloc (.cells #[.slice none 0 0, .int .i64 0] 28); simpa using this)
  have HS2_0 : Hid (Str W0 (w.heap.size + 1 + 1) #[.slice none 0 0, .int .i64 0]) := Lib.hid (by rw [← hW0]; have := Str.new (((w).alloc (.cells #[.slice A n c, .int .i64 nx] 28)).alloc (.cells #[.int .i64 3, .int .i64 id, .int .i64 first, .int .i64 last, .int .i64 keep] 31)) #[.slice none 0 0, .int .i64 0] 28; simpa using this)
  have HB_0 : Hid (Below w.heap.size w W0) := Lib.hid (by rw [← hW0]; exact balloc (balloc (balloc (bsame w) _) _) _)
  have hw_0 := HB_0.out.size
  have hz0 : W0.heap.size = w.heap.size + 1 + 1 + 1 := by rw [← hW0]; simp
  have HW0 := Lib.hid hW0
  have hl0_0 := HS0_0.out.lt
  have hl1_0 := HS1_0.out.lt
  have hl2_0 := HS2_0.out.lt
  have hO0 := TxnE.empty W0 38 W0.heap.size (Nat.le_refl _)
  have hb0 : Below W0.heap.size W0 (W0.alloc (.cells #[] 38)) := balloc (bsame W0) _
  have hE0 := (HE.out.below HB_0.out).below (w' := W0.alloc (.cells #[] 38)) (hb0.mono (by omega))
  obtain ⟨A1, c1, W1, happ, hO1, hb1, hg1, hA1⟩ := hO0.app (P := Try.prog) 26 26 i0 _ 32 Try.underlying26 HI0.out iz0 iz1 iz2 rfl (hO0.src hE0 (by omega) (by simp)) (by unfold maxLen; omega) (by omega) (by simp)
  simp only [Nat.zero_add, List.nil_append] at happ hO1
  have HO1 := Lib.hid hO1
  have HBx1 := Lib.hid (hb0.trans hb1)
  clear hO0 hE0 hb0 hb1 hg1 hA1 hO1
  have p0 := str2 HS0_0.out
  have p1 := str5 HS1_0.out
  have p2 := str2 HS2_0.out
  have f0_0 := str2 HS0_0.out
  have hl0_0 := HS0_0.out.lt
  have f1_0 := str5 HS1_0.out
  have hl1_0 := HS1_0.out.lt
  have f2_0 := str2 HS2_0.out
  have hl2_0 := HS2_0.out.lt
  have HS0_1 := Lib.hid (HS0_0.out.next HBx1.out)
  have HS1_1 := Lib.hid (HS1_0.out.next HBx1.out)
  have HS2_1 := Lib.hid (HS2_0.out.next HBx1.out)
  have HB_1 := Lib.hid (bstep HB_0.out HBx1.out)
  have hw_1 := HB_1.out.size
  have hws_1 := (HBx1.out).size
  clear f0_0 HS0_0 f1_0 HS1_0 f2_0 HS2_0
  have f0_1 := str2 HS0_1.out
  have hl0_1 := HS0_1.out.lt
  have f1_1 := str5 HS1_1.out
  have hl1_1 := HS1_1.out.lt
  have f2_1 := str2 HS2_1.out
  have hl2_1 := HS2_1.out.lt
  clear hl0_0 hl1_0 hl2_0
  rw [hz0] at happ
  rw [← hW0] at happ p0 p1 p2
  clear hW0 hz0
  have HH := Lib.hid hh
  clear hh
  go_enter Try.func7, Try.ntmps7
  go_wp2_with fail
  refine (place_any id _ ((HE.out.below HB_1.out).more hw_1)).mono ?_
  rintro e W2 ⟨v, rfl, hv, hb2⟩
  have HS0_2 := Lib.hid (HS0_1.out.next hb2)
  have HS1_2 := Lib.hid (HS1_1.out.next hb2)
  have HS2_2 := Lib.hid (HS2_1.out.next hb2)
  have HB_2 := Lib.hid (bstep HB_1.out hb2)
  have hw_2 := HB_2.out.size
  have hws_2 := (hb2).size
  clear f0_1 HS0_1 f1_1 HS1_1 f2_1 HS2_1
  clear hb2
  have f0_2 := str2 HS0_2.out
  have hl0_2 := HS0_2.out.lt
  have f1_2 := str5 HS1_2.out
  have hl1_2 := HS1_2.out.lt
  have f2_2 := str2 HS2_2.out
  have hl2_2 := HS2_2.out.lt
  obtain ⟨i, x, rfl, hx, hid⟩ := TxnP.at_yes hv HH.out
  clear hv hx hid
  have d1 : decide (0 ≤ (i : Int)) = true := by simp
  have rf := fun j => HS2_2.out.frozen j
  go_wp2_with fail
  refine bodyPost_ret (v := .tuple #[.agg #[.slice A n c, .int .i64 nx], .int .i64 0, .bool false]) (by simp [results, Try.results7, go_sem, *]) rfl ⟨_, _, _, rfl, (HE.out.below (below_grown (below_grown HB_2.out (grown_set (grown_refl _ (w.heap.size + 1 + 1)) 0 (.slice A n c)) (by omega)) (grown_set (grown_refl _ (w.heap.size + 1 + 1)) 1 (.int .i64 nx)) (by omega))).more ((below_grown (below_grown HB_2.out (grown_set (grown_refl _ (w.heap.size + 1 + 1)) 0 (.slice A n c)) (by omega)) (grown_set (grown_refl _ (w.heap.size + 1 + 1)) 1 (.int .i64 nx)) (by omega))).size, (below_grown (below_grown HB_2.out (grown_set (grown_refl _ (w.heap.size + 1 + 1)) 0 (.slice A n c)) (by omega)) (grown_set (grown_refl _ (w.heap.size + 1 + 1)) 1 (.int .i64 nx)) (by omega))⟩
set_option maxRecDepth 100000 in
set_option maxHeartbeats 4000000 in
theorem go_put_low (first last keep id : Int) (w : World) (hE : Elems TxnE w w.heap.size A n c L) (hn : n ≤ 1000) (hx1 : 1 ≤ nx) (hx2 : nx ≤ 1000000000000000) (hh : TxnP.has L id = false) (hl : id < 1) :
    Calls Try.prog 7 #[.agg #[.slice A n c, .int .i64 nx], .agg #[.int .i64 3, .int .i64 id, .int .i64 first, .int .i64 last, .int .i64 keep]] w (GivesGo w nx L 0 false) := by
  obtain ⟨i0, hi0, iz0, iz1, iz2⟩ := info_parts infoX
  have HI0 := Lib.hid hi0
  have HE := Lib.hid hE
  clear hE hi0
  obtain ⟨W0, hW0⟩ : ∃ W0, (((w).alloc (.cells #[.slice A n c, .int .i64 nx] 28)).alloc (.cells #[.int .i64 3, .int .i64 id, .int .i64 first, .int .i64 last, .int .i64 keep] 31)).alloc (.cells #[.slice none 0 0, .int .i64 0] 28) = W0 := ⟨_, rfl⟩
  have HS0_0 : Hid (Str W0 (w.heap.size) #[.slice A n c, .int .i64 nx]) := Lib.hid (by rw [← hW0]; have := ((Str.new (w) #[.slice A n c, .int .i64 nx] 28).alloc (.cells #[.int .i64 3, .int .i64 id, .int .i64 first, .int .i64 last, .int .i64 keep] 31)).alloc (.cells #[.slice none 0 0, .int .i64 0] 28); simpa using this)
  have HS1_0 : Hid (Str W0 (w.heap.size + 1) #[.int .i64 3, .int .i64 id, .int .i64 first, .int .i64 last, .int .i64 keep]) := Lib.hid (by rw [← hW0]; have := (Str.new ((w).alloc (.cells #[.slice A n c, .int .i64 nx] 28)) #[.int .i64 3, .int .i64 id, .int .i64 first, .int .i64 last, .int .i64 keep] 31).alloc (.cells #[.slice none 0 0, .int .i64 0] 28); simpa using this)
  have HS2_0 : Hid (Str W0 (w.heap.size + 1 + 1) #[.slice none 0 0, .int .i64 0]) := Lib.hid (by rw [← hW0]; have := Str.new (((w).alloc (.cells #[.slice A n c, .int .i64 nx] 28)).alloc (.cells #[.int .i64 3, .int .i64 id, .int .i64 first, .int .i64 last, .int .i64 keep] 31)) #[.slice none 0 0, .int .i64 0] 28; simpa using this)
  have HB_0 : Hid (Below w.heap.size w W0) := Lib.hid (by rw [← hW0]; exact balloc (balloc (balloc (bsame w) _) _) _)
  have hw_0 := HB_0.out.size
  have hz0 : W0.heap.size = w.heap.size + 1 + 1 + 1 := by rw [← hW0]; simp
  have HW0 := Lib.hid hW0
  have hl0_0 := HS0_0.out.lt
  have hl1_0 := HS1_0.out.lt
  have hl2_0 := HS2_0.out.lt
  have hO0 := TxnE.empty W0 38 W0.heap.size (Nat.le_refl _)
  have hb0 : Below W0.heap.size W0 (W0.alloc (.cells #[] 38)) := balloc (bsame W0) _
  have hE0 := (HE.out.below HB_0.out).below (w' := W0.alloc (.cells #[] 38)) (hb0.mono (by omega))
  obtain ⟨A1, c1, W1, happ, hO1, hb1, hg1, hA1⟩ := hO0.app (P := Try.prog) 26 26 i0 _ 32 Try.underlying26 HI0.out iz0 iz1 iz2 rfl (hO0.src hE0 (by omega) (by simp)) (by unfold maxLen; omega) (by omega) (by simp)
  simp only [Nat.zero_add, List.nil_append] at happ hO1
  have HO1 := Lib.hid hO1
  have HBx1 := Lib.hid (hb0.trans hb1)
  clear hO0 hE0 hb0 hb1 hg1 hA1 hO1
  have p0 := str2 HS0_0.out
  have p1 := str5 HS1_0.out
  have p2 := str2 HS2_0.out
  have f0_0 := str2 HS0_0.out
  have hl0_0 := HS0_0.out.lt
  have f1_0 := str5 HS1_0.out
  have hl1_0 := HS1_0.out.lt
  have f2_0 := str2 HS2_0.out
  have hl2_0 := HS2_0.out.lt
  have HS0_1 := Lib.hid (HS0_0.out.next HBx1.out)
  have HS1_1 := Lib.hid (HS1_0.out.next HBx1.out)
  have HS2_1 := Lib.hid (HS2_0.out.next HBx1.out)
  have HB_1 := Lib.hid (bstep HB_0.out HBx1.out)
  have hw_1 := HB_1.out.size
  have hws_1 := (HBx1.out).size
  clear f0_0 HS0_0 f1_0 HS1_0 f2_0 HS2_0
  have f0_1 := str2 HS0_1.out
  have hl0_1 := HS0_1.out.lt
  have f1_1 := str5 HS1_1.out
  have hl1_1 := HS1_1.out.lt
  have f2_1 := str2 HS2_1.out
  have hl2_1 := HS2_1.out.lt
  clear hl0_0 hl1_0 hl2_0
  rw [hz0] at happ
  rw [← hW0] at happ p0 p1 p2
  clear hW0 hz0
  have HH := Lib.hid hh
  clear hh
  have d2 : decide (id < 1) = true := by simpa using hl
  go_enter Try.func7, Try.ntmps7
  go_wp2_with fail
  refine (place_any id _ ((HE.out.below HB_1.out).more hw_1)).mono ?_
  rintro e W2 ⟨v, rfl, hv, hb2⟩
  have HS0_2 := Lib.hid (HS0_1.out.next hb2)
  have HS1_2 := Lib.hid (HS1_1.out.next hb2)
  have HS2_2 := Lib.hid (HS2_1.out.next hb2)
  have HB_2 := Lib.hid (bstep HB_1.out hb2)
  have hw_2 := HB_2.out.size
  have hws_2 := (hb2).size
  clear f0_1 HS0_1 f1_1 HS1_1 f2_1 HS2_1
  clear hb2
  have f0_2 := str2 HS0_2.out
  have hl0_2 := HS0_2.out.lt
  have f1_2 := str5 HS1_2.out
  have hl1_2 := HS1_2.out.lt
  have f2_2 := str2 HS2_2.out
  have hl2_2 := HS2_2.out.lt
  obtain rfl := TxnP.at_no hv HH.out
  clear hv
  have rf := fun j => HS2_2.out.frozen j
  go_wp2_with fail
  refine bodyPost_ret (v := .tuple #[.agg #[.slice A n c, .int .i64 nx], .int .i64 0, .bool false]) (by simp [results, Try.results7, go_sem, *]) rfl ⟨_, _, _, rfl, (HE.out.below (below_grown (below_grown HB_2.out (grown_set (grown_refl _ (w.heap.size + 1 + 1)) 0 (.slice A n c)) (by omega)) (grown_set (grown_refl _ (w.heap.size + 1 + 1)) 1 (.int .i64 nx)) (by omega))).more ((below_grown (below_grown HB_2.out (grown_set (grown_refl _ (w.heap.size + 1 + 1)) 0 (.slice A n c)) (by omega)) (grown_set (grown_refl _ (w.heap.size + 1 + 1)) 1 (.int .i64 nx)) (by omega))).size, (below_grown (below_grown HB_2.out (grown_set (grown_refl _ (w.heap.size + 1 + 1)) 0 (.slice A n c)) (by omega)) (grown_set (grown_refl _ (w.heap.size + 1 + 1)) 1 (.int .i64 nx)) (by omega))⟩
set_option maxRecDepth 100000 in
set_option maxHeartbeats 4000000 in
theorem go_put_high (first last keep id : Int) (w : World) (hE : Elems TxnE w w.heap.size A n c L) (hn : n ≤ 1000) (hx1 : 1 ≤ nx) (hx2 : nx ≤ 1000000000000000) (hh : TxnP.has L id = false) (hl : 1 ≤ id) (hl2 : nx ≤ id) :
    Calls Try.prog 7 #[.agg #[.slice A n c, .int .i64 nx], .agg #[.int .i64 3, .int .i64 id, .int .i64 first, .int .i64 last, .int .i64 keep]] w (GivesGo w nx L 0 false) := by
  obtain ⟨i0, hi0, iz0, iz1, iz2⟩ := info_parts infoX
  have HI0 := Lib.hid hi0
  have HE := Lib.hid hE
  clear hE hi0
  obtain ⟨W0, hW0⟩ : ∃ W0, (((w).alloc (.cells #[.slice A n c, .int .i64 nx] 28)).alloc (.cells #[.int .i64 3, .int .i64 id, .int .i64 first, .int .i64 last, .int .i64 keep] 31)).alloc (.cells #[.slice none 0 0, .int .i64 0] 28) = W0 := ⟨_, rfl⟩
  have HS0_0 : Hid (Str W0 (w.heap.size) #[.slice A n c, .int .i64 nx]) := Lib.hid (by rw [← hW0]; have := ((Str.new (w) #[.slice A n c, .int .i64 nx] 28).alloc (.cells #[.int .i64 3, .int .i64 id, .int .i64 first, .int .i64 last, .int .i64 keep] 31)).alloc (.cells #[.slice none 0 0, .int .i64 0] 28); simpa using this)
  have HS1_0 : Hid (Str W0 (w.heap.size + 1) #[.int .i64 3, .int .i64 id, .int .i64 first, .int .i64 last, .int .i64 keep]) := Lib.hid (by rw [← hW0]; have := (Str.new ((w).alloc (.cells #[.slice A n c, .int .i64 nx] 28)) #[.int .i64 3, .int .i64 id, .int .i64 first, .int .i64 last, .int .i64 keep] 31).alloc (.cells #[.slice none 0 0, .int .i64 0] 28); simpa using this)
  have HS2_0 : Hid (Str W0 (w.heap.size + 1 + 1) #[.slice none 0 0, .int .i64 0]) := Lib.hid (by rw [← hW0]; have := Str.new (((w).alloc (.cells #[.slice A n c, .int .i64 nx] 28)).alloc (.cells #[.int .i64 3, .int .i64 id, .int .i64 first, .int .i64 last, .int .i64 keep] 31)) #[.slice none 0 0, .int .i64 0] 28; simpa using this)
  have HB_0 : Hid (Below w.heap.size w W0) := Lib.hid (by rw [← hW0]; exact balloc (balloc (balloc (bsame w) _) _) _)
  have hw_0 := HB_0.out.size
  have hz0 : W0.heap.size = w.heap.size + 1 + 1 + 1 := by rw [← hW0]; simp
  have HW0 := Lib.hid hW0
  have hl0_0 := HS0_0.out.lt
  have hl1_0 := HS1_0.out.lt
  have hl2_0 := HS2_0.out.lt
  have hO0 := TxnE.empty W0 38 W0.heap.size (Nat.le_refl _)
  have hb0 : Below W0.heap.size W0 (W0.alloc (.cells #[] 38)) := balloc (bsame W0) _
  have hE0 := (HE.out.below HB_0.out).below (w' := W0.alloc (.cells #[] 38)) (hb0.mono (by omega))
  obtain ⟨A1, c1, W1, happ, hO1, hb1, hg1, hA1⟩ := hO0.app (P := Try.prog) 26 26 i0 _ 32 Try.underlying26 HI0.out iz0 iz1 iz2 rfl (hO0.src hE0 (by omega) (by simp)) (by unfold maxLen; omega) (by omega) (by simp)
  simp only [Nat.zero_add, List.nil_append] at happ hO1
  have HO1 := Lib.hid hO1
  have HBx1 := Lib.hid (hb0.trans hb1)
  clear hO0 hE0 hb0 hb1 hg1 hA1 hO1
  have p0 := str2 HS0_0.out
  have p1 := str5 HS1_0.out
  have p2 := str2 HS2_0.out
  have f0_0 := str2 HS0_0.out
  have hl0_0 := HS0_0.out.lt
  have f1_0 := str5 HS1_0.out
  have hl1_0 := HS1_0.out.lt
  have f2_0 := str2 HS2_0.out
  have hl2_0 := HS2_0.out.lt
  have HS0_1 := Lib.hid (HS0_0.out.next HBx1.out)
  have HS1_1 := Lib.hid (HS1_0.out.next HBx1.out)
  have HS2_1 := Lib.hid (HS2_0.out.next HBx1.out)
  have HB_1 := Lib.hid (bstep HB_0.out HBx1.out)
  have hw_1 := HB_1.out.size
  have hws_1 := (HBx1.out).size
  clear f0_0 HS0_0 f1_0 HS1_0 f2_0 HS2_0
  have f0_1 := str2 HS0_1.out
  have hl0_1 := HS0_1.out.lt
  have f1_1 := str5 HS1_1.out
  have hl1_1 := HS1_1.out.lt
  have f2_1 := str2 HS2_1.out
  have hl2_1 := HS2_1.out.lt
  clear hl0_0 hl1_0 hl2_0
  rw [hz0] at happ
  rw [← hW0] at happ p0 p1 p2
  clear hW0 hz0
  have HH := Lib.hid hh
  clear hh
  have d2 : decide (id < 1) = false := by simp; omega
  have d3 : decide (nx ≤ id) = true := by simpa using hl2
  go_enter Try.func7, Try.ntmps7
  go_wp2_with fail
  refine (place_any id _ ((HE.out.below HB_1.out).more hw_1)).mono ?_
  rintro e W2 ⟨v, rfl, hv, hb2⟩
  have HS0_2 := Lib.hid (HS0_1.out.next hb2)
  have HS1_2 := Lib.hid (HS1_1.out.next hb2)
  have HS2_2 := Lib.hid (HS2_1.out.next hb2)
  have HB_2 := Lib.hid (bstep HB_1.out hb2)
  have hw_2 := HB_2.out.size
  have hws_2 := (hb2).size
  clear f0_1 HS0_1 f1_1 HS1_1 f2_1 HS2_1
  clear hb2
  have f0_2 := str2 HS0_2.out
  have hl0_2 := HS0_2.out.lt
  have f1_2 := str5 HS1_2.out
  have hl1_2 := HS1_2.out.lt
  have f2_2 := str2 HS2_2.out
  have hl2_2 := HS2_2.out.lt
  obtain rfl := TxnP.at_no hv HH.out
  clear hv
  have rf := fun j => HS2_2.out.frozen j
  go_wp2_with fail
  refine bodyPost_ret (v := .tuple #[.agg #[.slice A n c, .int .i64 nx], .int .i64 0, .bool false]) (by simp [results, Try.results7, go_sem, *]) rfl ⟨_, _, _, rfl, (HE.out.below (below_grown (below_grown HB_2.out (grown_set (grown_refl _ (w.heap.size + 1 + 1)) 0 (.slice A n c)) (by omega)) (grown_set (grown_refl _ (w.heap.size + 1 + 1)) 1 (.int .i64 nx)) (by omega))).more ((below_grown (below_grown HB_2.out (grown_set (grown_refl _ (w.heap.size + 1 + 1)) 0 (.slice A n c)) (by omega)) (grown_set (grown_refl _ (w.heap.size + 1 + 1)) 1 (.int .i64 nx)) (by omega))).size, (below_grown (below_grown HB_2.out (grown_set (grown_refl _ (w.heap.size + 1 + 1)) 0 (.slice A n c)) (by omega)) (grown_set (grown_refl _ (w.heap.size + 1 + 1)) 1 (.int .i64 nx)) (by omega))⟩
set_option maxRecDepth 100000 in
set_option maxHeartbeats 4000000 in
theorem go_note_no (first last keep id : Int) (w : World) (hE : Elems TxnE w w.heap.size A n c L) (hn : n ≤ 1000) (hx1 : 1 ≤ nx) (hx2 : nx ≤ 1000000000000000) (hh : TxnP.has L id = false) :
    Calls Try.prog 7 #[.agg #[.slice A n c, .int .i64 nx], .agg #[.int .i64 1, .int .i64 id, .int .i64 first, .int .i64 last, .int .i64 keep]] w (GivesGo w nx L 0 false) := by
  obtain ⟨i0, hi0, iz0, iz1, iz2⟩ := info_parts infoX
  have HI0 := Lib.hid hi0
  have HE := Lib.hid hE
  clear hE hi0
  obtain ⟨W0, hW0⟩ : ∃ W0, (((w).alloc (.cells #[.slice A n c, .int .i64 nx] 28)).alloc (.cells #[.int .i64 1, .int .i64 id, .int .i64 first, .int .i64 last, .int .i64 keep] 31)).alloc (.cells #[.slice none 0 0, .int .i64 0] 28) = W0 := ⟨_, rfl⟩
  have HS0_0 : Hid (Str W0 (w.heap.size) #[.slice A n c, .int .i64 nx]) := Lib.hid (by rw [← hW0]; have := ((Str.new (w) #[.slice A n c, .int .i64 nx] 28).alloc (.cells #[.int .i64 1, .int .i64 id, .int .i64 first, .int .i64 last, .int .i64 keep] 31)).alloc (.cells #[.slice none 0 0, .int .i64 0] 28); simpa using this)
  have HS1_0 : Hid (Str W0 (w.heap.size + 1) #[.int .i64 1, .int .i64 id, .int .i64 first, .int .i64 last, .int .i64 keep]) := Lib.hid (by rw [← hW0]; have := (Str.new ((w).alloc (.cells #[.slice A n c, .int .i64 nx] 28)) #[.int .i64 1, .int .i64 id, .int .i64 first, .int .i64 last, .int .i64 keep] 31).alloc (.cells #[.slice none 0 0, .int .i64 0] 28); simpa using this)
  have HS2_0 : Hid (Str W0 (w.heap.size + 1 + 1) #[.slice none 0 0, .int .i64 0]) := Lib.hid (by rw [← hW0]; have := Str.new (((w).alloc (.cells #[.slice A n c, .int .i64 nx] 28)).alloc (.cells #[.int .i64 1, .int .i64 id, .int .i64 first, .int .i64 last, .int .i64 keep] 31)) #[.slice none 0 0, .int .i64 0] 28; simpa using this)
  have HB_0 : Hid (Below w.heap.size w W0) := Lib.hid (by rw [← hW0]; exact balloc (balloc (balloc (bsame w) _) _) _)
  have hw_0 := HB_0.out.size
  have hz0 : W0.heap.size = w.heap.size + 1 + 1 + 1 := by rw [← hW0]; simp
  have HW0 := Lib.hid hW0
  have hl0_0 := HS0_0.out.lt
  have hl1_0 := HS1_0.out.lt
  have hl2_0 := HS2_0.out.lt
  have hO0 := TxnE.empty W0 38 W0.heap.size (Nat.le_refl _)
  have hb0 : Below W0.heap.size W0 (W0.alloc (.cells #[] 38)) := balloc (bsame W0) _
  have hE0 := (HE.out.below HB_0.out).below (w' := W0.alloc (.cells #[] 38)) (hb0.mono (by omega))
  obtain ⟨A1, c1, W1, happ, hO1, hb1, hg1, hA1⟩ := hO0.app (P := Try.prog) 26 26 i0 _ 32 Try.underlying26 HI0.out iz0 iz1 iz2 rfl (hO0.src hE0 (by omega) (by simp)) (by unfold maxLen; omega) (by omega) (by simp)
  simp only [Nat.zero_add, List.nil_append] at happ hO1
  have HO1 := Lib.hid hO1
  have HBx1 := Lib.hid (hb0.trans hb1)
  clear hO0 hE0 hb0 hb1 hg1 hA1 hO1
  have p0 := str2 HS0_0.out
  have p1 := str5 HS1_0.out
  have p2 := str2 HS2_0.out
  have f0_0 := str2 HS0_0.out
  have hl0_0 := HS0_0.out.lt
  have f1_0 := str5 HS1_0.out
  have hl1_0 := HS1_0.out.lt
  have f2_0 := str2 HS2_0.out
  have hl2_0 := HS2_0.out.lt
  have HS0_1 := Lib.hid (HS0_0.out.next HBx1.out)
  have HS1_1 := Lib.hid (HS1_0.out.next HBx1.out)
  have HS2_1 := Lib.hid (HS2_0.out.next HBx1.out)
  have HB_1 := Lib.hid (bstep HB_0.out HBx1.out)
  have hw_1 := HB_1.out.size
  have hws_1 := (HBx1.out).size
  clear f0_0 HS0_0 f1_0 HS1_0 f2_0 HS2_0
  have f0_1 := str2 HS0_1.out
  have hl0_1 := HS0_1.out.lt
  have f1_1 := str5 HS1_1.out
  have hl1_1 := HS1_1.out.lt
  have f2_1 := str2 HS2_1.out
  have hl2_1 := HS2_1.out.lt
  clear hl0_0 hl1_0 hl2_0
  rw [hz0] at happ
  rw [← hW0] at happ p0 p1 p2
  clear hW0 hz0
  have HH := Lib.hid hh
  clear hh
  go_enter Try.func7, Try.ntmps7
  go_wp2_with fail
  refine (place_any id _ ((HE.out.below HB_1.out).more hw_1)).mono ?_
  rintro e W2 ⟨v, rfl, hv, hb2⟩
  have HS0_2 := Lib.hid (HS0_1.out.next hb2)
  have HS1_2 := Lib.hid (HS1_1.out.next hb2)
  have HS2_2 := Lib.hid (HS2_1.out.next hb2)
  have HB_2 := Lib.hid (bstep HB_1.out hb2)
  have hw_2 := HB_2.out.size
  have hws_2 := (hb2).size
  clear f0_1 HS0_1 f1_1 HS1_1 f2_1 HS2_1
  clear hb2
  have f0_2 := str2 HS0_2.out
  have hl0_2 := HS0_2.out.lt
  have f1_2 := str5 HS1_2.out
  have hl1_2 := HS1_2.out.lt
  have f2_2 := str2 HS2_2.out
  have hl2_2 := HS2_2.out.lt
  obtain rfl := TxnP.at_no hv HH.out
  clear hv
  have rf := fun j => HS2_2.out.frozen j
  go_wp2_with fail
  refine bodyPost_ret (v := .tuple #[.agg #[.slice A n c, .int .i64 nx], .int .i64 0, .bool false]) (by simp [results, Try.results7, go_sem, *]) rfl ⟨_, _, _, rfl, (HE.out.below (below_grown (below_grown HB_2.out (grown_set (grown_refl _ (w.heap.size + 1 + 1)) 0 (.slice A n c)) (by omega)) (grown_set (grown_refl _ (w.heap.size + 1 + 1)) 1 (.int .i64 nx)) (by omega))).more ((below_grown (below_grown HB_2.out (grown_set (grown_refl _ (w.heap.size + 1 + 1)) 0 (.slice A n c)) (by omega)) (grown_set (grown_refl _ (w.heap.size + 1 + 1)) 1 (.int .i64 nx)) (by omega))).size, (below_grown (below_grown HB_2.out (grown_set (grown_refl _ (w.heap.size + 1 + 1)) 0 (.slice A n c)) (by omega)) (grown_set (grown_refl _ (w.heap.size + 1 + 1)) 1 (.int .i64 nx)) (by omega))⟩
set_option maxRecDepth 100000 in
set_option maxHeartbeats 4000000 in
theorem go_end_no (first last keep id : Int) (w : World) (hE : Elems TxnE w w.heap.size A n c L) (hn : n ≤ 1000) (hx1 : 1 ≤ nx) (hx2 : nx ≤ 1000000000000000) (hh : TxnP.has L id = false) :
    Calls Try.prog 7 #[.agg #[.slice A n c, .int .i64 nx], .agg #[.int .i64 2, .int .i64 id, .int .i64 first, .int .i64 last, .int .i64 keep]] w (GivesGo w nx L 0 false) := by
  obtain ⟨i0, hi0, iz0, iz1, iz2⟩ := info_parts infoX
  have HI0 := Lib.hid hi0
  have HE := Lib.hid hE
  clear hE hi0
  obtain ⟨W0, hW0⟩ : ∃ W0, (((w).alloc (.cells #[.slice A n c, .int .i64 nx] 28)).alloc (.cells #[.int .i64 2, .int .i64 id, .int .i64 first, .int .i64 last, .int .i64 keep] 31)).alloc (.cells #[.slice none 0 0, .int .i64 0] 28) = W0 := ⟨_, rfl⟩
  have HS0_0 : Hid (Str W0 (w.heap.size) #[.slice A n c, .int .i64 nx]) := Lib.hid (by rw [← hW0]; have := ((Str.new (w) #[.slice A n c, .int .i64 nx] 28).alloc (.cells #[.int .i64 2, .int .i64 id, .int .i64 first, .int .i64 last, .int .i64 keep] 31)).alloc (.cells #[.slice none 0 0, .int .i64 0] 28); simpa using this)
  have HS1_0 : Hid (Str W0 (w.heap.size + 1) #[.int .i64 2, .int .i64 id, .int .i64 first, .int .i64 last, .int .i64 keep]) := Lib.hid (by rw [← hW0]; have := (Str.new ((w).alloc (.cells #[.slice A n c, .int .i64 nx] 28)) #[.int .i64 2, .int .i64 id, .int .i64 first, .int .i64 last, .int .i64 keep] 31).alloc (.cells #[.slice none 0 0, .int .i64 0] 28); simpa using this)
  have HS2_0 : Hid (Str W0 (w.heap.size + 1 + 1) #[.slice none 0 0, .int .i64 0]) := Lib.hid (by rw [← hW0]; have := Str.new (((w).alloc (.cells #[.slice A n c, .int .i64 nx] 28)).alloc (.cells #[.int .i64 2, .int .i64 id, .int .i64 first, .int .i64 last, .int .i64 keep] 31)) #[.slice none 0 0, .int .i64 0] 28; simpa using this)
  have HB_0 : Hid (Below w.heap.size w W0) := Lib.hid (by rw [← hW0]; exact balloc (balloc (balloc (bsame w) _) _) _)
  have hw_0 := HB_0.out.size
  have hz0 : W0.heap.size = w.heap.size + 1 + 1 + 1 := by rw [← hW0]; simp
  have HW0 := Lib.hid hW0
  have hl0_0 := HS0_0.out.lt
  have hl1_0 := HS1_0.out.lt
  have hl2_0 := HS2_0.out.lt
  have hO0 := TxnE.empty W0 38 W0.heap.size (Nat.le_refl _)
  have hb0 : Below W0.heap.size W0 (W0.alloc (.cells #[] 38)) := balloc (bsame W0) _
  have hE0 := (HE.out.below HB_0.out).below (w' := W0.alloc (.cells #[] 38)) (hb0.mono (by omega))
  obtain ⟨A1, c1, W1, happ, hO1, hb1, hg1, hA1⟩ := hO0.app (P := Try.prog) 26 26 i0 _ 32 Try.underlying26 HI0.out iz0 iz1 iz2 rfl (hO0.src hE0 (by omega) (by simp)) (by unfold maxLen; omega) (by omega) (by simp)
  simp only [Nat.zero_add, List.nil_append] at happ hO1
  have HO1 := Lib.hid hO1
  have HBx1 := Lib.hid (hb0.trans hb1)
  clear hO0 hE0 hb0 hb1 hg1 hA1 hO1
  have p0 := str2 HS0_0.out
  have p1 := str5 HS1_0.out
  have p2 := str2 HS2_0.out
  have f0_0 := str2 HS0_0.out
  have hl0_0 := HS0_0.out.lt
  have f1_0 := str5 HS1_0.out
  have hl1_0 := HS1_0.out.lt
  have f2_0 := str2 HS2_0.out
  have hl2_0 := HS2_0.out.lt
  have HS0_1 := Lib.hid (HS0_0.out.next HBx1.out)
  have HS1_1 := Lib.hid (HS1_0.out.next HBx1.out)
  have HS2_1 := Lib.hid (HS2_0.out.next HBx1.out)
  have HB_1 := Lib.hid (bstep HB_0.out HBx1.out)
  have hw_1 := HB_1.out.size
  have hws_1 := (HBx1.out).size
  clear f0_0 HS0_0 f1_0 HS1_0 f2_0 HS2_0
  have f0_1 := str2 HS0_1.out
  have hl0_1 := HS0_1.out.lt
  have f1_1 := str5 HS1_1.out
  have hl1_1 := HS1_1.out.lt
  have f2_1 := str2 HS2_1.out
  have hl2_1 := HS2_1.out.lt
  clear hl0_0 hl1_0 hl2_0
  rw [hz0] at happ
  rw [← hW0] at happ p0 p1 p2
  clear hW0 hz0
  have HH := Lib.hid hh
  clear hh
  go_enter Try.func7, Try.ntmps7
  go_wp2_with fail
  refine (place_any id _ ((HE.out.below HB_1.out).more hw_1)).mono ?_
  rintro e W2 ⟨v, rfl, hv, hb2⟩
  have HS0_2 := Lib.hid (HS0_1.out.next hb2)
  have HS1_2 := Lib.hid (HS1_1.out.next hb2)
  have HS2_2 := Lib.hid (HS2_1.out.next hb2)
  have HB_2 := Lib.hid (bstep HB_1.out hb2)
  have hw_2 := HB_2.out.size
  have hws_2 := (hb2).size
  clear f0_1 HS0_1 f1_1 HS1_1 f2_1 HS2_1
  clear hb2
  have f0_2 := str2 HS0_2.out
  have hl0_2 := HS0_2.out.lt
  have f1_2 := str5 HS1_2.out
  have hl1_2 := HS1_2.out.lt
  have f2_2 := str2 HS2_2.out
  have hl2_2 := HS2_2.out.lt
  obtain rfl := TxnP.at_no hv HH.out
  clear hv
  have rf := fun j => HS2_2.out.frozen j
  go_wp2_with fail
  refine bodyPost_ret (v := .tuple #[.agg #[.slice A n c, .int .i64 nx], .int .i64 0, .bool false]) (by simp [results, Try.results7, go_sem, *]) rfl ⟨_, _, _, rfl, (HE.out.below (below_grown (below_grown HB_2.out (grown_set (grown_refl _ (w.heap.size + 1 + 1)) 0 (.slice A n c)) (by omega)) (grown_set (grown_refl _ (w.heap.size + 1 + 1)) 1 (.int .i64 nx)) (by omega))).more ((below_grown (below_grown HB_2.out (grown_set (grown_refl _ (w.heap.size + 1 + 1)) 0 (.slice A n c)) (by omega)) (grown_set (grown_refl _ (w.heap.size + 1 + 1)) 1 (.int .i64 nx)) (by omega))).size, (below_grown (below_grown HB_2.out (grown_set (grown_refl _ (w.heap.size + 1 + 1)) 0 (.slice A n c)) (by omega)) (grown_set (grown_refl _ (w.heap.size + 1 + 1)) 1 (.int .i64 nx)) (by omega))⟩
end Go.Proofs.Ytbcpepjedhafbaa.RefTxn
