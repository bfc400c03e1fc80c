/-
  The walk of the reference's Go: a note.
-/
import Derived.Test.YtbcpepjedhafbaaRefTxnGo
namespace Go.Proofs.Ytbcpepjedhafbaa.RefTxn
open Go.RowKit Go.Maps TxnW
set_option linter.unusedVariables false
set_option linter.unusedSimpArgs false
variable {A : Option Addr} {n c : Nat} {nx : Int} {L : List TxnX}
attribute [local go_sem ↓] app_fold cut_fold
theorem set_get {l : List TxnX} {i : Nat} {y : TxnX} (h : i < l.length) : (l.set i y)[i]? = some y := by simp [h]
set_option maxRecDepth 100000 in
set_option maxHeartbeats 4000000 in
theorem go_note_newNeg (first last keep id : Int) (w : World) (hE : Elems TxnE w w.heap.size A n c L) (hn : n ≤ 1000) (hx1 : 1 ≤ nx) (hx2 : nx ≤ 1000000000000000) (hr : TxnP.Rises L) (x : TxnX) (hgx : TxnP.get L id = x) (hh : TxnP.has L id = true) (hz : x.last = 0) (hk : x.kept + keep < 0) (hb : (-1000000000000000 ≤ x.kept ∧ x.kept ≤ 1000000000000000) ∧ (-1000000000000000 ≤ keep ∧ keep ≤ 1000000000000000)) :
    Calls Try.prog 7 #[.agg #[.slice A n c, .int .i64 nx], .agg #[.int .i64 1, .int .i64 id, .int .i64 first, .int .i64 last, .int .i64 keep]] w (GivesGo w nx (TxnP.put L ⟨id, first, last, 0⟩) 0 true) := by
  obtain ⟨i0, hi0, iz0, iz1, iz2⟩ := info_parts infoX
  have HI0 := Lib.hid hi0
  have HE := Lib.hid hE
  clear hE hi0
  obtain ⟨W0, hW0⟩ : ∃ W0, (((w).alloc (.cells #[.slice A n c, .int .i64 nx] 28)).alloc (.cells #[.int .i64 1, .int .i64 id, .int .i64 first, .int .i64 last, .int .i64 keep] 31)).alloc (.cells #[.slice none 0 0, .int .i64 0] 28) = W0 := ⟨_, rfl⟩
  have HS0_0 : Hid (Str W0 (w.heap.size) #[.slice A n c, .int .i64 nx]) := Lib.hid (by rw [← hW0]; have := ((Str.new (w) #[.slice A n c, .int .i64 nx] 28).alloc (.cells #[.int .i64 1, .int .i64 id, .int .i64 first, .int .i64 last, .int .i64 keep] 31)).alloc (.cells #[.slice none 0 0, .int .i64 0] 28); simpa using this)
  have HS1_0 : Hid (Str W0 (w.heap.size + 1) #[.int .i64 1, .int .i64 id, .int .i64 first, .int .i64 last, .int .i64 keep]) := Lib.hid (by rw [← hW0]; have := (Str.new ((w).alloc (.cells #[.slice A n c, .int .i64 nx] 28)) #[.int .i64 1, .int .i64 id, .int .i64 first, .int .i64 last, .int .i64 keep] 31).alloc (.cells #[.slice none 0 0, .int .i64 0] 28); simpa using this)
  have HS2_0 : Hid (Str W0 (w.heap.size + 1 + 1) #[.slice none 0 0, .int .i64 0]) := Lib.hid (by rw [← hW0]; have := Str.new (((w).alloc (.cells #[.slice A n c, .int .i64 nx] 28)).alloc (.cells #[.int .i64 1, .int .i64 id, .int .i64 first, .int .i64 last, .int .i64 keep] 31)) #[.slice none 0 0, .int .i64 0] 28; simpa using this)
  have HB_0 : Hid (Below w.heap.size w W0) := Lib.hid (by rw [← hW0]; exact balloc (balloc (balloc (bsame w) _) _) _)
  have hw_0 := HB_0.out.size
  have hz0 : W0.heap.size = w.heap.size + 1 + 1 + 1 := by rw [← hW0]; simp
  have HW0 := Lib.hid hW0
  have hl0_0 := HS0_0.out.lt
  have hl1_0 := HS1_0.out.lt
  have hl2_0 := HS2_0.out.lt
  have hO0 := TxnE.empty W0 38 W0.heap.size (Nat.le_refl _)
  have hb0 : Below W0.heap.size W0 (W0.alloc (.cells #[] 38)) := balloc (bsame W0) _
  have hE0 := (HE.out.below HB_0.out).below (w' := W0.alloc (.cells #[] 38)) (hb0.mono (by omega))
  obtain ⟨A1, c1, W1, happ, hO1, hb1, hg1, hA1⟩ := hO0.app (P := Try.prog) 26 26 i0 _ 32 Try.underlying26 HI0.out iz0 iz1 iz2 rfl (hO0.src hE0 (by omega) (by simp)) (by unfold maxLen; omega) (by omega) (by simp)
  simp only [Nat.zero_add, List.nil_append] at happ hO1
  have HO1 := Lib.hid hO1
  have HBx1 := Lib.hid (hb0.trans hb1)
  clear hO0 hE0 hb0 hb1 hg1 hA1 hO1
  have p0 := str2 HS0_0.out
  have p1 := str5 HS1_0.out
  have p2 := str2 HS2_0.out
  have f0_0 := str2 HS0_0.out
  have hl0_0 := HS0_0.out.lt
  have f1_0 := str5 HS1_0.out
  have hl1_0 := HS1_0.out.lt
  have f2_0 := str2 HS2_0.out
  have hl2_0 := HS2_0.out.lt
  have HS0_1 := Lib.hid (HS0_0.out.next HBx1.out)
  have HS1_1 := Lib.hid (HS1_0.out.next HBx1.out)
  have HS2_1 := Lib.hid (HS2_0.out.next HBx1.out)
  have HB_1 := Lib.hid (bstep HB_0.out HBx1.out)
  have hw_1 := HB_1.out.size
  have hws_1 := (HBx1.out).size
  clear f0_0 HS0_0 f1_0 HS1_0 f2_0 HS2_0
  have f0_1 := str2 HS0_1.out
  have hl0_1 := HS0_1.out.lt
  have f1_1 := str5 HS1_1.out
  have hl1_1 := HS1_1.out.lt
  have f2_1 := str2 HS2_1.out
  have hl2_1 := HS2_1.out.lt
  clear hl0_0 hl1_0 hl2_0
  rw [hz0] at happ
  rw [← hW0] at happ p0 p1 p2
  clear hW0 hz0
  have HR := Lib.hid hr
  have HH := Lib.hid hh
  have hlen := HE.out.len
  obtain ⟨y0, hy0, -⟩ := TxnP.has_iff.1 hh
  have hpos : 0 < n := by have := List.length_pos_of_mem hy0; omega
  have hcap := HO1.out.elems.cap
  obtain ⟨g, cur, vs, rfl, hbg, -⟩ := HO1.out.row (by omega)
  clear hr hh hy0
  go_enter Try.func7, Try.ntmps7
  have hgl : g < W1.heap.size := by obtain ⟨b, o, x, e, hb, -⟩ := txn_at HO1.out.elems hpos; cases e; exact hb
  go_wp2_with fail
  refine (place_any id _ ((HE.out.below HB_1.out).more hw_1)).mono ?_
  rintro e W2 ⟨v, rfl, hv, hb2⟩
  have HS0_2 := Lib.hid (HS0_1.out.next hb2)
  have HS1_2 := Lib.hid (HS1_1.out.next hb2)
  have HS2_2 := Lib.hid (HS2_1.out.next hb2)
  have HB_2 := Lib.hid (bstep HB_1.out hb2)
  have hw_2 := HB_2.out.size
  have hws_2 := (hb2).size
  clear f0_1 HS0_1 f1_1 HS1_1 f2_1 HS2_1
  have f0_2 := str2 HS0_2.out
  have hl0_2 := HS0_2.out.lt
  have f1_2 := str5 HS1_2.out
  have hl1_2 := HS1_2.out.lt
  have f2_2 := str2 HS2_2.out
  have hl2_2 := HS2_2.out.lt
  have HO2 : Hid (OwnE TxnE 38 W2 W0.heap.size (some ⟨g, 0, none⟩) n c1 L) := Lib.hid (HO1.out.next hb2)
  clear hb2
  obtain ⟨i, x1, rfl, hx, hid⟩ := TxnP.at_yes hv HH.out
  obtain rfl : x = x1 := by rw [← hgx, ← hid]; exact TxnP.get_of HR.out (List.mem_of_getElem? hx)
  have hin : i < n := by rw [← hlen]; exact (List.getElem?_eq_some_iff.1 hx).1
  clear hv
  obtain ⟨b, o, x2, e2, hgs, hx2, q0, q1, q2, q3⟩ := txn_at HO2.out.elems hin
  rw [hx] at hx2
  cases hx2
  cases e2
  rw [Nat.zero_add] at q0 q1 q2 q3
  obtain ⟨⟨k1, k2⟩, k3, k4⟩ := hb
  have d1 : decide ((i : Int) < 0) = false := by simp
  have d2 : (x.last == 0) = true := by simpa using hz
  have d3 : decide (x.kept + keep < 0) = true := by simpa using hk
  have hrow := HO2.out.row (by omega)
  obtain ⟨g3, cur3, vs3, e3, hbg3, hh3, -⟩ := hrow
  cases e3
  have qf := fun j => Str.frozen (w := W2) ⟨_, hh3⟩ j
  clear hh3
  have hwk : wrap64 (x.kept + keep) = x.kept + keep := by unfold wrap64; omega
  go_wp2_with fail
  have hli : i < L.length := by rw [hlen]; exact hin
  have HF1 := Lib.hid (TxnE.field (i := 1) HO2.out hin (by decide) hx (y := ⟨x.id, first, x.last, x.kept⟩) rfl)
  have hsx1 : (L.set i ⟨x.id, first, x.last, x.kept⟩)[i]? = some ⟨x.id, first, x.last, x.kept⟩ := set_get (by simpa using hli)
  have HF2 := Lib.hid (TxnE.field (i := 2) HF1.out hin (by decide) hsx1 (y := ⟨x.id, first, last, x.kept⟩) rfl)
  have hsx2 : ((L.set i ⟨x.id, first, x.last, x.kept⟩).set i ⟨x.id, first, last, x.kept⟩)[i]? = some ⟨x.id, first, last, x.kept⟩ := set_get (by simpa using hli)
  have hgr3 : W2.grownBy (((W2).setCell ⟨g, i * 4 + 1, none⟩ (.int .i64 first)).setCell ⟨g, i * 4 + 2, none⟩ (.int .i64 last)) (some g) := grown_set (grown_set (grown_refl W2 g) (i * 4 + 1) (.int .i64 first)) (i * 4 + 2) (.int .i64 last)
  generalize hW3 : ((W2).setCell ⟨g, i * 4 + 1, none⟩ (.int .i64 first)).setCell ⟨g, i * 4 + 2, none⟩ (.int .i64 last) = W3
  have HO3 : Hid (OwnE TxnE 38 W3 W0.heap.size (some ⟨g, 0, none⟩) n c1 ((L.set i ⟨x.id, first, x.last, x.kept⟩).set i ⟨x.id, first, last, x.kept⟩)) := Lib.hid (by rw [← hW3]; exact HF2.out)
  rw [hW3] at hgr3
  clear HF1 HF2 q0 q1 q2 q3 qf hW3
  have HS0_3 := Lib.hid (HS0_2.out.grown hgr3 (by omega))
  have HS1_3 := Lib.hid (HS1_2.out.grown hgr3 (by omega))
  have HS2_3 := Lib.hid (HS2_2.out.grown hgr3 (by omega))
  have HB_3 := Lib.hid (below_grown HB_2.out hgr3 (by omega))
  have hw_3 := HB_3.out.size
  have hws_3 := (hgr3).size
  clear f0_2 HS0_2 f1_2 HS1_2 f2_2 HS2_2
  clear hgr3
  have f0_3 := str2 HS0_3.out
  have hl0_3 := HS0_3.out.lt
  have f1_3 := str5 HS1_3.out
  have hl1_3 := HS1_3.out.lt
  have f2_3 := str2 HS2_3.out
  have hl2_3 := HS2_3.out.lt
  obtain ⟨b, o, x2, e2, hgs3, hx2, q0, q1, q2, q3⟩ := txn_at HO3.out.elems hin
  rw [hsx2] at hx2
  obtain rfl : x2 = ⟨x.id, first, last, x.kept⟩ := (Option.some.inj hx2).symm
  clear hx2
  cases e2
  rw [Nat.zero_add] at q3
  replace q3 : W3.cell? ⟨g, i * 4 + 3, none⟩ = some (.int .i64 x.kept) := q3
  have hrow := HO3.out.row (by omega)
  obtain ⟨g3, cur3, vs3, e3, hbg3, hh3, -⟩ := hrow
  cases e3
  have qf := fun j => Str.frozen (w := W3) ⟨_, hh3⟩ j
  have HO3d := Lib.hid (HO3.out.next ((bsame W3).drew))
  clear hh3 q0 q1 q2
  have q0f := fun j => HS0_3.out.frozen j
  have q2f := fun j => HS2_3.out.frozen j
  go_region
  go_wp2_with fail
  have HF3 := Lib.hid (TxnE.field (i := 3) HO3.out hin (by decide) hsx2 (y := ⟨x.id, first, last, (x.kept + keep)⟩) rfl)
  have hsx3 : (((L.set i ⟨x.id, first, x.last, x.kept⟩).set i ⟨x.id, first, last, x.kept⟩).set i ⟨x.id, first, last, (x.kept + keep)⟩)[i]? = some ⟨x.id, first, last, (x.kept + keep)⟩ := set_get (by simpa using hli)
  have HF4 := Lib.hid (TxnE.field (i := 3) HF3.out hin (by decide) hsx3 (y := ⟨x.id, first, last, 0⟩) rfl)
  have hsx4 : ((((L.set i ⟨x.id, first, x.last, x.kept⟩).set i ⟨x.id, first, last, x.kept⟩).set i ⟨x.id, first, last, (x.kept + keep)⟩).set i ⟨x.id, first, last, 0⟩)[i]? = some ⟨x.id, first, last, 0⟩ := set_get (by simpa using hli)
  have HB4 := Lib.hid (below_grown HB_3.out (grown_set (grown_set (grown_refl W3 g) (i * 4 + 3) (.int .i64 (x.kept + keep))) (i * 4 + 3) (.int .i64 0)) (by omega))
  have HLX : Hid (((((L.set i ⟨x.id, first, x.last, x.kept⟩).set i ⟨x.id, first, last, x.kept⟩).set i ⟨x.id, first, last, (x.kept + keep)⟩).set i ⟨x.id, first, last, 0⟩) = TxnP.put L ⟨id, first, last, 0⟩) := Lib.hid (by simp only [List.set_set]; rw [← hid]; exact TxnP.put_set HR.out hx rfl)
  have HO4 := Lib.hid (HLX.out ▸ HF4.out)
  refine bodyPost_ret (v := .tuple #[.agg #[.slice (some ⟨g, 0, none⟩) n c1, .int .i64 nx], .int .i64 0, .bool true]) (by simp [results, Try.results7, go_sem, *]) rfl ⟨_, _, _, rfl, ((TxnE.grown (TxnE.grown (TxnE.grown HO4.out (grown_set (grown_refl _ (w.heap.size)) 0 (.slice (some ⟨g, 0, none⟩) n c1)) (fun a e => by have := HO4.out.ge a e; omega)) (grown_set (grown_refl _ (w.heap.size + 1 + 1)) 0 (.slice (some ⟨g, 0, none⟩) n c1)) (fun a e => by have := HO4.out.ge a e; omega)) (grown_set (grown_refl _ (w.heap.size + 1 + 1)) 1 (.int .i64 nx)) (fun a e => by have := HO4.out.ge a e; omega)).next ((bsame _).drew)).elems, ((below_grown (below_grown (below_grown HB4.out (grown_set (grown_refl _ (w.heap.size)) 0 (.slice (some ⟨g, 0, none⟩) n c1)) (by omega)) (grown_set (grown_refl _ (w.heap.size + 1 + 1)) 0 (.slice (some ⟨g, 0, none⟩) n c1)) (by omega)) (grown_set (grown_refl _ (w.heap.size + 1 + 1)) 1 (.int .i64 nx)) (by omega))).drew⟩
set_option maxRecDepth 100000 in
set_option maxHeartbeats 4000000 in
theorem go_note_new (first last keep id : Int) (w : World) (hE : Elems TxnE w w.heap.size A n c L) (hn : n ≤ 1000) (hx1 : 1 ≤ nx) (hx2 : nx ≤ 1000000000000000) (hr : TxnP.Rises L) (x : TxnX) (hgx : TxnP.get L id = x) (hh : TxnP.has L id = true) (hz : x.last = 0) (hk : ¬ x.kept + keep < 0) (hb : (-1000000000000000 ≤ x.kept ∧ x.kept ≤ 1000000000000000) ∧ (-1000000000000000 ≤ keep ∧ keep ≤ 1000000000000000)) :
    Calls Try.prog 7 #[.agg #[.slice A n c, .int .i64 nx], .agg #[.int .i64 1, .int .i64 id, .int .i64 first, .int .i64 last, .int .i64 keep]] w (GivesGo w nx (TxnP.put L ⟨id, first, last, (x.kept + keep)⟩) 0 true) := by
  obtain ⟨i0, hi0, iz0, iz1, iz2⟩ := info_parts infoX
  have HI0 := Lib.hid hi0
  have HE := Lib.hid hE
  clear hE hi0
  obtain ⟨W0, hW0⟩ : ∃ W0, (((w).alloc (.cells #[.slice A n c, .int .i64 nx] 28)).alloc (.cells #[.int .i64 1, .int .i64 id, .int .i64 first, .int .i64 last, .int .i64 keep] 31)).alloc (.cells #[.slice none 0 0, .int .i64 0] 28) = W0 := ⟨_, rfl⟩
  have HS0_0 : Hid (Str W0 (w.heap.size) #[.slice A n c, .int .i64 nx]) := Lib.hid (by rw [← hW0]; have := ((Str.new (w) #[.slice A n c, .int .i64 nx] 28).alloc (.cells #[.int .i64 1, .int .i64 id, .int .i64 first, .int .i64 last, .int .i64 keep] 31)).alloc (.cells #[.slice none 0 0, .int .i64 0] 28); simpa using this)
  have HS1_0 : Hid (Str W0 (w.heap.size + 1) #[.int .i64 1, .int .i64 id, .int .i64 first, .int .i64 last, .int .i64 keep]) := Lib.hid (by rw [← hW0]; have := (Str.new ((w).alloc (.cells #[.slice A n c, .int .i64 nx] 28)) #[.int .i64 1, .int .i64 id, .int .i64 first, .int .i64 last, .int .i64 keep] 31).alloc (.cells #[.slice none 0 0, .int .i64 0] 28); simpa using this)
  have HS2_0 : Hid (Str W0 (w.heap.size + 1 + 1) #[.slice none 0 0, .int .i64 0]) := Lib.hid (by rw [← hW0]; have := Str.new (((w).alloc (.cells #[.slice A n c, .int .i64 nx] 28)).alloc (.cells #[.int .i64 1, .int .i64 id, .int .i64 first, .int .i64 last, .int .i64 keep] 31)) #[.slice none 0 0, .int .i64 0] 28; simpa using this)
  have HB_0 : Hid (Below w.heap.size w W0) := Lib.hid (by rw [← hW0]; exact balloc (balloc (balloc (bsame w) _) _) _)
  have hw_0 := HB_0.out.size
  have hz0 : W0.heap.size = w.heap.size + 1 + 1 + 1 := by rw [← hW0]; simp
  have HW0 := Lib.hid hW0
  have hl0_0 := HS0_0.out.lt
  have hl1_0 := HS1_0.out.lt
  have hl2_0 := HS2_0.out.lt
  have hO0 := TxnE.empty W0 38 W0.heap.size (Nat.le_refl _)
  have hb0 : Below W0.heap.size W0 (W0.alloc (.cells #[] 38)) := balloc (bsame W0) _
  have hE0 := (HE.out.below HB_0.out).below (w' := W0.alloc (.cells #[] 38)) (hb0.mono (by omega))
  obtain ⟨A1, c1, W1, happ, hO1, hb1, hg1, hA1⟩ := hO0.app (P := Try.prog) 26 26 i0 _ 32 Try.underlying26 HI0.out iz0 iz1 iz2 rfl (hO0.src hE0 (by omega) (by simp)) (by unfold maxLen; omega) (by omega) (by simp)
  simp only [Nat.zero_add, List.nil_append] at happ hO1
  have HO1 := Lib.hid hO1
  have HBx1 := Lib.hid (hb0.trans hb1)
  clear hO0 hE0 hb0 hb1 hg1 hA1 hO1
  have p0 := str2 HS0_0.out
  have p1 := str5 HS1_0.out
  have p2 := str2 HS2_0.out
  have f0_0 := str2 HS0_0.out
  have hl0_0 := HS0_0.out.lt
  have f1_0 := str5 HS1_0.out
  have hl1_0 := HS1_0.out.lt
  have f2_0 := str2 HS2_0.out
  have hl2_0 := HS2_0.out.lt
  have HS0_1 := Lib.hid (HS0_0.out.next HBx1.out)
  have HS1_1 := Lib.hid (HS1_0.out.next HBx1.out)
  have HS2_1 := Lib.hid (HS2_0.out.next HBx1.out)
  have HB_1 := Lib.hid (bstep HB_0.out HBx1.out)
  have hw_1 := HB_1.out.size
  have hws_1 := (HBx1.out).size
  clear f0_0 HS0_0 f1_0 HS1_0 f2_0 HS2_0
  have f0_1 := str2 HS0_1.out
  have hl0_1 := HS0_1.out.lt
  have f1_1 := str5 HS1_1.out
  have hl1_1 := HS1_1.out.lt
  have f2_1 := str2 HS2_1.out
  have hl2_1 := HS2_1.out.lt
  clear hl0_0 hl1_0 hl2_0
  rw [hz0] at happ
  rw [← hW0] at happ p0 p1 p2
  clear hW0 hz0
  have HR := Lib.hid hr
  have HH := Lib.hid hh
  have hlen := HE.out.len
  obtain ⟨y0, hy0, -⟩ := TxnP.has_iff.1 hh
  have hpos : 0 < n := by have := List.length_pos_of_mem hy0; omega
  have hcap := HO1.out.elems.cap
  obtain ⟨g, cur, vs, rfl, hbg, -⟩ := HO1.out.row (by omega)
  clear hr hh hy0
  go_enter Try.func7, Try.ntmps7
  have hgl : g < W1.heap.size := by obtain ⟨b, o, x, e, hb, -⟩ := txn_at HO1.out.elems hpos; cases e; exact hb
  go_wp2_with fail
  refine (place_any id _ ((HE.out.below HB_1.out).more hw_1)).mono ?_
  rintro e W2 ⟨v, rfl, hv, hb2⟩
  have HS0_2 := Lib.hid (HS0_1.out.next hb2)
  have HS1_2 := Lib.hid (HS1_1.out.next hb2)
  have HS2_2 := Lib.hid (HS2_1.out.next hb2)
  have HB_2 := Lib.hid (bstep HB_1.out hb2)
  have hw_2 := HB_2.out.size
  have hws_2 := (hb2).size
  clear f0_1 HS0_1 f1_1 HS1_1 f2_1 HS2_1
  have f0_2 := str2 HS0_2.out
  have hl0_2 := HS0_2.out.lt
  have f1_2 := str5 HS1_2.out
  have hl1_2 := HS1_2.out.lt
  have f2_2 := str2 HS2_2.out
  have hl2_2 := HS2_2.out.lt
  have HO2 : Hid (OwnE TxnE 38 W2 W0.heap.size (some ⟨g, 0, none⟩) n c1 L) := Lib.hid (HO1.out.next hb2)
  clear hb2
  obtain ⟨i, x1, rfl, hx, hid⟩ := TxnP.at_yes hv HH.out
  obtain rfl : x = x1 := by rw [← hgx, ← hid]; exact TxnP.get_of HR.out (List.mem_of_getElem? hx)
  have hin : i < n := by rw [← hlen]; exact (List.getElem?_eq_some_iff.1 hx).1
  clear hv
  obtain ⟨b, o, x2, e2, hgs, hx2, q0, q1, q2, q3⟩ := txn_at HO2.out.elems hin
  rw [hx] at hx2
  cases hx2
  cases e2
  rw [Nat.zero_add] at q0 q1 q2 q3
  obtain ⟨⟨k1, k2⟩, k3, k4⟩ := hb
  have d1 : decide ((i : Int) < 0) = false := by simp
  have d2 : (x.last == 0) = true := by simpa using hz
  have d3 : decide (x.kept + keep < 0) = false := by simp; omega
  have hrow := HO2.out.row (by omega)
  obtain ⟨g3, cur3, vs3, e3, hbg3, hh3, -⟩ := hrow
  cases e3
  have qf := fun j => Str.frozen (w := W2) ⟨_, hh3⟩ j
  clear hh3
  have hwk : wrap64 (x.kept + keep) = x.kept + keep := by unfold wrap64; omega
  go_wp2_with fail
  have hli : i < L.length := by rw [hlen]; exact hin
  have HF1 := Lib.hid (TxnE.field (i := 1) HO2.out hin (by decide) hx (y := ⟨x.id, first, x.last, x.kept⟩) rfl)
  have hsx1 : (L.set i ⟨x.id, first, x.last, x.kept⟩)[i]? = some ⟨x.id, first, x.last, x.kept⟩ := set_get (by simpa using hli)
  have HF2 := Lib.hid (TxnE.field (i := 2) HF1.out hin (by decide) hsx1 (y := ⟨x.id, first, last, x.kept⟩) rfl)
  have hsx2 : ((L.set i ⟨x.id, first, x.last, x.kept⟩).set i ⟨x.id, first, last, x.kept⟩)[i]? = some ⟨x.id, first, last, x.kept⟩ := set_get (by simpa using hli)
  have hgr3 : W2.grownBy (((W2).setCell ⟨g, i * 4 + 1, none⟩ (.int .i64 first)).setCell ⟨g, i * 4 + 2, none⟩ (.int .i64 last)) (some g) := grown_set (grown_set (grown_refl W2 g) (i * 4 + 1) (.int .i64 first)) (i * 4 + 2) (.int .i64 last)
  generalize hW3 : ((W2).setCell ⟨g, i * 4 + 1, none⟩ (.int .i64 first)).setCell ⟨g, i * 4 + 2, none⟩ (.int .i64 last) = W3
  have HO3 : Hid (OwnE TxnE 38 W3 W0.heap.size (some ⟨g, 0, none⟩) n c1 ((L.set i ⟨x.id, first, x.last, x.kept⟩).set i ⟨x.id, first, last, x.kept⟩)) := Lib.hid (by rw [← hW3]; exact HF2.out)
  rw [hW3] at hgr3
  clear HF1 HF2 q0 q1 q2 q3 qf hW3
  have HS0_3 := Lib.hid (HS0_2.out.grown hgr3 (by omega))
  have HS1_3 := Lib.hid (HS1_2.out.grown hgr3 (by omega))
  have HS2_3 := Lib.hid (HS2_2.out.grown hgr3 (by omega))
  have HB_3 := Lib.hid (below_grown HB_2.out hgr3 (by omega))
  have hw_3 := HB_3.out.size
  have hws_3 := (hgr3).size
  clear f0_2 HS0_2 f1_2 HS1_2 f2_2 HS2_2
  clear hgr3
  have f0_3 := str2 HS0_3.out
  have hl0_3 := HS0_3.out.lt
  have f1_3 := str5 HS1_3.out
  have hl1_3 := HS1_3.out.lt
  have f2_3 := str2 HS2_3.out
  have hl2_3 := HS2_3.out.lt
  obtain ⟨b, o, x2, e2, hgs3, hx2, q0, q1, q2, q3⟩ := txn_at HO3.out.elems hin
  rw [hsx2] at hx2
  obtain rfl : x2 = ⟨x.id, first, last, x.kept⟩ := (Option.some.inj hx2).symm
  clear hx2
  cases e2
  rw [Nat.zero_add] at q3
  replace q3 : W3.cell? ⟨g, i * 4 + 3, none⟩ = some (.int .i64 x.kept) := q3
  have hrow := HO3.out.row (by omega)
  obtain ⟨g3, cur3, vs3, e3, hbg3, hh3, -⟩ := hrow
  cases e3
  have qf := fun j => Str.frozen (w := W3) ⟨_, hh3⟩ j
  have HO3d := Lib.hid (HO3.out.next ((bsame W3).drew))
  clear hh3 q0 q1 q2
  have q0f := fun j => HS0_3.out.frozen j
  have q2f := fun j => HS2_3.out.frozen j
  go_region
  go_wp2_with fail
  have HF3 := Lib.hid (TxnE.field (i := 3) HO3.out hin (by decide) hsx2 (y := ⟨x.id, first, last, (x.kept + keep)⟩) rfl)
  have hsx3 : (((L.set i ⟨x.id, first, x.last, x.kept⟩).set i ⟨x.id, first, last, x.kept⟩).set i ⟨x.id, first, last, (x.kept + keep)⟩)[i]? = some ⟨x.id, first, last, (x.kept + keep)⟩ := set_get (by simpa using hli)
  have HB4 := Lib.hid (below_grown HB_3.out (grown_set (grown_refl W3 g) (i * 4 + 3) (.int .i64 (x.kept + keep))) (by omega))
  have HLX : Hid ((((L.set i ⟨x.id, first, x.last, x.kept⟩).set i ⟨x.id, first, last, x.kept⟩).set i ⟨x.id, first, last, (x.kept + keep)⟩) = TxnP.put L ⟨id, first, last, (x.kept + keep)⟩) := Lib.hid (by simp only [List.set_set]; rw [← hid]; exact TxnP.put_set HR.out hx rfl)
  have HO4 := Lib.hid (HLX.out ▸ HF3.out)
  refine bodyPost_ret (v := .tuple #[.agg #[.slice (some ⟨g, 0, none⟩) n c1, .int .i64 nx], .int .i64 0, .bool true]) (by simp [results, Try.results7, go_sem, *]) rfl ⟨_, _, _, rfl, ((TxnE.grown (TxnE.grown (TxnE.grown HO4.out (grown_set (grown_refl _ (w.heap.size)) 0 (.slice (some ⟨g, 0, none⟩) n c1)) (fun a e => by have := HO4.out.ge a e; omega)) (grown_set (grown_refl _ (w.heap.size + 1 + 1)) 0 (.slice (some ⟨g, 0, none⟩) n c1)) (fun a e => by have := HO4.out.ge a e; omega)) (grown_set (grown_refl _ (w.heap.size + 1 + 1)) 1 (.int .i64 nx)) (fun a e => by have := HO4.out.ge a e; omega)).next ((bsame _).drew)).elems, ((below_grown (below_grown (below_grown HB4.out (grown_set (grown_refl _ (w.heap.size)) 0 (.slice (some ⟨g, 0, none⟩) n c1)) (by omega)) (grown_set (grown_refl _ (w.heap.size + 1 + 1)) 0 (.slice (some ⟨g, 0, none⟩) n c1)) (by omega)) (grown_set (grown_refl _ (w.heap.size + 1 + 1)) 1 (.int .i64 nx)) (by omega))).drew⟩
set_option maxRecDepth 100000 in
set_option maxHeartbeats 4000000 in
theorem go_note_oldNeg (first last keep id : Int) (w : World) (hE : Elems TxnE w w.heap.size A n c L) (hn : n ≤ 1000) (hx1 : 1 ≤ nx) (hx2 : nx ≤ 1000000000000000) (hr : TxnP.Rises L) (x : TxnX) (hgx : TxnP.get L id = x) (hh : TxnP.has L id = true) (hz : ¬ x.last = 0) (hk : x.kept + keep < 0) (hb : (-1000000000000000 ≤ x.kept ∧ x.kept ≤ 1000000000000000) ∧ (-1000000000000000 ≤ keep ∧ keep ≤ 1000000000000000)) :
    Calls Try.prog 7 #[.agg #[.slice A n c, .int .i64 nx], .agg #[.int .i64 1, .int .i64 id, .int .i64 first, .int .i64 last, .int .i64 keep]] w (GivesGo w nx (TxnP.put L ⟨id, x.first, last, 0⟩) 0 true) := by
  obtain ⟨i0, hi0, iz0, iz1, iz2⟩ := info_parts infoX
  have HI0 := Lib.hid hi0
  have HE := Lib.hid hE
  clear hE hi0
  obtain ⟨W0, hW0⟩ : ∃ W0, (((w).alloc (.cells #[.slice A n c, .int .i64 nx] 28)).alloc (.cells #[.int .i64 1, .int .i64 id, .int .i64 first, .int .i64 last, .int .i64 keep] 31)).alloc (.cells #[.slice none 0 0, .int .i64 0] 28) = W0 := ⟨_, rfl⟩
  have HS0_0 : Hid (Str W0 (w.heap.size) #[.slice A n c, .int .i64 nx]) := Lib.hid (by rw [← hW0]; have := ((Str.new (w) #[.slice A n c, .int .i64 nx] 28).alloc (.cells #[.int .i64 1, .int .i64 id, .int .i64 first, .int .i64 last, .int .i64 keep] 31)).alloc (.cells #[.slice none 0 0, .int .i64 0] 28); simpa using this)
  have HS1_0 : Hid (Str W0 (w.heap.size + 1) #[.int .i64 1, .int .i64 id, .int .i64 first, .int .i64 last, .int .i64 keep]) := Lib.hid (by rw [← hW0]; have := (Str.new ((w).alloc (.cells #[.slice A n c, .int .i64 nx] 28)) #[.int .i64 1, .int .i64 id, .int .i64 first, .int .i64 last, .int .i64 keep] 31).alloc (.cells #[.slice none 0 0, .int .i64 0] 28); simpa using this)
  have HS2_0 : Hid (Str W0 (w.heap.size + 1 + 1) #[.slice none 0 0, .int .i64 0]) := Lib.hid (by rw [← hW0]; have := Str.new (((w).alloc (.cells #[.slice A n c, .int .i64 nx] 28)).alloc (.cells #[.int .i64 1, .int .i64 id, .int .i64 first, .int .i64 last, .int .i64 keep] 31)) #[.slice none 0 0, .int .i64 0] 28; simpa using this)
  have HB_0 : Hid (Below w.heap.size w W0) := Lib.hid (by rw [← hW0]; exact balloc (balloc (balloc (bsame w) _) _) _)
  have hw_0 := HB_0.out.size
  have hz0 : W0.heap.size = w.heap.size + 1 + 1 + 1 := by rw [← hW0]; simp
  have HW0 := Lib.hid hW0
  have hl0_0 := HS0_0.out.lt
  have hl1_0 := HS1_0.out.lt
  have hl2_0 := HS2_0.out.lt
  have hO0 := TxnE.empty W0 38 W0.heap.size (Nat.le_refl _)
  have hb0 : Below W0.heap.size W0 (W0.alloc (.cells #[] 38)) := balloc (bsame W0) _
  have hE0 := (HE.out.below HB_0.out).below (w' := W0.alloc (.cells #[] 38)) (hb0.mono (by omega))
  obtain ⟨A1, c1, W1, happ, hO1, hb1, hg1, hA1⟩ := hO0.app (P := Try.prog) 26 26 i0 _ 32 Try.underlying26 HI0.out iz0 iz1 iz2 rfl (hO0.src hE0 (by omega) (by simp)) (by unfold maxLen; omega) (by omega) (by simp)
  simp only [Nat.zero_add, List.nil_append] at happ hO1
  have HO1 := Lib.hid hO1
  have HBx1 := Lib.hid (hb0.trans hb1)
  clear hO0 hE0 hb0 hb1 hg1 hA1 hO1
  have p0 := str2 HS0_0.out
  have p1 := str5 HS1_0.out
  have p2 := str2 HS2_0.out
  have f0_0 := str2 HS0_0.out
  have hl0_0 := HS0_0.out.lt
  have f1_0 := str5 HS1_0.out
  have hl1_0 := HS1_0.out.lt
  have f2_0 := str2 HS2_0.out
  have hl2_0 := HS2_0.out.lt
  have HS0_1 := Lib.hid (HS0_0.out.next HBx1.out)
  have HS1_1 := Lib.hid (HS1_0.out.next HBx1.out)
  have HS2_1 := Lib.hid (HS2_0.out.next HBx1.out)
  have HB_1 := Lib.hid (bstep HB_0.out HBx1.out)
  have hw_1 := HB_1.out.size
  have hws_1 := (HBx1.out).size
  clear f0_0 HS0_0 f1_0 HS1_0 f2_0 HS2_0
  have f0_1 := str2 HS0_1.out
  have hl0_1 := HS0_1.out.lt
  have f1_1 := str5 HS1_1.out
  have hl1_1 := HS1_1.out.lt
  have f2_1 := str2 HS2_1.out
  have hl2_1 := HS2_1.out.lt
  clear hl0_0 hl1_0 hl2_0
  rw [hz0] at happ
  rw [← hW0] at happ p0 p1 p2
  clear hW0 hz0
  have HR := Lib.hid hr
  have HH := Lib.hid hh
  have hlen := HE.out.len
  obtain ⟨y0, hy0, -⟩ := TxnP.has_iff.1 hh
  have hpos : 0 < n := by have := List.length_pos_of_mem hy0; omega
  have hcap := HO1.out.elems.cap
  obtain ⟨g, cur, vs, rfl, hbg, -⟩ := HO1.out.row (by omega)
  clear hr hh hy0
  go_enter Try.func7, Try.ntmps7
  have hgl : g < W1.heap.size := by obtain ⟨b, o, x, e, hb, -⟩ := txn_at HO1.out.elems hpos; cases e; exact hb
  go_wp2_with fail
  refine (place_any id _ ((HE.out.below HB_1.out).more hw_1)).mono ?_
  rintro e W2 ⟨v, rfl, hv, hb2⟩
  have HS0_2 := Lib.hid (HS0_1.out.next hb2)
  have HS1_2 := Lib.hid (HS1_1.out.next hb2)
  have HS2_2 := Lib.hid (HS2_1.out.next hb2)
  have HB_2 := Lib.hid (bstep HB_1.out hb2)
  have hw_2 := HB_2.out.size
  have hws_2 := (hb2).size
  clear f0_1 HS0_1 f1_1 HS1_1 f2_1 HS2_1
  have f0_2 := str2 HS0_2.out
  have hl0_2 := HS0_2.out.lt
  have f1_2 := str5 HS1_2.out
  have hl1_2 := HS1_2.out.lt
  have f2_2 := str2 HS2_2.out
  have hl2_2 := HS2_2.out.lt
  have HO2 : Hid (OwnE TxnE 38 W2 W0.heap.size (some ⟨g, 0, none⟩) n c1 L) := Lib.hid (HO1.out.next hb2)
  clear hb2
  obtain ⟨i, x1, rfl, hx, hid⟩ := TxnP.at_yes hv HH.out
  obtain rfl : x = x1 := by rw [← hgx, ← hid]; exact TxnP.get_of HR.out (List.mem_of_getElem? hx)
  have hin : i < n := by rw [← hlen]; exact (List.getElem?_eq_some_iff.1 hx).1
  clear hv
  obtain ⟨b, o, x2, e2, hgs, hx2, q0, q1, q2, q3⟩ := txn_at HO2.out.elems hin
  rw [hx] at hx2
  cases hx2
  cases e2
  rw [Nat.zero_add] at q0 q1 q2 q3
  obtain ⟨⟨k1, k2⟩, k3, k4⟩ := hb
  have d1 : decide ((i : Int) < 0) = false := by simp
  have d2 : (x.last == 0) = false := by simpa using hz
  have d3 : decide (x.kept + keep < 0) = true := by simpa using hk
  have hrow := HO2.out.row (by omega)
  obtain ⟨g3, cur3, vs3, e3, hbg3, hh3, -⟩ := hrow
  cases e3
  have qf := fun j => Str.frozen (w := W2) ⟨_, hh3⟩ j
  clear hh3
  have hwk : wrap64 (x.kept + keep) = x.kept + keep := by unfold wrap64; omega
  go_wp2_with fail
  have hli : i < L.length := by rw [hlen]; exact hin
  have HF1 := Lib.hid (TxnE.field (i := 2) HO2.out hin (by decide) hx (y := ⟨x.id, x.first, last, x.kept⟩) rfl)
  have hsx1 : (L.set i ⟨x.id, x.first, last, x.kept⟩)[i]? = some ⟨x.id, x.first, last, x.kept⟩ := set_get (by simpa using hli)
  have hgr3 : W2.grownBy ((W2).setCell ⟨g, i * 4 + 2, none⟩ (.int .i64 last)) (some g) := grown_set (grown_refl W2 g) (i * 4 + 2) (.int .i64 last)
  generalize hW3 : (W2).setCell ⟨g, i * 4 + 2, none⟩ (.int .i64 last) = W3
  have HO3 : Hid (OwnE TxnE 38 W3 W0.heap.size (some ⟨g, 0, none⟩) n c1 (L.set i ⟨x.id, x.first, last, x.kept⟩)) := Lib.hid (by rw [← hW3]; exact HF1.out)
  rw [hW3] at hgr3
  clear HF1 q0 q1 q2 q3 qf hW3
  have HS0_3 := Lib.hid (HS0_2.out.grown hgr3 (by omega))
  have HS1_3 := Lib.hid (HS1_2.out.grown hgr3 (by omega))
  have HS2_3 := Lib.hid (HS2_2.out.grown hgr3 (by omega))
  have HB_3 := Lib.hid (below_grown HB_2.out hgr3 (by omega))
  have hw_3 := HB_3.out.size
  have hws_3 := (hgr3).size
  clear f0_2 HS0_2 f1_2 HS1_2 f2_2 HS2_2
  clear hgr3
  have f0_3 := str2 HS0_3.out
  have hl0_3 := HS0_3.out.lt
  have f1_3 := str5 HS1_3.out
  have hl1_3 := HS1_3.out.lt
  have f2_3 := str2 HS2_3.out
  have hl2_3 := HS2_3.out.lt
  obtain ⟨b, o, x2, e2, hgs3, hx2, q0, q1, q2, q3⟩ := txn_at HO3.out.elems hin
  rw [hsx1] at hx2
  obtain rfl : x2 = ⟨x.id, x.first, last, x.kept⟩ := (Option.some.inj hx2).symm
  clear hx2
  cases e2
  rw [Nat.zero_add] at q3
  replace q3 : W3.cell? ⟨g, i * 4 + 3, none⟩ = some (.int .i64 x.kept) := q3
  have hrow := HO3.out.row (by omega)
  obtain ⟨g3, cur3, vs3, e3, hbg3, hh3, -⟩ := hrow
  cases e3
  have qf := fun j => Str.frozen (w := W3) ⟨_, hh3⟩ j
  have HO3d := Lib.hid (HO3.out.next ((bsame W3).drew))
  clear hh3 q0 q1 q2
  have q0f := fun j => HS0_3.out.frozen j
  have q2f := fun j => HS2_3.out.frozen j
  go_region
  go_wp2_with fail
  have HF2 := Lib.hid (TxnE.field (i := 3) HO3.out hin (by decide) hsx1 (y := ⟨x.id, x.first, last, (x.kept + keep)⟩) rfl)
  have hsx2 : ((L.set i ⟨x.id, x.first, last, x.kept⟩).set i ⟨x.id, x.first, last, (x.kept + keep)⟩)[i]? = some ⟨x.id, x.first, last, (x.kept + keep)⟩ := set_get (by simpa using hli)
  have HF3 := Lib.hid (TxnE.field (i := 3) HF2.out hin (by decide) hsx2 (y := ⟨x.id, x.first, last, 0⟩) rfl)
  have hsx3 : (((L.set i ⟨x.id, x.first, last, x.kept⟩).set i ⟨x.id, x.first, last, (x.kept + keep)⟩).set i ⟨x.id, x.first, last, 0⟩)[i]? = some ⟨x.id, x.first, last, 0⟩ := set_get (by simpa using hli)
  have HB4 := Lib.hid (below_grown HB_3.out (grown_set (grown_set (grown_refl W3 g) (i * 4 + 3) (.int .i64 (x.kept + keep))) (i * 4 + 3) (.int .i64 0)) (by omega))
  have HLX : Hid ((((L.set i ⟨x.id, x.first, last, x.kept⟩).set i ⟨x.id, x.first, last, (x.kept + keep)⟩).set i ⟨x.id, x.first, last, 0⟩) = TxnP.put L ⟨id, x.first, last, 0⟩) := Lib.hid (by simp only [List.set_set]; rw [← hid]; exact TxnP.put_set HR.out hx rfl)
  have HO4 := Lib.hid (HLX.out ▸ HF3.out)
  refine bodyPost_ret (v := .tuple #[.agg #[.slice (some ⟨g, 0, none⟩) n c1, .int .i64 nx], .int .i64 0, .bool true]) (by simp [results, Try.results7, go_sem, *]) rfl ⟨_, _, _, rfl, ((TxnE.grown (TxnE.grown (TxnE.grown HO4.out (grown_set (grown_refl _ (w.heap.size)) 0 (.slice (some ⟨g, 0, none⟩) n c1)) (fun a e => by have := HO4.out.ge a e; omega)) (grown_set (grown_refl _ (w.heap.size + 1 + 1)) 0 (.slice (some ⟨g, 0, none⟩) n c1)) (fun a e => by have := HO4.out.ge a e; omega)) (grown_set (grown_refl _ (w.heap.size + 1 + 1)) 1 (.int .i64 nx)) (fun a e => by have := HO4.out.ge a e; omega)).next ((bsame _).drew)).elems, ((below_grown (below_grown (below_grown HB4.out (grown_set (grown_refl _ (w.heap.size)) 0 (.slice (some ⟨g, 0, none⟩) n c1)) (by omega)) (grown_set (grown_refl _ (w.heap.size + 1 + 1)) 0 (.slice (some ⟨g, 0, none⟩) n c1)) (by omega)) (grown_set (grown_refl _ (w.heap.size + 1 + 1)) 1 (.int .i64 nx)) (by omega))).drew⟩
set_option maxRecDepth 100000 in
set_option maxHeartbeats 4000000 in
theorem go_note_old (first last keep id : Int) (w : World) (hE : Elems TxnE w w.heap.size A n c L) (hn : n ≤ 1000) (hx1 : 1 ≤ nx) (hx2 : nx ≤ 1000000000000000) (hr : TxnP.Rises L) (x : TxnX) (hgx : TxnP.get L id = x) (hh : TxnP.has L id = true) (hz : ¬ x.last = 0) (hk : ¬ x.kept + keep < 0) (hb : (-1000000000000000 ≤ x.kept ∧ x.kept ≤ 1000000000000000) ∧ (-1000000000000000 ≤ keep ∧ keep ≤ 1000000000000000)) :
    Calls Try.prog 7 #[.agg #[.slice A n c, .int .i64 nx], .agg #[.int .i64 1, .int .i64 id, .int .i64 first, .int .i64 last, .int .i64 keep]] w (GivesGo w nx (TxnP.put L ⟨id, x.first, last, (x.kept + keep)⟩) 0 true) := by
  obtain ⟨i0, hi0, iz0, iz1, iz2⟩ := info_parts infoX
  have HI0 := Lib.hid hi0
  have HE := Lib.hid hE
  clear hE hi0
  obtain ⟨W0, hW0⟩ : ∃ W0, (((w).alloc (.cells #[.slice A n c, .int .i64 nx] 28)).alloc (.cells #[.int .i64 1, .int .i64 id, .int .i64 first, .int .i64 last, .int .i64 keep] 31)).alloc (.cells #[.slice none 0 0, .int .i64 0] 28) = W0 := ⟨_, rfl⟩
  have HS0_0 : Hid (Str W0 (w.heap.size) #[.slice A n c, .int .i64 nx]) := Lib.hid (by rw [← hW0]; have := ((Str.new (w) #[.slice A n c, .int .i64 nx] 28).alloc (.cells #[.int .i64 1, .int .i64 id, .int .i64 first, .int .i64 last, .int .i64 keep] 31)).alloc (.cells #[.slice none 0 0, .int .i64 0] 28); simpa using this)
  have HS1_0 : Hid (Str W0 (w.heap.size + 1) #[.int .i64 1, .int .i64 id, .int .i64 first, .int .i64 last, .int .i64 keep]) := Lib.hid (by rw [← hW0]; have := (Str.new ((w).alloc (.cells #[.slice A n c, .int .i64 nx] 28)) #[.int .i64 1, .int .i64 id, .int .i64 first, .int .i64 last, .int .i64 keep] 31).alloc (.cells #[.slice none 0 0, .int .i64 0] 28); simpa using this)
  have HS2_0 : Hid (Str W0 (w.heap.size + 1 + 1) #[.slice none 0 0, .int .i64 0]) := Lib.hid (by rw [← hW0]; have := Str.new (((w).alloc (.cells #[.slice A n c, .int .i64 nx] 28)).alloc (.cells #[.int .i64 1, .int .i64 id, .int .i64 first, .int .i64 last, .int .i64 keep] 31)) #[.slice none 0 0, .int .i64 0] 28; simpa using this)
  have HB_0 : Hid (Below w.heap.size w W0) := Lib.hid (by rw [← hW0]; exact balloc (balloc (balloc (bsame w) _) _) _)
  have hw_0 := HB_0.out.size
  have hz0 : W0.heap.size = w.heap.size + 1 + 1 + 1 := by rw [← hW0]; simp
  have HW0 := Lib.hid hW0
  have hl0_0 := HS0_0.out.lt
  have hl1_0 := HS1_0.out.lt
  have hl2_0 := HS2_0.out.lt
  have hO0 := TxnE.empty W0 38 W0.heap.size (Nat.le_refl _)
  have hb0 : Below W0.heap.size W0 (W0.alloc (.cells #[] 38)) := balloc (bsame W0) _
  have hE0 := (HE.out.below HB_0.out).below (w' := W0.alloc (.cells #[] 38)) (hb0.mono (by omega))
  obtain ⟨A1, c1, W1, happ, hO1, hb1, hg1, hA1⟩ := hO0.app (P := Try.prog) 26 26 i0 _ 32 Try.underlying26 HI0.out iz0 iz1 iz2 rfl (hO0.src hE0 (by omega) (by simp)) (by unfold maxLen; omega) (by omega) (by simp)
  simp only [Nat.zero_add, List.nil_append] at happ hO1
  have HO1 := Lib.hid hO1
  have HBx1 := Lib.hid (hb0.trans hb1)
  clear hO0 hE0 hb0 hb1 hg1 hA1 hO1
  have p0 := str2 HS0_0.out
  have p1 := str5 HS1_0.out
  have p2 := str2 HS2_0.out
  have f0_0 := str2 HS0_0.out
  have hl0_0 := HS0_0.out.lt
  have f1_0 := str5 HS1_0.out
  have hl1_0 := HS1_0.out.lt
  have f2_0 := str2 HS2_0.out
  have hl2_0 := HS2_0.out.lt
  have HS0_1 := Lib.hid (HS0_0.out.next HBx1.out)
  have HS1_1 := Lib.hid (HS1_0.out.next HBx1.out)
  have HS2_1 := Lib.hid (HS2_0.out.next HBx1.out)
  have HB_1 := Lib.hid (bstep HB_0.out HBx1.out)
  have hw_1 := HB_1.out.size
  have hws_1 := (HBx1.out).size
  clear f0_0 HS0_0 f1_0 HS1_0 f2_0 HS2_0
  have f0_1 := str2 HS0_1.out
  have hl0_1 := HS0_1.out.lt
  have f1_1 := str5 HS1_1.out
  have hl1_1 := HS1_1.out.lt
  have f2_1 := str2 HS2_1.out
  have hl2_1 := HS2_1.out.lt
  clear hl0_0 hl1_0 hl2_0
  rw [hz0] at happ
  rw [← hW0] at happ p0 p1 p2
  clear hW0 hz0
  have HR := Lib.hid hr
  have HH := Lib.hid hh
  have hlen := HE.out.len
  obtain ⟨y0, hy0, -⟩ := TxnP.has_iff.1 hh
  have hpos : 0 < n := by have := List.length_pos_of_mem hy0; omega
  have hcap := HO1.out.elems.cap
  obtain ⟨g, cur, vs, rfl, hbg, -⟩ := HO1.out.row (by omega)
  clear hr hh hy0
  go_enter Try.func7, Try.ntmps7
  have hgl : g < W1.heap.size := by obtain ⟨b, o, x, e, hb, -⟩ := txn_at HO1.out.elems hpos; cases e; exact hb
  go_wp2_with fail
  refine (place_any id _ ((HE.out.below HB_1.out).more hw_1)).mono ?_
  rintro e W2 ⟨v, rfl, hv, hb2⟩
  have HS0_2 := Lib.hid (HS0_1.out.next hb2)
  have HS1_2 := Lib.hid (HS1_1.out.next hb2)
  have HS2_2 := Lib.hid (HS2_1.out.next hb2)
  have HB_2 := Lib.hid (bstep HB_1.out hb2)
  have hw_2 := HB_2.out.size
  have hws_2 := (hb2).size
  clear f0_1 HS0_1 f1_1 HS1_1 f2_1 HS2_1
  have f0_2 := str2 HS0_2.out
  have hl0_2 := HS0_2.out.lt
  have f1_2 := str5 HS1_2.out
  have hl1_2 := HS1_2.out.lt
  have f2_2 := str2 HS2_2.out
  have hl2_2 := HS2_2.out.lt
  have HO2 : Hid (OwnE TxnE 38 W2 W0.heap.size (some ⟨g, 0, none⟩) n c1 L) := Lib.hid (HO1.out.next hb2)
  clear hb2
  obtain ⟨i, x1, rfl, hx, hid⟩ := TxnP.at_yes hv HH.out
  obtain rfl : x = x1 := by rw [← hgx, ← hid]; exact TxnP.get_of HR.out (List.mem_of_getElem? hx)
  have hin : i < n := by rw [← hlen]; exact (List.getElem?_eq_some_iff.1 hx).1
  clear hv
  obtain ⟨b, o, x2, e2, hgs, hx2, q0, q1, q2, q3⟩ := txn_at HO2.out.elems hin
  rw [hx] at hx2
  cases hx2
  cases e2
  rw [Nat.zero_add] at q0 q1 q2 q3
  obtain ⟨⟨k1, k2⟩, k3, k4⟩ := hb
  have d1 : decide ((i : Int) < 0) = false := by simp
  have d2 : (x.last == 0) = false := by simpa using hz
  have d3 : decide (x.kept + keep < 0) = false := by simp; omega
  have hrow := HO2.out.row (by omega)
  obtain ⟨g3, cur3, vs3, e3, hbg3, hh3, -⟩ := hrow
  cases e3
  have qf := fun j => Str.frozen (w := W2) ⟨_, hh3⟩ j
  clear hh3
  have hwk : wrap64 (x.kept + keep) = x.kept + keep := by unfold wrap64; omega
  go_wp2_with fail
  have hli : i < L.length := by rw [hlen]; exact hin
  have HF1 := Lib.hid (TxnE.field (i := 2) HO2.out hin (by decide) hx (y := ⟨x.id, x.first, last, x.kept⟩) rfl)
  have hsx1 : (L.set i ⟨x.id, x.first, last, x.kept⟩)[i]? = some ⟨x.id, x.first, last, x.kept⟩ := set_get (by simpa using hli)
  have hgr3 : W2.grownBy ((W2).setCell ⟨g, i * 4 + 2, none⟩ (.int .i64 last)) (some g) := grown_set (grown_refl W2 g) (i * 4 + 2) (.int .i64 last)
  generalize hW3 : (W2).setCell ⟨g, i * 4 + 2, none⟩ (.int .i64 last) = W3
  have HO3 : Hid (OwnE TxnE 38 W3 W0.heap.size (some ⟨g, 0, none⟩) n c1 (L.set i ⟨x.id, x.first, last, x.kept⟩)) := Lib.hid (by rw [← hW3]; exact HF1.out)
  rw [hW3] at hgr3
  clear HF1 q0 q1 q2 q3 qf hW3
  have HS0_3 := Lib.hid (HS0_2.out.grown hgr3 (by omega))
  have HS1_3 := Lib.hid (HS1_2.out.grown hgr3 (by omega))
  have HS2_3 := Lib.hid (HS2_2.out.grown hgr3 (by omega))
  have HB_3 := Lib.hid (below_grown HB_2.out hgr3 (by omega))
  have hw_3 := HB_3.out.size
  have hws_3 := (hgr3).size
  clear f0_2 HS0_2 f1_2 HS1_2 f2_2 HS2_2
  clear hgr3
  have f0_3 := str2 HS0_3.out
  have hl0_3 := HS0_3.out.lt
  have f1_3 := str5 HS1_3.out
  have hl1_3 := HS1_3.out.lt
  have f2_3 := str2 HS2_3.out
  have hl2_3 := HS2_3.out.lt
  obtain ⟨b, o, x2, e2, hgs3, hx2, q0, q1, q2, q3⟩ := txn_at HO3.out.elems hin
  rw [hsx1] at hx2
  obtain rfl : x2 = ⟨x.id, x.first, last, x.kept⟩ := (Option.some.inj hx2).symm
  clear hx2
  cases e2
  rw [Nat.zero_add] at q3
  replace q3 : W3.cell? ⟨g, i * 4 + 3, none⟩ = some (.int .i64 x.kept) := q3
  have hrow := HO3.out.row (by omega)
  obtain ⟨g3, cur3, vs3, e3, hbg3, hh3, -⟩ := hrow
  cases e3
  have qf := fun j => Str.frozen (w := W3) ⟨_, hh3⟩ j
  have HO3d := Lib.hid (HO3.out.next ((bsame W3).drew))
  clear hh3 q0 q1 q2
  have q0f := fun j => HS0_3.out.frozen j
  have q2f := fun j => HS2_3.out.frozen j
  go_region
  go_wp2_with fail
  have HF2 := Lib.hid (TxnE.field (i := 3) HO3.out hin (by decide) hsx1 (y := ⟨x.id, x.first, last, (x.kept + keep)⟩) rfl)
  have hsx2 : ((L.set i ⟨x.id, x.first, last, x.kept⟩).set i ⟨x.id, x.first, last, (x.kept + keep)⟩)[i]? = some ⟨x.id, x.first, last, (x.kept + keep)⟩ := set_get (by simpa using hli)
  have HB4 := Lib.hid (below_grown HB_3.out (grown_set (grown_refl W3 g) (i * 4 + 3) (.int .i64 (x.kept + keep))) (by omega))
  have HLX : Hid (((L.set i ⟨x.id, x.first, last, x.kept⟩).set i ⟨x.id, x.first, last, (x.kept + keep)⟩) = TxnP.put L ⟨id, x.first, last, (x.kept + keep)⟩) := Lib.hid (by simp only [List.set_set]; rw [← hid]; exact TxnP.put_set HR.out hx rfl)
  have HO4 := Lib.hid (HLX.out ▸ HF2.out)
  refine bodyPost_ret (v := .tuple #[.agg #[.slice (some ⟨g, 0, none⟩) n c1, .int .i64 nx], .int .i64 0, .bool true]) (by simp [results, Try.results7, go_sem, *]) rfl ⟨_, _, _, rfl, ((TxnE.grown (TxnE.grown (TxnE.grown HO4.out (grown_set (grown_refl _ (w.heap.size)) 0 (.slice (some ⟨g, 0, none⟩) n c1)) (fun a e => by have := HO4.out.ge a e; omega)) (grown_set (grown_refl _ (w.heap.size + 1 + 1)) 0 (.slice (some ⟨g, 0, none⟩) n c1)) (fun a e => by have := HO4.out.ge a e; omega)) (grown_set (grown_refl _ (w.heap.size + 1 + 1)) 1 (.int .i64 nx)) (fun a e => by have := HO4.out.ge a e; omega)).next ((bsame _).drew)).elems, ((below_grown (below_grown (below_grown HB4.out (grown_set (grown_refl _ (w.heap.size)) 0 (.slice (some ⟨g, 0, none⟩) n c1)) (by omega)) (grown_set (grown_refl _ (w.heap.size + 1 + 1)) 0 (.slice (some ⟨g, 0, none⟩) n c1)) (by omega)) (grown_set (grown_refl _ (w.heap.size + 1 + 1)) 1 (.int .i64 nx)) (by omega))).drew⟩
end Go.Proofs.Ytbcpepjedhafbaa.RefTxn
