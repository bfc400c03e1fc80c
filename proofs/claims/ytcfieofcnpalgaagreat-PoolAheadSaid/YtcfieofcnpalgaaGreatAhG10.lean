/-
  Parts of the proof of PoolAhead.
-/
import Derived.Test.YtcfieofcnpalgaaGreatAhG9
import Derived.Test.YtcfieofcnpalgaaGreatAhG1
import Derived.Test.YtcfieofcnpalgaaGreatAhG2
import Derived.Laws.StructEq
section
namespace Go.Proofs.YtcfieofcnpalgaaGreat.DevW
open Go.RowKit Go.Maps
set_option linter.unusedVariables false
set_option linter.unusedSimpArgs false
variable {d sb mb : Nat} {bp bs : List Nat} {gb : Option Nat} {A : Option Addr} {n c nm : Nat} {es : List (Int × SlV)} {X : DevX}
/-- a page has been written once more -/
theorem Pages.wrote {w w' : World} {safe now : List (List UInt8)} {wr k g c' : Nat} {ps : List (List UInt8)} {p : List UInt8} (h : Pages w sb mb bp safe now wr nm es) (hnl : now.length = safe.length) (hk : k < safe.length)
    (hold : (MapP.get es (k : Int) = none ∧ A = none ∧ n = 0) ∨ ∃ s, MapP.get es (k : Int) = some s ∧ A = s.A ∧ n = s.n)
    (hrow : Pgs PT w' g (n + 1) c' (ps ++ [p])) (hg : A = some ⟨g, 0, none⟩ ∨ w.heap.size ≤ g) (hmap : MapM Tryz.prog intK slE 3 w' mb (nm + 1) (MapP.put (MapP.ltK intK) es (k : Int) ⟨some ⟨g, 0, none⟩, n + 1, c'⟩))
    (hkeep : ∀ b ∈ bp, b ≠ mb → (∀ a, A = some a → a.block ≠ b) → w'.heap[b]? = w.heap[b]?) :
    ∃ bp', Pages w' sb mb bp' safe (now.set k p) (wr + 1) (nm + 1) (MapP.put (MapP.ltK intK) es (k : Int) ⟨some ⟨g, 0, none⟩, n + 1, c'⟩) ∧ ∀ b ∈ bp', b ∈ bp ∨ w.heap.size ≤ b := by
  obtain ⟨a1, a2, a3, a4, rfl, a6, a7⟩ := h
  have hn6 := a6
  simp only [List.nodup_cons, List.mem_cons, not_or] at hn6
  obtain ⟨⟨hsm, hse⟩, hme, hee⟩ := hn6
  have hlt : ∀ y ∈ es, blk y.2 < w.heap.size := fun y hy => (a3 y hy).lt
  -- the block that turns is none of the others
  have hA : ∀ a, A = some a → ∃ s, (((k : Int), s) : Int × SlV) ∈ es ∧ blk s = a.block := fun a e => by
    rcases hold with ⟨-, e1, -⟩ | ⟨s, e1, e2, -⟩
    · rw [e1] at e; cases e
    · refine ⟨s, MapP.get_mem e1, ?_⟩
      unfold blk
      rw [← e2, e]
  have hinj : ∀ x ∈ es, ∀ y ∈ es, blk x.2 = blk y.2 → x = y := fun x hx y hy e => by
    have := List.pairwise_map.1 hee
    by_cases hxy : x = y
    · exact hxy
    · exact absurd e (by
        obtain ⟨i, hi, rfl⟩ := List.getElem_of_mem hx
        obtain ⟨j, hj, rfl⟩ := List.getElem_of_mem hy
        have hp := List.pairwise_iff_getElem.1 this
        rcases Nat.lt_trichotomy i j with h | rfl | h
        · exact hp i j hi hj h
        · exact absurd rfl hxy
        · exact fun e => hp j i hj hi h e.symm)
  have hsA : ∀ a, A = some a → a.block ≠ sb := fun a e e2 => by
    obtain ⟨s, hs, hb⟩ := hA a e
    exact hse (by rw [← e2, ← hb]; exact List.mem_map.2 ⟨_, hs, rfl⟩)
  have hmA : ∀ a, A = some a → a.block ≠ mb := fun a e e2 => by
    obtain ⟨s, hs, hb⟩ := hA a e
    exact hme (by rw [← e2, ← hb]; exact List.mem_map.2 ⟨_, hs, rfl⟩)
  have hgs : g ≠ sb := by
    rcases hg with e | e
    · exact hsA _ e
    · have := a1.lt; omega
  have hgm : g ≠ mb := by
    rcases hg with e | e
    · exact hmA _ e
    · have := a2.lt; omega
  have hge : ∀ y ∈ es, y.1 ≠ (k : Int) → g ≠ blk y.2 := fun y hy hne e2 => by
    rcases hg with e | e
    · obtain ⟨s, hs, hb⟩ := hA _ e
      have := hinj _ hs y hy (by rw [hb]; exact e2)
      exact hne (by rw [← this])
    · have := hlt y hy; omega
  have hln : n ≤ wr := by
    rcases hold with ⟨-, -, e⟩ | ⟨s, e1, -, e2⟩
    · omega
    · have := (a3 _ (MapP.get_mem e1)).le
      rw [e2]; exact this
  refine ⟨_, ⟨a1.at_ (hkeep sb (by simp) (by omega) (fun a e => hsA a e)), hmap, fun y hy => ?_, fun k' hk' hg' => ?_, rfl, ?_, by omega⟩, fun b hb => ?_⟩
  · rcases MapP.mem_put.1 hy with rfl | ⟨hy, hne⟩
    · refine ⟨by dsimp only; omega, by dsimp only; omega, ⟨ps ++ [p], rfl, hrow, by simp, ?_⟩, by dsimp only; omega⟩
      rw [List.getLast?_append]
      simp [hnl, hk]
    · have hy1 := a3 y hy
      obtain ⟨ps', e1, e2, e3, e4⟩ := hy1.pg
      have hbk : w'.heap[blk y.2]? = w.heap[blk y.2]? := hkeep _ (by simp only [List.mem_cons, List.mem_map]; exact .inr (.inr ⟨y, hy, rfl⟩)) (fun e => hme (by rw [← e]; exact List.mem_map.2 ⟨y, hy, rfl⟩)) (fun a e e5 => by
        obtain ⟨s, hs, hb⟩ := hA _ e
        have := hinj _ hs y hy (by rw [hb]; exact e5)
        exact hne (by rw [← this]))
      have hk0 := hy1.k0
      refine ⟨hy1.k0, hy1.k1, ⟨ps', e1, e2.at_ hbk, e3, ?_⟩, Nat.le_succ_of_le hy1.le⟩
      rw [e4, List.getElem?_set_ne (by omega)]
  · have h1 := MapP.get_none.1 hg'
    have hkk : k' ≠ k := fun e => h1 _ (MapP.mem_put.2 (.inl rfl)) (by rw [e])
    have h2 : MapP.get es (k' : Int) = none := MapP.get_none.2 fun q hq e => h1 q (MapP.mem_put.2 (.inr ⟨hq, by rw [e]; omega⟩)) e
    rw [List.getElem?_set_ne (fun e => hkk e.symm)]
    exact a4 k' hk' h2
  · have hp := (MapP.perm_ins (lt := MapP.ltK intK) ((k : Int), (⟨some ⟨g, 0, none⟩, n + 1, c'⟩ : SlV)) (MapP.del es (k : Int))).map (fun q => blk q.2)
    have hsub : ∀ x ∈ (MapP.del es (k : Int)).map (fun q => blk q.2), x ∈ es.map (fun q => blk q.2) := fun x hx => by
      obtain ⟨y, hy, rfl⟩ := List.mem_map.1 hx
      exact List.mem_map.2 ⟨y, (MapP.mem_del.1 hy).1, rfl⟩
    have hm : ∀ x, x ∈ (MapP.put (MapP.ltK intK) es (k : Int) (⟨some ⟨g, 0, none⟩, n + 1, c'⟩ : SlV)).map (fun q => blk q.2) → x = g ∨ x ∈ es.map (fun q => blk q.2) := fun x hx => by
      have h1 := (hp.mem_iff).1 hx
      rw [List.map_cons, List.mem_cons] at h1
      exact h1.imp id (hsub x)
    refine List.nodup_cons.2 ⟨fun hx => ?_, List.nodup_cons.2 ⟨fun hx => ?_, ?_⟩⟩
    · rcases List.mem_cons.1 hx with e | hx
      · exact hsm e
      · rcases hm _ hx with e | hx
        · exact hgs e.symm
        · exact hse hx
    · rcases hm _ hx with e | hx
      · exact hgm e.symm
      · exact hme hx
    · rw [MapP.put, hp.nodup_iff, List.map_cons]
      refine List.nodup_cons.2 ⟨fun hx => ?_, List.Sublist.nodup (List.Sublist.map _ List.filter_sublist) hee⟩
      obtain ⟨y, hy, e⟩ := List.mem_map.1 hx
      have hy' := MapP.mem_del.1 hy
      exact hge y hy'.1 hy'.2 e.symm
  · simp only [List.mem_cons, List.mem_map] at hb ⊢
    rcases hb with rfl | rfl | ⟨y, hy, rfl⟩
    · exact .inl (.inl rfl)
    · exact .inl (.inr (.inl rfl))
    · rcases MapP.mem_put.1 hy with rfl | ⟨hy, -⟩
      · rcases hg with e | e
        · obtain ⟨s, hs, hb⟩ := hA _ e
          exact .inl (.inr (.inr ⟨_, hs, hb⟩))
        · exact .inr e
      · exact .inl (.inr (.inr ⟨y, hy, rfl⟩))
/-- a page written -/
def _root_.Go.Proofs.YtcfieofcnpalgaaGreat.DevP.wrote (X : DevX) (k : Nat) (p : List UInt8) : DevX := { X with now := X.now.set k p, wr := X.wr + 1 }
attribute [local go_sem ↓] app_fold ldPage_fold bs_fold
set_option maxRecDepth 100000 in
set_option maxHeartbeats 2000000 in
theorem write_act (j k : Nat) (p : List UInt8) (s : Value) (w : World) (hJ : Str w j (jobC d (k : Int) p s)) (hp : p.length = 512) (hD : Dev w d bs X) (hs : DevP.Small X) (hj : j ∉ bs) (hk : k < X.safe.length) :
    Calls Tryz.prog 48 #[.pointer (some ⟨j, 0, none⟩)] w (Acts w d bs [] (DevP.wrote X k p) fun _ => True) := by
  have HJ := Lib.hid hJ
  have hjl := hJ.lt
  have HD := Lib.hid hD
  have hok := hD.ok
  have hN := hok.n1
  obtain ⟨sb, mb, bp, gb, A0, n0, c0, nm, es, hI, hbs⟩ := hD
  have hl := hI.box.lt
  have hml := hI.pages.map.lt
  have hnm : nm ≤ 1000000000 := Nat.le_trans hI.pages.nml hs.2.2
  have hk0 : (0 : Int) ≤ (k : Int) := by omega
  have hk2 : k ≤ 100000 := by omega
  obtain ⟨A, n, c, ps, hold, hps, hget, hAb⟩ : ∃ A n c ps, ((MapP.get es (k : Int) = none ∧ A = none ∧ n = 0) ∨ ∃ s, MapP.get es (k : Int) = some s ∧ A = s.A ∧ n = s.n) ∧ OwnE PageE PT w 0 A n c ps ∧ slE.val ((MapP.get es (k : Int)).getD ⟨none, 0, 0⟩) = .slice A n c ∧ (∀ a, A = some a → a.block ∈ bp) := by
    cases hg : MapP.get es (k : Int) with
    | none => exact ⟨none, 0, 0, [], .inl ⟨rfl, rfl, rfl⟩, OwnE.none_ _ _ _ _, rfl, by simp⟩
    | some sv =>
      obtain ⟨ps, h1, h2, -⟩ := (hI.pages.ent _ (MapP.get_mem hg)).pg
      refine ⟨sv.A, sv.n, sv.c, ps, .inr ⟨sv, rfl, rfl, rfl⟩, ?_, rfl, fun a e => ?_⟩
      · rw [h1]; exact h2
      · rw [hI.pages.bpe]
        simp only [List.mem_cons, List.mem_map]
        exact .inr (.inr ⟨_, MapP.get_mem hg, by unfold blk; rw [e]⟩)
  have hnb : n ≤ 1000000000 := by
    rcases hold with ⟨-, -, e⟩ | ⟨sv, e1, -, e2⟩
    · omega
    · have := (hI.pages.ent _ (MapP.get_mem e1)).le
      have h3 := hs.2.2
      dsimp only at this
      omega
  have hmb : mb ∈ bp := by rw [hI.pages.bpe]; simp
  have HI := Lib.hid hI
  have HB := Lib.hid hbs
  have HOK := Lib.hid hok
  have HOLD := Lib.hid hold
  have HPS := Lib.hid hps
  have HGET := Lib.hid hget
  have HBN : Hid (∀ b ∈ mb :: (A.map (·.block)).toList, b ∈ bp) := Lib.hid (fun b hb => by
    simp only [List.mem_cons, Option.mem_toList, Option.map_eq_some_iff] at hb
    rcases hb with rfl | ⟨a, e, rfl⟩
    · exact hmb
    · exact hAb a e)
  have HDN : Hid (d ∉ mb :: (A.map (·.block)).toList) := Lib.hid (fun h => HI.out.bp_ne _ (HBN.out _ h) rfl)
  have HJN : Hid (j ∉ mb :: (A.map (·.block)).toList) := Lib.hid (fun h => hj (by rw [HB.out]; simp [HBN.out _ h]))
  clear hI hbs hok hJ hj hold hps hget hAb hmb hs
  go_enter Tryz.func48, Tryz.ntmps48
  go_wp2_with fail
  refine Reg.wp_region_box (R := (Reg.extB w.heap.size (mb :: (A.map (·.block)).toList))) (W := w) (Reg.LineJ (Reg.Line.mk [22, 28, 29] 27 (Wri.S (Wri.mk w.heap.size mb nm es k A n c ps p)))) [Reg.eqv (.pointer (some ⟨j, 0, none⟩)), Reg.eqv (.pointer (some ⟨j, 0, none⟩)), Reg.eqv (.pointer (some ⟨j, 0, none⟩)), Reg.eqv (.pointer (some ⟨d, 0, none⟩)), Reg.eqv (.pointer (some ⟨d, 0, none⟩)), Reg.eqv (.pointer (some ⟨d, 1, none⟩)), Reg.eqv (.map (some mb)), Reg.eqv (.pointer (some ⟨j, 0, none⟩)), Reg.eqv (.pointer (some ⟨j, 0, none⟩)), Reg.eqv (.pointer (some ⟨j, 1, none⟩)), Reg.eqv (.int .i64 ((k : Int))), Reg.eqv (.pointer (some ⟨j, 0, none⟩)), Reg.eqv (.pointer (some ⟨j, 0, none⟩)), Reg.eqv (.pointer (some ⟨j, 0, none⟩)), Reg.eqv (.pointer (some ⟨d, 0, none⟩)), Reg.eqv (.pointer (some ⟨d, 0, none⟩)), Reg.eqv (.pointer (some ⟨d, 1, none⟩)), Reg.eqv (.map (some mb)), Reg.eqv (.pointer (some ⟨j, 0, none⟩)), Reg.eqv (.pointer (some ⟨j, 0, none⟩)), Reg.eqv (.pointer (some ⟨j, 1, none⟩)), Reg.eqv (.int .i64 ((k : Int))), Reg.any, Reg.eqv (.pointer (some ⟨j, 0, none⟩)), Reg.eqv (.pointer (some ⟨j, 0, none⟩)), Reg.eqv (.pointer (some ⟨j, 2, none⟩)), Reg.eqv (.agg (rowV p)), Reg.any, Reg.any, Reg.any] 31 [[(0, none)], [(2, some 0)], [(3, some 1)], [(4, some 2)], [(5, some 3)], [(6, some 4)], [(7, some 5)], [(0, none)], [(9, some 7)], [(10, some 8)], [(11, some 9)], [(0, none)], [(13, some 11)], [(14, some 12)], [(15, some 13)], [(16, some 14)], [(17, some 15)], [(18, some 16)], [(0, none)], [(20, some 18)], [(21, some 19)], [(22, some 20)], [(19, some 17), (23, some 21)], [(0, none)], [(25, some 23)], [(26, some 24)], [(27, some 25)], [(28, some 26)], [(24, some 22), (29, some 27)], [(8, some 6), (12, some 10), (30, some 28)]] rfl (by kernel_rfl) (by kernel_rfl) (fun _ h => Reg.line_zero (l := (Reg.Line.mk [22, 28, 29] 27 (Wri.S (Wri.mk w.heap.size mb nm es k A n c ps p)))) ⟨HI.out.pages.map.at_ rfl, HPS.out.next ((bsame w).drew), fun e => by cases e⟩ h) (by kernel_rfl) ?_ [some 2, some 3, some 4, some 5, some 6, some 7, some 8, some 9, some 10, some 11, some 12, some 13, some 14, some 15, some 16, some 17, some 18, some 19, some 20, some 21, some 22, some 23, some 24, some 25, some 26, some 27, some 28, some 29, some 30, none] (by kernel_rfl) ?_
  · refine ⟨?_, ?_, ?_, ?_, ?_, ?_, ?_, ?_, ?_, ?_, ?_, ?_, ?_, ?_, ?_, ?_, ?_, ?_, ?_, ?_, ?_, ?_, ?_, ?_, ?_, ?_, ?_, ?_, ?_, ?_, trivial⟩
    · refine Reg.oblL_ord (l := (Reg.Line.mk [22, 28, 29] 27 (Wri.S (Wri.mk w.heap.size mb nm es k A n c ps p)))) (by show 0 ∉ [22, 28, 29] ∧ 0 ≠ 27; decide) (Reg.extB_next rfl) (fun k1 b1 a1 w1 v1 w2 h1 h2 => Wri.S_put (I := (Wri.mk w.heap.size mb nm es k A n c ps p)) (b := b1) (dst := (some 2)) (by decide) k1 h1 h2) ?_
      intro ax wx hx hs
      obtain ⟨e0, -⟩ := hs
      have g0 := Reg.ev (v := .pointer (some ⟨j, 0, none⟩)) e0
      exact Reg.obl_freeL rfl (Reg.wp_eqvB (Option.some_ne_none _) (by go_simp) rfl)
    · refine Reg.oblL_ord (l := (Reg.Line.mk [22, 28, 29] 27 (Wri.S (Wri.mk w.heap.size mb nm es k A n c ps p)))) (by show 1 ∉ [22, 28, 29] ∧ 1 ≠ 27; decide) (Reg.extB_next rfl) (fun k1 b1 a1 w1 v1 w2 h1 h2 => Wri.S_put (I := (Wri.mk w.heap.size mb nm es k A n c ps p)) (b := b1) (dst := (some 3)) (by decide) k1 h1 h2) ?_
      intro ax wx hx hs
      obtain ⟨e2, -⟩ := hs
      have g2 := Reg.ev (v := .pointer (some ⟨j, 0, none⟩)) e2
      exact Reg.obl_freeL rfl (Reg.wp_eqvB (Option.some_ne_none _) (by go_simp) rfl)
    · refine Reg.oblL_ord (l := (Reg.Line.mk [22, 28, 29] 27 (Wri.S (Wri.mk w.heap.size mb nm es k A n c ps p)))) (by show 2 ∉ [22, 28, 29] ∧ 2 ≠ 27; decide) (Reg.extB_next rfl) (fun k1 b1 a1 w1 v1 w2 h1 h2 => Wri.S_put (I := (Wri.mk w.heap.size mb nm es k A n c ps p)) (b := b1) (dst := (some 4)) (by decide) k1 h1 h2) ?_
      intro ax wx hx hs
      obtain ⟨e3, -⟩ := hs
      have g3 := Reg.ev (v := .pointer (some ⟨j, 0, none⟩)) e3
      exact Reg.obl_freeL rfl (Reg.wp_eqvB (Option.some_ne_none _) (by go_simp) rfl)
    · refine Reg.oblL_ord (l := (Reg.Line.mk [22, 28, 29] 27 (Wri.S (Wri.mk w.heap.size mb nm es k A n c ps p)))) (by show 3 ∉ [22, 28, 29] ∧ 3 ≠ 27; decide) (Reg.extB_next rfl) (fun k1 b1 a1 w1 v1 w2 h1 h2 => Wri.S_put (I := (Wri.mk w.heap.size mb nm es k A n c ps p)) (b := b1) (dst := (some 5)) (by decide) k1 h1 h2) ?_
      intro ax wx hx hs
      obtain ⟨e4, -⟩ := hs
      have g4 := Reg.ev (v := .pointer (some ⟨j, 0, none⟩)) e4
      have hjx := Reg.KeepB.str hx HJ.out (by omega) HJN.out
      have l0 := str10 (Reg.KeepB.str hx HI.out.box (by omega) HDN.out)
      have l1 := job3 hjx hp
      exact Reg.obl_freeL rfl (Reg.wp_eqvB (Option.some_ne_none _) (by go_simp) rfl)
    · refine Reg.oblL_ord (l := (Reg.Line.mk [22, 28, 29] 27 (Wri.S (Wri.mk w.heap.size mb nm es k A n c ps p)))) (by show 4 ∉ [22, 28, 29] ∧ 4 ≠ 27; decide) (Reg.extB_next rfl) (fun k1 b1 a1 w1 v1 w2 h1 h2 => Wri.S_put (I := (Wri.mk w.heap.size mb nm es k A n c ps p)) (b := b1) (dst := (some 6)) (by decide) k1 h1 h2) ?_
      intro ax wx hx hs
      obtain ⟨e5, -⟩ := hs
      have g5 := Reg.ev (v := .pointer (some ⟨d, 0, none⟩)) e5
      exact Reg.obl_freeL rfl (Reg.wp_eqvB (Option.some_ne_none _) (by go_simp) rfl)
    · refine Reg.oblL_ord (l := (Reg.Line.mk [22, 28, 29] 27 (Wri.S (Wri.mk w.heap.size mb nm es k A n c ps p)))) (by show 5 ∉ [22, 28, 29] ∧ 5 ≠ 27; decide) (Reg.extB_next rfl) (fun k1 b1 a1 w1 v1 w2 h1 h2 => Wri.S_put (I := (Wri.mk w.heap.size mb nm es k A n c ps p)) (b := b1) (dst := (some 7)) (by decide) k1 h1 h2) ?_
      intro ax wx hx hs
      obtain ⟨e6, -⟩ := hs
      have g6 := Reg.ev (v := .pointer (some ⟨d, 0, none⟩)) e6
      exact Reg.obl_freeL rfl (Reg.wp_eqvB (Option.some_ne_none _) (by go_simp) rfl)
    · refine Reg.oblL_ord (l := (Reg.Line.mk [22, 28, 29] 27 (Wri.S (Wri.mk w.heap.size mb nm es k A n c ps p)))) (by show 6 ∉ [22, 28, 29] ∧ 6 ≠ 27; decide) (Reg.extB_next rfl) (fun k1 b1 a1 w1 v1 w2 h1 h2 => Wri.S_put (I := (Wri.mk w.heap.size mb nm es k A n c ps p)) (b := b1) (dst := (some 8)) (by decide) k1 h1 h2) ?_
      intro ax wx hx hs
      obtain ⟨e7, -⟩ := hs
      have g7 := Reg.ev (v := .pointer (some ⟨d, 1, none⟩)) e7
      have hjx := Reg.KeepB.str hx HJ.out (by omega) HJN.out
      have l0 := str10 (Reg.KeepB.str hx HI.out.box (by omega) HDN.out)
      have l1 := job3 hjx hp
      exact Reg.obl_freeL rfl (Reg.wp_eqvB (Option.some_ne_none _) (by go_simp) rfl)
    · refine Reg.oblL_ord (l := (Reg.Line.mk [22, 28, 29] 27 (Wri.S (Wri.mk w.heap.size mb nm es k A n c ps p)))) (by show 7 ∉ [22, 28, 29] ∧ 7 ≠ 27; decide) (Reg.extB_next rfl) (fun k1 b1 a1 w1 v1 w2 h1 h2 => Wri.S_put (I := (Wri.mk w.heap.size mb nm es k A n c ps p)) (b := b1) (dst := (some 9)) (by decide) k1 h1 h2) ?_
      intro ax wx hx hs
      obtain ⟨e0, -⟩ := hs
      have g0 := Reg.ev (v := .pointer (some ⟨j, 0, none⟩)) e0
      exact Reg.obl_freeL rfl (Reg.wp_eqvB (Option.some_ne_none _) (by go_simp) rfl)
    · refine Reg.oblL_ord (l := (Reg.Line.mk [22, 28, 29] 27 (Wri.S (Wri.mk w.heap.size mb nm es k A n c ps p)))) (by show 8 ∉ [22, 28, 29] ∧ 8 ≠ 27; decide) (Reg.extB_next rfl) (fun k1 b1 a1 w1 v1 w2 h1 h2 => Wri.S_put (I := (Wri.mk w.heap.size mb nm es k A n c ps p)) (b := b1) (dst := (some 10)) (by decide) k1 h1 h2) ?_
      intro ax wx hx hs
      obtain ⟨e9, -⟩ := hs
      have g9 := Reg.ev (v := .pointer (some ⟨j, 0, none⟩)) e9
      exact Reg.obl_freeL rfl (Reg.wp_eqvB (Option.some_ne_none _) (by go_simp) rfl)
    · refine Reg.oblL_ord (l := (Reg.Line.mk [22, 28, 29] 27 (Wri.S (Wri.mk w.heap.size mb nm es k A n c ps p)))) (by show 9 ∉ [22, 28, 29] ∧ 9 ≠ 27; decide) (Reg.extB_next rfl) (fun k1 b1 a1 w1 v1 w2 h1 h2 => Wri.S_put (I := (Wri.mk w.heap.size mb nm es k A n c ps p)) (b := b1) (dst := (some 11)) (by decide) k1 h1 h2) ?_
      intro ax wx hx hs
      obtain ⟨e10, -⟩ := hs
      have g10 := Reg.ev (v := .pointer (some ⟨j, 0, none⟩)) e10
      exact Reg.obl_freeL rfl (Reg.wp_eqvB (Option.some_ne_none _) (by go_simp) rfl)
    · refine Reg.oblL_ord (l := (Reg.Line.mk [22, 28, 29] 27 (Wri.S (Wri.mk w.heap.size mb nm es k A n c ps p)))) (by show 10 ∉ [22, 28, 29] ∧ 10 ≠ 27; decide) (Reg.extB_next rfl) (fun k1 b1 a1 w1 v1 w2 h1 h2 => Wri.S_put (I := (Wri.mk w.heap.size mb nm es k A n c ps p)) (b := b1) (dst := (some 12)) (by decide) k1 h1 h2) ?_
      intro ax wx hx hs
      obtain ⟨e11, -⟩ := hs
      have g11 := Reg.ev (v := .pointer (some ⟨j, 1, none⟩)) e11
      have hjx := Reg.KeepB.str hx HJ.out (by omega) HJN.out
      have l0 := str10 (Reg.KeepB.str hx HI.out.box (by omega) HDN.out)
      have l1 := job3 hjx hp
      exact Reg.obl_freeL rfl (Reg.wp_eqvB (Option.some_ne_none _) (by go_simp) rfl)
    · refine Reg.oblL_ord (l := (Reg.Line.mk [22, 28, 29] 27 (Wri.S (Wri.mk w.heap.size mb nm es k A n c ps p)))) (by show 11 ∉ [22, 28, 29] ∧ 11 ≠ 27; decide) (Reg.extB_next rfl) (fun k1 b1 a1 w1 v1 w2 h1 h2 => Wri.S_put (I := (Wri.mk w.heap.size mb nm es k A n c ps p)) (b := b1) (dst := (some 13)) (by decide) k1 h1 h2) ?_
      intro ax wx hx hs
      obtain ⟨e0, -⟩ := hs
      have g0 := Reg.ev (v := .pointer (some ⟨j, 0, none⟩)) e0
      exact Reg.obl_freeL rfl (Reg.wp_eqvB (Option.some_ne_none _) (by go_simp) rfl)
    · refine Reg.oblL_ord (l := (Reg.Line.mk [22, 28, 29] 27 (Wri.S (Wri.mk w.heap.size mb nm es k A n c ps p)))) (by show 12 ∉ [22, 28, 29] ∧ 12 ≠ 27; decide) (Reg.extB_next rfl) (fun k1 b1 a1 w1 v1 w2 h1 h2 => Wri.S_put (I := (Wri.mk w.heap.size mb nm es k A n c ps p)) (b := b1) (dst := (some 14)) (by decide) k1 h1 h2) ?_
      intro ax wx hx hs
      obtain ⟨e13, -⟩ := hs
      have g13 := Reg.ev (v := .pointer (some ⟨j, 0, none⟩)) e13
      exact Reg.obl_freeL rfl (Reg.wp_eqvB (Option.some_ne_none _) (by go_simp) rfl)
    · refine Reg.oblL_ord (l := (Reg.Line.mk [22, 28, 29] 27 (Wri.S (Wri.mk w.heap.size mb nm es k A n c ps p)))) (by show 13 ∉ [22, 28, 29] ∧ 13 ≠ 27; decide) (Reg.extB_next rfl) (fun k1 b1 a1 w1 v1 w2 h1 h2 => Wri.S_put (I := (Wri.mk w.heap.size mb nm es k A n c ps p)) (b := b1) (dst := (some 15)) (by decide) k1 h1 h2) ?_
      intro ax wx hx hs
      obtain ⟨e14, -⟩ := hs
      have g14 := Reg.ev (v := .pointer (some ⟨j, 0, none⟩)) e14
      exact Reg.obl_freeL rfl (Reg.wp_eqvB (Option.some_ne_none _) (by go_simp) rfl)
    · refine Reg.oblL_ord (l := (Reg.Line.mk [22, 28, 29] 27 (Wri.S (Wri.mk w.heap.size mb nm es k A n c ps p)))) (by show 14 ∉ [22, 28, 29] ∧ 14 ≠ 27; decide) (Reg.extB_next rfl) (fun k1 b1 a1 w1 v1 w2 h1 h2 => Wri.S_put (I := (Wri.mk w.heap.size mb nm es k A n c ps p)) (b := b1) (dst := (some 16)) (by decide) k1 h1 h2) ?_
      intro ax wx hx hs
      obtain ⟨e15, -⟩ := hs
      have g15 := Reg.ev (v := .pointer (some ⟨j, 0, none⟩)) e15
      have hjx := Reg.KeepB.str hx HJ.out (by omega) HJN.out
      have l0 := str10 (Reg.KeepB.str hx HI.out.box (by omega) HDN.out)
      have l1 := job3 hjx hp
      exact Reg.obl_freeL rfl (Reg.wp_eqvB (Option.some_ne_none _) (by go_simp) rfl)
    · refine Reg.oblL_ord (l := (Reg.Line.mk [22, 28, 29] 27 (Wri.S (Wri.mk w.heap.size mb nm es k A n c ps p)))) (by show 15 ∉ [22, 28, 29] ∧ 15 ≠ 27; decide) (Reg.extB_next rfl) (fun k1 b1 a1 w1 v1 w2 h1 h2 => Wri.S_put (I := (Wri.mk w.heap.size mb nm es k A n c ps p)) (b := b1) (dst := (some 17)) (by decide) k1 h1 h2) ?_
      intro ax wx hx hs
      obtain ⟨e16, -⟩ := hs
      have g16 := Reg.ev (v := .pointer (some ⟨d, 0, none⟩)) e16
      exact Reg.obl_freeL rfl (Reg.wp_eqvB (Option.some_ne_none _) (by go_simp) rfl)
    · refine Reg.oblL_ord (l := (Reg.Line.mk [22, 28, 29] 27 (Wri.S (Wri.mk w.heap.size mb nm es k A n c ps p)))) (by show 16 ∉ [22, 28, 29] ∧ 16 ≠ 27; decide) (Reg.extB_next rfl) (fun k1 b1 a1 w1 v1 w2 h1 h2 => Wri.S_put (I := (Wri.mk w.heap.size mb nm es k A n c ps p)) (b := b1) (dst := (some 18)) (by decide) k1 h1 h2) ?_
      intro ax wx hx hs
      obtain ⟨e17, -⟩ := hs
      have g17 := Reg.ev (v := .pointer (some ⟨d, 0, none⟩)) e17
      exact Reg.obl_freeL rfl (Reg.wp_eqvB (Option.some_ne_none _) (by go_simp) rfl)
    · refine Reg.oblL_ord (l := (Reg.Line.mk [22, 28, 29] 27 (Wri.S (Wri.mk w.heap.size mb nm es k A n c ps p)))) (by show 17 ∉ [22, 28, 29] ∧ 17 ≠ 27; decide) (Reg.extB_next rfl) (fun k1 b1 a1 w1 v1 w2 h1 h2 => Wri.S_put (I := (Wri.mk w.heap.size mb nm es k A n c ps p)) (b := b1) (dst := (some 19)) (by decide) k1 h1 h2) ?_
      intro ax wx hx hs
      obtain ⟨e18, -⟩ := hs
      have g18 := Reg.ev (v := .pointer (some ⟨d, 1, none⟩)) e18
      have hjx := Reg.KeepB.str hx HJ.out (by omega) HJN.out
      have l0 := str10 (Reg.KeepB.str hx HI.out.box (by omega) HDN.out)
      have l1 := job3 hjx hp
      exact Reg.obl_freeL rfl (Reg.wp_eqvB (Option.some_ne_none _) (by go_simp) rfl)
    · refine Reg.oblL_ord (l := (Reg.Line.mk [22, 28, 29] 27 (Wri.S (Wri.mk w.heap.size mb nm es k A n c ps p)))) (by show 18 ∉ [22, 28, 29] ∧ 18 ≠ 27; decide) (Reg.extB_next rfl) (fun k1 b1 a1 w1 v1 w2 h1 h2 => Wri.S_put (I := (Wri.mk w.heap.size mb nm es k A n c ps p)) (b := b1) (dst := (some 20)) (by decide) k1 h1 h2) ?_
      intro ax wx hx hs
      obtain ⟨e0, -⟩ := hs
      have g0 := Reg.ev (v := .pointer (some ⟨j, 0, none⟩)) e0
      exact Reg.obl_freeL rfl (Reg.wp_eqvB (Option.some_ne_none _) (by go_simp) rfl)
    · refine Reg.oblL_ord (l := (Reg.Line.mk [22, 28, 29] 27 (Wri.S (Wri.mk w.heap.size mb nm es k A n c ps p)))) (by show 19 ∉ [22, 28, 29] ∧ 19 ≠ 27; decide) (Reg.extB_next rfl) (fun k1 b1 a1 w1 v1 w2 h1 h2 => Wri.S_put (I := (Wri.mk w.heap.size mb nm es k A n c ps p)) (b := b1) (dst := (some 21)) (by decide) k1 h1 h2) ?_
      intro ax wx hx hs
      obtain ⟨e20, -⟩ := hs
      have g20 := Reg.ev (v := .pointer (some ⟨j, 0, none⟩)) e20
      exact Reg.obl_freeL rfl (Reg.wp_eqvB (Option.some_ne_none _) (by go_simp) rfl)
    · refine Reg.oblL_ord (l := (Reg.Line.mk [22, 28, 29] 27 (Wri.S (Wri.mk w.heap.size mb nm es k A n c ps p)))) (by show 20 ∉ [22, 28, 29] ∧ 20 ≠ 27; decide) (Reg.extB_next rfl) (fun k1 b1 a1 w1 v1 w2 h1 h2 => Wri.S_put (I := (Wri.mk w.heap.size mb nm es k A n c ps p)) (b := b1) (dst := (some 22)) (by decide) k1 h1 h2) ?_
      intro ax wx hx hs
      obtain ⟨e21, -⟩ := hs
      have g21 := Reg.ev (v := .pointer (some ⟨j, 0, none⟩)) e21
      exact Reg.obl_freeL rfl (Reg.wp_eqvB (Option.some_ne_none _) (by go_simp) rfl)
    · refine Reg.oblL_ord (l := (Reg.Line.mk [22, 28, 29] 27 (Wri.S (Wri.mk w.heap.size mb nm es k A n c ps p)))) (by show 21 ∉ [22, 28, 29] ∧ 21 ≠ 27; decide) (Reg.extB_next rfl) (fun k1 b1 a1 w1 v1 w2 h1 h2 => Wri.S_put (I := (Wri.mk w.heap.size mb nm es k A n c ps p)) (b := b1) (dst := (some 23)) (by decide) k1 h1 h2) ?_
      intro ax wx hx hs
      obtain ⟨e22, -⟩ := hs
      have g22 := Reg.ev (v := .pointer (some ⟨j, 1, none⟩)) e22
      have hjx := Reg.KeepB.str hx HJ.out (by omega) HJN.out
      have l0 := str10 (Reg.KeepB.str hx HI.out.box (by omega) HDN.out)
      have l1 := job3 hjx hp
      exact Reg.obl_freeL rfl (Reg.wp_eqvB (Option.some_ne_none _) (by go_simp) rfl)
    · refine Reg.oblL_line (l := (Reg.Line.mk [22, 28, 29] 27 (Wri.S (Wri.mk w.heap.size mb nm es k A n c ps p)))) (k := 0) rfl rfl (by show List.Nodup [22, 28, 29]; decide) (by show 22 ≠ 27; decide) (by show 22 < 30; decide) (.inl rfl) ?_
      intro b ax wx hx hs has hwb hS
      obtain ⟨e19, e23, -⟩ := hs
      have g19 := Reg.ev (v := .map (some mb)) e19
      have g23 := Reg.ev (v := .int .i64 ((k : Int))) e23
      have hxs : w.heap.size ≤ wx.heap.size := Reg.KeepB.size hx
      have hlk := look_at hS.1 hk2
      rw [HGET.out] at hlk
      refine Oper.wp_mono (K := fun a1 w1 => a1 = ax.put (some 24) (.slice A n c) ∧ w1 = wx) ?_ ?_
      · rintro a1 w1 ⟨rfl, rfl⟩
        exact ⟨⟨_, rfl, (fun h => by cases h), trivial, Reg.KeepB.of (Below.refl _ _)⟩, Wri.S_zero (I := (Wri.mk w.heap.size mb nm es k A n c ps p)) (b := b) hS (by rw [has]; show 24 < 31; decide)⟩
      · clear has hS
        go_simp
    · refine Reg.oblL_ord (l := (Reg.Line.mk [22, 28, 29] 27 (Wri.S (Wri.mk w.heap.size mb nm es k A n c ps p)))) (by show 23 ∉ [22, 28, 29] ∧ 23 ≠ 27; decide) (Reg.extB_next rfl) (fun k1 b1 a1 w1 v1 w2 h1 h2 => Wri.S_put (I := (Wri.mk w.heap.size mb nm es k A n c ps p)) (b := b1) (dst := (some 25)) (by decide) k1 h1 h2) ?_
      intro ax wx hx hs
      obtain ⟨e0, -⟩ := hs
      have g0 := Reg.ev (v := .pointer (some ⟨j, 0, none⟩)) e0
      exact Reg.obl_freeL rfl (Reg.wp_eqvB (Option.some_ne_none _) (by go_simp) rfl)
    · refine Reg.oblL_ord (l := (Reg.Line.mk [22, 28, 29] 27 (Wri.S (Wri.mk w.heap.size mb nm es k A n c ps p)))) (by show 24 ∉ [22, 28, 29] ∧ 24 ≠ 27; decide) (Reg.extB_next rfl) (fun k1 b1 a1 w1 v1 w2 h1 h2 => Wri.S_put (I := (Wri.mk w.heap.size mb nm es k A n c ps p)) (b := b1) (dst := (some 26)) (by decide) k1 h1 h2) ?_
      intro ax wx hx hs
      obtain ⟨e25, -⟩ := hs
      have g25 := Reg.ev (v := .pointer (some ⟨j, 0, none⟩)) e25
      exact Reg.obl_freeL rfl (Reg.wp_eqvB (Option.some_ne_none _) (by go_simp) rfl)
    · refine Reg.oblL_ord (l := (Reg.Line.mk [22, 28, 29] 27 (Wri.S (Wri.mk w.heap.size mb nm es k A n c ps p)))) (by show 25 ∉ [22, 28, 29] ∧ 25 ≠ 27; decide) (Reg.extB_next rfl) (fun k1 b1 a1 w1 v1 w2 h1 h2 => Wri.S_put (I := (Wri.mk w.heap.size mb nm es k A n c ps p)) (b := b1) (dst := (some 27)) (by decide) k1 h1 h2) ?_
      intro ax wx hx hs
      obtain ⟨e26, -⟩ := hs
      have g26 := Reg.ev (v := .pointer (some ⟨j, 0, none⟩)) e26
      exact Reg.obl_freeL rfl (Reg.wp_eqvB (Option.some_ne_none _) (by go_simp) rfl)
    · refine Reg.oblL_ord (l := (Reg.Line.mk [22, 28, 29] 27 (Wri.S (Wri.mk w.heap.size mb nm es k A n c ps p)))) (by show 26 ∉ [22, 28, 29] ∧ 26 ≠ 27; decide) (Reg.extB_next rfl) (fun k1 b1 a1 w1 v1 w2 h1 h2 => Wri.S_put (I := (Wri.mk w.heap.size mb nm es k A n c ps p)) (b := b1) (dst := (some 28)) (by decide) k1 h1 h2) ?_
      intro ax wx hx hs
      obtain ⟨e27, -⟩ := hs
      have g27 := Reg.ev (v := .pointer (some ⟨j, 2, none⟩)) e27
      have hjx := Reg.KeepB.str hx HJ.out (by omega) HJN.out
      have l0 := str10 (Reg.KeepB.str hx HI.out.box (by omega) HDN.out)
      have l1 := job3 hjx hp
      refine Reg.obl_freeL rfl ?_
      have hld := job_load hjx hp
      exact Reg.wp_eqvB (Option.some_ne_none _) (by go_simp) rfl
    · refine Reg.oblL_side (l := (Reg.Line.mk [22, 28, 29] 27 (Wri.S (Wri.mk w.heap.size mb nm es k A n c ps p)))) rfl rfl (by show 27 ∉ [22, 28, 29]; decide) (by show 27 < 30; decide) ?_
      intro k1 ax wx hx hs has hS
      obtain ⟨e28, -⟩ := hs
      have g28 := Reg.ev (v := .agg (rowV p)) e28
      have hxs : w.heap.size ≤ wx.heap.size := Reg.KeepB.size hx
      have hbs := bs_page p hp wx
      refine Oper.wp_mono (K := fun a1 w1 => a1 = ax.put (some 29) (.slice (some ⟨wx.heap.size, 0, none⟩) 1 1) ∧ w1 = wx.alloc (.cells (rowV p) PT)) ?_ ?_
      · rintro a1 w1 ⟨rfl, rfl⟩
        exact ⟨⟨_, rfl, (fun h => by cases h), trivial, Reg.KeepB.of ((balloc (bsame wx) _).mono hxs)⟩, Wri.S_side (I := (Wri.mk w.heap.size mb nm es k A n c ps p)) k1 hS (by rw [has]; show 29 < 31; decide)⟩
      · clear has hS
        go_simp
    · refine Reg.oblL_line (l := (Reg.Line.mk [22, 28, 29] 27 (Wri.S (Wri.mk w.heap.size mb nm es k A n c ps p)))) (k := 1) rfl rfl (by show List.Nodup [22, 28, 29]; decide) (by show 28 ≠ 27; decide) (by show 28 < 30; decide) (.inr ⟨22, rfl, by kernel_rfl⟩) ?_
      intro b ax wx hx hs has hwb hS
      obtain ⟨e24, e29, -⟩ := hs
      have hxs : w.heap.size ≤ wx.heap.size := Reg.KeepB.size hx
      obtain rfl := hwb (by kernel_rfl)
      obtain ⟨A2, A', c', w4, k1, k1', k2, k3, k4⟩ := Wri.S_one (I := (Wri.mk w.heap.size mb nm es k A n c ps p)) hS (by rw [has]; show 30 < 31; decide) hxs hp (by show n ≤ _; omega)
      exact wp_appT (.tmp 24) (.tmp 29) rfl rfl k1 k1' k2 ⟨⟨_, rfl, (fun h => by cases h), trivial, k4⟩, k3⟩
    · refine Reg.oblL_line (l := (Reg.Line.mk [22, 28, 29] 27 (Wri.S (Wri.mk w.heap.size mb nm es k A n c ps p)))) (k := 2) rfl rfl (by show List.Nodup [22, 28, 29]; decide) (by show 29 ≠ 27; decide) (by show 29 < 30; decide) (.inr ⟨28, rfl, by kernel_rfl⟩) ?_
      intro b ax wx hx hs has hwb hS
      obtain ⟨e8, e12, e30, -⟩ := hs
      have g8 := Reg.ev (v := .map (some mb)) e8
      have g12 := Reg.ev (v := .int .i64 ((k : Int))) e12
      have hxs : w.heap.size ≤ wx.heap.size := Reg.KeepB.size hx
      obtain ⟨A', c', w4, k1, k2, k3, k4⟩ := Wri.S_two (I := (Wri.mk w.heap.size mb nm es k A n c ps p)) (b := b) hS hxs hk2 (by show nm ≤ _; omega)
      have g30 := Reg.ev k1
      refine Oper.wp_mono (K := fun a1 w1 => a1 = ax ∧ w1 = w4) ?_ ?_
      · rintro a1 w1 ⟨rfl, rfl⟩
        exact ⟨⟨undef, rfl, fun _ => rfl, trivial, k4⟩, k3⟩
      · clear has k3 hS k4
        go_simp
  · intro W1 listed hwf hall
    simp only [Reg.Fin]
    rintro _ rfl _ rfl _ rfl _ rfl _ rfl _ rfl _ rfl _ rfl _ rfl _ rfl _ rfl _ rfl _ rfl _ rfl _ rfl _ rfl _ rfl _ rfl _ rfl _ rfl _ rfl _ rfl v24 h24 _ rfl _ rfl _ rfl _ rfl v29 h29 v30 h30 vn29 hn29
    intro hJ
    obtain ⟨bL, hbL, hSL⟩ := Reg.line_end (l := (Reg.Line.mk [22, 28, 29] 27 (Wri.S (Wri.mk w.heap.size mb nm es k A n c ps p)))) (n := 30) hall (by show ∀ c ∈ [22, 28, 29], c < 30; decide) hJ
    clear hJ hall hbL
    go_simp
    obtain ⟨g, c', ⟨hr1, hr2⟩, hm1⟩ := hSL
    dsimp only at hr1 hr2 hm1
    have hk1 : Reg.KeepB w.heap.size (mb :: (A.map (·.block)).toList) w W1 := hwf
    have HK1 := Lib.hid hk1
    have HR1 := Lib.hid hr1
    have HR2 := Lib.hid hr2
    have HM1 := Lib.hid hm1
    clear hwf hk1 hr1 hr2 hm1
    go_wp2
    go_end0
    have ho := HOK.out
    have hin := HI.out
    obtain ⟨bp', hp', hn'⟩ := hin.pages.wrote (k := k) (p := p) (ps := ps) ho.nl hk HOLD.out HR1.out HR2.out HM1.out (fun b hb h1 h2 => HK1.out.block b (hin.pages.lt b hb) (by
      simp only [List.mem_cons, Option.mem_toList, Option.map_eq_some_iff, not_or, not_exists, not_and]
      exact ⟨h1, h2⟩))
    have hdW : W1.heap[d]? = w.heap[d]? := HK1.out.block d hin.box.lt HDN.out
    have hgn : ∀ x, gb = some x → x ∉ mb :: (A.map (·.block)).toList := fun x e h => by
      have h1 := hin.nd
      simp only [List.nodup_cons, List.nodup_append, List.mem_append] at h1
      exact h1.2.2.2 x (by simp [e]) x (HBN.out _ h) rfl
    have hbox : Str W1 d (devC X.safe.length sb mb A0 n0 c0 (DevP.wrote X k p)) := by
      obtain ⟨t, ht⟩ := hin.box
      exact ⟨t, hdW.trans ht⟩
    have hlog := hin.log.at_ (w' := W1) (fun x e => HK1.out.block x (hin.log.lt x e) (hgn x e))
    have hnd : (d :: (gb.toList ++ bp')).Nodup := by
      have h1 := hin.nd
      simp only [List.nodup_cons, List.nodup_append, List.mem_append, not_or] at h1 ⊢
      refine ⟨⟨h1.1.1, fun h => ?_⟩, h1.2.1, hp'.nd, fun x hx y hy e => ?_⟩
      · rcases hn' d h with h | h
        · exact h1.1.2 h
        · have := hin.box.lt; omega
      · subst e
        rcases hn' x hy with h | h
        · exact h1.2.2.2 x hx x h rfl
        · have := hin.log.lt x (by simpa using hx); omega
    have hok2 : DevP.Ok (DevP.wrote X k p) := ⟨ho.n0, ho.n1, by show (X.now.set k p).length = _; rw [List.length_set]; exact ho.nl, ho.h0, ho.s0, ho.s1, ho.t0, ho.t1, ho.o0, ho.f0, ho.f1, ho.w0, fun q hq => by
      rcases List.mem_or_eq_of_mem_set hq with h | h
      · exact ho.w1 q h
      · rw [h]; exact hp⟩
    refine ⟨rfl, _, ⟨sb, mb, bp', gb, A0, n0, c0, nm + 1, _, ⟨hbox, hp', hlog, hnd, hok2⟩, rfl⟩, HK1.out.more (fun b hb => by rw [HB.out]; simp [HBN.out b hb]), fun b hb => ?_, trivial⟩
    rw [HB.out]
    simp only [List.mem_cons, List.mem_append] at hb ⊢
    rcases hb with rfl | hb | hb
    · exact .inl (.inl rfl)
    · exact .inl (.inr (.inl hb))
    · exact (hn' b hb).imp (fun h => .inr (.inr h)) id
end Go.Proofs.YtcfieofcnpalgaaGreat.DevW
end
section
namespace Go.Proofs.YtcfieofcnpalgaaGreat.DevW
open Go.RowKit Go.Maps
set_option linter.unusedVariables false
set_option linter.unusedSimpArgs false
variable {d sb mb : Nat} {bp bs : List Nat} {gb : Option Nat} {A : Option Addr} {n c nm : Nat} {es : List (Int × SlV)} {X : DevX}
attribute [local go_sem ↓] ldPage_fold stPage_fold bdPage_fold alPage_fold alJob_fold bdJob_fold stJob_fold
set_option maxRecDepth 100000 in
set_option maxHeartbeats 1000000 in
theorem Write_any (no : Int) (p : List UInt8) (hp : p.length = 512) (w : World) (hD : Dev w d bs X) (hs : DevP.Small X) :
    Calls Tryz.prog 25 #[.pointer (some ⟨d, 0, none⟩), .int .i64 no, .agg (rowV p)] w (Told w d bs (DevP.op X (decide (0 ≤ no) && decide (no < (X.safe.length : Nat))) (DevP.wrote X no.toNat p)) (.int .i64 (DevP.err X (decide (0 ≤ no) && decide (no < (X.safe.length : Nat)))))) := by
  have hmf : ∀ (fn : Fn) (first cap : Array Value) (w : World), (Instr.makeFunc fn first cap).run Tryz.prog w = .ok (.func fn first cap) w := fun _ _ _ _ => rfl
  have hld := run_ld (P := Tryz.prog) arrPage (Str.new w (rowV p) 42) hp
  have hal := job_al
  have hbd := fun W => job_bdP d no p hp W
  have hsz0 : (w.alloc (.cells (rowV p) 42)).heap.size = w.heap.size + 1 := by simp
  have hst := job_st (d := d) (n := no) (l := p) (A := none) (m := 0) (c := 0) (Str.new (w.alloc (.cells (rowV p) 42)) jobZ 81) hp
  rw [hsz0] at hst
  obtain ⟨W1, hW1⟩ : ∃ W, ((w.alloc (.cells (rowV p) 42)).alloc (.cells jobZ 81)).setRow (w.heap.size + 1) (jobC d no p (.slice none 0 0)) = W := ⟨_, rfl⟩
  rw [hW1] at hst
  have hJ1 : Str W1 (w.heap.size + 1) (jobC d no p (.slice none 0 0)) := by rw [← hW1, ← hsz0]; exact (Str.new _ _ _).setRow
  have hb1 : Below w.heap.size w W1 := by rw [← hW1]; exact below_setRow (balloc (balloc (bsame _) _) _) (by omega) _
  have hD1 := hD.below hb1
  have hj : w.heap.size + 1 ∉ bs := fun hm => by have := hD.lt _ hm; omega
  have HJ1 := Lib.hid hJ1
  have HB1 := Lib.hid hb1
  have HD1 := Lib.hid hD1
  have HJN := Lib.hid hj
  clear hW1 hJ1 hb1 hD1 hj hsz0
  obtain ⟨fits, hfits⟩ : ∃ f, (decide (0 ≤ no) && decide (no < (X.safe.length : Nat))) = f := ⟨_, rfl⟩
  rw [hfits]
  have HFI := Lib.hid hfits
  clear hfits
  go_enter Tryz.func25, Tryz.ntmps25
  go_wp2_with fail
  refine (has_any no W1 HD1.out).mono ?_
  rintro e W2 ⟨rfl, hb2⟩
  rw [HFI.out]
  have hd2 := HD1.out.below hb2
  have hJ2 := HJ1.out.next hb2
  have hjl := hJ2.lt
  have hb3 := bstep HB1.out hb2
  clear hst hbd hal hld hb2
  go_wp2_with fail
  refine (do_any 48 #[.pointer (some ⟨w.heap.size + 1, 0, none⟩)] (fun _ => True) [] fits W2 (DevP.wrote X no.toNat p) hd2 hs.1 (by simp) (fun _ _ _ _ => trivial) rfl rfl rfl (fun _ => rfl) (fun hf W hb => ?_)).mono ?_
  · subst hf
    have hf := HFI.out
    simp only [Bool.and_eq_true, decide_eq_true_eq] at hf
    obtain ⟨k, rfl⟩ : ∃ k : Nat, no = (k : Int) := ⟨no.toNat, by omega⟩
    have hk : k < X.safe.length := by omega
    refine (write_act (w.heap.size + 1) k p (.slice none 0 0) W (hJ2.next hb) hp (hd2.below hb) hs HJN.out hk).mono ?_
    exact fun e w' h => h
  · rintro e w1 h
    have HT := Lib.hid (h.told hb3 (by simp))
    obtain ⟨rfl, -⟩ := h
    go_wp2
    go_ret
    exact HT.out
end Go.Proofs.YtcfieofcnpalgaaGreat.DevW
end
section
namespace Go.Proofs.YtcfieofcnpalgaaGreat.CellP

/-- the second byte, as a number -/
def len1 (l : List UInt8) : Nat := (l.getD 1 0).toNat
/-- the cell with which bytes begin, how many bytes it takes, the error's number -/
def get (l : List UInt8) : Cell × Int × Int :=
  if l.length < 1 then (none, 0, 13)
  else if NumP.val l 0 1 = 1 then
    (if l.length < 2 ∨ l.length < 2 + len1 l then (none, 0, 13) else if 32 < len1 l then (none, 0, 12) else (⟨1, (l.drop 2).take (len1 l), 0, 0, 0⟩, 2 + (len1 l : Int), 0))
  else if NumP.val l 0 1 = 2 then
    (if l.length < 25 then (none, 0, 13) else if NumP.val l 1 8 ≤ NumP.val l 17 8 ∧ NumP.val l 17 8 ≤ NumP.val l 9 8 then (⟨2, [], NumP.val l 1 8, NumP.val l 9 8, NumP.val l 17 8⟩, 25, 0) else (none, 0, 12))
  else (none, 0, 12)

theorem len1_val (l : List UInt8) (h : 2 ≤ l.length) : NumP.val l 1 1 = (len1 l : Int) := by
  match l, h with
  | a :: b :: r, _ => exact NumP.val_one [a] r b
theorem len1_lt (l : List UInt8) : len1 l < 256 := (l.getD 1 0).toNat_lt
theorem val_in (l : List UInt8) (a width : Nat) (h : width ≤ 8) : In64 (NumP.val l a width) := by
  unfold NumP.val
  split
  · exact NumP.toI_in _ (NumP.num_lt8 _ (by simp; omega))
  · unfold In64; omega
theorem get_short (l : List UInt8) (h : l.length < 1) : get l = (none, 0, 13) := by simp only [get]; rw [if_pos h]
theorem get_rec_short (l : List UInt8) (h : ¬ l.length < 1) (hk : NumP.val l 0 1 = 1) (h2 : l.length < 2 ∨ l.length < 2 + len1 l) : get l = (none, 0, 13) := by
  simp only [get]; rw [if_neg h, if_pos hk, if_pos h2]
theorem get_rec_form (l : List UInt8) (h : ¬ l.length < 1) (hk : NumP.val l 0 1 = 1) (h2 : ¬ (l.length < 2 ∨ l.length < 2 + len1 l)) (h3 : 32 < len1 l) : get l = (none, 0, 12) := by
  simp only [get]; rw [if_neg h, if_pos hk, if_neg h2, if_pos h3]
theorem get_rec (l : List UInt8) (h : ¬ l.length < 1) (hk : NumP.val l 0 1 = 1) (h2 : ¬ (l.length < 2 ∨ l.length < 2 + len1 l)) (h3 : ¬ 32 < len1 l) : get l = (⟨1, (l.drop 2).take (len1 l), 0, 0, 0⟩, 2 + (len1 l : Int), 0) := by
  simp only [get]; rw [if_neg h, if_pos hk, if_neg h2, if_neg h3]
theorem get_cnt_short (l : List UInt8) (h : ¬ l.length < 1) (hk : NumP.val l 0 1 = 2) (h2 : l.length < 25) : get l = (none, 0, 13) := by
  simp only [get]; rw [if_neg h, if_neg (by omega), if_pos hk, if_pos h2]
theorem get_cnt_form (l : List UInt8) (h : ¬ l.length < 1) (hk : NumP.val l 0 1 = 2) (h2 : ¬ l.length < 25) (h3 : ¬ (NumP.val l 1 8 ≤ NumP.val l 17 8 ∧ NumP.val l 17 8 ≤ NumP.val l 9 8)) : get l = (none, 0, 12) := by
  simp only [get]; rw [if_neg h, if_neg (by omega), if_pos hk, if_neg h2, if_neg h3]
theorem get_cnt (l : List UInt8) (h : ¬ l.length < 1) (hk : NumP.val l 0 1 = 2) (h2 : ¬ l.length < 25) (h3 : NumP.val l 1 8 ≤ NumP.val l 17 8 ∧ NumP.val l 17 8 ≤ NumP.val l 9 8) :
    get l = (⟨2, [], NumP.val l 1 8, NumP.val l 9 8, NumP.val l 17 8⟩, 25, 0) := by
  simp only [get]; rw [if_neg h, if_neg (by omega), if_pos hk, if_neg h2, if_pos h3]
theorem get_other (l : List UInt8) (h : ¬ l.length < 1) (hk : NumP.val l 0 1 ≠ 1) (hk2 : NumP.val l 0 1 ≠ 2) : get l = (none, 0, 12) := by
  simp only [get]; rw [if_neg h, if_neg hk, if_neg hk2]

theorem right_rec (d : List UInt8) (h : d.length ≤ 32) : right ⟨1, d, 0, 0, 0⟩ = true := by simp [right, h]
theorem right_rec_no (d : List UInt8) (h : ¬ d.length ≤ 32) : right ⟨1, d, 0, 0, 0⟩ = false := by simp [right, h]
theorem right_cnt (lo hi v : Int) (h : lo ≤ v ∧ v ≤ hi) : right ⟨2, [], lo, hi, v⟩ = true := by simp [right, h]
theorem right_cnt_no (lo hi v : Int) (h : ¬ (lo ≤ v ∧ v ≤ hi)) : right ⟨2, [], lo, hi, v⟩ = false := by
  simp [right]
  omega
theorem right_other (k : Int) (d : List UInt8) (lo hi v : Int) (h1 : k ≠ 1) (h2 : k ≠ 2) : right ⟨k, d, lo, hi, v⟩ = false := by simp [right, h1, h2]
end Go.Proofs.YtcfieofcnpalgaaGreat.CellP
end
section
namespace Go.Proofs.YtcfieofcnpalgaaGreat.SlotP

/-- bytes as a text -/
def text (l : List UInt8) : ByteArray := ⟨l.toArray⟩
/-- the item that bytes seem to be -/
def seem (l : List UInt8) : Item := ⟨((l.getD 0 0).toNat : Int), text ((l.drop 2).take (l.getD 1 0).toNat), (CellP.get (l.drop (2 + (l.getD 1 0).toNat))).1⟩
/-- is it one? -/
def good (l : List UInt8) : Bool := decide ((l.getD 1 0).toNat ≤ 16) && ((CellP.get (l.drop (2 + (l.getD 1 0).toNat))).2.2 == 0 && (right (seem l) && (bytes (seem l) == l)))
/-- the item of which bytes are, and the error's number -/
def get (l : List UInt8) : Item × Int := if l = zeros 64 then (none, 0) else if good l = true then (seem l, 0) else (none, 12)

/-- numbers that may be -/
def In (x : Item) : Prop := In64 x.state ∧ In64 x.cell.kind ∧ In64 x.cell.lo ∧ In64 x.cell.hi ∧ In64 x.cell.val
theorem get_zeros : get (zeros 64) = (none, 0) := by unfold get; rw [if_pos rfl]
end Go.Proofs.YtcfieofcnpalgaaGreat.SlotP
end
