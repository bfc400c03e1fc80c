/-
  The walks of package txns: keep, Begin, Get, Put, Note, End, Next, New.
-/
import Derived.Test.YtbcpepjedhafbaaTxnM
import Derived.Test.YtbcpepjedhafbaaStr
import Derived.Test.YtbcpepjedhafbaaRegP
import Derived.BigQuiet
import Derived.WalkSpells
namespace Go.Proofs.Ytbcpepjedhafbaa.TxnW
open Go.RowKit Go.Maps
set_option linter.unusedVariables false
set_option linter.unusedSimpArgs false
variable {tb bm n : Nat} {nx : Int} {L : List TxnX}
/-- nothing but the table's own blocks has turned -/
abbrev Kept (tb bm : Nat) (w w' : World) : Prop := Reg.KeepB w.heap.size [tb, bm] w w'
set_option maxRecDepth 100000 in
set_option maxHeartbeats 1000000 in
theorem keep_any (t : TxnX) (w : World) (hT : Tab w tb bm n nx L) (hn : n < maxLen) (hk : In64 t.id) :
    Calls Try.prog 20 #[.pointer (some ⟨tb, 0, none⟩), .agg #[.int .i64 t.id, .int .i64 t.first, .int .i64 t.last, .int .i64 t.kept]] w fun e w' => e = .returned (.tuple #[]) ∧ Tab w' tb bm (n + 1) nx (TxnP.put L t) ∧ Reg.KeepB w.heap.size [bm] w w' := by
  have HT := Lib.hid hT
  have HK := Lib.hid hk
  have ht0 := hT.lt
  have hm0 := hT.mlt
  clear hT hk
  obtain ⟨c0, c1⟩ := str2 HT.out.box
  have heq := fun W => run_eql_map_nil (P := Try.prog) W 50 _ _ (some bm) Try.underlying50
  go_enter Try.func20, Try.ntmps20
  go_wp2_with fail
  generalize hW0 : (w).alloc (.cells #[.int .i64 t.id, .int .i64 t.first, .int .i64 t.last, .int .i64 t.kept] 38) = W0
  obtain ⟨HS0_0, HB_0, hw_0, hz0⟩ := new1 hW0
  clear hW0
  have f0_0 := str4 HS0_0.out
  have hl0_0 := HS0_0.out.lt
  have HT0 := Lib.hid (HT.out.below HB_0.out)
  clear c0 c1 heq
  refine Reg.wp_region_tail (R := ext) (W := W0) [Reg.eqv (.pointer (some ⟨tb, 0, none⟩)), Reg.eqv (.pointer (some ⟨tb, 0, none⟩)), Reg.eqv (.pointer (some ⟨tb, 1, none⟩)), Reg.eqv (.map (some bm)), Reg.eqv (.pointer (some ⟨w.heap.size, 0, none⟩)), Reg.eqv (.int .i64 t.id), Reg.eqv (.agg #[.int .i64 t.id, .int .i64 t.first, .int .i64 t.last, .int .i64 t.kept])] 20 7 _ [[(0, none)], [(13, some 0)], [(14, some 1)], [(15, some 2)], [(3, none)], [(17, some 4)], [(3, none)]] rfl (by kernel_rfl) (by kernel_rfl) (by rfl) (by rfl) rfl (by kernel_rfl) ?_ [some 13, some 14, some 15, some 16, some 17, some 18, some 19] (by kernel_rfl) ?_
  · refine ⟨?_, ?_, ?_, ?_, ?_, ?_, ?_, trivial⟩
    · intro ax wx hx hs
      obtain ⟨e0, -⟩ := hs
      have g0 := Reg.ev (v := .pointer (some ⟨tb, 0, none⟩)) e0
      exact Reg.obl_free rfl (Reg.wp_eqv (Option.some_ne_none _) (by go_simp) rfl)
    · intro ax wx hx hs
      obtain ⟨e13, -⟩ := hs
      have g13 := Reg.ev (v := .pointer (some ⟨tb, 0, none⟩)) e13
      exact Reg.obl_free rfl (Reg.wp_eqv (Option.some_ne_none _) (by go_simp) rfl)
    · intro ax wx hx hs
      obtain ⟨e14, -⟩ := hs
      have g14 := Reg.ev (v := .pointer (some ⟨tb, 0, none⟩)) e14
      exact Reg.obl_free rfl (Reg.wp_eqv (Option.some_ne_none _) (by go_simp) rfl)
    · intro ax wx hx hs
      obtain ⟨e15, -⟩ := hs
      have g15 := Reg.ev (v := .pointer (some ⟨tb, 1, none⟩)) e15
      obtain ⟨l0, l1, l2, l3⟩ := str4 (HS0_0.out.next hx)
      obtain ⟨q0, q1⟩ := str2 (HT0.out.box.next hx)
      exact Reg.obl_free rfl (Reg.wp_eqv (Option.some_ne_none _) (by go_simp) rfl)
    · intro ax wx hx hs
      obtain ⟨e3, -⟩ := hs
      have g3 := Reg.ev (v := .pointer (some ⟨w.heap.size, 0, none⟩)) e3
      exact Reg.obl_free rfl (Reg.wp_eqv (Option.some_ne_none _) (by go_simp) rfl)
    · intro ax wx hx hs
      obtain ⟨e17, -⟩ := hs
      have g17 := Reg.ev (v := .pointer (some ⟨w.heap.size, 0, none⟩)) e17
      obtain ⟨l0, l1, l2, l3⟩ := str4 (HS0_0.out.next hx)
      obtain ⟨q0, q1⟩ := str2 (HT0.out.box.next hx)
      exact Reg.obl_free rfl (Reg.wp_eqv (Option.some_ne_none _) (by go_simp) rfl)
    · intro ax wx hx hs
      obtain ⟨e3, -⟩ := hs
      have g3 := Reg.ev (v := .pointer (some ⟨w.heap.size, 0, none⟩)) e3
      obtain ⟨l0, l1, l2, l3⟩ := str4 (HS0_0.out.next hx)
      obtain ⟨q0, q1⟩ := str2 (HT0.out.box.next hx)
      exact Reg.obl_free rfl (Reg.wp_eqv (Option.some_ne_none _) (by go_simp) rfl)
  · intro W1 hwf
    simp only [Reg.Fin]
    rintro _ rfl _ rfl _ rfl _ rfl _ rfl _ rfl _ rfl
    have hwf' : Below W0.heap.size W0 W1 := hwf
    clear hwf
    obtain ⟨W2, hrun, hm2, ht2⟩ := MapT.store (HT0.out.below hwf').map hn t HK.out
    have HT2 := Lib.hid ((HT0.out.below hwf').turned hm2 ht2)
    have HB1 := Lib.hid (bstep HB_0.out hwf')
    have HT2' := Lib.hid ht2
    have hz2 := HB1.out.size
    clear hm2 ht2 hwf'
    refine Reg.Goal.mk ?_
    go_simp
    go_wp2
    go_end0
    exact ⟨rfl, HT2.out, (Reg.KeepB.of HB1.out).trans (turned_keep HT2'.out) hz2⟩
set_option maxRecDepth 100000 in
set_option maxHeartbeats 1000000 in
theorem begin_any (w : World) (hT : Tab w tb bm n nx L) (hn : n < maxLen) (h1 : 0 ≤ nx) (h2 : nx ≤ 1000000000000000) :
    Calls Try.prog 8 #[.pointer (some ⟨tb, 0, none⟩)] w fun e w' => e = .returned (.int .i64 nx) ∧ Tab w' tb bm (n + 1) (nx + 1) (TxnP.put L ⟨nx, 0, 0, 0⟩) ∧ Kept tb bm w w' := by
  have HT := Lib.hid hT
  have ht0 := hT.lt
  have hm0 := hT.mlt
  have hne := hT.ne
  clear hT
  obtain ⟨c0, c1⟩ := str2 HT.out.box
  have hf := HT.out.box.frozen 0
  go_enter Try.func8, Try.ntmps8
  go_wp2_with fail
  generalize hW1 : w.setCell ⟨tb, 0, none⟩ (.int .i64 (nx + 1)) = W1
  have hgr : w.grownBy W1 (some tb) := by rw [← hW1]; exact grown_set (grown_refl w tb) 0 _
  have hS1 : Str W1 tb #[.int .i64 (nx + 1), .map (some bm)] := by rw [← hW1]; have := HT.out.box.set 0 (.int .i64 (nx + 1)); simpa using this
  have HT1 : Hid (Tab W1 tb bm n (nx + 1) L) := Lib.hid ⟨hS1, World.ownsMap.kept HT.out.map hgr (fun e => hne (by injection e with e; exact e.symm))⟩
  have HG := Lib.hid hgr
  have hsz := hgr.size
  clear hW1 hS1 hgr c0 c1 hf
  refine (keep_any ⟨nx, 0, 0, 0⟩ _ HT1.out hn (by unfold In64; dsimp only; omega)).mono ?_
  rintro e W2 ⟨rfl, hT2, hk2⟩
  have HT2 := Lib.hid hT2
  have HK2 := Lib.hid hk2
  clear hT2 hk2
  go_wp2
  go_ret
  exact ⟨rfl, HT2.out, ((Reg.KeepB.of (b0 := [tb, bm]) (bsame w)).grown HG.out (Nat.le_refl _) (.inr (by simp))).trans (HK2.out.more (by simp)) hsz⟩
set_option maxRecDepth 100000 in
set_option maxHeartbeats 1000000 in
theorem next_any (w : World) (hT : Tab w tb bm n nx L) :
    Calls Try.prog 12 #[.pointer (some ⟨tb, 0, none⟩)] w fun e w' => e = .returned (.int .i64 nx) ∧ w = w' := by
  obtain ⟨c0, c1⟩ := str2 hT.box
  clear hT
  go_enter Try.func12, Try.ntmps12
  go_wp2
  go_ret
  exact ⟨rfl, rfl⟩
/-- the call hands back a table of nothing -/
def GivesTab (w : World) (nx : Int) (e : Ending) (w' : World) : Prop := ∃ tb bm, e = .returned (.pointer (some ⟨tb, 0, none⟩)) ∧ Tab w' tb bm 0 nx [] ∧ w.heap.size ≤ tb ∧ w.heap.size ≤ bm ∧ Below w.heap.size w w'
set_option maxRecDepth 100000 in
set_option maxHeartbeats 1000000 in
theorem new_any (a : Int) (ha : In64 a) (w : World) :
    Calls Try.prog 5 #[.int .i64 a] w (GivesTab w (min (max a 1) 281474976710656)) := by
  obtain ⟨h1, h2⟩ := ha
  have hmm := @run_makeMap Try.prog
  have HM := Lib.hid (World.ownsMap_made w Try.prog 3 TxnP.rd)
  have HF : Hid (∀ v : Int, v = min (max a 1) 281474976710656 → GivesTab w (min (max a 1) 281474976710656) (.returned (.pointer (some ⟨w.heap.size + 1, 0, none⟩))) ((w.alloc (.map #[] 0)).alloc (.cells #[.int .i64 v, .map (some w.heap.size)] 52))) := Lib.hid (by
    rintro v rfl
    refine ⟨w.heap.size + 1, w.heap.size, rfl, ⟨?_, World.ownsMap.alloc HM.out _⟩, Nat.le_succ _, Nat.le_refl _, balloc (balloc (bsame w) _) _⟩
    have := Str.new (w.alloc (.map #[] 0)) #[.int .i64 (min (max a 1) 281474976710656), .map (some w.heap.size)] 52
    simpa using this)
  go_enter Try.func5, Try.ntmps5
  go_wp2
  all_goals go_ret
  all_goals exact HF.out _ (by omega)
/-- the call hands back a transaction, and whether there is one -/
def GivesTxn (w : World) (L : List TxnX) (k : Int) (e : Ending) (w' : World) : Prop := e = .returned (.tuple #[.agg #[.int .i64 (TxnP.get L k).id, .int .i64 (TxnP.get L k).first, .int .i64 (TxnP.get L k).last, .int .i64 (TxnP.get L k).kept], .bool (TxnP.has L k)]) ∧ Below w.heap.size w w'
set_option maxRecDepth 100000 in
set_option maxHeartbeats 1000000 in
theorem get_any (k : Int) (w : World) (hT : Tab w tb bm n nx L) (hk : In64 k) :
    Calls Try.prog 16 #[.pointer (some ⟨tb, 0, none⟩), .int .i64 k] w (GivesTxn w L k) := by
  have HT := Lib.hid hT
  obtain ⟨c0, c1⟩ := str2 hT.box
  have ht0 := hT.lt
  have hlk := MapT.look (World.ownsMap.alloc hT.map (.cells #[.int .i64 0, .int .i64 0, .int .i64 0, .int .i64 0] 38)) hk
  clear hT
  go_enter Try.func16, Try.ntmps16
  obtain ⟨t, ht⟩ : ∃ t, TxnP.get L k = t := ⟨_, rfl⟩
  obtain ⟨b, hb⟩ : ∃ b, TxnP.has L k = b := ⟨_, rfl⟩
  have HG : Hid (.agg #[.int .i64 (TxnP.get L k).id, .int .i64 (TxnP.get L k).first, .int .i64 (TxnP.get L k).last, .int .i64 (TxnP.get L k).kept] = Value.agg #[.int .i64 t.id, .int .i64 t.first, .int .i64 t.last, .int .i64 t.kept] ∧ TxnP.has L k = b) := Lib.hid (by rw [ht]; exact ⟨rfl, hb⟩)
  rw [ht, hb] at hlk
  clear ht hb
  go_wp2
  refine bodyPost_ret (v := .tuple #[.agg #[.int .i64 t.id, .int .i64 t.first, .int .i64 t.last, .int .i64 t.kept], .bool b]) (by simp [results, Try.results16, go_sem, *]) rfl ?_
  unfold GivesTxn
  rw [HG.out.1, HG.out.2]
  exact ⟨rfl, balloc (balloc (bsame w) _) _⟩
set_option maxRecDepth 100000 in
set_option maxHeartbeats 1000000 in
theorem get_nil (k : Int) (w : World) :
    Calls Try.prog 16 #[.pointer none, .int .i64 k] w fun e w' => e = .returned (.tuple #[.agg #[.int .i64 0, .int .i64 0, .int .i64 0, .int .i64 0], .bool false]) ∧ Below w.heap.size w w' := by
  go_enter Try.func16, Try.ntmps16
  go_wp2
  refine bodyPost_ret (v := .tuple #[.agg #[.int .i64 0, .int .i64 0, .int .i64 0, .int .i64 0], .bool false]) (by simp [results, Try.results16, go_sem, *]) rfl ⟨rfl, balloc (bsame w) _⟩
set_option maxRecDepth 100000 in
set_option maxHeartbeats 1000000 in
theorem end_yes (k : Int) (w : World) (hT : Tab w tb bm n nx L) (hk : In64 k) (hh : TxnP.has L k = true) :
    Calls Try.prog 11 #[.pointer (some ⟨tb, 0, none⟩), .int .i64 k] w fun e w' => e = .returned (.bool true) ∧ Tab w' tb bm n nx (TxnP.del L k) ∧ Kept tb bm w w' := by
  have HK := Lib.hid hk
  have HH := Lib.hid hh
  have HB_0 := Lib.hid (Reg.KeepB.of (b0 := [tb, bm]) (bsame w))
  have hw_0 := HB_0.out.size
  have HTt_0 := Lib.hid (hT)
  have htlt := HTt_0.out.lt
  have htmt := HTt_0.out.mlt
  clear hT hk hh
  go_enter Try.func11, Try.ntmps11
  go_wp2_with fail
  refine (get_any k _ HTt_0.out HK.out).mono ?_
  rintro e W1 ⟨rfl, hb1⟩
  rw [HH.out]
  have HB_1 := Lib.hid (HB_0.out.step hb1 hw_0)
  have HTt_1 := Lib.hid (HTt_0.out.below hb1)
  clear HTt_0 htlt htmt
  have htlt := HTt_1.out.lt
  have htmt := HTt_1.out.mlt
  have hw_1 := HB_1.out.size
  have hws_1 := (hb1).size
  clear hb1
  obtain ⟨t, ht⟩ : ∃ t, TxnP.get L k = t := ⟨_, rfl⟩
  rw [ht]
  clear ht
  obtain ⟨c0, c1⟩ := str2 HTt_1.out.box
  go_wp2_with (first | ((at_delete; refine wpList_delete_own _ rfl _ _ 50 3 rfl _ law Try.underlying50 _ bm n _ rfl (MapT.below HTt_1.out.map (balloc (bsame _) _)) _ _ rfl (keyOf_ HK.out) ?_; rw [TxnP.del_dat]; intro W9 hm hturn)))
  have HTE := Lib.hid ((HTt_1.out.below (balloc (bsame _) _)).turned hm hturn)
  have HKE := Lib.hid ((HB_1.out.step (balloc (bsame _) _) hw_1).trans ((turned_keep hturn).more (by simp)) (by simp; omega))
  clear hm hturn
  go_wp2
  go_ret
  exact ⟨rfl, HTE.out, HKE.out⟩
set_option maxRecDepth 100000 in
set_option maxHeartbeats 1000000 in
theorem end_no (k : Int) (w : World) (hT : Tab w tb bm n nx L) (hk : In64 k) (hh : TxnP.has L k = false) :
    Calls Try.prog 11 #[.pointer (some ⟨tb, 0, none⟩), .int .i64 k] w fun e w' => e = .returned (.bool false) ∧ Tab w' tb bm n nx (TxnP.del L k) ∧ Kept tb bm w w' := by
  have HK := Lib.hid hk
  have HH := Lib.hid hh
  have HD : Hid (TxnP.del L k = L) := Lib.hid (TxnP.del_none hh)
  rw [HD.out]
  have HB_0 := Lib.hid (Reg.KeepB.of (b0 := [tb, bm]) (bsame w))
  have hw_0 := HB_0.out.size
  have HTt_0 := Lib.hid (hT)
  have htlt := HTt_0.out.lt
  have htmt := HTt_0.out.mlt
  clear hT hk hh
  go_enter Try.func11, Try.ntmps11
  go_wp2_with fail
  refine (get_any k _ HTt_0.out HK.out).mono ?_
  rintro e W1 ⟨rfl, hb1⟩
  rw [HH.out]
  have HB_1 := Lib.hid (HB_0.out.step hb1 hw_0)
  have HTt_1 := Lib.hid (HTt_0.out.below hb1)
  clear HTt_0 htlt htmt
  have htlt := HTt_1.out.lt
  have htmt := HTt_1.out.mlt
  have hw_1 := HB_1.out.size
  have hws_1 := (hb1).size
  clear hb1
  obtain ⟨t, ht⟩ : ∃ t, TxnP.get L k = t := ⟨_, rfl⟩
  rw [ht]
  clear ht
  go_wp2_with fail
  go_ret
  exact ⟨rfl, HTt_1.out.below (balloc (bsame _) _), HB_1.out.step (balloc (bsame _) _) hw_1⟩
theorem end_any (k : Int) (w : World) (hT : Tab w tb bm n nx L) (hk : In64 k) :
    Calls Try.prog 11 #[.pointer (some ⟨tb, 0, none⟩), .int .i64 k] w fun e w' => e = .returned (.bool (TxnP.has L k)) ∧ Tab w' tb bm n nx (TxnP.del L k) ∧ Kept tb bm w w' := by
  cases hh : TxnP.has L k with
  | true => exact end_yes k w hT hk hh
  | false => exact end_no k w hT hk hh
set_option maxRecDepth 100000 in
set_option maxHeartbeats 1000000 in
theorem end_nil (k : Int) (w : World) :
    Calls Try.prog 11 #[.pointer none, .int .i64 k] w fun e w' => e = .returned (.bool false) ∧ Below w.heap.size w w' := by
  have HB_0 := Lib.hid (bsame w)
  have hw_0 := HB_0.out.size
  go_enter Try.func11, Try.ntmps11
  go_wp2_with fail
  refine (get_nil k _).mono ?_
  rintro e W1 ⟨rfl, hb1⟩
  have HB_1 := Lib.hid (bstep HB_0.out hb1)
  have hw_1 := HB_1.out.size
  have hws_1 := (hb1).size
  clear hb1
  go_wp2_with fail
  go_ret
  exact ⟨rfl, balloc HB_1.out _⟩
set_option maxRecDepth 100000 in
set_option maxHeartbeats 1000000 in
theorem note_no (k first last keep : Int) (w : World) (hT : Tab w tb bm n nx L) (hk : In64 k) (hh : TxnP.has L k = false) :
    Calls Try.prog 9 #[.pointer (some ⟨tb, 0, none⟩), .int .i64 k, .int .i64 first, .int .i64 last, .int .i64 keep] w fun e w' => e = .returned (.bool false) ∧ Tab w' tb bm n nx L ∧ Kept tb bm w w' := by
  have HK := Lib.hid hk
  have HH := Lib.hid hh
  have HB_0 := Lib.hid (Reg.KeepB.of (b0 := [tb, bm]) (bsame w))
  have hw_0 := HB_0.out.size
  have HTt_0 := Lib.hid (hT)
  have htlt := HTt_0.out.lt
  have htmt := HTt_0.out.mlt
  clear hT hk hh
  go_enter Try.func9, Try.ntmps9
  go_wp2_with fail
  refine (get_any k _ HTt_0.out HK.out).mono ?_
  rintro e W1 ⟨rfl, hb1⟩
  rw [HH.out]
  have HB_1 := Lib.hid (HB_0.out.step hb1 hw_0)
  have HTt_1 := Lib.hid (HTt_0.out.below hb1)
  clear HTt_0 htlt htmt
  have htlt := HTt_1.out.lt
  have htmt := HTt_1.out.mlt
  have hw_1 := HB_1.out.size
  have hws_1 := (hb1).size
  clear hb1
  obtain ⟨t, ht⟩ : ∃ t, TxnP.get L k = t := ⟨_, rfl⟩
  rw [ht]
  clear ht
  go_wp2_with fail
  go_ret
  exact ⟨rfl, HTt_1.out.below (balloc (bsame _) _), HB_1.out.step (balloc (bsame _) _) hw_1⟩
set_option maxRecDepth 100000 in
set_option maxHeartbeats 1000000 in
theorem note_fresh (k first last keep : Int) (w : World) (hT : Tab w tb bm n nx L) (hn : n < maxLen) (hk : In64 k) (hh : TxnP.has L k = true) (hz : (TxnP.get L k).last = 0) (hb : (-1000000000000000 ≤ (TxnP.get L k).kept ∧ (TxnP.get L k).kept ≤ 1000000000000000) ∧ (-1000000000000000 ≤ keep ∧ keep ≤ 1000000000000000)) :
    Calls Try.prog 9 #[.pointer (some ⟨tb, 0, none⟩), .int .i64 k, .int .i64 first, .int .i64 last, .int .i64 keep] w fun e w' => e = .returned (.bool true) ∧ Tab w' tb bm (n + 1) nx (TxnP.put L ⟨k, first, last, max ((TxnP.get L k).kept + keep) 0⟩) ∧ Kept tb bm w w' := by
  have HK := Lib.hid hk
  have HH := Lib.hid hh
  have hid := (TxnP.get_mem hh).2
  have HB_0 := Lib.hid (Reg.KeepB.of (b0 := [tb, bm]) (bsame w))
  have hw_0 := HB_0.out.size
  have HTt_0 := Lib.hid (hT)
  have htlt := HTt_0.out.lt
  have htmt := HTt_0.out.mlt
  obtain ⟨t, ht⟩ : ∃ t, TxnP.get L k = t := ⟨_, rfl⟩
  rw [ht] at hz hb hid
  rw [ht]
  have HG := Lib.hid ht
  have hd : (t.last == 0) = true := by simpa using hz
  have HI := Lib.hid hid
  obtain ⟨⟨b1, b2⟩, b3, b4⟩ := hb
  clear hT hk hh ht hz hid
  go_enter Try.func9, Try.ntmps9
  go_wp2_with fail
  refine (get_any k _ HTt_0.out HK.out).mono ?_
  rintro e W1 ⟨rfl, hb1⟩
  rw [HH.out, HG.out, HI.out]
  have HB_1 := Lib.hid (HB_0.out.step hb1 hw_0)
  have HTt_1 := Lib.hid (HTt_0.out.below hb1)
  clear HTt_0 htlt htmt
  have htlt := HTt_1.out.lt
  have htmt := HTt_1.out.mlt
  have hw_1 := HB_1.out.size
  have hws_1 := (hb1).size
  clear hb1
  go_wp2_with fail
  all_goals
    refine (keep_any ⟨k, first, last, _⟩ _ (HTt_1.out.below (balloc (bsame _) _)) hn HK.out).mono ?_
    rintro e W3 ⟨rfl, hT3, hk3⟩
    have HK3 := Lib.hid ((HB_1.out.step (balloc (bsame _) _) hw_1).trans (hk3.more (by simp)) (by simp; omega))
    have HT3 : Hid (Tab W3 tb bm (n + 1) nx (TxnP.put L ⟨k, first, last, max (t.kept + keep) 0⟩)) := Lib.hid (tab_kept hT3 (by omega))
    clear hT3 hk3
    go_wp2
    go_ret
    exact ⟨rfl, HT3.out, HK3.out⟩
set_option maxRecDepth 100000 in
set_option maxHeartbeats 1000000 in
theorem note_old (k first last keep : Int) (w : World) (hT : Tab w tb bm n nx L) (hn : n < maxLen) (hk : In64 k) (hh : TxnP.has L k = true) (hz : ¬ (TxnP.get L k).last = 0) (hb : (-1000000000000000 ≤ (TxnP.get L k).kept ∧ (TxnP.get L k).kept ≤ 1000000000000000) ∧ (-1000000000000000 ≤ keep ∧ keep ≤ 1000000000000000)) :
    Calls Try.prog 9 #[.pointer (some ⟨tb, 0, none⟩), .int .i64 k, .int .i64 first, .int .i64 last, .int .i64 keep] w fun e w' => e = .returned (.bool true) ∧ Tab w' tb bm (n + 1) nx (TxnP.put L ⟨k, (TxnP.get L k).first, last, max ((TxnP.get L k).kept + keep) 0⟩) ∧ Kept tb bm w w' := by
  have HK := Lib.hid hk
  have HH := Lib.hid hh
  have hid := (TxnP.get_mem hh).2
  have HB_0 := Lib.hid (Reg.KeepB.of (b0 := [tb, bm]) (bsame w))
  have hw_0 := HB_0.out.size
  have HTt_0 := Lib.hid (hT)
  have htlt := HTt_0.out.lt
  have htmt := HTt_0.out.mlt
  obtain ⟨t, ht⟩ : ∃ t, TxnP.get L k = t := ⟨_, rfl⟩
  rw [ht] at hz hb hid
  rw [ht]
  have HG := Lib.hid ht
  have hd : (t.last == 0) = false := by simpa using hz
  have HI := Lib.hid hid
  obtain ⟨⟨b1, b2⟩, b3, b4⟩ := hb
  clear hT hk hh ht hz hid
  go_enter Try.func9, Try.ntmps9
  go_wp2_with fail
  refine (get_any k _ HTt_0.out HK.out).mono ?_
  rintro e W1 ⟨rfl, hb1⟩
  rw [HH.out, HG.out, HI.out]
  have HB_1 := Lib.hid (HB_0.out.step hb1 hw_0)
  have HTt_1 := Lib.hid (HTt_0.out.below hb1)
  clear HTt_0 htlt htmt
  have htlt := HTt_1.out.lt
  have htmt := HTt_1.out.mlt
  have hw_1 := HB_1.out.size
  have hws_1 := (hb1).size
  clear hb1
  go_wp2_with fail
  all_goals
    refine (keep_any ⟨k, t.first, last, _⟩ _ (HTt_1.out.below (balloc (bsame _) _)) hn HK.out).mono ?_
    rintro e W3 ⟨rfl, hT3, hk3⟩
    have HK3 := Lib.hid ((HB_1.out.step (balloc (bsame _) _) hw_1).trans (hk3.more (by simp)) (by simp; omega))
    have HT3 : Hid (Tab W3 tb bm (n + 1) nx (TxnP.put L ⟨k, t.first, last, max (t.kept + keep) 0⟩)) := Lib.hid (tab_kept hT3 (by omega))
    clear hT3 hk3
    go_wp2
    go_ret
    exact ⟨rfl, HT3.out, HK3.out⟩
/-- a table behind a note -/
def noteL (L : List TxnX) (k first last keep : Int) : List TxnX := if TxnP.has L k = true then TxnP.put L ⟨k, if (TxnP.get L k).last = 0 then first else (TxnP.get L k).first, last, max ((TxnP.get L k).kept + keep) 0⟩ else L
theorem note_any (k first last keep : Int) (w : World) (hT : Tab w tb bm n nx L) (hn : n < maxLen) (hk : In64 k) (hb : TxnP.has L k = true → (-1000000000000000 ≤ (TxnP.get L k).kept ∧ (TxnP.get L k).kept ≤ 1000000000000000) ∧ (-1000000000000000 ≤ keep ∧ keep ≤ 1000000000000000)) :
    Calls Try.prog 9 #[.pointer (some ⟨tb, 0, none⟩), .int .i64 k, .int .i64 first, .int .i64 last, .int .i64 keep] w fun e w' => e = .returned (.bool (TxnP.has L k)) ∧ Tab w' tb bm (n + 1) nx (noteL L k first last keep) ∧ Kept tb bm w w' := by
  unfold noteL
  cases hh : TxnP.has L k with
  | false =>
    rw [if_neg (by simp)]
    exact (note_no k first last keep w hT hk hh).mono fun e w' ⟨h1, h2, h3⟩ => ⟨h1, h2.mono (Nat.le_succ _), h3⟩
  | true =>
    rw [if_pos rfl]
    by_cases hz : (TxnP.get L k).last = 0
    · rw [if_pos hz]; exact note_fresh k first last keep w hT hn hk hh hz (hb hh)
    · rw [if_neg hz]; exact note_old k first last keep w hT hn hk hh hz (hb hh)
set_option maxRecDepth 100000 in
set_option maxHeartbeats 1000000 in
theorem begin_nil (w : World) : Calls Try.prog 8 #[.pointer none] w fun e w' => e = .returned (.int .i64 0) ∧ Below w.heap.size w w' := by
  go_enter Try.func8, Try.ntmps8
  go_wp2
  go_ret
  exact ⟨rfl, bsame w⟩
set_option maxRecDepth 100000 in
set_option maxHeartbeats 1000000 in
theorem next_nil (w : World) : Calls Try.prog 12 #[.pointer none] w fun e w' => e = .returned (.int .i64 0) ∧ Below w.heap.size w w' := by
  go_enter Try.func12, Try.ntmps12
  go_wp2
  go_ret
  exact ⟨rfl, bsame w⟩
set_option maxRecDepth 100000 in
set_option maxHeartbeats 1000000 in
theorem live_nil (w : World) : Calls Try.prog 14 #[.pointer none] w fun e w' => e = .returned (.slice none 0 0) ∧ Below w.heap.size w w' := by
  go_enter Try.func14, Try.ntmps14
  go_wp2
  go_ret
  exact ⟨rfl, bsame w⟩
set_option maxRecDepth 100000 in
set_option maxHeartbeats 1000000 in
theorem oldest_nil (w : World) : Calls Try.prog 17 #[.pointer none] w fun e w' => e = .returned (.tuple #[.int .i64 0, .bool false]) ∧ Below w.heap.size w w' := by
  go_enter Try.func17, Try.ntmps17
  go_wp2
  go_ret2
  exact ⟨rfl, bsame w⟩
set_option maxRecDepth 100000 in
set_option maxHeartbeats 1000000 in
theorem note_nil (k a b c : Int) (w : World) : Calls Try.prog 9 #[.pointer none, .int .i64 k, .int .i64 a, .int .i64 b, .int .i64 c] w fun e w' => e = .returned (.bool false) ∧ Below w.heap.size w w' := by
  have HB_0 := Lib.hid (bsame w)
  go_enter Try.func9, Try.ntmps9
  go_wp2_with fail
  refine (get_nil k _).mono ?_
  rintro e W1 ⟨rfl, hb1⟩
  have HB1 := Lib.hid hb1
  clear hb1
  go_wp2
  go_ret
  exact ⟨rfl, balloc HB1.out _⟩
set_option maxRecDepth 100000 in
set_option maxHeartbeats 1000000 in
theorem put_nil (a b c d : Int) (w : World) : Calls Try.prog 10 #[.pointer none, .agg #[.int .i64 a, .int .i64 b, .int .i64 c, .int .i64 d]] w fun e w' => e = .returned (.bool false) ∧ Below w.heap.size w w' := by
  go_enter Try.func10, Try.ntmps10
  go_wp2_with fail
  go_quiet (fail)
  go_wp2
  go_ret
  exact ⟨rfl, drewN_below (balloc (bsame w) _) _⟩
end Go.Proofs.Ytbcpepjedhafbaa.TxnW
