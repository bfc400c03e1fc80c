/-
  Parts of the proof of LocksSteps.
-/
import Derived.Test.YtkkfabnehhamdaaDoorLkS12
import Derived.Stop.RegionWithIn
import Derived.Shelf.Sort.Plain
import Derived.Shelf.Slices.CompactS
import Derived.Shelf.Slices.CompactI
import Derived.Shelf.Slices.In.SortNone
import Derived.Test.YtkkfabnehhamdaaDoorProg
section
namespace Go.Proofs.YtkkfabnehhamdaaDoor
open Go.RowKit Go.Maps LockP ModesP
set_option linter.unusedVariables false
set_option linter.unusedSimpArgs false
namespace LockW
attribute [local go_sem] Oper.semAt_some
attribute [local go_sem ↓] app_fold
/-- what grant tells -/
def Granted (t N : Nat) (bs : List Nat) (X : St) (k : ByteArray) (w : World) (e : Ending) (w' : World) : Prop := ∃ A n c, e = .returned (.slice A n c) ∧ OwnE IntE 3 w' w.heap.size A n c (LockP.grant lI lS X k).2 ∧ Told w t bs (N + 4 * (LockP.grant lI lS X k).2.length) (LockP.grant lI lS X k).1 w'
set_option maxRecDepth 100000 in
set_option maxHeartbeats 4000000 in
theorem grant_none (t N : Nat) (bs : List Nat) (X : St) (k : ByteArray) (w : World) (lab : Nat → Role) (b1 b2 b3 b4 : Nat) (es1 : MapP.T ByteArray (Option Nat)) (es2 : MapP.T Int (Option Nat)) (es3 : MapP.T ByteArray (Option Nat)) (h : LkIn w t bs N X lab b1 b2 b3 b4 es1 es2 es3) (hk : k.size ≤ 100) (hg : MapP.get es3 k = none) : Calls Tryd.prog 61 #[.pointer (some ⟨t, 0, none⟩), .string k] w (Granted t N bs X k w) := by
  obtain ⟨W1, hW1⟩ : ∃ W, (w.alloc (.cells #[.pointer (some ⟨t, 0, none⟩)] 25)).alloc (.cells #[.string k] 9) = W := ⟨_, rfl⟩
  have hb1 : Below w.heap.size w W1 := by rw [← hW1]; exact balloc (balloc (bsame w) _) _
  have hs0 : Str W1 w.heap.size #[.pointer (some ⟨t, 0, none⟩)] := by rw [← hW1]; exact (Str.new w _ _).alloc _
  have hs1 : Str W1 (w.heap.size + 1) #[.string k] := by rw [← hW1]; have := Str.new (w.alloc (.cells #[.pointer (some ⟨t, 0, none⟩)] 25)) #[.string k] 9; simpa using this
  have h1 := h.next hb1
  have HLK : Hid (∀ wx, Below W1.heap.size W1 wx → (Instr.lookup T3 (.map (some b3)) (.string k) false).run Tryd.prog wx = .ok (.pointer none) wx) := Lib.hid (fun wx hwx => by have h4 := (h1.next hwx).look3 hk; rw [hg] at h4; exact h4)
  have HI1 := Lib.hid h1
  have HS0 := Lib.hid hs0
  have HS1 := Lib.hid hs1
  have HB1 := Lib.hid hb1
  have H := Lib.hid h
  have HG := Lib.hid hg
  have hz1 : w.heap.size + 2 ≤ W1.heap.size := by rw [← hW1]; simp
  clear h h1 hs0 hs1 hb1 hg hz1
  go_enter Tryd.func61, Tryd.ntmps61
  go_wp2_with fail
  refine Reg.wp_region_vals (R := ext) (W := W1) [Reg.eqv (.pointer (some ⟨t, 0, none⟩)), Reg.eqv (.pointer (some ⟨t, 0, none⟩)), Reg.eqv (.pointer (some ⟨t, 2, none⟩)), Reg.eqv (.map (some b3)), Reg.eqv (.string k), Reg.eqv (.pointer none), Reg.eqv (.pointer none)] 64 [[(2, none)], [(10, some 0)], [(11, some 1)], [(12, some 2)], [(3, none)], [(13, some 3), (14, some 4)], [(15, some 5)]] rfl (by kernel_rfl) (by kernel_rfl) (by kernel_rfl) ?_ [some 10, some 11, some 12, some 13, some 14, some 15, some 5] (by kernel_rfl) ?_
  · refine ⟨?_, ?_, ?_, ?_, ?_, ?_, ?_, trivial⟩
    · intro ax wx hx hs
      obtain ⟨e2, -⟩ := hs
      have g2 := Reg.ev (v := .pointer (some ⟨w.heap.size, 0, none⟩)) e2
      have l0 := str4 (HI1.out.next hx).box
      have l1 := (HS0.out.next hx).cell 0
      have l2 := (HS1.out.next hx).cell 0
      exact Reg.obl_free rfl (Reg.wp_eqv (Option.some_ne_none _) (by go_simp) rfl)
    · intro ax wx hx hs
      obtain ⟨e10, -⟩ := hs
      have g10 := Reg.ev (v := .pointer (some ⟨t, 0, none⟩)) e10
      exact Reg.obl_free rfl (Reg.wp_eqv (Option.some_ne_none _) (by go_simp) rfl)
    · intro ax wx hx hs
      obtain ⟨e11, -⟩ := hs
      have g11 := Reg.ev (v := .pointer (some ⟨t, 0, none⟩)) e11
      exact Reg.obl_free rfl (Reg.wp_eqv (Option.some_ne_none _) (by go_simp) rfl)
    · intro ax wx hx hs
      obtain ⟨e12, -⟩ := hs
      have g12 := Reg.ev (v := .pointer (some ⟨t, 2, none⟩)) e12
      have l0 := str4 (HI1.out.next hx).box
      have l1 := (HS0.out.next hx).cell 0
      have l2 := (HS1.out.next hx).cell 0
      exact Reg.obl_free rfl (Reg.wp_eqv (Option.some_ne_none _) (by go_simp) rfl)
    · intro ax wx hx hs
      obtain ⟨e3, -⟩ := hs
      have g3 := Reg.ev (v := .pointer (some ⟨(w.heap.size + 1), 0, none⟩)) e3
      have l0 := str4 (HI1.out.next hx).box
      have l1 := (HS0.out.next hx).cell 0
      have l2 := (HS1.out.next hx).cell 0
      exact Reg.obl_free rfl (Reg.wp_eqv (Option.some_ne_none _) (by go_simp) rfl)
    · intro ax wx hx hs
      obtain ⟨e13, e14, -⟩ := hs
      have g13 := Reg.ev (v := .map (some b3)) e13
      have g14 := Reg.ev (v := .string k) e14
      refine Reg.obl_free rfl ?_
      have hlk := HLK.out wx hx
      exact Reg.wp_eqv (Option.some_ne_none _) (by go_simp) rfl
    · intro ax wx hx hs
      obtain ⟨e15, -⟩ := hs
      have g15 := Reg.ev (v := .pointer none) e15
      exact Reg.obl_free rfl (Reg.wp_eqv (Option.some_ne_none _) (by go_simp) rfl)
  · intro WR hwf
    simp only [Reg.Fin]
    rintro _ rfl _ rfl _ rfl _ rfl _ rfl _ rfl _ rfl
    go_simp
    have HBR := Lib.hid (bstep HB1.out hwf)
    clear hwf
    go_wp2_with fail
    go_ret
    have hr := H.out.n3 k HG.out
    have hX : LockP.grant lI lS X k = (LockP.cut X k, []) := by unfold LockP.grant; rw [hr]; rfl
    refine ⟨none, 0, 0, rfl, ?_, ?_⟩
    · rw [hX]; exact OwnE.none_ _ _ _ _
    · rw [hX]
      have hc : LockP.cut X k = X := by
        obtain ⟨o, m, r, g⟩ := X
        unfold LockP.cut
        dsimp only at hr ⊢
        congr 1
        funext k'
        by_cases e : k' = k
        · subst e; rw [upd_same, hr]; rfl
        · rw [upd_other _ _ e]
      rw [hc]
      exact Told.same ⟨_, _, _, _, _, _, _, _, H.out⟩ HBR.out
set_option maxRecDepth 100000 in
set_option maxHeartbeats 8000000 in
theorem grant_row (t N : Nat) (bs : List Nat) (X : St) (k : ByteArray) (w : World) (lab : Nat → Role) (b1 b2 b3 b4 : Nat) (es1 : MapP.T ByteArray (Option Nat)) (es2 : MapP.T Int (Option Nat)) (es3 : MapP.T ByteArray (Option Nat)) (h : LkIn w t bs N X lab b1 b2 b3 b4 es1 es2 es3) (hok : Ok0 X) (hrow : ∀ p ∈ X.row k, 0 ≤ p.2 ∧ p.2 < 4) (hri : ∀ p ∈ X.row k, In64 p.1) (hT : Modes.Tab w) (hgb : 0 ∉ bs) (hk : k.size ≤ 100) (hN : N + 4 * (X.row k).length + 8 ≤ 1000000) (q : Nat) (hg : MapP.get es3 k = some (some q)) : Calls Tryd.prog 61 #[.pointer (some ⟨t, 0, none⟩), .string k] w (Granted t N bs X k w) := by
  obtain ⟨W1, hW1⟩ : ∃ W, (w.alloc (.cells #[.pointer (some ⟨t, 0, none⟩)] 25)).alloc (.cells #[.string k] 9) = W := ⟨_, rfl⟩
  have hb1 : Below w.heap.size w W1 := by rw [← hW1]; exact balloc (balloc (bsame w) _) _
  have hs0 : Str W1 w.heap.size #[.pointer (some ⟨t, 0, none⟩)] := by rw [← hW1]; exact (Str.new w _ _).alloc _
  have hs1 : Str W1 (w.heap.size + 1) #[.string k] := by rw [← hW1]; have := Str.new (w.alloc (.cells #[.pointer (some ⟨t, 0, none⟩)] 25)) #[.string k] 9; simpa using this
  have h1 := h.next hb1
  have HLK : Hid (∀ wx, Below W1.heap.size W1 wx → (Instr.lookup T3 (.map (some b3)) (.string k) false).run Tryd.prog wx = .ok (.pointer (some ⟨q, 0, none⟩)) wx) := Lib.hid (fun wx hwx => by have h4 := (h1.next hwx).look3 hk; rw [hg] at h4; exact h4)
  have HI1 := Lib.hid h1
  have HS0 := Lib.hid hs0
  have HS1 := Lib.hid hs1
  have HB1 := Lib.hid hb1
  have H := Lib.hid h
  have HG := Lib.hid hg
  have hz1 : w.heap.size + 2 ≤ W1.heap.size := by rw [← hW1]; simp
  have HOK := Lib.hid hok
  have HR := Lib.hid hrow
  have HX64 := Lib.hid hri
  have HT := Lib.hid hT
  have HGB := Lib.hid hgb
  have HLO : Hid (∀ b ∈ bs, b < w.heap.size) := Lib.hid h.lo
  have HTL : Hid (0 < w.heap.size) := Lib.hid hT.lt
  obtain ⟨q', A, n, c, eq', hlq, hmq, hQ, hA, hn⟩ := h.e3 k _ hg
  cases eq'
  have hln := hQ.2.len
  have HQ := Lib.hid hQ
  have HLR : Hid (∀ b ∈ q :: (A.map (·.block)).toList, b < w.heap.size ∧ b ∉ rl lab bs) := Lib.hid (fun b hm => by
    rcases List.mem_cons.1 hm with rfl | hm
    · exact ⟨h.lo _ hmq, fun hr => by have := (List.mem_filter.1 hr).2; rw [hlq] at this; cases this⟩
    · obtain ⟨a, e, rfl⟩ := Option.map_eq_some_iff.1 (Option.mem_toList.1 hm)
      exact ⟨h.lo _ (hA a e).2, fun hr => by have := (List.mem_filter.1 hr).2; rw [(hA a e).1] at this; cases this⟩)
  have HRI : Hid (RowIn (q :: (A.map (·.block)).toList) w (some q) (X.row k)) := Lib.hid (.inr ⟨q, A, n, c, rfl, hQ, by omega, List.mem_cons_self .., fun a ha => List.mem_cons_of_mem _ (by rw [ha]; simp)⟩)
  clear h h1 hs0 hs1 hb1 hg hok hrow hri hT hgb hlq hmq hQ hA
  refine (callsIn_wide (n := 5)).1 ?_
  refine callsIn_of_wp_marks Tryd.func61 rfl trivial ?_ rfl
  simp only [Tryd.ntmps61, List.size_toArray, List.length_cons, List.length_nil, Nat.reduceAdd, Nat.reduceSub, Array.replicate_succ, Array.replicate_zero, List.push_toArray, List.append_toArray, List.nil_append, List.cons_append]
  have hmf : ∀ (fn : Fn) (first cap : Array Value) (w : World), (Instr.makeFunc fn first cap).run Tryd.prog w = .ok (.func fn first cap) w := fun _ _ _ _ => rfl
  gi_wp2_with fail
  refine wpIn_wide.2 ?_
  refine Reg.wp_region_vals (R := ext) (W := W1) [Reg.eqv (.pointer (some ⟨t, 0, none⟩)), Reg.eqv (.pointer (some ⟨t, 0, none⟩)), Reg.eqv (.pointer (some ⟨t, 2, none⟩)), Reg.eqv (.map (some b3)), Reg.eqv (.string k), Reg.eqv (.pointer (some ⟨q, 0, none⟩)), Reg.eqv (.pointer (some ⟨q, 0, none⟩))] 64 [[(2, none)], [(10, some 0)], [(11, some 1)], [(12, some 2)], [(3, none)], [(13, some 3), (14, some 4)], [(15, some 5)]] rfl (by kernel_rfl) (by kernel_rfl) (by kernel_rfl) ?_ [some 10, some 11, some 12, some 13, some 14, some 15, some 5] (by kernel_rfl) ?_
  · refine ⟨?_, ?_, ?_, ?_, ?_, ?_, ?_, trivial⟩
    · intro ax wx hx hs
      obtain ⟨e2, -⟩ := hs
      have g2 := Reg.ev (v := .pointer (some ⟨w.heap.size, 0, none⟩)) e2
      have l0 := str4 (HI1.out.next hx).box
      have l1 := (HS0.out.next hx).cell 0
      have l2 := (HS1.out.next hx).cell 0
      exact Reg.obl_free rfl (Reg.wp_eqv (Option.some_ne_none _) (by go_simp) rfl)
    · intro ax wx hx hs
      obtain ⟨e10, -⟩ := hs
      have g10 := Reg.ev (v := .pointer (some ⟨t, 0, none⟩)) e10
      exact Reg.obl_free rfl (Reg.wp_eqv (Option.some_ne_none _) (by go_simp) rfl)
    · intro ax wx hx hs
      obtain ⟨e11, -⟩ := hs
      have g11 := Reg.ev (v := .pointer (some ⟨t, 0, none⟩)) e11
      exact Reg.obl_free rfl (Reg.wp_eqv (Option.some_ne_none _) (by go_simp) rfl)
    · intro ax wx hx hs
      obtain ⟨e12, -⟩ := hs
      have g12 := Reg.ev (v := .pointer (some ⟨t, 2, none⟩)) e12
      have l0 := str4 (HI1.out.next hx).box
      have l1 := (HS0.out.next hx).cell 0
      have l2 := (HS1.out.next hx).cell 0
      exact Reg.obl_free rfl (Reg.wp_eqv (Option.some_ne_none _) (by go_simp) rfl)
    · intro ax wx hx hs
      obtain ⟨e3, -⟩ := hs
      have g3 := Reg.ev (v := .pointer (some ⟨(w.heap.size + 1), 0, none⟩)) e3
      have l0 := str4 (HI1.out.next hx).box
      have l1 := (HS0.out.next hx).cell 0
      have l2 := (HS1.out.next hx).cell 0
      exact Reg.obl_free rfl (Reg.wp_eqv (Option.some_ne_none _) (by go_simp) rfl)
    · intro ax wx hx hs
      obtain ⟨e13, e14, -⟩ := hs
      have g13 := Reg.ev (v := .map (some b3)) e13
      have g14 := Reg.ev (v := .string k) e14
      refine Reg.obl_free rfl ?_
      have hlk := HLK.out wx hx
      exact Reg.wp_eqv (Option.some_ne_none _) (by go_simp) rfl
    · intro ax wx hx hs
      obtain ⟨e15, -⟩ := hs
      have g15 := Reg.ev (v := .pointer (some ⟨q, 0, none⟩)) e15
      exact Reg.obl_free rfl (Reg.wp_eqv (Option.some_ne_none _) (by go_simp) rfl)
  · intro WR hwf
    simp only [Reg.Fin]
    rintro _ rfl _ rfl _ rfl _ rfl _ rfl _ rfl _ rfl
    go_simp
    have HBR := Lib.hid (bstep HB1.out hwf)
    have HSR0 := Lib.hid (HS0.out.next hwf)
    have HSR1 := Lib.hid (HS1.out.next hwf)
    have hzr : w.heap.size + 2 ≤ WR.heap.size := Nat.le_trans hz1 hwf.size
    clear hwf HS0 HS1 HB1 HI1 HLK
    gi_wp2_with fail
    obtain ⟨W2, hW2⟩ : ∃ W, (WR.alloc (.cells #[.slice none 0 0] 32)).alloc (.cells #[.int .i64 0] 3) = W := ⟨_, rfl⟩
    rw [hW2]
    have hb2 : Below WR.heap.size WR W2 := by rw [← hW2]; exact balloc (balloc (bsame WR) _) _
    have HS2 : Hid (Str W2 WR.heap.size #[.slice none 0 0]) := Lib.hid (by rw [← hW2]; exact (Str.new WR _ _).alloc _)
    have HS3 : Hid (Str W2 (WR.heap.size + 1) #[.int .i64 0]) := Lib.hid (by rw [← hW2]; have := Str.new (WR.alloc (.cells #[.slice none 0 0] 32)) #[.int .i64 0] 3; simpa using this)
    have hz2 : WR.heap.size + 2 ≤ W2.heap.size := by rw [← hW2]; simp
    have HB2 := Lib.hid (bstep HBR.out hb2)
    have HSA := Lib.hid (HSR0.out.next hb2)
    have HSB := Lib.hid (HSR1.out.next hb2)
    clear hW2 hb2 HSR0 HSR1 HBR
    refine ⟨trivial, ?_⟩
    refine (callsIn_wide.2 (all_any _ W2)).mono ?_
    rintro e W3 ⟨rfl, hS3, hb3, hz3⟩
    gi_wp2_with fail
    have HB3 := Lib.hid (bstep HB2.out hb3)
    have HSQ := Lib.hid hS3
    have hz4 : WR.heap.size + 2 ≤ W3.heap.size := by omega
    have HRI3 : Hid (RowIn (q :: (A.map (·.block)).toList) W3 (some q) (X.row k)) := Lib.hid (HRI.out.next (fun b hm => (HLR.out b hm).1) HB3.out)
    have HI3 : Hid (GrI w t k bs N X lab b1 b2 b3 b4 es1 es2 es3 WR.heap.size W3.heap.size ([] : List (In (X.row k))) W3) := Lib.hid ⟨HSA.out.next hb3, HSB.out.next hb3, HS3.out.next hb3, ⟨bs, lab, es1, es2, none, 0, 0, H.out.next HB3.out, Stay.refl _ _ _ _ _, HS2.out.next hb3, OwnE.none_ _ _ _ _, fun a e => by cases e⟩, Reg.KeepB.of HB3.out, Nat.le_refl _, HOK.out, ⟨Int.le_refl _, by show (0 : Int) < 16; omega⟩⟩
    clear hS3 hb3 hz3 HSA HSB HS2 HS3 HB2
    apply range_all rfl (by omega) (gf := 52) (lb := #[.pointer (some ⟨W2.heap.size, 0, none⟩)]) rfl trivial (enters_of Tryd.func52 (by kernel_rfl) rfl)
      (all_seqB 4 (by omega) W2.heap.size (some q) (q :: (A.map (·.block)).toList) (X.row k) W3 HSQ.out HRI3.out) (fun h k b hm => (k b hm).trans (h b hm)) ?hKb (fun _ => rfl)
      (GrI w t k bs N X lab b1 b2 b3 b4 es1 es2 es3 WR.heap.size W3.heap.size) (GrX w t k bs N X lab b1 b2 b3 b4 es1 es2 es3 WR.heap.size W3.heap.size _) ?hIb ?hIp (fun pre x a' W l' r r' hle hl' hI => hI.loop hl' (Nat.le_trans HB3.out.size hle)) HI3.out ?assign ?body ?done
    case hKb =>
      intro W l' r r' hle hl' b hm
      have := (HLR.out b hm).1
      have hlt := (Array.getElem?_eq_some_iff.1 hl').1
      exact (grownBy_putObj' W l' (.loop r')).block _ (by have := HB3.out.size; omega) (fun e => by cases e; have := HB3.out.size; omega)
    case hIb =>
      intro pre V V' hI hb
      exact hI.next hI.kp.size hb
    case hIp =>
      intro pre W l' r r' hle hl' hI
      exact hI.loop hl' (by have := HB3.out.size; omega)
    case assign =>
      intro l' pre x W hI hlt
      have hb' : Below W.heap.size W (W.alloc (.cells #[.int .i64 x.1.1.1, .int .i64 x.1.1.2] 80)) := balloc (bsame W) _
      have hsz := hI.tb.lt
      gi_wp2
      obtain ⟨gb, hgb⟩ : ∃ gb, gb = W.heap.size := ⟨_, rfl⟩
      rw [← hgb]
      have hB := hI.kp.size
      have hWs := hI.z
      exact ⟨tools_below hb', fun b hm => hb'.block b (by have := (HLR.out b hm).1; omega), hI.next hB hb', gb, by omega, rfl, by rw [hgb]; exact Str.new W _ _⟩
    case body =>
      rintro l' pre x a' W ⟨hI, gb, hgb, rfl, hs⟩ hlt
      obtain ⟨⟨S, av, told⟩, hy⟩ : ∃ y, grY k X pre = y := ⟨_, rfl⟩
      obtain ⟨⟨u, m⟩, hp⟩ : ∃ p, x.1.1 = p := ⟨_, rfl⟩
      have hlk := hI.lk
      have hab := hI.ab
      have hok := hI.ok
      have hah := hI.ah
      have hmm := HR.out _ x.2
      have hu := HX64.out _ x.2
      have hll := told_len k (pre.map (·.1.1)) (X, 0, [])
      rw [show (pre.map (·.1.1)).foldl (LockP.step lI lS k) (X, 0, []) = (S, av, told) from hy] at hll
      rw [hy] at hlk hab hok hah
      rw [hp] at hmm hu hs
      simp only [List.length_map, List.length_nil, Nat.zero_add] at hll
      obtain ⟨bs', lab', es1', es2', A', n', c', hL, hS, hTd, hO, -⟩ := hlk
      have hG : GrB w t k WR.heap.size W3.heap.size gb A' n' c' av told (u, m) W := ⟨hI.tb, hI.kb, hTd, hab, hs, hO⟩
      have HTW : Hid (Modes.Tab W) := Lib.hid (HT.out.keepB hI.kp HTL.out (fun hm => HGB.out (rl_sub hm)))
      have g0 := str1 hI.tb
      have gl0 := hI.tb.lt
      have g1 := str1 hI.kb
      have gl1 := hI.kb.lt
      have g2 := str2 hs
      have gl2 := hs.lt
      have g3 := str1 hab
      have gl3 := hab.lt
      have hln6 := hO.len
      have HI := Lib.hid hI
      have HY := Lib.hid hy
      have HP := Lib.hid hp
      have HL := Lib.hid hL
      have HSt := Lib.hid hS
      have HG := Lib.hid hG
      have HU := Lib.hid hu
      have HOK6 := Lib.hid hok
      obtain ⟨hm0, hm1⟩ : 0 ≤ m ∧ m < 4 := hmm
      obtain ⟨ha0, ha1⟩ : 0 ≤ av ∧ av < 16 := hah
      have HKW := Lib.hid hI.kp.size
      clear hI hy hp hL hS hTd hO hG hu hok hab hs
      gi_wp2_with fail
      refine ⟨trivial, ?_⟩
      refine (callsIn_wide.2 (may_any t (N + 4 * told.length) bs' S u k m av W ⟨_, _, _, _, _, _, _, _, HL.out⟩ HOK6.out HTW.out HU.out hk hm0 hm1 ha0 ha1)).mono ?_
      rintro e W4 ⟨rfl, hb4⟩
      have HB4 := Lib.hid hb4
      have hG4 := HG.out.next hb4
      have hw4 := hb4.size
      clear g0 gl0 g1 gl1 g2 gl2 g3 gl3 hb4
      cases hmay : may S u k m av with
      | true =>
        have HM := Lib.hid hmay
        have g0 := str1 hG4.tb
        have gl0 := hG4.tb.lt
        have g1 := str1 hG4.kb
        have gl1 := hG4.kb.lt
        have g2 := str2 hG4.xb
        have gl2 := hG4.xb.lt
        have HG4 := Lib.hid hG4
        clear hmay hG4
        gi_wp2_with fail
        refine ⟨trivial, ?_⟩
        refine (callsIn_wide.2 (hold_in t (N + 4 * told.length) bs' S u k m W4 lab' b1 b2 b3 b4 es1' es2' es3 (HL.out.next HB4.out) HOK6.out HU.out hk hm0 hm1 (by omega))).mono ?_
        rintro e W5 ⟨rfl, bs5, lab5, es15, es25, hL5, hS5, hK5⟩
        have hG5 := HG4.out.held (HL.out.next HB4.out) HSt.out HLO.out hK5 hzr hz4 hgb
        have HL5 := Lib.hid hL5
        have HS5 := Lib.hid hS5
        have HK5 := Lib.hid hK5
        have HG5 := Lib.hid hG5
        have hw5 := hK5.size
        clear hL5 hS5 hK5 hG5 g0 gl0 g1 gl1 g2 gl2 HG4
        gi_wp2_with fail
        have hwf' : Below W5.heap.size W5 W5.drew := ⟨rfl, rfl, rfl, Nat.le_refl _, fun _ _ => rfl⟩
        have hL6 := HL5.out.next hwf'
        have hG6 := HG5.out.next hwf'
        obtain ⟨W7, hd7, hL7, hK7⟩ := hL6.del4r HU.out 0
        have hG7 := hG6.held hL6 (HSt.out.trans HS5.out (by have := HI.out.z; omega)) HLO.out hK7 hzr hz4 hgb
        have HB6 := Lib.hid hwf'
        have HL7 := Lib.hid hL7
        have HK7 := Lib.hid hK7
        have hw6 := hwf'.size
        have hw7 := hK7.size
        obtain ⟨i0, hi0, iz0, iz1, iz2⟩ := info_parts infoI
        obtain ⟨W8, hW8⟩ : ∃ W, W7.alloc (.cells #[.int .i64 u] 3) = W := ⟨_, rfl⟩
        have hb8 : Below W7.heap.size W7 W8 := by rw [← hW8]; exact balloc (bsame W7) _
        have hs8 : Str W8 W7.heap.size #[.int .i64 u] := by rw [← hW8]; exact Str.new W7 _ _
        have hG8 := hG7.next hb8
        have hw8 := hb8.size
        have hzw := HI.out.z
        obtain ⟨A9, c9, W9, happ, hO9, -, hg9, -⟩ := hG8.ow.app (P := Tryd.prog) 32 32 i0 _ 8 Tryd.underlying32 hi0 iz0 iz1 iz2 rfl (IntE.lit (wr := hid A' W8) (x := u) hs8) (by unfold maxLen; omega) (by omega) (by omega)
        have HFIN := Lib.hid (GrI.taken HP.out HI.out HY.out HM.out ⟨hm0, hm1⟩ HLO.out HLR.out hzr hz4 hgb HL.out HSt.out HB4.out HS5.out HK5.out HL5.out HB6.out HL7.out HK7.out hb8 hG8 hg9 hO9)
        have g0 := str1 hG7.sb
        have gl0 := hG7.sb.lt
        have g1 := str2 hG7.xb
        have gl1 := hG7.xb.lt
        have hsb9 : Str W9 WR.heap.size #[.slice A' n' c'] := hG8.sb.grownO hg9 (fun e => by
          cases A' with
          | none => simp [Value.ownBlock] at e
          | some ad =>
            have h2 : ad.block = WR.heap.size := by simpa [Value.ownBlock] using e
            have := hG8.ow.ge ad rfl
            omega)
        have g2 := str1 hsb9
        have gf2 := hsb9.frozen 0
        have gl2 := hsb9.lt
        have f0 := str4 HL5.out.box
        have fl0 := HL5.out.box.lt
        have f1 := str1 HG5.out.tb
        have fl1 := HG5.out.tb.lt
        have f2 := str2 HG5.out.xb
        have fl2 := HG5.out.xb.lt
        clear hwf' hL6 hG6 hL7 hK7 hG7 hb8 hs8 hG8 hO9 hg9 hsb9 hi0 iz0 iz1 iz2
        gi_region_with fail
        all_goals
          gi_wp2_with fail
          exact HFIN.out
      | false =>
        have HM := Lib.hid hmay
        have g2 := str2 hG4.xb
        have gl2 := hG4.xb.lt
        have g3 := str1 hG4.ab
        have gf3 := hG4.ab.frozen 0
        have gl3 := hG4.ab.lt
        clear hmay hG4
        gi_wp2_with fail
        refine ⟨trivial, ?_⟩
        refine (callsIn_wide.2 (Modes.with_any av m W4 ha0 ha1 hm0 hm1)).mono ?_
        rintro e w' ⟨rfl, rfl⟩
        gi_wp2_with fail
        exact GrI.passed HP.out HI.out HY.out HM.out ⟨hm0, hm1⟩ HLO.out HLR.out hzr hz4 HB4.out
    case done =>
      intro D xs W6 hDD hS hI hK
      obtain ⟨⟨S, av, told⟩, hy⟩ : ∃ y, grY k X xs = y := ⟨_, rfl⟩
      have hlk := hI.lk
      rw [hy] at hlk
      have hyr : (X.row k).foldl (LockP.step lI lS k) (X, 0, []) = (S, av, told) := by rw [← hS]; exact hy
      have hps := LockP.pass_step lI lS k (X.row k) X 0 []
      have hsr := LockP.steps_row lI lS k (X.row k) (X, 0, [])
      rw [hyr] at hps hsr
      have hgr : LockP.grant lI lS X k = ({ S with row := upd S.row k ((S.row k).filter fun p => MapP.has S.goal p.1) }, told) := by
        unfold LockP.grant LockP.cut
        have hp1 : S = (LockP.pass lI lS k (X.row k) X 0).1 := hps.1
        have hp2 : told = [] ++ (LockP.pass lI lS k (X.row k) X 0).2 := hps.2
        rw [← hp1, show (LockP.pass lI lS k (X.row k) X 0).2 = told from (hp2.trans (List.nil_append _)).symm]
      have HGR := Lib.hid hgr
      have hsr' : S.row = X.row := hsr
      obtain ⟨bs', lab', es1', es2', A', n', c', hL, hSt, hTd, hO, hA⟩ := hlk
      obtain ⟨q', A2, n2, c2, eq', hlq, hmq, hQ, hA2, hn2⟩ := hL.e3 k _ HG.out
      cases eq'
      have hne : ∀ a, A2 = some a → a.block ≠ q := fun p hp e => by
        have h1 := (hA2 p hp).1
        rw [e, hlq] at h1
        cases h1
      have hln := hQ.2.len
      have hw3 := HB3.out.size
      have hn6 : n2 ≤ 1000000 := by rw [hsr'] at hln; omega
      have hd6 := (Array.getElem?_eq_some_iff.1 hK).1
      have hxi : ∀ x ∈ S.row k, In64 x.1 := fun x hx => HX64.out x (by rw [← hsr']; exact hx)
      have h0q : w.heap.size ≠ q := fun e => hL.apart hSt HLO.out hI.tb (Nat.le_refl _) (by rw [e]; exact hmq)
      have h1q : w.heap.size + 1 ≠ q := fun e => hL.apart hSt HLO.out hI.kb (by omega) (by rw [e]; exact hmq)
      have hsq : WR.heap.size ≠ q := fun e => hL.apart hSt HLO.out hTd (by omega) (by rw [e]; exact hmq)
      have HI := Lib.hid hI
      have HL := Lib.hid hL
      have HSt := Lib.hid hSt
      have HTd := Lib.hid hTd
      have HO := Lib.hid hO
      have HA := Lib.hid hA
      have HQ := Lib.hid hQ
      have HNE := Lib.hid hne
      have HK := Lib.hid hK
      have HXI := Lib.hid hxi
      clear hI hL hSt hTd hO hA hQ hne hK hxi hA2 hlq hy hyr hps hsr hsr' hgr hS
      dsimp only
      gi_wp2_with fail
      refine ⟨trivial, ?_⟩
      refine (callsIn_wide.2 (cut_any q n2 c2 75 A2 (S.row k) #[.pointer (some ⟨w.heap.size, 0, none⟩)] (fun x => !MapP.has S.goal x.1) W6 HQ.out HNE.out hn6 (enters_of Tryd.func75 (by kernel_rfl) rfl) (fun x hx W hW => grantIs t w.heap.size (N + 4 * told.length) bs' S x W ⟨_, _, _, _, _, _, _, _, HL.out.next hW⟩ (HI.out.tb.next hW) (HXI.out x hx)))).mono ?_
      rintro e W7 ⟨⟨v, rfl⟩, A7, n7, c7, hQ7, hA7, hkb⟩
      simp only [Bool.not_not] at hQ7
      obtain ⟨bs7, lab7, hL7, hN7, hK7⟩ := HL.out.cutq HG.out hQ7 hA7 hkb (List.length_filter_le _ _)
      have hln7 := hQ7.2.len
      have hlf := List.length_filter_le (fun p => MapP.has S.goal p.1) (S.row k)
      have ht7 := HI.out.tb.keepB hkb (by rw [List.mem_singleton]; exact h0q)
      have hk7 := HI.out.kb.keepB hkb (by rw [List.mem_singleton]; exact h1q)
      have hs7 := HTd.out.keepB hkb (by rw [List.mem_singleton]; exact hsq)
      have HL7 := Lib.hid hL7
      have HN7 := Lib.hid hN7
      have HK7 := Lib.hid hK7
      have HQ7 := Lib.hid hQ7
      have HT7 := Lib.hid ht7
      have HKB7 := Lib.hid hk7
      have HS7 := Lib.hid hs7
      have hw7 := hkb.size
      clear hL7 hN7 hK7 hA7 hkb ht7 hk7 hs7 hQ7
      gi_wp2_with fail
      refine ⟨trivial, ?_⟩
      refine (callsIn_wide.2 (lenq_any q n7 c7 A7 _ W7 HQ7.out (by omega))).mono ?_
      rintro e W8 ⟨rfl, hb8⟩
      have HB8 := Lib.hid hb8
      have ht8 := HT7.out.next hb8
      have hk8 := HKB7.out.next hb8
      have hs8 := HS7.out.next hb8
      have HL8 := Lib.hid (HL7.out.next hb8)
      have HT8 := Lib.hid ht8
      have HKB8 := Lib.hid hk8
      have HS8 := Lib.hid hs8
      have hw8 := hb8.size
      clear hb8 ht8 hk8 hs8
      cases hn7 : decide (n7 = 0) with
      | true =>
        have hz7 : n7 = 0 := of_decide_eq_true hn7
        subst hz7
        clear hn7
        gi_wp2_with fail
        refine wpIn_wide.2 ?_
        refine Reg.wp_region_tail (R := ext) (W := W8) [Reg.eqv (.pointer (some ⟨t, 0, none⟩)), Reg.eqv (.pointer (some ⟨t, 0, none⟩)), Reg.eqv (.pointer (some ⟨t, 2, none⟩)), Reg.eqv (.map (some b3)), Reg.eqv (.string k)] 64 5 _ [[(2, none)], [(58, some 0)], [(59, some 1)], [(60, some 2)], [(3, none)]] rfl (by kernel_rfl) (by kernel_rfl) (by rfl) (by rfl) rfl (by kernel_rfl) ?_ [some 58, some 59, some 60, some 61, some 62] (by kernel_rfl) ?_
        · refine ⟨?_, ?_, ?_, ?_, ?_, trivial⟩
          · intro ax wx hx hs
            obtain ⟨e2, -⟩ := hs
            have g2 := Reg.ev (v := .pointer (some ⟨w.heap.size, 0, none⟩)) e2
            have l0 := str4 (HL8.out.next hx).box
            have l1 := (HT8.out.next hx).cell 0
            have l2 := (HKB8.out.next hx).cell 0
            exact Reg.obl_free rfl (Reg.wp_eqv (Option.some_ne_none _) (by go_simp) rfl)
          · intro ax wx hx hs
            obtain ⟨e58, -⟩ := hs
            have g58 := Reg.ev (v := .pointer (some ⟨t, 0, none⟩)) e58
            exact Reg.obl_free rfl (Reg.wp_eqv (Option.some_ne_none _) (by go_simp) rfl)
          · intro ax wx hx hs
            obtain ⟨e59, -⟩ := hs
            have g59 := Reg.ev (v := .pointer (some ⟨t, 0, none⟩)) e59
            exact Reg.obl_free rfl (Reg.wp_eqv (Option.some_ne_none _) (by go_simp) rfl)
          · intro ax wx hx hs
            obtain ⟨e60, -⟩ := hs
            have g60 := Reg.ev (v := .pointer (some ⟨t, 2, none⟩)) e60
            have l0 := str4 (HL8.out.next hx).box
            have l1 := (HT8.out.next hx).cell 0
            have l2 := (HKB8.out.next hx).cell 0
            exact Reg.obl_free rfl (Reg.wp_eqv (Option.some_ne_none _) (by go_simp) rfl)
          · intro ax wx hx hs
            obtain ⟨e3, -⟩ := hs
            have g3 := Reg.ev (v := .pointer (some ⟨(w.heap.size + 1), 0, none⟩)) e3
            have l0 := str4 (HL8.out.next hx).box
            have l1 := (HT8.out.next hx).cell 0
            have l2 := (HKB8.out.next hx).cell 0
            exact Reg.obl_free rfl (Reg.wp_eqv (Option.some_ne_none _) (by go_simp) rfl)
        · intro WA hwf
          simp only [Reg.Fin]
          rintro _ rfl _ rfl _ rfl _ rfl _ rfl
          have hwf' : Below W8.heap.size W8 WA := hwf
          have hLA := HL8.out.next hwf'
          have hrow0 : (S.row k).filter (fun p => MapP.has S.goal p.1) = [] := List.eq_nil_of_length_eq_zero (by omega)
          obtain ⟨W9, es39, hd9, hL9, hK9⟩ := hLA.gone3 hk (by show upd S.row k _ k = []; rw [upd_same]; exact hrow0) 0
          have hF := granted (D := D) (d := some []) (o' := .deferred none) HLO.out HI.out.kp HL.out HSt.out hw3 HO.out HA.out HK.out (by omega) HN7.out HK7.out (bstep HB8.out hwf') hK9 hL9
          have HF := Lib.hid hF
          have hs9 := (HS8.out.next hwf').keepB hK9 (fun hm => by
            rcases HN7.out _ hm with h | h
            · exact HL.out.apart HSt.out HLO.out HTd.out (by omega) h
            · have := HTd.out.lt; omega)
          have g9 := str1 hs9
          have gl9 := hs9.lt
          clear hwf hwf' hLA hL9 hK9 hs9 hF
          refine Reg.Goal.mk ?_
          go_simp
          gi_wp2_with fail
          refine ⟨by simp, .inl ⟨_, _, rfl, run_takeDeferred HF.out.1, ?_⟩⟩
          refine ⟨.slice A' n' c', by simp [results, Tryd.results61, go_sem, *], ?_⟩
          exact ⟨A', n', c', rfl, by rw [HGR.out]; exact HF.out.2.1, by rw [HGR.out]; exact HF.out.2.2⟩
      | false =>
        have hz7 : n7 ≠ 0 := of_decide_eq_false hn7
        have hd7 : ((n7 : Int) == 0) = false := by simp; omega
        clear hn7
        have g9 := str1 HS8.out
        have gl9 := HS8.out.lt
        have hF := granted (D := D) (d := some []) (o' := .deferred none) HLO.out HI.out.kp HL.out HSt.out hw3 HO.out HA.out HK.out (by omega) HN7.out HK7.out HB8.out (Reg.KeepB.of (Below.refl _ _)) HL8.out
        have HF := Lib.hid hF
        clear hF
        gi_wp2_with fail
        refine ⟨by simp, .inl ⟨_, _, rfl, run_takeDeferred HF.out.1, ?_⟩⟩
        refine ⟨.slice A' n' c', by simp [results, Tryd.results61, go_sem, *], ?_⟩
        exact ⟨A', n', c', rfl, by rw [HGR.out]; exact HF.out.2.1, by rw [HGR.out]; exact HF.out.2.2⟩
end LockW
end Go.Proofs.YtkkfabnehhamdaaDoor
end
section
namespace Go.Proofs.YtkkfabnehhamdaaDoor
open Go.Shelf Go.RowKit
def lays189_ren : Ren where
  f x := match x with
    | 189 => 34
    | 125 => 54
    | 257 => 53
    | 128 => 71
    | 129 => 72
    | 294 => 62
    | 295 => 63
    | 296 => 64
    | 297 => 65
    | 298 => 66
    | 299 => 67
    | 216 => 68
    | 300 => 69
    | 301 => 70
    | 328 => 77
    | 329 => 78
    | 330 => 79
    | 331 => 80
    | 332 => 81
    | 215 => 82
    | 343 => 92
    | n => n
  t x := match x with
    | 28 => 32
    | 3 => 3
    | 46 => 84
    | 0 => 0
    | 51 => 122
    | 53 => 31
    | 4 => 4
    | 183 => 115
    | 182 => 114
    | 131 => 119
    | 5 => 5
    | 9 => 9
    | 218 => 125
    | 222 => 129
    | 228 => 137
    | 229 => 138
    | n => n
  g x := x
theorem lays189 : Lays.n189 Tryd.prog lays189_ren where
  mixed := rfl
  f125 := Tryd.func54.trans (by kernel_rfl)
  f128 := Tryd.func71.trans (by kernel_rfl)
  f129 := Tryd.func72.trans (by kernel_rfl)
  f189 := Tryd.func34.trans (by kernel_rfl)
  f215 := Tryd.func82.trans (by kernel_rfl)
  f216 := Tryd.func68.trans (by kernel_rfl)
  f257 := Tryd.func53.trans (by kernel_rfl)
  f294 := Tryd.func62.trans (by kernel_rfl)
  f295 := Tryd.func63.trans (by kernel_rfl)
  f296 := Tryd.func64.trans (by kernel_rfl)
  f297 := Tryd.func65.trans (by kernel_rfl)
  f298 := Tryd.func66.trans (by kernel_rfl)
  f299 := Tryd.func67.trans (by kernel_rfl)
  f300 := Tryd.func69.trans (by kernel_rfl)
  f301 := Tryd.func70.trans (by kernel_rfl)
  f328 := Tryd.func77.trans (by kernel_rfl)
  f329 := Tryd.func78.trans (by kernel_rfl)
  f330 := Tryd.func79.trans (by kernel_rfl)
  f331 := Tryd.func80.trans (by kernel_rfl)
  f332 := Tryd.func81.trans (by kernel_rfl)
  f343 := Tryd.func92.trans (by kernel_rfl)
  t0 := Tryd.underlying0
  a0 := Tryd.isAgg0
  z0 := Tryd.sizeOf0
  v0 := Tryd.zeroValue0
  t3 := Tryd.underlying3
  a3 := Tryd.isAgg3
  z3 := Tryd.sizeOf3
  v3 := Tryd.zeroValue3
  t4 := Tryd.underlying4
  a4 := Tryd.isAgg4
  z4 := Tryd.sizeOf4
  v4 := Tryd.zeroValue4
  t5 := Tryd.underlying5
  a5 := Tryd.isAgg5
  z5 := Tryd.sizeOf5
  v5 := Tryd.zeroValue5
  t9 := Tryd.underlying9
  a9 := Tryd.isAgg9
  z9 := Tryd.sizeOf9
  v9 := Tryd.zeroValue9
  t28 := Tryd.underlying32
  a28 := Tryd.isAgg32
  z28 := Tryd.sizeOf32
  v28 := Tryd.zeroValue32
  t46 := Tryd.underlying84
  a46 := Tryd.isAgg84
  z46 := Tryd.sizeOf84
  v46 := Tryd.zeroValue84
  t51 := Tryd.underlying122
  a51 := Tryd.isAgg122
  z51 := Tryd.sizeOf122
  v51 := Tryd.zeroValue122
  t53 := Tryd.underlying31
  a53 := Tryd.isAgg31
  z53 := Tryd.sizeOf31
  v53 := Tryd.zeroValue31
  t131 := Tryd.underlying119
  a131 := Tryd.isAgg119
  z131 := Tryd.sizeOf119
  v131 := Tryd.zeroValue119
  t182 := Tryd.underlying114
  a182 := Tryd.isAgg114
  z182 := Tryd.sizeOf114
  v182 := Tryd.zeroValue114
  t183 := Tryd.underlying115
  a183 := Tryd.isAgg115
  z183 := Tryd.sizeOf115
  v183 := Tryd.zeroValue115
  t218 := Tryd.underlying125
  a218 := Tryd.isAgg125
  z218 := Tryd.sizeOf125
  v218 := Tryd.zeroValue125
  t222 := Tryd.underlying129
  a222 := Tryd.isAgg129
  z222 := Tryd.sizeOf129
  v222 := Tryd.zeroValue129
  t228 := Tryd.underlying137
  a228 := Tryd.isAgg137
  z228 := Tryd.sizeOf137
  v228 := Tryd.zeroValue137
  t229 := Tryd.underlying138
  a229 := Tryd.isAgg138
  z229 := Tryd.sizeOf138
  v229 := Tryd.zeroValue138
def lays190_ren : Ren where
  f x := match x with
    | 190 => 59
    | 125 => 54
    | 258 => 74
    | 128 => 71
    | 129 => 72
    | 302 => 83
    | 303 => 84
    | 304 => 85
    | 305 => 86
    | 306 => 87
    | 307 => 88
    | 308 => 89
    | 309 => 90
    | 310 => 91
    | 333 => 93
    | 329 => 78
    | 330 => 79
    | 334 => 94
    | 335 => 95
    | 336 => 96
    | 344 => 97
    | n => n
  t x := match x with
    | 31 => 85
    | 9 => 9
    | 3 => 3
    | 46 => 84
    | 0 => 0
    | 51 => 122
    | 53 => 31
    | 4 => 4
    | 183 => 115
    | 182 => 114
    | 131 => 119
    | 5 => 5
    | 218 => 125
    | 222 => 129
    | 228 => 137
    | 229 => 138
    | n => n
  g x := x
theorem lays190 : Lays.n190 Tryd.prog lays190_ren where
  mixed := rfl
  f125 := Tryd.func54.trans (by kernel_rfl)
  f128 := Tryd.func71.trans (by kernel_rfl)
  f129 := Tryd.func72.trans (by kernel_rfl)
  f190 := Tryd.func59.trans (by kernel_rfl)
  f258 := Tryd.func74.trans (by kernel_rfl)
  f302 := Tryd.func83.trans (by kernel_rfl)
  f303 := Tryd.func84.trans (by kernel_rfl)
  f304 := Tryd.func85.trans (by kernel_rfl)
  f305 := Tryd.func86.trans (by kernel_rfl)
  f306 := Tryd.func87.trans (by kernel_rfl)
  f307 := Tryd.func88.trans (by kernel_rfl)
  f308 := Tryd.func89.trans (by kernel_rfl)
  f309 := Tryd.func90.trans (by kernel_rfl)
  f310 := Tryd.func91.trans (by kernel_rfl)
  f329 := Tryd.func78.trans (by kernel_rfl)
  f330 := Tryd.func79.trans (by kernel_rfl)
  f333 := Tryd.func93.trans (by kernel_rfl)
  f334 := Tryd.func94.trans (by kernel_rfl)
  f335 := Tryd.func95.trans (by kernel_rfl)
  f336 := Tryd.func96.trans (by kernel_rfl)
  f344 := Tryd.func97.trans (by kernel_rfl)
  t0 := Tryd.underlying0
  a0 := Tryd.isAgg0
  z0 := Tryd.sizeOf0
  v0 := Tryd.zeroValue0
  t3 := Tryd.underlying3
  a3 := Tryd.isAgg3
  z3 := Tryd.sizeOf3
  v3 := Tryd.zeroValue3
  t4 := Tryd.underlying4
  a4 := Tryd.isAgg4
  z4 := Tryd.sizeOf4
  v4 := Tryd.zeroValue4
  t5 := Tryd.underlying5
  a5 := Tryd.isAgg5
  z5 := Tryd.sizeOf5
  v5 := Tryd.zeroValue5
  t9 := Tryd.underlying9
  a9 := Tryd.isAgg9
  z9 := Tryd.sizeOf9
  v9 := Tryd.zeroValue9
  t31 := Tryd.underlying85
  a31 := Tryd.isAgg85
  z31 := Tryd.sizeOf85
  v31 := Tryd.zeroValue85
  t46 := Tryd.underlying84
  a46 := Tryd.isAgg84
  z46 := Tryd.sizeOf84
  v46 := Tryd.zeroValue84
  t51 := Tryd.underlying122
  a51 := Tryd.isAgg122
  z51 := Tryd.sizeOf122
  v51 := Tryd.zeroValue122
  t53 := Tryd.underlying31
  a53 := Tryd.isAgg31
  z53 := Tryd.sizeOf31
  v53 := Tryd.zeroValue31
  t131 := Tryd.underlying119
  a131 := Tryd.isAgg119
  z131 := Tryd.sizeOf119
  v131 := Tryd.zeroValue119
  t182 := Tryd.underlying114
  a182 := Tryd.isAgg114
  z182 := Tryd.sizeOf114
  v182 := Tryd.zeroValue114
  t183 := Tryd.underlying115
  a183 := Tryd.isAgg115
  z183 := Tryd.sizeOf115
  v183 := Tryd.zeroValue115
  t218 := Tryd.underlying125
  a218 := Tryd.isAgg125
  z218 := Tryd.sizeOf125
  v218 := Tryd.zeroValue125
  t222 := Tryd.underlying129
  a222 := Tryd.isAgg129
  z222 := Tryd.sizeOf129
  v222 := Tryd.zeroValue129
  t228 := Tryd.underlying137
  a228 := Tryd.isAgg137
  z228 := Tryd.sizeOf137
  v228 := Tryd.zeroValue137
  t229 := Tryd.underlying138
  a229 := Tryd.isAgg138
  z229 := Tryd.sizeOf138
  v229 := Tryd.zeroValue138
def lays194_ren : Ren where
  f x := match x with
    | 194 => 60
    | n => n
  t x := match x with
    | 31 => 85
    | 9 => 9
    | 3 => 3
    | 4 => 4
    | 0 => 0
    | n => n
  g x := x
theorem lays194 : Lays.n194 Tryd.prog lays194_ren where
  mixed := rfl
  f194 := Tryd.func60.trans (by kernel_rfl)
  t0 := Tryd.underlying0
  a0 := Tryd.isAgg0
  z0 := Tryd.sizeOf0
  v0 := Tryd.zeroValue0
  t3 := Tryd.underlying3
  a3 := Tryd.isAgg3
  z3 := Tryd.sizeOf3
  v3 := Tryd.zeroValue3
  t4 := Tryd.underlying4
  a4 := Tryd.isAgg4
  z4 := Tryd.sizeOf4
  v4 := Tryd.zeroValue4
  t9 := Tryd.underlying9
  a9 := Tryd.isAgg9
  z9 := Tryd.sizeOf9
  v9 := Tryd.zeroValue9
  t31 := Tryd.underlying85
  a31 := Tryd.isAgg85
  z31 := Tryd.sizeOf85
  v31 := Tryd.zeroValue85
def lays20_ren : Ren where
  f x := match x with
    | 20 => 35
    | n => n
  t x := match x with
    | 22 => 32
    | 3 => 3
    | 4 => 4
    | 0 => 0
    | n => n
  g x := x
theorem lays20 : Lays2.n20 Tryd.prog lays20_ren where
  mixed := rfl
  f20 := Tryd.func35.trans (by kernel_rfl)
  t0 := Tryd.underlying0
  a0 := Tryd.isAgg0
  z0 := Tryd.sizeOf0
  v0 := Tryd.zeroValue0
  t3 := Tryd.underlying3
  a3 := Tryd.isAgg3
  z3 := Tryd.sizeOf3
  v3 := Tryd.zeroValue3
  t4 := Tryd.underlying4
  a4 := Tryd.isAgg4
  z4 := Tryd.sizeOf4
  v4 := Tryd.zeroValue4
  t22 := Tryd.underlying32
  a22 := Tryd.isAgg32
  z22 := Tryd.sizeOf32
  v22 := Tryd.zeroValue32
  i3 := by kernel_rfl
end Go.Proofs.YtkkfabnehhamdaaDoor
end
