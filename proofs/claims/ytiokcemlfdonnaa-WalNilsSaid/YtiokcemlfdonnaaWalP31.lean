/-
  Parts of the proof of WalNils.
-/
import Derived.Test.YtiokcemlfdonnaaWalP14
import Derived.Test.YtiokcemlfdonnaaWalP30
import Derived.Test.YtiokcemlfdonnaaWalP7
section
namespace Go.Proofs.Ytiokcemlfdonnaa.WalW
open Go.RowKit Go.Maps RecW
set_option linter.unusedVariables false
set_option linter.unusedSimpArgs false
/-- the call hands back a log without records -/
def GivesLog (B0 : Nat) (X : DevX) (lim forced : Int) (w : World) (e : Ending) (w' : World) : Prop := ∃ lb d mb bs', e = .returned (.tuple #[.pointer (some ⟨lb, 0, none⟩), .int .i64 0]) ∧ Below B0 w w' ∧ LogIn w' lb d mb 0 none 0 0 bs' X [] lim 0 forced [] ∧ Hi B0 lb mb none bs'
def cutX : DevX := DevP.done { DevP.new 1 with log := [], sure := 0 }
theorem LogIn.other {w w' : World} {lb d mb nm n c g : Nat} {A : Option Addr} {bs : List Nat} {X : DevX} {L : MapP.T Int (Array Value)} {lim kept forced : Int} {ps : List Int} (h : LogIn w lb d mb nm A n c bs X L lim kept forced ps) (hg : w.grownBy w' (some g)) (h1 : g ≠ lb) (h2 : g ≠ mb) (h3 : g ∉ bs) (h4 : ∀ a, A = some a → a.block ≠ g) : LogIn w' lb d mb nm A n c bs X L lim kept forced ps :=
  ⟨h.box.grown hg (fun e => h1 e.symm), h.dev.grown hg h3, h.map.at_ (hg.block _ h.map.lt (fun e => by injection e with e; exact h2 e.symm)), IntE.at_ h.row (fun a e => hg.block _ (IntE.lt h.row a e) (fun e2 => by injection e2 with e2; exact h4 a e e2)), h.n1, h.n2, h.n3, h.n4⟩
theorem records_seq (b c : Nat) (A : Option Addr) (w : World) (hlt : b < w.heap.size) (hc : w.cell? ⟨b, 0, none⟩ = some (.slice A 0 c)) (hy : Bytes w w.heap.size A 0 c []) :
    SeqStopsK Fence.wide 4 Try.prog 101 #[.pointer (some ⟨b, 0, none⟩)] (fun _ : Empty => Array.replicate 2 undef) (fun _ _ => True) (fun _ => True) (fun _ => False) 0 w := by
  refine seq_none (fun l W hW => ?_) 2
  have h := records1_none l b c A W (Nat.lt_of_lt_of_le hlt hW.size) ((hW.cell (p := ⟨b, 0, none⟩) hlt).trans hc) (hy.next hW)
  rw [show #[Value.func (.yield l) #[] #[]] ++ #[Value.pointer (some ⟨b, 0, none⟩)] = #[Value.func (.yield l) #[] #[], Value.pointer (some ⟨b, 0, none⟩)] from rfl]
  exact h
attribute [local go_sem] Oper.semAt_some
set_option maxRecDepth 100000 in
set_option maxHeartbeats 4000000 in
theorem load_new (B0 d : Nat) (bs : List Nat) (lim : Int) (w : World) (hD : DevW.Dev w d bs (DevP.new 1)) (hH : ∀ b ∈ bs, B0 ≤ b) (hB : B0 ≤ w.heap.size) (h1 : 1 ≤ lim) (h2 : lim ≤ 1048576) :
    Calls Try.prog 21 #[.pointer (some ⟨d, 0, none⟩), .int .i64 lim] w (GivesLog B0 cutX lim 0 w) := by
  have HD := Lib.hid hD
  have HH := Lib.hid hH
  have hd1 : decide (lim < 1) = false := by simp; omega
  have hd2 : decide (1048576 < lim) = false := by simp; omega
  have hsm : DevP.Small (DevP.new 1) := ⟨by decide, by decide, by decide⟩
  have HSM := Lib.hid hsm
  clear hD hH hsm
  have hmm := @run_makeMap Try.prog
  obtain ⟨W0, hW0⟩ : ∃ W, (w.alloc (.map #[] 0)).alloc (.cells #[.pointer (some ⟨d, 0, none⟩), .int .i64 lim, .int .i64 0, .int .i64 0, .map (some w.heap.size), .slice none 0 0] 89) = W := ⟨_, rfl⟩
  refine (callsIn_wide (n := 5)).1 ?_
  refine callsIn_of_wp_marks Try.func21 rfl trivial ?_ rfl
  simp only [Try.ntmps21, List.size_toArray, List.length_cons, List.length_nil, Nat.reduceAdd, Nat.reduceSub, Array.replicate_succ, Array.replicate_zero, List.push_toArray, List.append_toArray, List.nil_append, List.cons_append]
  have hb00 : Below w.heap.size w W0 := by rw [← hW0]; exact balloc (balloc (bsame w) _) _
  have hz0 : W0.heap.size = w.heap.size + 2 := by rw [← hW0]; simp
  have hsb : Str W0 (w.heap.size + 1) #[.pointer (some ⟨d, 0, none⟩), .int .i64 lim, .int .i64 0, .int .i64 0, .map (some w.heap.size), .slice none 0 0] := by
    have := Str.new (w.alloc (.map #[] 0)) #[.pointer (some ⟨d, 0, none⟩), .int .i64 lim, .int .i64 0, .int .i64 0, .map (some w.heap.size), .slice none 0 0] 89
    rw [← hW0]; simpa using this
  have hmb : Below (w.alloc (.map #[] 0)).heap.size (w.alloc (.map #[] 0)) W0 := by rw [← hW0]; exact balloc (bsame _) _
  have hm0 : MapM Try.prog intK recS 3 W0 w.heap.size 0 [] := (MapM.made (P := Try.prog) (S := intK) (E := recS) (kt := 3) w).at_ (hmb.block _ (by simp))
  have hdl := HD.out.lt
  have H0 : Hid (LogIn W0 (w.heap.size + 1) d w.heap.size 0 none 0 0 bs (DevP.new 1) [] lim 0 0 []) := Lib.hid ⟨hsb, HD.out.below hb00, hm0, OwnE.none_ _ _ _ _, by omega, fun hb => by have := hdl _ hb; omega, fun hb => by have := hdl _ hb; omega, fun a e => by cases e⟩
  have HB0 := Lib.hid hb00
  clear hsb hmb hm0 hb00
  obtain ⟨W1, hW1⟩ : ∃ W, W0.alloc (.cells #[.pointer (some ⟨w.heap.size + 1, 0, none⟩)] 47) = W := ⟨_, rfl⟩
  obtain ⟨HS1, HB1, hw1, hz1⟩ := new1 hW1
  have H1 := Lib.hid (H0.out.next HB1.out)
  have HC1 := Lib.hid (bstep HB0.out HB1.out)
  gi_wp2_with fail
  refine ⟨trivial, ?_⟩
  refine (callsIn_wide.2 (DevW.head_any W1 H1.out.dev)).mono ?_
  rintro e W2 ⟨rfl, hb2⟩
  rw [show (DevP.new 1).head = 0 from rfl]
  have HS2 := Lib.hid (HS1.out.next hb2)
  have H2 := Lib.hid (H1.out.next hb2)
  have HC2 := Lib.hid (bstep HC1.out hb2)
  clear hb2
  gi_wp2_with fail
  obtain ⟨W3, hW3⟩ : ∃ W, W2.alloc (.cells #[.int .i64 0] 3) = W := ⟨_, rfl⟩
  rw [hW3]
  obtain ⟨HE3, HB3, hw3, hz3⟩ := new1 hW3
  have HS3 := Lib.hid (HS2.out.next HB3.out)
  have H3 := Lib.hid (H2.out.next HB3.out)
  have HC3 := Lib.hid (bstep HC2.out HB3.out)
  refine ⟨trivial, ?_⟩
  refine (callsIn_wide.2 (DevW.Log_any W3 H3.out.dev HSM.out)).mono ?_
  rintro e W4 ⟨A, n, c, gb, rfl, hO, hgb, hb4⟩
  have hn0 : n = 0 := hO.len.symm
  subst hn0
  have hy4 := hO.bytes
  have HY4 := Lib.hid hy4
  have HE4 := Lib.hid (HE3.out.next hb4)
  have HS4 := Lib.hid (HS3.out.next hb4)
  have H4 := Lib.hid (H3.out.next hb4)
  have HC4 := Lib.hid (bstep HC3.out hb4)
  clear hb4 hO hgb hy4
  gi_wp2_with fail
  refine ⟨trivial, ?_⟩
  refine (callsIn_wide.2 (records_any A 0 c W4)).mono ?_
  rintro e w' ⟨rfl, rfl⟩
  obtain ⟨W5, hW5⟩ : ∃ W, W4.alloc (.cells #[.slice A 0 c] 23) = W := ⟨_, rfl⟩
  obtain ⟨HR5, HB5, hw5, hz5⟩ := new1 hW5
  gi_wp2_with fail
  have hlt4 : W4.heap.size < W5.heap.size := by omega
  have hc5 : W5.cell? ⟨W4.heap.size, 0, none⟩ = some (.slice A 0 c) := by simpa using HR5.out.cell 0
  have HSEQ : Hid (SeqStopsK Fence.wide 4 Try.prog 101 #[.pointer (some ⟨W4.heap.size, 0, none⟩)] (fun _ : Empty => Array.replicate 2 undef) (fun _ _ => True) (fun _ => True) (fun _ => False) 0 W5) := Lib.hid (records_seq W4.heap.size c A W5 hlt4 hc5 (HY4.out.next HB5.out))
  clear hc5
  refine wpIn_rangeFunc_ownG (α := Empty) rfl (by omega) (gf := 101) (lb := #[.pointer (some ⟨W4.heap.size, 0, none⟩)]) rfl trivial (enters_of Try.func101 (by kernel_rfl) rfl)
    HSEQ.out
    (fun _ _ => trivial) (fun W l' o o' _ _ _ _ => trivial) (Below.refl _ _) (fun x => x.elim)
    (fun _ W => Below W5.heap.size W5 W) (fun _ _ _ => False) (ownFrom_below (Nat.le_refl _) (Nat.le_refl _)) (fun _ _ _ _ _ hs _ _ => hs) (Below.refl _ _) (fun x => x.elim) (fun l x => x.elim) (fun l pre x => x.elim) ?done (fun D c' pre W _ _ h _ => h.elim)
  case done =>
    intro D xs W6 hDD _ hI hK
    have hb46 : Below W4.heap.size W4 W6 := bstep HB5.out hI
    have H6 := Lib.hid (H4.out.next hb46)
    have HE6 := Lib.hid (HE4.out.next hb46)
    have HS6 := Lib.hid (HS4.out.next hb46)
    have HC6 := Lib.hid (bstep HC4.out hb46)
    have HKD := Lib.hid hK
    have e6 : W6.cell? ⟨W2.heap.size, 0, none⟩ = some (.int .i64 0) := by simpa using HE6.out.cell 0
    have s6 : W6.cell? ⟨W0.heap.size, 0, none⟩ = some (.pointer (some ⟨w.heap.size + 1, 0, none⟩)) := by simpa using HS6.out.cell 0
    have hl4 := HS4.out.lt
    have hD6 := (Array.getElem?_eq_some_iff.1 hK).1
    clear hI hb46 hK
    gi_wp2_with fail
    refine ⟨trivial, ?_⟩
    refine (callsIn_wide.2 (DevW.Cut_any 0 W6 H6.out.dev HSM.out)).mono ?_
    rintro e W7 ⟨rfl, bs7, hD7, hn7, hk7⟩
    rw [show DevP.err (DevP.new 1) (decide ((DevP.new 1).head ≤ 0) && decide (0 ≤ (DevP.new 1).head + ((DevP.new 1).log.length : Nat))) = 0 from by decide]
    have hw7 := hk7.size
    have HN7 := Lib.hid hn7
    have HC7 := Lib.hid ((HC6.out.mono hB).trans (hk7.below (by have := HC6.out.size; omega) HH.out))
    have HK7 : Hid (W7.heap[D]? = some (.deferred (some []))) := Lib.hid ((hk7.block D hD6 (fun hm => by have := HD.out.lt _ hm; omega)).trans HKD.out)
    obtain ⟨X7, hX7⟩ : ∃ x, DevP.op (DevP.new 1) (decide ((DevP.new 1).head ≤ 0) && decide (0 ≤ (DevP.new 1).head + ((DevP.new 1).log.length : Nat))) { DevP.new 1 with log := (DevP.new 1).log.take ((0 : Int) - (DevP.new 1).head).toNat, sure := min (DevP.new 1).sure 0 } = x := ⟨_, rfl⟩
    rw [hX7] at hD7
    have H7 := Lib.hid (H6.out.told hD7 hn7 hk7)
    have s7 : W7.cell? ⟨w.heap.size + 2, 0, none⟩ = some (.pointer (some ⟨w.heap.size + 1, 0, none⟩)) := by rw [← hz0]; simpa using (HS6.out.keepB hk7 (fun hm => by have := HD.out.lt _ hm; omega)).cell 0
    clear e6 s6
    have HSM7 : Hid (DevP.Small X7) := Lib.hid (by rw [← hX7]; exact ⟨by decide, by decide, by decide⟩)
    have HEV : Hid (X7.head + ((X7.log.length : Nat) : Int) = 0) := Lib.hid (by rw [← hX7]; decide)
    have hl6 := HS6.out.lt
    have lt7 : w.heap.size + 2 < W7.heap.size := by omega
    clear hD7 hn7 hk7
    gi_wp2_with fail
    refine wpIn_wide.2 ?_
    refine Reg.wp_region_tail (R := ext) (W := W7) [Reg.eqv (.pointer (some ⟨w.heap.size + 1, 0, none⟩)), Reg.eqv (.pointer (some ⟨w.heap.size + 1, 0, none⟩)), Reg.eqv (.int .i64 0), Reg.eqv (.pointer (some ⟨w.heap.size + 1, 0, none⟩)), Reg.eqv (.pointer (some ⟨w.heap.size + 1, 3, none⟩))] 50 5 _ [[(6, none)], [(6, none)], [(45, some 1)], [(44, some 0)], [(47, some 3)]] rfl (by kernel_rfl) (by kernel_rfl) (by rfl) (by rfl) rfl (by kernel_rfl) ?_ [some 44, some 45, some 46, some 47, some 48] (by kernel_rfl) ?_
    · refine ⟨?_, ?_, ?_, ?_, ?_, trivial⟩
      · intro ax wx hx hs
        obtain ⟨e6, -⟩ := hs
        have g6 := Reg.ev (v := .pointer (some ⟨w.heap.size + 2, 0, none⟩)) e6
        have l0 := ((show Below W7.heap.size W7 wx from hx).cell (p := ⟨w.heap.size + 2, 0, none⟩) lt7).trans s7
        exact Reg.obl_free rfl (Reg.wp_eqv (Option.some_ne_none _) (by go_simp) rfl)
      · intro ax wx hx hs
        obtain ⟨e6, -⟩ := hs
        have g6 := Reg.ev (v := .pointer (some ⟨w.heap.size + 2, 0, none⟩)) e6
        have l0 := ((show Below W7.heap.size W7 wx from hx).cell (p := ⟨w.heap.size + 2, 0, none⟩) lt7).trans s7
        exact Reg.obl_free rfl (Reg.wp_eqv (Option.some_ne_none _) (by go_simp) rfl)
      · intro ax wx hx hs
        obtain ⟨e45, -⟩ := hs
        have g45 := Reg.ev (v := .pointer (some ⟨w.heap.size + 1, 0, none⟩)) e45
        refine Reg.obl_free rfl ?_
        have hx' : Below W7.heap.size W7 wx := hx
        go_simp
        refine (end_any wx (H7.out.next hx') HSM7.out).mono ?_
        rintro e wy ⟨rfl, hby⟩
        rw [HEV.out]
        exact Reg.done (Option.some_ne_none _) rfl hby
      · intro ax wx hx hs
        obtain ⟨e44, -⟩ := hs
        have g44 := Reg.ev (v := .pointer (some ⟨w.heap.size + 1, 0, none⟩)) e44
        exact Reg.obl_free rfl (Reg.wp_eqv (Option.some_ne_none _) (by go_simp) rfl)
      · intro ax wx hx hs
        obtain ⟨e47, -⟩ := hs
        have g47 := Reg.ev (v := .pointer (some ⟨w.heap.size + 1, 0, none⟩)) e47
        exact Reg.obl_free rfl (Reg.wp_eqv (Option.some_ne_none _) (by go_simp) rfl)
    · intro W8 hwf
      simp only [Reg.Fin]
      rintro _ rfl _ rfl _ rfl _ rfl _ rfl
      have hwf' : Below W7.heap.size W7 W8 := hwf
      have H8 := Lib.hid (H7.out.next hwf')
      have s8 := (hwf'.cell (p := ⟨w.heap.size + 2, 0, none⟩) lt7).trans s7
      have HX8 : Hid (Str W8 (w.heap.size + 1) #[.pointer (some ⟨d, 0, none⟩), .int .i64 lim, .int .i64 0, .int .i64 0, .map (some w.heap.size), .slice none 0 0]) := Lib.hid H8.out.box
      have gx := strL HX8.out
      have gfx := fun j => HX8.out.frozen j
      have hlx := HX8.out.lt
      have HK8 : Hid (W8.heap[D]? = some (.deferred (some []))) := Lib.hid ((hwf'.block D (by omega)).trans HK7.out)
      have HC8 := Lib.hid (HC7.out.trans (hwf'.mono (by have := HC6.out.size; omega)))
      have hw8 := hwf'.size
      clear hwf hwf'
      refine Reg.Goal.mk ?_
      go_simp
      gi_wp2_with fail
      have hg9 : W8.grownBy (W8.setCell ⟨w.heap.size + 1, 3, none⟩ (.int .i64 0)) (some (w.heap.size + 1)) := grown_set (grown_refl W8 _) 3 _
      have hL9 := H8.out.turn (lim' := lim) (kept' := 0) (forced' := 0) hg9 (by have := HX8.out.set 3 (.int .i64 0); simpa [logC] using this)
      have hb9 := below_grownO HC8.out hg9 (by have := HC6.out.size; omega) (fun k e => by cases e; omega)
      have hk9 := (hg9.block D (by omega) (fun e => by injection e with e; omega)).trans HK8.out
      have hgd := grownBy_putObj' (W8.setCell ⟨w.heap.size + 1, 3, none⟩ (.int .i64 0)) D (.deferred none)
      have hbs7 : ∀ b ∈ bs7, D ≠ b ∧ B0 ≤ b := fun b hb => by rcases HN7.out b hb with h | h; (have := HD.out.lt _ h; exact ⟨by omega, HH.out b h⟩); (have := HC6.out.size; exact ⟨by omega, by omega⟩)
      refine ⟨by simp, .inl ⟨_, _, rfl, run_takeDeferred hk9, ?_⟩⟩
      refine ⟨.tuple #[.pointer (some ⟨w.heap.size + 1, 0, none⟩), .int .i64 0], by simp [results, Try.results21, go_sem, *], w.heap.size + 1, d, w.heap.size, bs7, rfl, below_grownO hb9 hgd (by have := hb9.size; omega) (fun k e => by cases e; omega), ?_, ⟨by omega, by omega, (fun a e => by cases e), fun b hb => (hbs7 b hb).2⟩⟩
      have hX8 : X7 = cutX := hX7.symm.trans rfl
      rw [← hX8]
      exact hL9.other hgd (by omega) (by omega) (fun hm => (hbs7 D hm).1 rfl) (fun a e => by cases e)
end Go.Proofs.Ytiokcemlfdonnaa.WalW
end
section
namespace Go.Proofs.Ytiokcemlfdonnaa.WalW
open Go.RowKit RecW
set_option linter.unusedVariables false
set_option linter.unusedSimpArgs false
theorem eql_nilP (w : World) (a : Option Addr) (l c : Nat) : (binOp .eql 22 (.slice a l c) (.slice none 0 0)).run Try.prog w = .ok (.bool a.isNone) w := Lib.run_eql_slice_nil w _ _ a l c 0 0 Try.underlying22
set_option maxRecDepth 100000 in
set_option maxHeartbeats 1000000 in
theorem cloneP_none (w : World) : Calls Try.prog 99 #[.slice none 0 0] w fun e w' => e = .returned (.slice none 0 0) ∧ w = w' := by
  have heq := eql_nilP w none 0 0
  go_enter Try.func99, Try.ntmps99
  go_wp2
  go_ret
  exact ⟨rfl, rfl⟩
set_option maxRecDepth 100000 in
set_option maxHeartbeats 1000000 in
theorem cloneB_none (w : World) : Calls Try.prog 74 #[.slice none 0 0] w fun e w' => e = .returned (.slice none 0 0) ∧ w = w' := by
  have heq := CloneW.eql_nil w none 0 0
  go_enter Try.func74, Try.ntmps74
  go_wp2
  go_ret
  exact ⟨rfl, rfl⟩
set_option maxRecDepth 100000 in
set_option maxHeartbeats 8000000 in
theorem own_none (kd tx pv nx pact : Int) (puk : ByteArray) (pst : Int) (pk : ByteArray) (pkd plo phi pva pun : Int) (w : World) : Calls Try.prog 58 #[.agg #[.int .i64 kd, .int .i64 tx, .int .i64 pv, .int .i64 nx, .slice none 0 0, .int .i64 pact, .string puk, .int .i64 pst, .string pk, .int .i64 pkd, .slice none 0 0, .int .i64 plo, .int .i64 phi, .int .i64 pva, .int .i64 pun]] w fun e w' => e = .returned (.agg #[.int .i64 kd, .int .i64 tx, .int .i64 pv, .int .i64 nx, .slice none 0 0, .int .i64 pact, .string puk, .int .i64 pst, .string pk, .int .i64 pkd, .slice none 0 0, .int .i64 plo, .int .i64 phi, .int .i64 pva, .int .i64 pun]) ∧ Below w.heap.size w w' := by
  obtain ⟨W0, hW0⟩ : ∃ W, (w.alloc (.cells #[.int .i64 kd, .int .i64 tx, .int .i64 pv, .int .i64 nx, .slice none 0 0, .int .i64 pact, .string puk, .int .i64 pst, .string pk, .int .i64 pkd, .slice none 0 0, .int .i64 plo, .int .i64 phi, .int .i64 pva, .int .i64 pun] 31)).alloc (.cells #[.int .i64 0, .int .i64 0, .int .i64 0, .int .i64 0, .slice none 0 0, .int .i64 0, .string ⟨#[]⟩, .int .i64 0, .string ⟨#[]⟩, .int .i64 0, .slice none 0 0, .int .i64 0, .int .i64 0, .int .i64 0, .int .i64 0] 31) = W := ⟨_, rfl⟩
  obtain ⟨HS0, HS1, HB0, hw0, hz0⟩ := new2 hW0
  have g0 := str15 HS0.out
  have hl0 := HS0.out.lt
  have gf0 := fun j => HS0.out.frozen j
  have gf1 := fun j => HS1.out.frozen j
  have hl1 := HS1.out.lt
  clear hz0
  obtain ⟨W1, hW1⟩ : ∃ W, W0.setCell ⟨w.heap.size, 4, none⟩ (.slice none 0 0) = W := ⟨_, rfl⟩
  have hg1 : W0.grownBy W1 (some w.heap.size) := by rw [← hW1]; exact grown_set (grown_refl W0 _) 4 _
  have HT0 : Hid (Str W1 w.heap.size #[.int .i64 kd, .int .i64 tx, .int .i64 pv, .int .i64 nx, .slice none 0 0, .int .i64 pact, .string puk, .int .i64 pst, .string pk, .int .i64 pkd, .slice none 0 0, .int .i64 plo, .int .i64 phi, .int .i64 pva, .int .i64 pun]) := Lib.hid (by have := HS0.out.set 4 (.slice none 0 0); rw [← hW1]; simpa using this)
  have HT1 : Hid (Str W1 (w.heap.size + 1) #[.int .i64 0, .int .i64 0, .int .i64 0, .int .i64 0, .slice none 0 0, .int .i64 0, .string ⟨#[]⟩, .int .i64 0, .string ⟨#[]⟩, .int .i64 0, .slice none 0 0, .int .i64 0, .int .i64 0, .int .i64 0, .int .i64 0]) := Lib.hid (HS1.out.grown hg1 (by omega))
  have HB1 := Lib.hid (below_grown HB0.out hg1 (Nat.le_refl _))
  obtain ⟨W2, hW2⟩ : ∃ W, W1.setCell ⟨w.heap.size, 10, none⟩ (.slice none 0 0) = W := ⟨_, rfl⟩
  have hg2 : W1.grownBy W2 (some w.heap.size) := by rw [← hW2]; exact grown_set (grown_refl W1 _) 10 _
  have HU0 : Hid (Str W2 w.heap.size #[.int .i64 kd, .int .i64 tx, .int .i64 pv, .int .i64 nx, .slice none 0 0, .int .i64 pact, .string puk, .int .i64 pst, .string pk, .int .i64 pkd, .slice none 0 0, .int .i64 plo, .int .i64 phi, .int .i64 pva, .int .i64 pun]) := Lib.hid (by have := HT0.out.set 10 (.slice none 0 0); rw [← hW2]; simpa using this)
  have HU1 : Hid (Str W2 (w.heap.size + 1) #[.int .i64 0, .int .i64 0, .int .i64 0, .int .i64 0, .slice none 0 0, .int .i64 0, .string ⟨#[]⟩, .int .i64 0, .string ⟨#[]⟩, .int .i64 0, .slice none 0 0, .int .i64 0, .int .i64 0, .int .i64 0, .int .i64 0]) := Lib.hid (HT1.out.grown hg2 (by omega))
  have HB2 := Lib.hid (below_grown HB1.out hg2 (Nat.le_refl _))
  obtain ⟨W8, hW8⟩ : ∃ W, (((((((((((((((W2).setCell ⟨w.heap.size + 1, 0, none⟩ (.int .i64 kd)).setCell ⟨w.heap.size + 1, 1, none⟩ (.int .i64 tx)).setCell ⟨w.heap.size + 1, 2, none⟩ (.int .i64 pv)).setCell ⟨w.heap.size + 1, 3, none⟩ (.int .i64 nx)).setCell ⟨w.heap.size + 1, 4, none⟩ (.slice none 0 0)).setCell ⟨w.heap.size + 1, 5, none⟩ (.int .i64 pact)).setCell ⟨w.heap.size + 1, 6, none⟩ (.string puk)).setCell ⟨w.heap.size + 1, 7, none⟩ (.int .i64 pst)).setCell ⟨w.heap.size + 1, 8, none⟩ (.string pk)).setCell ⟨w.heap.size + 1, 9, none⟩ (.int .i64 pkd)).setCell ⟨w.heap.size + 1, 10, none⟩ (.slice none 0 0)).setCell ⟨w.heap.size + 1, 11, none⟩ (.int .i64 plo)).setCell ⟨w.heap.size + 1, 12, none⟩ (.int .i64 phi)).setCell ⟨w.heap.size + 1, 13, none⟩ (.int .i64 pva)).setCell ⟨w.heap.size + 1, 14, none⟩ (.int .i64 pun) = W := ⟨_, rfl⟩
  have hg8 : W2.grownBy W8 (some (w.heap.size + 1)) := by rw [← hW8]; exact grown_set (grown_set (grown_set (grown_set (grown_set (grown_set (grown_set (grown_set (grown_set (grown_set (grown_set (grown_set (grown_set (grown_set (grown_set (grown_refl W2 _) 0 _) 1 _) 2 _) 3 _) 4 _) 5 _) 6 _) 7 _) 8 _) 9 _) 10 _) 11 _) 12 _) 13 _) 14 _
  have hres : Str W8 (w.heap.size + 1) #[.int .i64 kd, .int .i64 tx, .int .i64 pv, .int .i64 nx, .slice none 0 0, .int .i64 pact, .string puk, .int .i64 pst, .string pk, .int .i64 pkd, .slice none 0 0, .int .i64 plo, .int .i64 phi, .int .i64 pva, .int .i64 pun] := by
    have := (((((((((((((((HU1.out).set 0 (.int .i64 kd)).set 1 (.int .i64 tx)).set 2 (.int .i64 pv)).set 3 (.int .i64 nx)).set 4 (.slice none 0 0)).set 5 (.int .i64 pact)).set 6 (.string puk)).set 7 (.int .i64 pst)).set 8 (.string pk)).set 9 (.int .i64 pkd)).set 10 (.slice none 0 0)).set 11 (.int .i64 plo)).set 12 (.int .i64 phi)).set 13 (.int .i64 pva)).set 14 (.int .i64 pun)
    rw [← hW8]; simpa using this
  have HFIN := Lib.hid (below_grown HB2.out hg8 (Nat.le_succ _))
  have gz := str15 hres
  clear hg1 hg2 hg8 hres
  go_enter Try.func58, Try.ntmps58
  go_wp2_with fail
  refine (cloneP_none W0).mono ?_
  rintro e w' ⟨rfl, rfl⟩
  have t0 := str15 HT0.out
  have tl0 := HT0.out.lt
  have tf0 := fun j => HT0.out.frozen j
  go_wp2
  go_loopw [15] (fun iv wr => iv = .int .i64 0 ∧ wr = W1) (fun _ _ => 0)
  case atStart => exact ⟨rfl, by first | rfl | exact hW1⟩
  case round =>
    obtain ⟨rfl, rfl⟩ := hrel
    go_wp2_with fail
    refine (cloneB_none _).mono ?_
    rintro e w' ⟨rfl, rfl⟩
    have u0 := str15 HU0.out
    have ul0 := HU0.out.lt
    have u1 := str15 HU1.out
    have uf1 := fun j => HU1.out.frozen j
    have ul1 := HU1.out.lt
    go_wp2
    exact bodyPost_ret (v := .agg #[.int .i64 kd, .int .i64 tx, .int .i64 pv, .int .i64 nx, .slice none 0 0, .int .i64 pact, .string puk, .int .i64 pst, .string pk, .int .i64 pkd, .slice none 0 0, .int .i64 plo, .int .i64 phi, .int .i64 pva, .int .i64 pun]) (by simp [results, Try.results58, go_sem, *]) rfl ⟨rfl, HFIN.out⟩
end Go.Proofs.Ytiokcemlfdonnaa.WalW
end
