/-
  Parts of the proof of WalNils.
-/
import Derived.Test.YtiokcemlfdonnaaWalP13
import Derived.Test.YtiokcemlfdonnaaWalP1
import Derived.Laws.IdiomCopy
import Derived.Test.YtiokcemlfdonnaaWalP7
import Derived.Test.YtiokcemlfdonnaaWalP5
import Derived.Test.YtiokcemlfdonnaaWalP11
import Derived.Test.YtiokcemlfdonnaaWalP10
section
namespace Go.Proofs.Ytiokcemlfdonnaa
open Go.RowKit
set_option linter.unusedVariables false
theorem OwnE.write1 {P : Program} {α : Type} {E : El α} {T : TypeId} {w : World} {base n c : Nat} {A : Option Addr} {l : List α} (h : OwnE E T w base A n c l) {j i : Nat} {v : Value} {x : α} (hj : j < n) (hi : i < E.size) (h1 : v.oneCell' = true) (hrel : ∀ g vs, A = some ⟨g, 0, none⟩ → (∀ y, l[j]? = some y → E.rel (hide w g) w.heap.size vs y) → E.rel (hide w g) w.heap.size (overV vs i [v]) x) :
    ∃ g, A = some ⟨g, 0, none⟩ ∧ base ≤ g ∧ g < w.heap.size ∧ (w.cell? ⟨g, j * E.size + i, none⟩).isSome = true ∧ w.frozen? ⟨g, j * E.size + i, none⟩ = false ∧ OwnE E T (w.setCell ⟨g, j * E.size + i, none⟩ v) base A n c (l.set j x) := by
  have hcap := h.elemsIn.cap
  obtain ⟨g, cur, vs, rfl, hg, hh, hnc, hm, hc, hx, hr, hvl⟩ := h.row (by omega)
  have hjs : j * E.size + E.size ≤ n * E.size := by rw [← Nat.succ_mul]; exact Nat.mul_le_mul_right _ hj
  have hns : n * E.size ≤ c * E.size := Nat.mul_le_mul_right _ hnc
  have hk : j * E.size + i < cur.size := by omega
  have hcell : (w.cell? ⟨g, j * E.size + i, none⟩).isSome = true := by
    rw [cell_of_row w g _ cur T (0, 0) hh, Array.getElem?_eq_getElem hk]; rfl
  have hfr : w.frozen? ⟨g, j * E.size + i, none⟩ = false := by
    unfold World.frozen?
    simp [hh]
  obtain ⟨g', w1, e, -, hgl, hrun, hO, -, -⟩ := OwnE.write (P := P) h (j := j) (i := i) (s := [v]) (x := x) hj (by simp; omega) (fun u hu => by simp only [List.mem_cons, List.not_mem_nil, or_false] at hu; rw [hu]; exact h1) hrel
  cases e
  have hrun2 := run_storeCells_cells (P := P) g (j * E.size + i) [v] 0 w (fun q hq => by
    have : q = 0 := by simpa using hq
    subst this; exact hcell) (fun q hq => by
    have : q = 0 := by simpa using hq
    subst this; exact hfr) (fun u hu => by simp only [List.mem_cons, List.not_mem_nil, or_false] at hu; rw [hu]; exact h1)
  rw [hrun2] at hrun
  have e2 : w.setCells g (j * E.size + i + 0) [v] = w1 := by injection hrun
  rw [← e2] at hO
  exact ⟨g, rfl, hg, hgl, hcell, hfr, hO⟩
theorem runE_byt : El.Byt RunE := by
  rintro w w' B vs x hs ⟨A, n, c, e, h, r⟩
  exact ⟨A, n, c, e, h.subU hs, r⟩
end Go.Proofs.Ytiokcemlfdonnaa
end
section
namespace Go.Proofs.Ytiokcemlfdonnaa.WalW
open Go.RowKit Go.Maps RecW
set_option linter.unusedVariables false
set_option linter.unusedSimpArgs false
attribute [local go_sem ↓] app_fold
/-- all of a log lies at or above -/
structure Hi (B0 lb mb : Nat) (A : Option Addr) (bs : List Nat) : Prop where
  l : B0 ≤ lb
  m : B0 ≤ mb
  a : ∀ a, A = some a → B0 ≤ a.block
  b : ∀ b ∈ bs, B0 ≤ b
/-- what is none of the log's stays so, and as it was -/
def Offs (w w' : World) (lb mb : Nat) (A : Option Addr) (bs : List Nat) (A' : Option Addr) (bs' : List Nat) : Prop := ∀ g, g < w.heap.size → g ≠ lb → g ≠ mb → (∀ a, A = some a → a.block ≠ g) → g ∉ bs → w'.heap[g]? = w.heap[g]? ∧ (∀ a, A' = some a → a.block ≠ g) ∧ g ∉ bs'
section
variable {lb d mb nm n c : Nat} {A : Option Addr} {bs : List Nat} {X : DevX} {L : MapP.T Int (Array Value)} {lim kept forced : Int} {ps : List Int}
/-- a place more -/
theorem LogIn.push {w w4 : World} {A' : Option Addr} {n' c' : Nat} {ps' : List Int} (h : LogIn w lb d mb nm A n c bs X L lim kept forced ps) (hg : w.grownBy w4 ((Value.slice A 0 0).ownBlock)) (hr : OwnE IntE 3 w4 0 A' n' c' ps') (hA : A' = A ∨ ∃ a, A' = some a ∧ a.block = w.heap.size) :
    LogIn (w4.setCell ⟨lb, 5, none⟩ (.slice A' n' c')) lb d mb nm A' n' c' bs X L lim kept forced ps' := by
  have hl := h.box.lt
  have hm := h.map.lt
  have hd := h.dev.lt
  have ob : ∀ k, (Value.slice A 0 0).ownBlock = some k → k ≠ lb ∧ k ≠ mb ∧ k ∉ bs := by
    intro k e
    cases A with
    | none => cases e
    | some a => cases e; exact h.n4 a rfl
  have hne : ∀ a, A' = some a → a.block ≠ lb ∧ a.block ≠ mb ∧ a.block ∉ bs := by
    intro a e
    rcases hA with e1 | ⟨a2, e1, e2⟩
    · exact h.n4 a (by rw [← e1]; exact e)
    · rw [e1] at e
      cases e
      exact ⟨by omega, by omega, fun hb => by have := hd _ hb; omega⟩
  have hb4 : Str w4 lb (logC d mb A n c lim kept forced) := h.box.grownO hg (fun e => (ob _ e).1 rfl)
  have hs : w4.grownBy (w4.setCell ⟨lb, 5, none⟩ (.slice A' n' c')) (some lb) := grown_set (grown_refl w4 _) 5 _
  refine ⟨by simpa [logC] using hb4.set 5 (.slice A' n' c'), ?_, ?_, ?_, h.n1, h.n2, h.n3, hne⟩
  · exact (h.dev.at_ (fun b hb => hg.block b (hd b hb) (fun e => (ob _ e.symm).2.2 hb))).grown hs h.n2
  · exact (h.map.at_ (hg.block mb hm (fun e => (ob _ e.symm).2.1 rfl))).at_ (hs.block mb (Nat.lt_of_lt_of_le hm hg.size) (fun e => by injection e with e; exact h.n1 e.symm))
  · exact IntE.at_ hr (fun a e => hs.block _ (IntE.lt hr a e) (fun e2 => by injection e2 with e2; exact (hne a e).1 e2))
set_option maxRecDepth 100000 in
set_option maxHeartbeats 4000000 in
theorem add_any (B0 : Nat) (kd tx pv nx : Int) (R1 : Option Addr) (r1 s1 : Nat) (pact : Int) (puk : ByteArray) (pst : Int) (pk : ByteArray) (pkd : Int) (R2 : Option Addr) (r2 s2 : Nat) (plo phi pva pun : Int) (place : Int) (w : World) (h : LogIn w lb d mb nm A n c bs X L lim kept forced ps) (hH : Hi B0 lb mb A bs) (hB : B0 ≤ w.heap.size) (hp : In64 place) (hnm : nm < maxLen) (hn : n ≤ 1000000) :
    Calls Try.prog 57 #[.pointer (some ⟨lb, 0, none⟩), .int .i64 place, .agg #[.int .i64 kd, .int .i64 tx, .int .i64 pv, .int .i64 nx, .slice R1 r1 s1, .int .i64 pact, .string puk, .int .i64 pst, .string pk, .int .i64 pkd, .slice R2 r2 s2, .int .i64 plo, .int .i64 phi, .int .i64 pva, .int .i64 pun]] w fun e w' => e = .returned (.tuple #[]) ∧ Below B0 w w' ∧ ∃ A' c', LogIn w' lb d mb (nm + 1) A' (n + 1) c' bs X (MapP.put (MapP.ltK intK) L place #[.int .i64 kd, .int .i64 tx, .int .i64 pv, .int .i64 nx, .slice R1 r1 s1, .int .i64 pact, .string puk, .int .i64 pst, .string pk, .int .i64 pkd, .slice R2 r2 s2, .int .i64 plo, .int .i64 phi, .int .i64 pva, .int .i64 pun]) lim kept forced (ps ++ [place]) ∧ Hi B0 lb mb A' bs ∧ Offs w w' lb mb A bs A' bs := by
  have H := Lib.hid h
  have HH := Lib.hid hH
  have HP := Lib.hid hp
  have hl := h.box.lt
  have hBl := hH.l
  have hBm := hH.m
  have hcap := h.row.elems.cap
  have hcm := hcap.2
  unfold maxLen at hcm
  clear h hH hp
  obtain ⟨W0, hW0⟩ : ∃ W, w.alloc (.cells #[.int .i64 kd, .int .i64 tx, .int .i64 pv, .int .i64 nx, .slice R1 r1 s1, .int .i64 pact, .string puk, .int .i64 pst, .string pk, .int .i64 pkd, .slice R2 r2 s2, .int .i64 plo, .int .i64 phi, .int .i64 pva, .int .i64 pun] 31) = W := ⟨_, rfl⟩
  obtain ⟨HS0, HB0, hw0, hz0⟩ := new1 hW0
  have H0 := Lib.hid (H.out.next HB0.out)
  have HX0 : Hid (Str W0 lb #[.pointer (some ⟨d, 0, none⟩), .int .i64 lim, .int .i64 kept, .int .i64 forced, .map (some mb), .slice A n c]) := Lib.hid H0.out.box
  have HC0 := Lib.hid (HB0.out.mono hB)
  have g0 := str15 HS0.out
  have hl0 := HS0.out.lt
  have gx := strL HX0.out
  have hlx := HX0.out.lt
  clear hz0
  go_enter Try.func57, Try.ntmps57
  go_wp2_with fail
  refine Reg.wp_region_tail (R := ext) (W := W0) [Reg.eqv (.pointer (some ⟨lb, 0, none⟩)), Reg.eqv (.pointer (some ⟨lb, 0, none⟩)), Reg.eqv (.pointer (some ⟨lb, 4, none⟩)), Reg.eqv (.map (some mb)), Reg.eqv (.int .i64 place), Reg.eqv (.agg #[.int .i64 kd, .int .i64 tx, .int .i64 pv, .int .i64 nx, .slice R1 r1 s1, .int .i64 pact, .string puk, .int .i64 pst, .string pk, .int .i64 pkd, .slice R2 r2 s2, .int .i64 plo, .int .i64 phi, .int .i64 pva, .int .i64 pun])] 22 6 _ [[(0, none)], [(6, some 0)], [(7, some 1)], [(8, some 2)], [(1, none)], [(5, none)]] rfl (by kernel_rfl) (by kernel_rfl) (by rfl) (by rfl) rfl (by kernel_rfl) ?_ [some 6, some 7, some 8, some 9, some 10, some 11] (by kernel_rfl) ?_
  · refine ⟨?_, ?_, ?_, ?_, ?_, ?_, trivial⟩
    · intro ax wx hx hs
      obtain ⟨e0, -⟩ := hs
      have g0 := Reg.ev (v := .pointer (some ⟨lb, 0, none⟩)) e0
      exact Reg.obl_free rfl (Reg.wp_eqv (Option.some_ne_none _) (by go_simp) rfl)
    · intro ax wx hx hs
      obtain ⟨e6, -⟩ := hs
      have g6 := Reg.ev (v := .pointer (some ⟨lb, 0, none⟩)) e6
      exact Reg.obl_free rfl (Reg.wp_eqv (Option.some_ne_none _) (by go_simp) rfl)
    · intro ax wx hx hs
      obtain ⟨e7, -⟩ := hs
      have g7 := Reg.ev (v := .pointer (some ⟨lb, 0, none⟩)) e7
      exact Reg.obl_free rfl (Reg.wp_eqv (Option.some_ne_none _) (by go_simp) rfl)
    · intro ax wx hx hs
      obtain ⟨e8, -⟩ := hs
      have g8 := Reg.ev (v := .pointer (some ⟨lb, 4, none⟩)) e8
      have l0 := strL (HX0.out.next hx)
      have l1 := str15 (HS0.out.next hx)
      exact Reg.obl_free rfl (Reg.wp_eqv (Option.some_ne_none _) (by go_simp) rfl)
    · intro ax wx hx hs
      obtain ⟨e1, -⟩ := hs
      have g1 := Reg.ev (v := .int .i64 place) e1
      exact Reg.obl_free rfl (Reg.wp_eqv (Option.some_ne_none _) (by go_simp) rfl)
    · intro ax wx hx hs
      obtain ⟨e5, -⟩ := hs
      have g5 := Reg.ev (v := .pointer (some ⟨w.heap.size, 0, none⟩)) e5
      have l0 := strL (HX0.out.next hx)
      have l1 := str15 (HS0.out.next hx)
      exact Reg.obl_free rfl (Reg.wp_eqv (Option.some_ne_none _) (by go_simp) rfl)
  · intro W1 hwf
    simp only [Reg.Fin]
    rintro _ rfl _ rfl _ rfl _ rfl _ rfl _ rfl
    have hwf' : Below W0.heap.size W0 W1 := hwf
    have hw1 := hwf'.size
    have hB0 : B0 ≤ W0.heap.size := by omega
    have H1 := Lib.hid (H0.out.next hwf')
    obtain ⟨W2, hrun, hm2, ht2⟩ := H1.out.map.store DevW.law Try.underlying87 hnm (DevW.keyOf_ HP.out) #[.int .i64 kd, .int .i64 tx, .int .i64 pv, .int .i64 nx, .slice R1 r1 s1, .int .i64 pact, .string puk, .int .i64 pst, .string pk, .int .i64 pkd, .slice R2 r2 s2, .int .i64 plo, .int .i64 phi, .int .i64 pva, .int .i64 pun]
    have hrun2 : (Instr.mapUpdate 87 (.map (some mb)) (.int .i64 place) (.agg #[.int .i64 kd, .int .i64 tx, .int .i64 pv, .int .i64 nx, .slice R1 r1 s1, .int .i64 pact, .string puk, .int .i64 pst, .string pk, .int .i64 pkd, .slice R2 r2 s2, .int .i64 plo, .int .i64 phi, .int .i64 pva, .int .i64 pun])).run Try.prog W1 = .ok () W2 := hrun
    have hg2 := MapM.turned_keep ht2
    have H2 := Lib.hid (H1.out.keep hg2 hm2)
    have HC2 := Lib.hid (below_grownO (HC0.out.trans (hwf'.mono hB0)) hg2 (Nat.le_trans hB0 hw1) (fun k e => by cases e; exact hBm))
    have hw2 : B0 ≤ W2.heap.size := Nat.le_trans hB HC2.out.size
    have HFR2 : Hid (∀ g, g < w.heap.size → g ≠ mb → W2.heap[g]? = w.heap[g]?) := Lib.hid (fun g hg g2 => (hg2.block g (by omega) (fun e => by injection e with e; exact g2 e)).trans ((hwf'.block g (by omega)).trans (HB0.out.block g hg)))
    have hww2 : w.heap.size ≤ W2.heap.size := by have := hg2.size; omega
    clear hwf hwf' hrun hm2 ht2 hg2 g0 hl0 gx hlx
    refine Reg.Goal.mk ?_
    go_simp
    clear hrun2
    have HX2 : Hid (Str W2 lb #[.pointer (some ⟨d, 0, none⟩), .int .i64 lim, .int .i64 kept, .int .i64 forced, .map (some mb), .slice A n c]) := Lib.hid H2.out.box
    have gx := strL HX2.out
    have hlx := HX2.out.lt
    obtain ⟨W3, hW3⟩ : ∃ W, W2.alloc (.cells #[.int .i64 place] 3) = W := ⟨_, rfl⟩
    have hb3 : Below W2.heap.size W2 W3 := by rw [← hW3]; exact balloc (bsame _) _
    have hs3 : Str W3 W2.heap.size #[.int .i64 place] := by rw [← hW3]; exact Str.new W2 _ _
    have H3 := Lib.hid (H2.out.next hb3)
    have hw3 := hb3.size
    have HC3 := Lib.hid (HC2.out.trans (hb3.mono hw2)) 
    obtain ⟨i0, hi0, iz0, iz1, iz2⟩ := info_parts infoI
    obtain ⟨A', c', W4, k1, k2, k3, k4, k5⟩ := H3.out.row.app (P := Try.prog) 44 44 i0 _ 8 Try.underlying44 hi0 iz0 iz1 iz2 rfl (IntE.lit hs3) (by unfold maxLen; omega) (by omega) (Nat.zero_le _)
    have HX4 : Hid (Str W4 lb #[.pointer (some ⟨d, 0, none⟩), .int .i64 lim, .int .i64 kept, .int .i64 forced, .map (some mb), .slice A n c]) := Lib.hid (H3.out.box.grownO k4 (fun e => by cases A with | none => cases e | some a => cases e; exact (H3.out.n4 a rfl).1 rfl))
    have gy := strL HX4.out
    have hly := HX4.out.lt
    have gfy := fun j => HX4.out.frozen j
    have HL := Lib.hid (H3.out.push k4 k2 k5)
    have hg5 : W4.grownBy (W4.setCell ⟨lb, 5, none⟩ (.slice A' (n + 1) c')) (some lb) := grown_set (grown_refl W4 _) 5 _
    have hw4 := k4.size
    have hi' : Hi B0 lb mb A' bs := ⟨hBl, hBm, fun a e => by rcases k5 with e1 | ⟨a2, e1, e2⟩; exact HH.out.a a (by rw [← e1]; exact e); (rw [e1] at e; cases e; omega), HH.out.b⟩
    have HF : Hid (Below B0 w (W4.setCell ⟨lb, 5, none⟩ (.slice A' (n + 1) c'))) := Lib.hid (below_grownO (below_grownO HC3.out k4 (Nat.le_trans hw2 hw3) (fun k e => by cases A with | none => cases e | some a => cases e; exact HH.out.a a rfl)) hg5 (Nat.le_trans (Nat.le_trans hw2 hw3) hw4) (fun k e => by cases e; exact hBl))
    have HHi := Lib.hid hi'
    have HOF : Hid (Offs w (W4.setCell ⟨lb, 5, none⟩ (.slice A' (n + 1) c')) lb mb A bs A' bs) := Lib.hid (fun g hg g1 g2 g3 g4 => ⟨(hg5.block g (by omega) (fun e => by injection e with e; exact g1 e)).trans ((k4.block g (by omega) (fun e => by cases A with | none => cases e | some a => cases e; exact g3 a rfl rfl)).trans ((hb3.block g (by omega)).trans (HFR2.out g hg g2))), fun a e => by rcases k5 with e1 | ⟨a2, e1, e2⟩; exact g3 a (by rw [← e1]; exact e); (rw [e1] at e; cases e; omega), g4⟩)
    clear k2 k3 k4 k5 hg5 hi'
    go_wp2_with fail
    go_end0
    exact ⟨rfl, HF.out, A', c', HL.out, HHi.out, HOF.out⟩
end
end Go.Proofs.Ytiokcemlfdonnaa.WalW
end
section
namespace Go.Proofs.Ytiokcemlfdonnaa
open Go.RowKit
set_option linter.unusedVariables false
set_option linter.unusedSectionVars false
/-- all blocks below are empty -/
def above (base : Nat) (w : World) : World := hideL w (List.range base)
theorem above_out (base : Nat) (w : World) (p : Addr) (h : base ≤ p.block) : (above base w).cell? p = w.cell? p := hideL_out w p _ (by rw [List.mem_range]; omega)
theorem above_in (base : Nat) (w : World) (p : Addr) (h : p.block < base) : (above base w).cell? p = none := hideL_in w p _ (by rw [List.mem_range]; exact h)
section
variable {B base base' : Nat} {w w' : World}
theorem sub_above (B base : Nat) (w : World) : Sub B (above base w) w := sub_hideL B w _
theorem above_sub (h : Sub B w w') : Sub B (above base w) (above base w') := fun p v hp hv => by
  by_cases hb : p.block < base
  · rw [above_in base w p hb] at hv; cases hv
  · rw [above_out base w p (by omega)] at hv
    rw [above_out base w' p (by omega)]
    exact h p v hp hv
theorem above_subU (h : SubU B w w') : SubU B (above base w) (above base w') := fun p u hp hv => by
  by_cases hb : p.block < base
  · rw [above_in base w p hb] at hv; cases hv
  · rw [above_out base w p (by omega)] at hv
    rw [above_out base w' p (by omega)]
    exact h p u hp hv
theorem above_less (h : base' ≤ base) : Sub B (above base w) (above base' w) := fun p v hp hv => by
  by_cases hb : p.block < base
  · rw [above_in base w p hb] at hv; cases hv
  · rw [above_out base w p (by omega)] at hv
    rw [above_out base' w p (by omega)]
    exact hv
theorem above_hid {A : Option Addr} (h : ∀ a, A = some a → a.block < base) : Sub B (above base w) (hid A w) := fun p v hp hv => by
  by_cases hb : p.block < base
  · rw [above_in base w p hb] at hv; cases hv
  · rw [above_out base w p (by omega)] at hv
    cases A with
    | none => exact hv
    | some a =>
      show (hide w a.block).cell? p = _
      rw [hide_other w a.block p (by have := h a rfl; omega)]
      exact hv
/-- nothing at or above has turned -/
theorem above_keep (h : ∀ k, k < B → base ≤ k → w'.heap[k]? = w.heap[k]?) : Sub B (above base w) (above base w') := fun p v hp hv => by
  by_cases hb : p.block < base
  · rw [above_in base w p hb] at hv; cases hv
  · rw [above_out base w p (by omega)] at hv
    rw [above_out base w' p (by omega), World.cell?_of_block (h p.block hp (by omega))]
    exact hv
theorem OwnS.above {gb : Option Nat} {A : Option Addr} {n c : Nat} {l : List UInt8} (h : OwnS w gb A n c l) (hg : ∀ g, gb = some g → base ≤ g) : Bytes (above base w) w.heap.size A n c l := by
  obtain ⟨h1, h2, h3, (⟨h4, -⟩ | ⟨g, o, cur, T, e, hA, hh, hs, hc⟩)⟩ := h
  · exact ⟨h1, h2, h3, fun hn => absurd hn (by omega)⟩
  · exact ⟨h1, h2, h3, fun _ => ⟨g, o, hA, (Array.getElem?_eq_some_iff.1 hh).1, fun j u hu => by
      rw [above_out base w _ (hg g e), cell_of_row w g (o + j) cur T (0, 0) hh]; exact hc j u hu⟩⟩
end
/-- bytes that lie where nothing was before -/
def GivesNew (w : World) (l : List UInt8) (e : Ending) (w' : World) : Prop := ∃ A n c, e = .returned (.slice A n c) ∧ Bytes (above w.heap.size w') w'.heap.size A n c l ∧ Below w.heap.size w w'
theorem GivesNew.bytes {w w' : World} {l : List UInt8} {e : Ending} (h : GivesNew w l e w') : GivesBytes w l e w' := by
  obtain ⟨A, n, c, h1, h2, h3⟩ := h
  exact ⟨A, n, c, h1, h2.sub (sub_above _ _ _), h3⟩
theorem own_above {w : World} {base n c : Nat} {T : TypeId} {A : Option Addr} {l : List UInt8} (h : w.ownsRow base T 1 (.slice A n c) n (l.map byteV)) : Bytes (above base w) w.heap.size A n c l := by
  obtain ⟨gb, h1, h2⟩ := OwnS.of_own h
  exact h1.above h2
theorem OwnE.blt {α : Type} {E : El α} {T : TypeId} {w : World} {base n c : Nat} {A : Option Addr} {l : List α} (h : OwnE E T w base A n c l) : ∀ a, A = some a → a.block < w.heap.size := by
  intro a e
  obtain ⟨vs, h1, -⟩ := h
  rcases h1.2 with ⟨e1, -⟩ | ⟨g, cap, cur, e1, -, hh, -⟩
  · cases e1; cases e
  · cases e1; cases e; exact (Array.getElem?_eq_some_iff.1 hh).1
/-- a run, and whether its bytes lie at or above -/
def RunF (base : Nat) : El (RunX × Bool) where
  size := 2
  pos := by decide
  rel w B vs r := ∃ A n c, vs = runV r.1 A n c ∧ Bytes w B A n c r.1.data ∧ In64 r.1.at_ ∧ (r.2 = true → Bytes (above base w) B A n c r.1.data)
  len := by rintro w B vs p ⟨A, n, c, rfl, _⟩; rfl
  one := by rintro w B vs p ⟨A, n, c, rfl, _⟩ v hv; simp only [runV, List.mem_cons, List.not_mem_nil, or_false] at hv; rcases hv with rfl | rfl <;> rfl
  sub := by rintro w w' B vs p hs ⟨A, n, c, e, h, r, q⟩; exact ⟨A, n, c, e, h.sub hs, r, fun hq => (q hq).sub (above_sub hs)⟩
  more := by rintro w B B' vs p hB ⟨A, n, c, e, h, r, q⟩; exact ⟨A, n, c, e, h.more hB, r, fun hq => (q hq).more hB⟩
theorem runF_byt (base : Nat) : El.Byt (RunF base) := by
  rintro w w' B vs x hs ⟨A, n, c, e, h, r, q⟩
  exact ⟨A, n, c, e, h.subU hs, r, fun hq => (q hq).subU (above_subU hs)⟩
/-- the first k are marked -/
def marks (l : List RunX) (k : Nat) : List (RunX × Bool) := l.zipIdx.map fun p => (p.1, decide (p.2 < k))
theorem marks_get (l : List RunX) (k j : Nat) : (marks l k)[j]? = (l[j]?).map fun r => (r, decide (j < k)) := by
  unfold marks
  rw [List.getElem?_map, List.getElem?_zipIdx]
  cases l[j]? <;> simp
theorem marks_length (l : List RunX) (k : Nat) : (marks l k).length = l.length := by simp [marks]
theorem marks_set (l : List RunX) (k : Nat) (r : RunX) (h : l[k]? = some r) : (marks l k).set k (r, true) = marks l (k + 1) := by
  refine List.ext_getElem? fun j => ?_
  have hk := (List.getElem?_eq_some_iff.1 h).1
  by_cases e : j = k
  · subst e
    rw [List.getElem?_set_self (by rw [marks_length]; exact hk), marks_get, h]
    simp
  · rw [List.getElem?_set_ne (fun e2 => e e2.symm), marks_get, marks_get]
    cases l[j]? with
    | none => rfl
    | some q =>
      have : decide (j < k) = decide (j < k + 1) := by
        by_cases h1 : j < k
        · simp [h1]; omega
        · simp [h1]; omega
      simp [this]
theorem Rel2.of {α : Type} {R : List Value → α → Prop} : ∀ {vs : List (List Value)} {xs : List α}, vs.length = xs.length → (∀ (j : Nat) v x, vs[j]? = some v → xs[j]? = some x → R v x) → Rel2 R vs xs
  | [], [], _, _ => trivial
  | v :: vs, x :: xs, hl, h => ⟨h 0 v x rfl rfl, Rel2.of (by simpa using hl) fun j v x hv hx => h (j + 1) v x (by simpa using hv) (by simpa using hx)⟩
  | [], _ :: _, hl, _ => by simp at hl
  | _ :: _, [], hl, _ => by simp at hl
/-- unmarked -/
theorem OwnE.marks0 {T : TypeId} {w : World} {base n c : Nat} {A : Option Addr} {l : List RunX} (b0 : Nat) (h : OwnE RunE T w base A n c l) : OwnE (RunF b0) T w base A n c (marks l 0) := by
  obtain ⟨vs, h1, h2⟩ := h
  refine ⟨vs, h1, Rel2.of (by rw [marks_length]; exact h2.length) fun j v x hv hx => ?_⟩
  rw [marks_get] at hx
  cases hl : l[j]? with
  | none => rw [hl] at hx; cases hx
  | some r =>
    rw [hl] at hx
    cases hx
    obtain ⟨u, hu, A2, n2, c2, e, hy, hi⟩ := h2.get hl
    rw [hv] at hu
    cases hu
    exact ⟨A2, n2, c2, e, hy, hi, fun hq => by simp at hq⟩
/-- all marked: the runs lie at or above -/
theorem OwnE.marked {T : TypeId} {w : World} {base n c : Nat} {A : Option Addr} {l : List RunX} (h : OwnE (RunF base) T w base A n c (marks l l.length)) : Elems RunE (above base w) w.heap.size A n c l := by
  have hl := h.len
  rw [marks_length] at hl
  have hge := h.ge
  obtain ⟨vs, hr, h3, h4, h5, h6⟩ := h.elemsIn
  refine ⟨vs, Rel2.of (by rw [hr.length, marks_length]) fun j v x hv hx => ?_, hl, h4, h5, fun hn => ?_⟩
  · have hm : (marks l l.length)[j]? = some (x, true) := by
      rw [marks_get, hx]
      have := (List.getElem?_eq_some_iff.1 hx).1
      simp [this]
    obtain ⟨u, hu, A2, n2, c2, e, hy, hi, hq⟩ := hr.get hm
    rw [hv] at hu
    cases hu
    exact ⟨A2, n2, c2, e, (hq rfl).sub (above_sub (sub_hid _ A w)), hi⟩
  · obtain ⟨b, o, e, hb, hc⟩ := h6 hn
    exact ⟨b, o, e, hb, fun j v hv => by rw [above_out base w _ (by show base ≤ b; have := hge _ e; exact this)]; exact hc j v hv⟩
end Go.Proofs.Ytiokcemlfdonnaa
end
