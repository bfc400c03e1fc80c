/-
  Parts of the proof of WalStays.
-/
import Derived.Test.YtpdfnlhhnodnjaaGreatWsG29
import Derived.Test.YtpdfnlhhnodnjaaGreatWsG31
import Derived.RangeFuncBox
import Derived.RangeFuncLeaves
import Derived.RangeFuncWrites
import Derived.OwnWalkIn
import Derived.TacticsInMore
import Derived.LoopNIn
import Derived.LoopIn
section
namespace Go.Proofs.YtpdfnlhhnodnjaaGreat.WalW
open Go.RowKit Go.Maps RecW
set_option linter.unusedVariables false
set_option linter.unusedSimpArgs false
attribute [local go_sem] Oper.semAt_some
/-- the device behind a flush -/
def flushX (X : DevX) : DevX := DevP.done { X with sure := X.head + (X.log.length : Nat) }
theorem flush_op {X : DevX} (ho : X.off = false) (hf : X.fused = false) : DevP.op X true { X with sure := X.head + (X.log.length : Nat) } = flushX X ∧ DevP.err X true = 0 := by
  have he : DevP.err X true = 0 := by unfold DevP.err; simp [ho, hf]
  exact ⟨by unfold DevP.op; rw [if_pos he]; rfl, he⟩
set_option maxRecDepth 100000 in
set_option maxHeartbeats 4000000 in
theorem force_any (B0 lb d mb nm n c : Nat) (A : Option Addr) (bs : List Nat) (X : DevX) (L : MapP.T Int (Array Value)) (lim kept forced : Int) (ps : List Int) (at_ : Int) (w : World) (h : LogIn w lb d mb nm A n c bs X L lim kept forced ps) (hH : Hi B0 lb mb A bs) (hB : B0 ≤ w.heap.size) (hs : DevP.Small X) (hs2 : DevP.Small (flushX X)) (ho : X.off = false) (hf : X.fused = false) (hlt : forced < at_) :
    Calls Tryz.prog 10 #[.pointer (some ⟨lb, 0, none⟩), .int .i64 at_] w fun e w' => e = .returned (.int .i64 0) ∧ Below B0 w w' ∧ ∃ bs', LogIn w' lb d mb nm A n c bs' (flushX X) L lim kept (X.head + (X.log.length : Nat)) ps ∧ Hi B0 lb mb A bs' ∧ Offs w w' lb mb A bs A bs' := by
  have H := Lib.hid h
  have HH := Lib.hid hH
  have HS := Lib.hid hs
  have HS2 := Lib.hid hs2
  have HK := Lib.hid (And.intro ho hf)
  have hd1 : decide (at_ ≤ forced) = false := by simp; omega
  have gx := strL h.box
  have hlx := h.box.lt
  clear h hH hs ho hf hs2
  go_enter Tryz.func10, Tryz.ntmps10
  go_wp2_with fail
  refine (DevW.Flush_any w H.out.dev HS.out).mono ?_
  rintro e W1 ⟨rfl, bs1, hD1, hn1, hk1⟩
  rw [(flush_op HK.out.1 HK.out.2).1] at hD1
  rw [(flush_op HK.out.1 HK.out.2).2]
  have H1 := Lib.hid (H.out.told hD1 hn1 hk1)
  have HB1 := Lib.hid (hk1.below hB HH.out.b)
  have HO1 : Hid (∀ g, g < w.heap.size → g ∉ bs → W1.heap[g]? = w.heap[g]? ∧ g ∉ bs1) := Lib.hid (fun g hg g4 => ⟨hk1.block g hg g4, fun hb => by rcases hn1 g hb with h | h; exact g4 h; omega⟩)
  have HH1 : Hid (Hi B0 lb mb A bs1) := Lib.hid ⟨HH.out.l, HH.out.m, HH.out.a, fun b hb => by rcases hn1 b hb with h | h; exact HH.out.b b h; omega⟩
  have hw1 := hk1.size
  clear hD1 hn1 hk1 gx hlx
  have gx := strL H1.out.box
  have hlx := H1.out.box.lt
  go_wp2_with fail
  refine (end_any W1 H1.out HS2.out).mono ?_
  rintro e W2 ⟨rfl, hb2⟩
  obtain ⟨ev, hev⟩ : ∃ v : Int, X.head + (X.log.length : Nat) = v := ⟨_, rfl⟩
  have hev2 : (flushX X).head + (((flushX X).log.length : Nat) : Int) = ev := hev
  rw [hev2]
  have HEV := Lib.hid hev
  have H2 := Lib.hid (H1.out.next hb2)
  have hw2 := hb2.size
  have gy := strL H2.out.box
  have hly := H2.out.box.lt
  have gfy := fun j => H2.out.box.frozen j
  have hg3 : W2.grownBy (W2.setCell ⟨lb, 3, none⟩ (.int .i64 ev)) (some lb) := grown_set (grown_refl W2 _) 3 _
  have HF : Hid (LogIn (W2.setCell ⟨lb, 3, none⟩ (.int .i64 ev)) lb d mb nm A n c bs1 (flushX X) L lim kept ev ps ∧ Below B0 w (W2.setCell ⟨lb, 3, none⟩ (.int .i64 ev)) ∧ Offs w (W2.setCell ⟨lb, 3, none⟩ (.int .i64 ev)) lb mb A bs A bs1) := Lib.hid ⟨H2.out.turn hg3 (by have := H2.out.box.set 3 (.int .i64 ev); simpa [logC] using this), below_grownO (HB1.out.trans (hb2.mono (by omega))) hg3 (by omega) (fun k e => by cases e; exact HH.out.l), fun g hg g1 g2 g3 g4 => ⟨(hg3.block g (by omega) (fun e => by injection e with e; exact g1 e)).trans ((hb2.block g (by omega)).trans (HO1.out g hg g4).1), g3, (HO1.out g hg g4).2⟩⟩
  clear hb2 hg3 gx hlx hev2 hev
  go_wp2_with fail
  go_ret
  exact ⟨rfl, HF.out.2.1, bs1, by rw [HEV.out]; exact HF.out.1, HH1.out, HF.out.2.2⟩
/-- what All's rounds keep: all but one block, and loops' records -/
def KpA (nb : Nat) (W W' : World) : Prop := W.heap.size ≤ W'.heap.size ∧ ∀ k o, k ≠ nb → W.heap[k]? = some o → (∀ r, o ≠ .loop r) → W'.heap[k]? = some o
theorem KpA.trans {nb : Nat} {a b c : World} (h : KpA nb a b) (k : KpA nb b c) : KpA nb a c := ⟨Nat.le_trans h.1 k.1, fun i o hn ho hl => k.2 i o hn (h.2 i o hn ho hl) hl⟩
theorem KpA.str {nb b : Nat} {w w' : World} {cs : Array Value} (h : Str w b cs) (k : KpA nb w w') (hn : b ≠ nb) : Str w' b cs := by
  obtain ⟨t, ht⟩ := h
  exact ⟨t, k.2 b _ hn ht (fun r e => by cases e)⟩
theorem KpA.sub {nb B : Nat} {w w' : World} (k : KpA nb w w') : Sub B (hideL w [nb]) (hideL w' [nb]) := by
  intro p v hp hv
  by_cases hm : p.block ∈ [nb]
  · rw [hideL_in _ p _ hm] at hv; cases hv
  · rw [hideL_out _ p _ hm] at hv ⊢
    have hn : p.block ≠ nb := by simpa using hm
    have hx := hv
    unfold World.cell? at hx
    cases ho : w.heap[p.block]? with
    | none => rw [ho] at hx; cases hx
    | some o =>
      have h2 := k.2 _ o hn ho (fun r e => by subst e; rw [ho] at hx; simp at hx)
      exact (World.cell?_of_block (h2.trans ho.symm)).trans hv
theorem KpA.row {nb : Nat} {w w' : World} {T : TypeId} {base n c : Nat} {A : Option Addr} {l : List Int} (h : OwnE IntE T w base A n c l) (k : KpA nb w w') (hn : ∀ a, A = some a → a.block ≠ nb) : OwnE IntE T w' base A n c l :=
  IntE.at_ h (fun a e => by
    obtain ⟨h1, ⟨h2, -⟩ | ⟨g, cap, cur, h3, h4, h5, h6⟩⟩ := IntE.own h
    · cases h2; cases e
    · cases h3; cases e
      exact (k.2 _ _ (hn _ rfl) h5 (fun r e => by cases e)).trans h5.symm)
/-- a log that is looked at -/
structure LogV (W : World) (nb lb mb nm : Nat) (cs : Array Value) (L : MapP.T Int (Array Value)) (ps : List Int) (K : List RecX) : Prop where
  box : Str W lb cs
  map : MapM Tryz.prog intK recS 3 W mb nm L
  rec_ : LogR W [nb] L ps K
  n1 : lb ≠ nb
  n2 : mb ≠ nb
theorem LogV.next {W W' : World} {nb lb mb nm : Nat} {cs : Array Value} {L : MapP.T Int (Array Value)} {ps : List Int} {K : List RecX} (h : LogV W nb lb mb nm cs L ps K) (hb : Below W.heap.size W W') : LogV W' nb lb mb nm cs L ps K :=
  ⟨h.box.next hb, h.map.at_ (hb.block _ h.map.lt), h.rec_.next hb, h.n1, h.n2⟩
theorem LogV.kp {W W' : World} {nb lb mb nm : Nat} {cs : Array Value} {L : MapP.T Int (Array Value)} {ps : List Int} {K : List RecX} (h : LogV W nb lb mb nm cs L ps K) (k : KpA nb W W') : LogV W' nb lb mb nm cs L ps K := by
  refine ⟨KpA.str h.box k h.n1, h.map.at_ ?_, h.rec_.sub k.1 k.sub, h.n1, h.n2⟩
  obtain ⟨es, clock, hh, r⟩ := h.map.own
  exact (k.2 _ _ h.n2 hh (fun r e => by cases e)).trans hh.symm
theorem zeroRec (w : World) : (zeroValue 40).run Tryz.prog w = .ok (recS.val #[.int .i64 0, .int .i64 0, .int .i64 0, .int .i64 0, .slice none 0 0, .int .i64 0, .string ⟨#[]⟩, .int .i64 0, .string ⟨#[]⟩, .int .i64 0, .slice none 0 0, .int .i64 0, .int .i64 0, .int .i64 0, .int .i64 0]) w := by kernel_rfl
theorem look_rec {W : World} {nb lb mb nm : Nat} {cs0 : Array Value} {L : MapP.T Int (Array Value)} {ps : List Int} {K : List RecX} (h : LogV W nb lb mb nm cs0 L ps K) {p : Int} {cs : Array Value} (hp : In64 p) (hg : MapP.get L p = some cs) : (Instr.lookup 59 (.map (some mb)) (.int .i64 p) true).run Tryz.prog W = .ok (.tuple #[.agg cs, .bool true]) W := by
  have := h.map.look_ok DevW.law Tryz.underlying59 (zeroRec W) (DevW.keyOf_ hp)
  rw [hg, MapP.has_get, hg] at this
  exact this
set_option maxRecDepth 100000 in
set_option maxHeartbeats 8000000 in
theorem rec_any (nb lb d mb nm n c : Nat) (A : Option Addr) (L : MapP.T Int (Array Value)) (lim kept forced : Int) (ps : List Int) (K : List RecX) (k : Nat) (p : Int) (y : RecX) (w : World) (h : LogV w nb lb mb nm (logC d mb A n c lim kept forced) L ps K) (hp : ps[k]? = some p) (hy : K[k]? = some y) (hi : In64 p) (hR : RecP.fits y = true) :
    Calls Tryz.prog 30 #[.pointer (some ⟨lb, 0, none⟩), .int .i64 p] w fun e w' => ∃ vs, e = .returned (.tuple #[.agg vs, .bool true]) ∧ RecE.rel w' w'.heap.size vs.toList y ∧ Below w.heap.size w w' := by
  obtain ⟨cs, hg, hrel⟩ := h.rec_.at_ k p y hp hy
  replace hrel := RecE.sub (sub_hideL _ _ _) hrel
  obtain ⟨Q1, q1, s1, Q2, q2, s2, hx2, hE, hyB, hIn⟩ := hrel
  have hx2' : cs = (recV y Q1 q1 s1 Q2 q2 s2).toArray := by rw [← hx2]
  obtain ⟨kd, tx, pv, nx, l0, ⟨pact, puk, ⟨pst, pk, ⟨pkd, pda, plo, phi, pva⟩⟩, pun⟩⟩ := y
  have hx3 : cs = #[.int .i64 kd, .int .i64 tx, .int .i64 pv, .int .i64 nx, .slice Q1 q1 s1, .int .i64 pact, .string puk, .int .i64 pst, .string pk, .int .i64 pkd, .slice Q2 q2 s2, .int .i64 plo, .int .i64 phi, .int .i64 pva, .int .i64 pun] := hx2'
  subst hx3
  clear hx2 hx2'
  have HSM := Lib.hid (small_of hE hyB (RecP.fits_right hR))
  have H := Lib.hid h
  have HE := Lib.hid hE
  have HYB := Lib.hid hyB
  have HIN := Lib.hid hIn
  have hlk := Lib.hid (fun W (hW : Below w.heap.size w W) => look_rec (h.next hW) hi hg)
  obtain ⟨W0, hW0⟩ : ∃ W, w.alloc (.cells #[.int .i64 0, .int .i64 0, .int .i64 0, .int .i64 0, .slice none 0 0, .int .i64 0, .string ⟨#[]⟩, .int .i64 0, .string ⟨#[]⟩, .int .i64 0, .slice none 0 0, .int .i64 0, .int .i64 0, .int .i64 0, .int .i64 0] 40) = W := ⟨_, rfl⟩
  obtain ⟨HS0, HB0, hw0, hz0⟩ := new1 hW0
  obtain ⟨W1, hW1⟩ : ∃ W, W0.alloc (.cells #[.int .i64 0, .int .i64 0, .int .i64 0, .int .i64 0, .slice none 0 0, .int .i64 0, .string ⟨#[]⟩, .int .i64 0, .string ⟨#[]⟩, .int .i64 0, .slice none 0 0, .int .i64 0, .int .i64 0, .int .i64 0, .int .i64 0] 40) = W := ⟨_, rfl⟩
  obtain ⟨HS1, HB1, hw1, hz1⟩ := new1 hW1
  obtain ⟨W2, hW2⟩ : ∃ W, (((((((((((((((W1).setCell ⟨W0.heap.size, 0, none⟩ (.int .i64 kd)).setCell ⟨W0.heap.size, 1, none⟩ (.int .i64 tx)).setCell ⟨W0.heap.size, 2, none⟩ (.int .i64 pv)).setCell ⟨W0.heap.size, 3, none⟩ (.int .i64 nx)).setCell ⟨W0.heap.size, 4, none⟩ (.slice Q1 q1 s1)).setCell ⟨W0.heap.size, 5, none⟩ (.int .i64 pact)).setCell ⟨W0.heap.size, 6, none⟩ (.string puk)).setCell ⟨W0.heap.size, 7, none⟩ (.int .i64 pst)).setCell ⟨W0.heap.size, 8, none⟩ (.string pk)).setCell ⟨W0.heap.size, 9, none⟩ (.int .i64 pkd)).setCell ⟨W0.heap.size, 10, none⟩ (.slice Q2 q2 s2)).setCell ⟨W0.heap.size, 11, none⟩ (.int .i64 plo)).setCell ⟨W0.heap.size, 12, none⟩ (.int .i64 phi)).setCell ⟨W0.heap.size, 13, none⟩ (.int .i64 pva)).setCell ⟨W0.heap.size, 14, none⟩ (.int .i64 pun) = W := ⟨_, rfl⟩
  have hg2 : W1.grownBy W2 (some W0.heap.size) := by rw [← hW2]; exact grown_set (grown_set (grown_set (grown_set (grown_set (grown_set (grown_set (grown_set (grown_set (grown_set (grown_set (grown_set (grown_set (grown_set (grown_set (grown_refl W1 _) 0 _) 1 _) 2 _) 3 _) 4 _) 5 _) 6 _) 7 _) 8 _) 9 _) 10 _) 11 _) 12 _) 13 _) 14 _
  have hS2 : Str W2 W0.heap.size #[.int .i64 kd, .int .i64 tx, .int .i64 pv, .int .i64 nx, .slice Q1 q1 s1, .int .i64 pact, .string puk, .int .i64 pst, .string pk, .int .i64 pkd, .slice Q2 q2 s2, .int .i64 plo, .int .i64 phi, .int .i64 pva, .int .i64 pun] := by
    have := (((((((((((((((HS1.out).set 0 (.int .i64 kd)).set 1 (.int .i64 tx)).set 2 (.int .i64 pv)).set 3 (.int .i64 nx)).set 4 (.slice Q1 q1 s1)).set 5 (.int .i64 pact)).set 6 (.string puk)).set 7 (.int .i64 pst)).set 8 (.string pk)).set 9 (.int .i64 pkd)).set 10 (.slice Q2 q2 s2)).set 11 (.int .i64 plo)).set 12 (.int .i64 phi)).set 13 (.int .i64 pva)).set 14 (.int .i64 pun)
    rw [← hW2]; simpa using this
  have hb2 : Below W0.heap.size W0 W2 := below_grown HB1.out hg2 (Nat.le_refl _)
  have HB2 := Lib.hid (bstep HB0.out hb2)
  have HR2 := Lib.hid (HS0.out.next hb2)
  have hHb := H.out.next HB0.out
  have gx := strL hHb.box
  have hlx := hHb.box.lt
  have hl1 := HS1.out.lt
  have g1 := str15 HS1.out
  have gf1 := fun j => HS1.out.frozen j
  have g2 := str15 hS2
  have gl2 := hS2.lt
  have hrun := hlk.out W0 HB0.out
  clear h hE hyB hIn hg hp hy hR hb2 hS2 hg2 hHb hz0 hz1
  go_enter Tryz.func30, Tryz.ntmps30
  go_wp2_with fail
  refine (own_hid kd tx pv nx l0 pact puk pst pk pkd pda plo phi pva pun Q1 q1 s1 Q2 q2 s2 [w.heap.size] W2 (by have := HB2.out.size; intro b hb; simp only [List.mem_cons, List.not_mem_nil, or_false] at hb; subst hb; exact HR2.out.lt) (((HE.out.below HB2.out).sub (sub_hideL_lt W2 [w.heap.size] (by simp))).more HB2.out.size) ((HYB.out.below HB2.out).more HB2.out.size) HSM.out.1 HSM.out.2.1 HSM.out.2.2.1 HSM.out.2.2.2).mono ?_
  rintro e W3 ⟨A3, c3, Aq, cq, rfl, hE3, hy3, hb3⟩
  clear g1 gf1 g2 gl2 gx hlx hl1
  have hR3 := HR2.out.next hb3
  have HE3 := Lib.hid hE3
  have HY3 := Lib.hid hy3
  have HBF := Lib.hid (bstep HB2.out hb3)
  have g3 := str15 hR3
  have gl3 := hR3.lt
  have gf3 := fun j => hR3.frozen j
  obtain ⟨W4, hW4⟩ : ∃ W, (((((((((((((((W3).setCell ⟨w.heap.size, 0, none⟩ (.int .i64 kd)).setCell ⟨w.heap.size, 1, none⟩ (.int .i64 tx)).setCell ⟨w.heap.size, 2, none⟩ (.int .i64 pv)).setCell ⟨w.heap.size, 3, none⟩ (.int .i64 nx)).setCell ⟨w.heap.size, 4, none⟩ (.slice A3 q1 c3)).setCell ⟨w.heap.size, 5, none⟩ (.int .i64 pact)).setCell ⟨w.heap.size, 6, none⟩ (.string puk)).setCell ⟨w.heap.size, 7, none⟩ (.int .i64 pst)).setCell ⟨w.heap.size, 8, none⟩ (.string pk)).setCell ⟨w.heap.size, 9, none⟩ (.int .i64 pkd)).setCell ⟨w.heap.size, 10, none⟩ (.slice Aq q2 cq)).setCell ⟨w.heap.size, 11, none⟩ (.int .i64 plo)).setCell ⟨w.heap.size, 12, none⟩ (.int .i64 phi)).setCell ⟨w.heap.size, 13, none⟩ (.int .i64 pva)).setCell ⟨w.heap.size, 14, none⟩ (.int .i64 pun) = W := ⟨_, rfl⟩
  have hg4 : W3.grownBy W4 (some w.heap.size) := by rw [← hW4]; exact grown_set (grown_set (grown_set (grown_set (grown_set (grown_set (grown_set (grown_set (grown_set (grown_set (grown_set (grown_set (grown_set (grown_set (grown_set (grown_refl W3 _) 0 _) 1 _) 2 _) 3 _) 4 _) 5 _) 6 _) 7 _) 8 _) 9 _) 10 _) 11 _) 12 _) 13 _) 14 _
  have hS4 : Str W4 w.heap.size #[.int .i64 kd, .int .i64 tx, .int .i64 pv, .int .i64 nx, .slice A3 q1 c3, .int .i64 pact, .string puk, .int .i64 pst, .string pk, .int .i64 pkd, .slice Aq q2 cq, .int .i64 plo, .int .i64 phi, .int .i64 pva, .int .i64 pun] := by
    have := (((((((((((((((hR3).set 0 (.int .i64 kd)).set 1 (.int .i64 tx)).set 2 (.int .i64 pv)).set 3 (.int .i64 nx)).set 4 (.slice A3 q1 c3)).set 5 (.int .i64 pact)).set 6 (.string puk)).set 7 (.int .i64 pst)).set 8 (.string pk)).set 9 (.int .i64 pkd)).set 10 (.slice Aq q2 cq)).set 11 (.int .i64 plo)).set 12 (.int .i64 phi)).set 13 (.int .i64 pva)).set 14 (.int .i64 pun)
    rw [← hW4]; simpa using this
  have HFIN : Hid (Elems PatchE W4 W4.heap.size A3 q1 c3 l0 ∧ Bytes W4 W4.heap.size Aq q2 cq pda ∧ Below w.heap.size w W4) := Lib.hid ⟨((hE3.sub (sub_grown hg4 (by simp))).more hg4.size).sub (sub_hideL _ _ _), (Bytes.grown hy3 (Nat.le_refl _) hR3 rfl hg4).more hg4.size, below_grown HBF.out hg4 (Nat.le_refl _)⟩
  have g4 := str15 hS4
  have gl4 := hS4.lt
  clear hb3 hE3 hy3 hR3 hg4 hS4
  go_wp2_with fail
  exact bodyPost_ret (v := .tuple #[.agg #[.int .i64 kd, .int .i64 tx, .int .i64 pv, .int .i64 nx, .slice A3 q1 c3, .int .i64 pact, .string puk, .int .i64 pst, .string pk, .int .i64 pkd, .slice Aq q2 cq, .int .i64 plo, .int .i64 phi, .int .i64 pva, .int .i64 pun], .bool true]) (by simp [results, Tryz.results30, go_sem, *]) rfl ⟨_, rfl, ⟨A3, q1, c3, Aq, q2, cq, rfl, HFIN.out.1, HFIN.out.2.1, HIN.out⟩, HFIN.out.2.2⟩
set_option maxRecDepth 100000 in
set_option maxHeartbeats 1000000 in
theorem all_any (lb : Nat) (w : World) : Calls Tryz.prog 13 #[.pointer (some ⟨lb, 0, none⟩)] w fun e w' => e = .returned (.func (.func 28) #[] #[.pointer (some ⟨w.heap.size, 0, none⟩)]) ∧ w.alloc (.cells #[.pointer (some ⟨lb, 0, none⟩)] 26) = w' := by
  go_enter Tryz.func13, Tryz.ntmps13
  go_wp2
  go_ret
  exact ⟨rfl, rfl⟩
/-- what is told of a record that All hands out -/
def EyA (K : List RecX) (pre : List (Int × Array Value)) (x : Int × Array Value) (W0 W1 : World) : Prop := ∃ y, K[pre.length]? = some y ∧ RecE.rel W1 W1.heap.size x.2.toList y
/-- what All's rounds keep -/
structure AI (nb lb mb nm bx : Nat) (cs : Array Value) (L : MapP.T Int (Array Value)) (ps : List Int) (K : List RecX) (J : List (Int × Array Value) → World → Prop) (base : Nat) (A1 : Option Addr) (n c1 : Nat) (pre : List (Int × Array Value)) (wr : World) : Prop where
  log : LogV wr nb lb mb nm cs L ps K
  box : Str wr bx #[.pointer (some ⟨lb, 0, none⟩)]
  row : OwnE IntE 3 wr base A1 n c1 ps
  ne : bx ≠ nb ∧ ∀ a, A1 = some a → a.block ≠ nb
  inv : J pre wr
set_option maxRecDepth 100000 in
set_option maxHeartbeats 4000000 in
theorem all1_in (n0 : Nat) (hn0 : 1 ≤ n0) (ly bx nb lb d mb nm n c : Nat) (A : Option Addr) (L : MapP.T Int (Array Value)) (lim kept forced : Int) (ps : List Int) (K : List RecX) (J : List (Int × Array Value) → World → Prop)
    (hY : ∀ pre x W0 W1, J pre W0 → Below W0.heap.size W0 W1 → EyA K pre x W0 W1 → YieldAt Fence.wide (n0 - 1) Tryz.prog ly #[.int .i64 x.1, .agg x.2] W1 fun e W' => e = .returned (.bool true) ∧ J (pre ++ [x]) W' ∧ KpA nb W1 W')
    (hD : ∀ pre B C, J pre B → Below B.heap.size B C → J pre C) (W : World) (hb : Str W bx #[.pointer (some ⟨lb, 0, none⟩)]) (hnb : bx ≠ nb) (hnW : nb < W.heap.size) (hV : LogV W nb lb mb nm (logC d mb A n c lim kept forced) L ps K) (hrow : Elems IntE W W.heap.size A n c ps) (hn : n ≤ 1000000) (hK : ∀ x ∈ K, RecP.fits x = true) (hps : ∀ p ∈ ps, In64 p) (h0 : J [] W) :
    CallsIn Fence.wide n0 Tryz.prog 28 #[.func (.yield ly) #[] #[], .pointer (some ⟨bx, 0, none⟩)] W fun e W' => (∃ v, e = .returned v) ∧ ∃ xs, xs.length = K.length ∧ J xs W' := by
  have HY := Lib.hid hY
  have HD := Lib.hid hD
  have HK := Lib.hid hK
  have HPS := Lib.hid hps
  have HV := Lib.hid hV
  have HRW := Lib.hid hrow
  have HB := Lib.hid hb
  have H0 := Lib.hid h0
  have f0 := str1 hb
  have f0l := hb.lt
  have f1 := strL hV.box
  have f1l := hV.box.lt
  have HLN := Lib.hid (And.intro hrow.len hV.rec_.len)
  clear hY hD hK hV hrow hb h0 hps
  refine callsIn_of_wp Tryz.func28 rfl trivial ?_ rfl
  simp only [Tryz.ntmps28, List.size_toArray, List.length_cons, List.length_nil, Nat.reduceAdd, Nat.reduceSub, Array.replicate_succ, Array.replicate_zero, List.push_toArray, List.append_toArray, List.nil_append, List.cons_append]
  gi_wp2_with fail
  refine ⟨trivial, ?_⟩
  refine (callsIn_wide.2 (CloneW.clone_ints IntE rfl A n c W.heap.size ps W HRW.out (Nat.le_refl _) hn)).mono ?_
  rintro e W1 ⟨A1, c1, rfl, hO1, hb1⟩
  have HI1 : Hid (AI nb lb mb nm bx (logC d mb A n c lim kept forced) L ps K J W.heap.size A1 n c1 [] W1) := Lib.hid ⟨HV.out.next hb1, HB.out.next hb1, hO1, ⟨hnb, fun a e => by have := hO1.ge a e; omega⟩, HD.out _ _ _ H0.out hb1⟩
  clear hO1 hb1 f0 f0l f1 f1l HV HRW HB H0
  gi_wp2_with fail
  gi_loopw [15] (fun p wr => ∃ (k : Nat) (pre : List (Int × Array Value)), k ≤ n ∧ p = .int .i64 (k : Int) ∧ pre.length = k ∧ Hid (AI nb lb mb nm bx (logC d mb A n c lim kept forced) L ps K J W.heap.size A1 n c1 pre wr)) (fun p wr => (n - (intOf p).toNat : Nat))
  case atStart => exact ⟨0, [], Nat.zero_le _, rfl, rfl, HI1⟩
  case round =>
    obtain ⟨k, pre, hk, rfl, hpl, HI⟩ := hrel
    clear HI1
    have g0 := str1 HI.out.box
    have gl0 := HI.out.box.lt
    by_cases hlt : k < n
    · obtain ⟨b, o, vs, hA1, hbl, hr, hc⟩ := HI.out.row.elemsIn.at_ hlt
      obtain ⟨p, hp⟩ : ∃ p, ps[k]? = some p := ⟨_, List.getElem?_eq_getElem (by rw [HLN.out.1]; exact hlt)⟩
      have hpe : ps[k]'(by rw [HLN.out.1]; exact hlt) = p := by
        have := List.getElem?_eq_getElem (l := ps) (i := k) (by rw [HLN.out.1]; exact hlt)
        rw [hp] at this; exact (Option.some.inj this).symm
      rw [hpe] at hr
      have hr' : vs = [.int .i64 p] := hr
      subst hr'
      subst hA1
      have ho := OwnE.zero HI.out.row
      subst ho
      have q0 := hc 0 _ rfl
      rw [show IntE.size = 1 from rfl, Nat.mul_one, Nat.add_zero, Nat.zero_add] at q0
      obtain ⟨y, hy⟩ : ∃ y, K[k]? = some y := ⟨_, List.getElem?_eq_getElem (by rw [← HLN.out.2, HLN.out.1]; exact hlt)⟩
      have HP := Lib.hid hp
      have HYK := Lib.hid hy
      have hd1 : decide ((k : Int) < (n : Int)) = true := by simpa using hlt
      clear hr hc hp hpe hy
      gi_wp2_with fail
      refine ⟨trivial, ?_⟩
      refine (callsIn_wide.2 (rec_any nb lb d mb nm n c A L lim kept forced ps K k p y wr HI.out.log HP.out HYK.out (HPS.out p (List.mem_of_getElem? HP.out)) (HK.out y (List.mem_of_getElem? HYK.out)))).mono ?_
      rintro e W3 ⟨vs, rfl, hrel, hb3⟩
      have hrel0 := hrel
      obtain ⟨Q1, q1, s1, Q2, q2, s2, hx2, -⟩ := hrel
      have hx2' : vs = (recV y Q1 q1 s1 Q2 q2 s2).toArray := by rw [← hx2]
      obtain ⟨kd, tx, pv, nx, l0, ⟨pact, puk, ⟨pst, pk, ⟨pkd, pda, plo, phi, pva⟩⟩, pun⟩⟩ := y
      have hx3 : vs = #[.int .i64 kd, .int .i64 tx, .int .i64 pv, .int .i64 nx, .slice Q1 q1 s1, .int .i64 pact, .string puk, .int .i64 pst, .string pk, .int .i64 pkd, .slice Q2 q2 s2, .int .i64 plo, .int .i64 phi, .int .i64 pva, .int .i64 pun] := hx2'
      subst hx3
      clear hx2 hx2'
      have HB3 := Lib.hid hb3
      have HRL := Lib.hid hrel0
      have hw3 := hb3.size
      clear hb3 hrel0 q0 g0 gl0
      obtain ⟨W4, hW4⟩ : ∃ W, W3.alloc (.cells #[.int .i64 0, .int .i64 0, .int .i64 0, .int .i64 0, .slice none 0 0, .int .i64 0, .string ⟨#[]⟩, .int .i64 0, .string ⟨#[]⟩, .int .i64 0, .slice none 0 0, .int .i64 0, .int .i64 0, .int .i64 0, .int .i64 0] 40) = W := ⟨_, rfl⟩
      obtain ⟨HS4, HB4, hw4, hz4⟩ := new1 hW4
      have hl4 := HS4.out.lt
      have g4 := str15 HS4.out
      have gf := fun j => HS4.out.frozen j
      obtain ⟨W8, hW8⟩ : ∃ W, (((((((((((((((W4).setCell ⟨W3.heap.size, 0, none⟩ (.int .i64 kd)).setCell ⟨W3.heap.size, 1, none⟩ (.int .i64 tx)).setCell ⟨W3.heap.size, 2, none⟩ (.int .i64 pv)).setCell ⟨W3.heap.size, 3, none⟩ (.int .i64 nx)).setCell ⟨W3.heap.size, 4, none⟩ (.slice Q1 q1 s1)).setCell ⟨W3.heap.size, 5, none⟩ (.int .i64 pact)).setCell ⟨W3.heap.size, 6, none⟩ (.string puk)).setCell ⟨W3.heap.size, 7, none⟩ (.int .i64 pst)).setCell ⟨W3.heap.size, 8, none⟩ (.string pk)).setCell ⟨W3.heap.size, 9, none⟩ (.int .i64 pkd)).setCell ⟨W3.heap.size, 10, none⟩ (.slice Q2 q2 s2)).setCell ⟨W3.heap.size, 11, none⟩ (.int .i64 plo)).setCell ⟨W3.heap.size, 12, none⟩ (.int .i64 phi)).setCell ⟨W3.heap.size, 13, none⟩ (.int .i64 pva)).setCell ⟨W3.heap.size, 14, none⟩ (.int .i64 pun) = W := ⟨_, rfl⟩
      have hg8 : W4.grownBy W8 (some W3.heap.size) := by rw [← hW8]; exact grown_set (grown_set (grown_set (grown_set (grown_set (grown_set (grown_set (grown_set (grown_set (grown_set (grown_set (grown_set (grown_set (grown_set (grown_set (grown_refl W4 _) 0 _) 1 _) 2 _) 3 _) 4 _) 5 _) 6 _) 7 _) 8 _) 9 _) 10 _) 11 _) 12 _) 13 _) 14 _
      have hS8 : Str W8 W3.heap.size #[.int .i64 kd, .int .i64 tx, .int .i64 pv, .int .i64 nx, .slice Q1 q1 s1, .int .i64 pact, .string puk, .int .i64 pst, .string pk, .int .i64 pkd, .slice Q2 q2 s2, .int .i64 plo, .int .i64 phi, .int .i64 pva, .int .i64 pun] := by
        have := (((((((((((((((HS4.out).set 0 (.int .i64 kd)).set 1 (.int .i64 tx)).set 2 (.int .i64 pv)).set 3 (.int .i64 nx)).set 4 (.slice Q1 q1 s1)).set 5 (.int .i64 pact)).set 6 (.string puk)).set 7 (.int .i64 pst)).set 8 (.string pk)).set 9 (.int .i64 pkd)).set 10 (.slice Q2 q2 s2)).set 11 (.int .i64 plo)).set 12 (.int .i64 phi)).set 13 (.int .i64 pva)).set 14 (.int .i64 pun)
        rw [← hW8]; simpa using this
      have hb8 : Below W3.heap.size W3 W8 := below_grown HB4.out hg8 (Nat.le_refl _)
      have hb08 := bstep HB3.out hb8
      have HX8 : Hid (EyA K pre (p, #[.int .i64 kd, .int .i64 tx, .int .i64 pv, .int .i64 nx, .slice Q1 q1 s1, .int .i64 pact, .string puk, .int .i64 pst, .string pk, .int .i64 pkd, .slice Q2 q2 s2, .int .i64 plo, .int .i64 phi, .int .i64 pva, .int .i64 pun]) wr W8) := Lib.hid ⟨_, by rw [hpl]; exact HYK.out, RecE.more hb8.size (RecE.sub (sub_below hb8) HRL.out)⟩
      have g8 := str15 hS8
      have hl8 := hS8.lt
      obtain ⟨fn, tmps, assign, body, hy1, hR⟩ := HY.out pre (p, #[.int .i64 kd, .int .i64 tx, .int .i64 pv, .int .i64 nx, .slice Q1 q1 s1, .int .i64 pact, .string puk, .int .i64 pst, .string pk, .int .i64 pkd, .slice Q2 q2 s2, .int .i64 plo, .int .i64 phi, .int .i64 pva, .int .i64 pun]) wr W8 HI.out.inv hb08 HX8.out
      have HRR := Lib.hid hR
      clear hR hb8 hS8 hg8 hz4
      gi_wp2_with fail
      clear hy1 g4 gf g8 hl8 hl4
      refine HRR.out.mono ?_
      rintro e W9 ⟨rfl, hJ9, hk9⟩
      have HI9 : Hid (AI nb lb mb nm bx (logC d mb A n c lim kept forced) L ps K J W.heap.size (some ⟨b, 0, none⟩) n c1 (pre ++ [(p, #[.int .i64 kd, .int .i64 tx, .int .i64 pv, .int .i64 nx, .slice Q1 q1 s1, .int .i64 pact, .string puk, .int .i64 pst, .string pk, .int .i64 pkd, .slice Q2 q2 s2, .int .i64 plo, .int .i64 phi, .int .i64 pva, .int .i64 pun])]) W9) := Lib.hid ⟨(HI.out.log.next hb08).kp hk9, KpA.str (HI.out.box.next hb08) hk9 HI.out.ne.1, KpA.row (HI.out.row.next hb08) hk9 HI.out.ne.2, HI.out.ne, hJ9⟩
      clear hJ9 hk9 hb08 HRR
      gi_wp2_with fail
      go_roundw
      case rel => exact ⟨k + 1, _, by omega, by go_num, by rw [List.length_append, hpl]; rfl, HI9⟩
      case measure => simp [intOf]; try omega
    · have hd1 : decide ((k : Int) < (n : Int)) = false := by simpa using hlt
      gi_wp2_with fail
      go_end0
      exact ⟨⟨_, rfl⟩, pre, by rw [hpl, ← HLN.out.2, HLN.out.1]; omega, HI.out.inv⟩
theorem all_seqT (n0 : Nat) (hn0 : 1 ≤ n0) (bx nb lb d mb nm n c : Nat) (A : Option Addr) (L : MapP.T Int (Array Value)) (lim kept forced : Int) (ps : List Int) (K : List RecX) (w : World) (hb : Str w bx #[.pointer (some ⟨lb, 0, none⟩)]) (hnb : bx ≠ nb) (hnW : nb < w.heap.size) (hV : LogV w nb lb mb nm (logC d mb A n c lim kept forced) L ps K) (hrow : Elems IntE w w.heap.size A n c ps) (hn : n ≤ 1000000) (hK : ∀ x ∈ K, RecP.fits x = true) (hps : ∀ p ∈ ps, In64 p) :
    SeqT Fence.wide n0 Tryz.prog 28 #[.pointer (some ⟨bx, 0, none⟩)] (fun x : Int × Array Value => #[.int .i64 x.1, .agg x.2]) (fun B C => Below B.heap.size B C) (EyA K) (KpA nb) (fun xs => xs.length = K.length) w := by
  intro ly J W hW hD hY h0
  rw [show #[Value.func (.yield ly) #[] #[]] ++ #[Value.pointer (some ⟨bx, 0, none⟩)] = #[Value.func (.yield ly) #[] #[], Value.pointer (some ⟨bx, 0, none⟩)] from rfl]
  exact all1_in n0 hn0 ly bx nb lb d mb nm n c A L lim kept forced ps K J hY hD W (hb.next hW) hnb (Nat.lt_of_lt_of_le hnW hW.size) (hV.next hW) (hrow.next hW) hn hK hps h0
end Go.Proofs.YtpdfnlhhnodnjaaGreat.WalW
end
