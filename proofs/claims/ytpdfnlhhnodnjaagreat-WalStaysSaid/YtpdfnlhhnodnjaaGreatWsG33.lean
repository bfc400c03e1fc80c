/-
  Parts of the proof of WalStays.
-/
import Derived.Test.YtpdfnlhhnodnjaaGreatWsG29
import Derived.Test.YtpdfnlhhnodnjaaGreatWsG28
import Derived.Maps.RangeWalk
import Derived.Shelf.Sort.Plain
import Derived.Shelf.Slices.In.SortNone
import Derived.Test.YtpdfnlhhnodnjaaGreatProg
import Derived.Test.YtpdfnlhhnodnjaaGreatWsG27
import Derived.Sort.OwnSortedInts
import Derived.Lib.OwnBridge
import Derived.Deep.OwnRows
import Derived.Lib.RowBridge
section
namespace Go.Proofs.YtpdfnlhhnodnjaaGreat.WalW
open Go.RowKit Go.Maps RecW
set_option linter.unusedVariables false
set_option linter.unusedSimpArgs false
attribute [local go_sem] Oper.semAt_some
/-- the device behind the cut -/
def cutD (X : DevX) (n : Nat) : DevX := DevP.done { X with log := X.log.take n, sure := min X.sure (n : Int) }
/-- the call hands back a log with these records -/
def Loaded (d B0 : Nat) (bs : List Nat) (X' : DevX) (lim : Int) (K : List RecX) (j : Nat) (w : World) (e : Ending) (w' : World) : Prop := ∃ lb mb A c bs' L, e = .returned (.tuple #[.pointer (some ⟨lb, 0, none⟩), .int .i64 0]) ∧ Reg.KeepB w.heap.size bs w w' ∧ LogIn w' lb d mb j A j c bs' X' L lim 0 ((RowsP.at_ K j : Nat) : Int) (RowsP.ends (K.take j)) ∧ LogR w' [] L (RowsP.ends (K.take j)) (K.take j) ∧ w.heap.size ≤ lb ∧ w.heap.size ≤ mb ∧ (∀ a, A = some a → w.heap.size ≤ a.block) ∧ ∀ b ∈ bs', b ∈ bs ∨ w.heap.size ≤ b
/-- behind the assignment of a round -/
def LX (w : World) (M B0 lb d mb lx eb g0 : Nat) (bs : List Nat) (X : DevX) (lim : Int) (K : List RecX) (j : Nat) (a1 : Int × Array Value → Nat → Act) (pre : List (Int × Array Value)) (x : Int × Array Value) (a' : Act) (W : World) : Prop :=
  ∃ (A : Option Addr) (c : Nat) (L : MapP.T Int (Array Value)) (y : RecX) (xb : Nat), LI w M B0 lb d mb lx eb g0 bs X lim K pre.length A c L W ∧ K[pre.length]? = some y ∧ pre.length < j ∧ x.1 = ((RecP.bytes y).length : Nat) ∧ RecE.rel (hideL W (LS lb mb eb g0 bs A)) W.heap.size x.2.toList y ∧ M ≤ xb ∧ (∀ a, A = some a → a.block ≠ xb) ∧ Str W xb x.2 ∧ a' = a1 x xb
theorem LX.loop {w W : World} {M B0 lb d mb lx eb g0 : Nat} {bs gs : List Nat} {X : DevX} {lim : Int} {K : List RecX} {j : Nat} {a1 : Int × Array Value → Nat → Act} {pre : List (Int × Array Value)} {x : Int × Array Value} {a' : Act} (h : LX w M B0 lb d mb lx eb g0 bs X lim K j a1 pre x a' W) (hF : LF w.heap.size M B0 lb mb lx eb g0 bs gs) {l : Nat} {r : Loop} (hl : W.heap[l]? = some (.loop r)) (hM : M ≤ l) (r' : Loop) : LX w M B0 lb d mb lx eb g0 bs X lim K j a1 pre x a' (W.putObj l (.loop r')) := by
  obtain ⟨A, c, L, y, xb, h1, h2, h3, h4, h5, h6, h7, h8, h9⟩ := h
  refine ⟨A, c, L, y, xb, h1.loop hF hl hM _, h2, h3, h4, RecE.more (grownBy_putObj' W l _).size (RecE.sub (sub_loop hl _) h5), h6, h7, h8.grown (grownBy_putObj' W l _) (fun e => ?_), h9⟩
  obtain ⟨t, ht⟩ := h8
  rw [e, hl] at ht
  cases ht
theorem cut_op {X : DevX} {n : Nat} (h0 : X.head = 0) (hn : n ≤ X.log.length) (ho : X.off = false) (hf : X.fused = false) : (decide (X.head ≤ ((n : Nat) : Int)) && decide (((n : Nat) : Int) ≤ X.head + (X.log.length : Nat))) = true ∧ DevP.err X true = 0 ∧ DevP.op X true { X with log := X.log.take (((n : Nat) : Int) - X.head).toNat, sure := min X.sure ((n : Nat) : Int) } = cutD X n := by
  have he : DevP.err X true = 0 := by unfold DevP.err; simp [ho, hf]
  refine ⟨by rw [h0]; simp; omega, he, ?_⟩
  unfold DevP.op cutD
  rw [if_pos he, h0]
  simp
set_option maxRecDepth 100000 in
set_option maxHeartbeats 8000000 in
theorem load_any (B0 d : Nat) (bs : List Nat) (lim : Int) (X : DevX) (K : List RecX) (cut j : Nat) (w : World) (hD : DevW.Dev w d bs X) (hH : ∀ b ∈ bs, B0 ≤ b) (hB : B0 ≤ w.heap.size) (h1 : 1 ≤ lim) (h2 : lim ≤ 1048576) (hj : RowsP.Whole K cut j) (hK : ∀ x ∈ K, RecP.fits x = true ∧ RecIn x) (hlog : X.log = (RowsP.allB K).take cut) (hcl : cut ≤ (RowsP.allB K).length) (hh0 : X.head = 0) (ho : X.off = false) (hf : X.fused = false) (hsm : DevP.Small X) (hsm2 : DevP.Small (cutD X (RowsP.at_ K j))) (hk : K.length ≤ 1000) (hcb : cut ≤ 100000000) :
    Calls Tryz.prog 6 #[.pointer (some ⟨d, 0, none⟩), .int .i64 lim] w (Loaded d B0 bs (cutD X (RowsP.at_ K j)) lim K j w) := by
  have HD := Lib.hid hD
  have HH := Lib.hid hH
  have HJ := Lib.hid hj
  have HK := Lib.hid hK
  have HLG := Lib.hid hlog
  have HOF := Lib.hid (And.intro ho hf)
  have HH0 := Lib.hid hh0
  have hjk := hj.1
  have hll : X.log.length = cut := by rw [hlog, List.length_take]; omega
  have HLL := Lib.hid hll
  have hat := hj.2.1
  have HAT := Lib.hid hat
  have hd1 : decide (lim < 1) = false := by simp; omega
  have hd2 : decide (1048576 < lim) = false := by simp; omega
  have HSM := Lib.hid hsm
  have HSM2 := Lib.hid hsm2
  clear hD hH hsm hsm2 hj hK hlog ho hf hll hat
  have hmm := @run_makeMap Tryz.prog
  obtain ⟨W0, hW0⟩ : ∃ W, (w.alloc (.map #[] 0)).alloc (.cells #[.pointer (some ⟨d, 0, none⟩), .int .i64 lim, .int .i64 0, .int .i64 0, .map (some w.heap.size), .slice none 0 0] 61) = W := ⟨_, rfl⟩
  refine (callsIn_wide (n := 5)).1 ?_
  refine callsIn_of_wp_marks Tryz.func6 rfl trivial ?_ rfl
  simp only [Tryz.ntmps6, List.size_toArray, List.length_cons, List.length_nil, Nat.reduceAdd, Nat.reduceSub, Array.replicate_succ, Array.replicate_zero, List.push_toArray, List.append_toArray, List.nil_append, List.cons_append]
  have hb00 : Below w.heap.size w W0 := by rw [← hW0]; exact balloc (balloc (bsame w) _) _
  have HZ0 : Hid (W0.heap.size = w.heap.size + 2) := Lib.hid (by rw [← hW0]; simp)
  have hsb : Str W0 (w.heap.size + 1) #[.pointer (some ⟨d, 0, none⟩), .int .i64 lim, .int .i64 0, .int .i64 0, .map (some w.heap.size), .slice none 0 0] := by
    have := Str.new (w.alloc (.map #[] 0)) #[.pointer (some ⟨d, 0, none⟩), .int .i64 lim, .int .i64 0, .int .i64 0, .map (some w.heap.size), .slice none 0 0] 61
    rw [← hW0]; simpa using this
  have hmb : Below (w.alloc (.map #[] 0)).heap.size (w.alloc (.map #[] 0)) W0 := by rw [← hW0]; exact balloc (bsame _) _
  have hm0 : MapM Tryz.prog intK recS 3 W0 w.heap.size 0 [] := (MapM.made (P := Tryz.prog) (S := intK) (E := recS) (kt := 3) w).at_ (hmb.block _ (by simp))
  have hdl := HD.out.lt
  have H0 : Hid (LogIn W0 (w.heap.size + 1) d w.heap.size 0 none 0 0 bs X [] lim 0 0 []) := Lib.hid ⟨hsb, HD.out.below hb00, hm0, OwnE.none_ _ _ _ _, by omega, fun hb => by have := hdl _ hb; omega, fun hb => by have := hdl _ hb; omega, fun a e => by cases e⟩
  have HB0 := Lib.hid hb00
  clear hsb hmb hm0 hb00
  obtain ⟨W1, hW1⟩ : ∃ W, W0.alloc (.cells #[.pointer (some ⟨w.heap.size + 1, 0, none⟩)] 26) = W := ⟨_, rfl⟩
  obtain ⟨HS1, HB1, hw1, hz1⟩ := new1 hW1
  have HZ1 := Lib.hid hz1
  clear hz1
  have H1 := Lib.hid (H0.out.next HB1.out)
  have HC1 := Lib.hid (bstep HB0.out HB1.out)
  gi_wp2_with fail
  refine ⟨trivial, ?_⟩
  refine (callsIn_wide.2 (DevW.head_any W1 H1.out.dev)).mono ?_
  rintro e W2 ⟨rfl, hb2⟩
  rw [HH0.out]
  have HS2 := Lib.hid (HS1.out.next hb2)
  have H2 := Lib.hid (H1.out.next hb2)
  have HC2 := Lib.hid (bstep HC1.out hb2)
  have hwb2 := hb2.size
  clear hb2
  gi_wp2_with fail
  obtain ⟨W3, hW3⟩ : ∃ W, W2.alloc (.cells #[.int .i64 0] 3) = W := ⟨_, rfl⟩
  rw [hW3]
  obtain ⟨HE3, HB3, hw3, hz3⟩ := new1 hW3
  have HZ3 := Lib.hid hz3
  clear hz3
  have HS3 := Lib.hid (HS2.out.next HB3.out)
  have H3 := Lib.hid (H2.out.next HB3.out)
  have HC3 := Lib.hid (bstep HC2.out HB3.out)
  refine ⟨trivial, ?_⟩
  refine (callsIn_wide.2 (DevW.Log_any W3 H3.out.dev HSM.out)).mono ?_
  rintro e W4 ⟨A, n, c, gb, rfl, hO, hgb, hb4⟩
  have HO4 := Lib.hid hO
  have HGB := Lib.hid hgb
  have HE4 := Lib.hid (HE3.out.next hb4)
  have HS4 := Lib.hid (HS3.out.next hb4)
  have H4 := Lib.hid (H3.out.next hb4)
  have HC4 := Lib.hid (bstep HC3.out hb4)
  have hwb4 := hb4.size
  clear hb4 hO hgb
  gi_wp2_with fail
  refine ⟨trivial, ?_⟩
  refine (callsIn_wide.2 (records_any A n c W4)).mono ?_
  rintro e w' ⟨rfl, rfl⟩
  obtain ⟨W5, hW5⟩ : ∃ W, W4.alloc (.cells #[.slice A n c] 32) = W := ⟨_, rfl⟩
  obtain ⟨HR5, HB5, hw5, hz5⟩ := new1 hW5
  have HZ5 := Lib.hid hz5
  clear hz5
  gi_wp2_with fail
  have HF : Hid (LF w.heap.size W5.heap.size B0 (w.heap.size + 1) w.heap.size W0.heap.size W2.heap.size W4.heap.size bs gb.toList) := Lib.hid (by
    have hz0 := HZ0.out
    have hz1 := HZ1.out
    have hz3 := HZ3.out
    have hz5 := HZ5.out
    exact ⟨by omega, hB, fun b hb => ⟨hdl b hb, HH.out b hb⟩, fun b hb => by
    have hg1 := HGB.out b (by simpa using hb)
    have hg2 := HO4.out.lt b (by simpa using hb)
    refine ⟨by omega, by omega, by omega, by omega, by omega, by omega⟩, by omega, by omega, by omega, by omega, by omega, by omega, by omega, by omega⟩)
  have HSEQ : Hid (SeqT Fence.wide 4 Tryz.prog 33 #[.pointer (some ⟨W4.heap.size, 0, none⟩)] (fun x : Int × Array Value => #[.int .i64 x.1, .agg x.2]) (fun B C => B.grownBy C (some W4.heap.size)) (EyR K j) (KpR W4.heap.size gb.toList) (fun xs => xs.length = j) W5) := Lib.hid (records_seqT 4 (by omega) W4.heap.size n c A gb.toList K cut j HJ.out HK.out W5 HR5.out (by rw [← HLG.out]; exact (HO4.out.next HB5.out).bytes) (fun hn a e => by
    obtain ⟨x1, x2, x3, (⟨x4, -⟩ | ⟨g, o, cur, T, x5, x6, -⟩)⟩ := HO4.out
    · omega
    · rw [x6] at e; cases e; simp [x5]) (fun b hb => (HF.out.gl b hb).2.2.2.2.2))
  have HI5 : Hid (LI w W5.heap.size B0 (w.heap.size + 1) d w.heap.size W0.heap.size W2.heap.size W4.heap.size bs X lim K 0 none 0 [] W5) := Lib.hid ⟨by simpa [RowsP.ends] using H4.out.next HB5.out, (fun a e => by cases e), by rw [RowsP.at_zero]; exact HE4.out.next HB5.out, HS4.out.next HB5.out, ⟨rfl, fun k p x hp hx => by simp at hx⟩, Reg.KeepB.of (bstep HC4.out HB5.out), (bstep HC4.out HB5.out).mono hB, Nat.le_refl _⟩
  have hM5 : w.heap.size ≤ W5.heap.size := HF.out.n
  clear H0 H1 H2 H3 H4 HB0 HS1 HB1 HC1 HS2 HC2 HE3 HB3 HS3 HC3 HE4 HS4 HC4 HR5 HB5 hW0 hW1 hW3 hW5
  apply range_turn rfl (by omega) (gf := 33) (lb := #[.pointer (some ⟨W4.heap.size, 0, none⟩)]) rfl trivial (enters_of Tryz.func33 (by kernel_rfl) rfl)
    HSEQ.out (fun hg => tools_of hg.size fun k hk hlt => .inl (hg.block k hlt (fun e => by injection e with e; have := HF.out.g.2; omega))) (fun h k => h.trans k) ?hKb (fun _ => rfl)
    (fun pre W => ∃ A c L, LI w W5.heap.size B0 (w.heap.size + 1) d w.heap.size W0.heap.size W2.heap.size W4.heap.size bs X lim K pre.length A c L W)
    (LX w W5.heap.size B0 (w.heap.size + 1) d w.heap.size W0.heap.size W2.heap.size W4.heap.size bs X lim K j (fun x xb => { tmps := #[.pointer (some ⟨d, 0, none⟩), .int .i64 lim, undef, undef, .pointer none, .int .i64 0, .pointer (some ⟨W0.heap.size, 0, none⟩), .pointer (some ⟨W2.heap.size, 0, none⟩), .int .i64 x.1, .pointer (some ⟨xb, 0, none⟩), undef, .pointer (some ⟨d, 0, none⟩), .bool false, .int .i64 lim, .bool false, .bool false, .int .i64 lim, .bool false, .bool false, .pointer (some ⟨d, 0, none⟩), .int .i64 lim, .map (some w.heap.size), .agg #[.pointer (some ⟨d, 0, none⟩), .int .i64 lim, .int .i64 0, .int .i64 0, .map (some w.heap.size), .slice none 0 0], .pointer (some ⟨w.heap.size + 1, 0, none⟩), .pointer (some ⟨d, 0, none⟩), .int .i64 0, .pointer (some ⟨d, 0, none⟩), .slice A n c, .func (.func 33) #[] #[.pointer (some ⟨W4.heap.size, 0, none⟩)], .int .i64 x.1, .agg x.2, undef, undef, undef, undef, undef, undef, undef, undef, undef, undef, undef, undef, undef, undef, undef, undef, undef, undef, undef], defers := [] }))
    (fun pre B C ⟨A, c, L, h⟩ hg => ⟨A, c, L, h.turn HF.out hg⟩) (fun pre W l r r' hM hl ⟨A, c, L, h⟩ => ⟨A, c, L, h.loop HF.out hl hM _⟩) (fun pre x a' W l r r' hM hl h => h.loop HF.out hl hM r')
    (fun W hb => ⟨none, 0, [], HI5.out.next HF.out hb⟩) ?assign ?body ?done
  case hKb =>
    intro W l r r' hle hl
    have hg := grownBy_putObj' W l (.loop r')
    have hlt := (Array.getElem?_eq_some_iff.1 hl).1
    refine ⟨hg.block _ (by have := HF.out.g.2; omega) (fun e => by injection e with e; have := HF.out.g.2; omega), fun b hb => ?_⟩
    have h2 := (HF.out.gl b hb).2.1
    exact hg.block _ (by omega) (fun e => by injection e with e; omega)
  case assign =>
    rintro l pre ⟨x1, x2⟩ V W ⟨A6, c6, L6, hI⟩ hg ⟨y, hy, hlt, hx1, hsz, hrel⟩
    have hI6 := hI.turn HF.out hg
    have hrel2 : RecE.rel (hideL W (LS (w.heap.size + 1) w.heap.size W2.heap.size W4.heap.size bs A6)) W.heap.size x2.toList y := RecE.sub (above_hideL_ (fun b hb => by
      have hup := hI.up
      rcases of_LS hb with e | e | e | e | e | ⟨a, e1, e2⟩
      · have := HF.out.l.2; omega
      · have := HF.out.m.2; omega
      · have := HF.out.e.2; omega
      · have := HF.out.g.2; omega
      · have := (HF.out.bl b e).1; omega
      · have := IntE.lt hI.log.row a e1; omega)) hrel
    obtain ⟨Q1, q1, s1, Q2, q2, s2, hx2, -⟩ := hrel
    have hx2' : x2 = (recV y Q1 q1 s1 Q2 q2 s2).toArray := by rw [← hx2]
    obtain ⟨kd, tx, pv, nx, l0, ⟨pact, puk, ⟨pst, pk, ⟨pkd, pda, plo, phi, pva⟩⟩, pun⟩⟩ := y
    have hx3 : x2 = #[.int .i64 kd, .int .i64 tx, .int .i64 pv, .int .i64 nx, .slice Q1 q1 s1, .int .i64 pact, .string puk, .int .i64 pst, .string pk, .int .i64 pkd, .slice Q2 q2 s2, .int .i64 plo, .int .i64 phi, .int .i64 pva, .int .i64 pun] := hx2'
    subst hx3
    clear hx2 hx2'
    obtain ⟨W6, hW6⟩ : ∃ V, W.alloc (.cells #[.int .i64 0, .int .i64 0, .int .i64 0, .int .i64 0, .slice none 0 0, .int .i64 0, .string ⟨#[]⟩, .int .i64 0, .string ⟨#[]⟩, .int .i64 0, .slice none 0 0, .int .i64 0, .int .i64 0, .int .i64 0, .int .i64 0] 40) = V := ⟨_, rfl⟩
    obtain ⟨HS6, HB6, hw6, hz6⟩ := new1 hW6
    have hl6 := HS6.out.lt
    have g6 := str15 HS6.out
    have gf := fun j => HS6.out.frozen j
    obtain ⟨W8, hW8⟩ : ∃ V, (((((((((((((((W6).setCell ⟨W.heap.size, 0, none⟩ (.int .i64 kd)).setCell ⟨W.heap.size, 1, none⟩ (.int .i64 tx)).setCell ⟨W.heap.size, 2, none⟩ (.int .i64 pv)).setCell ⟨W.heap.size, 3, none⟩ (.int .i64 nx)).setCell ⟨W.heap.size, 4, none⟩ (.slice Q1 q1 s1)).setCell ⟨W.heap.size, 5, none⟩ (.int .i64 pact)).setCell ⟨W.heap.size, 6, none⟩ (.string puk)).setCell ⟨W.heap.size, 7, none⟩ (.int .i64 pst)).setCell ⟨W.heap.size, 8, none⟩ (.string pk)).setCell ⟨W.heap.size, 9, none⟩ (.int .i64 pkd)).setCell ⟨W.heap.size, 10, none⟩ (.slice Q2 q2 s2)).setCell ⟨W.heap.size, 11, none⟩ (.int .i64 plo)).setCell ⟨W.heap.size, 12, none⟩ (.int .i64 phi)).setCell ⟨W.heap.size, 13, none⟩ (.int .i64 pva)).setCell ⟨W.heap.size, 14, none⟩ (.int .i64 pun) = V := ⟨_, rfl⟩
    have hg8 : W6.grownBy W8 (some W.heap.size) := by rw [← hW8]; exact grown_set (grown_set (grown_set (grown_set (grown_set (grown_set (grown_set (grown_set (grown_set (grown_set (grown_set (grown_set (grown_set (grown_set (grown_set (grown_refl W6 _) 0 _) 1 _) 2 _) 3 _) 4 _) 5 _) 6 _) 7 _) 8 _) 9 _) 10 _) 11 _) 12 _) 13 _) 14 _
    have hS8 : Str W8 W.heap.size #[.int .i64 kd, .int .i64 tx, .int .i64 pv, .int .i64 nx, .slice Q1 q1 s1, .int .i64 pact, .string puk, .int .i64 pst, .string pk, .int .i64 pkd, .slice Q2 q2 s2, .int .i64 plo, .int .i64 phi, .int .i64 pva, .int .i64 pun] := by
      have := (((((((((((((((HS6.out).set 0 (.int .i64 kd)).set 1 (.int .i64 tx)).set 2 (.int .i64 pv)).set 3 (.int .i64 nx)).set 4 (.slice Q1 q1 s1)).set 5 (.int .i64 pact)).set 6 (.string puk)).set 7 (.int .i64 pst)).set 8 (.string pk)).set 9 (.int .i64 pkd)).set 10 (.slice Q2 q2 s2)).set 11 (.int .i64 plo)).set 12 (.int .i64 phi)).set 13 (.int .i64 pva)).set 14 (.int .i64 pun)
      rw [← hW8]; simpa using this
    have hb8 : Below W.heap.size W W8 := below_grown HB6.out hg8 (Nat.le_refl _)
    have hI8 := hI6.next HF.out hb8
    have HFIN : Hid (Tools W5.heap.size W W8 ∧ KpR W4.heap.size gb.toList W W8) := Lib.hid ⟨tools_next hb8, hb8.block _ (by have := HF.out.g.2; have := hI6.up; omega), fun b hb => hb8.block _ (by have := (HF.out.gl b hb).2.1; have := hI6.up; omega)⟩
    have HI8 := Lib.hid hI8
    have HRL : Hid (RecE.rel (hideL W8 (LS (w.heap.size + 1) w.heap.size W2.heap.size W4.heap.size bs A6)) W8.heap.size (#[.int .i64 kd, .int .i64 tx, .int .i64 pv, .int .i64 nx, .slice Q1 q1 s1, .int .i64 pact, .string puk, .int .i64 pst, .string pk, .int .i64 pkd, .slice Q2 q2 s2, .int .i64 plo, .int .i64 phi, .int .i64 pva, .int .i64 pun] : Array Value).toList ⟨kd, tx, pv, nx, l0, ⟨pact, puk, ⟨pst, pk, ⟨pkd, pda, plo, phi, pva⟩⟩, pun⟩⟩) := Lib.hid (RecE.more hb8.size (RecE.sub (hideL_below _ hb8) hrel2))
    have HS8 := Lib.hid hS8
    have HUP : Hid (W5.heap.size ≤ W.heap.size ∧ ∀ a, A6 = some a → a.block ≠ W.heap.size) := Lib.hid ⟨hI6.up, fun a e => by have := IntE.lt hI6.log.row a e; omega⟩
    have HYK := Lib.hid hy
    have HLT := Lib.hid hlt
    have HX1 := Lib.hid hx1
    clear hI hI6 hI8 hb8 hS8 hg8 hrel2 hy hlt hx1 hg hsz hz6
    obtain ⟨xb, hxb⟩ : ∃ xb, W.heap.size = xb := ⟨_, rfl⟩
    rw [hxb] at hW8 hl6 g6 gf HS8 HUP HS6
    gi_wp2
    exact ⟨HFIN.out.1, HFIN.out.2, A6, c6, L6, _, xb, HI8.out, HYK.out, HLT.out, HX1.out, HRL.out, HUP.out.1, HUP.out.2, HS8.out, rfl⟩
  case body =>
    rintro l pre ⟨x1, x2⟩ a' W ⟨A6, c6, L6, y, xb, hI, hy, hlt, hx1, hrel, hxM, hxA, hs, rfl⟩
    have HRL := Lib.hid hrel
    have HYK := Lib.hid hy
    have HLT := Lib.hid hlt
    obtain ⟨Q1, q1, s1, Q2, q2, s2, hx2, -⟩ := hrel
    have hx2' : x2 = (recV y Q1 q1 s1 Q2 q2 s2).toArray := by rw [← hx2]
    obtain ⟨kd, tx, pv, nx, l0, ⟨pact, puk, ⟨pst, pk, ⟨pkd, pda, plo, phi, pva⟩⟩, pun⟩⟩ := y
    have hx3 : x2 = #[.int .i64 kd, .int .i64 tx, .int .i64 pv, .int .i64 nx, .slice Q1 q1 s1, .int .i64 pact, .string puk, .int .i64 pst, .string pk, .int .i64 pkd, .slice Q2 q2 s2, .int .i64 plo, .int .i64 phi, .int .i64 pva, .int .i64 pun] := hx2'
    subst hx3
    clear hx2 hx2'
    obtain ⟨k, hk0⟩ : ∃ k, pre.length = k := ⟨_, rfl⟩
    rw [hk0] at hI hy hlt
    have HK0 := Lib.hid hk0
    have hkb : k ≤ 1000 := by omega
    have hn := RowsP.at_next hy
    have he1 : RowsP.at_ K (k + 1) ≤ cut := Nat.le_trans (RowsP.at_mono hlt) HAT.out
    obtain ⟨e1, hee⟩ : ∃ e, RowsP.at_ K (k + 1) = e := ⟨_, rfl⟩
    obtain ⟨e0, hee0⟩ : ∃ e, RowsP.at_ K k = e := ⟨_, rfl⟩
    obtain ⟨n1, hnn⟩ : ∃ e, (RecP.bytes ⟨kd, tx, pv, nx, l0, ⟨pact, puk, ⟨pst, pk, ⟨pkd, pda, plo, phi, pva⟩⟩, pun⟩⟩).length = e := ⟨_, rfl⟩
    rw [hee, hee0, hnn] at hn
    rw [hee] at he1
    dsimp only at hx1
    rw [hnn] at hx1
    subst hx1
    have h64 : In64 ((e0 : Int) + (n1 : Int)) := ⟨by omega, by omega⟩
    have HSU : Hid ((e0 : Int) + (n1 : Int) = (e1 : Int)) := Lib.hid (by omega)
    have hebs := hI.ebs
    rw [hee0] at hebs
    obtain ⟨V1, hV1⟩ : ∃ V, W.setCell ⟨W2.heap.size, 0, none⟩ (.int .i64 ((e0 : Int) + (n1 : Int))) = V := ⟨_, rfl⟩
    have hg : W.grownBy V1 (some W2.heap.size) := by rw [← hV1]; exact grown_set (grown_refl W _) 0 _
    have hev : Str V1 W2.heap.size #[.int .i64 ((e0 : Int) + (n1 : Int))] := by have := hebs.set 0 (.int .i64 ((e0 : Int) + (n1 : Int))); rw [← hV1]; simpa using this
    have hup := hI.up
    have f1 := HF.out.d1
    have f2 := HF.out.d2
    have f3 := HF.out.d3
    have f4 := HF.out.e
    have hlg : LogIn V1 (w.heap.size + 1) d w.heap.size k A6 k c6 bs X L6 lim 0 0 (RowsP.ends (K.take k)) := hI.log.other hg (fun e => f1.1 e.symm) (fun e => f2.1 e.symm) (fun hm => by have := (HF.out.bl _ hm).1; omega) (fun a e => by have := hI.hi a e; omega)
    have hlx := hI.lx.grown hg (fun e => f3.2.1 e.symm)
    have hxb := hs.grown hg (by omega)
    have HRC : Hid (LogR V1 (LS (w.heap.size + 1) w.heap.size W2.heap.size W4.heap.size bs A6) (MapP.put (MapP.ltK intK) L6 ((e0 : Int) + (n1 : Int)) #[.int .i64 kd, .int .i64 tx, .int .i64 pv, .int .i64 nx, .slice Q1 q1 s1, .int .i64 pact, .string puk, .int .i64 pst, .string pk, .int .i64 pkd, .slice Q2 q2 s2, .int .i64 plo, .int .i64 phi, .int .i64 pva, .int .i64 pun]) (RowsP.ends (K.take k) ++ [((e0 : Int) + (n1 : Int))]) (K.take k ++ [⟨kd, tx, pv, nx, l0, ⟨pact, puk, ⟨pst, pk, ⟨pkd, pda, plo, phi, pva⟩⟩, pun⟩⟩])) := Lib.hid ((hI.rec_.grown hg (by simp [LS])).add hI.log.map.nd (fun p hp => by rw [HSU.out, ← hee]; exact RowsP.ends_lt (fun x hx => (HK.out x hx).1) (Nat.lt_of_lt_of_le hlt HJ.out.1) p hp) (RecE.more hg.size (RecE.sub (sub_grown hg (by simp [LS])) HRL.out)))
    have HI := Lib.hid hI
    have HG := Lib.hid hg
    have HEV := Lib.hid hev
    have HLG1 := Lib.hid hlg
    have HHI : Hid (Hi B0 (w.heap.size + 1) w.heap.size A6 bs) := Lib.hid ⟨by omega, hB, fun a e => by have := hI.hi a e; omega, HH.out⟩
    have hsV := hg.size
    have hB0V : B0 ≤ V1.heap.size := by omega
    have u0 := str1 hebs
    have u0l := hebs.lt
    have u0f := fun j => hebs.frozen j
    have u1 := str1 hlx
    have u1l := hlx.lt
    have u2 := str15 hxb
    have u2l := hxb.lt
    have u3 := str1 hev
    have u3l := hev.lt
    have HE1 := Lib.hid hee
    clear hI hg hev hlg hlx hxb hs hebs hy hlt hk0 hee hee0 hnn f1 f2 f3 f4
    dsimp only
    gi_wp2_with fail
    refine ⟨trivial, ?_⟩
    refine (callsIn_wide.2 (add_any B0 kd tx pv nx Q1 q1 s1 pact puk pst pk pkd Q2 q2 s2 plo phi pva pun ((e0 : Int) + (n1 : Int)) V1 HLG1.out HHI.out hB0V h64 (by unfold maxLen; omega) (by omega))).mono ?_
    rintro e V2 ⟨rfl, hb2, A7, c7, hl2, -, ho2⟩
    have hy := HYK.out
    rw [HK0.out] at hy
    have hR := HI.out.round HF.out hy HG.out (by rw [HE1.out, ← HSU.out]; exact HEV.out) hb2 (by rw [HE1.out, ← HSU.out]; exact hl2) ho2 (by rw [HE1.out, ← HSU.out]; exact HRC.out)
    have HRF := Lib.hid hR
    clear hR hy hb2 hl2 ho2 u0 u0l u0f u1 u1l u2 u2l u3 u3l
    gi_wp2_with fail
    exact ⟨HRF.out.2.1, HRF.out.2.2, A7, c7, _, by rw [HK0.out]; exact HRF.out.1⟩
  case done =>
    rintro D xs W6 hDD hS ⟨A6, c6, L6, hI⟩ hK
    rw [hS] at hI
    have HI6 := Lib.hid hI
    have HKD := Lib.hid hK
    have hD6 := (Array.getElem?_eq_some_iff.1 hK).1
    have HNA : Hid (∀ a, A6 = some a → a.block ≠ D ∧ a.block < W6.heap.size) := Lib.hid (fun a e => by
      refine ⟨fun e2 => ?_, IntE.lt hI.log.row a e⟩
      obtain ⟨x1, ⟨x2, -⟩ | ⟨g, cap, cur, x3, x4, x5, x6⟩⟩ := IntE.own hI.log.row
      · cases x2; cases e
      · cases x3; cases e
        dsimp only at e2
        rw [e2, hK] at x5
        cases x5)
    have hco := cut_op (X := X) (n := RowsP.at_ K j) HH0.out (by rw [HLL.out]; exact HAT.out) HOF.out.1 HOF.out.2
    have HEV : Hid ((cutD X (RowsP.at_ K j)).head + (((cutD X (RowsP.at_ K j)).log.length : Nat) : Int) = ((RowsP.at_ K j : Nat) : Int)) := Lib.hid (by
      show X.head + (((X.log.take (RowsP.at_ K j)).length : Nat) : Int) = _
      have h1 := HAT.out
      have h2 := HLL.out
      rw [HH0.out, List.length_take]
      omega)
    have HCO := Lib.hid hco
    have hej1 := HAT.out
    obtain ⟨ej, hej⟩ : ∃ e, RowsP.at_ K j = e := ⟨_, rfl⟩
    have HEJ := Lib.hid hej
    have hebs := hI.ebs
    rw [hej] at hebs HCO HEV HSM2 hej1 ⊢
    have u0 := str1 hebs
    have u0l := hebs.lt
    have u1 := str1 hI.lx
    have u1l := hI.lx.lt
    clear hI hK hco hej hebs
    gi_wp2_with fail
    refine ⟨trivial, ?_⟩
    refine (callsIn_wide.2 (DevW.Cut_any (ej : Int) W6 HI6.out.log.dev HSM.out)).mono ?_
    rintro e W7 ⟨rfl, bs7, hD7, hn7, hk7⟩
    rw [HCO.out.1, HCO.out.2.2] at hD7
    rw [HCO.out.1, HCO.out.2.1]
    have hw7 := hk7.size
    have HN7 := Lib.hid hn7
    have hwN := HI6.out.kp.size
    have hxb := HF.out.x
    have hDN : w.heap.size ≤ D := Nat.le_trans HF.out.n hDD
    have HKP7 := Lib.hid (HI6.out.kp.trans hk7 hwN)
    have HK7 : Hid (W7.heap[D]? = some (.deferred (some []))) := Lib.hid ((hk7.block D hD6 (fun hm => by have := hdl _ hm; omega)).trans HKD.out)
    have H7 := Lib.hid (HI6.out.log.told hD7 hn7 hk7)
    have HRC7 : Hid (LogR W7 (LS (w.heap.size + 1) w.heap.size W2.heap.size W4.heap.size bs A6) L6 (RowsP.ends (K.take j)) (K.take j)) := Lib.hid (HI6.out.rec_.sub hk7.size (hideL_sub_of fun k hk hn => ⟨hn, hk7.block k hk (not_LS hn).2.2.2.2.1⟩))
    have hlx7 := HI6.out.lx.keepB hk7 (fun hm => by have := hdl _ hm; omega)
    have s7 : W7.cell? ⟨W0.heap.size, 0, none⟩ = some (.pointer (some ⟨w.heap.size + 1, 0, none⟩)) := by simpa using hlx7.cell 0
    have lt7 : W0.heap.size < W7.heap.size := hlx7.lt
    clear hD7 hn7 hk7 hlx7 u0 u0l u1
    gi_wp2_with fail
    refine wpIn_wide.2 ?_
    refine Reg.wp_region_tail (R := ext) (W := W7) [Reg.eqv (.pointer (some ⟨w.heap.size + 1, 0, none⟩)), Reg.eqv (.pointer (some ⟨w.heap.size + 1, 0, none⟩)), Reg.eqv (.int .i64 (ej : Int)), Reg.eqv (.pointer (some ⟨w.heap.size + 1, 0, none⟩)), Reg.eqv (.pointer (some ⟨w.heap.size + 1, 3, none⟩))] 50 5 _ [[(6, none)], [(6, none)], [(45, some 1)], [(44, some 0)], [(47, some 3)]] rfl (by kernel_rfl) (by kernel_rfl) (by rfl) (by rfl) rfl (by kernel_rfl) ?_ [some 44, some 45, some 46, some 47, some 48] (by kernel_rfl) ?_
    · refine ⟨?_, ?_, ?_, ?_, ?_, trivial⟩
      · intro ax wx hx hs
        obtain ⟨e6, -⟩ := hs
        have g6 := Reg.ev (v := .pointer (some ⟨W0.heap.size, 0, none⟩)) e6
        have l0 := ((show Below W7.heap.size W7 wx from hx).cell (p := ⟨W0.heap.size, 0, none⟩) lt7).trans s7
        exact Reg.obl_free rfl (Reg.wp_eqv (Option.some_ne_none _) (by go_simp) rfl)
      · intro ax wx hx hs
        obtain ⟨e6, -⟩ := hs
        have g6 := Reg.ev (v := .pointer (some ⟨W0.heap.size, 0, none⟩)) e6
        have l0 := ((show Below W7.heap.size W7 wx from hx).cell (p := ⟨W0.heap.size, 0, none⟩) lt7).trans s7
        exact Reg.obl_free rfl (Reg.wp_eqv (Option.some_ne_none _) (by go_simp) rfl)
      · intro ax wx hx hs
        obtain ⟨e45, -⟩ := hs
        have g45 := Reg.ev (v := .pointer (some ⟨w.heap.size + 1, 0, none⟩)) e45
        refine Reg.obl_free rfl ?_
        have hx' : Below W7.heap.size W7 wx := hx
        go_simp
        refine (end_any wx (H7.out.next hx') HSM2.out).mono ?_
        rintro e wy ⟨rfl, hby⟩
        rw [HEV.out]
        exact Reg.done (Option.some_ne_none _) rfl hby
      · intro ax wx hx hs
        obtain ⟨e44, -⟩ := hs
        have g44 := Reg.ev (v := .pointer (some ⟨w.heap.size + 1, 0, none⟩)) e44
        exact Reg.obl_free rfl (Reg.wp_eqv (Option.some_ne_none _) (by go_simp) rfl)
      · intro ax wx hx hs
        obtain ⟨e47, -⟩ := hs
        have g47 := Reg.ev (v := .pointer (some ⟨w.heap.size + 1, 0, none⟩)) e47
        exact Reg.obl_free rfl (Reg.wp_eqv (Option.some_ne_none _) (by go_simp) rfl)
    · intro W8 hwf
      simp only [Reg.Fin]
      rintro _ rfl _ rfl _ rfl _ rfl _ rfl
      have hwf' : Below W7.heap.size W7 W8 := hwf
      have H8 := Lib.hid (H7.out.next hwf')
      have s8 := (hwf'.cell (p := ⟨W0.heap.size, 0, none⟩) lt7).trans s7
      have HX8 : Hid (Str W8 (w.heap.size + 1) #[.pointer (some ⟨d, 0, none⟩), .int .i64 lim, .int .i64 0, .int .i64 0, .map (some w.heap.size), .slice A6 j c6]) := Lib.hid H8.out.box
      have gx := strL HX8.out
      have gfx := fun j => HX8.out.frozen j
      have hlx := HX8.out.lt
      have HK8 : Hid (W8.heap[D]? = some (.deferred (some []))) := Lib.hid ((hwf'.block D (by omega)).trans HK7.out)
      have HRC8 := Lib.hid (HRC7.out.next hwf')
      have hw8 := hwf'.size
      have HKP8 := Lib.hid (HKP7.out.step hwf' (by omega))
      clear hwf hwf'
      refine Reg.Goal.mk ?_
      go_simp
      gi_wp2_with fail
      have hg9 : W8.grownBy (W8.setCell ⟨w.heap.size + 1, 3, none⟩ (.int .i64 (ej : Int))) (some (w.heap.size + 1)) := grown_set (grown_refl W8 _) 3 _
      have hL9 := H8.out.turn (lim' := lim) (kept' := 0) (forced' := (ej : Int)) hg9 (by have := HX8.out.set 3 (.int .i64 (ej : Int)); simpa [logC] using this)
      have hk9 := (hg9.block D (by omega) (fun e => by injection e with e; have := HF.out.l.2; omega)).trans HK8.out
      have hgd := grownBy_putObj' (W8.setCell ⟨w.heap.size + 1, 3, none⟩ (.int .i64 (ej : Int))) D (.deferred none)
      have hbs7 : ∀ b ∈ bs7, D ≠ b ∧ (b ∈ bs ∨ w.heap.size ≤ b) := fun b hb => by rcases HN7.out b hb with h | h; (have := hdl _ h; exact ⟨by omega, .inl h⟩); exact ⟨by omega, .inr (by omega)⟩
      refine ⟨by simp, .inl ⟨_, _, rfl, run_takeDeferred hk9, ?_⟩⟩
      refine ⟨.tuple #[.pointer (some ⟨w.heap.size + 1, 0, none⟩), .int .i64 0], by simp [results, Tryz.results6, go_sem, *], w.heap.size + 1, w.heap.size, A6, c6, bs7, L6, rfl, ?_, ?_, ?_, by omega, by omega, fun a e => by have := HI6.out.hi a e; omega, fun b hb => (hbs7 b hb).2⟩
      · exact (HKP8.out.grown hg9 (by omega) (.inl (by omega))).grown hgd (by have := hg9.size; omega) (.inl hDN)
      · rw [HEJ.out]
        exact hL9.other hgd (by have := HF.out.l.2; omega) (by have := HF.out.m.2; omega) (fun hm => (hbs7 D hm).1 rfl) (fun a e => (HNA.out a e).1)
      · exact ((HRC8.out.grown hg9 (by simp [LS])).sub hgd.size (sub_mark hk9 _)).plain
end Go.Proofs.YtpdfnlhhnodnjaaGreat.WalW
end
section
namespace Go.Proofs.YtpdfnlhhnodnjaaGreat.DevW
open Go.RowKit Go.Maps
set_option linter.unusedVariables false
set_option linter.unusedSimpArgs false
variable {d sb mb : Nat} {bp bs : List Nat} {gb : Option Nat} {A : Option Addr} {n c nm : Nat} {es : List (Int × SlV)} {X : DevX}
def clrSem (ts : Array TypeId) (ty : TypeId) (args : Array Value) : Sem Value := Builtin.clear_ ts ty args
theorem clr_fold (ts : Array TypeId) (ty : TypeId) (args : Array Value) : Builtin.clear_ ts ty args = clrSem ts ty args := rfl
attribute [local go_sem ↓] ldPage_fold stPage_fold clr_fold
theorem key_inv {key : Value} {kl : Lit} (h : keyOf Tryz.prog 3 key = some kl) : ∃ x : Int, key = .int .i64 x := by
  obtain ⟨x, rfl, _⟩ := Maps.keyOf_int_inv Tryz.underlying3 h
  exact ⟨x, rfl⟩
end Go.Proofs.YtpdfnlhhnodnjaaGreat.DevW
end
section
namespace Go.Proofs.YtpdfnlhhnodnjaaGreat
open Go.Shelf Go.RowKit
def lays189_ren : Ren where
  f x := match x with
    | 189 => 26
    | 125 => 51
    | 257 => 50
    | 128 => 80
    | 129 => 81
    | 294 => 71
    | 295 => 72
    | 296 => 73
    | 297 => 74
    | 298 => 75
    | 299 => 76
    | 216 => 77
    | 300 => 78
    | 301 => 79
    | 328 => 99
    | 329 => 100
    | 330 => 101
    | 331 => 102
    | 332 => 103
    | 215 => 104
    | 343 => 114
    | n => n
  t x := match x with
    | 28 => 46
    | 3 => 3
    | 46 => 101
    | 0 => 0
    | 51 => 120
    | 53 => 131
    | 4 => 4
    | 183 => 124
    | 182 => 123
    | 131 => 104
    | 5 => 5
    | 9 => 9
    | 218 => 147
    | 222 => 151
    | 228 => 165
    | 229 => 166
    | n => n
  g x := x
theorem lays189 : Lays.n189 Tryz.prog lays189_ren where
  mixed := rfl
  f125 := Tryz.func51.trans (by kernel_rfl)
  f128 := Tryz.func80.trans (by kernel_rfl)
  f129 := Tryz.func81.trans (by kernel_rfl)
  f189 := Tryz.func26.trans (by kernel_rfl)
  f215 := Tryz.func104.trans (by kernel_rfl)
  f216 := Tryz.func77.trans (by kernel_rfl)
  f257 := Tryz.func50.trans (by kernel_rfl)
  f294 := Tryz.func71.trans (by kernel_rfl)
  f295 := Tryz.func72.trans (by kernel_rfl)
  f296 := Tryz.func73.trans (by kernel_rfl)
  f297 := Tryz.func74.trans (by kernel_rfl)
  f298 := Tryz.func75.trans (by kernel_rfl)
  f299 := Tryz.func76.trans (by kernel_rfl)
  f300 := Tryz.func78.trans (by kernel_rfl)
  f301 := Tryz.func79.trans (by kernel_rfl)
  f328 := Tryz.func99.trans (by kernel_rfl)
  f329 := Tryz.func100.trans (by kernel_rfl)
  f330 := Tryz.func101.trans (by kernel_rfl)
  f331 := Tryz.func102.trans (by kernel_rfl)
  f332 := Tryz.func103.trans (by kernel_rfl)
  f343 := Tryz.func114.trans (by kernel_rfl)
  t0 := Tryz.underlying0
  a0 := Tryz.isAgg0
  z0 := Tryz.sizeOf0
  v0 := Tryz.zeroValue0
  t3 := Tryz.underlying3
  a3 := Tryz.isAgg3
  z3 := Tryz.sizeOf3
  v3 := Tryz.zeroValue3
  t4 := Tryz.underlying4
  a4 := Tryz.isAgg4
  z4 := Tryz.sizeOf4
  v4 := Tryz.zeroValue4
  t5 := Tryz.underlying5
  a5 := Tryz.isAgg5
  z5 := Tryz.sizeOf5
  v5 := Tryz.zeroValue5
  t9 := Tryz.underlying9
  a9 := Tryz.isAgg9
  z9 := Tryz.sizeOf9
  v9 := Tryz.zeroValue9
  t28 := Tryz.underlying46
  a28 := Tryz.isAgg46
  z28 := Tryz.sizeOf46
  v28 := Tryz.zeroValue46
  t46 := Tryz.underlying101
  a46 := Tryz.isAgg101
  z46 := Tryz.sizeOf101
  v46 := Tryz.zeroValue101
  t51 := Tryz.underlying120
  a51 := Tryz.isAgg120
  z51 := Tryz.sizeOf120
  v51 := Tryz.zeroValue120
  t53 := Tryz.underlying131
  a53 := Tryz.isAgg131
  z53 := Tryz.sizeOf131
  v53 := Tryz.zeroValue131
  t131 := Tryz.underlying104
  a131 := Tryz.isAgg104
  z131 := Tryz.sizeOf104
  v131 := Tryz.zeroValue104
  t182 := Tryz.underlying123
  a182 := Tryz.isAgg123
  z182 := Tryz.sizeOf123
  v182 := Tryz.zeroValue123
  t183 := Tryz.underlying124
  a183 := Tryz.isAgg124
  z183 := Tryz.sizeOf124
  v183 := Tryz.zeroValue124
  t218 := Tryz.underlying147
  a218 := Tryz.isAgg147
  z218 := Tryz.sizeOf147
  v218 := Tryz.zeroValue147
  t222 := Tryz.underlying151
  a222 := Tryz.isAgg151
  z222 := Tryz.sizeOf151
  v222 := Tryz.zeroValue151
  t228 := Tryz.underlying165
  a228 := Tryz.isAgg165
  z228 := Tryz.sizeOf165
  v228 := Tryz.zeroValue165
  t229 := Tryz.underlying166
  a229 := Tryz.isAgg166
  z229 := Tryz.sizeOf166
  v229 := Tryz.zeroValue166
end Go.Proofs.YtpdfnlhhnodnjaaGreat
end
section
namespace Go.Proofs.YtpdfnlhhnodnjaaGreat
open Go.RowKit Go.Maps Go.Shelf Go.Sort
set_option linter.unusedVariables false
set_option linter.unusedSimpArgs false
namespace TxnW
set_option maxRecDepth 100000 in
/-- slices.Sort at a row of the call's own -/
theorem sort_own (A : Option Addr) (m c base : Nat) (ss : List Int) (w : World) (h : OwnE IntE 3 w base A m c ss) (hm : m ≤ 100000) :
    Calls Tryz.prog 26 #[.slice A m c] w fun e w' => e = .returned (.tuple #[]) ∧ OwnE IntE 3 w' base A m c (ss.mergeSort fun x y => decide (x ≤ y)) ∧ w.grownBy w' ((Value.slice A 0 0).ownBlock) := by
  have hlen := h.len
  have ho := IntE.own h
  have hml : (ss.mergeSort fun x y => decide (x ≤ y)).length = m := by rw [List.length_mergeSort]; exact hlen
  by_cases h0 : m = 0
  · subst h0
    have hs : ss = [] := List.eq_nil_of_length_eq_zero hlen
    subst hs
    have := Any.slices_Sort_int_none lays189 A c w
    rw [show lays189_ren.f 189 = 26 from rfl] at this
    refine this.mono ?_
    rintro e w' ⟨rfl, rfl⟩
    exact ⟨rfl, by rw [List.mergeSort_nil]; exact h, World.grownBy.refl _ _⟩
  · rcases ho.2 with ⟨e, hn⟩ | ⟨g, cap, cur, e, hg, hb, hnc, hm2, hcs, hx⟩
    · omega
    · cases e
      rw [Nat.mul_one, ← hlen] at hx
      have hH := holds_of_blockI hb hx
      have hs := Any.slices_Sort_int lays189 g 0 c ss w hH (Array.getElem?_eq_some_iff.1 hb).1 (by omega)
      rw [hlen, show lays189_ren.f 189 = 26 from rfl] at hs
      refine hs.mono ?_
      rintro e w' ⟨rfl, nn, os, rfl⟩
      refine ⟨rfl, IntE.mk' ?_, grownBy_sortedI _⟩
      have := ownsRow_sortedI (ss := ss) (n := nn) (os := os) (ts := ss.mergeSort fun x y => decide (x ≤ y)) (by rw [List.length_mergeSort]) hg hb (by rw [hlen]; exact hnc) hm2 hcs
      rw [hlen] at this
      exact this
end TxnW
end Go.Proofs.YtpdfnlhhnodnjaaGreat
end
