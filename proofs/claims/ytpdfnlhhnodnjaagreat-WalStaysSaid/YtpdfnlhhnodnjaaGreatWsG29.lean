/-
  Parts of the proof of WalStays.
-/
import Derived.Test.YtpdfnlhhnodnjaaGreatWsG25
import Derived.Test.YtpdfnlhhnodnjaaGreatWsG28
import Derived.Test.YtpdfnlhhnodnjaaGreatWsG27
import Derived.Test.YtpdfnlhhnodnjaaGreatWsG23
import Derived.Test.YtpdfnlhhnodnjaaGreatWsG8
import Derived.Test.YtpdfnlhhnodnjaaGreatWsG6
section
namespace Go.Proofs.YtpdfnlhhnodnjaaGreat.WalW
open Go.RowKit Go.Maps RecW
set_option linter.unusedVariables false
theorem above_hideL_ {B : Nat} {w : World} {N : Nat} {hs : List Nat} (hb : ∀ b ∈ hs, b < N) : Sub B (above N w) (hideL w hs) := above_hideL hb
/-- the records of a log, by their places, none of them in these blocks -/
structure LogR (w : World) (S : List Nat) (L : MapP.T Int (Array Value)) (ps : List Int) (K : List RecX) : Prop where
  len : ps.length = K.length
  at_ : ∀ (k : Nat) p x, ps[k]? = some p → K[k]? = some x → ∃ cs, MapP.get L p = some cs ∧ RecE.rel (hideL w S) w.heap.size cs.toList x
theorem LogR.sub {w w' : World} {S S' : List Nat} {L : MapP.T Int (Array Value)} {ps : List Int} {K : List RecX} (h : LogR w S L ps K) (hs : w.heap.size ≤ w'.heap.size) (hb : Sub w.heap.size (hideL w S) (hideL w' S')) : LogR w' S' L ps K :=
  ⟨h.len, fun k p x hp hx => by
    obtain ⟨cs, h1, h2⟩ := h.at_ k p x hp hx
    exact ⟨cs, h1, RecE.more hs (RecE.sub hb h2)⟩⟩
theorem LogR.plain {w : World} {S : List Nat} {L : MapP.T Int (Array Value)} {ps : List Int} {K : List RecX} (h : LogR w S L ps K) : LogR w [] L ps K := h.sub (Nat.le_refl _) (sub_hideL _ _ _)
theorem LogR.next {w w' : World} {S : List Nat} {L : MapP.T Int (Array Value)} {ps : List Int} {K : List RecX} (h : LogR w S L ps K) (hb : Below w.heap.size w w') : LogR w' S L ps K := h.sub hb.size (hideL_below S hb)
theorem sub_grown {w w' : World} {S : List Nat} {r : Nat} (hg : w.grownBy w' (some r)) (hr : r ∈ S) : Sub w.heap.size (hideL w S) (hideL w' S) := hideL_sub_of fun k hk hn => ⟨hn, hg.block k hk (fun e => by injection e with e; subst e; exact hn hr)⟩
theorem LogR.grown {w w' : World} {S : List Nat} {L : MapP.T Int (Array Value)} {ps : List Int} {K : List RecX} {r : Nat} (h : LogR w S L ps K) (hg : w.grownBy w' (some r)) (hr : r ∈ S) : LogR w' S L ps K := h.sub hg.size (sub_grown hg hr)
/-- a block that is no cells turns -/
theorem sub_loop {B : Nat} {w : World} {S : List Nat} {l : Nat} {r : Loop} (hl : w.heap[l]? = some (.loop r)) (o : Obj) : Sub B (hideL w S) (hideL (w.putObj l o) S) := by
  intro p v hp hv
  by_cases hm : p.block ∈ S
  · rw [hideL_in _ p S hm] at hv; cases hv
  · rw [hideL_out _ p S hm] at hv ⊢
    by_cases e : p.block = l
    · exfalso
      rw [← e] at hl
      unfold World.cell? at hv
      rw [hl] at hv
      simp at hv
    · exact (World.cell?_of_block (World.putObj_heap_other e)).trans hv
theorem sub_mark {B : Nat} {w : World} {S : List Nat} {l : Nat} {q : Option (List Deferred)} (hl : w.heap[l]? = some (.deferred q)) (o : Obj) : Sub B (hideL w S) (hideL (w.putObj l o) S) := by
  intro p v hp hv
  by_cases hm : p.block ∈ S
  · rw [hideL_in _ p S hm] at hv; cases hv
  · rw [hideL_out _ p S hm] at hv ⊢
    by_cases e : p.block = l
    · exfalso
      rw [← e] at hl
      unfold World.cell? at hv
      rw [hl] at hv
      simp at hv
    · exact (World.cell?_of_block (World.putObj_heap_other e)).trans hv
theorem LogR.loop {w : World} {S : List Nat} {L : MapP.T Int (Array Value)} {ps : List Int} {K : List RecX} {l : Nat} {r : Loop} (h : LogR w S L ps K) (hl : w.heap[l]? = some (.loop r)) (o : Obj) : LogR (w.putObj l o) S L ps K := h.sub (grownBy_putObj' w l o).size (sub_loop hl o)
/-- a record more, behind all others -/
theorem LogR.add {w : World} {S : List Nat} {L : MapP.T Int (Array Value)} {ps : List Int} {K : List RecX} {p : Int} {cs : Array Value} {x : RecX} (h : LogR w S L ps K) (hn : MapP.Nd L) (hp : ∀ q ∈ ps, q < p) (hx : RecE.rel (hideL w S) w.heap.size cs.toList x) : LogR w S (MapP.put (MapP.ltK intK) L p cs) (ps ++ [p]) (K ++ [x]) := by
  refine ⟨by simp [h.len], fun k q y hq hy => ?_⟩
  rw [MapP.get_put hn]
  by_cases hk : k < ps.length
  · rw [List.getElem?_append_left hk] at hq
    rw [List.getElem?_append_left (by rw [← h.len]; exact hk)] at hy
    rw [if_neg (by have := hp q (List.mem_of_getElem? hq); omega)]
    exact h.at_ k q y hq hy
  · rw [List.getElem?_append_right (by omega)] at hq
    rw [List.getElem?_append_right (by rw [← h.len]; omega), ← h.len] at hy
    have hk0 : k - ps.length = 0 := by
      have := (List.getElem?_eq_some_iff.1 hq).1
      simp at this; omega
    rw [hk0] at hq hy
    cases hq; cases hy
    rw [if_pos rfl]
    exact ⟨cs, rfl, hx⟩
/-- the blocks that turn while a log is read -/
def LS (lb mb eb g0 : Nat) (bs : List Nat) (A : Option Addr) : List Nat := lb :: mb :: eb :: g0 :: (bs ++ (A.map (·.block)).toList)
theorem not_LS {lb mb eb g0 k : Nat} {bs : List Nat} {A : Option Addr} (h : k ∉ LS lb mb eb g0 bs A) : k ≠ lb ∧ k ≠ mb ∧ k ≠ eb ∧ k ≠ g0 ∧ k ∉ bs ∧ ∀ a, A = some a → a.block ≠ k := by
  unfold LS at h
  simp only [List.mem_cons, List.mem_append, not_or] at h
  obtain ⟨h1, h2, h3, h4, h5, h6⟩ := h
  refine ⟨h1, h2, h3, h4, h5, fun a e e2 => h6 ?_⟩
  rw [e, ← e2]; simp
theorem of_LS {lb mb eb g0 k : Nat} {bs : List Nat} {A : Option Addr} (h : k ∈ LS lb mb eb g0 bs A) : k = lb ∨ k = mb ∨ k = eb ∨ k = g0 ∨ k ∈ bs ∨ ∃ a, A = some a ∧ a.block = k := by
  unfold LS at h
  simp only [List.mem_cons, List.mem_append] at h
  rcases h with h | h | h | h | h | h
  · exact .inl h
  · exact .inr (.inl h)
  · exact .inr (.inr (.inl h))
  · exact .inr (.inr (.inr (.inl h)))
  · exact .inr (.inr (.inr (.inr (.inl h))))
  · cases A with
    | none => simp at h
    | some a => simp at h; exact .inr (.inr (.inr (.inr (.inr ⟨a, rfl, h.symm⟩))))
/-- what lies where -/
structure LF (N M B0 lb mb lx eb g0 : Nat) (bs gs : List Nat) : Prop where
  n : N ≤ M
  b0 : B0 ≤ N
  bl : ∀ b ∈ bs, b < N ∧ B0 ≤ b
  gl : ∀ b ∈ gs, N ≤ b ∧ b < M ∧ b ≠ lb ∧ b ≠ mb ∧ b ≠ eb ∧ b ≠ g0
  l : N ≤ lb ∧ lb < M
  m : N ≤ mb ∧ mb < M
  x : N ≤ lx ∧ lx < M
  e : N ≤ eb ∧ eb < M
  g : N ≤ g0 ∧ g0 < M
  d1 : lb ≠ eb ∧ lb ≠ g0 ∧ lb ≠ lx
  d2 : mb ≠ eb ∧ mb ≠ g0 ∧ mb ≠ lx
  d3 : eb ≠ g0 ∧ eb ≠ lx ∧ g0 ≠ lx
/-- a log that is being read -/
structure LI (w : World) (M B0 lb d mb lx eb g0 : Nat) (bs : List Nat) (X : DevX) (lim : Int) (K : List RecX) (k : Nat) (A : Option Addr) (c : Nat) (L : MapP.T Int (Array Value)) (W : World) : Prop where
  log : LogIn W lb d mb k A k c bs X L lim 0 0 (RowsP.ends (K.take k))
  hi : ∀ a, A = some a → M ≤ a.block
  ebs : Str W eb #[.int .i64 ((RowsP.at_ K k : Nat) : Int)]
  lx : Str W lx #[.pointer (some ⟨lb, 0, none⟩)]
  rec_ : LogR W (LS lb mb eb g0 bs A) L (RowsP.ends (K.take k)) (K.take k)
  kp : Reg.KeepB w.heap.size bs w W
  low : Below B0 w W
  up : M ≤ W.heap.size
section
variable {w W W' : World} {M B0 lb d mb lx eb g0 k c : Nat} {bs gs : List Nat} {X : DevX} {lim : Int} {K : List RecX} {A : Option Addr} {L : MapP.T Int (Array Value)}
theorem LI.next (h : LI w M B0 lb d mb lx eb g0 bs X lim K k A c L W) (hF : LF w.heap.size M B0 lb mb lx eb g0 bs gs) (hb : Below W.heap.size W W') : LI w M B0 lb d mb lx eb g0 bs X lim K k A c L W' :=
  ⟨h.log.next hb, h.hi, h.ebs.next hb, h.lx.next hb, h.rec_.next hb, h.kp.step hb h.kp.size, h.low.trans (hb.mono (Nat.le_trans hF.b0 h.kp.size)), Nat.le_trans h.up hb.size⟩
/-- the iterator's box turns -/
theorem LI.turn (h : LI w M B0 lb d mb lx eb g0 bs X lim K k A c L W) (hF : LF w.heap.size M B0 lb mb lx eb g0 bs gs) (hg : W.grownBy W' (some g0)) : LI w M B0 lb d mb lx eb g0 bs X lim K k A c L W' := by
  have hM := h.up
  have h1 := hF.g
  refine ⟨h.log.other hg (fun e => hF.d1.2.1 e.symm) (fun e => hF.d2.2.1 e.symm) (fun hm => by have := (hF.bl _ hm).1; omega) (fun a e => by have := h.hi a e; omega), h.hi, h.ebs.grown hg hF.d3.1, h.lx.grown hg (fun e => hF.d3.2.2 e.symm), h.rec_.grown hg (by simp [LS]), h.kp.grown hg h.kp.size (.inl h1.1), below_grownO h.low hg (Nat.le_trans hF.b0 h.kp.size) (fun k e => by cases e; exact Nat.le_trans hF.b0 h1.1), Nat.le_trans hM hg.size⟩
/-- a loop's record turns -/
theorem LI.loop (h : LI w M B0 lb d mb lx eb g0 bs X lim K k A c L W) (hF : LF w.heap.size M B0 lb mb lx eb g0 bs gs) {l : Nat} {r : Loop} (hl : W.heap[l]? = some (.loop r)) (hM : M ≤ l) (o : Obj) : LI w M B0 lb d mb lx eb g0 bs X lim K k A c L (W.putObj l o) := by
  have hg := grownBy_putObj' W l o
  have h0 := hF.n
  have hA : ∀ a, A = some a → a.block ≠ l := fun a e e2 => by
    obtain ⟨h1, ⟨h2, -⟩ | ⟨g, cap, cur, h3, h4, h5, h6⟩⟩ := IntE.own h.log.row
    · cases h2; cases e
    · cases h3; cases e
      dsimp only at e2
      rw [e2, hl] at h5
      cases h5
  have hne : ∀ b, b < M → b ≠ l := fun b hb e => by omega
  refine ⟨h.log.other hg (fun e => hne _ hF.l.2 e.symm) (fun e => hne _ hF.m.2 e.symm) (fun hm => by have := (hF.bl _ hm).1; omega) hA, h.hi, h.ebs.grown hg (hne _ hF.e.2), h.lx.grown hg (hne _ hF.x.2), h.rec_.loop hl o, h.kp.grown hg h.kp.size (.inl (by omega)), below_grownO h.low hg (Nat.le_trans hF.b0 h.kp.size) (fun k e => by cases e; have := hF.b0; omega), Nat.le_trans h.up hg.size⟩
theorem LI.boxes (h : LI w M B0 lb d mb lx eb g0 bs X lim K k A c L W) : (∀ r, W.heap[lb]? ≠ some (.loop r)) ∧ ∀ a, A = some a → (∀ r, W.heap[a.block]? ≠ some (.loop r)) ∧ ∀ q, W.heap[a.block]? ≠ some (.deferred q) := by
  refine ⟨fun r e => ?_, fun a e => ?_⟩
  · obtain ⟨t, ht⟩ := h.log.box
    rw [ht] at e; cases e
  · obtain ⟨h1, ⟨h2, -⟩ | ⟨g, cap, cur, h3, h4, h5, h6⟩⟩ := IntE.own h.log.row
    · cases h2; cases e
    · cases h3; cases e
      exact ⟨(fun r e => by rw [h5] at e; cases e), (fun q e => by rw [h5] at e; cases e)⟩
/-- the end is told anew, and a record is added -/
theorem LI.round {W1 W2 : World} {A' : Option Addr} {c' : Nat} {L' : MapP.T Int (Array Value)} {y : RecX} (h : LI w M B0 lb d mb lx eb g0 bs X lim K k A c L W) (hF : LF w.heap.size M B0 lb mb lx eb g0 bs gs) (hy : K[k]? = some y) (hg : W.grownBy W1 (some eb)) (he : Str W1 eb #[.int .i64 ((RowsP.at_ K (k + 1) : Nat) : Int)]) (hb : Below B0 W1 W2)
    (hl : LogIn W2 lb d mb (k + 1) A' (k + 1) c' bs X L' lim 0 0 (RowsP.ends (K.take k) ++ [((RowsP.at_ K (k + 1) : Nat) : Int)])) (ho : Offs W1 W2 lb mb A bs A' bs) (hr : LogR W1 (LS lb mb eb g0 bs A) L' (RowsP.ends (K.take k) ++ [((RowsP.at_ K (k + 1) : Nat) : Int)]) (K.take k ++ [y])) :
    LI w M B0 lb d mb lx eb g0 bs X lim K (k + 1) A' c' L' W2 ∧ Tools M W W2 ∧ KpR g0 gs W W2 := by
  have h0 := hF.n
  have hup := h.up
  have hs1 := hg.size
  have hs2 := hb.size
  have hout : ∀ i, i < W1.heap.size → i ≠ lb → i ≠ mb → (∀ a, A = some a → a.block ≠ i) → i ∉ bs → W2.heap[i]? = W1.heap[i]? ∧ ∀ a, A' = some a → a.block ≠ i := fun i h1 h2 h3 h4 h5 => by
    obtain ⟨o1, o2, -⟩ := ho i h1 h2 h3 h4 h5
    exact ⟨o1, o2⟩
  have hnb : ∀ i, w.heap.size ≤ i → i ∉ bs := fun i hi hm => by have := (hF.bl i hm).1; omega
  have hnA : ∀ i, i < M → ∀ a, A = some a → a.block ≠ i := fun i hi a e => by have := h.hi a e; omega
  have hlow : ∀ i, i < M → w.heap.size ≤ i → i ≠ lb → i ≠ mb → i ≠ eb → W2.heap[i]? = W.heap[i]? := fun i h1 h2 h3 h4 h5 =>
    ((hout i (by omega) h3 h4 (hnA i h1) (hnb i h2)).1).trans (hg.block i (by omega) (fun e => by injection e with e; exact h5 e))
  refine ⟨⟨?_, ?_, ?_, ?_, ?_, ?_, ?_, ?_⟩, ?_, ?_, ?_⟩
  · rw [RowsP.ends_take hy]; exact hl
  · intro a e
    by_cases hlt : a.block < M
    · exfalso
      have h4 := hl.n4 a e
      exact (hout a.block (by omega) h4.1 h4.2.1 (hnA _ hlt) h4.2.2).2 a e rfl
    · omega
  · obtain ⟨t, ht⟩ := he
    exact ⟨t, (hout eb (by have := hF.e.2; omega) (fun e => hF.d1.1 e.symm) (fun e => hF.d2.1 e.symm) (hnA _ hF.e.2) (hnb _ hF.e.1)).1.trans ht⟩
  · obtain ⟨t, ht⟩ := h.lx
    exact ⟨t, (hlow lx hF.x.2 hF.x.1 (fun e => hF.d1.2.2 e.symm) (fun e => hF.d2.2.2 e.symm) (fun e => hF.d3.2.1 e.symm)).trans ht⟩
  · rw [RowsP.ends_take hy, RowsP.take_next hy]
    refine hr.sub hs2 (hideL_sub_of fun i hi hn => ?_)
    obtain ⟨n1, n2, n3, n4, n5, n6⟩ := not_LS hn
    obtain ⟨o1, o2⟩ := hout i hi n1 n2 n6 n5
    refine ⟨fun hm => ?_, o1⟩
    rcases of_LS hm with e | e | e | e | e | ⟨a, e1, e2⟩
    · exact n1 e
    · exact n2 e
    · exact n3 e
    · exact n4 e
    · exact n5 e
    · exact o2 a e1 e2
  · have hkp1 := h.kp.grown hg h.kp.size (.inl hF.e.1)
    exact ⟨hb.os.trans hkp1.os, hb.tape.trans hkp1.tape, hb.output.trans hkp1.output, Nat.le_trans hkp1.size hs2, fun i hi hn => ((hout i (by omega) (by have := hF.l.1; omega) (by have := hF.m.1; omega) (hnA i (by omega)) hn).1).trans (hkp1.block i hi hn)⟩
  · exact (below_grownO h.low hg (Nat.le_trans hF.b0 h.kp.size) (fun k e => by cases e; exact Nat.le_trans hF.b0 hF.e.1)).trans hb
  · omega
  · refine tools_of (Nat.le_trans hs1 hs2) fun i hi hlt => ?_
    have hb3 := h.boxes
    by_cases hA : ∃ a, A = some a ∧ a.block = i
    · obtain ⟨a, e1, e2⟩ := hA
      subst e2
      exact .inr (hb3.2 a e1)
    · refine .inl (((hout i (by omega) (by have := hF.l.2; omega) (by have := hF.m.2; omega) (fun a e e2 => hA ⟨a, e, e2⟩) (hnb i (by omega))).1).trans (hg.block i hlt (fun e => by injection e with e; have := hF.e.2; omega)))
  · exact hlow g0 hF.g.2 hF.g.1 (fun e => hF.d1.2.1 e.symm) (fun e => hF.d2.2.1 e.symm) (fun e => hF.d3.1 e.symm)
  · intro b hb2
    obtain ⟨f1, f2, f3, f4, f5, f6⟩ := hF.gl b hb2
    exact hlow b f2 f1 f3 f4 f5
end
end Go.Proofs.YtpdfnlhhnodnjaaGreat.WalW
end
section
namespace Go.Proofs.YtpdfnlhhnodnjaaGreat.CloneW
open Go.RowKit
set_option linter.unusedVariables false
/-- the call hands back a row of its own -/
def GivesRow {α : Type} (E : El α) (T : TypeId) (w : World) (n : Nat) (l : List α) (e : Ending) (w' : World) : Prop := ∃ A c, e = .returned (.slice A n c) ∧ OwnE E T w' w.heap.size A n c l ∧ Below w.heap.size w w'
theorem own_empty {α : Type} (E : El α) (T : TypeId) (w : World) : OwnE E T (w.alloc (.cells #[] T)) w.heap.size (some ⟨w.heap.size, 0, none⟩) 0 0 [] :=
  OwnE.mk' (cur := []) (vs := []) (Nat.le_refl _) (heap_alloc_new w _) (Nat.le_refl _) (by unfold maxLen; omega) (by simp) (by simp) trivial rfl
theorem none_len {α : Type} {E : El α} {w : World} {B n c : Nat} {l : List α} (h : Elems E w B none n c l) : n = 0 ∧ l = [] := by
  have h0 : n = 0 := by
    rcases Nat.eq_zero_or_pos n with h0 | h0
    · exact h0
    · obtain ⟨b, o, vs, e, -⟩ := h.at_ h0
      cases e
  exact ⟨h0, List.eq_nil_of_length_eq_zero (by rw [h.len, h0])⟩
section
attribute [local go_sem ↓] app_fold
theorem eql_patches (w : World) (a : Option Addr) (l c : Nat) : (binOp .eql 31 (.slice a l c) (.slice none 0 0)).run Tryz.prog w = .ok (.bool a.isNone) w := Lib.run_eql_slice_nil w _ _ a l c 0 0 Tryz.underlying31
theorem info_patches : (Tryz.prog.info? 68).map (fun i => (i.zero, i.size, i.bytes)) = some (some (.agg #[.int .i64 0, .bool false, .slice none 0 0]), 3, 40) := by kernel_rfl
set_option maxRecDepth 100000 in
set_option maxHeartbeats 400000 in
theorem clone_patches {α : Type} (E : El α) (hE : E.size = 3) (A : Option Addr) (n c B : Nat) (l : List α) (w : World) (h : Elems E w B A n c l) (hB : B ≤ w.heap.size) (hn : n ≤ 1000000) :
    Calls Tryz.prog 47 #[.slice A n c] w (GivesRow E 68 w n l) := by
  cases A with
  | none =>
    obtain ⟨rfl, rfl⟩ := none_len h
    clear h
    have heq := eql_patches w none 0 c
    go_enter Tryz.func47, Tryz.ntmps47
    go_wp2
    go_ret
    exact ⟨none, 0, rfl, OwnE.none_ _ _ _ _, bsame w⟩
  | some a =>
    have hb1 : Below w.heap.size w (w.alloc (.cells #[] 68)) := balloc (bsame w) _
    have hO1 := own_empty E 68 w
    obtain ⟨i0, hi0, iz0, iz1, iz2⟩ := info_parts info_patches
    obtain ⟨A3, c3, w3, happ3, hO3, hb3, -, -⟩ := hO1.app (P := Tryz.prog) 31 31 i0 _ 40 Tryz.underlying31 hi0 iz0 (iz1.trans hE.symm) iz2 (by rw [hE]; rfl) (hO1.src (h.below (hb1.mono hB)) hB hb1.size) (by unfold maxLen; omega) (by omega) hb1.size
    simp only [Nat.zero_add, List.nil_append] at happ3 hO3
    have HB : Hid (Below w.heap.size w w3) := Lib.hid (hb1.trans hb3)
    have HO := Lib.hid hO3
    clear h hO3 hb1 hO1 hb3
    have heq := eql_patches w (some a) n c
    go_enter Tryz.func47, Tryz.ntmps47
    go_wp2
    go_ret
    exact ⟨A3, c3, rfl, HO.out, HB.out⟩
theorem eql_runs (w : World) (a : Option Addr) (l c : Nat) : (binOp .eql 66 (.slice a l c) (.slice none 0 0)).run Tryz.prog w = .ok (.bool a.isNone) w := Lib.run_eql_slice_nil w _ _ a l c 0 0 Tryz.underlying66
theorem info_runs : (Tryz.prog.info? 90).map (fun i => (i.zero, i.size, i.bytes)) = some (some (.agg #[.int .i64 0, .slice none 0 0]), 2, 32) := by kernel_rfl
set_option maxRecDepth 100000 in
set_option maxHeartbeats 400000 in
theorem clone_runs {α : Type} (E : El α) (hE : E.size = 2) (A : Option Addr) (n c B : Nat) (l : List α) (w : World) (h : Elems E w B A n c l) (hB : B ≤ w.heap.size) (hn : n ≤ 1000000) :
    Calls Tryz.prog 48 #[.slice A n c] w (GivesRow E 90 w n l) := by
  cases A with
  | none =>
    obtain ⟨rfl, rfl⟩ := none_len h
    clear h
    have heq := eql_runs w none 0 c
    go_enter Tryz.func48, Tryz.ntmps48
    go_wp2
    go_ret
    exact ⟨none, 0, rfl, OwnE.none_ _ _ _ _, bsame w⟩
  | some a =>
    have hb1 : Below w.heap.size w (w.alloc (.cells #[] 90)) := balloc (bsame w) _
    have hO1 := own_empty E 90 w
    obtain ⟨i0, hi0, iz0, iz1, iz2⟩ := info_parts info_runs
    obtain ⟨A3, c3, w3, happ3, hO3, hb3, -, -⟩ := hO1.app (P := Tryz.prog) 66 66 i0 _ 32 Tryz.underlying66 hi0 iz0 (iz1.trans hE.symm) iz2 (by rw [hE]; rfl) (hO1.src (h.below (hb1.mono hB)) hB hb1.size) (by unfold maxLen; omega) (by omega) hb1.size
    simp only [Nat.zero_add, List.nil_append] at happ3 hO3
    have HB : Hid (Below w.heap.size w w3) := Lib.hid (hb1.trans hb3)
    have HO := Lib.hid hO3
    clear h hO3 hb1 hO1 hb3
    have heq := eql_runs w (some a) n c
    go_enter Tryz.func48, Tryz.ntmps48
    go_wp2
    go_ret
    exact ⟨A3, c3, rfl, HO.out, HB.out⟩
theorem eql_ints (w : World) (a : Option Addr) (l c : Nat) : (binOp .eql 46 (.slice a l c) (.slice none 0 0)).run Tryz.prog w = .ok (.bool a.isNone) w := Lib.run_eql_slice_nil w _ _ a l c 0 0 Tryz.underlying46
theorem info_ints : (Tryz.prog.info? 3).map (fun i => (i.zero, i.size, i.bytes)) = some (some (.int .i64 0), 1, 8) := by kernel_rfl
set_option maxRecDepth 100000 in
set_option maxHeartbeats 400000 in
theorem clone_ints {α : Type} (E : El α) (hE : E.size = 1) (A : Option Addr) (n c B : Nat) (l : List α) (w : World) (h : Elems E w B A n c l) (hB : B ≤ w.heap.size) (hn : n ≤ 1000000) :
    Calls Tryz.prog 29 #[.slice A n c] w (GivesRow E 3 w n l) := by
  cases A with
  | none =>
    obtain ⟨rfl, rfl⟩ := none_len h
    clear h
    have heq := eql_ints w none 0 c
    go_enter Tryz.func29, Tryz.ntmps29
    go_wp2
    go_ret
    exact ⟨none, 0, rfl, OwnE.none_ _ _ _ _, bsame w⟩
  | some a =>
    have hb1 : Below w.heap.size w (w.alloc (.cells #[] 3)) := balloc (bsame w) _
    have hO1 := own_empty E 3 w
    obtain ⟨i0, hi0, iz0, iz1, iz2⟩ := info_parts info_ints
    obtain ⟨A3, c3, w3, happ3, hO3, hb3, -, -⟩ := hO1.app (P := Tryz.prog) 46 46 i0 _ 8 Tryz.underlying46 hi0 iz0 (iz1.trans hE.symm) iz2 (by rw [hE]; rfl) (hO1.src (h.below (hb1.mono hB)) hB hb1.size) (by unfold maxLen; omega) (by omega) hb1.size
    simp only [Nat.zero_add, List.nil_append] at happ3 hO3
    have HB : Hid (Below w.heap.size w w3) := Lib.hid (hb1.trans hb3)
    have HO := Lib.hid hO3
    clear h hO3 hb1 hO1 hb3
    have heq := eql_ints w (some a) n c
    go_enter Tryz.func29, Tryz.ntmps29
    go_wp2
    go_ret
    exact ⟨A3, c3, rfl, HO.out, HB.out⟩
end
end Go.Proofs.YtpdfnlhhnodnjaaGreat.CloneW
end
section
namespace Go.Proofs.YtpdfnlhhnodnjaaGreat.WalW
open Go.RowKit RecW
set_option linter.unusedVariables false
set_option linter.unusedSimpArgs false
/-- what own's rounds keep -/
structure OR (S : List Nat) (w wr : World) (cs zs : Array Value) (l : List PatchX) (A1 : Option Addr) (n c1 : Nat) : Prop where
  box : Str wr w.heap.size cs
  res : Str wr (w.heap.size + 1) zs
  own : OwnE (HidE PatchE (w.heap.size :: (w.heap.size + 1) :: S)) 68 wr (w.heap.size + 2) A1 n c1 l
  bel : Below w.heap.size w wr
theorem OR.next {S : List Nat} {w wr wr' : World} {cs zs : Array Value} {l : List PatchX} {A1 : Option Addr} {n c1 : Nat} (h : OR S w wr cs zs l A1 n c1) (hb : Below wr.heap.size wr wr') : OR S w wr' cs zs l A1 n c1 :=
  ⟨h.box.next hb, h.res.next hb, h.own.next hb, bstep h.bel hb⟩
/-- a row of the call's own begins with its block -/
theorem OwnE.zero {α : Type} {E : El α} {T : TypeId} {w : World} {base n c g o : Nat} {l : List α} (h : OwnE E T w base (some ⟨g, o, none⟩) n c l) : o = 0 := by
  obtain ⟨vs, h1, -⟩ := h
  rcases h1.2 with ⟨e1, -⟩ | ⟨g', cap, cur, e1, -, hh, -⟩
  · cases e1
  · cases e1; rfl
theorem list_set_same {α : Type} {l : List α} {k : Nat} {x : α} (h : l[k]? = some x) : l.set k x = l := by
  obtain ⟨h1, h2⟩ := List.getElem?_eq_some_iff.1 h
  rw [← h2, List.set_getElem_self]
/-- the bytes of a run put into its row -/
theorem put_run {w : World} {base N n c k m : Nat} {hs : List Nat} {A A7 : Option Addr} {c7 : Nat} {l : List RunX} {r : RunX} (h : OwnE (HidE RunE hs) 90 w base A n c l) (hk : k < n) (hr : l[k]? = some r) (hi : In64 r.at_) (hy : Bytes (above N w) w.heap.size A7 m c7 r.data) (hN : ∀ b ∈ hs, b < N) (hA : ∀ a, A = some a → a.block < N) :
    ∃ g, A = some ⟨g, 0, none⟩ ∧ base ≤ g ∧ g < w.heap.size ∧ (∃ v, w.cell? ⟨g, k * 2 + 1, none⟩ = some v) ∧ w.frozen? ⟨g, k * 2 + 1, none⟩ = false ∧ OwnE (HidE RunE hs) 90 (w.setCell ⟨g, k * 2 + 1, none⟩ (.slice A7 m c7)) base A n c l := by
  obtain ⟨g, e, hg1, hg2, hc, hf, hO⟩ := h.write1 (P := Tryz.prog) (j := k) (i := 1) (v := .slice A7 m c7) (x := r) hk (by show 1 < 2; omega) rfl (fun g vs hA' hq => by
    obtain ⟨A5, n5, c5, e5, hy5, hi5⟩ := hq r hr
    subst e5
    have hgN := hA _ hA'
    refine ⟨A7, m, c7, rfl, hy.sub (fun p v hp hv => ?_), hi⟩
    by_cases hb : p.block < N
    · rw [above_in N w p hb] at hv; cases hv
    · rw [above_out N w p (by omega)] at hv
      rw [hideL_out _ p hs (fun hm => by have := hN _ hm; omega), hide_other w g p (by dsimp only at hgN; omega)]; exact hv)
  refine ⟨g, e, hg1, hg2, Option.isSome_iff_exists.1 hc, hf, ?_⟩
  rw [list_set_same hr] at hO
  exact hO
/-- a patch's runs put into its row -/
theorem put_runs {w : World} {base n c k m g c5 : Nat} {hs : List Nat} {A5 : Option Addr} {b5 : Nat} {l : List PatchX} {x : PatchX} (h : OwnE (HidE PatchE hs) 68 w base (some ⟨g, 0, none⟩) n c l) (hk : k < n) (hr : l[k]? = some x) (hi : In64 x.page) (hR : OwnE (HidE RunE (g :: hs)) 90 w b5 A5 m c5 x.runs) (hb5 : ∀ b ∈ g :: hs, b < b5) :
    base ≤ g ∧ g < w.heap.size ∧ (∃ v, w.cell? ⟨g, k * 3 + 2, none⟩ = some v) ∧ w.frozen? ⟨g, k * 3 + 2, none⟩ = false ∧ OwnE (HidE PatchE hs) 68 (w.setCell ⟨g, k * 3 + 2, none⟩ (.slice A5 m c5)) base (some ⟨g, 0, none⟩) n c l := by
  obtain ⟨g', e, hg1, hg2, hc, hf, hO⟩ := h.write1 (P := Tryz.prog) (j := k) (i := 2) (v := .slice A5 m c5) (x := x) hk (by show 2 < 3; omega) rfl (fun g' vs hA' hq => by
    cases hA'
    obtain ⟨A4, n4, c4, e4, hy4, hi4⟩ := hq x hr
    subst e4
    exact ⟨A5, m, c5, rfl, (hR.elemsHid (fun a e hm => by have := hR.ge a e; have := hb5 _ hm; omega)).sub (sub_hideL_snoc _ _ _ _), hi⟩)
  cases e
  refine ⟨hg1, hg2, Option.isSome_iff_exists.1 hc, hf, ?_⟩
  rw [list_set_same hr] at hO
  exact hO
set_option maxRecDepth 100000 in
set_option maxHeartbeats 8000000 in
theorem own_hid (kd tx pv nx : Int) (l : List PatchX) (pact : Int) (puk : ByteArray) (pst : Int) (pk : ByteArray) (pkd : Int) (pda : List UInt8) (plo phi pva pun : Int) (A : Option Addr) (n c : Nat) (Ap : Option Addr) (np cp : Nat) (S : List Nat) (w : World) (hS : ∀ b ∈ S, b < w.heap.size) (hE : Elems PatchE (hideL w S) w.heap.size A n c l) (hp : Bytes w w.heap.size Ap np cp pda) (hl : n ≤ 100) (hr : ∀ x ∈ l, x.runs.length ≤ 1000000) (hd : ∀ x ∈ l, ∀ r ∈ x.runs, r.data.length ≤ 1000000) (hnp : np ≤ 1000000) :
    Calls Tryz.prog 24 #[.agg #[.int .i64 kd, .int .i64 tx, .int .i64 pv, .int .i64 nx, .slice A n c, .int .i64 pact, .string puk, .int .i64 pst, .string pk, .int .i64 pkd, .slice Ap np cp, .int .i64 plo, .int .i64 phi, .int .i64 pva, .int .i64 pun]] w fun e w' => ∃ A1 c1 Aq cq, e = .returned (.agg #[.int .i64 kd, .int .i64 tx, .int .i64 pv, .int .i64 nx, .slice A1 n c1, .int .i64 pact, .string puk, .int .i64 pst, .string pk, .int .i64 pkd, .slice Aq np cq, .int .i64 plo, .int .i64 phi, .int .i64 pva, .int .i64 pun]) ∧ Elems PatchE (hideL w' S) w'.heap.size A1 n c1 l ∧ Bytes w' w'.heap.size Aq np cq pda ∧ Below w.heap.size w w' := by
  have HP := Lib.hid hp
  have HRL := Lib.hid (And.intro hr hd)
  have HLN := Lib.hid hE.len
  obtain ⟨W0, hW0⟩ : ∃ W, (w.alloc (.cells #[.int .i64 kd, .int .i64 tx, .int .i64 pv, .int .i64 nx, .slice A n c, .int .i64 pact, .string puk, .int .i64 pst, .string pk, .int .i64 pkd, .slice Ap np cp, .int .i64 plo, .int .i64 phi, .int .i64 pva, .int .i64 pun] 40)).alloc (.cells #[.int .i64 0, .int .i64 0, .int .i64 0, .int .i64 0, .slice none 0 0, .int .i64 0, .string ⟨#[]⟩, .int .i64 0, .string ⟨#[]⟩, .int .i64 0, .slice none 0 0, .int .i64 0, .int .i64 0, .int .i64 0, .int .i64 0] 40) = W := ⟨_, rfl⟩
  obtain ⟨HS0, HS1, HB0, hw0, hz0⟩ := new2 hW0
  have hE0 : Elems (HidE PatchE (w.heap.size :: (w.heap.size + 1) :: S)) W0 w.heap.size A n c l := (hE.inHid (hideL_sub_of fun k hk hn => ⟨by simp only [List.mem_cons, not_or]; exact ⟨by omega, by omega, hn⟩, rfl⟩)).below HB0.out
  have HE0 := Lib.hid hE0
  have g0 := str15 HS0.out
  have hl0 := HS0.out.lt
  have gf0 := fun j => HS0.out.frozen j
  clear hp hr hd hE hE0
  go_enter Tryz.func24, Tryz.ntmps24
  go_wp2_with fail
  refine (CloneW.clone_patches (HidE PatchE (w.heap.size :: (w.heap.size + 1) :: S)) rfl A n c w.heap.size l W0 HE0.out hw0 (by omega)).mono ?_
  rintro e W1 ⟨A1, c1, rfl, hO1, hb1⟩
  have hw1 := hb1.size
  rw [hz0] at hO1
  have hA1 : ∀ a, A1 = some a → w.heap.size + 2 ≤ a.block := hO1.ge
  obtain ⟨W2, hW2⟩ : ∃ W, W1.setCell ⟨w.heap.size, 4, none⟩ (.slice A1 n c1) = W := ⟨_, rfl⟩
  have hg2 : W1.grownBy W2 (some w.heap.size) := by rw [← hW2]; exact grown_set (grown_refl W1 _) 4 _
  have HO2 : Hid (OR S w W2 #[.int .i64 kd, .int .i64 tx, .int .i64 pv, .int .i64 nx, .slice A1 n c1, .int .i64 pact, .string puk, .int .i64 pst, .string pk, .int .i64 pkd, .slice Ap np cp, .int .i64 plo, .int .i64 phi, .int .i64 pva, .int .i64 pun] #[.int .i64 0, .int .i64 0, .int .i64 0, .int .i64 0, .slice none 0 0, .int .i64 0, .string ⟨#[]⟩, .int .i64 0, .string ⟨#[]⟩, .int .i64 0, .slice none 0 0, .int .i64 0, .int .i64 0, .int .i64 0, .int .i64 0] l A1 n c1) := Lib.hid ⟨by have := (HS0.out.next hb1).set 4 (.slice A1 n c1); rw [← hW2]; simpa using this, (HS1.out.next hb1).grown hg2 (by omega), hO1.keepHid hg2 (by simp) (fun a e => by have := hA1 a e; omega), below_grown (bstep HB0.out hb1) hg2 (Nat.le_refl _)⟩
  have hgs := str15 (HS0.out.next hb1)
  have hgl := (HS0.out.next hb1).lt
  have hgf := fun j => (HS0.out.next hb1).frozen j
  have HA1 := Lib.hid hA1
  clear hO1 hb1 hg2 hA1 HE0 g0 hl0 gf0
  have u0 := str15 HO2.out.box
  have ul0 := HO2.out.box.lt
  go_wp2_with fail
  go_loopw [15] (fun iv wr => ∃ k : Nat, k ≤ n ∧ iv = .int .i64 (k : Int) ∧ Hid (OR S w wr #[.int .i64 kd, .int .i64 tx, .int .i64 pv, .int .i64 nx, .slice A1 n c1, .int .i64 pact, .string puk, .int .i64 pst, .string pk, .int .i64 pkd, .slice Ap np cp, .int .i64 plo, .int .i64 phi, .int .i64 pva, .int .i64 pun] #[.int .i64 0, .int .i64 0, .int .i64 0, .int .i64 0, .slice none 0 0, .int .i64 0, .string ⟨#[]⟩, .int .i64 0, .string ⟨#[]⟩, .int .i64 0, .slice none 0 0, .int .i64 0, .int .i64 0, .int .i64 0, .int .i64 0] l A1 n c1)) (fun iv _ => n - (intOf iv).toNat)
  case atStart => exact ⟨0, Nat.zero_le _, rfl, HO2⟩
  case round =>
    obtain ⟨k, hk, rfl, HQ⟩ := hrel
    clear HO2 u0 ul0 hgs hgl hgf
    have hwr := HQ.out.bel.size
    have u0 := str15 HQ.out.box
    have ul0 := HQ.out.box.lt
    by_cases hlt : k < n
    · have hd : decide ((k : Int) < (n : Int)) = true := by simp; omega
      obtain ⟨x, hx⟩ : ∃ x, l[k]? = some x := ⟨_, List.getElem?_eq_getElem (by rw [HLN.out]; exact hlt)⟩
      have HX := Lib.hid hx
      have HXR := Lib.hid (And.intro (HRL.out.1 x (List.mem_of_getElem? hx)) (HRL.out.2 x (List.mem_of_getElem? hx)))
      obtain ⟨g, o2, vs, hAe, hgw, hrel, hcl⟩ := HQ.out.own.elemsIn.at_ hlt
      have hxe : l[k]'(by rw [HLN.out]; exact hlt) = x := by
        have := List.getElem?_eq_getElem (l := l) (i := k) (by rw [HLN.out]; exact hlt)
        rw [hx] at this; exact (Option.some.inj this).symm
      rw [hxe] at hrel
      obtain ⟨A4, n4, c4, rfl, hy4, hi4⟩ := hrel
      subst hAe
      have ho2 := OwnE.zero HQ.out.own
      subst ho2
      have hsz : (HidE PatchE (w.heap.size :: (w.heap.size + 1) :: S)).size = 3 := rfl
      have q0 := hcl 0 _ rfl
      have q1 := hcl 1 _ rfl
      have q2 := hcl 2 _ rfl
      rw [hsz] at q0 q1 q2
      rw [Nat.zero_add] at q0 q1 q2
      rw [Nat.add_zero] at q0
      have hgb := HA1.out _ rfl
      have hln4 := hy4.len
      have hn4 : n4 ≤ 1000000 := by have := HXR.out.1; omega
      have HY4 : Hid (Elems (HidE RunE (g :: (w.heap.size :: (w.heap.size + 1) :: S))) wr wr.heap.size A4 n4 c4 x.runs) := Lib.hid (hy4.inHid (sub_hideL_cons _ _ _ _))
      have HI4 := Lib.hid hi4
      have HL4 := Lib.hid hln4
      obtain ⟨xp, xf, xr⟩ := x
      dsimp only at *
      clear hy4 hi4 hcl hsz hx hxe hln4
      obtain ⟨W4, hW4⟩ : ∃ W, wr.alloc (.cells #[.int .i64 xp, .bool xf, .slice A4 n4 c4] 68) = W := ⟨_, rfl⟩
      obtain ⟨HS4, HB4, hw4, hz4⟩ := new1 hW4
      have g4 := str3 HS4.out
      have hl4 := HS4.out.lt
      go_wp2_with fail
      refine (CloneW.clone_runs (HidE RunE (g :: (w.heap.size :: (w.heap.size + 1) :: S))) rfl A4 n4 c4 wr.heap.size xr W4 (HY4.out.below HB4.out) hw4 hn4).mono ?_
      rintro e W5 ⟨A5, c5, rfl, hO5, hb5⟩
      have HO5 : Hid (OwnE (HidE RunE (g :: (w.heap.size :: (w.heap.size + 1) :: S))) 90 W5 W4.heap.size A5 n4 c5 xr ∧ Below W4.heap.size W4 W5) := Lib.hid ⟨hO5, hb5⟩
      have HA5 := Lib.hid hO5.ge
      have HQ4 := Lib.hid (HQ.out.next HB4.out)
      clear hO5 hb5 g4 hl4 q0 q1 q2 u0 ul0 HY4 HQ
      go_wp2_with fail
      go_loopw [25] (fun iv wr => ∃ j : Nat, j ≤ n4 ∧ iv = .int .i64 (j : Int) ∧ Hid (OwnE (HidE RunE (g :: (w.heap.size :: (w.heap.size + 1) :: S))) 90 wr W4.heap.size A5 n4 c5 xr ∧ Below W4.heap.size W4 wr)) (fun iv _ => n4 - (intOf iv).toNat)
      case atStart => exact ⟨0, Nat.zero_le _, rfl, HO5⟩
      case round =>
        obtain ⟨j, hj, rfl, HI⟩ := hrel
        clear HO5
        rename_i wi
        have hwr4 := HI.out.2.size
        by_cases hlt2 : j < n4
        · have hd2 : decide ((j : Int) < (n4 : Int)) = true := by simp; omega
          obtain ⟨r, hr⟩ : ∃ r, xr[j]? = some r := ⟨_, List.getElem?_eq_getElem (by rw [HL4.out]; exact hlt2)⟩
          have HR := Lib.hid hr
          have hrd := HXR.out.2 r (List.mem_of_getElem? hr)
          obtain ⟨g5, o5, vs, hAe, hgw5, hrel, hcl⟩ := HI.out.1.elemsIn.at_ hlt2
          have hre : xr[j]'(by rw [HL4.out]; exact hlt2) = r := by
            have := List.getElem?_eq_getElem (l := xr) (i := j) (by rw [HL4.out]; exact hlt2)
            rw [hr] at this; exact (Option.some.inj this).symm
          rw [hre] at hrel
          obtain ⟨A6, n6, c6, rfl, hy6, hi6⟩ := hrel
          subst hAe
          have ho5 := OwnE.zero HI.out.1
          subst ho5
          have hsz : (HidE RunE (g :: (w.heap.size :: (w.heap.size + 1) :: S))).size = 2 := rfl
          have q0 := hcl 0 _ rfl
          have q1 := hcl 1 _ rfl
          rw [hsz] at q0 q1
          rw [Nat.zero_add] at q0 q1
          rw [Nat.add_zero] at q0
          have hg5 := HA5.out _ rfl
          have hy6' : Bytes wr wr.heap.size A6 n6 c6 r.data := hy6.sub ((sub_hideL _ _ _).trans (sub_hid _ _ _))
          have hln6 := hy6'.len
          have HY6 := Lib.hid hy6'
          have HI6 := Lib.hid hi6
          obtain ⟨rp, rd⟩ := r
          dsimp only at *
          have hn6 : n6 ≤ 1000000 := by omega
          clear hy6 hy6' hi6 hcl hsz hr hre hln6 hrd
          obtain ⟨W6, hW6⟩ : ∃ W, wr.alloc (.cells #[.int .i64 rp, .slice A6 n6 c6] 90) = W := ⟨_, rfl⟩
          obtain ⟨HS6, HB6, hw6, hz6⟩ := new1 hW6
          have g6 := str2 HS6.out
          have hl6 := HS6.out.lt
          go_wp2_with fail
          refine (CloneW.clone_own A6 n6 c6 wr.heap.size rd W6 (HY6.out.below HB6.out) hw6 (by omega)).mono ?_
          rintro e W7 ⟨A7, n7, c7, gb7, rfl, hO7, hgb7, hb7⟩
          have hw7 := hb7.size
          obtain ⟨g', e', k1, k2, ⟨v, k3⟩, k4, k5⟩ := put_run (N := W6.heap.size) ((HI.out.1.next HB6.out).next hb7) hlt2 HR.out HI6.out (hO7.above hgb7) (by intro b hb; simp only [List.mem_cons] at hb; rcases hb with rfl | rfl | rfl | hb <;> first | omega | (have := hS _ hb; omega)) (fun a e => by cases e; show g5 < _; omega)
          cases e'
          have HI8 : Hid (OwnE (HidE RunE (g :: (w.heap.size :: (w.heap.size + 1) :: S))) 90 (W7.setCell ⟨g5, j * 2 + 1, none⟩ (.slice A7 n7 c7)) W4.heap.size (some ⟨g5, 0, none⟩) n4 c5 xr ∧ Below W4.heap.size W4 (W7.setCell ⟨g5, j * 2 + 1, none⟩ (.slice A7 n7 c7))) := Lib.hid ⟨k5, below_grown (bstep (bstep HI.out.2 HB6.out) hb7) (grown_set (grown_refl W7 _) _ _) hg5⟩
          clear k5 hO7 hgb7 hb7 g6 hl6 q0 q1
          go_wp2_with fail
          go_roundw
          case rel => exact ⟨j + 1, by omega, by go_num, HI8⟩
          case measure => simp [intOf]; omega
        · have hjn : j = n4 := by omega
          subst hjn
          have hd2 : decide ((j : Int) < (j : Int)) = false := by simp
          obtain ⟨k1, k2, ⟨v, k3⟩, k4, k5⟩ := put_runs (x := ⟨xp, xf, xr⟩) (b5 := W4.heap.size) (HQ4.out.own.next HI.out.2) hlt HX.out HI4.out HI.out.1 (by intro b hb; simp only [List.mem_cons] at hb; rcases hb with rfl | rfl | rfl | hb <;> first | omega | (have := hS _ hb; omega))
          have HQ5 := Lib.hid (HQ4.out.next HI.out.2)
          have hg6 : wr.grownBy (wr.setCell ⟨g, k * 3 + 2, none⟩ (.slice A5 j c5)) (some g) := grown_set (grown_refl wr _) _ _
          have HQ6 : Hid (OR S w (wr.setCell ⟨g, k * 3 + 2, none⟩ (.slice A5 j c5)) #[.int .i64 kd, .int .i64 tx, .int .i64 pv, .int .i64 nx, .slice (some ⟨g, 0, none⟩) n c1, .int .i64 pact, .string puk, .int .i64 pst, .string pk, .int .i64 pkd, .slice Ap np cp, .int .i64 plo, .int .i64 phi, .int .i64 pva, .int .i64 pun] #[.int .i64 0, .int .i64 0, .int .i64 0, .int .i64 0, .slice none 0 0, .int .i64 0, .string ⟨#[]⟩, .int .i64 0, .string ⟨#[]⟩, .int .i64 0, .slice none 0 0, .int .i64 0, .int .i64 0, .int .i64 0, .int .i64 0] l (some ⟨g, 0, none⟩) n c1) := Lib.hid ⟨HQ5.out.box.grown hg6 (by omega), HQ5.out.res.grown hg6 (by omega), k5, below_grown HQ5.out.bel hg6 (by omega)⟩
          have u0 := str15 HQ5.out.box
          have ul0 := HQ5.out.box.lt
          clear k5 hg6
          go_wp2_with fail
          go_roundw
          case rel => exact ⟨k + 1, by omega, by go_num, HQ6⟩
          case measure => simp [intOf]; omega
    · have hkn : k = n := by omega
      subst hkn
      have hd : decide ((k : Int) < (k : Int)) = false := by simp
      go_wp2_with fail
      refine (CloneW.clone_own Ap np cp w.heap.size pda wr (HP.out.below HQ.out.bel) HQ.out.bel.size (by omega)).mono ?_
      rintro e Wa ⟨Aq, nq, cq, gq, rfl, hOq, hgq, hba⟩
      obtain rfl : np = nq := by rw [← HP.out.len, hOq.len]
      have hQa := HQ.out.next hba
      have ta := str15 hQa.box
      have tla := hQa.box.lt
      have tfa := fun j => hQa.box.frozen j
      obtain ⟨Wb, hWb⟩ : ∃ W, Wa.setCell ⟨w.heap.size, 10, none⟩ (.slice Aq np cq) = W := ⟨_, rfl⟩
      have hgb : Wa.grownBy Wb (some w.heap.size) := by rw [← hWb]; exact grown_set (grown_refl Wa _) 10 _
      have hbox : Str Wb w.heap.size #[.int .i64 kd, .int .i64 tx, .int .i64 pv, .int .i64 nx, .slice A1 k c1, .int .i64 pact, .string puk, .int .i64 pst, .string pk, .int .i64 pkd, .slice Aq np cq, .int .i64 plo, .int .i64 phi, .int .i64 pva, .int .i64 pun] := by have := hQa.box.set 10 (.slice Aq np cq); rw [← hWb]; simpa using this
      have HR : Str Wb (w.heap.size + 1) #[.int .i64 0, .int .i64 0, .int .i64 0, .int .i64 0, .slice none 0 0, .int .i64 0, .string ⟨#[]⟩, .int .i64 0, .string ⟨#[]⟩, .int .i64 0, .slice none 0 0, .int .i64 0, .int .i64 0, .int .i64 0, .int .i64 0] := hQa.res.grown hgb (by omega)
      have hAk := HA1.out
      have hrl := HQ.out.res.lt
      have hOb := hQa.own.keepHid hgb (by simp) (fun a e => by have := hAk a e; omega)
      have hqb := hOq.grown hgb (fun e => by have := hgq _ e; omega)
      obtain ⟨Wc, hWc⟩ : ∃ W, (((((((((((((((Wb).setCell ⟨w.heap.size + 1, 0, none⟩ (.int .i64 kd)).setCell ⟨w.heap.size + 1, 1, none⟩ (.int .i64 tx)).setCell ⟨w.heap.size + 1, 2, none⟩ (.int .i64 pv)).setCell ⟨w.heap.size + 1, 3, none⟩ (.int .i64 nx)).setCell ⟨w.heap.size + 1, 4, none⟩ (.slice A1 k c1)).setCell ⟨w.heap.size + 1, 5, none⟩ (.int .i64 pact)).setCell ⟨w.heap.size + 1, 6, none⟩ (.string puk)).setCell ⟨w.heap.size + 1, 7, none⟩ (.int .i64 pst)).setCell ⟨w.heap.size + 1, 8, none⟩ (.string pk)).setCell ⟨w.heap.size + 1, 9, none⟩ (.int .i64 pkd)).setCell ⟨w.heap.size + 1, 10, none⟩ (.slice Aq np cq)).setCell ⟨w.heap.size + 1, 11, none⟩ (.int .i64 plo)).setCell ⟨w.heap.size + 1, 12, none⟩ (.int .i64 phi)).setCell ⟨w.heap.size + 1, 13, none⟩ (.int .i64 pva)).setCell ⟨w.heap.size + 1, 14, none⟩ (.int .i64 pun) = W := ⟨_, rfl⟩
      have hgc : Wb.grownBy Wc (some (w.heap.size + 1)) := by rw [← hWc]; exact grown_set (grown_set (grown_set (grown_set (grown_set (grown_set (grown_set (grown_set (grown_set (grown_set (grown_set (grown_set (grown_set (grown_set (grown_set (grown_refl Wb _) 0 _) 1 _) 2 _) 3 _) 4 _) 5 _) 6 _) 7 _) 8 _) 9 _) 10 _) 11 _) 12 _) 13 _) 14 _
      have hres : Str Wc (w.heap.size + 1) #[.int .i64 kd, .int .i64 tx, .int .i64 pv, .int .i64 nx, .slice A1 k c1, .int .i64 pact, .string puk, .int .i64 pst, .string pk, .int .i64 pkd, .slice Aq np cq, .int .i64 plo, .int .i64 phi, .int .i64 pva, .int .i64 pun] := by
        have := (((((((((((((((HR).set 0 (.int .i64 kd)).set 1 (.int .i64 tx)).set 2 (.int .i64 pv)).set 3 (.int .i64 nx)).set 4 (.slice A1 k c1)).set 5 (.int .i64 pact)).set 6 (.string puk)).set 7 (.int .i64 pst)).set 8 (.string pk)).set 9 (.int .i64 pkd)).set 10 (.slice Aq np cq)).set 11 (.int .i64 plo)).set 12 (.int .i64 phi)).set 13 (.int .i64 pva)).set 14 (.int .i64 pun)
        rw [← hWc]; simpa using this
      have hOc := ((hOb.keepHid hgc (by simp) (fun a e => by have := hAk a e; omega)).elemsHid (fun a e hm => by have := hAk a e; simp only [List.mem_cons] at hm; rcases hm with h | h | h <;> first | omega | (have := hS _ h; omega))).sub (hideL_sub_of (bs' := S) fun k hk hn => ⟨by simp only [List.mem_cons, not_or] at hn; exact hn.2.2, rfl⟩)
      have hqc := (hqb.grown hgc (fun e => by have := hgq _ e; omega)).bytes
      have HFIN := Lib.hid (And.intro hOc (And.intro hqc (below_grown (below_grown hQa.bel hgb (Nat.le_refl _)) hgc (by omega))))
      have tb := str15 hbox
      have tlb := hbox.lt
      have tr := str15 HR
      have trf := fun j => HR.frozen j
      have trl := HR.lt
      have tz := str15 hres
      clear hOc hqc hgc hgb hres hOb hqb hOq hQa hbox HR u0 ul0 hba hgq hAk hrl
      go_wp2_with fail
      exact bodyPost_ret (v := .agg #[.int .i64 kd, .int .i64 tx, .int .i64 pv, .int .i64 nx, .slice A1 k c1, .int .i64 pact, .string puk, .int .i64 pst, .string pk, .int .i64 pkd, .slice Aq np cq, .int .i64 plo, .int .i64 phi, .int .i64 pva, .int .i64 pun]) (by simp [results, Tryz.results24, go_sem, *]) rfl ⟨A1, c1, Aq, cq, rfl, HFIN.out.1, HFIN.out.2.1, HFIN.out.2.2⟩
theorem own_any (kd tx pv nx : Int) (l : List PatchX) (pact : Int) (puk : ByteArray) (pst : Int) (pk : ByteArray) (pkd : Int) (pda : List UInt8) (plo phi pva pun : Int) (A : Option Addr) (n c : Nat) (Ap : Option Addr) (np cp : Nat) (w : World) (hE : Elems PatchE w w.heap.size A n c l) (hp : Bytes w w.heap.size Ap np cp pda) (hl : n ≤ 100) (hr : ∀ x ∈ l, x.runs.length ≤ 1000000) (hd : ∀ x ∈ l, ∀ r ∈ x.runs, r.data.length ≤ 1000000) (hnp : np ≤ 1000000) :
    Calls Tryz.prog 24 #[.agg #[.int .i64 kd, .int .i64 tx, .int .i64 pv, .int .i64 nx, .slice A n c, .int .i64 pact, .string puk, .int .i64 pst, .string pk, .int .i64 pkd, .slice Ap np cp, .int .i64 plo, .int .i64 phi, .int .i64 pva, .int .i64 pun]] w fun e w' => ∃ A1 c1 Aq cq, e = .returned (.agg #[.int .i64 kd, .int .i64 tx, .int .i64 pv, .int .i64 nx, .slice A1 n c1, .int .i64 pact, .string puk, .int .i64 pst, .string pk, .int .i64 pkd, .slice Aq np cq, .int .i64 plo, .int .i64 phi, .int .i64 pva, .int .i64 pun]) ∧ Elems PatchE w' w'.heap.size A1 n c1 l ∧ Bytes w' w'.heap.size Aq np cq pda ∧ Below w.heap.size w w' := by
  refine (own_hid kd tx pv nx l pact puk pst pk pkd pda plo phi pva pun A n c Ap np cp [] w (by simp) hE hp hl hr hd hnp).mono ?_
  rintro e w' ⟨A1, c1, Aq, cq, h1, h2, h3, h4⟩
  exact ⟨A1, c1, Aq, cq, h1, h2, h3, h4⟩
end Go.Proofs.YtpdfnlhhnodnjaaGreat.WalW
end
section
namespace Go.Proofs.YtpdfnlhhnodnjaaGreat.WalW
open Go.RowKit RecW
set_option linter.unusedVariables false
set_option linter.unusedSimpArgs false
end Go.Proofs.YtpdfnlhhnodnjaaGreat.WalW
end
