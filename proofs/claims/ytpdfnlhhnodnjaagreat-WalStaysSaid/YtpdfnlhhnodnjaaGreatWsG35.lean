/-
  Parts of the proof of WalStays.
-/
import Derived.Test.YtpdfnlhhnodnjaaGreatWsG15
import Derived.Test.YtpdfnlhhnodnjaaGreatWsG7
import Derived.Test.YtpdfnlhhnodnjaaGreatWsG3
import Derived.Test.YtpdfnlhhnodnjaaGreatWsG25
import Derived.Test.YtpdfnlhhnodnjaaGreatWsG27
import Derived.Test.YtpdfnlhhnodnjaaGreatWsG6
import Derived.Test.YtpdfnlhhnodnjaaGreatWsG32
import Derived.Test.YtpdfnlhhnodnjaaGreatWsG33
import Derived.Test.YtpdfnlhhnodnjaaGreatWsG34
section
namespace Go.Proofs.YtpdfnlhhnodnjaaGreat
open Go.RowKit
set_option linter.unusedVariables false
/-- what an element reads as hangs on no world -/
def El.Pure {α : Type} (E : El α) : Prop := ∀ w w' B B' vs x, E.rel w B vs x → E.rel w' B' vs x
theorem OwnE.grownP {α : Type} {E : El α} (hE : E.Pure) {T : TypeId} {w w' : World} {base n c : Nat} {A : Option Addr} {l : List α} {k : Option Nat} (h : OwnE E T w base A n c l) (hg : w.grownBy w' k) (hne : ∀ a, A = some a → k ≠ some a.block) : OwnE E T w' base A n c l := by
  obtain ⟨vs, ⟨h0, h1⟩, h2⟩ := h
  refine ⟨vs, ⟨h0, ?_⟩, h2.imp fun _ _ hr => hE _ _ _ _ _ _ hr⟩
  rcases h1 with e | ⟨g, cap, cur, e, hg2, hh, r⟩
  · exact .inl e
  · cases e
    refine .inr ⟨g, c, cur, rfl, hg2, ?_, r⟩
    exact (hg.block g (Array.getElem?_eq_some_iff.1 hh).1 (fun e => hne _ rfl e.symm)).trans hh
namespace Reg
/-- a row, the element that is to come behind it; who makes the row of one, who appends, who hands on; the slots -/
structure Row1 (α : Type) where
  E : El α
  T : TypeId
  base : Nat
  A : Option Addr
  n : Nat
  c : Nat
  l : List α
  x : α
  jr : Nat
  ja : Nat
  jf : Nat
  tr : Tmp
  ts : Tmp
  tf : Tmp
def Row1.Has {α : Type} (I : Row1 α) (N : Nat) (w : World) (A' : Option Addr) (c' : Nat) : Prop := OwnE I.E I.T w I.base A' (I.n + 1) c' (I.l ++ [I.x]) ∧ ∀ d, A' = some d → I.A = A' ∨ N ≤ d.block
def Row1.J {α : Type} (N : Nat) (I : Row1 α) : Word := fun listed a w =>
  (listed.getD I.ja false = false → OwnE I.E I.T w I.base I.A I.n I.c I.l ∧
    (listed.getD I.jr false = true → ∃ g vs, a.eval (.tmp I.tr) = .slice (some ⟨g, 0, none⟩) 1 1 ∧ N ≤ g ∧ Str w g vs.toArray ∧ I.E.rel w w.heap.size vs I.x)) ∧
  (listed.getD I.ja false = true → ∃ A' c', a.eval (.tmp I.ts) = .slice A' (I.n + 1) c' ∧ (listed.getD I.jf false = true → a.eval (.tmp I.tf) = .slice A' (I.n + 1) c') ∧ I.Has N w A' c') ∧
  (listed.getD I.jf false = true → listed.getD I.ja false = true)
def Row1.ok {α : Type} (I : Row1 α) (N k : Nat) : Prop := I.E.Pure ∧ I.jr ≠ I.ja ∧ I.jf ≠ I.ja ∧ I.jf ≠ I.jr ∧ I.tr ≠ I.ts ∧ I.tf ≠ I.ts ∧ I.tf ≠ I.tr ∧ I.jr < k ∧ I.ja < k ∧ I.jf < k
/-- an operation is none of the row's, and its slot none of its slots -/
def Row1.Off {α : Type} (I : Row1 α) (j : Nat) (d : Option Tmp) : Prop := j ≠ I.jr ∧ j ≠ I.ja ∧ j ≠ I.jf ∧ d ≠ some I.tr ∧ d ≠ some I.ts ∧ d ≠ some I.tf
/-- a block is none of the row's -/
def Row1.Out {α : Type} (I : Row1 α) (N : Nat) (k : Option Nat) : Prop := ∀ g, k = some g → g < N ∧ ∀ a, I.A = some a → a.block ≠ g
theorem Str.by_ {w w' : World} {b : Nat} {cs : Array Value} {k : Option Nat} (h : Str w b cs) (hg : w.grownBy w' k) (hk : k ≠ some b) : Str w' b cs := by
  have hl := h.lt
  obtain ⟨t, ht⟩ := h
  exact ⟨t, (hg.block b hl (fun e => hk e.symm)).trans ht⟩
section
variable {α β : Type} {I : Row1 α} {I2 : Row1 β} {N : Nat} {listed : Array Bool} {a : Act} {w w' : World} {j : Nat} {d : Option Tmp} {v : Value} {k : Option Nat}
theorem Row1.step (hE : I.E.Pure) (h : I.J N listed a w) (hj : I.Off j d) (hg : w.grownBy w' k) (ho : I.Out N k) : I.J N (listed.setIfInBounds j true) (a.put d v) w' := by
  obtain ⟨j1, j2, j3, d1, d2, d3⟩ := hj
  unfold Row1.J
  rw [getD_set_ne false j2, getD_set_ne false j1, getD_set_ne false j3, eval_ne d1, eval_ne d2, eval_ne d3]
  refine ⟨fun hf => ?_, fun ht => ?_, h.2.2⟩
  · obtain ⟨h1, h2⟩ := h.1 hf
    refine ⟨h1.grownP hE hg (fun ad e ek => (ho _ ek).2 ad e rfl), fun hr => ?_⟩
    obtain ⟨g, vs, e, hN, hs, hrel⟩ := h2 hr
    exact ⟨g, vs, e, hN, Str.by_ hs hg (fun ek => by have := (ho _ ek).1; omega), hE _ _ _ _ _ _ hrel⟩
  · obtain ⟨A', c', e, ef, h1, h2⟩ := h.2.1 ht
    refine ⟨A', c', e, ef, h1.grownP hE hg (fun ad e2 ek => ?_), h2⟩
    obtain ⟨k1, k2⟩ := ho _ ek
    rcases h2 ad e2 with e3 | e3
    · exact k2 ad (by rw [e3, e2]) rfl
    · omega
end
section
variable {α β : Type} {I : Row1 α} {I2 : Row1 β} {N : Nat} {bl : List Nat} {P : Program} {ops : Array Oper} {Q : Exit → Act → World → Prop} {T : List (SP (extB N bl))} {a0 : Act} {W : World} {j : Nat} {o : Oper} {s : List (Tmp × Option Nat)}
end
end Reg
end Go.Proofs.YtpdfnlhhnodnjaaGreat
end
section
namespace Go.Proofs.YtpdfnlhhnodnjaaGreat
open Go.RowKit
set_option linter.unusedVariables false
theorem IntE.pure : El.Pure IntE := fun _ _ _ _ _ _ h => h
/-- a record, as it was in a world -/
def Rec0 (w0 : World) : El RecX where
  size := 15
  pos := by decide
  rel w B vs x := RecE.rel w0 w0.heap.size vs x
  len h := RecE.len h
  one h := RecE.one h
  sub _ h := h
  more _ h := h
theorem Rec0.pure (w0 : World) : El.Pure (Rec0 w0) := fun _ _ _ _ _ _ h => h
theorem rec0_at {w0 w : World} {T : TypeId} {base n c k : Nat} {A : Option Addr} {l : List RecX} (h : OwnE (Rec0 w0) T w base A n c l) (hb : Below w0.heap.size w0 w) (hk : k < n) : ∃ b o x A1 n1 c1 A2 n2 c2, A = some ⟨b, o, none⟩ ∧ b < w.heap.size ∧ l[k]? = some x ∧ Elems PatchE w w0.heap.size A1 n1 c1 x.patches ∧ Bytes w w0.heap.size A2 n2 c2 x.undo.item.cell.data ∧ RecIn x ∧
    ∀ j v, (recV x A1 n1 c1 A2 n2 c2)[j]? = some v → w.cell? ⟨b, o + k * 15 + j, none⟩ = some v := by
  have hl : k < l.length := by rw [h.len]; exact hk
  obtain ⟨b, o, vs, e, hlt, ⟨A1, n1, c1, A2, n2, c2, rfl, hy, hy2, h1⟩, hc⟩ := h.elemsIn.at_ hk
  exact ⟨b, o, _, A1, n1, c1, A2, n2, c2, e, hlt, List.getElem?_eq_getElem hl, Elems.sub hy (sub_below hb), hy2.sub (sub_below hb), h1, hc⟩
namespace RowsW
/-- the three rows -/
structure Trio (w0 w : World) (gb : Option Nat) (A1 : Option Addr) (n1 c1 : Nat) (A2 : Option Addr) (c2 : Nat) (A3 : Option Addr) (c3 : Nat) (bs : List UInt8) (es : List Int) (ks : List RecX) (m : Nat) : Prop where
  bel : Below w0.heap.size w0 w
  all : OwnS w gb A1 n1 c1 bs
  ends : OwnE IntE 3 w w0.heap.size A2 m c2 es
  kept : OwnE (Rec0 w0) 40 w w0.heap.size A3 m c3 ks
  g0 : ∀ g, gb = some g → w0.heap.size ≤ g
  x12 : ∀ g a, gb = some g → A2 = some a → a.block ≠ g
  x13 : ∀ g a, gb = some g → A3 = some a → a.block ≠ g
  x23 : ∀ a b, A2 = some a → A3 = some b → b.block ≠ a.block
section
variable {w0 w w' : World} {gb : Option Nat} {A1 A2 A3 : Option Addr} {n1 c1 c2 c3 m : Nat} {bs : List UInt8} {es : List Int} {ks : List RecX}
theorem Trio.next (h : Trio w0 w gb A1 n1 c1 A2 c2 A3 c3 bs es ks m) (hb : Below w.heap.size w w') : Trio w0 w' gb A1 n1 c1 A2 c2 A3 c3 bs es ks m :=
  ⟨bstep h.bel hb, h.all.next hb, h.ends.next hb, h.kept.next hb, h.g0, h.x12, h.x13, h.x23⟩
theorem Trio.lt2 (h : Trio w0 w gb A1 n1 c1 A2 c2 A3 c3 bs es ks m) : ∀ a, A2 = some a → w0.heap.size ≤ a.block ∧ a.block < w.heap.size := fun a e => by
  refine ⟨h.ends.ge a e, ?_⟩
  obtain ⟨vs, ⟨h0, h1⟩, -⟩ := h.ends
  rcases h1 with ⟨e1, -⟩ | ⟨g, cap, cur, e1, h2, h3, -⟩
  · cases e1; cases e
  · cases e1; cases e; exact (Array.getElem?_eq_some_iff.1 h3).1
theorem Trio.lt3 (h : Trio w0 w gb A1 n1 c1 A2 c2 A3 c3 bs es ks m) : ∀ a, A3 = some a → w0.heap.size ≤ a.block ∧ a.block < w.heap.size := fun a e => by
  refine ⟨h.kept.ge a e, ?_⟩
  obtain ⟨vs, ⟨h0, h1⟩, -⟩ := h.kept
  rcases h1 with ⟨e1, -⟩ | ⟨g, cap, cur, e1, h2, h3, -⟩
  · cases e1; cases e
  · cases e1; cases e; exact (Array.getElem?_eq_some_iff.1 h3).1
/-- more bytes -/
theorem Trio.more {A' : Option Addr} {n' c' : Nat} {gb' : Option Nat} {l' : List UInt8} (h : Trio w0 w gb A1 n1 c1 A2 c2 A3 c3 bs es ks m) (h2 : OwnS w' gb' A' n' c' l') (hg : w.grownBy w' gb) (ho : gb' = gb ∨ gb' = some w.heap.size) : Trio w0 w' gb' A' n' c' A2 c2 A3 c3 l' es ks m := by
  have hsz := h.bel.size
  refine ⟨⟨hg.os.trans h.bel.os, hg.tape.trans h.bel.tape, hg.output.trans h.bel.output, Nat.le_trans hsz hg.size, fun k hk => (hg.block k (by omega) (fun e => by have := h.g0 k e.symm; omega)).trans (h.bel.block k hk)⟩, h2,
    h.ends.grownP IntE.pure hg (fun a e ek => h.x12 _ a ek e rfl), h.kept.grownP (Rec0.pure w0) hg (fun a e ek => h.x13 _ a ek e rfl), fun g e => ?_, fun g a e ea => ?_, fun g a e ea => ?_, h.x23⟩
  · rcases ho with e1 | e1
    · exact h.g0 g (by rw [← e1]; exact e)
    · rw [e1] at e; cases e; exact hsz
  · rcases ho with e1 | e1
    · exact h.x12 g a (by rw [← e1]; exact e) ea
    · rw [e1] at e; cases e; have := (h.lt2 a ea).2; omega
  · rcases ho with e1 | e1
    · exact h.x13 g a (by rw [← e1]; exact e) ea
    · rw [e1] at e; cases e; have := (h.lt3 a ea).2; omega
end
end RowsW
end Go.Proofs.YtpdfnlhhnodnjaaGreat
end
section
namespace Go.Proofs.YtpdfnlhhnodnjaaGreat.WalW
open Go.RowKit Go.Maps RecW RowsP
set_option linter.unusedVariables false
/-- a device whose log is these records; so many of them are sure -/
structure XOk (X : DevX) (K : List RecX) (safe : Nat) (o : Int) : Prop where
  h : X.head = 0
  l : X.log = allB K
  f : X.off = false
  u : X.fused = false
  o : X.ops ≤ o
  w : X.wr = 0
  s : X.sure = ((at_ K safe : Nat) : Int)
theorem at_app {K : List RecX} {x : RecX} {i : Nat} (h : i ≤ K.length) : at_ (K ++ [x]) i = at_ K i := by unfold at_; rw [List.take_append_of_le_length h]
section
variable {X : DevX} {K : List RecX} {safe : Nat} {o : Int}
theorem XOk.app (h : XOk X K safe o) {x : RecX} (hs : safe ≤ K.length) : XOk (appX X (RecP.bytes x)) (K ++ [x]) safe (o + 1) :=
  ⟨h.h, by show X.log ++ _ = _; rw [h.l, allB_app], h.f, h.u, by show X.ops + 1 ≤ _; have := h.o; omega, h.w, by show X.sure = _; rw [h.s, at_app hs]⟩
theorem XOk.flush (h : XOk X K safe o) : XOk (flushX X) K K.length (o + 1) :=
  ⟨h.h, h.l, h.f, h.u, by show X.ops + 1 ≤ _; have := h.o; omega, h.w, by show X.head + ((X.log.length : Nat) : Int) = _; rw [h.h, h.l, at_all]; omega⟩
theorem XOk.more (h : XOk X K safe o) {o' : Int} (ho : o ≤ o') : XOk X K safe o' := ⟨h.h, h.l, h.f, h.u, Int.le_trans h.o ho, h.w, h.s⟩
theorem fit_len {K : List RecX} (hK : ∀ x ∈ K, RecP.fits x = true ∧ RecIn x) : (allB K).length ≤ K.length * 65537 := allB_len fun x hx => (fits_small (hK x hx).1).2
theorem XOk.small (h : XOk X K safe o) (hK : ∀ x ∈ K, RecP.fits x = true ∧ RecIn x) (ho : o ≤ 1000) (hl : K.length ≤ 1000) : DevP.Small X := by
  have h1 := fit_len hK
  have h2 := h.o
  refine ⟨by omega, ?_, by rw [h.w]; omega⟩
  rw [h.h, h.l]
  omega
/-- behind a failure of the power -/
theorem XOk.crash (h : XOk X K safe o) (hs : safe ≤ K.length) (m : Int) : ∃ cut, cut ≤ (allB K).length ∧ at_ K safe ≤ cut ∧ (((allB K).length : Int) ≤ m → cut = (allB K).length) ∧ (DevP.crashed X m).log = (allB K).take cut ∧ (DevP.crashed X m).head = 0 ∧ (DevP.crashed X m).off = false ∧ (DevP.crashed X m).fused = false ∧ (DevP.crashed X m).ops ≤ o ∧ (DevP.crashed X m).wr = 0 := by
  have h1 := at_le K safe
  have h2 := h.s
  have h3 := h.h
  have h4 : X.log.length = (allB K).length := by rw [h.l]
  have hst : DevP.stay X m = min (max m 0) (((allB K).length : Int) - ((at_ K safe : Nat) : Int)) := by
    unfold DevP.stay
    rw [h2, h3, h4]
    simp
  refine ⟨(X.sure + DevP.stay X m - X.head).toNat, ?_, ?_, ?_, ?_, h.h, rfl, rfl, h.o, h.w⟩
  · rw [hst, h2, h3]; omega
  · rw [hst, h2, h3]; omega
  · intro hm; rw [hst, h2, h3]; omega
  · show X.log.take _ = _; rw [h.l]
end
/-- none of a log's blocks -/
def Free (lb mb : Nat) (A : Option Addr) (bs : List Nat) (g : Nat) : Prop := g ≠ lb ∧ g ≠ mb ∧ (∀ a, A = some a → a.block ≠ g) ∧ g ∉ bs
theorem Offs.free {w w' : World} {lb mb g : Nat} {A A' : Option Addr} {bs bs' : List Nat} (h : Offs w w' lb mb A bs A' bs') (hg : g < w.heap.size) (hf : Free lb mb A bs g) : w'.heap[g]? = w.heap[g]? ∧ Free lb mb A' bs' g := by
  obtain ⟨h1, h2, h3⟩ := h g hg hf.1 hf.2.1 hf.2.2.1 hf.2.2.2
  exact ⟨h1, hf.1, hf.2.1, h2, h3⟩
theorem LogIn.keepL {w w' : World} {lb d mb nm n c : Nat} {A : Option Addr} {bs b0 : List Nat} {X : DevX} {L : MapP.T Int (Array Value)} {lim kept forced : Int} {ps : List Int} (h : LogIn w lb d mb nm A n c bs X L lim kept forced ps) (k : Reg.KeepB w.heap.size b0 w w') (hn : ∀ g ∈ b0, Free lb mb A bs g) : LogIn w' lb d mb nm A n c bs X L lim kept forced ps :=
  ⟨h.box.keepB k (fun hm => (hn _ hm).1 rfl), h.dev.keepB k (fun b hb hm => (hn b hb).2.2.2 hm), h.map.at_ (k.block _ h.map.lt (fun hm => (hn _ hm).2.1 rfl)), IntE.at_ h.row (fun a e => k.block _ (IntE.lt h.row a e) (fun hm => (hn _ hm).2.2.1 a e rfl)), h.n1, h.n2, h.n3, h.n4⟩
/-- what WalStays's rounds keep -/
structure SI (w wr : World) (rb ab lb d mb ml m safe : Nat) (A : Option Addr) (c : Nat) (bs : List Nat) (X : DevX) (L : MapP.T Int (Array Value)) (ps : List Int) (Aa : Option Addr) (ca : Nat) (K KX : List RecX) (o : Int) : Prop where
  bel : Below w.heap.size w wr
  rbs : Str wr rb #[.bool false]
  abs_ : Str wr ab #[.slice Aa m ca]
  row : OwnE (Rec0 w) 40 wr 0 Aa m ca K
  log : LogIn wr lb d mb ml A ml c bs X L 1048576 0 X.sure ps
  hi : Hi w.heap.size lb mb A bs
  x : XOk X KX safe o
  fit : ∀ x ∈ KX, RecP.fits x = true ∧ RecIn x
  sm : safe ≤ m
  f1 : Free lb mb A bs rb
  f2 : Free lb mb A bs ab
  f3 : ∀ a, Aa = some a → Free lb mb A bs a.block ∧ a.block ≠ rb ∧ a.block ≠ ab ∧ w.heap.size ≤ a.block
  d1 : rb ≠ ab
  l1 : w.heap.size ≤ rb
  l2 : w.heap.size ≤ ab
section
variable {w wr wr' : World} {rb ab lb d mb ml m safe c ca : Nat} {A Aa : Option Addr} {bs : List Nat} {X : DevX} {L : MapP.T Int (Array Value)} {ps : List Int} {K KX : List RecX} {o : Int}
theorem SI.next (h : SI w wr rb ab lb d mb ml m safe A c bs X L ps Aa ca K KX o) (hb : Below wr.heap.size wr wr') : SI w wr' rb ab lb d mb ml m safe A c bs X L ps Aa ca K KX o :=
  ⟨bstep h.bel hb, h.rbs.next hb, h.abs_.next hb, h.row.next hb, h.log.next hb, h.hi, h.x, h.fit, h.sm, h.f1, h.f2, h.f3, h.d1, h.l1, h.l2⟩
theorem SI.more (h : SI w wr rb ab lb d mb ml m safe A c bs X L ps Aa ca K KX o) {o' : Int} (ho : o ≤ o') : SI w wr rb ab lb d mb ml m safe A c bs X L ps Aa ca K KX o' :=
  ⟨h.bel, h.rbs, h.abs_, h.row, h.log, h.hi, h.x.more ho, h.fit, h.sm, h.f1, h.f2, h.f3, h.d1, h.l1, h.l2⟩
/-- the log alone has turned -/
theorem SI.told {ml' safe' c' : Nat} {A' : Option Addr} {bs' : List Nat} {X' : DevX} {L' : MapP.T Int (Array Value)} {ps' : List Int} {KX' : List RecX} {o' : Int} (h : SI w wr rb ab lb d mb ml m safe A c bs X L ps Aa ca K KX o) (hb : Below w.heap.size wr wr') (hl : LogIn wr' lb d mb ml' A' ml' c' bs' X' L' 1048576 0 X'.sure ps') (hh : Hi w.heap.size lb mb A' bs') (ho : Offs wr wr' lb mb A bs A' bs') (hx : XOk X' KX' safe' o') (hf : ∀ x ∈ KX', RecP.fits x = true ∧ RecIn x) (hs : safe' ≤ m) : SI w wr' rb ab lb d mb ml' m safe' A' c' bs' X' L' ps' Aa ca K KX' o' := by
  obtain ⟨e1, f1⟩ := Offs.free ho h.rbs.lt h.f1
  obtain ⟨e2, f2⟩ := Offs.free ho h.abs_.lt h.f2
  refine ⟨h.bel.trans hb, Str.kp h.rbs e1, Str.kp h.abs_ e2, ?_, hl, hh, hx, hf, hs, f1, f2, fun a e => ?_, h.d1, h.l1, h.l2⟩
  · obtain ⟨vs, g1, g2⟩ := h.row
    exact ⟨vs, own_at g1 (fun a e => (Offs.free ho (OwnE.blt h.row a e) (h.f3 a e).1).1), g2.imp fun _ _ hr => (Rec0 w).more (Nat.le_trans (Nat.le_refl _) hb.size) (Rec0.pure w _ _ _ _ _ _ hr)⟩
  · have h3 := h.f3 a e
    exact ⟨(Offs.free ho (OwnE.blt h.row a e) h3.1).2, h3.2⟩
/-- a record comes to the row -/
theorem SI.push {Aa' : Option Addr} {ca' : Nat} {K' : List RecX} (h : SI w wr rb ab lb d mb ml m safe A c bs X L ps Aa ca K KX o) (k : Reg.KeepB wr.heap.size (ab :: (Aa.map (·.block)).toList) wr wr') (ha : Str wr' ab #[.slice Aa' (m + 1) ca']) (hr : OwnE (Rec0 w) 40 wr' 0 Aa' (m + 1) ca' K') (hn : ∀ p, Aa' = some p → Aa = some p ∨ wr.heap.size ≤ p.block) : SI w wr' rb ab lb d mb ml (m + 1) safe A c bs X L ps Aa' ca' K' KX o := by
  have hmem : ∀ g ∈ ab :: (Aa.map (·.block)).toList, g = ab ∨ ∃ a, Aa = some a ∧ a.block = g := fun g hg => by
    rcases List.mem_cons.1 hg with e | e
    · exact .inl e
    · obtain ⟨a, e1, e2⟩ := Option.map_eq_some_iff.1 (Option.mem_toList.1 e)
      exact .inr ⟨a, e1, e2⟩
  have hwr := h.bel.size
  refine ⟨h.bel.trans (k.below h.bel.size fun g hg => ?_), h.rbs.keepB k (fun hm => ?_), ha, hr, h.log.keepL k (fun g hg => ?_), h.hi, h.x, h.fit, Nat.le_succ_of_le h.sm, h.f1, h.f2, fun a e => ?_, h.d1, h.l1, h.l2⟩
  · rcases hmem g hg with e | ⟨a, e1, e2⟩
    · rw [e]; exact h.l2
    · rw [← e2]; exact (h.f3 a e1).2.2.2
  · rcases hmem _ hm with e | ⟨a, e1, e2⟩
    · exact h.d1 e
    · exact (h.f3 a e1).2.1 e2
  · rcases hmem g hg with e | ⟨a, e1, e2⟩
    · rw [e]; exact h.f2
    · rw [← e2]; exact (h.f3 a e1).1
  · rcases hn a e with e1 | e1
    · exact h.f3 a e1
    · have h1 := h.rbs.lt
      have h2 := h.abs_.lt
      refine ⟨⟨?_, ?_, fun a2 e2 => ?_, fun hm => ?_⟩, by omega, by omega, by omega⟩
      · have := h.log.box.lt; omega
      · have := h.log.map.lt; omega
      · have := IntE.lt h.log.row a2 e2; omega
      · have := h.log.dev.lt _ hm; omega
end
theorem small_cut {X : DevX} {K : List RecX} {cut n : Nat} {o : Int} (hl : X.log = (allB K).take cut) (hh : X.head = 0) (ho : X.ops ≤ o) (hw : X.wr = 0) (hK : ∀ x ∈ K, RecP.fits x = true ∧ RecIn x) (h1 : o ≤ 1000) (h2 : K.length ≤ 1000) (hf : X.fused = false) : DevP.Small X ∧ DevP.Small (cutD X n) := by
  have h3 := fit_len hK
  have h4 : X.log.length ≤ (allB K).length := by rw [hl, List.length_take]; omega
  refine ⟨⟨by omega, by rw [hh]; omega, by rw [hw]; omega⟩, ?_, ?_, ?_⟩
  · show X.ops + 1 ≤ _; omega
  · show X.head + (((X.log.take n).length : Nat) : Int) ≤ _
    rw [hh, List.length_take]; omega
  · show X.wr ≤ _; rw [hw]; omega
theorem rec0_keep {w0 w w' : World} {T : TypeId} {base n c : Nat} {A : Option Addr} {l : List RecX} (h : OwnE (Rec0 w0) T w base A n c l) (hb : ∀ a, A = some a → w'.heap[a.block]? = w.heap[a.block]?) (hs : w.heap.size ≤ w'.heap.size) : OwnE (Rec0 w0) T w' base A n c l := by
  obtain ⟨vs, g1, g2⟩ := h
  exact ⟨vs, own_at g1 hb, g2.imp fun _ _ hr => (Rec0 w0).more hs (Rec0.pure w0 _ _ _ _ _ _ hr)⟩
theorem rec0_obj {w0 w : World} {T : TypeId} {base n c : Nat} {A : Option Addr} {l : List RecX} (h : OwnE (Rec0 w0) T w base A n c l) : ∀ a, A = some a → ∃ cs t f, w.heap[a.block]? = some (.cells cs t f) := by
  intro a e
  obtain ⟨vs, h1, -⟩ := h
  rcases h1.2 with ⟨e1, -⟩ | ⟨g, cap, cur, e1, -, hh, -⟩
  · cases e1; cases e
  · cases e1; cases e; exact ⟨_, _, _, hh⟩
/-- what stays behind the first loop -/
structure TI (w W : World) (rb ab m : Nat) (Aa : Option Addr) (ca : Nat) (K : List RecX) : Prop where
  bel : Below w.heap.size w W
  rbs : Str W rb #[.bool false]
  abs_ : Str W ab #[.slice Aa m ca]
  row : OwnE (Rec0 w) 40 W 0 Aa m ca K
section
variable {w W W' : World} {rb ab m ca nb M : Nat} {Aa : Option Addr} {K : List RecX}
theorem TI.next (h : TI w W rb ab m Aa ca K) (hb : Below W.heap.size W W') : TI w W' rb ab m Aa ca K := ⟨bstep h.bel hb, h.rbs.next hb, h.abs_.next hb, h.row.next hb⟩
theorem TI.keep {b0 : List Nat} (h : TI w W rb ab m Aa ca K) (k : Reg.KeepB W.heap.size b0 W W') (h0 : ∀ b ∈ b0, w.heap.size ≤ b) (h1 : rb ∉ b0) (h2 : ab ∉ b0) (h3 : ∀ a, Aa = some a → a.block ∉ b0) : TI w W' rb ab m Aa ca K :=
  ⟨h.bel.trans (k.below h.bel.size h0), h.rbs.keepB k h1, h.abs_.keepB k h2, rec0_keep h.row (fun a e => k.block _ (OwnE.blt h.row a e) (h3 a e)) k.size⟩
theorem TI.grown {g : Nat} (h : TI w W rb ab m Aa ca K) (hg : W.grownBy W' (some g)) (h0 : w.heap.size ≤ g) (h1 : rb ≠ g) (h2 : ab ≠ g) (h3 : ∀ a, Aa = some a → a.block ≠ g) : TI w W' rb ab m Aa ca K :=
  ⟨below_grown h.bel hg h0, h.rbs.grown hg h1, h.abs_.grown hg h2, rec0_keep h.row (fun a e => hg.block _ (OwnE.blt h.row a e) (fun e2 => by injection e2 with e2; exact h3 a e e2)) hg.size⟩
theorem TI.obj {l : Nat} {o : Obj} (h : TI w W rb ab m Aa ca K) (hl : W.heap[l]? = some o) (hc : ∀ cs t f, o ≠ .cells cs t f) (o' : Obj) (h0 : w.heap.size ≤ l) : TI w (W.putObj l o') rb ab m Aa ca K := by
  refine h.grown (grownBy_putObj' W l o') h0 (fun e => ?_) (fun e => ?_) (fun a e e2 => ?_)
  · obtain ⟨t, ht⟩ := h.rbs
    rw [e, hl] at ht; cases ht; exact hc _ _ _ rfl
  · obtain ⟨t, ht⟩ := h.abs_
    rw [e, hl] at ht; cases ht; exact hc _ _ _ rfl
  · obtain ⟨cs, t, f, ht⟩ := rec0_obj h.row a e
    rw [e2, hl] at ht; cases ht; exact hc _ _ _ rfl
/-- what the second loop's rounds keep -/
structure AJ (w : World) (M rb ab nb m : Nat) (Aa : Option Addr) (ca : Nat) (K : List RecX) (cnt : Nat) (W : World) : Prop where
  ti : TI w W rb ab m Aa ca K
  nbs : Str W nb #[.int .i64 (cnt : Int)]
  up : M ≤ W.heap.size
theorem AJ.next {cnt : Nat} (h : AJ w M rb ab nb m Aa ca K cnt W) (hb : Below W.heap.size W W') : AJ w M rb ab nb m Aa ca K cnt W' := ⟨h.ti.next hb, h.nbs.next hb, Nat.le_trans h.up hb.size⟩
theorem AJ.obj {cnt l : Nat} {o : Obj} (h : AJ w M rb ab nb m Aa ca K cnt W) (hl : W.heap[l]? = some o) (hc : ∀ cs t f, o ≠ .cells cs t f) (o' : Obj) (h0 : w.heap.size ≤ l) : AJ w M rb ab nb m Aa ca K cnt (W.putObj l o') := by
  have hg := grownBy_putObj' W l o'
  refine ⟨h.ti.obj hl hc o' h0, h.nbs.grown hg (fun e => ?_), Nat.le_trans h.up hg.size⟩
  obtain ⟨t, ht⟩ := h.nbs
  rw [e, hl] at ht; cases ht; exact hc _ _ _ rfl
/-- a record that was handed out, in its box -/
def LX2 (w : World) (M rb ab nb m : Nat) (Aa : Option Addr) (ca : Nat) (K K2 : List RecX) (a1 : Int → Array Value → Nat → Act) (pre : List (Int × Array Value)) (x1 : Int) (x2 : Array Value) (a' : Act) (W : World) : Prop :=
  ∃ (y : RecX) (xb : Nat), AJ w M rb ab nb m Aa ca K pre.length W ∧ K2[pre.length]? = some y ∧ RecE.rel W W.heap.size x2.toList y ∧ M ≤ xb ∧ Str W xb x2 ∧ a' = a1 x1 x2 xb
theorem LX2.loop {K2 : List RecX} {a1 : Int → Array Value → Nat → Act} {pre : List (Int × Array Value)} {x1 : Int} {x2 : Array Value} {a' : Act} (h : LX2 w M rb ab nb m Aa ca K K2 a1 pre x1 x2 a' W) {l : Nat} {r : Loop} (hl : W.heap[l]? = some (.loop r)) (h0 : w.heap.size ≤ l) (o' : Obj) : LX2 w M rb ab nb m Aa ca K K2 a1 pre x1 x2 a' (W.putObj l o') := by
  obtain ⟨y, xb, h1, h2, h3, h4, h5, h6⟩ := h
  have hg := grownBy_putObj' W l o'
  refine ⟨y, xb, h1.obj hl (fun _ _ _ e => by cases e) o' h0, h2, RecE.more hg.size (RecE.sub (sub_loop (S := []) hl o') h3), h4, h5.grown hg (fun e => ?_), h6⟩
  obtain ⟨t, ht⟩ := h5
  rw [e, hl] at ht; cases ht
theorem KpA.loop {l : Nat} {r : Loop} (hl : W.heap[l]? = some (.loop r)) (o' : Obj) : KpA nb W (W.putObj l o') :=
  ⟨(grownBy_putObj' W l o').size, fun k o hn ho hc => ((grownBy_putObj' W l o').block k (Array.getElem?_eq_some_iff.1 ho).1 (fun e => by injection e with e; subst e; rw [hl] at ho; cases ho; exact hc r rfl)).trans ho⟩
theorem KpA.next (hb : Below W.heap.size W W') : KpA nb W W' := ⟨hb.size, fun k o hn ho hc => (hb.block k (Array.getElem?_eq_some_iff.1 ho).1).trans ho⟩
theorem KpA.turn (hg : W.grownBy W' (some nb)) : KpA nb W W' := ⟨hg.size, fun k o hn ho hc => (hg.block k (Array.getElem?_eq_some_iff.1 ho).1 (fun e => by injection e with e; exact hn e)).trans ho⟩
end
end Go.Proofs.YtpdfnlhhnodnjaaGreat.WalW
end
