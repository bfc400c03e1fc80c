/-
  Parts of the proof of PlanPuts.
-/
import Derived.Test.YtpklclnehlgcpaaGreatPlanP4
import Derived.Test.YtpklclnehlgcpaaGreatPlanP1
import Derived.Lib.Overlaps
import Derived.Test.YtpklclnehlgcpaaGreatPlanP3
import Derived.Test.YtpklclnehlgcpaaGreatPlanP0
import Derived.Test.YtpklclnehlgcpaaGreatPlanP2
import Derived.Deep.AppendSrc
import Derived.Deep.Upon
import Derived.Deep.MidRow
import Derived.Laws.IdiomCopy
section
namespace Go.Proofs.YtpklclnehlgcpaaGreat
open Go.RowKit
set_option linter.unusedVariables false
section
variable {α : Type} {E : El α} {T : TypeId} {w : World} {base n c : Nat} {A : Option Addr} {l : List α}
theorem OwnE.insRoom {P : Program} (t ti : TypeId) (i : TypeInfo) (ht : P.underlying t = some (.slice T)) (hi : P.info? T = some i) (hs : i.size = E.size)
    (h : OwnE E T w base A n c l) (k : Nat) (hk : k < n) (hc : n < c) {b o cv : Nat} {x : α} (hv : ElemsIn E (hid A w) w w.heap.size (some ⟨b, o, none⟩) 1 cv [x]) (hne : ∀ a, A = some a → b ≠ a.block) :
    ∃ g wA wB, A = some ⟨g, 0, none⟩ ∧ base ≤ g ∧ g < w.heap.size ∧
      (cpSem #[t, t] ti #[.slice (cutA (cutA A 0 c E.size) (k + 1) c E.size) (n + 1 - (k + 1)) (c - (k + 1)), .slice (cutA (cutA A 0 c E.size) k c E.size) (n + 1 - k) (c - k)]).run P w.drew = .ok (.int .i64 ((n - k : Nat) : Int)) wA ∧
      (cpSem #[t, t] ti #[.slice (cutA (cutA A 0 c E.size) k c E.size) (n + 1 - k) (c - k), .slice (some ⟨b, o, none⟩) 1 cv]).run P wA = .ok (.int .i64 1) wB ∧
      OwnE E T wB base A (n + 1) c (l.take k ++ x :: l.drop k) ∧ w.grownBy wB (some g) ∧ wB.heap.size = w.heap.size ∧ (∃ cells, w.heap[g]? = some (.cells cells T (0, 0)) ∧ cells.size = c * E.size) := by
  have hlen := h.len
  obtain ⟨g, cur, vs, rfl, hg, hh, hnc, hm, hcs, hx, hr, hvl⟩ := h.row (by omega)
  have hgl := (Array.getElem?_eq_some_iff.1 hh).1
  have hall := hr.all
  have hsz : 0 < E.size := E.pos
  have hbg : b ≠ g := hne _ rfl
  obtain ⟨vv, hrv, hlv, -, -, hxv⟩ := hv
  obtain ⟨b', o', e, hbl, hcv⟩ := hxv (by omega)
  cases e
  have hvv : vv.flatten.length = E.size := by rw [hrv.flat (fun _ _ => E.len)]; simp
  have hTl : (vs.take k).flatten.length = k * E.size := by rw [(hr.take k).flat (fun _ _ => E.len), List.length_take, hlen, Nat.min_eq_left (by omega)]
  have hDl : (vs.drop k).flatten.length = (n - k) * E.size := by rw [(hr.drop k).flat (fun _ _ => E.len)]; simp [hlen]
  have hfl : vs.flatten = (vs.take k).flatten ++ (vs.drop k).flatten := by rw [← List.flatten_append, List.take_append_drop]
  have hcl : cur.toList.length = c * E.size := by simpa using hcs
  have hm1 : c * E.size = n * E.size + (E.size + (c - (n + 1)) * E.size) := by
    rw [show c = n + (1 + (c - (n + 1))) by omega, Nat.add_mul, Nat.add_mul, Nat.one_mul]
    congr 3; omega
  obtain ⟨z1, z2, hz, hz1, hz2⟩ : ∃ z1 z2 : List Value, cur.toList.drop (n * E.size) = z1 ++ z2 ∧ z1.length = E.size ∧ z2.length = (c - (n + 1)) * E.size :=
    ⟨(cur.toList.drop (n * E.size)).take E.size, (cur.toList.drop (n * E.size)).drop E.size, (List.take_append_drop _ _).symm, by simp only [List.length_take, List.length_drop]; omega, by simp only [List.length_drop]; omega⟩
  have hcur : cur.toList = (vs.take k).flatten ++ ((vs.drop k).flatten ++ (z1 ++ z2)) := by
    rw [← List.append_assoc, ← hfl, ← hx, ← hz, List.take_append_drop]
  have hpart : ((vs.drop k).flatten ++ z1).length = E.size + (n - k) * E.size := by rw [List.length_append, hDl, hz1]; omega
  obtain ⟨m1, m2, hmm, hm1l, hm2l⟩ : ∃ m1 m2 : List Value, (vs.drop k).flatten ++ z1 = m1 ++ m2 ∧ m1.length = E.size ∧ m2.length = (n - k) * E.size :=
    ⟨((vs.drop k).flatten ++ z1).take E.size, ((vs.drop k).flatten ++ z1).drop E.size, (List.take_append_drop _ _).symm, by rw [List.length_take, hpart]; omega, by rw [List.length_drop, hpart]; omega⟩
  have hcur2 : cur.toList = (vs.take k).flatten ++ (m1 ++ (m2 ++ z2)) := by
    rw [hcur, ← List.append_assoc (vs.drop k).flatten, hmm, List.append_assoc]
  -- the first copy
  have hk1 : cutA (cutA (some ⟨g, 0, none⟩) 0 c E.size) (k + 1) c E.size = some ⟨g, (k + 1) * E.size, none⟩ := by rw [cutA_zero, cutA_pos (by omega), Nat.zero_add]
  have hk0 : cutA (cutA (some ⟨g, 0, none⟩) 0 c E.size) k c E.size = some ⟨g, k * E.size, none⟩ := by rw [cutA_zero, cutA_pos (by omega), Nat.zero_add]
  have hmin1 : Nat.min (n + 1 - k) (n + 1 - (k + 1)) = n - k := by
    show min _ _ = _
    omega
  have hks : (k + 1) * E.size = k * E.size + E.size := by rw [Nat.add_mul, Nat.one_mul]
  have hnk : k * E.size + (n - k) * E.size = n * E.size := by rw [← Nat.add_mul]; congr 1; omega
  have hcp1 := run_copy_k (P := P) (w := w.drew) t t ti T E.size ht (by rw [hi]; simp [hs]) (g := g) (off := (k + 1) * E.size) (dLen := n + 1 - (k + 1)) (dCap := c - (k + 1)) (cur := cur) (t := T) hh (a := ⟨g, k * E.size, none⟩) (sLen := n + 1 - k) (sCap := c - k) (cs := (vs.drop k).flatten) (by rw [hmin1]; exact hDl)
    (by
      intro j u hu
      rw [add_none]
      show w.cell? _ = _
      have hj := (List.getElem?_eq_some_iff.1 hu).1
      simp only [World.cell?, hh]
      have : cur.toList[k * E.size + j]? = some u := by
        rw [hcur, List.getElem?_append_right (by rw [hTl]; omega), hTl, Nat.add_sub_cancel_left, List.getElem?_append_left hj]
        exact hu
      simpa using this)
    (by rw [hDl, hcs]; omega) (fun u hu => Rel2.one (hr.drop k) u hu)
  rw [hmin1] at hcp1
  have e1 : overV cur.toList ((k + 1) * E.size) (vs.drop k).flatten = (vs.take k).flatten ++ (m1 ++ ((vs.drop k).flatten ++ z2)) := by
    have := over_mid ((vs.take k).flatten ++ m1) m2 z2 (vs.drop k).flatten (by rw [hm2l, hDl])
    rw [List.length_append, hTl, hm1l, ← hks] at this
    rw [hcur2, ← List.append_assoc, this, List.append_assoc]
  rw [e1] at hcp1
  have hB := setRow_heap w.drew g cur ((vs.take k).flatten ++ (m1 ++ ((vs.drop k).flatten ++ z2))).toArray T _ hh
  have hcp2 := run_copy_k (P := P) (w := w.drew.setRow g ((vs.take k).flatten ++ (m1 ++ ((vs.drop k).flatten ++ z2))).toArray) t t ti T E.size ht (by rw [hi]; simp [hs]) (g := g) (off := k * E.size) (dLen := n + 1 - k) (dCap := c - k) hB (a := ⟨b, o, none⟩) (sLen := 1) (sCap := cv) (cs := vv.flatten) (by rw [hvv, show Nat.min 1 (n + 1 - k) = 1 from Nat.min_eq_left (by omega), Nat.one_mul])
    (by
      intro j u hu
      rw [add_none]
      exact (World.cell?_of_block (a := ⟨b, o + j, none⟩) (setRow_other w.drew g b _ hbg)).trans (hcv j u hu))
    (by simp only [List.size_toArray, List.length_append, hTl, hm1l, hvv]; omega) (Rel2.one hrv)
  rw [show Nat.min 1 (n + 1 - k) = 1 from Nat.min_eq_left (by omega)] at hcp2
  have e2 : overV ((vs.take k).flatten ++ (m1 ++ ((vs.drop k).flatten ++ z2))) (k * E.size) vv.flatten = (vs.take k).flatten ++ (vv.flatten ++ ((vs.drop k).flatten ++ z2)) := by
    have := over_mid (vs.take k).flatten m1 ((vs.drop k).flatten ++ z2) vv.flatten (by rw [hm1l, hvv])
    rw [hTl] at this
    exact this
  rw [show (((vs.take k).flatten ++ (m1 ++ ((vs.drop k).flatten ++ z2))).toArray).toList = (vs.take k).flatten ++ (m1 ++ ((vs.drop k).flatten ++ z2)) from by simp, e2] at hcp2
  have hC := setRow_heap (w.drew.setRow g ((vs.take k).flatten ++ (m1 ++ ((vs.drop k).flatten ++ z2))).toArray) g _ ((vs.take k).flatten ++ (vv.flatten ++ ((vs.drop k).flatten ++ z2))).toArray T _ hB
  have hzz : ((w.drew.setRow g ((vs.take k).flatten ++ (m1 ++ ((vs.drop k).flatten ++ z2))).toArray).setRow g ((vs.take k).flatten ++ (vv.flatten ++ ((vs.drop k).flatten ++ z2))).toArray).heap.size = w.heap.size := (sz_setRow _ _ _).trans (sz_setRow _ _ _)
  refine ⟨g, _, _, rfl, hg, hgl, by rw [hk1, hk0]; exact hcp1, by rw [hk0]; exact hcp2, ?_, ?_, hzz, ⟨cur, hh, hcs⟩⟩
  · have hsub : Sub w.heap.size (hide w g) (hide ((w.drew.setRow g ((vs.take k).flatten ++ (m1 ++ ((vs.drop k).flatten ++ z2))).toArray).setRow g ((vs.take k).flatten ++ (vv.flatten ++ ((vs.drop k).flatten ++ z2))).toArray) g) :=
      hide_sub_of fun q _ hq => (setRow_other _ g q _ hq).trans (setRow_other _ g q _ hq)
    have hrel : Rel2 (E.rel (hide w g) w.heap.size) (vs.take k ++ (vv ++ vs.drop k)) (l.take k ++ ([x] ++ l.drop k)) := Rel2.append (Rel2.append (hr.drop k) hrv) (hr.take k)
    have hfl2 : (vs.take k ++ (vv ++ vs.drop k)).flatten = (vs.take k).flatten ++ (vv.flatten ++ (vs.drop k).flatten) := by simp
    refine OwnE.mk' (vs := vs.take k ++ (vv ++ vs.drop k)) hg hC (by omega) hm ?_ ?_ (hrel.imp fun _ _ hq => by rw [hzz]; exact E.sub hsub hq) (by simp [hlen]; omega)
    · simp only [List.length_append, hTl, hvv, hDl, hz2]
      omega
    · have hn1 : (n + 1) * E.size = n * E.size + E.size := by rw [Nat.add_mul, Nat.one_mul]
      rw [hfl2, ← List.append_assoc vv.flatten, ← List.append_assoc, List.take_left']
      simp only [List.length_append, hTl, hvv, hDl]
      omega
  · exact ((⟨rfl, rfl, rfl, Nat.le_refl _, fun _ _ _ => rfl⟩ : w.grownBy w.drew (some g)).trans (grown_setRow _ g _)).trans (grown_setRow _ g _)
end
end Go.Proofs.YtpklclnehlgcpaaGreat
end
section
namespace Go.Proofs.YtpklclnehlgcpaaGreat
open Go.RowKit
set_option linter.unusedVariables false
/-- whatever byte is read there is read here -/
def SubU (B : Nat) (w w' : World) : Prop := ∀ (p : Addr) (u : UInt8), p.block < B → w.cell? p = some (byteV u) → w'.cell? p = some (byteV u)
theorem Bytes.subU {w w' : World} {B n c : Nat} {A : Option Addr} {l : List UInt8} (h : Bytes w B A n c l) (hs : SubU B w w') : Bytes w' B A n c l :=
  ⟨h.1, h.2.1, h.2.2.1, fun hn => by
    obtain ⟨b, o, e, hb, hc⟩ := h.2.2.2 hn
    exact ⟨b, o, e, hb, fun j u hu => hs _ _ hb (hc j u hu)⟩⟩
/-- an element's words hang on bytes alone -/
def El.Byt {α : Type} (E : El α) : Prop := ∀ {w w' : World} {B : Nat} {vs : List Value} {x : α}, SubU B w w' → E.rel w B vs x → E.rel w' B vs x
theorem notU8_cell {w : World} {g : Nat} {cs : Array Value} (hs : Str w g cs) (hn : notU8 cs = true) (i : Nat) (u : UInt8) : w.cell? ⟨g, i, none⟩ ≠ some (byteV u) := by
  intro h
  rw [hs.cell] at h
  have hm : byteV u ∈ cs.toList := by rw [Array.mem_toList_iff]; exact Array.mem_of_getElem? h
  have := List.all_eq_true.1 hn _ hm
  simp [byteV] at this
theorem subU_grown {w w' : World} {g : Nat} {cs : Array Value} (A : Option Addr) (hs : Str w g cs) (hn : notU8 cs = true) (hg : w.grownBy w' (some g)) : SubU w.heap.size (hid A w) (hid A w') := by
  have key : ∀ (p : Addr) (u : UInt8), p.block < w.heap.size → w.cell? p = some (byteV u) → w'.cell? p = some (byteV u) := fun p u hp hv => by
    by_cases e : p.block = g
    · subst e
      obtain ⟨b, o, s⟩ := p
      have h0 : s = none := World.cell?_spot (w := w) (a := ⟨b, o, s⟩) hv
      subst h0
      exact absurd hv (notU8_cell hs hn o u)
    · exact (World.cell?_of_block (a := p) (hg.block p.block hp (by intro e2; injection e2 with e2; exact e e2))).trans hv
  cases A with
  | none => exact key
  | some a =>
    intro p u hp hv
    by_cases e : p.block = a.block
    · have : (hide w a.block).cell? p = none := by rw [← e]; exact hide_none w p
      change (hide w a.block).cell? p = _ at hv
      rw [this] at hv; cases hv
    · change (hide w a.block).cell? p = _ at hv
      rw [hide_other w a.block p e] at hv
      show (hide w' a.block).cell? p = _
      rw [hide_other w' a.block p e]
      exact key p u hp hv
theorem own_grown {w w' : World} {base : Nat} {e : TypeId} {size n g : Nat} {A : Option Addr} {c : Nat} {xs : List Value} (h : w.ownsRow base e size (.slice A n c) n xs) (hg : w.grownBy w' (some g)) (hne : ∀ a, A = some a → a.block ≠ g) : w'.ownsRow base e size (.slice A n c) n xs := by
  obtain ⟨h1, h2⟩ := h
  refine ⟨h1, ?_⟩
  rcases h2 with h2 | ⟨g', cap, cur, hv, hb, hh, r⟩
  · exact .inl h2
  · cases hv
    exact .inr ⟨g', c, cur, rfl, hb, (hg.block g' (Array.getElem?_eq_some_iff.1 hh).1 (by intro e2; injection e2 with e2; exact hne _ rfl e2)).trans hh, r⟩
section
variable {α : Type} {E : El α} {T : TypeId} {w w' : World} {base n c g : Nat} {A : Option Addr} {l : List α} {cs : Array Value}
/-- a block without bytes is written: the row stands -/
theorem OwnE.grownU (hE : E.Byt) (h : OwnE E T w base A n c l) (hs : Str w g cs) (hn : notU8 cs = true) (hg : w.grownBy w' (some g)) (hne : ∀ a, A = some a → a.block ≠ g) : OwnE E T w' base A n c l := by
  obtain ⟨vs, h1, h2⟩ := h
  exact ⟨vs, own_grown h1 hg hne, h2.imp fun _ _ hr => E.more hg.size (hE (subU_grown A hs hn hg) hr)⟩
/-- a slice that lies elsewhere stands, too -/
theorem Elems.grownU (hE : E.Byt) (h : Elems E w w.heap.size A n c l) (hs : Str w g cs) (hn : notU8 cs = true) (hg : w.grownBy w' (some g)) (hne : ∀ a, A = some a → a.block ≠ g) : Elems E w' w'.heap.size A n c l := by
  obtain ⟨vs, hr, hl, hc, hm, hx⟩ := h
  refine ⟨vs, hr.imp fun _ _ hq => E.more hg.size (hE (subU_grown none hs hn hg) hq), hl, hc, hm, fun hp => ?_⟩
  obtain ⟨b, o, e, hb, hcell⟩ := hx hp
  exact ⟨b, o, e, Nat.lt_of_lt_of_le hb hg.size, fun j v hv => (World.cell?_of_block (a := ⟨b, o + j, none⟩) (hg.block b hb (by intro e2; injection e2 with e2; exact hne _ e e2))).trans (hcell j v hv)⟩
end
theorem Str.grownO {w w' : World} {b : Nat} {cs : Array Value} {ob : Option Nat} (h : Str w b cs) (hg : w.grownBy w' ob) (hne : ob ≠ some b) : Str w' b cs := by
  have hl := h.lt
  obtain ⟨t, h⟩ := h
  exact ⟨t, (hg.block b hl (fun e => hne e.symm)).trans h⟩
theorem grown_below {w w' : World} (h : Below w.heap.size w w') (ob : Option Nat) : w.grownBy w' ob := ⟨h.os, h.tape, h.output, h.size, fun k hk _ => h.block k hk⟩
theorem below_grownO {base : Nat} {w a b : World} {ob : Option Nat} (h : Below base w a) (hg : a.grownBy b ob) (hb : base ≤ a.heap.size) (hge : ∀ k, ob = some k → base ≤ k) : Below base w b := h.grown hg hb hge
end Go.Proofs.YtpklclnehlgcpaaGreat
end
section
namespace Go.Proofs.YtpklclnehlgcpaaGreat
open Go.RowKit
set_option linter.unusedVariables false
set_option linter.unusedSectionVars false
/-- a row of one element, just made -/
theorem ElemsIn.one {α : Type} {E : El α} {T : TypeId} {w : World} {A : Option Addr} {vs : List Value} {x : α} (hr : E.rel (hid A w) w.heap.size vs x) :
    ElemsIn E (hid A (w.alloc (.cells vs.toArray T))) (w.alloc (.cells vs.toArray T)) (w.alloc (.cells vs.toArray T)).heap.size (some ⟨w.heap.size, 0, none⟩) 1 1 [x] := by
  have hb : Below w.heap.size w (w.alloc (.cells vs.toArray T)) := balloc (bsame w) _
  have hs := Str.new w vs.toArray T
  refine ⟨[vs], ⟨E.more hb.size (E.sub (hid_below A hb) hr), trivial⟩, rfl, Nat.le_refl _, by unfold maxLen; omega, fun _ => ⟨_, 0, rfl, hs.lt, fun j v hv => ?_⟩⟩
  rw [show [vs].flatten = vs by simp] at hv
  rw [Nat.zero_add, hs.cell j]
  simpa using hv
namespace Reg
/-- the parts: the box and its field, the slice in it, what comes behind; the slots of the slice, the row of one, the new slice -/
structure Push {α : Type} (E : El α) where
  N : Nat
  base : Nat
  d : Nat
  f : Nat
  box : Array Value
  A : Option Addr
  n : Nat
  c : Nat
  l : List α
  x : α
  T : TypeId
  t0 : Tmp
  t1 : Tmp
  t2 : Tmp
section
variable {α : Type} {E : El α} {I : Push E} {a : Act} {w w' : World} {b : Bool} {dst : Option Tmp} {v : Value} {P : Program}
def Push.Side (I : Push E) (b : Bool) (a : Act) (w : World) : Prop := b = true → ∃ g, a.eval (.tmp I.t1) = .slice (some ⟨g, 0, none⟩) 1 1 ∧ ElemsIn E (hid I.A w) w w.heap.size (some ⟨g, 0, none⟩) 1 1 [I.x]
def Push.Row (I : Push E) (w : World) (A' : Option Addr) (c' : Nat) : Prop := OwnE E I.T w I.base A' (I.n + 1) c' (I.l ++ [I.x])
def Push.S (I : Push E) : LS := fun k b a w => match k with
  | 0 => Str w I.d I.box ∧ OwnE E I.T w I.base I.A I.n I.c I.l ∧ I.Side b a w
  | 1 => a.eval (.tmp I.t0) = .slice I.A I.n I.c ∧ Str w I.d I.box ∧ OwnE E I.T w I.base I.A I.n I.c I.l ∧ I.Side b a w
  | 2 => b = true ∧ ∃ A' c', a.eval (.tmp I.t2) = .slice A' (I.n + 1) c' ∧ Str w I.d I.box ∧ I.Row w A' c'
  | _ => b = true ∧ ∃ A' c', Str w I.d (I.box.setIfInBounds I.f (.slice A' (I.n + 1) c')) ∧ I.Row w A' c'
theorem Push.Side.put (hd : dst ≠ some I.t1) (h : I.Side b a w) (hb : Below w.heap.size w w') : I.Side b (a.put dst v) w' := fun e => by
  obtain ⟨g, h1, h2⟩ := h e
  exact ⟨g, by rw [eval_ne hd]; exact h1, (h2.keep (hid_below I.A hb) (sub_below hb)).more hb.size⟩
end
end Reg
end Go.Proofs.YtpklclnehlgcpaaGreat
end
section
namespace Go.Proofs.YtpklclnehlgcpaaGreat
open Go.RowKit
set_option linter.unusedVariables false
def runV (r : RunX) (A : Option Addr) (n c : Nat) : List Value := [.int .i64 r.at_, .slice A n c]
def RunE : El RunX where
  size := 2
  pos := by decide
  rel w B vs r := ∃ A n c, vs = runV r A n c ∧ Bytes w B A n c r.data ∧ In64 r.at_
  len := by rintro w B vs p ⟨A, n, c, rfl, _⟩; rfl
  one := by rintro w B vs p ⟨A, n, c, rfl, _⟩ v hv; simp only [runV, List.mem_cons, List.not_mem_nil, or_false] at hv; rcases hv with rfl | rfl <;> rfl
  sub := by rintro w w' B vs p hs ⟨A, n, c, e, h, r⟩; exact ⟨A, n, c, e, h.sub hs, r⟩
  more := by rintro w B B' vs p hB ⟨A, n, c, e, h, r⟩; exact ⟨A, n, c, e, h.more hB, r⟩
def patchV (x : PatchX) (A : Option Addr) (n c : Nat) : List Value := [.int .i64 x.page, .bool x.fresh, .slice A n c]
def PatchE : El PatchX where
  size := 3
  pos := by decide
  rel w B vs x := ∃ A n c, vs = patchV x A n c ∧ Elems RunE w B A n c x.runs ∧ In64 x.page
  len := by rintro w B vs p ⟨A, n, c, rfl, _⟩; rfl
  one := by rintro w B vs p ⟨A, n, c, rfl, _⟩ v hv; simp only [patchV, List.mem_cons, List.not_mem_nil, or_false] at hv; rcases hv with rfl | rfl | rfl <;> rfl
  sub := by rintro w w' B vs p hs ⟨A, n, c, e, h, r⟩; exact ⟨A, n, c, e, h.sub hs, r⟩
  more := by rintro w B B' vs p hB ⟨A, n, c, e, h, r⟩; exact ⟨A, n, c, e, h.more hB, r⟩
/-- a run in a slice: its cells -/
theorem run_at {wr w : World} {B n c k : Nat} {A : Option Addr} {l : List RunX} (h : ElemsIn RunE wr w B A n c l) (hk : k < n) : ∃ b o r A2 n2 c2, A = some ⟨b, o, none⟩ ∧ b < B ∧ l[k]? = some r ∧ Bytes wr B A2 n2 c2 r.data ∧ In64 r.at_ ∧
    w.cell? ⟨b, o + k * 2, none⟩ = some (.int .i64 r.at_) ∧ w.cell? ⟨b, o + k * 2 + 1, none⟩ = some (.slice A2 n2 c2) := by
  have hl : k < l.length := by rw [h.len]; exact hk
  obtain ⟨b, o, vs, e, hb, ⟨A2, n2, c2, rfl, hy, h1⟩, hc⟩ := h.at_ hk
  exact ⟨b, o, _, A2, n2, c2, e, hb, List.getElem?_eq_getElem hl, hy, h1, hc 0 _ rfl, hc 1 _ rfl⟩
/-- a patch in a slice: its cells -/
theorem patch_at {wr w : World} {B n c k : Nat} {A : Option Addr} {l : List PatchX} (h : ElemsIn PatchE wr w B A n c l) (hk : k < n) : ∃ b o x A2 n2 c2, A = some ⟨b, o, none⟩ ∧ b < B ∧ l[k]? = some x ∧ Elems RunE wr B A2 n2 c2 x.runs ∧ In64 x.page ∧
    w.cell? ⟨b, o + k * 3, none⟩ = some (.int .i64 x.page) ∧ w.cell? ⟨b, o + k * 3 + 1, none⟩ = some (.bool x.fresh) ∧ w.cell? ⟨b, o + k * 3 + 2, none⟩ = some (.slice A2 n2 c2) := by
  have hl : k < l.length := by rw [h.len]; exact hk
  obtain ⟨b, o, vs, e, hb, ⟨A2, n2, c2, rfl, hy, h1⟩, hc⟩ := h.at_ hk
  exact ⟨b, o, _, A2, n2, c2, e, hb, List.getElem?_eq_getElem hl, hy, h1, hc 0 _ rfl, hc 1 _ rfl, hc 2 _ rfl⟩
end Go.Proofs.YtpklclnehlgcpaaGreat
end
section
namespace Go.Proofs.YtpklclnehlgcpaaGreat
open Go.RowKit
set_option linter.unusedVariables false
theorem splice_cons (cur : List Value) (o : Nat) (v : Value) (r : List Value) (h : o < cur.length) : splice (cur.set o v) (o + 1) r = splice cur o (v :: r) := by
  have e : (cur.set o v).take (o + 1) = cur.take o ++ [v] := by
    refine List.ext_getElem? fun j => ?_
    have hl : (cur.take o).length = o := by rw [List.length_take]; omega
    rcases Nat.lt_trichotomy j o with hj | rfl | hj
    · rw [List.getElem?_take_of_lt (by omega), List.getElem?_set_ne (by omega), List.getElem?_append_left (by omega), List.getElem?_take_of_lt hj]
    · rw [List.getElem?_take_of_lt (by omega), List.getElem?_set_self h, List.getElem?_append_right (by omega), hl]
      simp
    · rw [List.getElem?_eq_none (by simp; omega), List.getElem?_eq_none (by simp; omega)]
  unfold splice
  rw [e, List.drop_set_of_lt (by omega)]
  simp [Nat.add_assoc, Nat.add_comm 1]
theorem setCells_heap (b : Nat) : ∀ (vs : List Value) (o : Nat) (w : World) (cur : Array Value) (t : TypeId), w.heap[b]? = some (.cells cur t (0, 0)) → o + vs.length ≤ cur.size → (w.setCells b o vs).heap[b]? = some (.cells (splice cur.toList o vs).toArray t (0, 0))
  | [], o, w, cur, t, h, _ => by
    rw [World.setCells, h]
    simp [splice]
  | v :: r, o, w, cur, t, h, hl => by
    rw [World.setCells]
    have hl' : o + 1 + r.length ≤ cur.size := by simp at hl; omega
    have h1 : (w.setCell ⟨b, o, none⟩ v).heap[b]? = some (.cells (cur.setIfInBounds o v) t (0, 0)) := by simp [World.setCell, Array.getElem?_modify, h]
    rw [setCells_heap b r (o + 1) _ _ t h1 (by simpa using hl'), Array.toList_setIfInBounds, splice_cons _ _ _ _ (by simp at hl ⊢; omega)]
theorem grown_setCells (b : Nat) : ∀ (vs : List Value) (o : Nat) (w0 w : World), w0.grownBy w (some b) → w0.grownBy (w.setCells b o vs) (some b)
  | [], _, _, _, h => h
  | v :: r, o, w0, w, h => by
    rw [World.setCells]
    exact grown_setCells b r (o + 1) w0 _ (grown_set h o v)
theorem splice_get_in {cur vs : List Value} {o j : Nat} (h : o + vs.length ≤ cur.length) (hj : j < vs.length) : (splice cur o vs)[o + j]? = vs[j]? := by
  unfold splice
  have h0 : (cur.take o).length = o := by rw [List.length_take]; omega
  rw [List.getElem?_append_right (by omega), h0, List.getElem?_append_left (by omega)]
  congr 1
  omega
theorem splice_get_out {cur vs : List Value} {o j : Nat} (h : o + vs.length ≤ cur.length) (hj : j < o ∨ o + vs.length ≤ j) : (splice cur o vs)[j]? = cur[j]? := by
  unfold splice
  have h0 : (cur.take o).length = o := by rw [List.length_take]; omega
  rcases hj with hj | hj
  · rw [List.getElem?_append_left (by omega), List.getElem?_take_of_lt hj]
  · rw [List.getElem?_append_right (by omega), h0, List.getElem?_append_right (by omega), List.getElem?_drop]
    congr 1
    omega
theorem splice_len {cur vs : List Value} {o : Nat} (h : o + vs.length ≤ cur.length) : (splice cur o vs).length = cur.length := by
  unfold splice
  simp
  omega
/-- the block that such a slice lies in, if it has room -/
def OwnS (w : World) (gb : Option Nat) (A : Option Addr) (n c : Nat) (l : List UInt8) : Prop :=
  l.length = n ∧ n ≤ c ∧ c ≤ maxLen ∧ ((c = 0 ∧ gb = none) ∨ ∃ (g o : Nat) (cur : Array Value) (T : TypeId), gb = some g ∧ A = some ⟨g, o, none⟩ ∧ w.heap[g]? = some (.cells cur T (0, 0)) ∧ o + c ≤ cur.size ∧ ∀ (j : Nat) u, l[j]? = some u → cur[o + j]? = some (byteV u))
section
variable {w w' : World} {gb : Option Nat} {A : Option Addr} {n c : Nat} {l : List UInt8}
theorem OwnS.len (h : OwnS w gb A n c l) : l.length = n := h.1
theorem OwnS.none_ (w : World) : OwnS w none none 0 0 [] := ⟨rfl, Nat.le_refl _, by unfold maxLen; omega, .inl ⟨rfl, rfl⟩⟩
theorem OwnS.lt (h : OwnS w gb A n c l) : ∀ g, gb = some g → g < w.heap.size := by
  intro g hg
  obtain ⟨-, -, -, (⟨-, e⟩ | ⟨g', o, cur, T, e, -, hh, -⟩)⟩ := h
  · rw [e] at hg; cases hg
  · rw [e] at hg; cases hg; exact (Array.getElem?_eq_some_iff.1 hh).1
theorem OwnS.at_ (h : OwnS w gb A n c l) (hb : ∀ g, gb = some g → w'.heap[g]? = w.heap[g]?) : OwnS w' gb A n c l := by
  obtain ⟨h1, h2, h3, (h4 | ⟨g, o, cur, T, e, hA, hh, r⟩)⟩ := h
  · exact ⟨h1, h2, h3, .inl h4⟩
  · exact ⟨h1, h2, h3, .inr ⟨g, o, cur, T, e, hA, (hb g e).trans hh, r⟩⟩
theorem OwnS.next (h : OwnS w gb A n c l) (hb : Below w.heap.size w w') : OwnS w' gb A n c l := h.at_ fun g e => hb.block g (h.lt g e)
theorem OwnS.grown {g : Nat} (h : OwnS w gb A n c l) (hg : w.grownBy w' (some g)) (hne : gb ≠ some g) : OwnS w' gb A n c l := h.at_ fun k e => hg.block k (h.lt k e) (by rw [← e]; exact hne)
theorem OwnS.bytes (h : OwnS w gb A n c l) : Bytes w w.heap.size A n c l := by
  obtain ⟨h1, h2, h3, (⟨h4, -⟩ | ⟨g, o, cur, T, e, hA, hh, hs, hc⟩)⟩ := h
  · exact ⟨h1, h2, h3, fun hn => absurd hn (by omega)⟩
  · exact ⟨h1, h2, h3, fun _ => ⟨g, o, hA, (Array.getElem?_eq_some_iff.1 hh).1, fun j u hu => by rw [cell_of_row w g (o + j) cur T (0, 0) hh]; exact hc j u hu⟩⟩
/-- a part of it -/
theorem OwnS.cut (h : OwnS w gb A n c l) (lo hi m : Nat) (h1 : lo ≤ hi) (h2 : hi ≤ n) (h3 : hi ≤ m) (h4 : m ≤ c) : ∃ gb', OwnS w gb' (cutA A lo m 1) (hi - lo) (m - lo) ((l.drop lo).take (hi - lo)) ∧ (gb' = gb ∨ gb' = none) := by
  obtain ⟨hl, hc, hm, hx⟩ := h
  rcases hx with ⟨h0, e⟩ | ⟨g, o, cur, T, e, hA, hh, hs, hcell⟩
  · exact ⟨none, ⟨by simp; omega, by omega, by omega, .inl ⟨by omega, rfl⟩⟩, .inr rfl⟩
  · by_cases hml : m = lo
    · exact ⟨none, ⟨by simp; omega, by omega, by omega, .inl ⟨by omega, rfl⟩⟩, .inr rfl⟩
    · refine ⟨gb, ⟨by simp; omega, by omega, by omega, .inr ⟨g, o + lo, cur, T, e, ?_, hh, by omega, fun j u hu => ?_⟩⟩, .inl rfl⟩
      · unfold cutA
        rw [if_neg hml, hA]
        simp [add_none]
      · rw [List.getElem?_take] at hu
        split at hu
        · rw [List.getElem?_drop] at hu
          rw [Nat.add_assoc]
          exact hcell _ u hu
        · cases hu
/-- bytes that a call has made -/
theorem OwnS.of_own {base : Nat} {T : TypeId} (h : w.ownsRow base T 1 (.slice A n c) n (l.map byteV)) : ∃ gb, OwnS w gb A n c l ∧ ∀ g, gb = some g → base ≤ g := by
  have hl := (Bytes.own h).len
  rcases h.2 with ⟨e, h0⟩ | ⟨g, cap, cur, e, hg, hh, hnc, hm, hsz, htk⟩
  · cases e
    exact ⟨none, ⟨by simpa using hl, Nat.le_refl _, by unfold maxLen; omega, .inl ⟨rfl, rfl⟩⟩, by simp⟩
  · cases e
    by_cases hc0 : c = 0
    · exact ⟨none, ⟨hl, hnc, hm, .inl ⟨hc0, rfl⟩⟩, by simp⟩
    · refine ⟨some g, ⟨hl, hnc, hm, .inr ⟨g, 0, cur, T, rfl, rfl, hh, by omega, fun j u hu => ?_⟩⟩, fun k hk => by cases hk; exact hg⟩
      have hj : j < n := by rw [← hl]; exact (List.getElem?_eq_some_iff.1 hu).1
      have hx := congrArg (·[j]?) htk
      simp only [List.getElem?_take, List.getElem?_map, hu, Option.map_some] at hx
      rw [if_pos (by omega)] at hx
      simpa using hx
/-- an append onto it, out of whatever bytes -/
theorem OwnS.app {P : Program} (t ty e : TypeId) (ht : P.underlying t = some (.slice e)) (hi : (P.info? e).map (fun i => (i.zero, i.size, i.bytes)) = some (some (.int .u8 0), 1, 1)) (h : OwnS w gb A n c l) {B m c2 : Nat} {A2 : Option Addr} {l2 : List UInt8} (h2 : Bytes w B A2 m c2 l2) (hn : n + m ≤ 140737488355328) :
    ∃ A' c' w' gb', (appSem #[t, t] ty #[.slice A n c, .slice A2 m c2]).run P w = .ok (.slice A' (n + m) c') w' ∧ OwnS w' gb' A' (n + m) c' (l ++ l2) ∧ w.grownBy w' gb ∧ (gb' = gb ∨ gb' = some w.heap.size) := by
  obtain ⟨i0, hi0, hz0, hz1, hz2⟩ := info_parts hi
  have hm2 := h2.len
  have hln := h.len
  have hsrc : Src P 1 t (.slice A2 m c2) m (l2.map byteV) w := by
    by_cases h0 : m = 0
    · subst h0
      have : l2 = [] := List.eq_nil_of_length_eq_zero hm2
      subst this
      cases A2 with
      | none => exact Src.ofNil w ht c2
      | some a => exact Src.ofSlice w ht a 0 c2 [] (by simp) (fun j u hu => by simp at hu) (fun u hu => by cases hu)
    · obtain ⟨ad, rfl, hc⟩ := h2.src (by simp; omega)
      exact Src.ofSlice w ht ad m c2 _ (by simp [hm2]) hc (byteV_one l2)
  obtain ⟨hl, hc, hm, hx⟩ := h
  unfold appSem
  by_cases hroom : n + m ≤ c
  · rcases hx with ⟨h0, e1⟩ | ⟨g, o, cur, T, e1, hA, hh, hs, hcell⟩
    · have e2 : m = 0 := by omega
      have e3 : n = 0 := by omega
      subst e2
      have : l2 = [] := List.eq_nil_of_length_eq_zero hm2
      subst this
      exact ⟨A, c, w, none, run_append_nothing w t t ty e i0 ht hi0 A n c hc _ (by rw [hz1]; exact hsrc), ⟨by simpa using hl, by omega, hm, .inl ⟨h0, rfl⟩⟩, by rw [e1]; exact World.grownBy.refl w _, .inl e1.symm⟩
    · subst hA
      have hcl : ∀ j, j < (l2.map byteV).length → o + n + j < cur.size := fun j hj => by simp at hj; omega
      have hr := run_append_room_src (P := P) w t t ty e i0 ht hi0 g o n c (.slice A2 m c2) m (l2.map byteV) (by rw [hz1]; exact hsrc) hroom
        (fun j hj => by rw [hz1, Nat.mul_one, cell_of_row w g _ cur T (0, 0) hh, Array.getElem?_eq_getElem (hcl j hj)]; rfl)
        (fun j hj => by simp [World.frozen?, hh])
      rw [hz1, Nat.mul_one] at hr
      have hfit : o + n + (l2.map byteV).length ≤ cur.size := by simp; omega
      refine ⟨some ⟨g, o, none⟩, c, _, gb, hr, ⟨by simp; omega, by omega, hm, .inr ⟨g, o, _, T, e1, rfl, setCells_heap g _ _ w cur T hh hfit, ?_, fun j u hu => ?_⟩⟩, by rw [e1]; exact grown_setCells g _ _ w w (World.grownBy.refl w _), .inl rfl⟩
      · rw [List.size_toArray, splice_len (by simpa using hfit)]
        simpa using hs
      · rw [List.getElem?_toArray]
        by_cases hj : j < n
        · rw [splice_get_out (by simpa using hfit) (.inl (by omega)), Array.getElem?_toList]
          exact hcell j u (by rw [List.getElem?_append_left (by omega)] at hu; exact hu)
        · rw [List.getElem?_append_right (by omega)] at hu
          have hj2 : j - l.length < l2.length := (List.getElem?_eq_some_iff.1 hu).1
          have := splice_get_in (cur := cur.toList) (vs := l2.map byteV) (o := o + n) (j := j - l.length) (by simpa using hfit) (by simpa using hj2)
          rw [show o + n + (j - l.length) = o + j by omega] at this
          rw [this, List.getElem?_map, hu]
          rfl
  · have hg : c < n + m := by omega
    have hold : (Builtin.firstCells i0.size n (.slice A n c)).run P w.drew = .ok (l.map byteV).toArray w.drew := by
      rw [hz1]
      rcases hx with ⟨h0, e1⟩ | ⟨g, o, cur, T, e1, hA, hh, hs, hcell⟩
      · have e3 : n = 0 := by omega
        subst e3
        have : l = [] := List.eq_nil_of_length_eq_zero hl
        subst this
        cases A with
        | none => exact run_firstCells_none w.drew 1 0 0 c
        | some a => exact run_firstCells_some w.drew 1 0 a 0 c [] (by simp) (fun j v hv => by simp at hv)
      · subst hA
        refine run_firstCells_some w.drew 1 n _ n c _ (by simp [hl]) (fun j v hv => ?_)
        rw [List.getElem?_map, Option.map_eq_some_iff] at hv
        obtain ⟨u, hu, rfl⟩ := hv
        rw [add_none]
        show w.cell? _ = _
        rw [cell_of_row w g _ cur T (0, 0) hh]
        exact hcell j u hu
    have hr := run_append_grow_src (P := P) w t t ty e i0 _ ht hi0 hz0 A n c (l.map byteV) hold (.slice A2 m c2) m (l2.map byteV) (by rw [hz1]; exact hsrc) hg (by omega) (growslice_fits hg (by rw [hz2]; omega))
    refine ⟨_, _, _, some w.heap.size, hr, ⟨by simp; omega, grownCap_ge _ _ _ _, grownCap_le_maxLen _ _ _ _ (by unfold maxLen; omega), .inr ⟨_, 0, _, e, rfl, rfl, heap_alloc_new w.drew _, ?_, fun j u hu => ?_⟩⟩, ?_, .inr rfl⟩
    · have := grownCap_ge w (n + m) c e
      simp only [Array.size_append, List.size_toArray, List.length_append, List.length_map, size_zeroCells, Value.cells]
      simp
      omega
    · rw [Nat.zero_add]
      have hj : j < (l ++ l2).length := (List.getElem?_eq_some_iff.1 hu).1
      rw [Array.getElem?_append_left (by simpa using hj), List.getElem?_toArray, ← List.map_append, List.getElem?_map, hu]
      rfl
    · exact ⟨rfl, rfl, rfl, by simp, fun k hk _ => Below.heap_alloc w.drew _ k hk⟩
end
end Go.Proofs.YtpklclnehlgcpaaGreat
end
section
namespace Go.Proofs.YtpklclnehlgcpaaGreat
open Go.RowKit
set_option linter.unusedVariables false
theorem runE_byt : El.Byt RunE := by
  rintro w w' B vs x hs ⟨A, n, c, e, h, r⟩
  exact ⟨A, n, c, e, h.subU hs, r⟩
end Go.Proofs.YtpklclnehlgcpaaGreat
end
section
namespace Go.Proofs.YtpklclnehlgcpaaGreat
open Go.RowKit
set_option linter.unusedVariables false
set_option linter.unusedSectionVars false
/-- bytes of the call's own lie beside what is hidden -/
theorem OwnS.hid {gb : Option Nat} {A A' : Option Addr} {n c : Nat} {l : List UInt8} {w : World} (h : OwnS w gb A' n c l) (hne : ∀ g a, gb = some g → A = some a → a.block ≠ g) : Bytes (Go.Proofs.YtpklclnehlgcpaaGreat.hid A w) w.heap.size A' n c l := by
  obtain ⟨h1, h2, h3, (⟨h4, -⟩ | ⟨g, o, cur, T, e, hA, hh, hs, hc⟩)⟩ := h
  · exact ⟨h1, h2, h3, fun hn => absurd hn (by omega)⟩
  · refine ⟨h1, h2, h3, fun _ => ⟨g, o, hA, (Array.getElem?_eq_some_iff.1 hh).1, fun j u hu => ?_⟩⟩
    have e1 : (Go.Proofs.YtpklclnehlgcpaaGreat.hid A w).cell? ⟨g, o + j, none⟩ = w.cell? ⟨g, o + j, none⟩ := by
      cases A with
      | none => rfl
      | some a => exact hide_other w a.block _ (fun q => hne g a e rfl q.symm)
    rw [e1, cell_of_row w g (o + j) cur T (0, 0) hh]
    exact hc j u hu
theorem ownE_lt {α : Type} {E : El α} {T : TypeId} {w : World} {base n c : Nat} {A : Option Addr} {l : List α} (h : OwnE E T w base A n c l) : ∀ a, A = some a → a.block < w.heap.size := by
  intro a e
  obtain ⟨vs, h1, -⟩ := h
  rcases h1.2 with ⟨e1, -⟩ | ⟨g, cap, cur, e1, -, hh, -⟩
  · cases e1; cases e
  · cases e1; cases e; exact (Array.getElem?_eq_some_iff.1 hh).1
namespace Reg
structure RunPush where
  N : Nat
  base : Nat
  d : Nat
  A : Option Addr
  n : Nat
  c : Nat
  l : List RunX
  x : RunX
  m : Nat
  T : TypeId
  TU : TypeId
  t0 : Tmp
  t1 : Tmp
  t2 : Tmp
  t3 : Tmp
  t4 : Tmp
section
variable {I : RunPush} {a : Act} {w w' : World} {b : Bool} {dst : Option Tmp} {v : Value} {P : Program}
def RunPush.Core (I : RunPush) (b : Bool) (a : Act) (w : World) : Prop := Str w I.d #[.slice I.A I.n I.c] ∧ OwnE RunE I.T w I.base I.A I.n I.c I.l ∧ (b = true → a.eval (.tmp I.t0) = .slice I.A I.n I.c)
def RunPush.By (I : RunPush) (w : World) (A2 : Option Addr) (c2 : Nat) : Prop := Bytes (hid I.A w) w.heap.size A2 I.m c2 I.x.data
def RunPush.Row (I : RunPush) (w : World) (A' : Option Addr) (c' : Nat) : Prop := OwnE RunE I.T w I.base A' (I.n + 1) c' (I.l ++ [I.x])
def RunPush.S (I : RunPush) : LS := fun k b a w => match k with
  | 0 => I.Core b a w
  | 1 => I.Core b a w ∧ ∃ A2 c2, a.eval (.tmp I.t1) = .slice A2 I.m c2 ∧ I.By w A2 c2
  | 2 => I.Core b a w ∧ ∃ A2 c2, a.eval (.tmp I.t2) = .agg #[.int .i64 I.x.at_, .slice A2 I.m c2] ∧ I.By w A2 c2
  | 3 => I.Core b a w ∧ ∃ g, a.eval (.tmp I.t3) = .slice (some ⟨g, 0, none⟩) 1 1 ∧ ElemsIn RunE (hid I.A w) w w.heap.size (some ⟨g, 0, none⟩) 1 1 [I.x]
  | 4 => b = true ∧ ∃ A' c', a.eval (.tmp I.t4) = .slice A' (I.n + 1) c' ∧ Str w I.d #[.slice I.A I.n I.c] ∧ I.Row w A' c'
  | _ => b = true ∧ ∃ A' c', Str w I.d #[.slice A' (I.n + 1) c'] ∧ I.Row w A' c'
theorem RunPush.Core.put (hd : dst ≠ some I.t0) (h : I.Core b a w) (hb : Below w.heap.size w w') : I.Core b (a.put dst v) w' :=
  ⟨h.1.next hb, h.2.1.next hb, fun e => by rw [eval_ne hd]; exact h.2.2 e⟩
theorem RunPush.By.next {A2 : Option Addr} {c2 : Nat} (h : I.By w A2 c2) (hb : Below w.heap.size w w') : I.By w' A2 c2 := (Bytes.sub h (hid_below I.A hb)).more hb.size
theorem RunPush.S_put (hd : dst ≠ some I.t0 ∧ dst ≠ some I.t1 ∧ dst ≠ some I.t2 ∧ dst ≠ some I.t3 ∧ dst ≠ some I.t4) (k : Nat) (h : I.S k b a w) (hb : Below w.heap.size w w') : I.S k b (a.put dst v) w' := by
  obtain ⟨d0, d1, d2, d3, d4⟩ := hd
  match k, h with
  | 0, h => exact RunPush.Core.put d0 h hb
  | 1, h =>
    obtain ⟨h0, A2, c2, h1, h2⟩ := h
    exact ⟨h0.put d0 hb, A2, c2, by rw [eval_ne d1]; exact h1, h2.next hb⟩
  | 2, h =>
    obtain ⟨h0, A2, c2, h1, h2⟩ := h
    exact ⟨h0.put d0 hb, A2, c2, by rw [eval_ne d2]; exact h1, h2.next hb⟩
  | 3, h =>
    obtain ⟨h0, g, h1, h2⟩ := h
    exact ⟨h0.put d0 hb, g, by rw [eval_ne d3]; exact h1, (h2.keep (hid_below I.A hb) (sub_below hb)).more hb.size⟩
  | 4, h =>
    obtain ⟨e, A', c', h1, h2, h3⟩ := h
    exact ⟨e, A', c', by rw [eval_ne d4]; exact h1, h2.next hb, OwnE.next h3 hb⟩
  | _ + 5, h =>
    obtain ⟨e, A', c', h2, h3⟩ := h
    exact ⟨e, A', c', h2.next hb, OwnE.next h3 hb⟩
/-- the slice is read -/
theorem RunPush.S_side (k : Nat) (h : I.S k false a w) (ha : I.t0 < a.tmps.size) (hd : I.t0 ≠ I.t1 ∧ I.t0 ≠ I.t2 ∧ I.t0 ≠ I.t3) : I.S k true (a.put (some I.t0) (.slice I.A I.n I.c)) w ∧ Str w I.d #[.slice I.A I.n I.c] := by
  obtain ⟨d1, d2, d3⟩ := hd
  have ne : ∀ {t : Tmp}, I.t0 ≠ t → (some I.t0 : Option Tmp) ≠ some t := fun q e => q (Option.some.inj e)
  have hc : I.Core false a w → I.Core true (a.put (some I.t0) (.slice I.A I.n I.c)) w := fun h => ⟨h.1, h.2.1, fun _ => eval_put_same ha⟩
  match k, h with
  | 0, h => exact ⟨hc h, h.1⟩
  | 1, h =>
    obtain ⟨h0, A2, c2, h1, h2⟩ := h
    exact ⟨⟨hc h0, A2, c2, by rw [eval_ne (ne d1)]; exact h1, h2⟩, h0.1⟩
  | 2, h =>
    obtain ⟨h0, A2, c2, h1, h2⟩ := h
    exact ⟨⟨hc h0, A2, c2, by rw [eval_ne (ne d2)]; exact h1, h2⟩, h0.1⟩
  | 3, h =>
    obtain ⟨h0, g, h1, h2⟩ := h
    exact ⟨⟨hc h0, g, by rw [eval_ne (ne d3)]; exact h1, h2⟩, h0.1⟩
  | 4, h => exact absurd h.1 (by decide)
  | _ + 5, h => exact absurd h.1 (by decide)
/-- the bytes are copied -/
theorem RunPush.S_zero (e : TypeId) (hu : P.underlying I.TU = some (.slice e)) (hi : (P.info? e).map (fun i => (i.zero, i.size, i.bytes)) = some (some (.int .u8 0), 1, 1)) {B c0 : Nat} {A0 : Option Addr}
    (h : I.S 0 b a w) (ha : I.t1 < a.tmps.size) (hd : I.t1 ≠ I.t0) (hy : Bytes w B A0 I.m c0 I.x.data) (hn : I.m ≤ 140737488355328) :
    ∃ A' c' w', (appSem #[I.TU, I.TU] I.TU #[.slice none 0 0, .slice A0 I.m c0]).run P w = .ok (.slice A' I.m c') w' ∧ I.S 1 b (a.put (some I.t1) (.slice A' I.m c')) w' ∧ Below w.heap.size w w' := by
  obtain ⟨A', c', w', gb, k1, k2, k3, k4⟩ := (OwnS.none_ w).app (P := P) I.TU I.TU e hu hi hy (by omega)
  rw [Nat.zero_add] at k1 k2
  rw [List.nil_append] at k2
  have hb : Below w.heap.size w w' := (bsame w).grown k3 (Nat.le_refl _) (fun k e => by cases e)
  refine ⟨A', c', w', k1, ⟨RunPush.Core.put (fun e => hd (Option.some.inj e)) h hb, A', c', eval_put_same ha, ?_⟩, hb⟩
  refine OwnS.hid k2 (fun g q eg eq => ?_)
  have h2 := h.2.1
  rcases k4 with e | e
  · rw [e] at eg; cases eg
  · rw [e] at eg; cases eg
    have hlt := ownE_lt h2 q eq
    omega
/-- the run is laid together -/
theorem RunPush.S_one (h : I.S 1 b a w) (ha : I.t2 < a.tmps.size) (hd : I.t2 ≠ I.t0) : ∃ A2 c2, a.eval (.tmp I.t1) = .slice A2 I.m c2 ∧ I.S 2 b (a.put (some I.t2) (.agg #[.int .i64 I.x.at_, .slice A2 I.m c2])) w := by
  obtain ⟨h0, A2, c2, h1, h2⟩ := h
  exact ⟨A2, c2, h1, h0.put (fun e => hd (Option.some.inj e)) (bsame w), A2, c2, eval_put_same ha, h2⟩
/-- the row of one is made -/
theorem RunPush.S_two (h : I.S 2 b a w) (ha : I.t3 < a.tmps.size) (hd : I.t3 ≠ I.t0) (hin : In64 I.x.at_) (TE : TypeId) :
    ∃ A2 c2, a.eval (.tmp I.t2) = .agg #[.int .i64 I.x.at_, .slice A2 I.m c2] ∧ I.S 3 b (a.put (some I.t3) (.slice (some ⟨w.heap.size, 0, none⟩) 1 1)) (w.alloc (.cells #[.int .i64 I.x.at_, .slice A2 I.m c2] TE)) := by
  obtain ⟨h0, A2, c2, h1, h2⟩ := h
  have hb : Below w.heap.size w (w.alloc (.cells #[.int .i64 I.x.at_, .slice A2 I.m c2] TE)) := balloc (bsame w) _
  refine ⟨A2, c2, h1, h0.put (fun e => hd (Option.some.inj e)) hb, w.heap.size, eval_put_same ha, ?_⟩
  exact ElemsIn.one (E := RunE) (vs := runV I.x A2 I.m c2) ⟨A2, I.m, c2, rfl, h2, hin⟩
/-- the append -/
theorem RunPush.S_three (t ty : TypeId) (i : TypeInfo) (z : Value) (bytes : Nat) (ht : P.underlying t = some (.slice I.T)) (hi : P.info? I.T = some i) (hz : i.zero = some z) (hs : i.size = 2) (hby : i.bytes = bytes) (hzs : z.cells.size = 2)
    (h : I.S 3 true a w) (ha : I.t4 < a.tmps.size) (hN : I.N ≤ w.heap.size) (hbN : I.base ≤ I.N) (hdb : I.d < I.base) (hn : I.n + 1 ≤ maxLen) (hbytes : (I.n + 1) * bytes ≤ 140737488355328) :
    ∃ A2 A' c' w', a.eval (.tmp I.t0) = .slice I.A I.n I.c ∧ a.eval (.tmp I.t3) = .slice A2 1 1 ∧ (appSem #[t, t] ty #[.slice I.A I.n I.c, .slice A2 1 1]).run P w = .ok (.slice A' (I.n + 1) c') w' ∧ I.S 4 true (a.put (some I.t4) (.slice A' (I.n + 1) c')) w' ∧ KeepB I.N (I.d :: (I.A.map (·.block)).toList) w w' := by
  obtain ⟨⟨h2, h3, h1⟩, g, hg1, hg2⟩ := h
  obtain ⟨A', c', w', k1, k2, k3, k4, k5⟩ := h3.app (P := P) t ty i z bytes ht hi hz hs hby hzs hg2 hn hbytes (Nat.le_trans hbN hN)
  have hge := h3.ge
  refine ⟨_, A', c', w', h1 rfl, hg1, k1, ⟨rfl, A', c', eval_put_same ha, h2.grownO k4 (fun e => ?_), k2⟩, ⟨k4.os, k4.tape, k4.output, k4.size, fun j hj hn => k4.block j (by omega) (fun e => hn ?_)⟩⟩
  · cases hA : I.A with
    | none => rw [hA] at e; cases e
    | some ad =>
      rw [hA] at e
      have h5 := hge ad hA
      have h6 : ad.block = I.d := by simpa [Value.ownBlock] using e
      omega
  · cases hA : I.A with
    | none => rw [hA] at e; cases e
    | some ad =>
      rw [hA] at e
      have h6 : ad.block = j := by simpa [Value.ownBlock] using e.symm
      simp [h6]
/-- the store -/
theorem RunPush.S_four (h : I.S 4 true a w) (hdb : I.d < I.base) :
    ∃ A' c', a.eval (.tmp I.t4) = .slice A' (I.n + 1) c' ∧ Str w I.d #[.slice I.A I.n I.c] ∧ I.S 5 true a (w.setCell ⟨I.d, 0, none⟩ (.slice A' (I.n + 1) c')) := by
  obtain ⟨-, A', c', h1, h2, h3⟩ := h
  refine ⟨A', c', h1, h2, rfl, A', c', by simpa using h2.set 0 (.slice A' (I.n + 1) c'), OwnE.grownU runE_byt h3 h2 (by rfl) (grown_set (grown_refl w _) 0 _) (fun ad e => ?_)⟩
  have := OwnE.ge h3 ad e
  omega
end
end Reg
end Go.Proofs.YtpklclnehlgcpaaGreat
end
