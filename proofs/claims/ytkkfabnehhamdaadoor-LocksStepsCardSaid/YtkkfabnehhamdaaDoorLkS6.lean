/-
  Parts of the proof of LocksSteps.
-/
import Derived.Test.YtkkfabnehhamdaaDoorLkS2
import Derived.Test.YtkkfabnehhamdaaDoorLkS3
import Derived.Test.YtkkfabnehhamdaaDoorLkS5
import Derived.StringKeys
import Derived.Maps.Keyed
import Derived.WalkSpells
section
namespace Go.Proofs.YtkkfabnehhamdaaDoor
open Go.RowKit Go.Maps LockP
set_option linter.unusedVariables false
set_option linter.unusedSectionVars false
/-- texts as keys -/
def strK : KeyS ByteArray where
  val k := .string k
  lit k := .string k.data.toList
  same a b := by
    show (a.data.toList == b.data.toList) = decide (a = b)
    by_cases h : a = b
    · subst h; simp
    · have : a.data.toList ≠ b.data.toList := fun e => h (by
        obtain ⟨x⟩ := a
        obtain ⟨y⟩ := b
        congr 1
        exact Array.toList_inj.1 e)
      rw [decide_eq_false h]
      simpa using this
/-- maps as elements -/
def mapE : ElS (Option Nat) where
  val o := .map o
  inv v := match v with
    | .map o => some o
    | _ => none
  inv_val _ := rfl
  val_inv := by
    intro v a h
    split at h
    · cases h; rfl
    · cases h
/-- pointers as elements -/
def ptrM : ElS (Option Nat) where
  val o := .pointer (o.map fun q => ⟨q, 0, none⟩)
  inv v := match v with
    | .pointer none => some none
    | .pointer (some ⟨q, 0, none⟩) => some (some q)
    | _ => none
  inv_val o := by cases o <;> rfl
  val_inv := by
    intro v a h
    split at h
    · cases h; rfl
    · cases h; rfl
    · cases h
/-- numbers as elements -/
def numM : ElS Int where
  val n := .int .i64 n
  inv v := match v with
    | .int .i64 n => some n
    | _ => none
  inv_val _ := rfl
  val_inv := by
    intro v a h
    split at h
    · cases h; rfl
    · cases h
/-- that a key is there, and nothing more -/
def unitM : ElS Unit where
  val _ := .agg #[]
  inv v := match v with
    | .agg ⟨[]⟩ => some ()
    | _ => none
  inv_val _ := rfl
  val_inv := by
    intro v a h
    split at h
    · rfl
    · cases h
/-- what one waits for -/
def goalM : ElS (ByteArray × Int) where
  val p := .agg #[.string p.1, .int .i64 p.2]
  inv v := match v with
    | .agg ⟨[.string k, .int .i64 m]⟩ => some (k, m)
    | _ => none
  inv_val _ := rfl
  val_inv := by
    intro v a h
    split at h
    · cases h; rfl
    · cases h
/-- one that waits, and its mode -/
def WishE : El (Int × Int) where
  size := 2
  pos := by decide
  rel w B vs x := vs = [.int .i64 x.1, .int .i64 x.2]
  len := by rintro w B vs p rfl; rfl
  one := by rintro w B vs p rfl v hv; simp only [List.mem_cons, List.not_mem_nil, or_false] at hv; rcases hv with rfl | rfl <;> rfl
  sub := by rintro w w' B vs p hs h; exact h
  more := by rintro w B B' vs p hB h; exact h
theorem wishE_pure : WishE.Pure := fun _ _ _ _ _ _ h => h
theorem own_at {α : Type} {E : El α} (hE : E.Pure) {T : TypeId} {w w' : World} {base n c : Nat} {A : Option Addr} {l : List α} (h : OwnE E T w base A n c l) (hb : ∀ a, A = some a → w'.heap[a.block]? = w.heap[a.block]?) : OwnE E T w' base A n c l := by
  obtain ⟨vs, ⟨h0, h1⟩, h2⟩ := h
  refine ⟨vs, ⟨h0, ?_⟩, h2.imp fun _ _ hr => hE _ _ _ _ _ _ hr⟩
  rcases h1 with e | ⟨g, cap, cur, e, hg2, hh, r⟩
  · exact .inl e
  · cases e
    exact .inr ⟨g, c, cur, rfl, hg2, (hb _ rfl).trans hh, r⟩
namespace LockW
abbrev TS := 9
abbrev TI := 3
theorem lawS : Keyed Tryd.prog TS := string_keyed Tryd.underlying9
theorem lawI : Keyed Tryd.prog TI := int_keyed Tryd.underlying3
theorem keyS {k : ByteArray} (h : k.size ≤ 100) : keyOf Tryd.prog TS (strK.val k) = some (strK.lit k) := _root_.Go.WideMaps.keyOf_string_mk Tryd.underlying9 (Nat.le_trans h (by unfold maxLen; omega))
theorem keyI {k : Int} (h : In64 k) : keyOf Tryd.prog TI (intK.val k) = some (intK.lit k) := keyOf_int_mk Tryd.underlying3 (WalkArith.wf_i64 h)
abbrev M1 (w : World) (b N : Nat) (L : MapP.T ByteArray (Option Nat)) : Prop := MapM Tryd.prog strK mapE TS w b N L
abbrev M2 (w : World) (b N : Nat) (L : MapP.T Int (Option Nat)) : Prop := MapM Tryd.prog intK mapE TI w b N L
abbrev M3 (w : World) (b N : Nat) (L : MapP.T ByteArray (Option Nat)) : Prop := MapM Tryd.prog strK ptrM TS w b N L
abbrev M4 (w : World) (b N : Nat) (L : MapP.T Int (ByteArray × Int)) : Prop := MapM Tryd.prog intK goalM TI w b N L
abbrev MO (w : World) (b N : Nat) (L : MapP.T Int Int) : Prop := MapM Tryd.prog intK numM TI w b N L
abbrev MM (w : World) (b N : Nat) (L : MapP.T ByteArray Unit) : Prop := MapM Tryd.prog strK unitM TS w b N L
abbrev lI := MapP.ltK intK
abbrev lS := MapP.ltK strK
theorem zeroMap1 (w : World) : (zeroValue 74).run Tryd.prog w = .ok (mapE.val none) w := by kernel_rfl
theorem zeroMap2 (w : World) : (zeroValue 90).run Tryd.prog w = .ok (mapE.val none) w := by kernel_rfl
theorem zeroQue (w : World) : (zeroValue 77).run Tryd.prog w = .ok (ptrM.val none) w := by kernel_rfl
theorem zeroGoal (w : World) : (zeroValue 72).run Tryd.prog w = .ok (goalM.val (⟨#[]⟩, 0)) w := by kernel_rfl
theorem zeroNum (w : World) : (zeroValue 3).run Tryd.prog w = .ok (numM.val 0) w := by kernel_rfl
/-- what a block is -/
inductive Role where
  | box | m1 | m2 | m3 | m4
  | own (k : ByteArray)
  | mem (t : Int)
  | que (k : ByteArray)
  | itm (k : ByteArray)
/-- a row in memory -/
def Que (w : World) (q : Nat) (A : Option Addr) (n c : Nat) (l : Row) : Prop := Str w q #[.slice A n c, .int .i64 0] ∧ OwnE WishE 80 w 0 A n c l
/-- a table in memory, its parts named -/
structure LkIn (w : World) (t : Nat) (bs : List Nat) (N : Nat) (X : St) (lab : Nat → Role) (b1 b2 b3 b4 : Nat) (es1 : MapP.T ByteArray (Option Nat)) (es2 : MapP.T Int (Option Nat)) (es3 : MapP.T ByteArray (Option Nat)) : Prop where
  box : Str w t #[.map (some b1), .map (some b2), .map (some b3), .map (some b4)]
  m1 : M1 w b1 N es1
  m2 : M2 w b2 N es2
  m3 : M3 w b3 N es3
  m4 : M4 w b4 N X.goal
  labs : lab t = .box ∧ lab b1 = .m1 ∧ lab b2 = .m2 ∧ lab b3 = .m3 ∧ lab b4 = .m4
  inb : t ∈ bs ∧ b1 ∈ bs ∧ b2 ∈ bs ∧ b3 ∈ bs ∧ b4 ∈ bs
  e1 : ∀ k o, MapP.get es1 k = some o → ∃ b, o = some b ∧ lab b = .own k ∧ b ∈ bs ∧ MO w b N (X.own k)
  n1 : ∀ k, MapP.get es1 k = none → X.own k = []
  e2 : ∀ u o, MapP.get es2 u = some o → ∃ b, o = some b ∧ lab b = .mem u ∧ b ∈ bs ∧ MM w b N (X.mem u)
  n2 : ∀ u, MapP.get es2 u = none → X.mem u = []
  e3 : ∀ k o, MapP.get es3 k = some o → ∃ q A n c, o = some q ∧ lab q = .que k ∧ q ∈ bs ∧ Que w q A n c (X.row k) ∧ (∀ a, A = some a → lab a.block = .itm k ∧ a.block ∈ bs) ∧ n ≤ N
  n3 : ∀ k, MapP.get es3 k = none → X.row k = []
  lo : ∀ b ∈ bs, b < w.heap.size
/-- a table in memory -/
def Lk (w : World) (t : Nat) (bs : List Nat) (N : Nat) (X : St) : Prop := ∃ lab b1 b2 b3 b4 es1 es2 es3, LkIn w t bs N X lab b1 b2 b3 b4 es1 es2 es3
section
variable {w w' : World} {t N N' x b1 b2 b3 b4 : Nat} {bs : List Nat} {X : St} {lab : Nat → Role} {es1 : MapP.T ByteArray (Option Nat)} {es2 : MapP.T Int (Option Nat)} {es3 : MapP.T ByteArray (Option Nat)}
theorem que_at {q n c : Nat} {A : Option Addr} {l : Row} (h : Que w q A n c l) (hq : w'.heap[q]? = w.heap[q]?) (hA : ∀ a, A = some a → w'.heap[a.block]? = w.heap[a.block]?) : Que w' q A n c l := by
  obtain ⟨⟨T, hs⟩, ho⟩ := h
  exact ⟨⟨T, hq.trans hs⟩, own_at wishE_pure ho hA⟩
theorem LkIn.at_ (h : LkIn w t bs N X lab b1 b2 b3 b4 es1 es2 es3) (hb : ∀ b ∈ bs, w'.heap[b]? = w.heap[b]?) : LkIn w' t bs N X lab b1 b2 b3 b4 es1 es2 es3 := by
  obtain ⟨i0, i1, i2, i3, i4⟩ := h.inb
  refine ⟨?_, h.m1.at_ (hb _ i1), h.m2.at_ (hb _ i2), h.m3.at_ (hb _ i3), h.m4.at_ (hb _ i4), h.labs, h.inb, fun k o ho => ?_, h.n1, fun u o ho => ?_, h.n2, fun k o ho => ?_, h.n3, fun b hm => ?_⟩
  · obtain ⟨T, hs⟩ := h.box
    exact ⟨T, (hb _ i0).trans hs⟩
  · obtain ⟨b, e, l, hm, hM⟩ := h.e1 k o ho
    exact ⟨b, e, l, hm, hM.at_ (hb _ hm)⟩
  · obtain ⟨b, e, l, hm, hM⟩ := h.e2 u o ho
    exact ⟨b, e, l, hm, hM.at_ (hb _ hm)⟩
  · obtain ⟨q, A, n, c, e, l, hm, hQ, hA, hn⟩ := h.e3 k o ho
    exact ⟨q, A, n, c, e, l, hm, que_at hQ (hb _ hm) (fun a ha => hb _ (hA a ha).2), hA, hn⟩
  · have h1 := h.lo b hm
    have h2 := hb b hm
    rw [Array.getElem?_eq_getElem h1] at h2
    exact (Array.getElem?_eq_some_iff.1 h2).1
theorem LkIn.next (h : LkIn w t bs N X lab b1 b2 b3 b4 es1 es2 es3) (hb : Below w.heap.size w w') : LkIn w' t bs N X lab b1 b2 b3 b4 es1 es2 es3 := h.at_ fun b hm => hb.block b (h.lo b hm)
theorem LkIn.mono (h : LkIn w t bs N X lab b1 b2 b3 b4 es1 es2 es3) (hN : N ≤ N') : LkIn w t bs N' X lab b1 b2 b3 b4 es1 es2 es3 :=
  ⟨h.box, h.m1.mono hN, h.m2.mono hN, h.m3.mono hN, h.m4.mono hN, h.labs, h.inb, fun k o ho => by obtain ⟨b, e, l, hm, hM⟩ := h.e1 k o ho; exact ⟨b, e, l, hm, hM.mono hN⟩, h.n1, fun u o ho => by obtain ⟨b, e, l, hm, hM⟩ := h.e2 u o ho; exact ⟨b, e, l, hm, hM.mono hN⟩, h.n2, fun k o ho => by obtain ⟨q, A, n, c, e, l, hm, hQ, hA, hn⟩ := h.e3 k o ho; exact ⟨q, A, n, c, e, l, hm, hQ, hA, Nat.le_trans hn hN⟩, h.n3, h.lo⟩
theorem Lk.next (h : Lk w t bs N X) (hb : Below w.heap.size w w') : Lk w' t bs N X := by
  obtain ⟨lab, b1, b2, b3, b4, es1, es2, es3, h⟩ := h
  exact ⟨lab, b1, b2, b3, b4, es1, es2, es3, h.next hb⟩
theorem Lk.mono (h : Lk w t bs N X) (hN : N ≤ N') : Lk w t bs N' X := by
  obtain ⟨lab, b1, b2, b3, b4, es1, es2, es3, h⟩ := h
  exact ⟨lab, b1, b2, b3, b4, es1, es2, es3, h.mono hN⟩
theorem Lk.lo (h : Lk w t bs N X) : ∀ b ∈ bs, b < w.heap.size := by
  obtain ⟨lab, b1, b2, b3, b4, es1, es2, es3, h⟩ := h
  exact h.lo
/-- what stands when one block turns -/
structure Rest (w' : World) (t : Nat) (bs : List Nat) (N : Nat) (X : St) (lab : Nat → Role) (b1 b2 b3 b4 : Nat) (es1 : MapP.T ByteArray (Option Nat)) (es2 : MapP.T Int (Option Nat)) (es3 : MapP.T ByteArray (Option Nat)) (r : Role) : Prop where
  box : r ≠ .box → Str w' t #[.map (some b1), .map (some b2), .map (some b3), .map (some b4)]
  m1 : r ≠ .m1 → M1 w' b1 N es1
  m2 : r ≠ .m2 → M2 w' b2 N es2
  m3 : r ≠ .m3 → M3 w' b3 N es3
  m4 : r ≠ .m4 → M4 w' b4 N X.goal
  e1 : ∀ k o, r ≠ .own k → MapP.get es1 k = some o → ∃ b, o = some b ∧ lab b = .own k ∧ b ∈ bs ∧ MO w' b N (X.own k)
  e2 : ∀ u o, r ≠ .mem u → MapP.get es2 u = some o → ∃ b, o = some b ∧ lab b = .mem u ∧ b ∈ bs ∧ MM w' b N (X.mem u)
  e3 : ∀ k o, r ≠ .que k → r ≠ .itm k → MapP.get es3 k = some o → ∃ q A n c, o = some q ∧ lab q = .que k ∧ q ∈ bs ∧ Que w' q A n c (X.row k) ∧ (∀ a, A = some a → lab a.block = .itm k ∧ a.block ∈ bs) ∧ n ≤ N
  lo : ∀ b ∈ bs, b < w'.heap.size
theorem LkIn.rest (h : LkIn w t bs N X lab b1 b2 b3 b4 es1 es2 es3) (hg : w.grownBy w' (some x)) : Rest w' t bs N X lab b1 b2 b3 b4 es1 es2 es3 (lab x) := by
  obtain ⟨i0, i1, i2, i3, i4⟩ := h.inb
  obtain ⟨l0, l1, l2, l3, l4⟩ := h.labs
  have key : ∀ b ∈ bs, lab x ≠ lab b → w'.heap[b]? = w.heap[b]? := fun b hm hne => hg.block b (h.lo b hm) (fun e => hne (by injection e with e; rw [e]))
  refine ⟨fun hr => ?_, fun hr => h.m1.at_ (key _ i1 (by rw [l1]; exact hr)), fun hr => h.m2.at_ (key _ i2 (by rw [l2]; exact hr)), fun hr => h.m3.at_ (key _ i3 (by rw [l3]; exact hr)), fun hr => h.m4.at_ (key _ i4 (by rw [l4]; exact hr)), fun k o hr ho => ?_, fun u o hr ho => ?_, fun k o hr hr2 ho => ?_, fun b hm => Nat.lt_of_lt_of_le (h.lo b hm) hg.size⟩
  · obtain ⟨T, hs⟩ := h.box
    exact ⟨T, (key _ i0 (by rw [l0]; exact hr)).trans hs⟩
  · obtain ⟨b, e, l, hm, hM⟩ := h.e1 k o ho
    exact ⟨b, e, l, hm, hM.at_ (key b hm (by rw [l]; exact hr))⟩
  · obtain ⟨b, e, l, hm, hM⟩ := h.e2 u o ho
    exact ⟨b, e, l, hm, hM.at_ (key b hm (by rw [l]; exact hr))⟩
  · obtain ⟨q, A, n, c, e, l, hm, hQ, hA, hn⟩ := h.e3 k o ho
    exact ⟨q, A, n, c, e, l, hm, que_at hQ (key q hm (by rw [l]; exact hr)) (fun a ha => key _ (hA a ha).2 (by rw [(hA a ha).1]; exact hr2)), hA, hn⟩
end
end LockW
end Go.Proofs.YtkkfabnehhamdaaDoor
end
section
namespace Go.Proofs.YtkkfabnehhamdaaDoor
open Go.RowKit
set_option linter.unusedVariables false
set_option linter.unusedSectionVars false
namespace Reg
/-- the parts: the box and its field, the slice in it, what comes behind; the slots of the slice, the row of one, the new slice -/
structure PushQ {α : Type} (E : El α) where
  N : Nat
  d : Nat
  f : Nat
  box : Array Value
  A : Option Addr
  n : Nat
  c : Nat
  l : List α
  x : α
  T : TypeId
  t0 : Tmp
  t1 : Tmp
  t2 : Tmp
section
variable {α : Type} {E : El α} {I : PushQ E} {a : Act} {w w' : World} {b : Bool} {dst : Option Tmp} {v : Value} {P : Program}
def PushQ.Side (I : PushQ E) (b : Bool) (a : Act) (w : World) : Prop := b = true → ∃ g vs, a.eval (.tmp I.t1) = .slice (some ⟨g, 0, none⟩) 1 1 ∧ Str w g vs.toArray ∧ E.rel w w.heap.size vs I.x
def PushQ.Row (I : PushQ E) (w : World) (A' : Option Addr) (c' : Nat) : Prop := OwnE E I.T w 0 A' (I.n + 1) c' (I.l ++ [I.x]) ∧ ∀ p, A' = some p → I.A = some p ∨ I.N ≤ p.block
def PushQ.S (I : PushQ E) : LS := fun k b a w => match k with
  | 0 => Str w I.d I.box ∧ OwnE E I.T w 0 I.A I.n I.c I.l ∧ I.Side b a w
  | 1 => a.eval (.tmp I.t0) = .slice I.A I.n I.c ∧ Str w I.d I.box ∧ OwnE E I.T w 0 I.A I.n I.c I.l ∧ I.Side b a w
  | 2 => b = true ∧ ∃ A' c', a.eval (.tmp I.t2) = .slice A' (I.n + 1) c' ∧ Str w I.d I.box ∧ I.Row w A' c'
  | _ => b = true ∧ ∃ A' c', Str w I.d (I.box.setIfInBounds I.f (.slice A' (I.n + 1) c')) ∧ I.Row w A' c'
theorem PushQ.Side.put (hE : E.Pure) (hd : dst ≠ some I.t1) (h : I.Side b a w) (hb : Below w.heap.size w w') : I.Side b (a.put dst v) w' := fun e => by
  obtain ⟨g, vs, h1, h2, h3⟩ := h e
  exact ⟨g, vs, by rw [eval_ne hd]; exact h1, h2.next hb, hE _ _ _ _ _ _ h3⟩
theorem PushQ.Row.next {A' : Option Addr} {c' : Nat} (h : I.Row w A' c') (hb : Below w.heap.size w w') : I.Row w' A' c' := ⟨h.1.next hb, h.2⟩
theorem PushQ.S_put (hE : E.Pure) (hd : dst ≠ some I.t0 ∧ dst ≠ some I.t1 ∧ dst ≠ some I.t2) (k : Nat) (h : I.S k b a w) (hb : Below w.heap.size w w') : I.S k b (a.put dst v) w' := by
  match k, h with
  | 0, h => exact ⟨h.1.next hb, h.2.1.next hb, h.2.2.put hE hd.2.1 hb⟩
  | 1, h => exact ⟨by rw [eval_ne hd.1]; exact h.1, h.2.1.next hb, h.2.2.1.next hb, h.2.2.2.put hE hd.2.1 hb⟩
  | 2, h =>
    obtain ⟨e, A', c', h1, h2, h3⟩ := h
    exact ⟨e, A', c', by rw [eval_ne hd.2.2]; exact h1, h2.next hb, h3.next hb⟩
  | _ + 3, h =>
    obtain ⟨e, A', c', h2, h3⟩ := h
    exact ⟨e, A', c', h2.next hb, h3.next hb⟩
/-- the slice is read -/
theorem PushQ.S_zero (hE : E.Pure) (h : I.S 0 b a w) (ha : I.t0 < a.tmps.size) (hd : I.t0 ≠ I.t1) : I.S 1 b (a.put (some I.t0) (.slice I.A I.n I.c)) w :=
  ⟨eval_put_same ha, h.1, h.2.1, h.2.2.put hE (fun e => hd (Option.some.inj e)) (bsame w)⟩
/-- the row of one is made -/
theorem PushQ.S_side (hE : E.Pure) (k : Nat) (h : I.S k false a w) (ha : I.t1 < a.tmps.size) (hd : I.t1 ≠ I.t0) (vs : List Value) (TE : TypeId) (hr : E.rel w w.heap.size vs I.x) :
    I.S k true (a.put (some I.t1) (.slice (some ⟨w.heap.size, 0, none⟩) 1 1)) (w.alloc (.cells vs.toArray TE)) := by
  have hb : Below w.heap.size w (w.alloc (.cells vs.toArray TE)) := balloc (bsame w) _
  have hside : I.Side true (a.put (some I.t1) (.slice (some ⟨w.heap.size, 0, none⟩) 1 1)) (w.alloc (.cells vs.toArray TE)) := fun _ => ⟨_, vs, eval_put_same ha, Str.new w _ _, hE _ _ _ _ _ _ hr⟩
  match k, h with
  | 0, h => exact ⟨h.1.next hb, h.2.1.next hb, hside⟩
  | 1, h => exact ⟨by rw [eval_ne (fun e => hd (Option.some.inj e))]; exact h.1, h.2.1.next hb, h.2.2.1.next hb, hside⟩
  | 2, h => exact absurd h.1 (by decide)
  | _ + 3, h => exact absurd h.1 (by decide)
/-- the append -/
theorem PushQ.S_one (hE : E.Pure) (t ty : TypeId) (i : TypeInfo) (z : Value) (bytes : Nat) (ht : P.underlying t = some (.slice I.T)) (hi : P.info? I.T = some i) (hz : i.zero = some z) (hs : i.size = E.size) (hby : i.bytes = bytes) (hzs : z.cells.size = E.size)
    (h : I.S 1 true a w) (ha : I.t2 < a.tmps.size) (hN : I.N ≤ w.heap.size) (hne : ∀ p, I.A = some p → p.block ≠ I.d) (hn : I.n + 1 ≤ maxLen) (hbytes : (I.n + 1) * bytes ≤ 140737488355328) :
    ∃ A2 A' c' w', a.eval (.tmp I.t0) = .slice I.A I.n I.c ∧ a.eval (.tmp I.t1) = .slice A2 1 1 ∧ (appSem #[t, t] ty #[.slice I.A I.n I.c, .slice A2 1 1]).run P w = .ok (.slice A' (I.n + 1) c') w' ∧ I.S 2 true (a.put (some I.t2) (.slice A' (I.n + 1) c')) w' ∧ KeepB I.N (I.d :: (I.A.map (·.block)).toList) w w' := by
  obtain ⟨h1, h2, h3, h4⟩ := h
  obtain ⟨g, vs, hg1, hg2, hg3⟩ := h4 rfl
  have hrow : ElemsIn E (hid I.A w) w w.heap.size (some ⟨g, 0, none⟩) 1 1 [I.x] := by
    refine ⟨[vs], ⟨hE _ _ _ _ _ _ hg3, trivial⟩, rfl, Nat.le_refl _, by unfold maxLen; omega, fun _ => ⟨g, 0, rfl, hg2.lt, fun j v hv => ?_⟩⟩
    rw [show [vs].flatten = vs by simp] at hv
    rw [Nat.zero_add, hg2.cell j]
    simpa using hv
  obtain ⟨A', c', w', k1, k2, k3, k4, k5⟩ := h3.app (P := P) t ty i z bytes ht hi hz hs hby hzs hrow hn hbytes (Nat.zero_le _)
  refine ⟨_, A', c', w', h1, hg1, k1, ⟨rfl, A', c', eval_put_same ha, Str.by_ h2 k4 (fun e => ?_), k2, fun p hp => ?_⟩, ⟨k4.os, k4.tape, k4.output, k4.size, fun j hj hn => k4.block j (by omega) (fun e => hn ?_)⟩⟩
  · cases hA : I.A with
    | none => rw [hA] at e; cases e
    | some ad =>
      rw [hA] at e
      exact hne ad hA (by simpa [Value.ownBlock] using e)
  · rcases k5 with e | ⟨q, e, e2⟩
    · exact .inl (by rw [← e]; exact hp)
    · right
      rw [hp] at e
      cases e
      omega
  · cases hA : I.A with
    | none => rw [hA] at e; cases e
    | some ad =>
      rw [hA] at e
      have h6 : ad.block = j := by simpa [Value.ownBlock] using e.symm
      simp [h6]
/-- the store -/
theorem PushQ.S_two (hE : E.Pure) (h : I.S 2 true a w) (hdN : I.d < I.N) (hne : ∀ p, I.A = some p → p.block ≠ I.d) :
    ∃ A' c', a.eval (.tmp I.t2) = .slice A' (I.n + 1) c' ∧ Str w I.d I.box ∧ I.S 3 true a (w.setCell ⟨I.d, I.f, none⟩ (.slice A' (I.n + 1) c')) := by
  obtain ⟨-, A', c', h1, h2, h3⟩ := h
  refine ⟨A', c', h1, h2, rfl, A', c', h2.set I.f _, h3.1.grownP hE (grown_set (grown_refl w _) I.f _) (fun ad e e2 => ?_), h3.2⟩
  injection e2 with e2
  rcases h3.2 ad e with h4 | h4
  · exact hne ad h4 e2.symm
  · omega
end
end Reg
end Go.Proofs.YtkkfabnehhamdaaDoor
end
section
namespace Go.Proofs.YtkkfabnehhamdaaDoor
open Go.RowKit Go.Maps LockP
set_option linter.unusedVariables false
set_option linter.unusedSimpArgs false
namespace LockW
theorem infoW : (Tryd.prog.info? 80).map (fun i => (i.zero, i.size, i.bytes)) = some (some (.agg #[.int .i64 0, .int .i64 0]), 2, 16) := by kernel_rfl
theorem keep_ahead {w w1 w' : World} {bs : List Nat} (hb : Below w.heap.size w w1) (h : Reg.KeepB w1.heap.size bs w1 w') : Reg.KeepB w.heap.size bs w w' :=
  ⟨h.os.trans hb.os, h.tape.trans hb.tape, h.output.trans hb.output, Nat.le_trans hb.size h.size, fun i hi hn => (h.block i (Nat.lt_of_lt_of_le hi hb.size) hn).trans (hb.block i hi)⟩
set_option maxRecDepth 100000 in
set_option maxHeartbeats 1000000 in
theorem newq_any (w : World) : Calls Tryd.prog 50 #[] w fun e w' => ∃ q, e = .returned (.pointer (some ⟨q, 0, none⟩)) ∧ q = w.heap.size ∧ Que w' q none 0 0 [] ∧ Below w.heap.size w w' := by
  go_enter Tryd.func50, Tryd.ntmps50
  go_wp2_with fail
  go_ret
  exact ⟨w.heap.size, rfl, rfl, ⟨Str.new w _ _, OwnE.none_ _ _ _ _⟩, balloc (bsame w) _⟩
set_option maxRecDepth 100000 in
set_option maxHeartbeats 1000000 in
theorem lenq_any (q n c : Nat) (A : Option Addr) (l : Row) (w : World) (h : Que w q A n c l) (hn : n ≤ 1000000) : Calls Tryd.prog 76 #[.pointer (some ⟨q, 0, none⟩)] w fun e w' => e = .returned (.int .i64 (n : Int)) ∧ Below w.heap.size w w' := by
  have HS := Lib.hid h.1
  have f0 := str2 h.1
  have hl := h.1.lt
  clear h
  go_enter Tryd.func76, Tryd.ntmps76
  go_wp2_with fail
  refine Reg.wp_region_vals (R := ext) (W := w) [Reg.eqv (.pointer (some ⟨q, 0, none⟩)), Reg.eqv (.pointer (some ⟨q, 0, none⟩)), Reg.eqv (.pointer (some ⟨q, 0, none⟩)), Reg.eqv (.slice A n c), Reg.eqv (.int .i64 (n : Int)), Reg.eqv (.pointer (some ⟨q, 0, none⟩)), Reg.eqv (.pointer (some ⟨q, 0, none⟩)), Reg.eqv (.pointer (some ⟨q, 1, none⟩)), Reg.eqv (.int .i64 0), Reg.eqv (.int .i64 (n : Int)), Reg.eqv (.int .i64 (n : Int))] 15 [[(0, none)], [(5, some 0)], [(6, some 1)], [(7, some 2)], [(8, some 3)], [(0, none)], [(10, some 5)], [(11, some 6)], [(12, some 7)], [(9, some 4), (13, some 8)], [(14, some 9)]] rfl (by kernel_rfl) (by kernel_rfl) (by kernel_rfl) ?_ [some 5, some 6, some 7, some 8, some 9, some 10, some 11, some 12, some 13, some 14, some 2] (by kernel_rfl) ?_
  · refine ⟨?_, ?_, ?_, ?_, ?_, ?_, ?_, ?_, ?_, ?_, ?_, trivial⟩
    · intro ax wx hx hs
      obtain ⟨e0, -⟩ := hs
      have g0 := Reg.ev (v := .pointer (some ⟨q, 0, none⟩)) e0
      exact Reg.obl_free rfl (Reg.wp_eqv (Option.some_ne_none _) (by go_simp) rfl)
    · intro ax wx hx hs
      obtain ⟨e5, -⟩ := hs
      have g5 := Reg.ev (v := .pointer (some ⟨q, 0, none⟩)) e5
      exact Reg.obl_free rfl (Reg.wp_eqv (Option.some_ne_none _) (by go_simp) rfl)
    · intro ax wx hx hs
      obtain ⟨e6, -⟩ := hs
      have g6 := Reg.ev (v := .pointer (some ⟨q, 0, none⟩)) e6
      exact Reg.obl_free rfl (Reg.wp_eqv (Option.some_ne_none _) (by go_simp) rfl)
    · intro ax wx hx hs
      obtain ⟨e7, -⟩ := hs
      have g7 := Reg.ev (v := .pointer (some ⟨q, 0, none⟩)) e7
      have l0 := str2 (HS.out.next hx)
      exact Reg.obl_free rfl (Reg.wp_eqv (Option.some_ne_none _) (by go_simp) rfl)
    · intro ax wx hx hs
      obtain ⟨e8, -⟩ := hs
      have g8 := Reg.ev (v := .slice A n c) e8
      exact Reg.obl_free rfl (Reg.wp_eqv (Option.some_ne_none _) (by go_simp) rfl)
    · intro ax wx hx hs
      obtain ⟨e0, -⟩ := hs
      have g0 := Reg.ev (v := .pointer (some ⟨q, 0, none⟩)) e0
      exact Reg.obl_free rfl (Reg.wp_eqv (Option.some_ne_none _) (by go_simp) rfl)
    · intro ax wx hx hs
      obtain ⟨e10, -⟩ := hs
      have g10 := Reg.ev (v := .pointer (some ⟨q, 0, none⟩)) e10
      exact Reg.obl_free rfl (Reg.wp_eqv (Option.some_ne_none _) (by go_simp) rfl)
    · intro ax wx hx hs
      obtain ⟨e11, -⟩ := hs
      have g11 := Reg.ev (v := .pointer (some ⟨q, 0, none⟩)) e11
      exact Reg.obl_free rfl (Reg.wp_eqv (Option.some_ne_none _) (by go_simp) rfl)
    · intro ax wx hx hs
      obtain ⟨e12, -⟩ := hs
      have g12 := Reg.ev (v := .pointer (some ⟨q, 1, none⟩)) e12
      have l0 := str2 (HS.out.next hx)
      exact Reg.obl_free rfl (Reg.wp_eqv (Option.some_ne_none _) (by go_simp) rfl)
    · intro ax wx hx hs
      obtain ⟨e9, e13, -⟩ := hs
      have g9 := Reg.ev (v := .int .i64 (n : Int)) e9
      have g13 := Reg.ev (v := .int .i64 0) e13
      refine Reg.obl_free rfl ?_
      exact Reg.wp_eqv (Option.some_ne_none _) (by go_simp; exact IntWalk.i64_in _ (by omega)) rfl
    · intro ax wx hx hs
      obtain ⟨e14, -⟩ := hs
      have g14 := Reg.ev (v := .int .i64 (n : Int)) e14
      exact Reg.obl_free rfl (Reg.wp_eqv (Option.some_ne_none _) (by go_simp) rfl)
  · intro W1 hwf
    simp only [Reg.Fin]
    rintro _ rfl _ rfl _ rfl _ rfl _ rfl _ rfl _ rfl _ rfl _ rfl _ rfl _ rfl
    go_simp
    have hwf' : Below w.heap.size w W1 := hwf
    go_wp2
    go_ret
    exact ⟨rfl, hwf'⟩
set_option maxRecDepth 100000 in
set_option maxHeartbeats 1000000 in
theorem all_any (o : Option Addr) (w : World) : Calls Tryd.prog 32 #[.pointer o] w fun e w' => e = .returned (.func (.func 52) #[] #[.pointer (some ⟨w.heap.size, 0, none⟩)]) ∧ Str w' w.heap.size #[.pointer o] ∧ Below w.heap.size w w' ∧ w'.heap.size = w.heap.size + 1 := by
  go_enter Tryd.func32, Tryd.ntmps32
  go_wp2
  go_ret
  exact ⟨rfl, Str.new w _ _, balloc (bsame w) _, by simp⟩
set_option maxRecDepth 100000 in
set_option maxHeartbeats 4000000 in
theorem push_any (q n c : Nat) (A : Option Addr) (l : Row) (x : Int × Int) (w : World) (h : Que w q A n c l) (hne : ∀ p, A = some p → p.block ≠ q) (hlt : ∀ p, A = some p → p.block < w.heap.size) (hn : n ≤ 1000000) : Calls Tryd.prog 51 #[.pointer (some ⟨q, 0, none⟩), .agg #[.int .i64 x.1, .int .i64 x.2]] w fun e w' => e = .returned (.tuple #[]) ∧ ∃ A' c', Que w' q A' (n + 1) c' (l ++ [x]) ∧ (∀ p, A' = some p → A = some p ∨ w.heap.size ≤ p.block) ∧ Reg.KeepB w.heap.size (q :: (A.map (·.block)).toList) w w' := by
  obtain ⟨i0, hi0, iz0, iz1, iz2⟩ := info_parts infoW
  have HI0 := Lib.hid (And.intro hi0 (And.intro iz0 (And.intro iz1 iz2)))
  have HNE : Hid (∀ p, A = some p → p.block ≠ q) := Lib.hid hne
  have hql := h.1.lt
  clear hi0 iz0 iz1 iz2 hne
  go_enter Tryd.func51, Tryd.ntmps51
  go_wp2_with fail
  generalize hW0 : w.alloc (.cells #[.int .i64 x.1, .int .i64 x.2] 80) = W0
  have hb0 : Below w.heap.size w W0 := by rw [← hW0]; exact balloc (bsame w) _
  have HB0 : Hid (Str W0 w.heap.size #[.int .i64 x.1, .int .i64 x.2]) := Lib.hid (by rw [← hW0]; exact Str.new w _ _)
  have HQ : Hid (Que W0 q A n c l) := Lib.hid ⟨h.1.next hb0, h.2.next hb0⟩
  have HQL : Hid (q < W0.heap.size) := Lib.hid (HQ.out.1.lt)
  have HNB : Hid (w.heap.size ∉ q :: (A.map (·.block)).toList) := Lib.hid (fun hm => by
    rcases List.mem_cons.1 hm with e | hm
    · omega
    · obtain ⟨p, e, e2⟩ := Option.map_eq_some_iff.1 (Option.mem_toList.1 hm)
      have := hlt p e
      omega)
  have HBB := Lib.hid hb0
  clear hW0 hb0 h hlt
  refine Reg.wp_region_box (R := (Reg.extB W0.heap.size (q :: (A.map (·.block)).toList))) (W := W0) (Reg.LineJ (Reg.Line.mk [4, 7, 10] 6 (Reg.PushQ.S (Reg.PushQ.mk (E := WishE) W0.heap.size q 0 #[.slice A n c, .int .i64 0] A n c l x 80 10 12 13)))) [Reg.eqv (.pointer (some ⟨q, 0, none⟩)), Reg.eqv (.pointer (some ⟨q, 0, none⟩)), Reg.eqv (.pointer (some ⟨q, 0, none⟩)), Reg.eqv (.pointer (some ⟨q, 0, none⟩)), Reg.any, Reg.eqv (.agg #[.int .i64 x.1, .int .i64 x.2]), Reg.any, Reg.any, Reg.eqv (.pointer (some ⟨q, 0, none⟩)), Reg.eqv (.pointer (some ⟨q, 0, none⟩)), Reg.any] 16 [[(0, none)], [(0, none)], [(7, some 1)], [(8, some 2)], [(9, some 3)], [(3, none)], [(11, some 5)], [(10, some 4), (12, some 6)], [(6, some 0)], [(14, some 8)], [(15, some 9), (13, some 7)]] rfl (by kernel_rfl) (by kernel_rfl) (fun _ h => Reg.line_zero (l := (Reg.Line.mk [4, 7, 10] 6 (Reg.PushQ.S (Reg.PushQ.mk (E := WishE) W0.heap.size q 0 #[.slice A n c, .int .i64 0] A n c l x 80 10 12 13)))) ⟨HQ.out.1.next ((bsame W0).drew), HQ.out.2.next ((bsame W0).drew), fun e => by cases e⟩ h) (by kernel_rfl) ?_ [some 6, some 7, some 8, some 9, some 10, some 11, some 12, some 13, some 14, some 15, none] (by kernel_rfl) ?_
  · refine ⟨?_, ?_, ?_, ?_, ?_, ?_, ?_, ?_, ?_, ?_, ?_, trivial⟩
    · refine Reg.oblL_ord (l := (Reg.Line.mk [4, 7, 10] 6 (Reg.PushQ.S (Reg.PushQ.mk (E := WishE) W0.heap.size q 0 #[.slice A n c, .int .i64 0] A n c l x 80 10 12 13)))) (by show 0 ∉ [4, 7, 10] ∧ 0 ≠ 6; decide) (Reg.extB_next rfl) (fun k1 b1 a1 w1 v1 w2 h1 h2 => Reg.PushQ.S_put (I := (Reg.PushQ.mk (E := WishE) W0.heap.size q 0 #[.slice A n c, .int .i64 0] A n c l x 80 10 12 13)) (b := b1) (dst := (some 6)) wishE_pure (by show (((some 6) : Option Nat) ≠ some 10 ∧ ((some 6) : Option Nat) ≠ some 12 ∧ ((some 6) : Option Nat) ≠ some 13); decide) k1 h1 h2) ?_
      intro ax wx hx hs
      obtain ⟨e0, -⟩ := hs
      have g0 := Reg.ev (v := .pointer (some ⟨q, 0, none⟩)) e0
      exact Reg.obl_freeL rfl (Reg.wp_eqvB (Option.some_ne_none _) (by go_simp) rfl)
    · refine Reg.oblL_ord (l := (Reg.Line.mk [4, 7, 10] 6 (Reg.PushQ.S (Reg.PushQ.mk (E := WishE) W0.heap.size q 0 #[.slice A n c, .int .i64 0] A n c l x 80 10 12 13)))) (by show 1 ∉ [4, 7, 10] ∧ 1 ≠ 6; decide) (Reg.extB_next rfl) (fun k1 b1 a1 w1 v1 w2 h1 h2 => Reg.PushQ.S_put (I := (Reg.PushQ.mk (E := WishE) W0.heap.size q 0 #[.slice A n c, .int .i64 0] A n c l x 80 10 12 13)) (b := b1) (dst := (some 7)) wishE_pure (by show (((some 7) : Option Nat) ≠ some 10 ∧ ((some 7) : Option Nat) ≠ some 12 ∧ ((some 7) : Option Nat) ≠ some 13); decide) k1 h1 h2) ?_
      intro ax wx hx hs
      obtain ⟨e0, -⟩ := hs
      have g0 := Reg.ev (v := .pointer (some ⟨q, 0, none⟩)) e0
      exact Reg.obl_freeL rfl (Reg.wp_eqvB (Option.some_ne_none _) (by go_simp) rfl)
    · refine Reg.oblL_ord (l := (Reg.Line.mk [4, 7, 10] 6 (Reg.PushQ.S (Reg.PushQ.mk (E := WishE) W0.heap.size q 0 #[.slice A n c, .int .i64 0] A n c l x 80 10 12 13)))) (by show 2 ∉ [4, 7, 10] ∧ 2 ≠ 6; decide) (Reg.extB_next rfl) (fun k1 b1 a1 w1 v1 w2 h1 h2 => Reg.PushQ.S_put (I := (Reg.PushQ.mk (E := WishE) W0.heap.size q 0 #[.slice A n c, .int .i64 0] A n c l x 80 10 12 13)) (b := b1) (dst := (some 8)) wishE_pure (by show (((some 8) : Option Nat) ≠ some 10 ∧ ((some 8) : Option Nat) ≠ some 12 ∧ ((some 8) : Option Nat) ≠ some 13); decide) k1 h1 h2) ?_
      intro ax wx hx hs
      obtain ⟨e7, -⟩ := hs
      have g7 := Reg.ev (v := .pointer (some ⟨q, 0, none⟩)) e7
      exact Reg.obl_freeL rfl (Reg.wp_eqvB (Option.some_ne_none _) (by go_simp) rfl)
    · refine Reg.oblL_ord (l := (Reg.Line.mk [4, 7, 10] 6 (Reg.PushQ.S (Reg.PushQ.mk (E := WishE) W0.heap.size q 0 #[.slice A n c, .int .i64 0] A n c l x 80 10 12 13)))) (by show 3 ∉ [4, 7, 10] ∧ 3 ≠ 6; decide) (Reg.extB_next rfl) (fun k1 b1 a1 w1 v1 w2 h1 h2 => Reg.PushQ.S_put (I := (Reg.PushQ.mk (E := WishE) W0.heap.size q 0 #[.slice A n c, .int .i64 0] A n c l x 80 10 12 13)) (b := b1) (dst := (some 9)) wishE_pure (by show (((some 9) : Option Nat) ≠ some 10 ∧ ((some 9) : Option Nat) ≠ some 12 ∧ ((some 9) : Option Nat) ≠ some 13); decide) k1 h1 h2) ?_
      intro ax wx hx hs
      obtain ⟨e8, -⟩ := hs
      have g8 := Reg.ev (v := .pointer (some ⟨q, 0, none⟩)) e8
      exact Reg.obl_freeL rfl (Reg.wp_eqvB (Option.some_ne_none _) (by go_simp) rfl)
    · refine Reg.oblL_line (l := (Reg.Line.mk [4, 7, 10] 6 (Reg.PushQ.S (Reg.PushQ.mk (E := WishE) W0.heap.size q 0 #[.slice A n c, .int .i64 0] A n c l x 80 10 12 13)))) (k := 0) rfl rfl (by show List.Nodup [4, 7, 10]; decide) (by show 4 ≠ 6; decide) (by show 4 < 11; decide) (.inl rfl) ?_
      intro b ax wx hx hs has hwb hS
      obtain ⟨e9, -⟩ := hs
      have g9 := Reg.ev (v := .pointer (some ⟨q, 0, none⟩)) e9
      have hxs : W0.heap.size ≤ wx.heap.size := Reg.KeepB.size hx
      have z0 : wx.cell? ⟨q, 0, none⟩ = some (.slice A n c) := (str2 hS.1).1
      have z2 := hS.1.lt
      refine Oper.wp_mono (K := fun a1 w1 => a1 = ax.put (some 10) (.slice A n c) ∧ w1 = wx) ?_ ?_
      · rintro a1 w1 ⟨rfl, rfl⟩
        exact ⟨⟨_, rfl, (fun h => by cases h), trivial, Reg.KeepB.of (Below.refl _ _)⟩, Reg.PushQ.S_zero (I := (Reg.PushQ.mk (E := WishE) W0.heap.size q 0 #[.slice A n c, .int .i64 0] A n c l x 80 10 12 13)) (b := b) wishE_pure hS (by rw [has]; show 10 < 16; decide) (by show (10 : Nat) ≠ 12; decide)⟩
      · clear has hS
        go_simp
    · refine Reg.oblL_ord (l := (Reg.Line.mk [4, 7, 10] 6 (Reg.PushQ.S (Reg.PushQ.mk (E := WishE) W0.heap.size q 0 #[.slice A n c, .int .i64 0] A n c l x 80 10 12 13)))) (by show 5 ∉ [4, 7, 10] ∧ 5 ≠ 6; decide) (Reg.extB_next rfl) (fun k1 b1 a1 w1 v1 w2 h1 h2 => Reg.PushQ.S_put (I := (Reg.PushQ.mk (E := WishE) W0.heap.size q 0 #[.slice A n c, .int .i64 0] A n c l x 80 10 12 13)) (b := b1) (dst := (some 11)) wishE_pure (by show (((some 11) : Option Nat) ≠ some 10 ∧ ((some 11) : Option Nat) ≠ some 12 ∧ ((some 11) : Option Nat) ≠ some 13); decide) k1 h1 h2) ?_
      intro ax wx hx hs
      obtain ⟨e3, -⟩ := hs
      have g3 := Reg.ev (v := .pointer (some ⟨w.heap.size, 0, none⟩)) e3
      have l0 := str2 (HB0.out.keepB hx HNB.out)
      exact Reg.obl_freeL rfl (Reg.wp_eqvB (Option.some_ne_none _) (by go_simp) rfl)
    · refine Reg.oblL_side (l := (Reg.Line.mk [4, 7, 10] 6 (Reg.PushQ.S (Reg.PushQ.mk (E := WishE) W0.heap.size q 0 #[.slice A n c, .int .i64 0] A n c l x 80 10 12 13)))) rfl rfl (by show 6 ∉ [4, 7, 10]; decide) (by show 6 < 11; decide) ?_
      intro k1 ax wx hx hs has hS
      obtain ⟨e11, -⟩ := hs
      have g11 := Reg.ev (v := .agg #[.int .i64 x.1, .int .i64 x.2]) e11
      have hxs : W0.heap.size ≤ wx.heap.size := Reg.KeepB.size hx
      refine Oper.wp_mono (K := fun a1 w1 => a1 = ax.put (some 12) (.slice (some ⟨wx.heap.size, 0, none⟩) 1 1) ∧ w1 = wx.alloc (.cells #[.int .i64 x.1, .int .i64 x.2] 80)) ?_ ?_
      · rintro a1 w1 ⟨rfl, rfl⟩
        exact ⟨⟨_, rfl, (fun h => by cases h), trivial, Reg.KeepB.of ((balloc (bsame wx) _).mono hxs)⟩, Reg.PushQ.S_side (I := (Reg.PushQ.mk (E := WishE) W0.heap.size q 0 #[.slice A n c, .int .i64 0] A n c l x 80 10 12 13)) wishE_pure k1 hS (by rw [has]; show 12 < 16; decide) (by show (12 : Nat) ≠ 10; decide) [.int .i64 x.1, .int .i64 x.2] 80 rfl⟩
      · clear has hS
        go_simp
    · refine Reg.oblL_line (l := (Reg.Line.mk [4, 7, 10] 6 (Reg.PushQ.S (Reg.PushQ.mk (E := WishE) W0.heap.size q 0 #[.slice A n c, .int .i64 0] A n c l x 80 10 12 13)))) (k := 1) rfl rfl (by show List.Nodup [4, 7, 10]; decide) (by show 7 ≠ 6; decide) (by show 7 < 11; decide) (.inr ⟨4, rfl, by kernel_rfl⟩) ?_
      intro b ax wx hx hs has hwb hS
      obtain ⟨e10, e12, -⟩ := hs
      have hxs : W0.heap.size ≤ wx.heap.size := Reg.KeepB.size hx
      obtain rfl := hwb (by kernel_rfl)
      obtain ⟨A2, A', c', w4, k1, k1', k2, k3, k4⟩ := Reg.PushQ.S_one (I := (Reg.PushQ.mk (E := WishE) W0.heap.size q 0 #[.slice A n c, .int .i64 0] A n c l x 80 10 12 13)) (P := Tryd.prog) wishE_pure 101 101 i0 _ 16 Tryd.underlying101 HI0.out.1 HI0.out.2.1 HI0.out.2.2.1 HI0.out.2.2.2 rfl hS (by rw [has]; show 13 < 16; decide) hxs HNE.out (by show n + 1 ≤ maxLen; unfold maxLen; omega) (by show (n + 1) * 16 ≤ _; omega)
      exact wp_appT (.tmp 10) (.tmp 12) rfl rfl k1 k1' k2 ⟨⟨_, rfl, (fun h => by cases h), trivial, k4⟩, k3⟩
    · refine Reg.oblL_ord (l := (Reg.Line.mk [4, 7, 10] 6 (Reg.PushQ.S (Reg.PushQ.mk (E := WishE) W0.heap.size q 0 #[.slice A n c, .int .i64 0] A n c l x 80 10 12 13)))) (by show 8 ∉ [4, 7, 10] ∧ 8 ≠ 6; decide) (Reg.extB_next rfl) (fun k1 b1 a1 w1 v1 w2 h1 h2 => Reg.PushQ.S_put (I := (Reg.PushQ.mk (E := WishE) W0.heap.size q 0 #[.slice A n c, .int .i64 0] A n c l x 80 10 12 13)) (b := b1) (dst := (some 14)) wishE_pure (by show (((some 14) : Option Nat) ≠ some 10 ∧ ((some 14) : Option Nat) ≠ some 12 ∧ ((some 14) : Option Nat) ≠ some 13); decide) k1 h1 h2) ?_
      intro ax wx hx hs
      obtain ⟨e6, -⟩ := hs
      have g6 := Reg.ev (v := .pointer (some ⟨q, 0, none⟩)) e6
      exact Reg.obl_freeL rfl (Reg.wp_eqvB (Option.some_ne_none _) (by go_simp) rfl)
    · refine Reg.oblL_ord (l := (Reg.Line.mk [4, 7, 10] 6 (Reg.PushQ.S (Reg.PushQ.mk (E := WishE) W0.heap.size q 0 #[.slice A n c, .int .i64 0] A n c l x 80 10 12 13)))) (by show 9 ∉ [4, 7, 10] ∧ 9 ≠ 6; decide) (Reg.extB_next rfl) (fun k1 b1 a1 w1 v1 w2 h1 h2 => Reg.PushQ.S_put (I := (Reg.PushQ.mk (E := WishE) W0.heap.size q 0 #[.slice A n c, .int .i64 0] A n c l x 80 10 12 13)) (b := b1) (dst := (some 15)) wishE_pure (by show (((some 15) : Option Nat) ≠ some 10 ∧ ((some 15) : Option Nat) ≠ some 12 ∧ ((some 15) : Option Nat) ≠ some 13); decide) k1 h1 h2) ?_
      intro ax wx hx hs
      obtain ⟨e14, -⟩ := hs
      have g14 := Reg.ev (v := .pointer (some ⟨q, 0, none⟩)) e14
      exact Reg.obl_freeL rfl (Reg.wp_eqvB (Option.some_ne_none _) (by go_simp) rfl)
    · refine Reg.oblL_line (l := (Reg.Line.mk [4, 7, 10] 6 (Reg.PushQ.S (Reg.PushQ.mk (E := WishE) W0.heap.size q 0 #[.slice A n c, .int .i64 0] A n c l x 80 10 12 13)))) (k := 2) rfl rfl (by show List.Nodup [4, 7, 10]; decide) (by show 10 ≠ 6; decide) (by show 10 < 11; decide) (.inr ⟨7, rfl, by kernel_rfl⟩) ?_
      intro b ax wx hx hs has hwb hS
      obtain ⟨e15, e13, -⟩ := hs
      have g15 := Reg.ev (v := .pointer (some ⟨q, 0, none⟩)) e15
      have hxs : W0.heap.size ≤ wx.heap.size := Reg.KeepB.size hx
      obtain rfl : b = true := hS.1
      obtain ⟨A', c', k1, k2, k3⟩ := Reg.PushQ.S_two (I := (Reg.PushQ.mk (E := WishE) W0.heap.size q 0 #[.slice A n c, .int .i64 0] A n c l x 80 10 12 13)) wishE_pure hS HQL.out HNE.out
      have g82 := Reg.ev k1
      have z1 : wx.frozen? ⟨q, 0, none⟩ = false := k2.frozen 0
      have z0 : wx.cell? ⟨q, 0, none⟩ = some (.slice A n c) := (str2 k2).1
      have z2 := k2.lt
      refine Oper.wp_mono (K := fun a1 w1 => a1 = ax ∧ w1 = wx.setCell ⟨q, 0, none⟩ (.slice A' (n + 1) c')) ?_ ?_
      · rintro a1 w1 ⟨rfl, rfl⟩
        exact ⟨⟨undef, rfl, fun _ => rfl, trivial, Reg.KeepB.grown (Reg.KeepB.of (Below.refl _ wx)) (grown_set (grown_refl wx _) 0 _) hxs (.inr (List.mem_cons_self ..))⟩, k3⟩
      · clear has k3
        go_simp
  · intro W2 listed hwf hall
    simp only [Reg.Fin]
    rintro _ rfl _ rfl _ rfl _ rfl v10 h10 _ rfl v12 h12 v13 h13 _ rfl _ rfl vn10 hn10
    intro hJ
    obtain ⟨bL, hbL, hSL⟩ := Reg.line_end (l := (Reg.Line.mk [4, 7, 10] 6 (Reg.PushQ.S (Reg.PushQ.mk (E := WishE) W0.heap.size q 0 #[.slice A n c, .int .i64 0] A n c l x 80 10 12 13)))) (n := 11) hall (by show ∀ c ∈ [4, 7, 10], c < 11; decide) hJ
    clear hJ hall hbL
    go_simp
    obtain ⟨-, A', c', hb5, hO5, hN5⟩ := hSL
    have hwf' : Reg.KeepB W0.heap.size (q :: (A.map (·.block)).toList) W0 W2 := hwf
    dsimp only at hb5
    have HF : Hid (Que W2 q A' (n + 1) c' (l ++ [x]) ∧ (∀ p, A' = some p → A = some p ∨ w.heap.size ≤ p.block) ∧ Reg.KeepB w.heap.size (q :: (A.map (·.block)).toList) w W2) := Lib.hid ⟨⟨by simpa using hb5, hO5⟩, fun p hp => (hN5 p hp).imp id (fun h => Nat.le_trans HBB.out.size h), keep_ahead HBB.out hwf'⟩
    clear hwf hwf' hb5 hO5 hN5
    go_wp2
    go_end0
    exact ⟨rfl, A', c', HF.out⟩
end LockW
end Go.Proofs.YtkkfabnehhamdaaDoor
end
