/-
  Parts of the proof of WalStays.
-/
import Derived.Test.YtpdfnlhhnodnjaaGreatWsG15
import Derived.Test.YtpdfnlhhnodnjaaGreatWsG8
import Derived.Test.YtpdfnlhhnodnjaaGreatWsG7
import Derived.Test.YtpdfnlhhnodnjaaGreatWsG6
import Derived.Test.YtpdfnlhhnodnjaaGreatWsG12
import Derived.Test.YtpdfnlhhnodnjaaGreatWsG14
section
namespace Go.Proofs.YtpdfnlhhnodnjaaGreat
open Go.RowKit
set_option linter.unusedVariables false
set_option linter.unusedSectionVars false
/-- a row of one element, just made -/
theorem ElemsIn.one {α : Type} {E : El α} {T : TypeId} {w : World} {A : Option Addr} {vs : List Value} {x : α} (hr : E.rel (hid A w) w.heap.size vs x) :
    ElemsIn E (hid A (w.alloc (.cells vs.toArray T))) (w.alloc (.cells vs.toArray T)) (w.alloc (.cells vs.toArray T)).heap.size (some ⟨w.heap.size, 0, none⟩) 1 1 [x] := by
  have hb : Below w.heap.size w (w.alloc (.cells vs.toArray T)) := balloc (bsame w) _
  have hs := Str.new w vs.toArray T
  refine ⟨[vs], ⟨E.more hb.size (E.sub (hid_below A hb) hr), trivial⟩, rfl, Nat.le_refl _, by unfold maxLen; omega, fun _ => ⟨_, 0, rfl, hs.lt, fun j v hv => ?_⟩⟩
  rw [show [vs].flatten = vs by simp] at hv
  rw [Nat.zero_add, hs.cell j]
  simpa using hv
namespace Reg
/-- the parts: the box and its field, the slice in it, what comes behind; the slots of the slice, the row of one, the new slice -/
structure Push {α : Type} (E : El α) where
  N : Nat
  base : Nat
  d : Nat
  f : Nat
  box : Array Value
  A : Option Addr
  n : Nat
  c : Nat
  l : List α
  x : α
  T : TypeId
  t0 : Tmp
  t1 : Tmp
  t2 : Tmp
section
variable {α : Type} {E : El α} {I : Push E} {a : Act} {w w' : World} {b : Bool} {dst : Option Tmp} {v : Value} {P : Program}
def Push.Side (I : Push E) (b : Bool) (a : Act) (w : World) : Prop := b = true → ∃ g, a.eval (.tmp I.t1) = .slice (some ⟨g, 0, none⟩) 1 1 ∧ ElemsIn E (hid I.A w) w w.heap.size (some ⟨g, 0, none⟩) 1 1 [I.x]
def Push.Row (I : Push E) (w : World) (A' : Option Addr) (c' : Nat) : Prop := OwnE E I.T w I.base A' (I.n + 1) c' (I.l ++ [I.x])
def Push.S (I : Push E) : LS := fun k b a w => match k with
  | 0 => Str w I.d I.box ∧ OwnE E I.T w I.base I.A I.n I.c I.l ∧ I.Side b a w
  | 1 => a.eval (.tmp I.t0) = .slice I.A I.n I.c ∧ Str w I.d I.box ∧ OwnE E I.T w I.base I.A I.n I.c I.l ∧ I.Side b a w
  | 2 => b = true ∧ ∃ A' c', a.eval (.tmp I.t2) = .slice A' (I.n + 1) c' ∧ Str w I.d I.box ∧ I.Row w A' c'
  | _ => b = true ∧ ∃ A' c', Str w I.d (I.box.setIfInBounds I.f (.slice A' (I.n + 1) c')) ∧ I.Row w A' c'
theorem Push.Side.put (hd : dst ≠ some I.t1) (h : I.Side b a w) (hb : Below w.heap.size w w') : I.Side b (a.put dst v) w' := fun e => by
  obtain ⟨g, h1, h2⟩ := h e
  exact ⟨g, by rw [eval_ne hd]; exact h1, (h2.keep (hid_below I.A hb) (sub_below hb)).more hb.size⟩
theorem Push.S_put (hd : dst ≠ some I.t0 ∧ dst ≠ some I.t1 ∧ dst ≠ some I.t2) (k : Nat) (h : I.S k b a w) (hb : Below w.heap.size w w') : I.S k b (a.put dst v) w' := by
  match k, h with
  | 0, h => exact ⟨h.1.next hb, h.2.1.next hb, h.2.2.put hd.2.1 hb⟩
  | 1, h => exact ⟨by rw [eval_ne hd.1]; exact h.1, h.2.1.next hb, h.2.2.1.next hb, h.2.2.2.put hd.2.1 hb⟩
  | 2, h =>
    obtain ⟨e, A', c', h1, h2, h3⟩ := h
    exact ⟨e, A', c', by rw [eval_ne hd.2.2]; exact h1, h2.next hb, OwnE.next h3 hb⟩
  | _ + 3, h =>
    obtain ⟨e, A', c', h2, h3⟩ := h
    exact ⟨e, A', c', h2.next hb, OwnE.next h3 hb⟩
/-- the slice is read -/
theorem Push.S_zero (h : I.S 0 b a w) (ha : I.t0 < a.tmps.size) (hd : I.t0 ≠ I.t1) : I.S 1 b (a.put (some I.t0) (.slice I.A I.n I.c)) w :=
  ⟨eval_put_same ha, h.1, h.2.1, h.2.2.put (fun e => hd (Option.some.inj e)) (bsame w)⟩
/-- the row of one is made -/
theorem Push.S_side (k : Nat) (h : I.S k false a w) (ha : I.t1 < a.tmps.size) (hd : I.t1 ≠ I.t0) (vs : List Value) (TE : TypeId) (hr : E.rel (hid I.A w) w.heap.size vs I.x) :
    I.S k true (a.put (some I.t1) (.slice (some ⟨w.heap.size, 0, none⟩) 1 1)) (w.alloc (.cells vs.toArray TE)) := by
  have hb : Below w.heap.size w (w.alloc (.cells vs.toArray TE)) := balloc (bsame w) _
  have hside : I.Side true (a.put (some I.t1) (.slice (some ⟨w.heap.size, 0, none⟩) 1 1)) (w.alloc (.cells vs.toArray TE)) := fun _ => ⟨_, eval_put_same ha, ElemsIn.one hr⟩
  match k, h with
  | 0, h => exact ⟨h.1.next hb, h.2.1.next hb, hside⟩
  | 1, h => exact ⟨by rw [eval_ne (fun e => hd (Option.some.inj e))]; exact h.1, h.2.1.next hb, h.2.2.1.next hb, hside⟩
  | 2, h => exact absurd h.1 (by decide)
  | _ + 3, h => exact absurd h.1 (by decide)
/-- the append -/
theorem Push.S_one (t ty : TypeId) (i : TypeInfo) (z : Value) (bytes : Nat) (ht : P.underlying t = some (.slice I.T)) (hi : P.info? I.T = some i) (hz : i.zero = some z) (hs : i.size = E.size) (hby : i.bytes = bytes) (hzs : z.cells.size = E.size)
    (h : I.S 1 true a w) (ha : I.t2 < a.tmps.size) (hN : I.N ≤ w.heap.size) (hbN : I.base ≤ I.N) (hdb : I.d < I.base) (hn : I.n + 1 ≤ maxLen) (hbytes : (I.n + 1) * bytes ≤ 140737488355328) :
    ∃ A2 A' c' w', a.eval (.tmp I.t0) = .slice I.A I.n I.c ∧ a.eval (.tmp I.t1) = .slice A2 1 1 ∧ (appSem #[t, t] ty #[.slice I.A I.n I.c, .slice A2 1 1]).run P w = .ok (.slice A' (I.n + 1) c') w' ∧ I.S 2 true (a.put (some I.t2) (.slice A' (I.n + 1) c')) w' ∧ KeepB I.N (I.d :: (I.A.map (·.block)).toList) w w' := by
  obtain ⟨h1, h2, h3, h4⟩ := h
  obtain ⟨g, hg1, hg2⟩ := h4 rfl
  obtain ⟨A', c', w', k1, k2, k3, k4, k5⟩ := h3.app (P := P) t ty i z bytes ht hi hz hs hby hzs hg2 hn hbytes (Nat.le_trans hbN hN)
  have hge := h3.ge
  refine ⟨_, A', c', w', h1, hg1, k1, ⟨rfl, A', c', eval_put_same ha, h2.grownO k4 (fun e => ?_), k2⟩, ⟨k4.os, k4.tape, k4.output, k4.size, fun j hj hn => k4.block j (by omega) (fun e => hn ?_)⟩⟩
  · cases hA : I.A with
    | none => rw [hA] at e; cases e
    | some ad =>
      rw [hA] at e
      have h5 := hge ad hA
      have h6 : ad.block = I.d := by simpa [Value.ownBlock] using e
      omega
  · cases hA : I.A with
    | none => rw [hA] at e; cases e
    | some ad =>
      rw [hA] at e
      have h6 : ad.block = j := by simpa [Value.ownBlock] using e.symm
      simp [h6]
/-- the store -/
theorem Push.S_two (hE : E.Byt) (h : I.S 2 true a w) (hdb : I.d < I.base) (hu : notU8 I.box = true) :
    ∃ A' c', a.eval (.tmp I.t2) = .slice A' (I.n + 1) c' ∧ Str w I.d I.box ∧ I.S 3 true a (w.setCell ⟨I.d, I.f, none⟩ (.slice A' (I.n + 1) c')) := by
  obtain ⟨-, A', c', h1, h2, h3⟩ := h
  refine ⟨A', c', h1, h2, rfl, A', c', h2.set I.f _, OwnE.grownU hE h3 h2 hu (grown_set (grown_refl w _) I.f _) (fun ad e => ?_)⟩
  have := OwnE.ge h3 ad e
  omega
end
end Reg
end Go.Proofs.YtpdfnlhhnodnjaaGreat
end
section
namespace Go.Proofs.YtpdfnlhhnodnjaaGreat
open Go.RowKit
set_option linter.unusedVariables false
/-- a row, just written out -/
theorem OwnE.lit {α : Type} {E : El α} {T : TypeId} {w : World} {base n : Nat} {vs : List (List Value)} {xs : List α} {cs : Array Value} (hb : base ≤ w.heap.size) (hr : Rel2 (E.rel w w.heap.size) vs xs) (hcs : cs = vs.flatten.toArray) (hn : xs.length = n) (hm : n ≤ maxLen) :
    OwnE E T (w.alloc (.cells cs T)) base (some ⟨w.heap.size, 0, none⟩) n n xs := by
  have hbl : Below w.heap.size w (w.alloc (.cells cs T)) := balloc (bsame w) _
  refine OwnE.mk' (cur := cs.toList) (vs := vs) hb (by simpa using heap_alloc_new w (.cells cs T)) (Nat.le_refl _) hm ?_ ?_ (hr.imp fun v x h => E.more hbl.size (E.sub (sub_hide_lt _ (Nat.le_refl _)) (E.sub (sub_below hbl) h))) hn
  · rw [hcs]
    show vs.flatten.length = _
    rw [hr.flat (fun _ _ => E.len), hn]
  · rw [hcs]
    show vs.flatten.take _ = _
    rw [List.take_of_length_le (by rw [hr.flat (fun _ _ => E.len), hn]; exact Nat.le_refl _)]
namespace Reg
/-- a row of parts -/
def rowP (base : Nat) (ls : List (List UInt8)) : SP ext := ⟨fun v w => ∃ A n c, v = .slice A n c ∧ OwnE PartE 32 w base A n c ls, fun _ _ _ hb ⟨A, n, c, e, h⟩ => ⟨A, n, c, e, h.next hb⟩⟩
end Reg
namespace RecP
noncomputable def heads (x : RecX) : List (List UInt8) := [BeP.parts 1 x.kind, BeP.parts 8 x.txn, BeP.parts 8 x.prev, BeP.parts 8 x.next, BeP.parts 1 (x.patches.length : Nat)]
theorem all_parts (x : RecX) : (heads x ++ x.patches.map PatchP.bytes ++ [UndoP.bytes x.undo]).flatten = inner x := by
  unfold heads inner patsB
  simp [List.flatMap]
theorem body_le4' (x : RecX) (h : x.patches.length ≤ 4) (hu : (UndoP.bytes x.undo).length ≤ 100) : (inner x).length ≤ 1100000 ∧ (body x).length ≤ 1100000 := by
  have := patsB_le x.patches
  have h2 : x.patches.length * 252005 ≤ 4 * 252005 := Nat.mul_le_mul_right _ h
  rw [inner_length, body_length]
  omega
end RecP
namespace RecW
set_option linter.unusedSimpArgs false
attribute [local go_sem ↓] app_fold
theorem infoB : (Tryz.prog.info? 32).map (fun i => (i.zero, i.size, i.bytes)) = some (some (.slice none 0 0), 1, 24) := by kernel_rfl
theorem part_rel {w : World} {B n c : Nat} {A : Option Addr} {l : List UInt8} (h : Bytes w B A n c l) : PartE.rel w B [.slice A n c] l := ⟨A, n, c, rfl, h⟩
set_option maxRecDepth 100000 in
set_option maxHeartbeats 1000000 in
theorem join_any (A : Option Addr) (n c B : Nat) (ls : List (List UInt8)) (w : World) (h : Elems PartE w B A n c ls) (hB : B ≤ w.heap.size) (hn : 0 < n) (hs : ls.flatten.length ≤ 1099511627776) (hk : n ≤ 100) :
    Calls Tryz.prog 44 #[.slice A n c] w (GivesNew w ls.flatten) := by
  have H := Lib.hid h
  go_enter Tryz.func44, Tryz.ntmps44
  go_wp2_with fail
  refine (ConcatW.concat_elems A n c B ls w H.out hB hn hs hk).mono ?_
  rintro e W1 ⟨A1, n1, c1, rfl, hy1, hb1⟩
  have HY := Lib.hid hy1
  have HB := Lib.hid hb1
  clear hy1 hb1
  go_wp2
  go_ret
  exact ⟨A1, n1, c1, rfl, HY.out, HB.out⟩
/-- what Put's rounds keep -/
structure KP (w wr : World) (cs : Array Value) (A3 : Option Addr) (n3 c3 : Nat) (ls : List (List UInt8)) : Prop where
  own : OwnE PartE 32 wr (w.heap.size + 1) A3 n3 c3 ls
  bel : Below w.heap.size w wr
  box : Str wr w.heap.size cs
theorem KP.next {w wr wr' : World} {cs : Array Value} {A3 : Option Addr} {n3 c3 : Nat} {ls : List (List UInt8)} (h : KP w wr cs A3 n3 c3 ls) (hb : Below wr.heap.size wr wr') : KP w wr' cs A3 n3 c3 ls := ⟨h.own.next hb, bstep h.bel hb, h.box.next hb⟩
/-- one part more -/
theorem KP.app {w wr : World} {cs : Array Value} {A3 : Option Addr} {n3 c3 : Nat} {ls : List (List UInt8)} (h : KP w wr cs A3 n3 c3 ls) {A n c : _} {l : List UInt8} {fl : Nat} (hy : Bytes (above fl wr) wr.heap.size A n c l) (hn : n3 ≤ 50) (hA : ∀ a, A3 = some a → a.block < fl) :
    ∃ A' c' w', (appSem #[93, 93] 93 #[.slice A3 n3 c3, .slice (some ⟨wr.heap.size, 0, none⟩) 1 1]).run Tryz.prog (wr.alloc (.cells #[.slice A n c] 32)) = .ok (.slice A' (n3 + 1) c') w' ∧ KP w w' cs A' (n3 + 1) c' (ls ++ [l]) := by
  obtain ⟨i0, hi0, iz0, iz1, iz2⟩ := info_parts infoB
  have hlt := h.box.lt
  have hbl : Below wr.heap.size wr (wr.alloc (.cells #[.slice A n c] 32)) := balloc (bsame wr) _
  have hk := h.next hbl
  have hhid : Bytes (hid A3 wr) wr.heap.size A n c l := hy.sub (above_hid hA)
  have hone := ElemsIn.one (E := PartE) (T := 32) (A := A3) (part_rel hhid)
  obtain ⟨A', c', w', k1, k2, k3, k4, k5⟩ := hk.own.app (P := Tryz.prog) 93 93 i0 _ 24 Tryz.underlying93 hi0 iz0 iz1 iz2 rfl hone (by unfold maxLen; omega) (by omega) (by have := hk.bel.size; have := hk.box.lt; omega)
  exact ⟨A', c', w', k1, ⟨k2, hk.bel.trans (k3.mono (by omega)), hk.box.below k3 (by omega)⟩⟩
set_option maxRecDepth 100000 in
set_option maxHeartbeats 8000000 in
theorem put_new (kd tx pv nx : Int) (A : Option Addr) (n c B : Nat) (l : List PatchX) (pact : Int) (puk : ByteArray) (Ap : Option Addr) (np cp Bp : Nat) (pst : Int) (pk : ByteArray) (pkd : Int) (pda : List UInt8) (plo phi pva : Int) (pun : Int) (w : World) (hE : Elems PatchE w B A n c l) (hB : B ≤ w.heap.size) (hp : Bytes w Bp Ap np cp pda) (hBp : Bp ≤ w.heap.size) (hpk : pk.size ≤ maxLen) (hpuk : puk.size ≤ maxLen) :
    Calls Tryz.prog 21 #[.agg #[.int .i64 kd, .int .i64 tx, .int .i64 pv, .int .i64 nx, .slice A n c, .int .i64 pact, .string puk, .int .i64 pst, .string pk, .int .i64 pkd, .slice Ap np cp, .int .i64 plo, .int .i64 phi, .int .i64 pva, .int .i64 pun]] w (GivesNew w (RecP.bytes ⟨kd, tx, pv, nx, l, ⟨pact, puk, ⟨pst, pk, ⟨pkd, pda, plo, phi, pva⟩⟩, pun⟩⟩)) := by
  have HE := Lib.hid hE
  have HP := Lib.hid hp
  have hlen := hE.len
  have hcap := hE.cap
  have hcm := hcap.2
  unfold maxLen at hcm
  have HPK := Lib.hid (And.intro hpk hpuk)
  have HLEN := Lib.hid hlen
  clear hE hp
  obtain ⟨W0, hW0⟩ : ∃ W, w.alloc (.cells #[.int .i64 kd, .int .i64 tx, .int .i64 pv, .int .i64 nx, .slice A n c, .int .i64 pact, .string puk, .int .i64 pst, .string pk, .int .i64 pkd, .slice Ap np cp, .int .i64 plo, .int .i64 phi, .int .i64 pva, .int .i64 pun] 40) = W := ⟨_, rfl⟩
  obtain ⟨HS0, HB0, hw0, hz0⟩ := new1 hW0
  have g0 := str15 HS0.out
  have hl0 := HS0.out.lt
  clear hz0
  go_enter Tryz.func21, Tryz.ntmps21
  go_wp2_with fail
  refine (check_any kd tx pv nx A n c B l pact puk Ap np cp Bp pst pk pkd pda plo phi pva pun W0 (HE.out.below (HB0.out.mono hB)) (by omega) (HP.out.below (HB0.out.mono hBp)) (by omega) HPK.out.1 HPK.out.2).mono ?_
  rintro e W1 ⟨rfl, hb1⟩
  have HS1 := Lib.hid (HS0.out.next hb1)
  have HB1 := Lib.hid (bstep HB0.out hb1)
  have hw1 := HB1.out.size
  clear hb1 HS0 HB0 g0 hl0
  have g0 := str15 HS1.out
  have hl0 := HS1.out.lt
  cases hr : RecP.right ⟨kd, tx, pv, nx, l, ⟨pact, puk, ⟨pst, pk, ⟨pkd, pda, plo, phi, pva⟩⟩, pun⟩⟩ with
  | false =>
    have HFIN : Hid (RecP.bytes ⟨kd, tx, pv, nx, l, ⟨pact, puk, ⟨pst, pk, ⟨pkd, pda, plo, phi, pva⟩⟩, pun⟩⟩ = []) := Lib.hid (by unfold RecP.bytes RecP.fits; rw [hr]; rfl)
    have hcode : PatchW.code false = 1 := rfl
    rw [hcode]
    clear hr hcode
    go_wp2
    go_ret
    exact ⟨none, 0, 0, rfl, by rw [HFIN.out]; exact Bytes.none_ _ _, HB1.out⟩
  | true =>
    have hcode : PatchW.code true = 0 := rfl
    have hR := (RecP.right_iff _).1 hr
    have HR := Lib.hid hr
    obtain ⟨-, k3, k5, -⟩ := hR
    have HUR := Lib.hid k5
    clear k5
    dsimp only at k3
    rw [hlen] at k3
    have HBL := Lib.hid (RecP.body_le4' ⟨kd, tx, pv, nx, l, ⟨pact, puk, ⟨pst, pk, ⟨pkd, pda, plo, phi, pva⟩⟩, pun⟩⟩ (by show l.length ≤ 4; rw [hlen]; exact k3) (UndoP.bytes_le ⟨pact, puk, ⟨pst, pk, ⟨pkd, pda, plo, phi, pva⟩⟩, pun⟩))
    have HAL : Hid ((RecP.heads ⟨kd, tx, pv, nx, l, ⟨pact, puk, ⟨pst, pk, ⟨pkd, pda, plo, phi, pva⟩⟩, pun⟩⟩ ++ l.map PatchP.bytes ++ [UndoP.bytes ⟨pact, puk, ⟨pst, pk, ⟨pkd, pda, plo, phi, pva⟩⟩, pun⟩]).flatten = RecP.inner ⟨kd, tx, pv, nx, l, ⟨pact, puk, ⟨pst, pk, ⟨pkd, pda, plo, phi, pva⟩⟩, pun⟩⟩) := Lib.hid (RecP.all_parts ⟨kd, tx, pv, nx, l, ⟨pact, puk, ⟨pst, pk, ⟨pkd, pda, plo, phi, pva⟩⟩, pun⟩⟩)
    have HHD : Hid (RecP.heads ⟨kd, tx, pv, nx, l, ⟨pact, puk, ⟨pst, pk, ⟨pkd, pda, plo, phi, pva⟩⟩, pun⟩⟩ = [BeP.parts 1 kd, BeP.parts 8 tx, BeP.parts 8 pv, BeP.parts 8 nx, BeP.parts 1 (n : Int)]) := Lib.hid (by unfold RecP.heads; dsimp only; rw [hlen])
    have HBO : Hid (BeP.parts 4 ((CrcP.sum (RecP.inner ⟨kd, tx, pv, nx, l, ⟨pact, puk, ⟨pst, pk, ⟨pkd, pda, plo, phi, pva⟩⟩, pun⟩⟩) : Nat) : Int) ++ RecP.inner ⟨kd, tx, pv, nx, l, ⟨pact, puk, ⟨pst, pk, ⟨pkd, pda, plo, phi, pva⟩⟩, pun⟩⟩ = RecP.body ⟨kd, tx, pv, nx, l, ⟨pact, puk, ⟨pst, pk, ⟨pkd, pda, plo, phi, pva⟩⟩, pun⟩⟩) := Lib.hid rfl
    have HFB : Hid (RecP.bytes ⟨kd, tx, pv, nx, l, ⟨pact, puk, ⟨pst, pk, ⟨pkd, pda, plo, phi, pva⟩⟩, pun⟩⟩ = if (RecP.body ⟨kd, tx, pv, nx, l, ⟨pact, puk, ⟨pst, pk, ⟨pkd, pda, plo, phi, pva⟩⟩, pun⟩⟩).length ≤ 65535 then BeP.parts 2 ((RecP.body ⟨kd, tx, pv, nx, l, ⟨pact, puk, ⟨pst, pk, ⟨pkd, pda, plo, phi, pva⟩⟩, pun⟩⟩).length : Nat) ++ RecP.body ⟨kd, tx, pv, nx, l, ⟨pact, puk, ⟨pst, pk, ⟨pkd, pda, plo, phi, pva⟩⟩, pun⟩⟩ else []) := Lib.hid (by unfold RecP.bytes RecP.fits; rw [HR.out]; simp)
    have HIN4 := Lib.hid (show (RecP.inner ⟨kd, tx, pv, nx, l, ⟨pact, puk, ⟨pst, pk, ⟨pkd, pda, plo, phi, pva⟩⟩, pun⟩⟩).length ≤ 1100000 from HBL.out.1)
    rw [hcode]
    clear hr hcode
    obtain ⟨IN, hIN⟩ : ∃ L, RecP.inner ⟨kd, tx, pv, nx, l, ⟨pact, puk, ⟨pst, pk, ⟨pkd, pda, plo, phi, pva⟩⟩, pun⟩⟩ = L := ⟨_, rfl⟩
    obtain ⟨BO, hBO⟩ : ∃ L, RecP.body ⟨kd, tx, pv, nx, l, ⟨pact, puk, ⟨pst, pk, ⟨pkd, pda, plo, phi, pva⟩⟩, pun⟩⟩ = L := ⟨_, rfl⟩
    obtain ⟨HDS, hHD⟩ : ∃ L, RecP.heads ⟨kd, tx, pv, nx, l, ⟨pact, puk, ⟨pst, pk, ⟨pkd, pda, plo, phi, pva⟩⟩, pun⟩⟩ = L := ⟨_, rfl⟩
    rw [hIN, hBO] at HBO
    rw [hBO] at HFB
    rw [hIN, hHD] at HAL
    rw [hIN] at HIN4
    rw [hIN, hBO] at HBL
    rw [hHD] at HHD
    clear hIN hBO hHD
    go_wp2_with fail
    refine Reg.wp_region_vals (R := ext) (W := W1) [Reg.eqv (.pointer (some ⟨w.heap.size, 0, none⟩)), Reg.eqv (.int .i64 kd), Reg.bytes (BeP.parts 1 kd), Reg.eqv (.pointer (some ⟨w.heap.size, 1, none⟩)), Reg.eqv (.int .i64 tx), Reg.bytes (BeP.parts 8 tx), Reg.eqv (.pointer (some ⟨w.heap.size, 2, none⟩)), Reg.eqv (.int .i64 pv), Reg.bytes (BeP.parts 8 pv), Reg.eqv (.pointer (some ⟨w.heap.size, 3, none⟩)), Reg.eqv (.int .i64 nx), Reg.bytes (BeP.parts 8 nx), Reg.eqv (.pointer (some ⟨w.heap.size, 4, none⟩)), Reg.eqv (.slice A n c), Reg.eqv (.int .i64 (n : Int)), Reg.bytes (BeP.parts 1 (n : Int)), Reg.rowP (w.heap.size + 1) HDS, Reg.rowP (w.heap.size + 1) HDS] 58 [[(1, none)], [(10, some 0)], [(11, some 1)], [(1, none)], [(13, some 3)], [(14, some 4)], [(1, none)], [(16, some 6)], [(17, some 7)], [(1, none)], [(19, some 9)], [(20, some 10)], [(1, none)], [(22, some 12)], [(23, some 13)], [(24, some 14)], [(12, some 2), (15, some 5), (18, some 8), (21, some 11), (25, some 15)], [(26, some 16)]] rfl (by kernel_rfl) (by kernel_rfl) (by kernel_rfl) ?_ [some 10, some 11, some 12, some 13, some 14, some 15, some 16, some 17, some 18, some 19, some 20, some 21, some 22, some 23, some 24, some 25, some 26, some 3] (by kernel_rfl) ?_
    · refine ⟨?_, ?_, ?_, ?_, ?_, ?_, ?_, ?_, ?_, ?_, ?_, ?_, ?_, ?_, ?_, ?_, ?_, ?_, trivial⟩
      · intro ax wx hx hs
        obtain ⟨e1, -⟩ := hs
        have g1 := Reg.ev (v := .pointer (some ⟨w.heap.size, 0, none⟩)) e1
        exact Reg.obl_free rfl (Reg.wp_eqv (Option.some_ne_none _) (by go_simp) rfl)
      · intro ax wx hx hs
        obtain ⟨e10, -⟩ := hs
        have g10 := Reg.ev (v := .pointer (some ⟨w.heap.size, 0, none⟩)) e10
        have l0 := str15 (HS1.out.next hx)
        exact Reg.obl_free rfl (Reg.wp_eqv (Option.some_ne_none _) (by go_simp) rfl)
      · intro ax wx hx hs
        obtain ⟨e11, -⟩ := hs
        have g11 := Reg.ev (v := .int .i64 kd) e11
        refine Reg.obl_free rfl ?_
        go_simp
        refine (Be.put_wide none 0 0 0 [] 1 kd _ (Bytes.none_ _ _) (Nat.zero_le _) (by omega) (by omega) (by omega)).mono ?_
        rintro e wy ⟨A8, n8, c8, rfl, hy8, hby⟩
        rw [List.nil_append] at hy8
        exact Reg.done (Option.some_ne_none _) ⟨A8, n8, c8, rfl, hy8⟩ hby
      · intro ax wx hx hs
        obtain ⟨e1, -⟩ := hs
        have g1 := Reg.ev (v := .pointer (some ⟨w.heap.size, 0, none⟩)) e1
        exact Reg.obl_free rfl (Reg.wp_eqv (Option.some_ne_none _) (by go_simp) rfl)
      · intro ax wx hx hs
        obtain ⟨e13, -⟩ := hs
        have g13 := Reg.ev (v := .pointer (some ⟨w.heap.size, 1, none⟩)) e13
        have l0 := str15 (HS1.out.next hx)
        exact Reg.obl_free rfl (Reg.wp_eqv (Option.some_ne_none _) (by go_simp) rfl)
      · intro ax wx hx hs
        obtain ⟨e14, -⟩ := hs
        have g14 := Reg.ev (v := .int .i64 tx) e14
        refine Reg.obl_free rfl ?_
        go_simp
        refine (Be.put_wide none 0 0 0 [] 8 tx _ (Bytes.none_ _ _) (Nat.zero_le _) (by omega) (by omega) (by omega)).mono ?_
        rintro e wy ⟨A8, n8, c8, rfl, hy8, hby⟩
        rw [List.nil_append] at hy8
        exact Reg.done (Option.some_ne_none _) ⟨A8, n8, c8, rfl, hy8⟩ hby
      · intro ax wx hx hs
        obtain ⟨e1, -⟩ := hs
        have g1 := Reg.ev (v := .pointer (some ⟨w.heap.size, 0, none⟩)) e1
        exact Reg.obl_free rfl (Reg.wp_eqv (Option.some_ne_none _) (by go_simp) rfl)
      · intro ax wx hx hs
        obtain ⟨e16, -⟩ := hs
        have g16 := Reg.ev (v := .pointer (some ⟨w.heap.size, 2, none⟩)) e16
        have l0 := str15 (HS1.out.next hx)
        exact Reg.obl_free rfl (Reg.wp_eqv (Option.some_ne_none _) (by go_simp) rfl)
      · intro ax wx hx hs
        obtain ⟨e17, -⟩ := hs
        have g17 := Reg.ev (v := .int .i64 pv) e17
        refine Reg.obl_free rfl ?_
        go_simp
        refine (Be.put_wide none 0 0 0 [] 8 pv _ (Bytes.none_ _ _) (Nat.zero_le _) (by omega) (by omega) (by omega)).mono ?_
        rintro e wy ⟨A8, n8, c8, rfl, hy8, hby⟩
        rw [List.nil_append] at hy8
        exact Reg.done (Option.some_ne_none _) ⟨A8, n8, c8, rfl, hy8⟩ hby
      · intro ax wx hx hs
        obtain ⟨e1, -⟩ := hs
        have g1 := Reg.ev (v := .pointer (some ⟨w.heap.size, 0, none⟩)) e1
        exact Reg.obl_free rfl (Reg.wp_eqv (Option.some_ne_none _) (by go_simp) rfl)
      · intro ax wx hx hs
        obtain ⟨e19, -⟩ := hs
        have g19 := Reg.ev (v := .pointer (some ⟨w.heap.size, 3, none⟩)) e19
        have l0 := str15 (HS1.out.next hx)
        exact Reg.obl_free rfl (Reg.wp_eqv (Option.some_ne_none _) (by go_simp) rfl)
      · intro ax wx hx hs
        obtain ⟨e20, -⟩ := hs
        have g20 := Reg.ev (v := .int .i64 nx) e20
        refine Reg.obl_free rfl ?_
        go_simp
        refine (Be.put_wide none 0 0 0 [] 8 nx _ (Bytes.none_ _ _) (Nat.zero_le _) (by omega) (by omega) (by omega)).mono ?_
        rintro e wy ⟨A8, n8, c8, rfl, hy8, hby⟩
        rw [List.nil_append] at hy8
        exact Reg.done (Option.some_ne_none _) ⟨A8, n8, c8, rfl, hy8⟩ hby
      · intro ax wx hx hs
        obtain ⟨e1, -⟩ := hs
        have g1 := Reg.ev (v := .pointer (some ⟨w.heap.size, 0, none⟩)) e1
        exact Reg.obl_free rfl (Reg.wp_eqv (Option.some_ne_none _) (by go_simp) rfl)
      · intro ax wx hx hs
        obtain ⟨e22, -⟩ := hs
        have g22 := Reg.ev (v := .pointer (some ⟨w.heap.size, 4, none⟩)) e22
        have l0 := str15 (HS1.out.next hx)
        exact Reg.obl_free rfl (Reg.wp_eqv (Option.some_ne_none _) (by go_simp) rfl)
      · intro ax wx hx hs
        obtain ⟨e23, -⟩ := hs
        have g23 := Reg.ev (v := .slice A n c) e23
        exact Reg.obl_free rfl (Reg.wp_eqv (Option.some_ne_none _) (by go_simp) rfl)
      · intro ax wx hx hs
        obtain ⟨e24, -⟩ := hs
        have g24 := Reg.ev (v := .int .i64 (n : Int)) e24
        refine Reg.obl_free rfl ?_
        go_simp
        refine (Be.put_wide none 0 0 0 [] 1 (n : Int) _ (Bytes.none_ _ _) (Nat.zero_le _) (by omega) (by omega) (by omega)).mono ?_
        rintro e wy ⟨A8, n8, c8, rfl, hy8, hby⟩
        rw [List.nil_append] at hy8
        exact Reg.done (Option.some_ne_none _) ⟨A8, n8, c8, rfl, hy8⟩ hby
      · intro ax wx hx hs
        obtain ⟨e12, e15, e18, e21, e25, -⟩ := hs
        refine Reg.obl_free rfl ?_
        have hx' : Below W1.heap.size W1 wx := hx
        have hxs := hx'.size
        obtain ⟨A0, n0, c0, e12, hy0⟩ := e12
        have g12 := Reg.ev e12
        obtain ⟨A1, n1, c1, e15, hy1⟩ := e15
        have g15 := Reg.ev e15
        obtain ⟨A2, n2, c2, e18, hy2⟩ := e18
        have g18 := Reg.ev e18
        obtain ⟨A3, n3, c3, e21, hy3⟩ := e21
        have g21 := Reg.ev e21
        obtain ⟨A4, n4, c4, e25, hy4⟩ := e25
        have g25 := Reg.ev e25
        have hown : OwnE PartE 32 (wx.alloc (.cells #[.slice A0 n0 c0, .slice A1 n1 c1, .slice A2 n2 c2, .slice A3 n3 c3, .slice A4 n4 c4] 32)) (w.heap.size + 1) (some ⟨wx.heap.size, 0, none⟩) 5 5 HDS := OwnE.lit (vs := [[.slice A0 n0 c0], [.slice A1 n1 c1], [.slice A2 n2 c2], [.slice A3 n3 c3], [.slice A4 n4 c4]]) (by omega) (by rw [HHD.out]; exact ⟨part_rel hy0, part_rel hy1, part_rel hy2, part_rel hy3, part_rel hy4, trivial⟩) rfl (by rw [HHD.out]; rfl) (by unfold maxLen; omega)
        go_simp
        exact Reg.done (Option.some_ne_none _) ⟨_, 5, 5, rfl, hown⟩ (balloc (bsame wx) _)
      · intro ax wx hx hs
        obtain ⟨e26, -⟩ := hs
        refine Reg.obl_free rfl ?_
        exact Reg.wp_same (Option.some_ne_none _) (by go_simp) e26
    · intro W2 hwf
      simp only [Reg.Fin]
      rintro _ rfl _ rfl v12 h12 _ rfl _ rfl v15 h15 _ rfl _ rfl v18 h18 _ rfl _ rfl v21 h21 _ rfl _ rfl _ rfl v25 h25 v26 h26 v3 h3
      go_simp
      obtain ⟨A3, n3, c3, rfl, hO3⟩ := h3
      have hwf' : Below W1.heap.size W1 W2 := hwf
      have hn3 : n3 = 5 := by rw [← hO3.len, HHD.out]; rfl
      subst hn3
      have HK : Hid (KP w W2 #[.int .i64 kd, .int .i64 tx, .int .i64 pv, .int .i64 nx, .slice A n c, .int .i64 pact, .string puk, .int .i64 pst, .string pk, .int .i64 pkd, .slice Ap np cp, .int .i64 plo, .int .i64 phi, .int .i64 pva, .int .i64 pun] A3 5 c3 HDS) := Lib.hid ⟨hO3, bstep HB1.out hwf', HS1.out.next hwf'⟩
      clear hwf hwf' hO3 h12 h15 h18 h21 h25 h26 HS1 HB1 g0 hl0
      have g0 := str15 HK.out.box
      have hl0 := HK.out.box.lt
      go_wp2
      go_loopw [3, 30] (fun pv' iv wr => ∃ (k c3' : Nat) (A3' : Option Addr), k ≤ n ∧ pv' = .slice A3' (5 + k) c3' ∧ iv = .int .i64 (k : Int) ∧ Hid (KP w wr #[.int .i64 kd, .int .i64 tx, .int .i64 pv, .int .i64 nx, .slice A n c, .int .i64 pact, .string puk, .int .i64 pst, .string pk, .int .i64 pkd, .slice Ap np cp, .int .i64 plo, .int .i64 phi, .int .i64 pva, .int .i64 pun] A3' (5 + k) c3' (HDS ++ (l.take k).map PatchP.bytes))) (fun _ iv _ => n - (intOf iv).toNat)
      case atStart => exact ⟨0, c3, A3, Nat.zero_le _, rfl, rfl, Lib.hid (by simpa using HK.out)⟩
      case round =>
        obtain ⟨k, ck, Ak, hk, rfl, rfl, HQ⟩ := hrel
        clear HK g0 hl0
        have g0 := str15 HQ.out.box
        have hl0 := HQ.out.box.lt
        have hwr := HQ.out.bel.size
        by_cases hlt : k < n
        · have hd : decide ((k : Int) < (n : Int)) = true := by simp; omega
          obtain ⟨b, o, x, A4, n4, c4, hAe, hb, hx, hy, hi, q0, q1, q2⟩ := patch_at HE.out hlt
          replace q0 := (HQ.out.bel.cell (p := ⟨b, o + k * 3, none⟩) (by show b < _; omega)).trans q0
          replace q1 := (HQ.out.bel.cell (p := ⟨b, o + k * 3 + 1, none⟩) (by show b < _; omega)).trans q1
          replace q2 := (HQ.out.bel.cell (p := ⟨b, o + k * 3 + 2, none⟩) (by show b < _; omega)).trans q2
          have HTK : Hid (HDS ++ (l.take (k + 1)).map PatchP.bytes = HDS ++ (l.take k).map PatchP.bytes ++ [PatchP.bytes x]) := Lib.hid (by
            obtain ⟨hk1, e⟩ := List.getElem?_eq_some_iff.1 hx
            rw [List.take_succ_eq_append_getElem hk1, e]; simp)
          have HY := Lib.hid hy
          clear hx hy
          subst hAe
          obtain ⟨W4, hW4⟩ : ∃ W, wr.alloc (.cells #[.int .i64 x.page, .bool x.fresh, .slice A4 n4 c4] 68) = W := ⟨_, rfl⟩
          obtain ⟨HS4, HB4, hw4, hz4⟩ := new1 hW4
          have HQ4 := Lib.hid (HQ.out.next HB4.out)
          have g4 := str3 HS4.out
          have hl4 := HS4.out.lt
          have HBT := Lib.hid HQ.out.own.blt
          clear HB4 hz4 HS4 HQ g0 hl0
          go_wp2_with fail
          clear q0 q1 q2 hW4
          refine (PatchW.put_new none 0 0 0 [] x A4 n4 c4 B W4 (Bytes.none_ _ _) (Nat.zero_le _) (HY.out.below (HQ4.out.bel.mono hB)) (by omega) hi (by omega)).mono ?_
          rintro e W5 ⟨A5, n5, c5, rfl, hy5, hb5⟩
          rw [List.nil_append] at hy5
          obtain ⟨A6, c6, W6, happ6, hK6⟩ := (HQ4.out.next hb5).app hy5 (by omega) (fun a e => by have := HBT.out a e; omega)
          rw [← HTK.out] at hK6
          have HK6 := Lib.hid hK6
          clear hy5 hb5 hK6 HQ4 g4 hl4
          go_wp2
          go_roundw
          case rel => exact ⟨k + 1, c6, A6, by omega, rfl, by go_num, HK6⟩
          case measure => simp [intOf]; omega
        · have hd : decide ((k : Int) < (n : Int)) = false := by simp; omega
          have hkn : k = n := by omega
          subst hkn
          have htk : l.take k = l := List.take_of_length_le (by rw [HLEN.out]; exact Nat.le_refl _)
          rw [htk] at HQ
          clear htk
          have HBT := Lib.hid HQ.out.own.blt
          go_wp2_with fail
          refine (UndoF.put_new none 0 0 0 [] pact puk Ap np cp Bp pst pk pkd pda plo phi pva pun wr (Bytes.none_ _ _) (Nat.zero_le _) (by omega) (HP.out.below (HQ.out.bel.mono hBp)) (by omega) HPK.out.1 HPK.out.2 HUR.out).mono ?_
          rintro e W5 ⟨A5, n5, c5, rfl, hy5, hb5⟩
          rw [List.nil_append] at hy5
          obtain ⟨A6, c6, W6, happ6, hK6⟩ := (HQ.out.next hb5).app hy5 (by omega) HBT.out
          have HK6 := Lib.hid hK6
          have hal := HAL.out
          clear hy5 hb5 hK6 HQ g0 hl0
          have hel := HK6.out.own.elems
          have HEL := Lib.hid hel
          clear hel
          go_wp2_with fail
          refine (join_any A6 (5 + k + 1) c6 W6.heap.size _ W6 HEL.out (Nat.le_refl _) (by omega) (by rw [hal]; have := HIN4.out; omega) (by omega)).mono ?_
          rintro e W7 ⟨A7, n7, c7, rfl, hy7, hb7⟩
          rw [hal] at hy7
          have HY7 := Lib.hid (hy7.sub (sub_above _ _ _))
          have hn7 := hy7.len
          have hin4 := HIN4.out
          rw [hn7] at hin4
          have HB7 := Lib.hid (bstep HK6.out.bel hb7)
          clear hy7 hb7 HK6 HEL happ6 hal hn7
          go_wp2_with fail
          refine (CrcW.seal_any A7 n7 c7 W7.heap.size IN W7 HY7.out (Nat.le_refl _) (by omega)).mono ?_
          rintro e W8 ⟨A8, n8, c8, rfl, hy8, hb8⟩
          rw [HBO.out] at hy8
          have hn8 := hy8.len
          have hbl4 := HBL.out.2
          rw [hn8] at hbl4
          have HFB2 : Hid (RecP.bytes _ = if n8 ≤ 65535 then BeP.parts 2 (n8 : Int) ++ BO else []) := Lib.hid (by rw [HFB.out, hn8])
          have HY8 := Lib.hid hy8
          have HB8 := Lib.hid (bstep HB7.out hb8)
          have hw8 := HB8.out.size
          clear hy8 hb8 HY7 hn8 HFB
          by_cases hbig : 65535 < n8
          · have hd3 : decide ((65535 : Int) < (n8 : Int)) = true := by simp; omega
            have HFIN := Lib.hid (HFB2.out.trans (if_neg (by omega)))
            go_wp2
            go_ret
            exact ⟨none, 0, 0, rfl, by rw [HFIN.out]; exact Bytes.none_ _ _, HB8.out⟩
          · have hd3 : decide ((65535 : Int) < (n8 : Int)) = false := by simp; omega
            have HFIN := Lib.hid (HFB2.out.trans (if_pos (by omega)))
            go_wp2_with fail
            refine (Be.put_wide none 0 0 0 [] 2 (n8 : Int) W8 (Bytes.none_ _ _) (Nat.zero_le _) (by omega) (by omega) (by omega)).mono ?_
            rintro e W9 ⟨A9, n9, c9, rfl, hy9, hb9⟩
            rw [List.nil_append] at hy9
            have hws9 := hb9.size
            have hown : OwnE PartE 32 (W9.alloc (.cells #[.slice A9 n9 c9, .slice A8 n8 c8] 32)) W9.heap.size (some ⟨W9.heap.size, 0, none⟩) 2 2 [BeP.parts 2 (n8 : Int), BO] := OwnE.lit (vs := [[.slice A9 n9 c9], [.slice A8 n8 c8]]) (Nat.le_refl _) ⟨part_rel hy9, part_rel (HY8.out.next hb9), trivial⟩ rfl rfl (by unfold maxLen; omega)
            have HOW := Lib.hid hown
            have hbo2 := HY8.out.len
            have hb10 : Below W9.heap.size W9 (W9.alloc (.cells #[.slice A9 n9 c9, .slice A8 n8 c8] 32)) := balloc (bsame W9) _
            have HB9 := Lib.hid (bstep (bstep HB8.out hb9) hb10)
            clear hy9 hb9 hown hb10
            go_wp2_with fail
            have hlen2 : ([BeP.parts 2 (n8 : Int), BO] : List (List UInt8)).flatten.length ≤ 1099511627776 := by
              simp only [List.flatten_cons, List.flatten_nil, List.append_nil, List.length_append, BeP.parts_length, hbo2]; omega
            refine (join_any _ 2 2 _ _ _ HOW.out.elems (Nat.le_refl _) (by omega) hlen2 (by omega)).mono ?_
            rintro e W10 ⟨A10, n10, c10, rfl, hy10, hb10⟩
            have he : ([BeP.parts 2 (n8 : Int), BO] : List (List UInt8)).flatten = BeP.parts 2 (n8 : Int) ++ BO := by simp
            rw [he, ← HFIN.out] at hy10
            have HY10 := Lib.hid (hy10.sub (above_less (base' := w.heap.size) HB9.out.size))
            have HB10 := Lib.hid (bstep HB9.out hb10)
            clear hy10 hb10 he hlen2 HOW
            go_wp2
            go_ret
            exact ⟨A10, n10, c10, rfl, HY10.out, HB10.out⟩
theorem put_any (kd tx pv nx : Int) (A : Option Addr) (n c B : Nat) (l : List PatchX) (pact : Int) (puk : ByteArray) (Ap : Option Addr) (np cp Bp : Nat) (pst : Int) (pk : ByteArray) (pkd : Int) (pda : List UInt8) (plo phi pva : Int) (pun : Int) (w : World) (hE : Elems PatchE w B A n c l) (hB : B ≤ w.heap.size) (hp : Bytes w Bp Ap np cp pda) (hBp : Bp ≤ w.heap.size) (hpk : pk.size ≤ maxLen) (hpuk : puk.size ≤ maxLen) :
    Calls Tryz.prog 21 #[.agg #[.int .i64 kd, .int .i64 tx, .int .i64 pv, .int .i64 nx, .slice A n c, .int .i64 pact, .string puk, .int .i64 pst, .string pk, .int .i64 pkd, .slice Ap np cp, .int .i64 plo, .int .i64 phi, .int .i64 pva, .int .i64 pun]] w (GivesBytes w (RecP.bytes ⟨kd, tx, pv, nx, l, ⟨pact, puk, ⟨pst, pk, ⟨pkd, pda, plo, phi, pva⟩⟩, pun⟩⟩)) :=
  (put_new kd tx pv nx A n c B l pact puk Ap np cp Bp pst pk pkd pda plo phi pva pun w hE hB hp hBp hpk hpuk).mono fun e w' h => h.bytes
end RecW
end Go.Proofs.YtpdfnlhhnodnjaaGreat
end
