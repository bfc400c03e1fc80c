/-
  Parts of the proof of PoolNils.
-/
import Derived.Test.YtcfieofcnpalgaaPoolG3
import Derived.Test.YtcfieofcnpalgaaPoolG2
import Derived.Test.YtcfieofcnpalgaaPoolG1
import Derived.Defers
import Derived.Recover
import Derived.FnLit
import Derived.Scope
import Derived.BigQuiet
import Derived.WalkArith
section
namespace Go.Proofs.Ytcfieofcnpalgaa
open Go.RowKit
set_option linter.unusedVariables false

/-- blocks hidden -/
def hideL (w : World) : List Nat → World
  | [] => w
  | g :: bs => hide (hideL w bs) g
theorem hideL_in (w : World) (p : Addr) : ∀ bs, p.block ∈ bs → (hideL w bs).cell? p = none
  | g :: bs, h => by
    by_cases e : p.block = g
    · subst e; exact hide_none _ p
    · show (hide (hideL w bs) g).cell? p = none
      rw [hide_other _ g p e]
      exact hideL_in w p bs (by rcases List.mem_cons.1 h with h | h; exact absurd h e; exact h)
theorem hideL_out (w : World) (p : Addr) : ∀ bs, p.block ∉ bs → (hideL w bs).cell? p = w.cell? p
  | [], _ => rfl
  | g :: bs, h => by
    rw [List.mem_cons, not_or] at h
    show (hide (hideL w bs) g).cell? p = _
    rw [hide_other _ g p h.1]
    exact hideL_out w p bs h.2
/-- bytes do not hang on rows without bytes -/
theorem Bytes.hideL {w : World} {B n c : Nat} {A : Option Addr} {l : List UInt8} (h : Bytes w B A n c l) (bs : List Nat) (hn : ∀ b ∈ bs, ∃ cs, Str w b cs ∧ notU8 cs = true) : Bytes (hideL w bs) B A n c l := by
  obtain ⟨h1, h2, h3, h4⟩ := h
  refine ⟨h1, h2, h3, fun hpos => ?_⟩
  obtain ⟨b, o, e, hb, hc⟩ := h4 hpos
  refine ⟨b, o, e, hb, fun j u hu => ?_⟩
  rw [hideL_out w ⟨b, o + j, none⟩ bs]
  · exact hc j u hu
  · intro hm
    obtain ⟨cs, hs, hn1⟩ := hn b hm
    have hx := hc j u hu
    rw [hs.cell] at hx
    have hm2 : byteV u ∈ cs.toList := by
      rw [Array.mem_toList_iff]
      exact Array.mem_of_getElem? hx
    have := List.all_eq_true.1 hn1 _ hm2
    simp [byteV] at this

/-- a word on a value and what it hangs on, below a bound -/
structure MP (β : Type) where
  pred : β → World → Nat → Prop
  mono : ∀ {v w w' B B'}, Sub B w w' → B ≤ B' → pred v w B → pred v w' B'
namespace Reg
/-- nothing that was there turns, but for these blocks -/
structure KeepB (N : Nat) (b0 : List Nat) (w w' : World) : Prop where
  os : w'.os = w.os
  tape : w'.tape = w.tape
  output : w'.output = w.output
  size : w.heap.size ≤ w'.heap.size
  block : ∀ k, k < N → k ∉ b0 → w'.heap[k]? = w.heap[k]?
theorem KeepB.of {N : Nat} {b0 : List Nat} {w w' : World} (h : Below N w w') : KeepB N b0 w w' := ⟨h.os, h.tape, h.output, h.size, fun k hk _ => h.block k hk⟩
theorem KeepB.below {N M : Nat} {b0 : List Nat} {w w' : World} (h : KeepB N b0 w w') (hM : M ≤ N) (h0 : ∀ b ∈ b0, M ≤ b) : Below M w w' := ⟨h.os, h.tape, h.output, h.size, fun k hk => h.block k (by omega) (fun hm => by have := h0 k hm; omega)⟩
theorem KeepB.cell {N : Nat} {b0 : List Nat} {w w' : World} (h : KeepB N b0 w w') {p : Addr} (h1 : p.block < N) (h2 : p.block ∉ b0) : w'.cell? p = w.cell? p := World.cell?_of_block (h.block p.block h1 h2)
theorem KeepB.str {N b : Nat} {b0 : List Nat} {w w' : World} {cs : Array Value} (h : KeepB N b0 w w') (hs : Str w b cs) (h1 : b < N) (h2 : b ∉ b0) : Str w' b cs := by
  obtain ⟨t, ht⟩ := hs
  exact ⟨t, (h.block b h1 h2).trans ht⟩
def extB (N : Nat) (b0 : List Nat) : Way := ⟨fun w w' => KeepB N b0 w w', fun w => KeepB.of (Below.refl N w), fun _ _ _ h k => ⟨k.os.trans h.os, k.tape.trans h.tape, k.output.trans h.output, Nat.le_trans h.size k.size, fun i hi hb => (k.block i hi hb).trans (h.block i hi hb)⟩, fun _ => ⟨rfl, rfl, rfl, Nat.le_refl _, fun _ _ _ => rfl⟩⟩
/-- boxes (who makes it, its slot, who stores into it), what lies in them; values (who makes it, its slot); boxes that were there (slot, block, who stores) -/
structure BxS where
  K : List (Nat × Tmp × Nat)
  Z : Tmp → Array Value
  X : Tmp → MP (Array Value)
  KM : List (Nat × Tmp)
  M : Tmp → MP Value
  K0 : List (Tmp × Nat × Nat)
def BxS.b0 (S : BxS) : List Nat := S.K0.map fun k => k.2.1
/-- the hidden blocks -/
def Bs (N : Nat) (b0 : List Nat) (w : World) (bs : List Nat) : Prop := ∀ b ∈ bs, (b ∈ b0 ∨ N ≤ b) ∧ b < w.heap.size ∧ ∃ cs, Str w b cs ∧ notU8 cs = true
section
variable {N : Nat} {S : BxS} {listed : Array Bool} {a : Act} {w w' : World} {j : Nat}
theorem Bs.next {b0 bs : List Nat} (h : Bs N b0 w bs) (hb : Below w.heap.size w w') : Bs N b0 w' bs := fun b hm => by
  obtain ⟨h1, h2, cs, h3, h4⟩ := h b hm
  exact ⟨h1, Nat.lt_of_lt_of_le h2 hb.size, cs, h3.next hb, h4⟩
end
section
variable {N : Nat} {S : BxS} {P : Program} {ops : Array Oper} {Q : Exit → Act → World → Prop} {T : List (SP (extB N S.b0))} {a0 : Act} {W : World} {j : Nat} {o : Oper} {s : List (Tmp × Option Nat)}
/-- what such an operation leaves -/
structure DoneM (S : BxS) (t : Tmp) (bs : List Nat) (a : Act) (w : World) (a' : Act) (w' : World) : Prop where
  out : ∃ v, a' = a.put (some t) v ∧ Below w.heap.size w w' ∧ (S.M t).pred v (hideL w' bs) w'.heap.size
/-- what a store into a box leaves -/
structure StoredB (S : BxS) (t : Tmp) (g : Nat) (bs : List Nat) (a : Act) (w : World) (a' : Act) (w' : World) : Prop where
  out : a' = a ∧ ∃ cs, w' = w.setRow g cs ∧ notU8 cs = true ∧ (S.X t).pred cs (hideL w bs) w.heap.size
end
section
variable {R : Way} {P : Program} {ops : Array Oper} {Q : Exit → Act → World → Prop} {T : List (SP R)} {a0 a : Act} {W w : World}
/-- THE LAW beside a word that holds at the region's head -/
theorem wp_region_box {id : Nat} (J : Word) (T : List (SP R)) (n : Nat) (L : List (List (Tmp × Option Nat))) (hn : a0.tmps.size = n) (hm : P.follows .mixedOrders = true) (hc : checkB ops n = true) (hJ0 : ∀ listed, (∀ i, listed.getD i false = false) → J listed a0 W.drew) (hL : lookAll ops 0 ops.toList = L) (hobl : OblsJ P ops Q T J a0 W 0 ops.toList L)
    (D : List (Option Tmp)) (hD : ops.toList.map (·.dst) = D) (hfin : ∀ w' listed, R.rel W w' → (∀ i, i < ops.size → listed.getD i false = true) → Fin (fun a w => J listed a w → Q .normal a w) w' D T a0) : (Code.region id ops true).wp P Q a0 W := by
  subst hn
  subst hL
  subst hD
  refine wp_region_any hm (wpAny_J (form_of hc) hobl hfin _ _ _ _ (by simp) ⟨R.drew W, rfl, rfl, by simp, fun _ _ => rfl, fun i o ho hl => ?_, fun i o ho hl e he hb => ?_⟩ (hJ0 _ fun i => ?_))
  · have hlt := (Array.getElem?_eq_some_iff.1 ho).1
    simp [hlt] at hl
  · have hlt := (Array.getElem?_eq_some_iff.1 ho).1
    simp [hlt] at hl
  · rw [Array.getD_eq_getD_getElem?]
    by_cases hi : i < ops.size
    · simp [hi]
    · simp [hi]
end
/-! what is seen by reckoning alone -/
def okB (K : List (Nat × Tmp × Nat)) (KM : List (Nat × Tmp)) (K0 : List (Tmp × Nat)) : Bool :=
  (K.all fun b => K.all fun c => (!(b.1 == c.1 || (b.2.1 == c.2.1 || b.2.2 == c.2.2)) || b == c) && b.1 != c.2.2) &&
  (K.all fun b => KM.all fun m => b.1 != m.1 && (b.2.2 != m.1 && b.2.1 != m.2)) && (KM.all fun m => KM.all fun m' => !(m.1 == m'.1 || m.2 == m'.2) || m == m') &&
  (K0.all fun k => (K.all fun b => k.2 != b.1 && k.2 != b.2.2) && KM.all fun m => k.2 != m.1)
section
variable {N : Nat} {S : BxS} {P : Program} {ops : Array Oper} {Q : Exit → Act → World → Prop} {T : List (SP (extB N S.b0))} {a0 a : Act} {W w : World} {j : Nat} {o : Oper} {s : List (Tmp × Option Nat)} {t : Tmp} {bs : List Nat}
end
end Reg
theorem hideL_append (w : World) (bs : List Nat) : ∀ obs, hideL w (obs ++ bs) = hideL (hideL w bs) obs
  | [] => rfl
  | g :: obs => congrArg (fun x => hide x g) (hideL_append w bs obs)
theorem hideL_mono {B : Nat} {w w' : World} (obs : List Nat) (h : Sub B w w') : Sub B (hideL w obs) (hideL w' obs) := by
  intro p v hp hv
  by_cases hg : p.block ∈ obs
  · rw [hideL_in w p obs hg] at hv; cases hv
  · rw [hideL_out w p obs hg] at hv
    rw [hideL_out w' p obs hg]
    exact h p v hp hv
theorem Bytes.keepB {w w' : World} {B n c : Nat} {b0 : List Nat} {A : Option Addr} {l : List UInt8} (h : Bytes w B A n c l) (hB : B ≤ w.heap.size) (hn : ∀ b ∈ b0, ∃ cs, Str w b cs ∧ notU8 cs = true) (hk : Reg.KeepB w.heap.size b0 w w') : Bytes w' B A n c l :=
  (h.hideL b0 hn).sub fun p v hp hv => by
    by_cases hm : p.block ∈ b0
    · rw [hideL_in w p b0 hm] at hv; cases hv
    · rw [hideL_out w p b0 hm] at hv
      rw [hk.cell (by omega) hm]
      exact hv
/-- bytes that hang on none of these blocks -/
def BytesH (bs : List Nat) (w : World) (A : Option Addr) (n c : Nat) (l : List UInt8) : Prop := Bytes (hideL w bs) w.heap.size A n c l
theorem BytesH.keepB {bs : List Nat} {w w' : World} {n c : Nat} {b0 : List Nat} {A : Option Addr} {l : List UInt8} (h : BytesH bs w A n c l) (hn : ∀ b ∈ b0, ∃ cs, Str w b cs ∧ notU8 cs = true) (hk : Reg.KeepB w.heap.size b0 w w') : BytesH bs w' A n c l := by
  refine Bytes.more (w := Go.Proofs.Ytcfieofcnpalgaa.hideL w' bs) (Bytes.sub (w := Go.Proofs.Ytcfieofcnpalgaa.hideL w (bs ++ b0)) (B := w.heap.size) ?_ ?_) hk.size
  · rw [hideL_append]
    obtain ⟨h1, h2, h3, h4⟩ := h
    refine ⟨h1, h2, h3, fun hpos => ?_⟩
    obtain ⟨b, o, e, hb, hc⟩ := h4 hpos
    refine ⟨b, o, e, hb, fun j u hu => ?_⟩
    have hx := hc j u hu
    have hnb : b ∉ bs := fun hm => by
      have h0 : (Go.Proofs.Ytcfieofcnpalgaa.hideL w bs).cell? ⟨b, o + j, none⟩ = none := hideL_in w ⟨b, o + j, none⟩ bs hm
      rw [h0] at hx; cases hx
    rw [hideL_out w ⟨b, o + j, none⟩ bs hnb] at hx
    rw [hideL_out _ ⟨b, o + j, none⟩ bs hnb, hideL_out w ⟨b, o + j, none⟩ b0]
    · exact hx
    · intro hm
      obtain ⟨cs, hs, hn1⟩ := hn b hm
      rw [hs.cell] at hx
      have hm2 : byteV u ∈ cs.toList := by
        rw [Array.mem_toList_iff]
        exact Array.mem_of_getElem? hx
      have := List.all_eq_true.1 hn1 _ hm2
      simp [byteV] at this
  · rw [hideL_append]
    refine hideL_mono bs fun p v hp hv => ?_
    by_cases hm : p.block ∈ b0
    · rw [hideL_in w p b0 hm] at hv; cases hv
    · rw [hideL_out w p b0 hm] at hv
      rw [hk.cell hp hm]
      exact hv
namespace Reg
end Reg
end Go.Proofs.Ytcfieofcnpalgaa
end
section
namespace Go.Proofs.Ytcfieofcnpalgaa
open Go.RowKit
set_option linter.unusedVariables false
theorem Reg.KeepB.trans {N M : Nat} {b0 : List Nat} {a b c : World} (h : Reg.KeepB N b0 a b) (k : Reg.KeepB M b0 b c) (hN : N ≤ M) : Reg.KeepB N b0 a c :=
  ⟨k.os.trans h.os, k.tape.trans h.tape, k.output.trans h.output, Nat.le_trans h.size k.size, fun i hi hb => (k.block i (by omega) hb).trans (h.block i hi hb)⟩
theorem Reg.KeepB.more {N : Nat} {b0 b1 : List Nat} {a b : World} (h : Reg.KeepB N b0 a b) (hs : ∀ x ∈ b0, x ∈ b1) : Reg.KeepB N b1 a b :=
  ⟨h.os, h.tape, h.output, h.size, fun i hi hb => h.block i hi (fun hm => hb (hs i hm))⟩
theorem Reg.KeepB.less {N M : Nat} {b0 : List Nat} {a b : World} (h : Reg.KeepB N b0 a b) (hM : M ≤ N) : Reg.KeepB M b0 a b :=
  ⟨h.os, h.tape, h.output, h.size, fun i hi hb => h.block i (by omega) hb⟩
/-- blocks that are none of the call's -/
theorem Reg.KeepB.grown {N : Nat} {b0 : List Nat} {a b c : World} {g : Nat} (h : Reg.KeepB N b0 a b) (k : b.grownBy c (some g)) (hN : N ≤ b.heap.size) (hg : N ≤ g ∨ g ∈ b0) : Reg.KeepB N b0 a c :=
  ⟨k.os.trans h.os, k.tape.trans h.tape, k.output.trans h.output, Nat.le_trans h.size k.size, fun i hi hb => (k.block i (by omega) (by intro e; injection e with e; subst e; rcases hg with h1 | h1; omega; exact hb h1)).trans (h.block i hi hb)⟩
theorem Reg.KeepB.step {N : Nat} {b0 : List Nat} {a b c : World} (h : Reg.KeepB N b0 a b) (k : Below b.heap.size b c) (hN : N ≤ b.heap.size) : Reg.KeepB N b0 a c := h.trans (Reg.KeepB.of k) hN
theorem Str.keepB {w w' : World} {b : Nat} {b0 : List Nat} {cs : Array Value} (h : Str w b cs) (k : Reg.KeepB w.heap.size b0 w w') (hb : b ∉ b0) : Str w' b cs := k.str h h.lt hb
theorem drewN_below {B : Nat} {a w : World} (h : Below B a w) (k : Nat) : Below B a (w.drewN k) := ⟨h.os, h.tape, h.output, h.size, h.block⟩
end Go.Proofs.Ytcfieofcnpalgaa
end
section
namespace Go.Proofs.Ytcfieofcnpalgaa
open Go.RowKit Go.Maps
set_option linter.unusedVariables false
set_option linter.unusedSectionVars false
/-- a device: its pages as they are safe, as they are read, its log, the rest -/
structure DevX where
  safe : List (List UInt8)
  now : List (List UInt8)
  log : List UInt8
  stale : Int
  head : Int
  sure : Int
  fused : Bool
  fuse : Int
  off : Bool
  ops : Int
  wr : Nat
/-- a slice as a map's element -/
structure SlV where
  A : Option Addr
  n : Nat
  c : Nat
def slE : ElS SlV where
  val s := .slice s.A s.n s.c
  inv v := match v with
    | .slice A n c => some ⟨A, n, c⟩
    | _ => none
  inv_val _ := rfl
  val_inv := by
    intro v a h
    split at h
    · cases h; rfl
    · cases h
namespace DevP
def new (n : Nat) : DevX := ⟨List.replicate n (SlotP.zeros 512), List.replicate n (SlotP.zeros 512), [], 0, 0, 0, false, 0, false, 0, 0⟩
/-- the error of an operation -/
def err (X : DevX) (fits : Bool) : Int := if X.off then 3 else if !fits then 2 else if X.fused && decide (X.fuse = 0) then 3 else 0
/-- the device, where an operation was not done -/
def stop (X : DevX) (fits : Bool) : DevX := if X.off then X else if !fits then X else { X with off := true }
/-- an operation more -/
def done (X : DevX) : DevX := { X with ops := X.ops + 1, fuse := if X.fused then X.fuse - 1 else X.fuse }
structure Ok (X : DevX) : Prop where
  n0 : 1 ≤ X.safe.length
  n1 : X.safe.length ≤ 1024
  nl : X.now.length = X.safe.length
  h0 : 0 ≤ X.head
  s0 : X.head ≤ X.sure
  s1 : X.sure ≤ X.head + X.log.length
  t0 : 0 ≤ X.stale
  t1 : X.stale ≤ X.head
  o0 : 0 ≤ X.ops
  f0 : 0 ≤ X.fuse
  f1 : X.fuse ≤ 9223372036854775807
  w0 : ∀ p ∈ X.safe, p.length = 512
  w1 : ∀ p ∈ X.now, p.length = 512
/-- so small that no number is too great -/
def Small (X : DevX) : Prop := X.ops ≤ 1000000000 ∧ X.head + X.log.length ≤ 100000000000000 ∧ X.wr ≤ 1000000000
theorem ok_new {n : Nat} (h0 : 1 ≤ n) (h1 : n ≤ 1024) : Ok (new n) := by
  refine ⟨by simpa [new] using h0, by simpa [new] using h1, by simp [new], by simp [new], by simp [new], by simp [new], by simp [new], by simp [new], by simp [new], by simp [new], by simp [new], ?_, ?_⟩
  all_goals
    intro p hp
    rw [new, List.mem_replicate] at hp
    rw [hp.2]
    exact List.length_replicate
theorem ok_done {X : DevX} (h : Ok X) (hf : X.fused = true → X.fuse ≠ 0) : Ok (done X) := by
  obtain ⟨a1, a2, a3, a4, a5, a6, a7, a8, a9, a10, a11, a12, a13⟩ := h
  refine ⟨a1, a2, a3, a4, a5, a6, a7, a8, ?_, ?_, ?_, a12, a13⟩
  · show 0 ≤ X.ops + 1; omega
  · show 0 ≤ (if X.fused then X.fuse - 1 else X.fuse); split
    · rename_i e; have := hf e; omega
    · exact a10
  · show (if X.fused then X.fuse - 1 else X.fuse) ≤ _; split <;> omega
end DevP
namespace DevW
theorem law : Keyed Try.prog 3 := int_keyed Try.underlying3
theorem keyOf_ {k : Int} (h : In64 k) : keyOf Try.prog 3 (intK.val k) = some (intK.lit k) := keyOf_int_mk Try.underlying3 (WalkArith.wf_i64 h)
theorem zeroS (w : World) : (zeroValue 55).run Try.prog w = .ok (slE.val ⟨none, 0, 0⟩) w := by kernel_rfl
theorem infoP : (Try.prog.info? 24).map (fun i => (i.zero, i.size, i.bytes)) = some (some (.agg (Array.replicate 512 (.int .u8 0))), 512, 512) := by kernel_rfl
def blk (s : SlV) : Nat := match s.A with
  | some a => a.block
  | none => 0
/-- the writings of a page -/
structure Ent (w : World) (N : Nat) (now : List (List UInt8)) (ops : Nat) (p : Int × SlV) : Prop where
  k0 : 0 ≤ p.1
  k1 : p.1 < N
  pg : ∃ ps, p.2.A = some ⟨blk p.2, 0, none⟩ ∧ Pgs 24 w (blk p.2) p.2.n p.2.c ps ∧ ps ≠ [] ∧ ps.getLast? = now[p.1.toNat]?
  le : p.2.n ≤ ops
/-- pages in memory: those that are safe, and the writings -/
structure Pages (w : World) (sb mb : Nat) (bp : List Nat) (safe now : List (List UInt8)) (ops : Nat) (nm : Nat) (es : List (Int × SlV)) : Prop where
  row : Pgs 24 w sb safe.length safe.length safe
  map : MapM Try.prog intK slE 3 w mb nm es
  ent : ∀ p ∈ es, Ent w safe.length now ops p
  rest : ∀ k : Nat, k < safe.length → MapP.get es (k : Int) = none → now[k]? = safe[k]?
  bpe : bp = sb :: mb :: es.map (fun p => blk p.2)
  nd : bp.Nodup
  nml : nm ≤ ops
/-- a device's box -/
def devC (N sb mb : Nat) (A : Option Addr) (n c : Nat) (X : DevX) : Array Value := #[.slice (some ⟨sb, 0, none⟩) N N, .map (some mb), .slice A n c, .int .i64 X.stale, .int .i64 X.head, .int .i64 X.sure, .bool X.fused, .int .i64 X.fuse, .bool X.off, .int .i64 X.ops]
/-- a device in memory, all of its parts named -/
structure In (w : World) (d sb mb : Nat) (bp : List Nat) (gb : Option Nat) (A : Option Addr) (n c nm : Nat) (es : List (Int × SlV)) (X : DevX) : Prop where
  box : Str w d (devC X.safe.length sb mb A n c X)
  pages : Pages w sb mb bp X.safe X.now X.wr nm es
  log : OwnS w gb A n c X.log
  nd : (d :: (gb.toList ++ bp)).Nodup
  ok : DevP.Ok X
/-- a device in memory, its blocks -/
def Dev (w : World) (d : Nat) (bs : List Nat) (X : DevX) : Prop := ∃ sb mb bp gb A n c nm es, In w d sb mb bp gb A n c nm es X ∧ bs = d :: (gb.toList ++ bp)
section
variable {w w' : World} {d sb mb N : Nat} {bp bs : List Nat} {gb : Option Nat} {A : Option Addr} {n c nm : Nat} {es : List (Int × SlV)} {X : DevX} {safe now : List (List UInt8)} {ops : Nat}
theorem Ent.at_ {p : Int × SlV} (h : Ent w N now ops p) (hb : w'.heap[blk p.2]? = w.heap[blk p.2]?) : Ent w' N now ops p := by
  obtain ⟨ps, e, hp, r⟩ := h.pg
  exact ⟨h.k0, h.k1, ⟨ps, e, hp.at_ hb, r⟩, h.le⟩
theorem Ent.lt {p : Int × SlV} (h : Ent w N now ops p) : blk p.2 < w.heap.size := by
  obtain ⟨ps, e, hp, r⟩ := h.pg
  exact hp.lt
theorem Pages.at_ (h : Pages w sb mb bp safe now ops nm es) (hb : ∀ b ∈ bp, w'.heap[b]? = w.heap[b]?) : Pages w' sb mb bp safe now ops nm es := by
  obtain ⟨a1, a2, a3, a4, rfl, a6, a7⟩ := h
  exact ⟨a1.at_ (hb _ (by simp)), a2.at_ (hb _ (by simp)), fun p hp => (a3 p hp).at_ (hb _ (by simp only [List.mem_cons, List.mem_map]; exact .inr (.inr ⟨p, hp, rfl⟩))), a4, rfl, a6, a7⟩
theorem Pages.lt (h : Pages w sb mb bp safe now ops nm es) : ∀ b ∈ bp, b < w.heap.size := by
  obtain ⟨a1, a2, a3, a4, rfl, a6, a7⟩ := h
  intro b hb
  simp only [List.mem_cons, List.mem_map] at hb
  rcases hb with rfl | rfl | ⟨p, hp, rfl⟩
  · exact a1.lt
  · exact a2.lt
  · exact (a3 p hp).lt
theorem Pages.mono (h : Pages w sb mb bp safe now ops nm es) {ops' : Nat} (ho : ops ≤ ops') : Pages w sb mb bp safe now ops' nm es :=
  ⟨h.row, h.map, fun p hp => ⟨(h.ent p hp).k0, (h.ent p hp).k1, (h.ent p hp).pg, by have := (h.ent p hp).le; omega⟩, h.rest, h.bpe, h.nd, by have := h.nml; omega⟩
theorem In.lt (h : In w d sb mb bp gb A n c nm es X) : ∀ b ∈ d :: (gb.toList ++ bp), b < w.heap.size := by
  intro b hb
  simp only [List.mem_cons, List.mem_append, Option.mem_toList] at hb
  rcases hb with rfl | hb | hb
  · exact h.box.lt
  · exact h.log.lt b hb
  · exact h.pages.lt b hb
theorem In.at_ (h : In w d sb mb bp gb A n c nm es X) (hb : ∀ b ∈ d :: (gb.toList ++ bp), w'.heap[b]? = w.heap[b]?) : In w' d sb mb bp gb A n c nm es X := by
  refine ⟨?_, h.pages.at_ fun b hm => hb b (by simp [hm]), h.log.at_ fun g e => hb g (by simp [e]), h.nd, h.ok⟩
  obtain ⟨t, ht⟩ := h.box
  exact ⟨t, (hb d (by simp)).trans ht⟩
theorem Dev.lt (h : Dev w d bs X) : ∀ b ∈ bs, b < w.heap.size := by
  obtain ⟨sb, mb, bp, gb, A, n, c, nm, es, h, rfl⟩ := h
  exact h.lt
theorem Dev.ok (h : Dev w d bs X) : DevP.Ok X := by
  obtain ⟨sb, mb, bp, gb, A, n, c, nm, es, h, rfl⟩ := h
  exact h.ok
theorem Dev.mem (h : Dev w d bs X) : d ∈ bs := by
  obtain ⟨sb, mb, bp, gb, A, n, c, nm, es, h, rfl⟩ := h
  simp
theorem Dev.at_ (h : Dev w d bs X) (hb : ∀ b ∈ bs, w'.heap[b]? = w.heap[b]?) : Dev w' d bs X := by
  obtain ⟨sb, mb, bp, gb, A, n, c, nm, es, h, rfl⟩ := h
  exact ⟨sb, mb, bp, gb, A, n, c, nm, es, h.at_ hb, rfl⟩
theorem Dev.below (h : Dev w d bs X) (hb : Below w.heap.size w w') : Dev w' d bs X := h.at_ fun b hm => hb.block b (h.lt b hm)
theorem Dev.grown {g : Nat} (h : Dev w d bs X) (hg : w.grownBy w' (some g)) (hn : g ∉ bs) : Dev w' d bs X := h.at_ fun b hm => hg.block b (h.lt b hm) (by intro e; injection e with e; subst e; exact hn hm)
theorem Dev.keepB {b0 : List Nat} (h : Dev w d bs X) (k : Reg.KeepB w.heap.size b0 w w') (hn : ∀ b ∈ b0, b ∉ bs) : Dev w' d bs X := h.at_ fun b hm => k.block b (h.lt b hm) (fun hm2 => hn b hm2 hm)
/-- the box alone has turned -/
theorem In.turn {X' : DevX} (h : In w d sb mb bp gb A n c nm es X) (hg : w.grownBy w' (some d)) (hb : Str w' d (devC X.safe.length sb mb A n c X')) (e1 : X'.safe = X.safe) (e2 : X'.now = X.now) (e3 : X'.log = X.log) (ho : X.wr ≤ X'.wr) (hk : DevP.Ok X') : In w' d sb mb bp gb A n c nm es X' := by
  have hne : ∀ b ∈ gb.toList ++ bp, w'.heap[b]? = w.heap[b]? := fun b hm => hg.block b (h.lt b (List.mem_cons_of_mem _ hm)) (by intro e; injection e with e; subst e; exact (List.nodup_cons.1 h.nd).1 hm)
  have hp := (h.pages.at_ (w' := w') fun b hm => hne b (by simp [hm])).mono ho
  have hl := h.log.at_ (w' := w') fun g e => hne g (by simp [e])
  rw [← e1] at hb
  rw [← e1, ← e2] at hp
  rw [← e3] at hl
  exact ⟨hb, hp, hl, h.nd, hk⟩
end
end DevW
end Go.Proofs.Ytcfieofcnpalgaa
end
section
namespace Go.Proofs.Ytcfieofcnpalgaa
open Go.RowKit Go.Maps
set_option linter.unusedVariables false
set_option linter.unusedSimpArgs false
theorem DevW.str10 {w : World} {b : Nat} {c0 c1 c2 c3 c4 c5 c6 c7 c8 c9 : Value} (h : Str w b #[c0, c1, c2, c3, c4, c5, c6, c7, c8, c9]) :
    w.cell? ⟨b, 0, none⟩ = some c0 ∧ w.cell? ⟨b, 1, none⟩ = some c1 ∧ w.cell? ⟨b, 2, none⟩ = some c2 ∧ w.cell? ⟨b, 3, none⟩ = some c3 ∧ w.cell? ⟨b, 4, none⟩ = some c4 ∧ w.cell? ⟨b, 5, none⟩ = some c5 ∧ w.cell? ⟨b, 6, none⟩ = some c6 ∧ w.cell? ⟨b, 7, none⟩ = some c7 ∧ w.cell? ⟨b, 8, none⟩ = some c8 ∧ w.cell? ⟨b, 9, none⟩ = some c9 :=
  ⟨h.cell 0, h.cell 1, h.cell 2, h.cell 3, h.cell 4, h.cell 5, h.cell 6, h.cell 7, h.cell 8, h.cell 9⟩
namespace DevW
variable {d sb mb : Nat} {bp bs : List Nat} {gb : Option Nat} {A : Option Addr} {n c nm : Nat} {es : List (Int × SlV)} {X : DevX}
set_option maxRecDepth 100000 in
set_option maxHeartbeats 1000000 in
theorem do1_any (b : Nat) (u : FrameMode) (w : World) (hB : Str w b #[.pointer (some ⟨d, 0, none⟩)]) (hI : In w d sb mb bp gb A n c nm es X) (hne : b ≠ d) (hs : X.ops ≤ 1000000000) (hf : X.fused = true → X.fuse ≠ 0) :
    CallsD Try.prog 50 #[.pointer (some ⟨b, 0, none⟩)] u w fun e u' w' => u' = u ∧ (e = .returned (.tuple #[]) ∧ In w' d sb mb bp gb A n c nm es (DevP.done X) ∧ w.grownBy w' (some d)) := by
  have HI := Lib.hid hI
  have ho := hI.ok.o0
  have hf0 := hI.ok.f0
  have hf1 := hI.ok.f1
  have f0 := str1 hB
  have f1 := str10 hI.box
  have hz := fun j => hI.box.frozen j
  have hb := hI.box
  have hl := hI.box.lt
  have HB := Lib.hid hb
  have HF := Lib.hid hf
  clear hI hb hB hf
  obtain ⟨safe, now, log, stale, head, sure, fused, fuse, off, ops, wr⟩ := X
  dsimp only at ho hf0 hf1 hs f1
  cases fused with
  | false =>
    go_enter_d Try.func50, Try.ntmps50
    go_wp2
    go_end0
    refine ⟨rfl, ?_, grown_set (grown_refl w d) 9 _⟩
    exact HI.out.turn (X' := DevP.done ⟨safe, now, log, stale, head, sure, false, fuse, off, ops, wr⟩) (grown_set (grown_refl w d) 9 _) (HB.out.set 9 _) rfl rfl rfl (Nat.le_refl _) (DevP.ok_done HI.out.ok (fun h => by cases h))
  | true =>
    have hfu : fuse ≠ 0 := HF.out rfl
    go_enter_d Try.func50, Try.ntmps50
    go_wp2
    go_end0
    refine ⟨rfl, ?_, grown_set (grown_set (grown_refl w d) 9 _) 7 _⟩
    exact HI.out.turn (X' := DevP.done ⟨safe, now, log, stale, head, sure, true, fuse, off, ops, wr⟩) (grown_set (grown_set (grown_refl w d) 9 _) 7 _) ((HB.out.set 9 _).set 7 _) rfl rfl rfl (Nat.le_refl _) (DevP.ok_done HI.out.ok (fun _ => hfu))
set_option maxRecDepth 100000 in
set_option maxHeartbeats 1000000 in
theorem do_ok (fn : FuncId) (first : Array Value) (E : World → Prop) (js : List Nat) (w : World) (X1 : DevX) (hD : Dev w d bs X) (hs : X.ops ≤ 1000000000) (ho : X.off = false) (hf : X.fused = true → X.fuse ≠ 0) (hj : ∀ b ∈ js, b < w.heap.size)
    (hE : ∀ W1 W2 : World, W1.grownBy W2 (some d) → E W1 → E W2) (h1 : X1.fused = X.fused) (h2 : X1.fuse = X.fuse) (h3 : X1.ops = X.ops)
    (hce : ∀ W : World, (callFunc fn first).run Try.prog W = .ok (.enter fn first) W)
    (hact : ∀ W, Below w.heap.size w W → Calls Try.prog fn first W fun e W' => e = .returned (.tuple #[]) ∧ ∃ bs', Dev W' d bs' X1 ∧ Reg.KeepB W.heap.size (js ++ bs) W W' ∧ (∀ b ∈ bs', b ∈ bs ∨ W.heap.size ≤ b) ∧ E W') :
    Calls Try.prog 35 #[.pointer (some ⟨d, 0, none⟩), .bool true, .func (.func fn) first #[]] w fun e w' => e = .returned (.int .i64 0) ∧ ∃ bs', Dev w' d bs' (DevP.done X1) ∧ Reg.KeepB w.heap.size (js ++ bs) w w' ∧ (∀ b ∈ bs', b ∈ bs ∨ w.heap.size ≤ b) ∧ E w' := by
  have hmf : ∀ (fn : Fn) (first cap : Array Value) (w : World), (Instr.makeFunc fn first cap).run Try.prog w = .ok (.func fn first cap) w := fun _ _ _ _ => rfl
  have HD := Lib.hid hD
  have HA := Lib.hid hact
  have HE := Lib.hid hE
  obtain ⟨sb, mb, bp, gb, A, n, c, nm, es, hI, hbs⟩ := hD
  have f1 := str10 hI.box
  have hz := fun j => hI.box.frozen j
  have hl := hI.box.lt
  have HBS := Lib.hid hbs
  have HI := Lib.hid hI
  have HH := Lib.hid (And.intro h1 (And.intro h2 h3))
  have HJ := Lib.hid hj
  have HF := Lib.hid hf
  clear hact hE hI hbs h1 h2 h3 hj hf
  obtain ⟨safe, now, log, stale, head, sure, fused, fuse, off, ops, wr⟩ := X
  dsimp only at ho hs f1
  subst ho
  have hb1 : Below w.heap.size w (w.alloc (.cells #[.pointer (some ⟨d, 0, none⟩)] 29)) := balloc (bsame w) _
  have HS := Lib.hid (Str.new w #[.pointer (some ⟨d, 0, none⟩)] 29)
  cases fused with
  | false =>
    go_enter_defers Try.func35, Try.ntmps35
    go_wp2_with fail
    refine (HA.out _ hb1).mono ?_
    rintro e W2 ⟨rfl, bs2, hD2, hk2, hn2, hE2⟩
    have hnb : w.heap.size ∉ js ++ bs := fun hm => by
      rcases List.mem_append.1 hm with hm | hm
      · have := HJ.out _ hm; omega
      · have := HD.out.lt _ hm; omega
    have hS2 := HS.out.keepB hk2 hnb
    have hk3 := (Reg.KeepB.of (b0 := js ++ bs) hb1).trans hk2 hb1.size
    have hne : w.heap.size ≠ d := by omega
    have hn3 : ∀ b ∈ bs2, b ∈ bs ∨ w.heap.size ≤ b := fun b hb => (hn2 b hb).imp id fun h => by have := hb1.size; omega
    have hdm : d ∈ js ++ bs := List.mem_append.2 (.inr HD.out.mem)
    have HS2 := Lib.hid hS2
    have HK3 := Lib.hid hk3
    have HN3 := Lib.hid hn3
    have HD2 := Lib.hid hD2
    have HE2 := Lib.hid hE2
    clear hk2 hn2 hS2 hk3 hn3 hD2 hE2 hnb f1 hz hmf hce
    go_wp2
    refine leaves_cons (f := 50) (args := #[.pointer (some ⟨w.heap.size, 0, none⟩)]) (by simp) (by simp [go_sem]) ?_
    obtain ⟨sb2, mb2, bp2, gb2, A2, n2, c2, nm2, es2, hI2, hbs2⟩ := HD2.out
    refine (do1_any w.heap.size .returning W2 HS2.out hI2 hne (by rw [HH.out.2.2]; exact hs) (by rw [HH.out.1, HH.out.2.1]; exact HF.out)).mono ?_
    rintro e u' W3 ⟨rfl, rfl, hI3, hg3⟩
    refine ⟨_, results_tmp rfl _ _ _, rfl, _, ⟨sb2, mb2, bp2, gb2, A2, n2, c2, nm2, es2, hI3, hbs2⟩, HK3.out.grown hg3 HK3.out.size (.inr hdm), HN3.out, HE.out _ _ hg3 HE2.out⟩
  | true =>
    have hfz : ¬ fuse = 0 := HF.out rfl
    go_enter_defers Try.func35, Try.ntmps35
    go_wp2_with fail
    refine (HA.out _ hb1).mono ?_
    rintro e W2 ⟨rfl, bs2, hD2, hk2, hn2, hE2⟩
    have hnb : w.heap.size ∉ js ++ bs := fun hm => by
      rcases List.mem_append.1 hm with hm | hm
      · have := HJ.out _ hm; omega
      · have := HD.out.lt _ hm; omega
    have hS2 := HS.out.keepB hk2 hnb
    have hk3 := (Reg.KeepB.of (b0 := js ++ bs) hb1).trans hk2 hb1.size
    have hne : w.heap.size ≠ d := by omega
    have hn3 : ∀ b ∈ bs2, b ∈ bs ∨ w.heap.size ≤ b := fun b hb => (hn2 b hb).imp id fun h => by have := hb1.size; omega
    have hdm : d ∈ js ++ bs := List.mem_append.2 (.inr HD.out.mem)
    have HS2 := Lib.hid hS2
    have HK3 := Lib.hid hk3
    have HN3 := Lib.hid hn3
    have HD2 := Lib.hid hD2
    have HE2 := Lib.hid hE2
    clear hk2 hn2 hS2 hk3 hn3 hD2 hE2 hnb f1 hz hmf hce
    go_wp2
    refine leaves_cons (f := 50) (args := #[.pointer (some ⟨w.heap.size, 0, none⟩)]) (by simp) (by simp [go_sem]) ?_
    obtain ⟨sb2, mb2, bp2, gb2, A2, n2, c2, nm2, es2, hI2, hbs2⟩ := HD2.out
    refine (do1_any w.heap.size .returning W2 HS2.out hI2 hne (by rw [HH.out.2.2]; exact hs) (by rw [HH.out.1, HH.out.2.1]; exact fun _ => hfz)).mono ?_
    rintro e u' W3 ⟨rfl, rfl, hI3, hg3⟩
    refine ⟨_, results_tmp rfl _ _ _, rfl, _, ⟨sb2, mb2, bp2, gb2, A2, n2, c2, nm2, es2, hI3, hbs2⟩, HK3.out.grown hg3 HK3.out.size (.inr hdm), HN3.out, HE.out _ _ hg3 HE2.out⟩
theorem In.off (w : World) (hI : In w d sb mb bp gb A n c nm es X) : In (w.setCell ⟨d, 8, none⟩ (.bool true)) d sb mb bp gb A n c nm es { X with off := true } :=
  hI.turn (grown_set (grown_refl w d) 8 _) (hI.box.set 8 _) rfl rfl rfl (Nat.le_refl _) ⟨hI.ok.n0, hI.ok.n1, hI.ok.nl, hI.ok.h0, hI.ok.s0, hI.ok.s1, hI.ok.t0, hI.ok.t1, hI.ok.o0, hI.ok.f0, hI.ok.f1, hI.ok.w0, hI.ok.w1⟩
set_option maxRecDepth 100000 in
set_option maxHeartbeats 1000000 in
theorem do_stop (fits : Bool) (fv : Value) (w : World) (hD : Dev w d bs X) (he : DevP.err X fits ≠ 0) :
    Calls Try.prog 35 #[.pointer (some ⟨d, 0, none⟩), .bool fits, fv] w fun e w' => e = .returned (.int .i64 (DevP.err X fits)) ∧ Dev w' d bs (DevP.stop X fits) ∧ Reg.KeepB w.heap.size bs w w' := by
  have HD := Lib.hid hD
  obtain ⟨sb, mb, bp, gb, A, n, c, nm, es, hI, hbs⟩ := hD
  have f1 := str10 hI.box
  have hz := fun j => hI.box.frozen j
  have hl := hI.box.lt
  have HBS := Lib.hid hbs
  have HI := Lib.hid hI
  have hb1 : Below w.heap.size w (w.alloc (.cells #[.pointer (some ⟨d, 0, none⟩)] 29)) := balloc (bsame w) _
  clear hI hbs
  obtain ⟨safe, now, log, stale, head, sure, fused, fuse, off, ops, wr⟩ := X
  dsimp only at f1
  cases off with
  | true =>
    have he1 : DevP.err ⟨safe, now, log, stale, head, sure, fused, fuse, true, ops, wr⟩ fits = 3 := rfl
    have he2 : DevP.stop ⟨safe, now, log, stale, head, sure, fused, fuse, true, ops, wr⟩ fits = ⟨safe, now, log, stale, head, sure, fused, fuse, true, ops, wr⟩ := rfl
    rw [he1, he2]
    clear he1 he2 he
    go_enter_defers Try.func35, Try.ntmps35
    go_wp2
    exact ⟨_, results_tmp rfl _ _ _, rfl, HD.out.below hb1, Reg.KeepB.of hb1⟩
  | false =>
    cases fits with
    | false =>
      have he1 : DevP.err ⟨safe, now, log, stale, head, sure, fused, fuse, false, ops, wr⟩ false = 2 := rfl
      have he2 : DevP.stop ⟨safe, now, log, stale, head, sure, fused, fuse, false, ops, wr⟩ false = ⟨safe, now, log, stale, head, sure, fused, fuse, false, ops, wr⟩ := rfl
      rw [he1, he2]
      clear he1 he2 he
      go_enter_defers Try.func35, Try.ntmps35
      go_wp2
      exact ⟨_, results_tmp rfl _ _ _, rfl, HD.out.below hb1, Reg.KeepB.of hb1⟩
    | true =>
      cases fused with
      | false => exact absurd rfl he
      | true =>
        by_cases hf : fuse = 0
        · subst hf
          have he1 : DevP.err ⟨safe, now, log, stale, head, sure, true, 0, false, ops, wr⟩ true = 3 := rfl
          have he2 : DevP.stop ⟨safe, now, log, stale, head, sure, true, 0, false, ops, wr⟩ true = ⟨safe, now, log, stale, head, sure, true, 0, true, ops, wr⟩ := rfl
          rw [he1, he2]
          clear he1 he2 he
          go_enter_defers Try.func35, Try.ntmps35
          go_wp2
          have hI2 := HI.out.off
          have hg2 := grown_set (grown_refl w d) 8 (.bool true)
          have hb2 : Below (w.setCell ⟨d, 8, none⟩ (.bool true)).heap.size (w.setCell ⟨d, 8, none⟩ (.bool true)) ((w.setCell ⟨d, 8, none⟩ (.bool true)).alloc (.cells #[.pointer (some ⟨d, 0, none⟩)] 29)) := balloc (bsame _) _
          have hI3 := hI2.at_ (fun b hm => hb2.block b (hI2.lt b hm))
          exact ⟨_, results_tmp rfl _ _ _, rfl, ⟨sb, mb, bp, gb, A, n, c, nm, es, hI3, HBS.out⟩, ((Reg.KeepB.of (bsame w)).grown hg2 (Nat.le_refl _) (.inr HD.out.mem)).step hb2 hg2.size⟩
        · have hf2 : decide (fuse = 0) = false := by simpa using hf
          exact absurd (by simp [DevP.err, hf2]) he
end DevW
end Go.Proofs.Ytcfieofcnpalgaa
end
section
namespace Go.Proofs.Ytcfieofcnpalgaa
open Go.RowKit Go.Maps
set_option linter.unusedVariables false
set_option linter.unusedSimpArgs false
set_option maxRecDepth 100000
def jobZ : Array Value := (([Value.pointer none, Value.int .i64 0] : List Value) ++ zerosV 512 ++ [Value.slice none 0 0]).toArray
namespace DevW
theorem alJob_fold : Instr.alloc 71 true (.tuple #[]) = alSem 71 := rfl
theorem bdJob_fold (ps : Array (Nat × Value)) : Instr.build 71 ps = bdSem 71 ps := rfl
theorem stJob_fold (a v : Value) : Instr.storeAt 71 a v = stSem 71 a v := rfl
theorem infoJ : (Try.prog.info? 71).map (fun i => (i.zero, i.size)) = some (some (.agg jobZ), 515) := by kernel_rfl
theorem jobZ_size : jobZ.size = 515 := by simp [jobZ, zerosV]
theorem job_al (w : World) : (alSem 71).run Try.prog w = .ok (.pointer (some ⟨w.heap.size, 0, none⟩)) (w.alloc (.cells jobZ 71)) := by
  obtain ⟨hz, _⟩ := zero_of_info infoJ
  simp [alSem, Instr.alloc, hz, newVar, newRow, Value.cells]
theorem jobC_one (d : Nat) (n : Int) (l : List UInt8) (A : Option Addr) (m c : Nat) : (jobC d n l (.slice A m c)).all (·.oneCell') = true := by
  rw [Array.all_eq_true_iff_forall_mem]
  intro v hv
  simp only [jobC, List.mem_toArray, List.mem_append, List.mem_cons, List.not_mem_nil, or_false] at hv
  rcases hv with ((rfl | rfl) | hv) | rfl
  · rfl
  · rfl
  · exact byteV_one l v hv
  · rfl
theorem job_st {w : World} {b d : Nat} {n : Int} {l : List UInt8} {A : Option Addr} {m c : Nat} (hs : Str w b jobZ) (hl : l.length = 512) :
    (stSem 71 (.pointer (some ⟨b, 0, none⟩)) (.agg (jobC d n l (.slice A m c)))).run Try.prog w = .ok () (w.setRow b (jobC d n l (.slice A m c))) := by
  obtain ⟨t', hg⟩ := hs
  have hsz : (Try.prog.info? 71).map (·.size) = some 515 := by
    have := infoJ
    cases hq : Try.prog.info? 71 with
    | none => simp [hq] at this
    | some i => simp [hq] at this; simp [this.2]
  simp only [stSem, Instr.storeAt, Instr.sureAddr, Sem.run_bind, Sem.run_pure, Result.andThen_ok]
  exact run_storeVar_row w b t' _ jobZ _ hg (by rw [hsz, jobC_size hl]) (by rw [jobC_size hl, jobZ_size]) (jobC_one d n l A m c)
theorem job_bd2 (d : Nat) (n : Int) (w : World) : (bdSem 71 #[(0, .pointer (some ⟨d, 0, none⟩)), (1, .int .i64 n)]).run Try.prog w = .ok (.agg (jobC d n (SlotP.zeros 512) (.slice none 0 0))) w := by kernel_rfl
theorem foldl_set (o : Nat) : ∀ (vs : List Value) (k : Nat) (cs : Array Value), o + k + vs.length ≤ cs.size → ((vs.zipIdx k).foldl (fun cs p => cs.setIfInBounds (o + p.2) p.1) cs).toList = splice cs.toList (o + k) vs
  | [], k, cs, _ => by simp [splice]
  | v :: r, k, cs, h => by
    rw [List.zipIdx_cons, List.foldl_cons, foldl_set o r (k + 1) _ (by simp at h ⊢; omega), Array.toList_setIfInBounds]
    exact splice_cons _ _ _ _ (by simp at h ⊢; omega)
theorem then_of {α β : Type} {r : Result α} {a : α} {w : World} (K : α → World → Result β) (h : r = .ok a w) : r.andThen K = K a w := by rw [h]; rfl
theorem job_build (d : Nat) (n : Int) (cs : Array Value) (w : World) : (Instr.build 71 #[(0, .pointer (some ⟨d, 0, none⟩)), (1, .int .i64 n), (2, .agg cs)]).run Try.prog w = ((match Instr.fill ((#[(0, 1), (1, 1), (2, 512), (514, 1)] : Array (Nat × Nat))[·]?) jobZ [(0, .pointer (some ⟨d, 0, none⟩)), (1, .int .i64 n), (2, .agg cs)] with
    | some cells => pure (.agg cells)
    | none => stuck "build: no such field, or a part of the wrong size") : Sem Value).run Try.prog w := by
  obtain ⟨hz, _⟩ := zero_of_info infoJ
  unfold Instr.build
  simp only [Sem.run_bind, hz, Result.andThen_ok, run_underlying Try.underlying71]
  refine (then_of (w := w) (a := (#[(0, 1), (1, 1), (2, 512), (514, 1)] : Array (Nat × Nat))) _ (by kernel_rfl)).trans ?_
  rw [show (Value.agg jobZ).cells = jobZ from rfl]
  generalize Instr.fill (fun x => (#[(0, 1), (1, 1), (2, 512), (514, 1)] : Array (Nat × Nat))[x]?) jobZ [(0, Value.pointer (some ⟨d, 0, none⟩)), (1, Value.int .i64 n), (2, Value.agg cs)] = r
  cases r <;> rfl
theorem job_bdP (d : Nat) (n : Int) (l : List UInt8) (hl : l.length = 512) (w : World) : (bdSem 71 #[(0, .pointer (some ⟨d, 0, none⟩)), (1, .int .i64 n), (2, .agg (rowV l))]).run Try.prog w = .ok (.agg (jobC d n l (.slice none 0 0))) w := by
  unfold bdSem
  rw [job_build]
  have hz : (SlotP.zeros 512).length = 512 := List.length_replicate
  have hs : (rowV l).size = 512 := by rw [rowV_size, hl]
  have hf2 : ((rowV l).zipIdx.foldl (fun cs (p : Value × Nat) => cs.setIfInBounds (2 + p.2) p.1) (jobC d n (SlotP.zeros 512) (.slice none 0 0))) = jobC d n l (.slice none 0 0) := by
    apply Array.ext'
    have h3 := foldl_set 2 (l.map byteV) 0 (jobC d n (SlotP.zeros 512) (.slice none 0 0)) (by rw [jobC_size hz]; simp [hl])
    have h4 : (rowV l).zipIdx.toList = (l.map byteV).zipIdx 0 := by simp [rowV]
    rw [← Array.foldl_toList, h4, h3]
    simp [splice, jobC, hl, hz]
  have hz1 : (jobZ.setIfInBounds 0 (.pointer (some ⟨d, 0, none⟩))).setIfInBounds 1 (.int .i64 n) = jobC d n (SlotP.zeros 512) (.slice none 0 0) := by kernel_rfl
  have e1 : Instr.fill ((#[(0, 1), (1, 1), (2, 512), (514, 1)] : Array (Nat × Nat))[·]?) jobZ [(0, .pointer (some ⟨d, 0, none⟩)), (1, .int .i64 n), (2, .agg (rowV l))] = some (jobC d n l (.slice none 0 0)) := by
    have s0 : jobZ.size = 515 := jobZ_size
    simp [Instr.fill, Value.cells, hs, s0, hz1, jobC_size hz]
    have hz2 : (rowV l).zipIdx.size = 512 := by simp [hs]
    have hf3 := hf2
    rw [hz2] at hf3
    exact hf3
  rw [e1]
  rfl
end DevW
end Go.Proofs.Ytcfieofcnpalgaa
end
section
namespace Go.Proofs.Ytcfieofcnpalgaa.DevW
open Go.RowKit Go.Maps
set_option linter.unusedVariables false
set_option linter.unusedSimpArgs false
variable {d sb mb : Nat} {bp bs : List Nat} {gb : Option Nat} {A : Option Addr} {n c nm : Nat} {es : List (Int × SlV)} {X : DevX}
/-- the device's box, its cells, what they are -/
theorem Dev.cells {w : World} (h : Dev w d bs X) : ∃ sb mb A n c, Str w d (devC X.safe.length sb mb A n c X) ∧ X.log.length = n ∧ n ≤ maxLen := by
  obtain ⟨sb, mb, bp, gb, A, n, c, nm, es, hI, -⟩ := h
  exact ⟨sb, mb, A, n, c, hI.box, hI.log.len, Nat.le_trans hI.log.2.1 hI.log.2.2.1⟩
set_option maxRecDepth 100000 in
set_option maxHeartbeats 1000000 in
theorem pages_any (w : World) (hD : Dev w d bs X) :
    Calls Try.prog 27 #[.pointer (some ⟨d, 0, none⟩)] w fun e w' => e = .returned (.int .i64 ((X.safe.length : Nat))) ∧ Below w.heap.size w w' := by
  obtain ⟨sb, mb, A, n, c, hS, hn, hm⟩ := hD.cells
  unfold maxLen at hm
  have hk := hD.ok
  have f1 := str10 hS
  have hl := hS.lt
  have hh0 := hk.h0
  have hnp := hk.n1
  clear hD hS hk
  go_enter Try.func27, Try.ntmps27
  go_wp2
  go_ret
  exact ⟨rfl, bsame w⟩
set_option maxRecDepth 100000 in
set_option maxHeartbeats 1000000 in
theorem has_any (no : Int) (w : World) (hD : Dev w d bs X) :
    Calls Try.prog 36 #[.pointer (some ⟨d, 0, none⟩), .int .i64 no] w fun e w' => e = .returned (.bool (decide (0 ≤ no) && decide (no < (X.safe.length : Nat)))) ∧ Below w.heap.size w w' := by
  obtain ⟨sb, mb, A, n, c, hS, hn, hm⟩ := hD.cells
  unfold maxLen at hm
  have hk := hD.ok
  have f1 := str10 hS
  have hl := hS.lt
  have hh0 := hk.h0
  have hnp := hk.n1
  clear hD hS hk
  by_cases h0 : 0 ≤ no
  · have d0 : decide (0 ≤ no) = true := by simpa using h0
    by_cases h1 : no < (X.safe.length : Nat)
    · have d1 : decide (no < (X.safe.length : Int)) = true := by simpa using h1
      rw [d0, d1]
      go_enter Try.func36, Try.ntmps36
      go_wp2
      go_ret
      exact ⟨rfl, bsame w⟩
    · have d1 : decide (no < (X.safe.length : Int)) = false := by simpa using h1
      rw [d0, d1]
      go_enter Try.func36, Try.ntmps36
      go_wp2
      go_ret
      exact ⟨rfl, bsame w⟩
  · have d0 : decide (0 ≤ no) = false := by simpa using h0
    rw [d0]
    go_enter Try.func36, Try.ntmps36
    go_wp2
    go_ret
    exact ⟨rfl, bsame w⟩
def _root_.Go.Proofs.Ytcfieofcnpalgaa.DevP.fused (X : DevX) (m : Int) : DevX := { X with fused := decide (0 ≤ m), fuse := max m 0 }
end Go.Proofs.Ytcfieofcnpalgaa.DevW
end
section
namespace Go.Proofs.Ytcfieofcnpalgaa.DevW
open Go.RowKit Go.Maps
set_option linter.unusedVariables false
set_option linter.unusedSimpArgs false
variable {d sb mb : Nat} {bp bs : List Nat} {gb : Option Nat} {A : Option Addr} {n c nm : Nat} {es : List (Int × SlV)} {X : DevX}
attribute [local go_sem ↓] cut_fold
theorem In.bp_ne {w : World} (h : In w d sb mb bp gb A n c nm es X) : ∀ b ∈ bp, b ≠ d := fun b hb e => (List.nodup_cons.1 h.nd).1 (by rw [← e]; simp [hb])
/-- the call has done its act -/
def Acts (w : World) (d : Nat) (bs js : List Nat) (X : DevX) (E : World → Prop) (e : Ending) (w' : World) : Prop := e = .returned (.tuple #[]) ∧ ∃ bs', Dev w' d bs' X ∧ Reg.KeepB w.heap.size (js ++ bs) w w' ∧ (∀ b ∈ bs', b ∈ bs ∨ w.heap.size ≤ b) ∧ E w'
end Go.Proofs.Ytcfieofcnpalgaa.DevW
end
