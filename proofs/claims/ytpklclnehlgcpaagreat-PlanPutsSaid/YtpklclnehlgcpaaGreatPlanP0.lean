/-
  Parts of the proof of PlanPuts.
-/
import Derived.WalkKit
import Derived.WalkSpells
import Derived.WalkLawsBesides
import Derived.Lib.Hide
import Derived.Deep.Draws
import Derived.Deep.QuietTactic
import Derived.BigQuiet
import Derived.Test.YtpklclnehlgcpaaGreatProg
import Derived.ProofKit
import Derived.OpenShut
import Derived.ShutString
import Derived.ChangeOld
import Derived.Laws.BitsAllLaws
import Derived.Laws.StructEq
section
namespace Go.Proofs.YtpklclnehlgcpaaGreat

/-- what a key has -/
structure Cell where
  kind : Int
  data : List UInt8
  lo : Int
  hi : Int
  val : Int

/-- an operation -/
structure OpX where
  act : Int
  key : ByteArray
  data : List UInt8
  lo : Int
  hi : Int
  n : Int

/-- a slot -/
structure Item where
  state : Int
  key : ByteArray
  cell : Cell

/-- how an operation is taken back -/
structure Undo where
  act : Int
  key : ByteArray
  item : Item
  n : Int

/-- a number of 64 bits -/
def In64 (n : Int) : Prop := -9223372036854775808 ≤ n ∧ n ≤ 9223372036854775807
end Go.Proofs.YtpklclnehlgcpaaGreat
end
section
namespace Go.Proofs.YtpklclnehlgcpaaGreat
open Go.RowKit

/-- one call behind another: nothing that lay before the first has turned -/
theorem bstep {a b c : World} (h : Below a.heap.size a b) (k : Below b.heap.size b c) : Below a.heap.size a c := h.trans (k.mono h.size)
theorem bsame (a : World) : Below a.heap.size a a := Below.refl _ _
theorem balloc {a b : World} (h : Below a.heap.size a b) (o : Obj) : Below a.heap.size a (b.alloc o) := h.alloc h.size o
/-- what lay before a call reads behind it as it did: as rules for the walk -/
theorem bcell {W w1 : World} (hb : Below W.heap.size W w1) : (∀ b o, b < W.heap.size → w1.cell? ⟨b, o, none⟩ = W.cell? ⟨b, o, none⟩) ∧ (∀ b o, b < W.heap.size → w1.frozen? ⟨b, o, none⟩ = W.frozen? ⟨b, o, none⟩) :=
  ⟨fun b o h => hb.cell (p := ⟨b, o, none⟩) h, fun b o h => hb.frozen (p := ⟨b, o, none⟩) h⟩
theorem lt_of_cell {w : World} {a : Addr} {v : Value} (h : w.cell? a = some v) : a.block < w.heap.size := by
  rcases Nat.lt_or_ge a.block w.heap.size with hl | hg
  · exact hl
  · unfold World.cell? at h
    rw [Array.getElem?_eq_none hg] at h
    cases h
/-- a byte as a value -/
def byteV (b : UInt8) : Value := .int .u8 (b.toNat : Int)
theorem byteV_one (l : List UInt8) : ∀ v ∈ l.map byteV, v.oneCell' = true := by
  intro v hv
  obtain ⟨b, _, rfl⟩ := List.mem_map.1 hv
  rfl
/-- so many zero bytes -/
def zerosV (n : Nat) : List Value := List.replicate n (.int .u8 0)
theorem zerosV_length (n : Nat) : (zerosV n).length = n := by simp [zerosV]
/-- the slice (A, n, c) reads as the bytes l, all below block B; nil and empty slices let in -/
def Bytes (w : World) (B : Nat) (A : Option Addr) (n c : Nat) (l : List UInt8) : Prop :=
  l.length = n ∧ n ≤ c ∧ c ≤ maxLen ∧ (0 < n → ∃ b o, A = some ⟨b, o, none⟩ ∧ b < B ∧ ∀ j u, l[j]? = some u → w.cell? ⟨b, o + j, none⟩ = some (byteV u))

section
variable {w w' : World} {B B' n c : Nat} {A : Option Addr} {l : List UInt8}
theorem Bytes.none_ (w : World) (B : Nat) : Bytes w B none 0 0 [] := ⟨rfl, Nat.le_refl _, by unfold maxLen; omega, fun h => absurd h (by omega)⟩
theorem Bytes.keep (h : Bytes w B A n c l) (hk : ∀ p : Addr, p.block < B → w'.cell? p = w.cell? p) : Bytes w' B A n c l :=
  ⟨h.1, h.2.1, h.2.2.1, fun hn => by
    obtain ⟨b, o, e, hb, hc⟩ := h.2.2.2 hn
    exact ⟨b, o, e, hb, fun j u hu => (hk _ hb).trans (hc j u hu)⟩⟩
theorem Bytes.more (h : Bytes w B A n c l) (hB : B ≤ B') : Bytes w B' A n c l :=
  ⟨h.1, h.2.1, h.2.2.1, fun hn => by
    obtain ⟨b, o, e, hb, hc⟩ := h.2.2.2 hn
    exact ⟨b, o, e, by omega, hc⟩⟩
theorem Bytes.below (h : Bytes w B A n c l) (hb : Below B w w') : Bytes w' B A n c l := h.keep fun _ hp => hb.cell hp
/-- a slice that was there lies there behind a call -/
theorem Bytes.next (h : Bytes w w.heap.size A n c l) (hb : Below w.heap.size w w') : Bytes w' w'.heap.size A n c l := (h.below hb).more hb.size
theorem Bytes.alloc (h : Bytes w B A n c l) (hB : B ≤ w.heap.size) (o : Obj) : Bytes (w.alloc o) B A n c l := h.keep fun p hp => World.cell?_alloc_lt w o p (by omega)
theorem add_none (b o j : Nat) : (⟨b, o, none⟩ : Addr).add j = ⟨b, o + j, none⟩ := by unfold Addr.add; split <;> simp_all
/-- as the library's laws on a source ask it -/
theorem Bytes.src (h : Bytes w B A n c l) : 0 < (l.map byteV).length → ∃ ad, A = some ad ∧ ∀ j v, (l.map byteV)[j]? = some v → w.cell? (ad.add j) = some v := by
  intro hl
  obtain ⟨b, o, e, _, hc⟩ := h.2.2.2 (by have := h.1; simp at hl; omega)
  refine ⟨_, e, fun j v hv => ?_⟩
  rw [List.getElem?_map, Option.map_eq_some_iff] at hv
  obtain ⟨u, hu, rfl⟩ := hv
  rw [add_none]
  exact hc j u hu
/-- what a call owns reads as bytes -/
theorem Bytes.of_own {base : Nat} {e : TypeId} {v : Value} {k : Nat} (h : w.ownsRow base e 1 v k (l.map byteV)) : ∃ A n c, v = .slice A n c ∧ Bytes w w.heap.size A n c l := by
  obtain ⟨hl, h2⟩ := h
  have hk : l.length = k := by simpa using hl
  rcases h2 with ⟨rfl, h0⟩ | ⟨g, cap, cur, rfl, _, hg, hnc, hm, hsz, htk⟩
  · have : l = [] := List.eq_nil_of_length_eq_zero (by omega)
    subst this
    exact ⟨none, 0, 0, rfl, Bytes.none_ _ _⟩
  · refine ⟨_, _, _, rfl, hk, hnc, hm, fun hn => ⟨g, 0, rfl, (Array.getElem?_eq_some_iff.1 hg).1, fun j u hu => ?_⟩⟩
    have hj : j < l.length := (List.getElem?_eq_some_iff.1 hu).1
    have hx := congrArg (·[j]?) htk
    simp only [List.getElem?_take, List.getElem?_map, hu, Option.map_some] at hx
    rw [if_pos (by omega)] at hx
    unfold World.cell?
    simp only [hg, Nat.zero_add]
    simpa using hx
theorem Bytes.len (h : Bytes w B A n c l) : l.length = n := h.1
theorem Bytes.at_ {k : Nat} (h : Bytes w B A n c l) (hk : k < n) : ∃ b o, A = some ⟨b, o, none⟩ ∧ b < B ∧ w.cell? ⟨b, o + k, none⟩ = some (byteV (l[k]'(by rw [h.1]; exact hk))) := by
  obtain ⟨b, o, e, hb, hc⟩ := h.2.2.2 (by omega)
  exact ⟨b, o, e, hb, hc k _ (List.getElem?_eq_getElem _)⟩
end

/-- the call hands back a slice that reads as l -/
def GivesBytes (w : World) (l : List UInt8) (e : Ending) (w' : World) : Prop := ∃ A n c, e = .returned (.slice A n c) ∧ Bytes w' w'.heap.size A n c l ∧ Below w.heap.size w w'
/-- a cell as a value -/
def RCell (w : World) (B : Nat) (v : Value) (c : Cell) : Prop :=
  ∃ A n cap, v = .agg #[.int .i64 c.kind, .slice A n cap, .int .i64 c.lo, .int .i64 c.hi, .int .i64 c.val] ∧ Bytes w B A n cap c.data ∧ In64 c.kind ∧ In64 c.lo ∧ In64 c.hi ∧ In64 c.val
theorem RCell.next {w w' : World} {v : Value} {c : Cell} (h : RCell w w.heap.size v c) (hb : Below w.heap.size w w') : RCell w' w'.heap.size v c := by
  obtain ⟨A, n, cap, e, hB, r⟩ := h
  exact ⟨A, n, cap, e, hB.next hb, r⟩
/-- an operation as a value -/
def ROp (w : World) (B : Nat) (v : Value) (x : OpX) : Prop :=
  ∃ A n cap, v = .agg #[.int .i64 x.act, .string x.key, .slice A n cap, .int .i64 x.lo, .int .i64 x.hi, .int .i64 x.n] ∧ Bytes w B A n cap x.data ∧ x.key.size ≤ maxLen ∧ In64 x.act ∧ In64 x.lo ∧ In64 x.hi ∧ In64 x.n
theorem ROp.next {w w' : World} {v : Value} {x : OpX} (h : ROp w w.heap.size v x) (hb : Below w.heap.size w w') : ROp w' w'.heap.size v x := by
  obtain ⟨A, n, cap, e, hB, r⟩ := h
  exact ⟨A, n, cap, e, hB.next hb, r⟩
end Go.Proofs.YtpklclnehlgcpaaGreat
end
section
namespace Go.Proofs.YtpklclnehlgcpaaGreat
open Go.ChangeShapes Go.WideShapes Go.ChangeAt Go.RowKit
open Go.ChangeMaps (open_string shut_string)
set_option linter.unusedVariables false
set_option maxRecDepth 100000

def RInt (w : World) (v : Value) (n : Int) : Prop := v = .int .i64 n ∧ -9223372036854775808 ≤ n ∧ n ≤ 9223372036854775807
section
variable {H : Type} {enc : TypeId × Value → H} {W : World} {base : Nat} {v : Value} {d : DataW H} {p : List MemPlace}
theorem open_i64 (hv : Value.okWide Tryz.prog W .any base 3 v) (h : DataW.Trod enc Tryz.prog W 0 (fun _ => true) true 3 v d p) : ∃ n, RInt W v n := by
  obtain ⟨n, rfl, _, _, hs⟩ := open_int Tryz.underlying3 hv h
  have hx : -9223372036854775808 ≤ n ∧ n ≤ 9223372036854775807 := by simpa [Lit.wf, IntKind.min, IntKind.max, IntKind.signed, IntKind.bits] using hs
  exact ⟨n, rfl, hx⟩
theorem in64 {n : Int} (h : (Lit.int .i64 n).wf = true) : In64 n := by simpa [In64, Lit.wf, IntKind.min, IntKind.max, IntKind.signed, IntKind.bits] using h
end
section
variable {H : Type} {enc : TypeId × Value → H} {P : Program} {w : World}
/-- a field of a struct, read by itself -/
theorem field_of {fuel : Nat} {t : TypeId} {cs : List Value} {x : DataW H × List MemPlace} {fs : Array Field} (ht : P.underlying t = some (.struct fs)) (h : DataW.trod enc P w 0 (fun _ => true) true fuel t cs = some x) :
    cs.length = P.cellsOf t ∧ ∃ n, ∀ (i : Nat) (ft : TypeId) (off k : Nat), (fs[i]?).map (fun f => (f.type, f.offset)) = some (ft, off) → P.cellsOf ft = k → ∃ y, DataW.trod enc P w 0 (fun _ => true) true n ft ((cs.drop off).take k) = some y := by
  obtain ⟨xs, n, _, _, hl, hx, hf⟩ := DataW.trod_struct ht h
  refine ⟨hl, n, fun i ft off k hi hk => ?_⟩
  obtain ⟨f, hi2, he⟩ := Option.map_eq_some_iff.1 hi
  clear hi
  simp only [Prod.mk.injEq] at he
  obtain ⟨rfl, rfl⟩ := he
  subst hk
  have hlt : i < fs.size := (Array.getElem?_eq_some_iff.1 hi2).1
  exact ⟨xs[i]'(by omega), (hf i f hi2).trans (List.getElem?_eq_getElem (by omega))⟩
theorem u8_of {z : Int} (h : (Lit.int .u8 z).wf = true) : ((UInt8.ofNat z.toNat).toNat : Int) = z := by
  have hx : 0 ≤ z ∧ z ≤ 255 := by simpa [Lit.wf, IntKind.min, IntKind.max, IntKind.signed, IntKind.bits] using h
  have : (UInt8.ofNat z.toNat).toNat = z.toNat := by simp; omega
  rw [this]; omega
/-- bytes, read -/
theorem bytes_of {fuel : Nat} {t e : TypeId} {cs : List Value} {x : DataW H × List MemPlace} (ht : P.underlying t = some (.slice e)) (he : P.underlying e = some (.int .u8)) (hce : P.cellsOf e = 1)
    (h : DataW.trod enc P w 0 (fun _ => true) true fuel t cs = some x) : ∃ A n c l, cs = [.slice A n c] ∧ Bytes w w.heap.size A n c l := by
  rcases open_ints ht he hce h with ⟨hcs, _⟩ | ⟨a, len, cap, zs, hcs, _, hl, hm, hz, _, hcell, hwz⟩
  · exact ⟨none, 0, 0, [], hcs, Bytes.none_ _ _⟩
  · have hz' : zs.length = cap := by simpa using hz
    refine ⟨some a, len, cap, (zs.take len).map fun z => UInt8.ofNat z.toNat, hcs, by simp [hz']; omega, hl, hm, fun hn => ?_⟩
    obtain ⟨b, o, s⟩ := a
    have h0 := hcell 0 (by omega)
    have hs : s = none := by simpa [Addr.add] using World.cell?_spot h0
    subst hs
    refine ⟨b, o, rfl, by simpa [Addr.add] using lt_of_cell h0, fun j u hu => ?_⟩
    rw [List.getElem?_map, Option.map_eq_some_iff] at hu
    obtain ⟨z, hz1, rfl⟩ := hu
    rw [List.getElem?_take] at hz1
    split at hz1
    · rename_i hj
      have hc := hcell j (by omega)
      have hzj : zs.getD j 0 = z := by simp [List.getD, hz1]
      rw [hzj] at hc
      have hw := u8_of (hwz z (List.mem_of_getElem? hz1))
      unfold byteV
      rw [hw, ← hc]
      by_cases hj0 : j = 0
      · subst hj0; rfl
      · simp [Addr.add, hj0]
    · cases hz1
end
section
variable {H : Type} {enc : TypeId × Value → H} {W : World} {base : Nat} {v : Value} {d : DataW H} {p : List MemPlace}
end
theorem own : ownKnob Tryz.prog.godebug = none := by kernel_rfl
theorem laidOut : laidOutB Tryz.prog = true := by kernel_rfl
end Go.Proofs.YtpklclnehlgcpaaGreat
end
section
namespace Go.Proofs.YtpklclnehlgcpaaGreat.BeP

/-- a number of 64 bits, as a natural number -/
def u64 (m : Int) : Nat := (m % 18446744073709551616).toNat
/-- byte k of the lowest width bytes of m -/
def part (width : Nat) (m : Int) (k : Nat) : UInt8 := UInt8.ofNat (u64 m / 2 ^ (8 * (width - 1 - k)))
/-- the lowest width bytes of m, the greatest one ahead -/
def parts (width : Nat) (m : Int) : List UInt8 := (List.range width).map (part width m)
theorem parts_length (width : Nat) (m : Int) : (parts width m).length = width := by simp [parts]
theorem parts_take (width : Nat) (m : Int) (k : Nat) (h : k < width) : (parts width m).take (k + 1) = (parts width m).take k ++ [part width m k] := by
  have hl : k < (parts width m).length := by rw [parts_length]; exact h
  rw [List.take_succ_eq_append_getElem hl]
  simp [parts]
theorem parts_all (width : Nat) (m : Int) (k : Nat) (h : ¬ k < width) : (parts width m).take k = parts width m := List.take_of_length_le (by rw [parts_length]; omega)
theorem u64_wrap (m : Int) : IntKind.u64.wrap m = (u64 m : Int) := by
  simp only [IntKind.wrap, IntKind.bits, IntKind.signed, u64]
  simp
  omega
/-- as the walk spells it -/
theorem part_walk (width : Nat) (m : Int) (k : Nat) (h : k < width) : IntKind.u64.wrap m / 2 ^ (8 * (width - 1) - 8 * k) % 256 = ((part width m k).toNat : Int) := by
  have e : 8 * (width - 1) - 8 * k = 8 * (width - 1 - k) := by omega
  rw [u64_wrap, e, part]
  generalize 8 * (width - 1 - k) = j
  generalize u64 m = u
  have h1 : (UInt8.ofNat (u / 2 ^ j)).toNat = u / 2 ^ j % 256 := by simp
  rw [h1]
  simp
end Go.Proofs.YtpklclnehlgcpaaGreat.BeP
end
section
namespace Go.Proofs.YtpklclnehlgcpaaGreat.NumP

def nstep (n : Nat) (c : UInt8) : Nat := n * 256 + c.toNat
/-- the number of bytes -/
def num (l : List UInt8) : Nat := l.foldl nstep 0
/-- a number of 64 bits without a sign, as one with a sign -/
def toI (u : Nat) : Int := if u < 9223372036854775808 then (u : Int) else (u : Int) - 18446744073709551616
/-- are there width bytes from at on? -/
def there (l : List UInt8) (at_ width : Nat) : Bool := decide (at_ + width ≤ l.length)
/-- their number, or 0 -/
def val (l : List UInt8) (at_ width : Nat) : Int := if at_ + width ≤ l.length then toI (num ((l.drop at_).take width)) else 0

theorem num_snoc (l : List UInt8) (c : UInt8) : num (l ++ [c]) = num l * 256 + c.toNat := by simp [num, nstep]
theorem fold_lt (l : List UInt8) (n : Nat) : l.foldl nstep n < (n + 1) * 256 ^ l.length := by
  induction l generalizing n with
  | nil => simp
  | cons c l ih =>
    have h1 := ih (nstep n c)
    have hc := c.toNat_lt
    have h2 : (nstep n c + 1) * 256 ^ l.length ≤ ((n + 1) * 256) * 256 ^ l.length := Nat.mul_le_mul_right _ (by unfold nstep; omega)
    have h3 : (n + 1) * 256 ^ (l.length + 1) = ((n + 1) * 256) * 256 ^ l.length := by rw [Nat.pow_succ, Nat.mul_assoc, Nat.mul_comm (256 ^ l.length)]
    show l.foldl nstep (nstep n c) < (n + 1) * 256 ^ (l.length + 1)
    rw [h3]
    omega
theorem num_lt (l : List UInt8) : num l < 256 ^ l.length := by
  have := fold_lt l 0
  simpa [num] using this
theorem num_lt8 (l : List UInt8) (h : l.length ≤ 8) : num l < 18446744073709551616 := by
  have h1 := num_lt l
  have h2 : 256 ^ l.length ≤ 256 ^ 8 := Nat.pow_le_pow_right (by decide) h
  have h3 : (256 : Nat) ^ 8 = 18446744073709551616 := by decide
  omega
theorem num_lt7 (l : List UInt8) (h : l.length ≤ 7) : num l < 72057594037927936 := by
  have h1 := num_lt l
  have h2 : 256 ^ l.length ≤ 256 ^ 7 := Nat.pow_le_pow_right (by decide) h
  have h3 : (256 : Nat) ^ 7 = 72057594037927936 := by decide
  omega
theorem toI_in (u : Nat) (h : u < 18446744073709551616) : In64 (toI u) := by
  unfold toI In64
  split <;> omega
theorem u64_lt (m : Int) : BeP.u64 m < 18446744073709551616 := by unfold BeP.u64; omega

end Go.Proofs.YtpklclnehlgcpaaGreat.NumP
end
section
namespace Go.Proofs.YtpklclnehlgcpaaGreat
set_option linter.unusedVariables false
/-- a run: its place, its bytes -/
structure RunX where
  at_ : Int
  data : List UInt8
/-- a patch -/
structure PatchX where
  page : Int
  fresh : Bool
  runs : List RunX
namespace PatchP
def stop (r : RunX) : Int := r.at_ + (r.data.length : Nat)
def Within (r : RunX) : Prop := 0 < r.data.length ∧ 12 ≤ r.at_ ∧ stop r ≤ 512
/-- where the run ahead of k ends -/
def endOf (l : List RunX) : Nat → Int
  | 0 => -1
  | k + 1 => match l[k]? with
    | some q => stop q
    | none => -1
/-- the first k runs may be -/
def Okay (l : List RunX) (k : Nat) : Prop := ∀ i r, i < k → l[i]? = some r → Within r ∧ endOf l i < r.at_
def Right (x : PatchX) : Prop := 0 ≤ x.page ∧ x.page ≤ 65535 ∧ x.runs.length ≤ 500 ∧ Okay x.runs x.runs.length
noncomputable def within (r : RunX) : Bool := @decide (Within r) (Classical.propDecidable _)
noncomputable def right (x : PatchX) : Bool := @decide (Right x) (Classical.propDecidable _)
noncomputable def same (x y : PatchX) : Bool := @decide (x = y) (Classical.propDecidable _)
noncomputable def sameRuns (x y : List RunX) : Bool := @decide (x = y) (Classical.propDecidable _)
theorem within_iff (r : RunX) : within r = true ↔ Within r := by unfold within; simp
theorem right_iff (x : PatchX) : right x = true ↔ Right x := by unfold right; simp
theorem right_no (x : PatchX) (h : ¬ Right x) : right x = false := by unfold right; simpa using h
theorem right_yes (x : PatchX) (h : Right x) : right x = true := (right_iff x).2 h
theorem within_no (r : RunX) (h : ¬ Within r) : within r = false := by unfold within; simpa using h
theorem within_yes (r : RunX) (h : Within r) : within r = true := (within_iff r).2 h
theorem okay_zero (l : List RunX) : Okay l 0 := fun i r hi => absurd hi (Nat.not_lt_zero _)
theorem endOf_succ (l : List RunX) (k : Nat) (r : RunX) (h : l[k]? = some r) : endOf l (k + 1) = stop r := by show (match l[k]? with | some q => stop q | none => -1) = _; rw [h]
theorem okay_step {l : List RunX} {k : Nat} {r : RunX} (h : Okay l k) (hr : l[k]? = some r) (hw : Within r) (he : endOf l k < r.at_) : Okay l (k + 1) := by
  intro i q hi hq
  by_cases e : i = k
  · subst e
    rw [hr] at hq; cases hq
    exact ⟨hw, he⟩
  · exact h i q (by omega) hq
theorem okay_bad {l : List RunX} {k n : Nat} {r : RunX} (hr : l[k]? = some r) (hb : ¬ (Within r ∧ endOf l k < r.at_)) (hk : k < n) : ¬ Okay l n := fun h => hb (h k r hk hr)
theorem endOf_lo {l : List RunX} {k n : Nat} (h : Okay l n) (hk : k ≤ n) : -1 ≤ endOf l k ∧ endOf l k ≤ 512 := by
  cases k with
  | zero => exact ⟨Int.le_refl _, by show (-1 : Int) ≤ 512; omega⟩
  | succ k =>
    cases hq : l[k]? with
    | some q =>
      rw [endOf_succ l k q hq]
      have := (h k q (by omega) hq).1
      unfold Within at this
      have h2 : stop q = q.at_ + (q.data.length : Nat) := rfl
      omega
    | none =>
      have : endOf l (k + 1) = -1 := by show (match l[k]? with | some q => stop q | none => -1) = _; rw [hq]
      omega
theorem bad_page (x : PatchX) (h : x.page < 0 ∨ 65535 < x.page ∨ 500 < x.runs.length) : right x = false := right_no x fun hr => by
  obtain ⟨a, b, c, -⟩ := hr
  omega
theorem bad_run (x : PatchX) {k : Nat} {r : RunX} (hr : x.runs[k]? = some r) (hb : ¬ (Within r ∧ endOf x.runs k < r.at_)) : right x = false := right_no x fun h =>
  okay_bad hr hb (List.getElem?_eq_some_iff.1 hr).1 h.2.2.2
theorem in_runs {x : PatchX} (h : Right x) {k : Nat} {r : RunX} (hr : x.runs[k]? = some r) : 12 ≤ r.at_ ∧ r.at_ ≤ 511 ∧ 1 ≤ r.data.length ∧ r.data.length ≤ 500 := by
  have := (h.2.2.2 k r (List.getElem?_eq_some_iff.1 hr).1 hr).1
  unfold Within stop at this
  omega
/-- a run's bytes -/
def runB (r : RunX) : List UInt8 := BeP.parts 2 r.at_ ++ (BeP.parts 2 (r.data.length : Nat) ++ r.data)
def runsB (l : List RunX) : List UInt8 := l.flatMap runB
def flag (b : Bool) : Int := if b then 1 else 0
def head (x : PatchX) : List UInt8 := BeP.parts 2 x.page ++ (BeP.parts 1 (flag x.fresh) ++ BeP.parts 2 (x.runs.length : Nat))
def body (x : PatchX) : List UInt8 := head x ++ runsB x.runs
noncomputable def bytes (x : PatchX) : List UInt8 := if right x then body x else []
theorem head_length (x : PatchX) : (head x).length = 5 := by simp [head, BeP.parts_length]
theorem runB_length (r : RunX) : (runB r).length = 4 + r.data.length := by simp [runB, BeP.parts_length]; omega
theorem runsB_snoc (l : List RunX) (k : Nat) (r : RunX) (h : l[k]? = some r) : runsB (l.take (k + 1)) = runsB (l.take k) ++ runB r := by
  obtain ⟨hk, e⟩ := List.getElem?_eq_some_iff.1 h
  rw [List.take_succ_eq_append_getElem hk, e]
  simp [runsB]
theorem runsB_le (l : List RunX) (n : Nat) (h : ∀ r ∈ l, r.data.length ≤ n) : (runsB l).length ≤ l.length * (4 + n) := by
  induction l with
  | nil => simp [runsB]
  | cons r l ih =>
    have h1 := ih (fun q hq => h q (List.mem_cons_of_mem _ hq))
    have h2 := h r (List.mem_cons_self ..)
    have : runsB (r :: l) = runB r ++ runsB l := by simp [runsB]
    rw [this, List.length_append, runB_length, List.length_cons, Nat.add_mul]
    omega
theorem runs_le {x : PatchX} (h : Right x) (k : Nat) : (runsB (x.runs.take k)).length ≤ 252000 := by
  have h1 := runsB_le (x.runs.take k) 500 (fun r hr => by
    obtain ⟨j, hj⟩ := List.getElem?_of_mem (List.mem_of_mem_take hr)
    exact (in_runs h hj).2.2.2)
  have h2 : (x.runs.take k).length ≤ 500 := by rw [List.length_take]; have := h.2.2.1; omega
  have h3 : (x.runs.take k).length * (4 + 500) ≤ 500 * 504 := Nat.mul_le_mul_right _ h2
  omega
theorem body_le {x : PatchX} (h : Right x) : (body x).length ≤ 252005 := by
  have := runs_le h x.runs.length
  rw [List.take_of_length_le (Nat.le_refl _)] at this
  unfold body
  rw [List.length_append, head_length]
  omega
/-- where the k-th run stands -/
def place (x : PatchX) (k : Nat) : Nat := 5 + (runsB (x.runs.take k)).length
variable {x : PatchX} {more : List UInt8} {k : Nat} {r : RunX}
end PatchP
end Go.Proofs.YtpklclnehlgcpaaGreat
end
section
namespace Go.Proofs.YtpklclnehlgcpaaGreat.CellP

/-- the empty cell -/
def none : Cell := ⟨0, [], 0, 0, 0⟩
/-- may a cell be? -/
def right (c : Cell) : Bool :=
  if c.kind = 1 then decide (c.data.length ≤ 32) && (c.lo == 0 && (c.hi == 0 && c.val == 0))
  else c.kind == 2 && (c.data.length == 0 && (decide (c.lo ≤ c.val) && decide (c.val ≤ c.hi)))
def same (a b : Cell) : Bool := a.kind == b.kind && (a.data == b.data && (a.lo == b.lo && (a.hi == b.hi && a.val == b.val)))
def code (b : Bool) : Int := if b then 0 else 1
/-- a counter with another value, and the error's number -/
def set (c : Cell) (v : Int) : Cell × Int :=
  if c.kind = 2 ∧ right c = true then (if v < c.lo ∨ c.hi < v then (none, 8) else (⟨2, [], c.lo, c.hi, v⟩, 0)) else (none, 6)
/-- the bytes of a cell that may be -/
def bytes (c : Cell) : List UInt8 :=
  if right c = true then (if c.kind = 1 then [1, UInt8.ofNat c.data.length] ++ c.data else [2] ++ (BeP.parts 8 c.lo ++ (BeP.parts 8 c.hi ++ BeP.parts 8 c.val))) else []
end Go.Proofs.YtpklclnehlgcpaaGreat.CellP
end
section
namespace Go.Proofs.YtpklclnehlgcpaaGreat.KeyP

/-- a byte that a key may have -/
def okB (c : UInt8) : Bool := decide (33 ≤ c.toNat) && decide (c.toNat ≤ 126)
def right (l : List UInt8) : Bool := l.all okB && (decide (0 < l.length) && decide (l.length ≤ 16))
/-- the error's number: 0, or 1 -/
def code (b : Bool) : Int := if b then 0 else 1
def hstep (h : Nat) (c : UInt8) : Nat := ((h ^^^ c.toNat) * 16777619) % 4294967296
theorem all_take (s : ByteArray) (k : Nat) (h : k < s.size) : (s.data.toList.take (k + 1)).all okB = ((s.data.toList.take k).all okB && okB s[k]) := by
  rw [List.take_succ_eq_append_getElem (by simpa using h)]
  simp only [List.all_append, List.all_cons, List.all_nil, Bool.and_true]
  rfl
theorem all_of_take (s : ByteArray) (k : Nat) (h : ¬ k < s.size) (ha : (s.data.toList.take k).all okB = true) : s.data.toList.all okB = true := by
  rw [List.take_of_length_le (by simp; exact Nat.le_of_not_lt h)] at ha
  exact ha
theorem right_eq (s : ByteArray) (h1 : s.data.toList.all okB = true) (h2 : 0 < s.size) : right s.data.toList = decide ((s.size : Int) ≤ 16) := by
  have e : s.data.toList.length = s.size := by simp
  have e2 : decide ((s.size : Int) ≤ 16) = decide (s.size ≤ 16) := by rw [decide_eq_decide]; omega
  rw [e2]
  simp [right, h1, h2]
theorem right_of (s : ByteArray) (h1 : s.data.toList.all okB = true) (h2 : 0 < s.size) (h3 : s.size ≤ 16) : right s.data.toList = true := by
  have e : s.data.toList.length = s.size := by simp
  simp only [right, h1, e, Bool.true_and, Bool.and_eq_true, decide_eq_true_eq]
  exact ⟨h2, h3⟩
theorem not_right_len (s : ByteArray) (h : ¬ (0 < s.size ∧ s.size ≤ 16)) : right s.data.toList = false := by
  have e : s.data.toList.length = s.size := by simp
  unfold right
  rw [e]
  by_cases h0 : 0 < s.size <;> by_cases h1 : s.size ≤ 16 <;> simp_all
theorem not_right_at (s : ByteArray) (k : Nat) (h : k < s.size) (hc : okB s[k] = false) : right s.data.toList = false := by
  have hm : s[k] ∈ s.data.toList := by
    have : s[k] = s.data.toList[k]'(by simpa using h) := rfl
    rw [this]
    exact List.getElem_mem _
  have : s.data.toList.all okB = false := by
    rw [List.all_eq_false]
    exact ⟨_, hm, by simp [hc]⟩
  simp [right, this]
theorem okB_true (c : UInt8) (h1 : 33 ≤ c.toNat) (h2 : c.toNat ≤ 126) : okB c = true := by simp [okB, h1, h2]
theorem okB_lo (c : UInt8) (h1 : c.toNat < 33) : okB c = false := by
  have : ¬ 33 ≤ c.toNat := by omega
  simp [okB, this]
theorem okB_hi (c : UInt8) (h1 : 126 < c.toNat) : okB c = false := by
  have : ¬ c.toNat ≤ 126 := by omega
  simp [okB, this]
theorem code_true : code true = 0 := rfl
theorem code_false : code false = 1 := rfl
end Go.Proofs.YtpklclnehlgcpaaGreat.KeyP
end
section
namespace Go.Proofs.YtpklclnehlgcpaaGreat.SlotP

/-- the empty slot -/
def none : Item := ⟨0, ByteArray.empty, CellP.none⟩
def same (x y : Item) : Bool := x.state == y.state && (x.key.toList == y.key.toList && CellP.same x.cell y.cell)
/-- may an item be? -/
def right (x : Item) : Bool := if x.state = 0 then same x none else ((x.state == 1 || x.state == 2) && (KeyP.right x.key.data.toList && CellP.right x.cell))
/-- what a slot begins with -/
def body (x : Item) : List UInt8 := [UInt8.ofNat x.state.toNat, UInt8.ofNat x.key.size] ++ (x.key.data.toList ++ CellP.bytes x.cell)
def zeros (n : Nat) : List UInt8 := List.replicate n 0
/-- the bytes of a slot -/
def bytes (x : Item) : List UInt8 := if x.state ≠ 0 ∧ right x = true then body x ++ zeros (64 - (body x).length) else zeros 64

theorem right_key (x : Item) (h0 : x.state ≠ 0) (hr : right x = true) : x.key.size ≤ 16 := by
  unfold right at hr
  rw [if_neg h0] at hr
  simp only [Bool.and_eq_true] at hr
  have := hr.2.1
  unfold KeyP.right at this
  simp at this
  exact this.2.2
theorem right_state (x : Item) (h0 : x.state ≠ 0) (hr : right x = true) : x.state = 1 ∨ x.state = 2 := by
  unfold right at hr
  rw [if_neg h0] at hr
  simp only [Bool.and_eq_true, Bool.or_eq_true, beq_iff_eq] at hr
  exact hr.1
theorem cell_le (c : Cell) : (CellP.bytes c).length ≤ 34 := by
  unfold CellP.bytes
  cases hr : CellP.right c
  · simp
  · by_cases hk : c.kind = 1
    · unfold CellP.right at hr
      rw [if_pos hk] at hr
      simp at hr
      simp [hk]
      omega
    · simp [hk, BeP.parts_length]
/-- bytes with others from a place on -/
def over (l : List UInt8) (off : Nat) (s : List UInt8) : List UInt8 := l.take off ++ (s ++ l.drop (off + s.length))
theorem over_append (p q s : List UInt8) (n : Nat) (h : p.length = n) : over (p ++ q) n s = p ++ (s ++ q.drop s.length) := by
  subst h
  unfold over
  rw [List.take_left, List.drop_append]
  simp
theorem zeros_drop (n m : Nat) : (zeros n).drop m = zeros (n - m) := by simp [zeros]
theorem over_length (l : List UInt8) (off : Nat) (s : List UInt8) (h : off + s.length ≤ l.length) : (over l off s).length = l.length := by
  simp [over]; omega
/-- as slot.Put lays the bytes -/
theorem put_list (x : Item) (h0 : x.state ≠ 0) (hr : right x = true) :
    over (over (((zeros 64).set 0 (UInt8.ofNat x.state.toNat)).set 1 (UInt8.ofNat x.key.size)) 2 x.key.data.toList) (2 + x.key.size) (CellP.bytes x.cell) = bytes x := by
  have hl : x.key.data.toList.length = x.key.size := Array.length_toList
  have hset : ((zeros 64).set 0 (UInt8.ofNat x.state.toNat)).set 1 (UInt8.ofNat x.key.size) = [UInt8.ofNat x.state.toNat, UInt8.ofNat x.key.size] ++ zeros 62 := rfl
  have h2 : ([UInt8.ofNat x.state.toNat, UInt8.ofNat x.key.size] ++ x.key.data.toList).length = 2 + x.key.size := by
    rw [List.length_append, hl]
    rfl
  unfold bytes
  rw [if_pos ⟨h0, hr⟩, hset, over_append _ _ _ 2 rfl, ← List.append_assoc, over_append _ _ _ _ h2, zeros_drop, zeros_drop, hl]
  unfold body
  simp only [List.append_assoc, List.length_append, hl, List.length_cons, List.length_nil]
  rw [show 62 - x.key.size - (CellP.bytes x.cell).length = 64 - (0 + 1 + 1 + (x.key.size + (CellP.bytes x.cell).length)) by omega]
theorem bytes_length (x : Item) : (bytes x).length = 64 := by
  unfold bytes
  split
  · rename_i h
    have hk := right_key x h.1 h.2
    have hc := cell_le x.cell
    have hl : x.key.data.toList.length = x.key.size := Array.length_toList
    simp only [body, zeros, List.length_append, List.length_replicate, List.length_cons, List.length_nil, hl]
    omega
  · simp [zeros]
end Go.Proofs.YtpklclnehlgcpaaGreat.SlotP
end
section
namespace Go.Proofs.YtpklclnehlgcpaaGreat
set_option linter.unusedVariables false
set_option linter.unusedSimpArgs false
namespace DiffP
/-- the runs so far; where the open one begins and ends -/
structure St where
  out : List RunX
  from_ : Nat
  to : Nat
def cutRun (b : List UInt8) (lo hi : Nat) : RunX := ⟨(lo : Nat), (b.drop lo).take (hi - lo)⟩
def cut (b : List UInt8) (s : St) : List RunX := if s.from_ < s.to then s.out ++ [cutRun b s.from_ s.to] else s.out
def place (i : Nat) : Nat := 12 + i % 500
def opens (s : St) (p : Nat) : Bool := s.to == 0 || decide (4 < p - s.to)
def step (b : List UInt8) (s : St) (i : Nat) : St := if opens s (place i) then ⟨cut b s, place i, place i + 1⟩ else ⟨s.out, s.from_, place i + 1⟩
def run (b : List UInt8) (l : List Nat) : St := l.foldl (step b) ⟨[], 0, 0⟩
def unlike (a b : List UInt8) (i : Nat) : Bool := a[12 + i]? != b[12 + i]?
def places (a b : List UInt8) (k : Nat) : List Nat := (List.range k).filter (unlike a b)
def st (a b : List UInt8) (k : Nat) : St := run b (places a b k)
def diff (a b : List UInt8) : List RunX := cut b (st a b 500)
theorem run_snoc (b : List UInt8) (l : List Nat) (i : Nat) : run b (l ++ [i]) = step b (run b l) i := by unfold run; rw [List.foldl_append]; rfl
theorem places_eq {a b : List UInt8} {k : Nat} (h : unlike a b k = false) : places a b (k + 1) = places a b k := by
  unfold places; rw [List.range_succ, List.filter_append]; simp [h]
theorem places_ne {a b : List UInt8} {k : Nat} (h : unlike a b k = true) : places a b (k + 1) = places a b k ++ [k] := by
  unfold places; rw [List.range_succ, List.filter_append]; simp [h]
theorem places_len (a b : List UInt8) (k : Nat) : (places a b k).length ≤ k := Nat.le_trans (List.length_filter_le _ _) (by simp)
theorem place_lt (i : Nat) : 12 ≤ place i ∧ place i < 512 := by unfold place; omega
theorem place_of {i : Nat} (h : i < 500) : place i = 12 + i := by unfold place; omega
theorem st_zero (a b : List UInt8) : st a b 0 = ⟨[], 0, 0⟩ := rfl
theorem st_eq {a b : List UInt8} {k : Nat} (h : unlike a b k = false) : st a b (k + 1) = st a b k := by unfold st; rw [places_eq h]
theorem st_ne {a b : List UInt8} {k : Nat} (h : unlike a b k = true) : st a b (k + 1) = step b (st a b k) k := by unfold st; rw [places_ne h, run_snoc]
/-- what holds of any list of places -/
theorem step_in (b : List UInt8) (s : St) (i n : Nat) (h : (s.to ≤ 512 ∧ s.from_ ≤ 512) ∧ s.out.length ≤ n) : ((step b s i).to ≤ 512 ∧ (step b s i).from_ ≤ 512) ∧ (step b s i).out.length ≤ n + 1 := by
  obtain ⟨⟨h1, h2⟩, h3⟩ := h
  have hp := place_lt i
  unfold step
  split
  · refine ⟨⟨by show place i + 1 ≤ 512; omega, by show place i ≤ 512; omega⟩, ?_⟩
    show (cut b s).length ≤ _
    unfold cut
    split
    · rw [List.length_append, List.length_singleton]; omega
    · omega
  · exact ⟨⟨by show place i + 1 ≤ 512; omega, h2⟩, by show s.out.length ≤ _; omega⟩
theorem fold_in (b : List UInt8) : ∀ (l : List Nat) (s : St) (n : Nat), ((s.to ≤ 512 ∧ s.from_ ≤ 512) ∧ s.out.length ≤ n) → (((l.foldl (step b) s).to ≤ 512 ∧ (l.foldl (step b) s).from_ ≤ 512) ∧ (l.foldl (step b) s).out.length ≤ n + l.length)
  | [], s, n, h => h
  | i :: l, s, n, h => by
    have := fold_in b l (step b s i) (n + 1) (step_in b s i n h)
    rw [List.foldl_cons, List.length_cons]
    exact ⟨this.1, by omega⟩
theorem run_in (b : List UInt8) (l : List Nat) : ((run b l).to ≤ 512 ∧ (run b l).from_ ≤ 512) ∧ (run b l).out.length ≤ l.length := by
  have := fold_in b l ⟨[], 0, 0⟩ 0 ⟨⟨Nat.zero_le _, Nat.zero_le _⟩, Nat.le_refl _⟩
  rwa [Nat.zero_add] at this
theorem cutRun_len {b : List UInt8} (hb : b.length = 512) {lo hi : Nat} (h : hi ≤ 512) : (cutRun b lo hi).data.length = hi - lo := by
  show ((b.drop lo).take (hi - lo)).length = _
  rw [List.length_take, List.length_drop]; omega
/-- what holds behind the first k places; `lo ..` is where the pages are unlike -/
structure Inv (a b : List UInt8) (lo k : Nat) (s : St) : Prop where
  z : (s.to = 0 ∧ s.from_ = 0 ∧ s.out = []) ∨ (12 ≤ s.from_ ∧ lo ≤ s.from_ ∧ s.from_ < s.to ∧ s.to ≤ 12 + k)
  runs : ∀ r ∈ s.out, ∃ l h, r = cutRun b l h ∧ 12 ≤ l ∧ l < h ∧ h + 5 ≤ s.from_
  cov : ∀ i, i < k → unlike a b i = true → (s.from_ ≤ 12 + i ∧ 12 + i < s.to) ∨ ∃ l h, cutRun b l h ∈ s.out ∧ l ≤ 12 + i ∧ 12 + i < h ∧ h ≤ 512
  cost : (PatchP.runsB s.out).length + s.out.length + lo ≤ s.from_ ∨ s.out = []
theorem inv (a b : List UInt8) (hb : b.length = 512) (lo : Nat) (hlo : ∀ i, i < 500 → unlike a b i = true → lo ≤ 12 + i) : ∀ k, k ≤ 500 → Inv a b lo k (st a b k)
  | 0, _ => ⟨.inl ⟨rfl, rfl, rfl⟩, (fun r hr => by cases hr), (fun i hi => by omega), .inr rfl⟩
  | k + 1, hk => by
    have ih := inv a b hb lo hlo k (by omega)
    cases hu : unlike a b k with
    | false =>
      rw [st_eq hu]
      refine ⟨?_, ih.runs, fun i hi hui => ?_, ih.cost⟩
      · rcases ih.z with h | h
        · exact .inl h
        · exact .inr (by omega)
      · by_cases hik : i = k
        · subst hik; rw [hu] at hui; cases hui
        · exact ih.cov i (by omega) hui
    | true =>
      rw [st_ne hu]
      have hp : place k = 12 + k := place_of (by omega)
      have hl := hlo k (by omega) hu
      cases ho : opens (st a b k) (place k) with
      | false =>
        have ho' := ho
        unfold opens at ho
        rw [hp] at ho
        have h1 : ¬ (st a b k).to = 0 := by intro h; simp [h] at ho
        have hz := ih.z.resolve_left fun h => h1 h.1
        have hs : step b (st a b k) k = ⟨(st a b k).out, (st a b k).from_, 12 + k + 1⟩ := by unfold step; rw [ho', hp]; rfl
        rw [hs]
        refine ⟨.inr ⟨hz.1, hz.2.1, by show (st a b k).from_ < 12 + k + 1; omega, by show 12 + k + 1 ≤ 12 + (k + 1); omega⟩, ih.runs, fun i hi hui => ?_, ih.cost⟩
        by_cases hik : i = k
        · subst hik; exact .inl ⟨by show (st a b i).from_ ≤ 12 + i; omega, by show 12 + i < 12 + i + 1; omega⟩
        · rcases ih.cov i (by omega) hui with h | h
          · exact .inl ⟨h.1, by show 12 + i < 12 + k + 1; omega⟩
          · exact .inr h
      | true =>
        have hs : step b (st a b k) k = ⟨cut b (st a b k), 12 + k, 12 + k + 1⟩ := by unfold step; rw [ho, hp]; rfl
        rw [hs]
        unfold opens at ho
        rw [hp] at ho
        rcases ih.z with ⟨h1, h2, h3⟩ | hz
        · have hc : cut b (st a b k) = [] := by unfold cut; rw [h1, h2, h3]; rfl
          rw [hc]
          refine ⟨.inr ⟨by show 12 ≤ 12 + k; omega, hl, by show 12 + k < 12 + k + 1; omega, by show 12 + k + 1 ≤ _; omega⟩, (fun r hr => by cases hr), fun i hi hui => ?_, .inr rfl⟩
          by_cases hik : i = k
          · subst hik; exact .inl ⟨by show 12 + i ≤ _; omega, by show _ < 12 + i + 1; omega⟩
          · rcases ih.cov i (by omega) hui with h | ⟨l, h, hm, -⟩
            · omega
            · rw [h3] at hm; cases hm
        · have h5 : (st a b k).to + 5 ≤ 12 + k := by
            have : ((st a b k).to == 0) = false := by simp; omega
            rw [this] at ho
            simp at ho
            omega
          have hc : cut b (st a b k) = (st a b k).out ++ [cutRun b (st a b k).from_ (st a b k).to] := by unfold cut; rw [if_pos hz.2.2.1]
          rw [hc]
          refine ⟨.inr ⟨by show 12 ≤ 12 + k; omega, hl, by show 12 + k < 12 + k + 1; omega, by show 12 + k + 1 ≤ _; omega⟩, fun r hr => ?_, fun i hi hui => ?_, .inl ?_⟩
          · rcases List.mem_append.1 hr with h | h
            · obtain ⟨l, h', e, q1, q2, q3⟩ := ih.runs r h
              exact ⟨l, h', e, q1, q2, by show _ ≤ 12 + k; omega⟩
            · rw [List.mem_singleton.1 h]
              exact ⟨_, _, rfl, hz.1, hz.2.2.1, by show _ ≤ 12 + k; omega⟩
          · by_cases hik : i = k
            · subst hik; exact .inl ⟨by show 12 + i ≤ _; omega, by show _ < 12 + i + 1; omega⟩
            · rcases ih.cov i (by omega) hui with h | ⟨l, h, hm, q⟩
              · exact .inr ⟨_, _, List.mem_append.2 (.inr (List.mem_singleton.2 rfl)), h.1, h.2, by omega⟩
              · exact .inr ⟨l, h, List.mem_append.2 (.inl hm), q⟩
          · show _ ≤ 12 + k
            have e1 : (PatchP.runsB ((st a b k).out ++ [cutRun b (st a b k).from_ (st a b k).to])).length = (PatchP.runsB (st a b k).out).length + (4 + ((st a b k).to - (st a b k).from_)) := by
              unfold PatchP.runsB
              rw [List.flatMap_append, List.length_append]
              simp [PatchP.runB_length, cutRun_len hb (show (st a b k).to ≤ 512 by omega)]
            rw [e1, List.length_append, List.length_singleton]
            rcases ih.cost with h | h
            · omega
            · rw [h]
              have : (PatchP.runsB []).length = 0 := rfl
              rw [this]
              simp only [List.length_nil]
              omega
/-! the reference: the runs with the open one behind them, the last place -/
def last (s : St) : Int := if s.to = 0 then -9 else (s.to : Int) - 1
theorem opens_last (s : St) (i : Nat) (hi : i < 500) : opens s (place i) = decide ((5 : Int) < ((12 + i : Nat) : Int) - last s) := by
  rw [place_of hi]
  unfold opens last
  by_cases h : s.to = 0
  · rw [if_pos h, h]
    simp
    omega
  · rw [if_neg h, Bool.eq_iff_iff]
    simp [h]
    omega
theorem last_step {b : List UInt8} {s : St} {i : Nat} (hi : i < 500) : last (step b s i) = ((12 + i : Nat) : Int) := by
  unfold step
  rw [place_of hi]
  split <;> (unfold last; simp)
theorem cut_opens {b : List UInt8} {s : St} {i : Nat} {x : UInt8} (hi : i < 500) (h : opens s (place i) = true) (hx : b[12 + i]? = some x) : cut b (step b s i) = cut b s ++ [⟨((12 + i : Nat) : Int), [x]⟩] := by
  unfold step
  rw [h, place_of hi]
  show cut b ⟨cut b s, 12 + i, 12 + i + 1⟩ = _
  have : cut b ⟨cut b s, 12 + i, 12 + i + 1⟩ = cut b s ++ [cutRun b (12 + i) (12 + i + 1)] := by
    rw [cut.eq_1 b ⟨cut b s, 12 + i, 12 + i + 1⟩]
    exact if_pos (Nat.lt_succ_self _)
  rw [this]
  unfold cutRun
  rw [show 12 + i + 1 - (12 + i) = 1 by omega]
  have hd : (b.drop (12 + i)).take 1 = [x] := by
    obtain ⟨hl, e⟩ := List.getElem?_eq_some_iff.1 hx
    rw [List.drop_eq_getElem_cons hl, e]
    rfl
  rw [hd]
theorem cut_goes {a b : List UInt8} {lo k : Nat} (h : Inv a b lo k (st a b k)) (hk : k < 500) (ho : opens (st a b k) (place k) = false) :
    12 ≤ (st a b k).from_ ∧ (st a b k).from_ < 12 + k + 1 ∧ cut b (st a b k) = (st a b k).out ++ [cutRun b (st a b k).from_ (st a b k).to] ∧ cut b (step b (st a b k) k) = (st a b k).out ++ [cutRun b (st a b k).from_ (12 + k + 1)] := by
  have h1 : ¬ (st a b k).to = 0 := by intro h; unfold opens at ho; simp [h] at ho
  have hz := h.z.resolve_left fun h => h1 h.1
  refine ⟨hz.1, by omega, by unfold cut; rw [if_pos hz.2.2.1], ?_⟩
  have hs : step b (st a b k) k = ⟨(st a b k).out, (st a b k).from_, 12 + k + 1⟩ := by unfold step; rw [ho, place_of hk]; rfl
  rw [hs]
  show (if (st a b k).from_ < 12 + k + 1 then _ else _) = _
  rw [if_pos (by omega)]
/-! what comes of writing them -/
def put (p : List UInt8) (r : RunX) : List UInt8 := SlotP.over p r.at_.toNat r.data
noncomputable def apply (p : List UInt8) : List RunX → List UInt8 × Int
  | [] => (p, 0)
  | r :: l => if PatchP.within r then apply (put p r) l else (SlotP.zeros 512, 2)
theorem over_get {l s : List UInt8} {o i : Nat} (h : o + s.length ≤ l.length) : (SlotP.over l o s)[i]? = if o ≤ i ∧ i < o + s.length then s[i - o]? else l[i]? := by
  unfold SlotP.over
  by_cases h1 : i < o
  · rw [List.getElem?_append_left (by rw [List.length_take]; omega), List.getElem?_take_of_lt h1, if_neg (by omega)]
  · rw [List.getElem?_append_right (by rw [List.length_take]; omega), List.length_take, Nat.min_eq_left (by omega)]
    by_cases h2 : i < o + s.length
    · rw [List.getElem?_append_left (by omega), if_pos (by omega)]
    · rw [List.getElem?_append_right (by omega), List.getElem?_drop, if_neg (by omega)]
      congr 1
      omega
theorem apply_cuts {b : List UInt8} (hb : b.length = 512) : ∀ (l : List RunX) (p : List UInt8), p.length = 512 → (∀ r ∈ l, ∃ lo hi, r = cutRun b lo hi ∧ 12 ≤ lo ∧ lo < hi ∧ hi ≤ 512) →
    ∃ q, apply p l = (q, 0) ∧ q.length = 512 ∧ (∀ i : Nat, q[i]? = b[i]? ∨ q[i]? = p[i]?) ∧ ∀ lo hi i : Nat, cutRun b lo hi ∈ l → lo ≤ i → i < hi → hi ≤ 512 → q[i]? = b[i]?
  | [], p, hp, h => ⟨p, rfl, hp, fun i => .inr rfl, fun lo hi i hm => by cases hm⟩
  | r :: l, p, hp, h => by
    obtain ⟨lo, hi, e, h1, h2, h3⟩ := h r (List.mem_cons_self ..)
    have hlen := cutRun_len hb (lo := lo) h3
    have hw : PatchP.within r = true := PatchP.within_yes r ⟨by rw [e, hlen]; omega, by rw [e]; show (12 : Int) ≤ (lo : Int); omega, by
      rw [e]; unfold PatchP.stop; rw [hlen]; show (lo : Int) + ((hi - lo : Nat) : Int) ≤ 512; omega⟩
    have hat : r.at_.toNat = lo := by rw [e]; show ((lo : Nat) : Int).toNat = lo; omega
    have hput : ∀ i : Nat, (put p r)[i]? = if lo ≤ i ∧ i < hi then b[i]? else p[i]? := fun i => by
      unfold put
      rw [hat, over_get (by rw [e, hlen]; omega), e, hlen]
      by_cases hc : lo ≤ i ∧ i < hi
      · rw [if_pos (by omega), if_pos hc]
        show ((b.drop lo).take (hi - lo))[i - lo]? = _
        rw [List.getElem?_take_of_lt (by omega), List.getElem?_drop]
        congr 1
        omega
      · rw [if_neg (by omega), if_neg hc]
    have hpl : (put p r).length = 512 := by
      unfold put
      rw [SlotP.over_length _ _ _ (by rw [hat, e, hlen]; omega)]
      exact hp
    obtain ⟨q, hq, hql, hq1, hq2⟩ := apply_cuts hb l (put p r) hpl (fun r' hr' => h r' (List.mem_cons_of_mem _ hr'))
    refine ⟨q, by unfold apply; rw [hw]; exact hq, hql, fun i => ?_, fun l' h2' i hm i1 i2 i3 => ?_⟩
    · rcases hq1 i with h' | h'
      · exact .inl h'
      · rw [h', hput]
        split
        · exact .inl rfl
        · exact .inr rfl
    · rcases List.mem_cons.1 hm with em | hm
      · rcases hq1 i with h' | h'
        · exact h'
        · rw [h', hput]
          have hx := congrArg RunX.at_ (em.trans e)
          have hy : (cutRun b l' h2').data.length = (cutRun b lo hi).data.length := by rw [em.trans e]
          have hx' : ((l' : Nat) : Int) = (lo : Nat) := hx
          rw [cutRun_len hb i3, cutRun_len hb h3] at hy
          rw [if_pos (by omega)]
      · exact hq2 l' h2' i hm i1 i2 i3
theorem cut_in {a b : List UInt8} {lo k : Nat} {s : St} (h : Inv a b lo k s) (hk : k ≤ 500) : ∀ r ∈ cut b s, ∃ l h, r = cutRun b l h ∧ 12 ≤ l ∧ l < h ∧ h ≤ 512 := by
  intro r hr
  have h1 := h.z
  unfold cut at hr
  split at hr
  · rename_i hlt
    rcases List.mem_append.1 hr with hr | hr
    · obtain ⟨l, hh, e, q1, q2, q3⟩ := h.runs r hr
      exact ⟨l, hh, e, q1, q2, by omega⟩
    · rw [List.mem_singleton.1 hr]
      exact ⟨_, _, rfl, by omega, hlt, by omega⟩
  · obtain ⟨l, hh, e, q1, q2, q3⟩ := h.runs r hr
    exact ⟨l, hh, e, q1, q2, by omega⟩
theorem apply_diff {a b : List UInt8} (ha : a.length = 512) (hb : b.length = 512) (hs : ∀ i, i < 12 → a[i]? = b[i]?) : apply a (diff a b) = (b, 0) := by
  have h := inv a b hb 0 (fun i _ _ => Nat.zero_le _) 500 (Nat.le_refl _)
  obtain ⟨q, hq, hql, hq1, hq2⟩ := apply_cuts hb (diff a b) a ha (cut_in h (Nat.le_refl _))
  suffices e : q = b by rw [hq, e]
  apply List.ext_getElem?
  intro i
  by_cases h1 : i < 12
  · rcases hq1 i with e | e
    · exact e
    · rw [e]; exact hs i h1
  · by_cases h2 : i < 512
    · cases hu : unlike a b (i - 12) with
      | false =>
        unfold unlike at hu
        have e2 : a[i]? = b[i]? := by
          rw [show 12 + (i - 12) = i by omega] at hu
          simpa using hu
        rcases hq1 i with e | e
        · exact e
        · rw [e, e2]
      | true =>
        have hz := h.z
        rcases h.cov (i - 12) (by omega) hu with hc | ⟨l, hh, hm, q1, q2, q3⟩
        · have hm : cutRun b (st a b 500).from_ (st a b 500).to ∈ diff a b := by
            unfold diff cut
            rw [if_pos (by omega)]
            exact List.mem_append.2 (.inr (List.mem_singleton.2 rfl))
          exact hq2 _ _ i hm (by omega) (by omega) (by omega)
        · have hm : cutRun b l hh ∈ diff a b := by
            unfold diff cut
            split
            · exact List.mem_append.2 (.inl hm)
            · exact hm
          exact hq2 _ _ i hm (by omega) (by omega) q3
    · rw [List.getElem?_eq_none (by omega), List.getElem?_eq_none (by omega)]
theorem to_hi {a b : List UInt8} {hi : Nat} (hhi : ∀ i, i < 500 → unlike a b i = true → 12 + i < hi) : ∀ k, k ≤ 500 → (st a b k).to ≤ hi
  | 0, _ => Nat.zero_le _
  | k + 1, hk => by
    cases hu : unlike a b k with
    | false => rw [st_eq hu]; exact to_hi hhi k (by omega)
    | true =>
      have := hhi k (by omega) hu
      rw [st_ne hu]
      unfold step
      rw [place_of (by omega)]
      split
      · show 12 + k + 1 ≤ hi; omega
      · show 12 + k + 1 ≤ hi; omega
theorem diff_cost {a b : List UInt8} (hb : b.length = 512) {lo hi : Nat} (hlh : lo ≤ hi) (h12 : ∀ i, i < 500 → unlike a b i = true → lo ≤ 12 + i ∧ 12 + i < hi) : (PatchP.runsB (diff a b)).length ≤ hi - lo + 4 := by
  have h := inv a b hb lo (fun i q1 q2 => (h12 i q1 q2).1) 500 (Nat.le_refl _)
  have ht := to_hi (fun i q1 q2 => (h12 i q1 q2).2) 500 (Nat.le_refl _)
  have hc := h.cost
  have hz := h.z
  unfold diff cut
  split
  · rename_i hlt
    have e1 : (PatchP.runsB ((st a b 500).out ++ [cutRun b (st a b 500).from_ (st a b 500).to])).length = (PatchP.runsB (st a b 500).out).length + (4 + ((st a b 500).to - (st a b 500).from_)) := by
      unfold PatchP.runsB
      rw [List.flatMap_append, List.length_append]
      simp [PatchP.runB_length, cutRun_len hb (show (st a b 500).to ≤ 512 by omega)]
    rw [e1]
    rcases hc with hc | hc
    · omega
    · rw [hc]
      have : (PatchP.runsB []).length = 0 := rfl
      omega
  · rename_i hlt
    rcases hz with hz | hz
    · rw [hz.2.2]; exact Nat.zero_le _
    · omega
end DiffP
end Go.Proofs.YtpklclnehlgcpaaGreat
end
section
namespace Go.Proofs.YtpklclnehlgcpaaGreat.CellP

/-- the second byte, as a number -/
def len1 (l : List UInt8) : Nat := (l.getD 1 0).toNat
/-- the cell with which bytes begin, how many bytes it takes, the error's number -/
def get (l : List UInt8) : Cell × Int × Int :=
  if l.length < 1 then (none, 0, 13)
  else if NumP.val l 0 1 = 1 then
    (if l.length < 2 ∨ l.length < 2 + len1 l then (none, 0, 13) else if 32 < len1 l then (none, 0, 12) else (⟨1, (l.drop 2).take (len1 l), 0, 0, 0⟩, 2 + (len1 l : Int), 0))
  else if NumP.val l 0 1 = 2 then
    (if l.length < 25 then (none, 0, 13) else if NumP.val l 1 8 ≤ NumP.val l 17 8 ∧ NumP.val l 17 8 ≤ NumP.val l 9 8 then (⟨2, [], NumP.val l 1 8, NumP.val l 9 8, NumP.val l 17 8⟩, 25, 0) else (none, 0, 12))
  else (none, 0, 12)

theorem val_in (l : List UInt8) (a width : Nat) (h : width ≤ 8) : In64 (NumP.val l a width) := by
  unfold NumP.val
  split
  · exact NumP.toI_in _ (NumP.num_lt8 _ (by simp; omega))
  · unfold In64; omega
end Go.Proofs.YtpklclnehlgcpaaGreat.CellP
end
section
namespace Go.Proofs.YtpklclnehlgcpaaGreat.SlotP

/-- bytes as a text -/
def text (l : List UInt8) : ByteArray := ⟨l.toArray⟩
/-- the item that bytes seem to be -/
def seem (l : List UInt8) : Item := ⟨((l.getD 0 0).toNat : Int), text ((l.drop 2).take (l.getD 1 0).toNat), (CellP.get (l.drop (2 + (l.getD 1 0).toNat))).1⟩
/-- is it one? -/
def good (l : List UInt8) : Bool := decide ((l.getD 1 0).toNat ≤ 16) && ((CellP.get (l.drop (2 + (l.getD 1 0).toNat))).2.2 == 0 && (right (seem l) && (bytes (seem l) == l)))
/-- the item of which bytes are, and the error's number -/
def get (l : List UInt8) : Item × Int := if l = zeros 64 then (none, 0) else if good l = true then (seem l, 0) else (none, 12)

theorem text_of (s : ByteArray) : text s.data.toList = s := by
  obtain ⟨⟨l⟩⟩ := s
  rfl
theorem bytearray_ext {a b : ByteArray} (h : a.toList = b.toList) : a = b := by
  have h2 : a.data.toList = b.data.toList := by
    rw [ByteArray.toList_eq, ByteArray.toList_eq] at h
    exact h
  rw [← text_of a, ← text_of b, h2]
theorem cell_same {c d : Cell} (h : CellP.same c d = true) : c = d := by
  obtain ⟨k, l, lo, hi, v⟩ := c
  obtain ⟨k', l', lo', hi', v'⟩ := d
  simp [CellP.same] at h
  obtain ⟨rfl, rfl, rfl, rfl, rfl⟩ := h
  rfl
theorem same_eq {x y : Item} (h : same x y = true) : x = y := by
  obtain ⟨s, k, c⟩ := x
  obtain ⟨s', k', c'⟩ := y
  unfold same at h
  simp only [Bool.and_eq_true, beq_iff_eq] at h
  obtain ⟨rfl, h2, h3⟩ := h
  obtain rfl := bytearray_ext h2
  obtain rfl := cell_same h3
  rfl
theorem same_self (x : Item) : same x x = true := by simp [same, CellP.same]
/-- numbers that may be -/
def In (x : Item) : Prop := In64 x.state ∧ In64 x.cell.kind ∧ In64 x.cell.lo ∧ In64 x.cell.hi ∧ In64 x.cell.val
theorem bytes_full (x : Item) (h0 : x.state ≠ 0) (hr : right x = true) : bytes x = UInt8.ofNat x.state.toNat :: UInt8.ofNat x.key.size :: (x.key.data.toList ++ (CellP.bytes x.cell ++ zeros (64 - (body x).length))) := by
  unfold bytes
  rw [if_pos ⟨h0, hr⟩]
  simp [body]
theorem body_len (x : Item) (h0 : x.state ≠ 0) (hr : right x = true) : (body x).length ≤ 64 := by
  have hk := right_key x h0 hr
  have hc := cell_le x.cell
  have hl : x.key.data.toList.length = x.key.size := Array.length_toList
  simp only [body, List.length_append, List.length_cons, List.length_nil, hl]
  omega
end Go.Proofs.YtpklclnehlgcpaaGreat.SlotP
end
section
namespace Go.Proofs.YtpklclnehlgcpaaGreat.CrcP

/-- what a bit's step makes of a sum -/
def bit (v : Nat) : Nat := if v % 2 = 1 then v / 2 ^^^ 2197175160 else v / 2
def bits : Nat → Nat → Nat
  | 0, v => v
  | k + 1, v => bits k (bit v)
/-- eight steps -/
def step8 (v : Nat) : Nat := bits 8 v
/-- a byte's round -/
def round (v : Nat) (c : UInt8) : Nat := step8 (v ^^^ c.toNat)
def more (sum : Nat) (l : List UInt8) : Nat := 4294967295 - l.foldl round (4294967295 - sum)
/-- the sum of bytes -/
def sum (l : List UInt8) : Nat := more 0 l

theorem bit_lt (v : Nat) (h : v < 4294967296) : bit v < 4294967296 := by
  unfold bit
  split
  · have : v / 2 ^^^ 2197175160 < 2 ^ 32 := Nat.xor_lt_two_pow (by omega) (by omega)
    omega
  · omega
theorem bits_lt (k v : Nat) (h : v < 4294967296) : bits k v < 4294967296 := by
  induction k generalizing v with
  | zero => exact h
  | succ k ih => exact ih _ (bit_lt v h)
theorem step8_lt (v : Nat) (h : v < 4294967296) : step8 v < 4294967296 := bits_lt 8 v h
theorem xor_byte_lt (v : Nat) (h : v < 4294967296) (c : UInt8) : v ^^^ c.toNat < 4294967296 := by
  have hc := c.toNat_lt
  have : v ^^^ c.toNat < 2 ^ 32 := Nat.xor_lt_two_pow (by omega) (by omega)
  omega
theorem round_lt (v : Nat) (h : v < 4294967296) (c : UInt8) : round v c < 4294967296 := step8_lt _ (xor_byte_lt v h c)
theorem fold_lt (l : List UInt8) (v : Nat) (h : v < 4294967296) : l.foldl round v < 4294967296 := by
  induction l generalizing v with
  | nil => exact h
  | cons c l ih => exact ih _ (round_lt v h c)

theorem sum_lt (l : List UInt8) : sum l < 4294967296 := by
  unfold sum more
  omega
end Go.Proofs.YtpklclnehlgcpaaGreat.CrcP
end
section
namespace Go.Proofs.YtpklclnehlgcpaaGreat.PageP

/-- a slot of a page, and the error's number -/
def slot (l : List UInt8) (i : Int) : Item × Int := if i < 0 ∨ 7 ≤ i then (SlotP.none, 2) else SlotP.get ((l.drop (32 + i.toNat * 64)).take 64)
/-- a page with another slot -/
def withSlot (l : List UInt8) (i : Int) (x : Item) : List UInt8 := if i < 0 ∨ 7 ≤ i then l else SlotP.over l (32 + i.toNat * 64) (SlotP.bytes x)
theorem withSlot_length (l : List UInt8) (hl : l.length = 512) (i : Int) (x : Item) : (withSlot l i x).length = 512 := by
  unfold withSlot
  split
  · exact hl
  · rw [SlotP.over_length _ _ _ (by rw [SlotP.bytes_length]; omega)]
    exact hl
/-- all these are 0 -/
def allz (l : List UInt8) : Bool := l.all fun c => c == 0
/-- the first k slots are some -/
def slotsOk (l : List UInt8) : Nat → Bool
  | 0 => true
  | k + 1 => slotsOk l k && ((slot l (k : Int)).2 == 0)
def right (l : List UInt8) (no : Int) : Bool :=
  (NumP.val l 0 4 == ((CrcP.sum (l.drop 4) : Nat) : Int)) && ((NumP.val l 12 2 == no) && (allz ((l.drop 24).take 8) && (allz (l.drop 480) && slotsOk l 7)))
theorem right_eq (l : List UInt8) (no : Int) : right l no = ((NumP.val l 0 4 == ((CrcP.sum (l.drop 4) : Nat) : Int)) && ((NumP.val l 12 2 == no) && (allz ((l.drop 24).take 8) && (allz (l.drop 480) && slotsOk l 7)))) := rfl
def code (b : Bool) : Int := if b then 0 else 14
end Go.Proofs.YtpklclnehlgcpaaGreat.PageP
end
