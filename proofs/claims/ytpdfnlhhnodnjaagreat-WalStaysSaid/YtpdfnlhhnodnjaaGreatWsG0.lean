/-
  Parts of the proof of WalStays.
-/
import Derived.WalkKit
import Derived.WalkSpells
import Derived.WalkLawsBesides
import Derived.Lib.Hide
import Derived.Deep.Draws
import Derived.Deep.QuietTactic
import Derived.BigQuiet
import Derived.Test.YtpdfnlhhnodnjaaGreatProg
import Derived.ProofKit
import Derived.OpenShut
import Derived.ShutString
import Derived.ChangeOld
import Derived.Laws.BitsAllLaws
import Derived.Laws.IdiomStrings
import Derived.Laws.BytesString
import Derived.Lib.BufferRead
import Derived.Laws.CopyOwn
import Derived.Laws.IdiomCopy
import Derived.Maps.AppendAt
import Derived.Deep.AppendLies
section
namespace Go.Proofs.YtpdfnlhhnodnjaaGreat

/-- what a key has -/
structure Cell where
  kind : Int
  data : List UInt8
  lo : Int
  hi : Int
  val : Int

/-- an operation -/
structure OpX where
  act : Int
  key : ByteArray
  data : List UInt8
  lo : Int
  hi : Int
  n : Int

/-- a slot -/
structure Item where
  state : Int
  key : ByteArray
  cell : Cell

/-- how an operation is taken back -/
structure Undo where
  act : Int
  key : ByteArray
  item : Item
  n : Int

/-- a number of 64 bits -/
def In64 (n : Int) : Prop := -9223372036854775808 ≤ n ∧ n ≤ 9223372036854775807
end Go.Proofs.YtpdfnlhhnodnjaaGreat
end
section
namespace Go.Proofs.YtpdfnlhhnodnjaaGreat
open Go.RowKit

/-- one call behind another: nothing that lay before the first has turned -/
theorem bstep {a b c : World} (h : Below a.heap.size a b) (k : Below b.heap.size b c) : Below a.heap.size a c := h.trans (k.mono h.size)
theorem bsame (a : World) : Below a.heap.size a a := Below.refl _ _
theorem bdrewN {B : Nat} {a w : World} (h : Below B a w) (n : Nat) : Below B a (w.drewN n) := ⟨h.os, h.tape, h.output, h.size, h.block⟩
theorem balloc {a b : World} (h : Below a.heap.size a b) (o : Obj) : Below a.heap.size a (b.alloc o) := h.alloc h.size o
/-- what lay before a call reads behind it as it did: as rules for the walk -/
theorem bcell {W w1 : World} (hb : Below W.heap.size W w1) : (∀ b o, b < W.heap.size → w1.cell? ⟨b, o, none⟩ = W.cell? ⟨b, o, none⟩) ∧ (∀ b o, b < W.heap.size → w1.frozen? ⟨b, o, none⟩ = W.frozen? ⟨b, o, none⟩) :=
  ⟨fun b o h => hb.cell (p := ⟨b, o, none⟩) h, fun b o h => hb.frozen (p := ⟨b, o, none⟩) h⟩
theorem lt_of_cell {w : World} {a : Addr} {v : Value} (h : w.cell? a = some v) : a.block < w.heap.size := by
  rcases Nat.lt_or_ge a.block w.heap.size with hl | hg
  · exact hl
  · unfold World.cell? at h
    rw [Array.getElem?_eq_none hg] at h
    cases h
/-- a byte as a value -/
def byteV (b : UInt8) : Value := .int .u8 (b.toNat : Int)
theorem byteV_one (l : List UInt8) : ∀ v ∈ l.map byteV, v.oneCell' = true := by
  intro v hv
  obtain ⟨b, _, rfl⟩ := List.mem_map.1 hv
  rfl
/-- so many zero bytes -/
def zerosV (n : Nat) : List Value := List.replicate n (.int .u8 0)
theorem zerosV_length (n : Nat) : (zerosV n).length = n := by simp [zerosV]
/-- the slice (A, n, c) reads as the bytes l, all below block B; nil and empty slices let in -/
def Bytes (w : World) (B : Nat) (A : Option Addr) (n c : Nat) (l : List UInt8) : Prop :=
  l.length = n ∧ n ≤ c ∧ c ≤ maxLen ∧ (0 < n → ∃ b o, A = some ⟨b, o, none⟩ ∧ b < B ∧ ∀ j u, l[j]? = some u → w.cell? ⟨b, o + j, none⟩ = some (byteV u))

section
variable {w w' : World} {B B' n c : Nat} {A : Option Addr} {l : List UInt8}
theorem Bytes.none_ (w : World) (B : Nat) : Bytes w B none 0 0 [] := ⟨rfl, Nat.le_refl _, by unfold maxLen; omega, fun h => absurd h (by omega)⟩
theorem Bytes.keep (h : Bytes w B A n c l) (hk : ∀ p : Addr, p.block < B → w'.cell? p = w.cell? p) : Bytes w' B A n c l :=
  ⟨h.1, h.2.1, h.2.2.1, fun hn => by
    obtain ⟨b, o, e, hb, hc⟩ := h.2.2.2 hn
    exact ⟨b, o, e, hb, fun j u hu => (hk _ hb).trans (hc j u hu)⟩⟩
theorem Bytes.more (h : Bytes w B A n c l) (hB : B ≤ B') : Bytes w B' A n c l :=
  ⟨h.1, h.2.1, h.2.2.1, fun hn => by
    obtain ⟨b, o, e, hb, hc⟩ := h.2.2.2 hn
    exact ⟨b, o, e, by omega, hc⟩⟩
theorem Bytes.below (h : Bytes w B A n c l) (hb : Below B w w') : Bytes w' B A n c l := h.keep fun _ hp => hb.cell hp
/-- a slice that was there lies there behind a call -/
theorem Bytes.next (h : Bytes w w.heap.size A n c l) (hb : Below w.heap.size w w') : Bytes w' w'.heap.size A n c l := (h.below hb).more hb.size
theorem Bytes.drewN (h : Bytes w B A n c l) (k : Nat) : Bytes (w.drewN k) B A n c l := h
theorem Bytes.alloc (h : Bytes w B A n c l) (hB : B ≤ w.heap.size) (o : Obj) : Bytes (w.alloc o) B A n c l := h.keep fun p hp => World.cell?_alloc_lt w o p (by omega)
theorem add_none (b o j : Nat) : (⟨b, o, none⟩ : Addr).add j = ⟨b, o + j, none⟩ := by unfold Addr.add; split <;> simp_all
/-- as the library's laws on a source ask it -/
theorem Bytes.src (h : Bytes w B A n c l) : 0 < (l.map byteV).length → ∃ ad, A = some ad ∧ ∀ j v, (l.map byteV)[j]? = some v → w.cell? (ad.add j) = some v := by
  intro hl
  obtain ⟨b, o, e, _, hc⟩ := h.2.2.2 (by have := h.1; simp at hl; omega)
  refine ⟨_, e, fun j v hv => ?_⟩
  rw [List.getElem?_map, Option.map_eq_some_iff] at hv
  obtain ⟨u, hu, rfl⟩ := hv
  rw [add_none]
  exact hc j u hu
/-- what a call owns reads as bytes -/
theorem Bytes.of_own {base : Nat} {e : TypeId} {v : Value} {k : Nat} (h : w.ownsRow base e 1 v k (l.map byteV)) : ∃ A n c, v = .slice A n c ∧ Bytes w w.heap.size A n c l := by
  obtain ⟨hl, h2⟩ := h
  have hk : l.length = k := by simpa using hl
  rcases h2 with ⟨rfl, h0⟩ | ⟨g, cap, cur, rfl, _, hg, hnc, hm, hsz, htk⟩
  · have : l = [] := List.eq_nil_of_length_eq_zero (by omega)
    subst this
    exact ⟨none, 0, 0, rfl, Bytes.none_ _ _⟩
  · refine ⟨_, _, _, rfl, hk, hnc, hm, fun hn => ⟨g, 0, rfl, (Array.getElem?_eq_some_iff.1 hg).1, fun j u hu => ?_⟩⟩
    have hj : j < l.length := (List.getElem?_eq_some_iff.1 hu).1
    have hx := congrArg (·[j]?) htk
    simp only [List.getElem?_take, List.getElem?_map, hu, Option.map_some] at hx
    rw [if_pos (by omega)] at hx
    unfold World.cell?
    simp only [hg, Nat.zero_add]
    simpa using hx
theorem Bytes.len (h : Bytes w B A n c l) : l.length = n := h.1
theorem Bytes.at_ {k : Nat} (h : Bytes w B A n c l) (hk : k < n) : ∃ b o, A = some ⟨b, o, none⟩ ∧ b < B ∧ w.cell? ⟨b, o + k, none⟩ = some (byteV (l[k]'(by rw [h.1]; exact hk))) := by
  obtain ⟨b, o, e, hb, hc⟩ := h.2.2.2 (by omega)
  exact ⟨b, o, e, hb, hc k _ (List.getElem?_eq_getElem _)⟩
end

/-- the call hands back a slice that reads as l -/
def GivesBytes (w : World) (l : List UInt8) (e : Ending) (w' : World) : Prop := ∃ A n c, e = .returned (.slice A n c) ∧ Bytes w' w'.heap.size A n c l ∧ Below w.heap.size w w'
/-- a cell as a value -/
def RCell (w : World) (B : Nat) (v : Value) (c : Cell) : Prop :=
  ∃ A n cap, v = .agg #[.int .i64 c.kind, .slice A n cap, .int .i64 c.lo, .int .i64 c.hi, .int .i64 c.val] ∧ Bytes w B A n cap c.data ∧ In64 c.kind ∧ In64 c.lo ∧ In64 c.hi ∧ In64 c.val
theorem RCell.next {w w' : World} {v : Value} {c : Cell} (h : RCell w w.heap.size v c) (hb : Below w.heap.size w w') : RCell w' w'.heap.size v c := by
  obtain ⟨A, n, cap, e, hB, r⟩ := h
  exact ⟨A, n, cap, e, hB.next hb, r⟩
/-- an operation as a value -/
def ROp (w : World) (B : Nat) (v : Value) (x : OpX) : Prop :=
  ∃ A n cap, v = .agg #[.int .i64 x.act, .string x.key, .slice A n cap, .int .i64 x.lo, .int .i64 x.hi, .int .i64 x.n] ∧ Bytes w B A n cap x.data ∧ x.key.size ≤ maxLen ∧ In64 x.act ∧ In64 x.lo ∧ In64 x.hi ∧ In64 x.n
theorem ROp.next {w w' : World} {v : Value} {x : OpX} (h : ROp w w.heap.size v x) (hb : Below w.heap.size w w') : ROp w' w'.heap.size v x := by
  obtain ⟨A, n, cap, e, hB, r⟩ := h
  exact ⟨A, n, cap, e, hB.next hb, r⟩
end Go.Proofs.YtpdfnlhhnodnjaaGreat
end
section
namespace Go.Proofs.YtpdfnlhhnodnjaaGreat
open Go.ChangeShapes Go.WideShapes Go.ChangeAt Go.RowKit
open Go.ChangeMaps (open_string shut_string)
set_option linter.unusedVariables false
set_option maxRecDepth 100000

def RInt (w : World) (v : Value) (n : Int) : Prop := v = .int .i64 n ∧ -9223372036854775808 ≤ n ∧ n ≤ 9223372036854775807
section
variable {H : Type} {enc : TypeId × Value → H} {W : World} {base : Nat} {v : Value} {d : DataW H} {p : List MemPlace}
theorem open_i64 (hv : Value.okWide Tryz.prog W .any base 3 v) (h : DataW.Trod enc Tryz.prog W 0 (fun _ => true) true 3 v d p) : ∃ n, RInt W v n := by
  obtain ⟨n, rfl, _, _, hs⟩ := open_int Tryz.underlying3 hv h
  have hx : -9223372036854775808 ≤ n ∧ n ≤ 9223372036854775807 := by simpa [Lit.wf, IntKind.min, IntKind.max, IntKind.signed, IntKind.bits] using hs
  exact ⟨n, rfl, hx⟩
theorem in64 {n : Int} (h : (Lit.int .i64 n).wf = true) : In64 n := by simpa [In64, Lit.wf, IntKind.min, IntKind.max, IntKind.signed, IntKind.bits] using h
end
section
variable {H : Type} {enc : TypeId × Value → H} {P : Program} {w : World}
/-- a field of a struct, read by itself -/
theorem field_of {fuel : Nat} {t : TypeId} {cs : List Value} {x : DataW H × List MemPlace} {fs : Array Field} (ht : P.underlying t = some (.struct fs)) (h : DataW.trod enc P w 0 (fun _ => true) true fuel t cs = some x) :
    cs.length = P.cellsOf t ∧ ∃ n, ∀ (i : Nat) (ft : TypeId) (off k : Nat), (fs[i]?).map (fun f => (f.type, f.offset)) = some (ft, off) → P.cellsOf ft = k → ∃ y, DataW.trod enc P w 0 (fun _ => true) true n ft ((cs.drop off).take k) = some y := by
  obtain ⟨xs, n, _, _, hl, hx, hf⟩ := DataW.trod_struct ht h
  refine ⟨hl, n, fun i ft off k hi hk => ?_⟩
  obtain ⟨f, hi2, he⟩ := Option.map_eq_some_iff.1 hi
  clear hi
  simp only [Prod.mk.injEq] at he
  obtain ⟨rfl, rfl⟩ := he
  subst hk
  have hlt : i < fs.size := (Array.getElem?_eq_some_iff.1 hi2).1
  exact ⟨xs[i]'(by omega), (hf i f hi2).trans (List.getElem?_eq_getElem (by omega))⟩
theorem u8_of {z : Int} (h : (Lit.int .u8 z).wf = true) : ((UInt8.ofNat z.toNat).toNat : Int) = z := by
  have hx : 0 ≤ z ∧ z ≤ 255 := by simpa [Lit.wf, IntKind.min, IntKind.max, IntKind.signed, IntKind.bits] using h
  have : (UInt8.ofNat z.toNat).toNat = z.toNat := by simp; omega
  rw [this]; omega
/-- bytes, read -/
theorem bytes_of {fuel : Nat} {t e : TypeId} {cs : List Value} {x : DataW H × List MemPlace} (ht : P.underlying t = some (.slice e)) (he : P.underlying e = some (.int .u8)) (hce : P.cellsOf e = 1)
    (h : DataW.trod enc P w 0 (fun _ => true) true fuel t cs = some x) : ∃ A n c l, cs = [.slice A n c] ∧ Bytes w w.heap.size A n c l := by
  rcases open_ints ht he hce h with ⟨hcs, _⟩ | ⟨a, len, cap, zs, hcs, _, hl, hm, hz, _, hcell, hwz⟩
  · exact ⟨none, 0, 0, [], hcs, Bytes.none_ _ _⟩
  · have hz' : zs.length = cap := by simpa using hz
    refine ⟨some a, len, cap, (zs.take len).map fun z => UInt8.ofNat z.toNat, hcs, by simp [hz']; omega, hl, hm, fun hn => ?_⟩
    obtain ⟨b, o, s⟩ := a
    have h0 := hcell 0 (by omega)
    have hs : s = none := by simpa [Addr.add] using World.cell?_spot h0
    subst hs
    refine ⟨b, o, rfl, by simpa [Addr.add] using lt_of_cell h0, fun j u hu => ?_⟩
    rw [List.getElem?_map, Option.map_eq_some_iff] at hu
    obtain ⟨z, hz1, rfl⟩ := hu
    rw [List.getElem?_take] at hz1
    split at hz1
    · rename_i hj
      have hc := hcell j (by omega)
      have hzj : zs.getD j 0 = z := by simp [List.getD, hz1]
      rw [hzj] at hc
      have hw := u8_of (hwz z (List.mem_of_getElem? hz1))
      unfold byteV
      rw [hw, ← hc]
      by_cases hj0 : j = 0
      · subst hj0; rfl
      · simp [Addr.add, hj0]
    · cases hz1
end
section
variable {H : Type} {enc : TypeId × Value → H} {W : World} {base : Nat} {v : Value} {d : DataW H} {p : List MemPlace}
end
theorem own : ownKnob Tryz.prog.godebug = none := by kernel_rfl
theorem laidOut : laidOutB Tryz.prog = true := by kernel_rfl
end Go.Proofs.YtpdfnlhhnodnjaaGreat
end
section
namespace Go.Proofs.YtpdfnlhhnodnjaaGreat.BeP

/-- a number of 64 bits, as a natural number -/
def u64 (m : Int) : Nat := (m % 18446744073709551616).toNat
/-- byte k of the lowest width bytes of m -/
def part (width : Nat) (m : Int) (k : Nat) : UInt8 := UInt8.ofNat (u64 m / 2 ^ (8 * (width - 1 - k)))
/-- the lowest width bytes of m, the greatest one ahead -/
def parts (width : Nat) (m : Int) : List UInt8 := (List.range width).map (part width m)
theorem parts_length (width : Nat) (m : Int) : (parts width m).length = width := by simp [parts]
theorem parts_take (width : Nat) (m : Int) (k : Nat) (h : k < width) : (parts width m).take (k + 1) = (parts width m).take k ++ [part width m k] := by
  have hl : k < (parts width m).length := by rw [parts_length]; exact h
  rw [List.take_succ_eq_append_getElem hl]
  simp [parts]
theorem parts_all (width : Nat) (m : Int) (k : Nat) (h : ¬ k < width) : (parts width m).take k = parts width m := List.take_of_length_le (by rw [parts_length]; omega)
theorem u64_wrap (m : Int) : IntKind.u64.wrap m = (u64 m : Int) := by
  simp only [IntKind.wrap, IntKind.bits, IntKind.signed, u64]
  simp
  omega
/-- as the walk spells it -/
theorem part_walk (width : Nat) (m : Int) (k : Nat) (h : k < width) : IntKind.u64.wrap m / 2 ^ (8 * (width - 1) - 8 * k) % 256 = ((part width m k).toNat : Int) := by
  have e : 8 * (width - 1) - 8 * k = 8 * (width - 1 - k) := by omega
  rw [u64_wrap, e, part]
  generalize 8 * (width - 1 - k) = j
  generalize u64 m = u
  have h1 : (UInt8.ofNat (u / 2 ^ j)).toNat = u / 2 ^ j % 256 := by simp
  rw [h1]
  simp
end Go.Proofs.YtpdfnlhhnodnjaaGreat.BeP
end
section
namespace Go.Proofs.YtpdfnlhhnodnjaaGreat.NumP

def nstep (n : Nat) (c : UInt8) : Nat := n * 256 + c.toNat
/-- the number of bytes -/
def num (l : List UInt8) : Nat := l.foldl nstep 0
/-- a number of 64 bits without a sign, as one with a sign -/
def toI (u : Nat) : Int := if u < 9223372036854775808 then (u : Int) else (u : Int) - 18446744073709551616
/-- are there width bytes from at on? -/
def there (l : List UInt8) (at_ width : Nat) : Bool := decide (at_ + width ≤ l.length)
/-- their number, or 0 -/
def val (l : List UInt8) (at_ width : Nat) : Int := if at_ + width ≤ l.length then toI (num ((l.drop at_).take width)) else 0

theorem num_snoc (l : List UInt8) (c : UInt8) : num (l ++ [c]) = num l * 256 + c.toNat := by simp [num, nstep]
theorem fold_lt (l : List UInt8) (n : Nat) : l.foldl nstep n < (n + 1) * 256 ^ l.length := by
  induction l generalizing n with
  | nil => simp
  | cons c l ih =>
    have h1 := ih (nstep n c)
    have hc := c.toNat_lt
    have h2 : (nstep n c + 1) * 256 ^ l.length ≤ ((n + 1) * 256) * 256 ^ l.length := Nat.mul_le_mul_right _ (by unfold nstep; omega)
    have h3 : (n + 1) * 256 ^ (l.length + 1) = ((n + 1) * 256) * 256 ^ l.length := by rw [Nat.pow_succ, Nat.mul_assoc, Nat.mul_comm (256 ^ l.length)]
    show l.foldl nstep (nstep n c) < (n + 1) * 256 ^ (l.length + 1)
    rw [h3]
    omega
theorem num_lt (l : List UInt8) : num l < 256 ^ l.length := by
  have := fold_lt l 0
  simpa [num] using this
theorem num_lt8 (l : List UInt8) (h : l.length ≤ 8) : num l < 18446744073709551616 := by
  have h1 := num_lt l
  have h2 : 256 ^ l.length ≤ 256 ^ 8 := Nat.pow_le_pow_right (by decide) h
  have h3 : (256 : Nat) ^ 8 = 18446744073709551616 := by decide
  omega
theorem num_lt7 (l : List UInt8) (h : l.length ≤ 7) : num l < 72057594037927936 := by
  have h1 := num_lt l
  have h2 : 256 ^ l.length ≤ 256 ^ 7 := Nat.pow_le_pow_right (by decide) h
  have h3 : (256 : Nat) ^ 7 = 72057594037927936 := by decide
  omega
theorem toI_in (u : Nat) (h : u < 18446744073709551616) : In64 (toI u) := by
  unfold toI In64
  split <;> omega
theorem toI_small (u : Nat) (h : u < 9223372036854775808) : toI u = (u : Int) := by simp [toI, h]
theorem toI_u64 (m : Int) (h : In64 m) : toI (BeP.u64 m) = m := by
  unfold In64 at h
  unfold toI BeP.u64
  split <;> omega
theorem u64_lt (m : Int) : BeP.u64 m < 18446744073709551616 := by unfold BeP.u64; omega

theorem part_toNat (width : Nat) (m : Int) (k : Nat) : (BeP.part width m k).toNat = BeP.u64 m / 256 ^ (width - 1 - k) % 256 := by
  unfold BeP.part
  have : (2 : Nat) ^ (8 * (width - 1 - k)) = 256 ^ (width - 1 - k) := by rw [Nat.pow_mul]
  rw [this]
  simp
theorem num_parts_take (width : Nat) (m : Int) (k : Nat) (h : k ≤ width) : num ((BeP.parts width m).take k) = BeP.u64 m / 256 ^ (width - k) % 256 ^ k := by
  induction k with
  | zero => simp [num, Nat.mod_one]
  | succ k ih =>
    rw [BeP.parts_take width m k (by omega), num_snoc, ih (by omega), part_toNat]
    generalize BeP.u64 m = u
    have e1 : width - k = (width - 1 - k) + 1 := by omega
    have e2 : width - (k + 1) = width - 1 - k := by omega
    rw [e1, e2, Nat.pow_succ 256 (width - 1 - k), ← Nat.div_div_eq_div_mul]
    generalize u / 256 ^ (width - 1 - k) = q
    rw [Nat.pow_succ, Nat.mul_comm (256 ^ k) 256, Nat.mod_mul]
    omega
theorem num_parts (width : Nat) (m : Int) : num (BeP.parts width m) = BeP.u64 m % 256 ^ width := by
  have := num_parts_take width m width (Nat.le_refl _)
  rw [List.take_of_length_le (by rw [BeP.parts_length]; exact Nat.le_refl _)] at this
  simpa using this
theorem num_parts8 (m : Int) : num (BeP.parts 8 m) = BeP.u64 m := by
  rw [num_parts]
  exact Nat.mod_eq_of_lt (u64_lt m)
theorem val_parts8 (pre post : List UInt8) (m : Int) (h : In64 m) : val (pre ++ (BeP.parts 8 m ++ post)) pre.length 8 = m := by
  unfold val
  have hl := BeP.parts_length 8 m
  rw [if_pos (by simp [hl]), List.drop_left, List.take_append_of_le_length (by omega), List.take_of_length_le (by omega), num_parts8, toI_u64 m h]
theorem val_one (pre post : List UInt8) (c : UInt8) : val (pre ++ c :: post) pre.length 1 = (c.toNat : Int) := by
  unfold val
  rw [if_pos (by simp), List.drop_left]
  have := c.toNat_lt
  simp [num, nstep, toI]
  omega
end Go.Proofs.YtpdfnlhhnodnjaaGreat.NumP
end
section
namespace Go.Proofs.YtpdfnlhhnodnjaaGreat
set_option linter.unusedVariables false
/-- a run: its place, its bytes -/
structure RunX where
  at_ : Int
  data : List UInt8
/-- a patch -/
structure PatchX where
  page : Int
  fresh : Bool
  runs : List RunX
namespace PatchP
def stop (r : RunX) : Int := r.at_ + (r.data.length : Nat)
def Within (r : RunX) : Prop := 0 < r.data.length ∧ 12 ≤ r.at_ ∧ stop r ≤ 512
/-- where the run ahead of k ends -/
def endOf (l : List RunX) : Nat → Int
  | 0 => -1
  | k + 1 => match l[k]? with
    | some q => stop q
    | none => -1
/-- the first k runs may be -/
def Okay (l : List RunX) (k : Nat) : Prop := ∀ i r, i < k → l[i]? = some r → Within r ∧ endOf l i < r.at_
def Right (x : PatchX) : Prop := 0 ≤ x.page ∧ x.page ≤ 65535 ∧ x.runs.length ≤ 500 ∧ Okay x.runs x.runs.length
noncomputable def within (r : RunX) : Bool := @decide (Within r) (Classical.propDecidable _)
noncomputable def right (x : PatchX) : Bool := @decide (Right x) (Classical.propDecidable _)
noncomputable def same (x y : PatchX) : Bool := @decide (x = y) (Classical.propDecidable _)
noncomputable def sameRuns (x y : List RunX) : Bool := @decide (x = y) (Classical.propDecidable _)
theorem within_iff (r : RunX) : within r = true ↔ Within r := by unfold within; simp
theorem right_iff (x : PatchX) : right x = true ↔ Right x := by unfold right; simp
theorem right_no (x : PatchX) (h : ¬ Right x) : right x = false := by unfold right; simpa using h
theorem right_yes (x : PatchX) (h : Right x) : right x = true := (right_iff x).2 h
theorem within_no (r : RunX) (h : ¬ Within r) : within r = false := by unfold within; simpa using h
theorem within_yes (r : RunX) (h : Within r) : within r = true := (within_iff r).2 h
theorem okay_zero (l : List RunX) : Okay l 0 := fun i r hi => absurd hi (Nat.not_lt_zero _)
theorem endOf_succ (l : List RunX) (k : Nat) (r : RunX) (h : l[k]? = some r) : endOf l (k + 1) = stop r := by show (match l[k]? with | some q => stop q | none => -1) = _; rw [h]
theorem okay_step {l : List RunX} {k : Nat} {r : RunX} (h : Okay l k) (hr : l[k]? = some r) (hw : Within r) (he : endOf l k < r.at_) : Okay l (k + 1) := by
  intro i q hi hq
  by_cases e : i = k
  · subst e
    rw [hr] at hq; cases hq
    exact ⟨hw, he⟩
  · exact h i q (by omega) hq
theorem okay_bad {l : List RunX} {k n : Nat} {r : RunX} (hr : l[k]? = some r) (hb : ¬ (Within r ∧ endOf l k < r.at_)) (hk : k < n) : ¬ Okay l n := fun h => hb (h k r hk hr)
theorem endOf_lo {l : List RunX} {k n : Nat} (h : Okay l n) (hk : k ≤ n) : -1 ≤ endOf l k ∧ endOf l k ≤ 512 := by
  cases k with
  | zero => exact ⟨Int.le_refl _, by show (-1 : Int) ≤ 512; omega⟩
  | succ k =>
    cases hq : l[k]? with
    | some q =>
      rw [endOf_succ l k q hq]
      have := (h k q (by omega) hq).1
      unfold Within at this
      have h2 : stop q = q.at_ + (q.data.length : Nat) := rfl
      omega
    | none =>
      have : endOf l (k + 1) = -1 := by show (match l[k]? with | some q => stop q | none => -1) = _; rw [hq]
      omega
theorem bad_page (x : PatchX) (h : x.page < 0 ∨ 65535 < x.page ∨ 500 < x.runs.length) : right x = false := right_no x fun hr => by
  obtain ⟨a, b, c, -⟩ := hr
  omega
theorem bad_run (x : PatchX) {k : Nat} {r : RunX} (hr : x.runs[k]? = some r) (hb : ¬ (Within r ∧ endOf x.runs k < r.at_)) : right x = false := right_no x fun h =>
  okay_bad hr hb (List.getElem?_eq_some_iff.1 hr).1 h.2.2.2
theorem in_runs {x : PatchX} (h : Right x) {k : Nat} {r : RunX} (hr : x.runs[k]? = some r) : 12 ≤ r.at_ ∧ r.at_ ≤ 511 ∧ 1 ≤ r.data.length ∧ r.data.length ≤ 500 := by
  have := (h.2.2.2 k r (List.getElem?_eq_some_iff.1 hr).1 hr).1
  unfold Within stop at this
  omega
/-- a run's bytes -/
def runB (r : RunX) : List UInt8 := BeP.parts 2 r.at_ ++ (BeP.parts 2 (r.data.length : Nat) ++ r.data)
def runsB (l : List RunX) : List UInt8 := l.flatMap runB
def flag (b : Bool) : Int := if b then 1 else 0
def head (x : PatchX) : List UInt8 := BeP.parts 2 x.page ++ (BeP.parts 1 (flag x.fresh) ++ BeP.parts 2 (x.runs.length : Nat))
def body (x : PatchX) : List UInt8 := head x ++ runsB x.runs
noncomputable def bytes (x : PatchX) : List UInt8 := if right x then body x else []
theorem head_length (x : PatchX) : (head x).length = 5 := by simp [head, BeP.parts_length]
theorem runB_length (r : RunX) : (runB r).length = 4 + r.data.length := by simp [runB, BeP.parts_length]; omega
theorem runsB_snoc (l : List RunX) (k : Nat) (r : RunX) (h : l[k]? = some r) : runsB (l.take (k + 1)) = runsB (l.take k) ++ runB r := by
  obtain ⟨hk, e⟩ := List.getElem?_eq_some_iff.1 h
  rw [List.take_succ_eq_append_getElem hk, e]
  simp [runsB]
theorem runsB_split (l : List RunX) (k : Nat) (r : RunX) (h : l[k]? = some r) : runsB l = runsB (l.take k) ++ (runB r ++ runsB (l.drop (k + 1))) := by
  obtain ⟨hk, e⟩ := List.getElem?_eq_some_iff.1 h
  have h1 : l = l.take k ++ (r :: l.drop (k + 1)) := by rw [← e, ← List.drop_eq_getElem_cons hk, List.take_append_drop]
  have h2 : runsB l = runsB (l.take k ++ (r :: l.drop (k + 1))) := by rw [← h1]
  rw [h2]
  unfold runsB
  rw [List.flatMap_append, List.flatMap_cons]
theorem runsB_le (l : List RunX) (n : Nat) (h : ∀ r ∈ l, r.data.length ≤ n) : (runsB l).length ≤ l.length * (4 + n) := by
  induction l with
  | nil => simp [runsB]
  | cons r l ih =>
    have h1 := ih (fun q hq => h q (List.mem_cons_of_mem _ hq))
    have h2 := h r (List.mem_cons_self ..)
    have : runsB (r :: l) = runB r ++ runsB l := by simp [runsB]
    rw [this, List.length_append, runB_length, List.length_cons, Nat.add_mul]
    omega
theorem runs_le {x : PatchX} (h : Right x) (k : Nat) : (runsB (x.runs.take k)).length ≤ 252000 := by
  have h1 := runsB_le (x.runs.take k) 500 (fun r hr => by
    obtain ⟨j, hj⟩ := List.getElem?_of_mem (List.mem_of_mem_take hr)
    exact (in_runs h hj).2.2.2)
  have h2 : (x.runs.take k).length ≤ 500 := by rw [List.length_take]; have := h.2.2.1; omega
  have h3 : (x.runs.take k).length * (4 + 500) ≤ 500 * 504 := Nat.mul_le_mul_right _ h2
  omega
theorem body_le {x : PatchX} (h : Right x) : (body x).length ≤ 252005 := by
  have := runs_le h x.runs.length
  rw [List.take_of_length_le (Nat.le_refl _)] at this
  unfold body
  rw [List.length_append, head_length]
  omega
/-- numbers among bytes -/
theorem val_parts2 (pre post : List UInt8) (m : Int) (h0 : 0 ≤ m) (h1 : m ≤ 65535) : NumP.val (pre ++ (BeP.parts 2 m ++ post)) pre.length 2 = m := by
  unfold NumP.val
  rw [if_pos (by simp [BeP.parts_length]), List.drop_left, List.take_append_of_le_length (by rw [BeP.parts_length]; omega), List.take_of_length_le (by rw [BeP.parts_length]; omega), NumP.num_parts]
  unfold BeP.u64
  have e : (m % 18446744073709551616).toNat % 256 ^ 2 = m.toNat := by omega
  rw [e, NumP.toI_small _ (by omega)]
  omega
theorem val_parts1 (pre post : List UInt8) (m : Int) (h0 : 0 ≤ m) (h1 : m ≤ 255) : NumP.val (pre ++ (BeP.parts 1 m ++ post)) pre.length 1 = m := by
  unfold NumP.val
  rw [if_pos (by simp [BeP.parts_length]), List.drop_left, List.take_append_of_le_length (by rw [BeP.parts_length]; omega), List.take_of_length_le (by rw [BeP.parts_length]; omega), NumP.num_parts]
  unfold BeP.u64
  have e : (m % 18446744073709551616).toNat % 256 ^ 1 = m.toNat := by omega
  rw [e, NumP.toI_small _ (by omega)]
  omega
theorem flag_in (b : Bool) : 0 ≤ flag b ∧ flag b ≤ 1 := by cases b <;> decide
/-- where the k-th run stands -/
def place (x : PatchX) (k : Nat) : Nat := 5 + (runsB (x.runs.take k)).length
theorem place_zero (x : PatchX) : place x 0 = 5 := by simp [place, runsB]
theorem place_succ (x : PatchX) (k : Nat) (r : RunX) (h : x.runs[k]? = some r) : place x (k + 1) = place x k + 4 + r.data.length := by
  unfold place
  rw [runsB_snoc _ _ _ h, List.length_append, runB_length]
  omega
theorem place_all (x : PatchX) : place x x.runs.length = (body x).length := by
  unfold place body
  rw [List.take_of_length_le (Nat.le_refl _), List.length_append, head_length]
variable {x : PatchX} {more : List UInt8} {k : Nat} {r : RunX}
theorem got_page (h : Right x) : NumP.val (body x ++ more) 0 2 = x.page := by
  have := val_parts2 [] (BeP.parts 1 (flag x.fresh) ++ BeP.parts 2 (x.runs.length : Nat) ++ runsB x.runs ++ more) x.page h.1 h.2.1
  simpa [body, head] using this
theorem got_flag (h : Right x) : NumP.val (body x ++ more) 2 1 = flag x.fresh := by
  have := val_parts1 (BeP.parts 2 x.page) (BeP.parts 2 (x.runs.length : Nat) ++ runsB x.runs ++ more) (flag x.fresh) (flag_in _).1 (by have := (flag_in x.fresh).2; omega)
  simpa [body, head, BeP.parts_length] using this
theorem got_count (h : Right x) : NumP.val (body x ++ more) 3 2 = (x.runs.length : Nat) := by
  have := val_parts2 (BeP.parts 2 x.page ++ BeP.parts 1 (flag x.fresh)) (runsB x.runs ++ more) (x.runs.length : Nat) (by omega) (by have := h.2.2.1; omega)
  simpa [body, head, BeP.parts_length] using this
theorem body_split (hr : x.runs[k]? = some r) : body x ++ more = (head x ++ runsB (x.runs.take k)) ++ (BeP.parts 2 r.at_ ++ (BeP.parts 2 (r.data.length : Nat) ++ (r.data ++ (runsB (x.runs.drop (k + 1)) ++ more)))) := by
  unfold body
  rw [runsB_split _ _ _ hr]
  simp [runB]
theorem place_len : (head x ++ runsB (x.runs.take k)).length = place x k := by rw [List.length_append, head_length]; rfl
theorem got_at (h : Right x) (hr : x.runs[k]? = some r) : NumP.val (body x ++ more) (place x k) 2 = r.at_ := by
  have hi := in_runs h hr
  rw [body_split hr, ← place_len]
  exact val_parts2 _ _ r.at_ (by omega) (by omega)
theorem got_len (h : Right x) (hr : x.runs[k]? = some r) : NumP.val (body x ++ more) (place x k + 2) 2 = (r.data.length : Nat) := by
  have hi := in_runs h hr
  rw [body_split hr, ← place_len]
  have := val_parts2 ((head x ++ runsB (x.runs.take k)) ++ BeP.parts 2 r.at_) (r.data ++ (runsB (x.runs.drop (k + 1)) ++ more)) (r.data.length : Nat) (by omega) (by omega)
  rw [List.length_append, BeP.parts_length] at this
  simpa using this
theorem got_data (hr : x.runs[k]? = some r) : ((body x ++ more).drop (place x k + 4)).take r.data.length = r.data := by
  have e : body x ++ more = ((head x ++ runsB (x.runs.take k)) ++ (BeP.parts 2 r.at_ ++ BeP.parts 2 (r.data.length : Nat))) ++ (r.data ++ (runsB (x.runs.drop (k + 1)) ++ more)) := by rw [body_split hr]; simp
  have hl : ((head x ++ runsB (x.runs.take k)) ++ (BeP.parts 2 r.at_ ++ BeP.parts 2 (r.data.length : Nat))).length = place x k + 4 := by rw [List.length_append, place_len]; simp [BeP.parts_length]
  rw [e, List.drop_left' hl, List.take_left' rfl]
theorem place_fits (hr : x.runs[k]? = some r) : place x k + 4 + r.data.length ≤ (body x).length := by
  have := congrArg List.length (body_split (more := []) hr)
  rw [List.append_nil, List.length_append, place_len] at this
  simp [BeP.parts_length] at this
  omega
end PatchP
end Go.Proofs.YtpdfnlhhnodnjaaGreat
end
section
namespace Go.Proofs.YtpdfnlhhnodnjaaGreat.CellP

/-- the empty cell -/
def none : Cell := ⟨0, [], 0, 0, 0⟩
/-- may a cell be? -/
def right (c : Cell) : Bool :=
  if c.kind = 1 then decide (c.data.length ≤ 32) && (c.lo == 0 && (c.hi == 0 && c.val == 0))
  else c.kind == 2 && (c.data.length == 0 && (decide (c.lo ≤ c.val) && decide (c.val ≤ c.hi)))
def same (a b : Cell) : Bool := a.kind == b.kind && (a.data == b.data && (a.lo == b.lo && (a.hi == b.hi && a.val == b.val)))
def code (b : Bool) : Int := if b then 0 else 1
/-- a counter with another value, and the error's number -/
def set (c : Cell) (v : Int) : Cell × Int :=
  if c.kind = 2 ∧ right c = true then (if v < c.lo ∨ c.hi < v then (none, 8) else (⟨2, [], c.lo, c.hi, v⟩, 0)) else (none, 6)
/-- the bytes of a cell that may be -/
def bytes (c : Cell) : List UInt8 :=
  if right c = true then (if c.kind = 1 then [1, UInt8.ofNat c.data.length] ++ c.data else [2] ++ (BeP.parts 8 c.lo ++ (BeP.parts 8 c.hi ++ BeP.parts 8 c.val))) else []
end Go.Proofs.YtpdfnlhhnodnjaaGreat.CellP
end
section
namespace Go.Proofs.YtpdfnlhhnodnjaaGreat.KeyP

/-- a byte that a key may have -/
def okB (c : UInt8) : Bool := decide (33 ≤ c.toNat) && decide (c.toNat ≤ 126)
def right (l : List UInt8) : Bool := l.all okB && (decide (0 < l.length) && decide (l.length ≤ 16))
/-- the error's number: 0, or 1 -/
def code (b : Bool) : Int := if b then 0 else 1
theorem all_take (s : ByteArray) (k : Nat) (h : k < s.size) : (s.data.toList.take (k + 1)).all okB = ((s.data.toList.take k).all okB && okB s[k]) := by
  rw [List.take_succ_eq_append_getElem (by simpa using h)]
  simp only [List.all_append, List.all_cons, List.all_nil, Bool.and_true]
  rfl
theorem all_of_take (s : ByteArray) (k : Nat) (h : ¬ k < s.size) (ha : (s.data.toList.take k).all okB = true) : s.data.toList.all okB = true := by
  rw [List.take_of_length_le (by simp; exact Nat.le_of_not_lt h)] at ha
  exact ha
theorem right_of (s : ByteArray) (h1 : s.data.toList.all okB = true) (h2 : 0 < s.size) (h3 : s.size ≤ 16) : right s.data.toList = true := by
  have e : s.data.toList.length = s.size := by simp
  simp only [right, h1, e, Bool.true_and, Bool.and_eq_true, decide_eq_true_eq]
  exact ⟨h2, h3⟩
theorem not_right_len (s : ByteArray) (h : ¬ (0 < s.size ∧ s.size ≤ 16)) : right s.data.toList = false := by
  have e : s.data.toList.length = s.size := by simp
  unfold right
  rw [e]
  by_cases h0 : 0 < s.size <;> by_cases h1 : s.size ≤ 16 <;> simp_all
theorem not_right_at (s : ByteArray) (k : Nat) (h : k < s.size) (hc : okB s[k] = false) : right s.data.toList = false := by
  have hm : s[k] ∈ s.data.toList := by
    have : s[k] = s.data.toList[k]'(by simpa using h) := rfl
    rw [this]
    exact List.getElem_mem _
  have : s.data.toList.all okB = false := by
    rw [List.all_eq_false]
    exact ⟨_, hm, by simp [hc]⟩
  simp [right, this]
theorem okB_true (c : UInt8) (h1 : 33 ≤ c.toNat) (h2 : c.toNat ≤ 126) : okB c = true := by simp [okB, h1, h2]
theorem okB_lo (c : UInt8) (h1 : c.toNat < 33) : okB c = false := by
  have : ¬ 33 ≤ c.toNat := by omega
  simp [okB, this]
theorem okB_hi (c : UInt8) (h1 : 126 < c.toNat) : okB c = false := by
  have : ¬ c.toNat ≤ 126 := by omega
  simp [okB, this]
theorem code_true : code true = 0 := rfl
theorem code_false : code false = 1 := rfl
end Go.Proofs.YtpdfnlhhnodnjaaGreat.KeyP
end
section
namespace Go.Proofs.YtpdfnlhhnodnjaaGreat.SlotP

/-- the empty slot -/
def none : Item := ⟨0, ByteArray.empty, CellP.none⟩
def same (x y : Item) : Bool := x.state == y.state && (x.key.toList == y.key.toList && CellP.same x.cell y.cell)
/-- may an item be? -/
def right (x : Item) : Bool := if x.state = 0 then same x none else ((x.state == 1 || x.state == 2) && (KeyP.right x.key.data.toList && CellP.right x.cell))
/-- what a slot begins with -/
def body (x : Item) : List UInt8 := [UInt8.ofNat x.state.toNat, UInt8.ofNat x.key.size] ++ (x.key.data.toList ++ CellP.bytes x.cell)
def zeros (n : Nat) : List UInt8 := List.replicate n 0
/-- the bytes of a slot -/
def bytes (x : Item) : List UInt8 := if x.state ≠ 0 ∧ right x = true then body x ++ zeros (64 - (body x).length) else zeros 64

theorem right_key (x : Item) (h0 : x.state ≠ 0) (hr : right x = true) : x.key.size ≤ 16 := by
  unfold right at hr
  rw [if_neg h0] at hr
  simp only [Bool.and_eq_true] at hr
  have := hr.2.1
  unfold KeyP.right at this
  simp at this
  exact this.2.2
theorem right_state (x : Item) (h0 : x.state ≠ 0) (hr : right x = true) : x.state = 1 ∨ x.state = 2 := by
  unfold right at hr
  rw [if_neg h0] at hr
  simp only [Bool.and_eq_true, Bool.or_eq_true, beq_iff_eq] at hr
  exact hr.1
theorem right_cell (x : Item) (h0 : x.state ≠ 0) (hr : right x = true) : CellP.right x.cell = true := by
  unfold right at hr
  rw [if_neg h0] at hr
  simp only [Bool.and_eq_true] at hr
  exact hr.2.2
theorem cell_le (c : Cell) : (CellP.bytes c).length ≤ 34 := by
  unfold CellP.bytes
  cases hr : CellP.right c
  · simp
  · by_cases hk : c.kind = 1
    · unfold CellP.right at hr
      rw [if_pos hk] at hr
      simp at hr
      simp [hk]
      omega
    · simp [hk, BeP.parts_length]
/-- bytes with others from a place on -/
def over (l : List UInt8) (off : Nat) (s : List UInt8) : List UInt8 := l.take off ++ (s ++ l.drop (off + s.length))
theorem over_append (p q s : List UInt8) (n : Nat) (h : p.length = n) : over (p ++ q) n s = p ++ (s ++ q.drop s.length) := by
  subst h
  unfold over
  rw [List.take_left, List.drop_append]
  simp
theorem zeros_drop (n m : Nat) : (zeros n).drop m = zeros (n - m) := by simp [zeros]
theorem over_length (l : List UInt8) (off : Nat) (s : List UInt8) (h : off + s.length ≤ l.length) : (over l off s).length = l.length := by
  simp [over]; omega
/-- as slot.Put lays the bytes -/
theorem put_list (x : Item) (h0 : x.state ≠ 0) (hr : right x = true) :
    over (over (((zeros 64).set 0 (UInt8.ofNat x.state.toNat)).set 1 (UInt8.ofNat x.key.size)) 2 x.key.data.toList) (2 + x.key.size) (CellP.bytes x.cell) = bytes x := by
  have hl : x.key.data.toList.length = x.key.size := Array.length_toList
  have hset : ((zeros 64).set 0 (UInt8.ofNat x.state.toNat)).set 1 (UInt8.ofNat x.key.size) = [UInt8.ofNat x.state.toNat, UInt8.ofNat x.key.size] ++ zeros 62 := rfl
  have h2 : ([UInt8.ofNat x.state.toNat, UInt8.ofNat x.key.size] ++ x.key.data.toList).length = 2 + x.key.size := by
    rw [List.length_append, hl]
    rfl
  unfold bytes
  rw [if_pos ⟨h0, hr⟩, hset, over_append _ _ _ 2 rfl, ← List.append_assoc, over_append _ _ _ _ h2, zeros_drop, zeros_drop, hl]
  unfold body
  simp only [List.append_assoc, List.length_append, hl, List.length_cons, List.length_nil]
  rw [show 62 - x.key.size - (CellP.bytes x.cell).length = 64 - (0 + 1 + 1 + (x.key.size + (CellP.bytes x.cell).length)) by omega]
theorem bytes_length (x : Item) : (bytes x).length = 64 := by
  unfold bytes
  split
  · rename_i h
    have hk := right_key x h.1 h.2
    have hc := cell_le x.cell
    have hl : x.key.data.toList.length = x.key.size := Array.length_toList
    simp only [body, zeros, List.length_append, List.length_replicate, List.length_cons, List.length_nil, hl]
    omega
  · simp [zeros]
end Go.Proofs.YtpdfnlhhnodnjaaGreat.SlotP
end
section
namespace Go.Proofs.YtpdfnlhhnodnjaaGreat
open Go.RowKit

/-- bytes as a string -/
def strOf (l : List UInt8) : ByteArray := ⟨l.toArray⟩
theorem strOf_data (l : List UInt8) : (strOf l).data.toList = l := by simp [strOf]
/-- 'string(b)' -/
theorem run_str {P : Program} {w : World} {B n c : Nat} {A : Option Addr} {l : List UInt8} (src dst e : TypeId) (hs : P.underlying src = some (.slice e)) (he : P.underlying e = some (.int .u8)) (hd : P.underlying dst = some .string)
    (h : Bytes w B A n c l) : (convert src dst (.slice A n c)).run P w = .ok (.string (strOf l)) w := by
  obtain ⟨rfl, hc, hm, hx⟩ := h
  rcases A with _ | a
  · have hl : l.length = 0 := by
      rcases Nat.eq_zero_or_pos l.length with h0 | h0
      · exact h0
      · obtain ⟨b, o, e, _⟩ := hx h0
        cases e
    have : l = [] := List.eq_nil_of_length_eq_zero hl
    subst this
    exact Lib.run_convert_nil_bytes w src dst e c hs he hd
  · refine run_convert_bytes_back w src dst e a c l hs he hd (fun j hj => ?_)
    obtain ⟨b, o, e, _, hcell⟩ := hx (by omega)
    cases e
    have := hcell j l[j] (List.getElem?_eq_getElem hj)
    rw [show (⟨b, o, none⟩ : Addr).add j = ⟨b, o + j, none⟩ by unfold Addr.add; split <;> simp_all]
    exact this

theorem grown_setRow (w : World) (g : Nat) (cs : Array Value) : w.grownBy (w.setRow g cs) (some g) :=
  ⟨rfl, rfl, rfl, by simp [World.setRow], fun k _ hk => setRow_other w g k cs (fun e => hk (by rw [e]))⟩
/-- copy into a block that is known whole -/
theorem run_copy_to {P : Program} {w : World} (dT sT ty elem : TypeId) (hu : P.underlying dT = some (.slice elem)) (hsz : (P.info? elem).map (·.size) = some 1)
    (dp : Option Addr) (dLen dCap : Nat) (g off : Nat) (cur : List Value) (t : TypeId) (hg : w.heap[g]? = some (.cells cur.toArray t (0, 0)))
    (sp : Option Addr) (sLen sCap : Nat) (cs : List Value) (hn : cs.length = Nat.min sLen dLen)
    (hpos : 0 < cs.length → dp = some ⟨g, off, none⟩ ∧ ∃ ad, sp = some ad ∧ ∀ j v, cs[j]? = some v → w.cell? (ad.add j) = some v)
    (hfit : off + cs.length ≤ cur.length) (h1 : ∀ v ∈ cs, v.oneCell' = true) :
    ∃ w1, (Builtin.copy_ #[dT, sT] ty #[.slice dp dLen dCap, .slice sp sLen sCap]).run P w = .ok (goInt cs.length) w1 ∧ w1.heap[g]? = some (.cells (splice cur off cs).toArray t (0, 0)) ∧ w.grownBy w1 (some g) := by
  by_cases h0 : cs.length = 0
  · obtain rfl : cs = [] := List.eq_nil_of_length_eq_zero h0
    exact ⟨w, run_copy_none w dT sT ty elem dp sp dLen dCap sLen sCap hu hsz (by simpa using hn.symm), by simpa [splice] using hg, World.grownBy.refl w _⟩
  · obtain ⟨rfl, ad, rfl, hsrc⟩ := hpos (by omega)
    exact ⟨_, run_copy_row P w dT sT ty elem g off dLen dCap ad sLen sCap cur.toArray t cs hu hsz hg hn hsrc (by simpa using hfit) h1, by simpa [splice] using setRow_heap w g _ _ t _ hg, grown_setRow w g _⟩

/-- what is owned stays owned behind a call -/
theorem own_next {w w' : World} {base : Nat} {e : TypeId} {size n : Nat} {v : Value} {xs : List Value} (h : w.ownsRow base e size v n xs) (hb : Below w.heap.size w w') : w'.ownsRow base e size v n xs := by
  obtain ⟨h1, h2⟩ := h
  refine ⟨h1, ?_⟩
  rcases h2 with h2 | ⟨g, cap, cur, hv, hg, hh, r⟩
  · exact .inl h2
  · exact .inr ⟨g, cap, cur, hv, hg, (hb.block g (Array.getElem?_eq_some_iff.1 hh).1).trans hh, r⟩

theorem own_slice {w : World} {base : Nat} {e : TypeId} {size n : Nat} {v : Value} {xs : List Value} (h : w.ownsRow base e size v n xs) : ∃ A c, v = .slice A n c := by
  rcases h.2 with ⟨rfl, rfl⟩ | ⟨g, cap, cur, rfl, _⟩
  · exact ⟨_, _, rfl⟩
  · exact ⟨_, _, rfl⟩
theorem own_block {w : World} {base : Nat} {e : TypeId} {size n : Nat} {v : Value} {xs : List Value} (h : w.ownsRow base e size v n xs) : ∀ k, v.ownBlock = some k → base ≤ k := by
  intro k hk
  rcases h.2 with ⟨rfl, _⟩ | ⟨g, cap, cur, rfl, hg, _⟩
  · simp [Value.ownBlock] at hk
  · obtain rfl : g = k := by simpa [Value.ownBlock] using hk
    exact hg
/-- an append under a name that the walk does not look behind: a text that has 'app_fold' among its rules meets each append by an equation on its run -/
def appSem (ts : Array TypeId) (ty : TypeId) (args : Array Value) : Sem Value := Builtin.append_ ts ty args
theorem app_fold (ts : Array TypeId) (ty : TypeId) (args : Array Value) : Builtin.append_ ts ty args = appSem ts ty args := rfl

/-- append onto a row of the call's own; the source is nil, empty or not -/
theorem run_append_bytes {P : Program} (w : World) (base : Nat) (t ty e : TypeId) (i : TypeInfo) (z : Value) (ht : P.underlying t = some (.slice e)) (hi : P.info? e = some i) (hz : i.zero = some z)
    (hsize : i.size = 1) (hby : i.bytes = 1) (hzs : z.cells.size = 1) (v : Value) (n : Nat) (xs : List Value) (hown : w.ownsRow base e 1 v n xs)
    (B : Nat) (A : Option Addr) (m c : Nat) (l : List UInt8) (hr : Bytes w B A m c l) (hbytes : n + m ≤ 140737488355328) (hbase : base ≤ w.heap.size) :
    ∃ v' w', (appSem #[t, t] ty #[v, .slice A m c]).run P w = .ok v' w' ∧ w'.ownsRow base e 1 v' (n + m) (xs ++ l.map byteV) ∧ w.grownBy w' v.ownBlock := by
  have hm : l.length = m := hr.1
  rcases A with _ | ad
  · have h0 : m = 0 := by
      rcases Nat.eq_zero_or_pos m with h0 | h0
      · exact h0
      · obtain ⟨b, o, h, _⟩ := hr.2.2.2 h0
        cases h
    subst h0
    have hn : l = [] := List.eq_nil_of_length_eq_zero hm
    subst hn
    refine ⟨v, w, ?_, by simpa using hown, World.grownBy.refl w _⟩
    unfold appSem
    rcases hown.2 with ⟨rfl, rfl⟩ | ⟨g, cap, cur, rfl, _, _, hnc, _⟩
    · simp [Builtin.append_, run_underlying ht, sizeOf, typeInfo, hi, Builtin.lenOf, Builtin.firstCells]
    · simp [Builtin.append_, run_underlying ht, sizeOf, typeInfo, hi, Builtin.lenOf, Builtin.firstCells, hnc, storeCells]
  · have hcells : ∀ j u, (l.map byteV)[j]? = some u → w.cell? (ad.add j) = some u := by
      intro j u hu
      have hpos : 0 < (l.map byteV).length := Nat.lt_of_le_of_lt (Nat.zero_le _) (List.getElem?_eq_some_iff.1 hu).1
      obtain ⟨ad', e1, h2⟩ := hr.src hpos
      cases e1
      exact h2 j u hu
    obtain ⟨v', w', hrun, h2, h3, _, _⟩ := run_append_own_at (P := P) w base t ty e i z 1 1 ht hi hz hsize hby hzs (by decide) v n xs hown ad m c (l.map byteV) (by simp [hm]) hcells (byteV_one l) (by unfold maxLen; omega) (by omega) hbase
    exact ⟨v', w', hrun, h2, h3⟩
end Go.Proofs.YtpdfnlhhnodnjaaGreat
end
