/-
  Words on memory that all later texts use: steps of 'Below', a slice of bytes that reads as a list. No program in sight.
-/
import Derived.Test.YtldgdgfplgdipaaPTypes
import Derived.WalkKit
import Derived.WalkSpells
import Derived.WalkLawsBesides
import Derived.Lib.Hide
import Derived.Deep.Draws
import Derived.Deep.QuietTactic
import Derived.BigQuiet
namespace Go.Proofs.Ytldgdgfplgdipaa
open Go.RowKit

/-- one call behind another: nothing that lay before the first has turned -/
theorem bstep {a b c : World} (h : Below a.heap.size a b) (k : Below b.heap.size b c) : Below a.heap.size a c := h.trans (k.mono h.size)
theorem bsame (a : World) : Below a.heap.size a a := Below.refl _ _
theorem bdrewN {B : Nat} {a w : World} (h : Below B a w) (n : Nat) : Below B a (w.drewN n) := ⟨h.os, h.tape, h.output, h.size, h.block⟩
theorem balloc {a b : World} (h : Below a.heap.size a b) (o : Obj) : Below a.heap.size a (b.alloc o) := h.alloc h.size o
/-- what lay before a call reads behind it as it did: as rules for the walk -/
theorem bcell {W w1 : World} (hb : Below W.heap.size W w1) : (∀ b o, b < W.heap.size → w1.cell? ⟨b, o, none⟩ = W.cell? ⟨b, o, none⟩) ∧ (∀ b o, b < W.heap.size → w1.frozen? ⟨b, o, none⟩ = W.frozen? ⟨b, o, none⟩) :=
  ⟨fun b o h => hb.cell (p := ⟨b, o, none⟩) h, fun b o h => hb.frozen (p := ⟨b, o, none⟩) h⟩
theorem lt_of_cell {w : World} {a : Addr} {v : Value} (h : w.cell? a = some v) : a.block < w.heap.size := by
  rcases Nat.lt_or_ge a.block w.heap.size with hl | hg
  · exact hl
  · unfold World.cell? at h
    rw [Array.getElem?_eq_none hg] at h
    cases h
/-- a callee that leaves the world alone, met in a region that draws its order -/
theorem quietL {P : Program} {f : FuncId} {args : Array Value} {w : World} {n : Nat} {v : Value}
    (h : Calls P f args (w.drewN n) fun e w' => e = .returned v ∧ w.drewN n = w') : Calls P f args (w.drewN n) fun e w'' => e = .returned v ∧ ∃ m, w'' = w.drewN m :=
  h.mono fun _ _ ⟨he, hm⟩ => ⟨he, n, hm.symm⟩
theorem quietAdd {P : Program} {f : FuncId} {args : Array Value} {w : World} {a n : Nat} {v : Value}
    (h : Calls P f args (w.drewN (a + n)) fun e w' => e = .returned v ∧ w.drewN (a + n) = w') :
    Calls P f args (w.drewN (a + n)) fun e w'' => e = .returned v ∧ ∃ m, w'' = w.drewN (a + m) :=
  h.mono fun _ _ ⟨he, hm⟩ => ⟨he, n, hm.symm⟩

/-- a byte as a value -/
def byteV (b : UInt8) : Value := .int .u8 (b.toNat : Int)
theorem byteV_one (l : List UInt8) : ∀ v ∈ l.map byteV, v.oneCell' = true := by
  intro v hv
  obtain ⟨b, _, rfl⟩ := List.mem_map.1 hv
  rfl
/-- so many zero bytes -/
def zerosV (n : Nat) : List Value := List.replicate n (.int .u8 0)
theorem zerosV_length (n : Nat) : (zerosV n).length = n := by simp [zerosV]
/-- the slice (A, n, c) reads as the bytes l, all below block B; nil and empty slices let in -/
def Bytes (w : World) (B : Nat) (A : Option Addr) (n c : Nat) (l : List UInt8) : Prop :=
  l.length = n ∧ n ≤ c ∧ c ≤ maxLen ∧ (0 < n → ∃ b o, A = some ⟨b, o, none⟩ ∧ b < B ∧ ∀ j u, l[j]? = some u → w.cell? ⟨b, o + j, none⟩ = some (byteV u))

section
variable {w w' : World} {B B' n c : Nat} {A : Option Addr} {l : List UInt8}
theorem Bytes.none_ (w : World) (B : Nat) : Bytes w B none 0 0 [] := ⟨rfl, Nat.le_refl _, by unfold maxLen; omega, fun h => absurd h (by omega)⟩
theorem Bytes.empty_ (w : World) (B : Nat) (A : Option Addr) (c : Nat) (hc : c ≤ maxLen) : Bytes w B A 0 c [] := ⟨rfl, Nat.zero_le _, hc, fun h => absurd h (by omega)⟩
theorem Bytes.keep (h : Bytes w B A n c l) (hk : ∀ p : Addr, p.block < B → w'.cell? p = w.cell? p) : Bytes w' B A n c l :=
  ⟨h.1, h.2.1, h.2.2.1, fun hn => by
    obtain ⟨b, o, e, hb, hc⟩ := h.2.2.2 hn
    exact ⟨b, o, e, hb, fun j u hu => (hk _ hb).trans (hc j u hu)⟩⟩
theorem Bytes.more (h : Bytes w B A n c l) (hB : B ≤ B') : Bytes w B' A n c l :=
  ⟨h.1, h.2.1, h.2.2.1, fun hn => by
    obtain ⟨b, o, e, hb, hc⟩ := h.2.2.2 hn
    exact ⟨b, o, e, by omega, hc⟩⟩
theorem Bytes.below (h : Bytes w B A n c l) (hb : Below B w w') : Bytes w' B A n c l := h.keep fun _ hp => hb.cell hp
/-- a slice that was there lies there behind a call -/
theorem Bytes.next (h : Bytes w w.heap.size A n c l) (hb : Below w.heap.size w w') : Bytes w' w'.heap.size A n c l := (h.below hb).more hb.size
theorem Bytes.drewN (h : Bytes w B A n c l) (k : Nat) : Bytes (w.drewN k) B A n c l := h
theorem Bytes.alloc (h : Bytes w B A n c l) (hB : B ≤ w.heap.size) (o : Obj) : Bytes (w.alloc o) B A n c l := h.keep fun p hp => World.cell?_alloc_lt w o p (by omega)
theorem add_none (b o j : Nat) : (⟨b, o, none⟩ : Addr).add j = ⟨b, o + j, none⟩ := by unfold Addr.add; split <;> simp_all
/-- as the library's laws on a source ask it -/
theorem Bytes.src (h : Bytes w B A n c l) : 0 < (l.map byteV).length → ∃ ad, A = some ad ∧ ∀ j v, (l.map byteV)[j]? = some v → w.cell? (ad.add j) = some v := by
  intro hl
  obtain ⟨b, o, e, _, hc⟩ := h.2.2.2 (by have := h.1; simp at hl; omega)
  refine ⟨_, e, fun j v hv => ?_⟩
  rw [List.getElem?_map, Option.map_eq_some_iff] at hv
  obtain ⟨u, hu, rfl⟩ := hv
  rw [add_none]
  exact hc j u hu
/-- what a call owns reads as bytes -/
theorem Bytes.of_own {base : Nat} {e : TypeId} {v : Value} {k : Nat} (h : w.ownsRow base e 1 v k (l.map byteV)) : ∃ A n c, v = .slice A n c ∧ Bytes w w.heap.size A n c l := by
  obtain ⟨hl, h2⟩ := h
  have hk : l.length = k := by simpa using hl
  rcases h2 with ⟨rfl, h0⟩ | ⟨g, cap, cur, rfl, _, hg, hnc, hm, hsz, htk⟩
  · have : l = [] := List.eq_nil_of_length_eq_zero (by omega)
    subst this
    exact ⟨none, 0, 0, rfl, Bytes.none_ _ _⟩
  · refine ⟨_, _, _, rfl, hk, hnc, hm, fun hn => ⟨g, 0, rfl, (Array.getElem?_eq_some_iff.1 hg).1, fun j u hu => ?_⟩⟩
    have hj : j < l.length := (List.getElem?_eq_some_iff.1 hu).1
    have hx := congrArg (·[j]?) htk
    simp only [List.getElem?_take, List.getElem?_map, hu, Option.map_some] at hx
    rw [if_pos (by omega)] at hx
    unfold World.cell?
    simp only [hg, Nat.zero_add]
    simpa using hx
theorem Bytes.len (h : Bytes w B A n c l) : l.length = n := h.1
theorem Bytes.at_ {k : Nat} (h : Bytes w B A n c l) (hk : k < n) : ∃ b o, A = some ⟨b, o, none⟩ ∧ b < B ∧ w.cell? ⟨b, o + k, none⟩ = some (byteV (l[k]'(by rw [h.1]; exact hk))) := by
  obtain ⟨b, o, e, hb, hc⟩ := h.2.2.2 (by omega)
  exact ⟨b, o, e, hb, hc k _ (List.getElem?_eq_getElem _)⟩
end

/-- the call hands back a slice that reads as l -/
def GivesBytes (w : World) (l : List UInt8) (e : Ending) (w' : World) : Prop := ∃ A n c, e = .returned (.slice A n c) ∧ Bytes w' w'.heap.size A n c l ∧ Below w.heap.size w w'
/-- a cell as a value -/
def RCell (w : World) (B : Nat) (v : Value) (c : Cell) : Prop :=
  ∃ A n cap, v = .agg #[.int .i64 c.kind, .slice A n cap, .int .i64 c.lo, .int .i64 c.hi, .int .i64 c.val] ∧ Bytes w B A n cap c.data ∧ In64 c.kind ∧ In64 c.lo ∧ In64 c.hi ∧ In64 c.val
theorem RCell.next {w w' : World} {v : Value} {c : Cell} (h : RCell w w.heap.size v c) (hb : Below w.heap.size w w') : RCell w' w'.heap.size v c := by
  obtain ⟨A, n, cap, e, hB, r⟩ := h
  exact ⟨A, n, cap, e, hB.next hb, r⟩
/-- an operation as a value -/
def ROp (w : World) (B : Nat) (v : Value) (x : OpX) : Prop :=
  ∃ A n cap, v = .agg #[.int .i64 x.act, .string x.key, .slice A n cap, .int .i64 x.lo, .int .i64 x.hi, .int .i64 x.n] ∧ Bytes w B A n cap x.data ∧ x.key.size ≤ maxLen ∧ In64 x.act ∧ In64 x.lo ∧ In64 x.hi ∧ In64 x.n
theorem ROp.next {w w' : World} {v : Value} {x : OpX} (h : ROp w w.heap.size v x) (hb : Below w.heap.size w w') : ROp w' w'.heap.size v x := by
  obtain ⟨A, n, cap, e, hB, r⟩ := h
  exact ⟨A, n, cap, e, hB.next hb, r⟩
end Go.Proofs.Ytldgdgfplgdipaa
